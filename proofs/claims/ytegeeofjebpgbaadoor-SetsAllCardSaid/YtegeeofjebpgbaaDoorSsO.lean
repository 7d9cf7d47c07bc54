/- Sets: the document's Ranges. -/
import Derived.Test.YtegeeofjebpgbaaDoorSsN
namespace Go.Proofs.YtegeeofjebpgbaaDoor
open Go Go.Mv
set_option maxHeartbeats 1000000
set_option maxRecDepth 10000
set_option linter.unusedVariables false
set_option linter.unusedSimpArgs false
attribute [local irreducible] FCalls IntKind.wrap bits Mem.set Mem.setCell Mem.setCells YCalls
theorem cellsR_over (r0 : List (Nat × Nat)) (lo hi x : Nat) : (cellsR (r0 ++ [(lo, hi)])).set (r0.length * 2 + 1) (.int .i64 (x : Int)) = cellsR (r0 ++ [(lo, x)]) := by
  rw [cellsR_app, cellsR_app, List.set_append_right _ _ (by rw [cellsR_len]; omega), cellsR_len]
  rw [show r0.length * 2 + 1 - r0.length * 2 = 1 by omega]
  rfl
/-- What is being built: own blocks; all that was stays. -/
structure Bld (m1 M : Mem) (A : Option Addr) (c : Nat) (rs : List (Nat × Nat)) : Prop where
  sl : Sl M (fun k => m1 k = none) A rs.length c 2 (cellsR rs)
  old : ∀ k o, m1 k = some o → M k = some o
theorem Bld.new {m1 M : Mem} {A : Option Addr} {c nb : Nat} {rs : List (Nat × Nat)} {o : Obj} (h : Bld m1 M A c rs) (hn : M nb = none) : Bld m1 (M.set nb o) A c rs :=
  ⟨h.sl.keep fun b _ hb => Mem.set_ne (by rintro rfl; exact hb hn), old_set h.old hn⟩
theorem Bld.put {m1 M : Mem} {A : Option Addr} {c x : Nat} {rs : List (Nat × Nat)} (h : Bld m1 M A c rs) (hle : rs.length + 1 ≤ c) : ∃ bk, A = some ⟨bk, 0, none⟩ ∧ M.room ⟨bk, rs.length * 2, none⟩ (1 * 2) ∧ Bld m1 (M.setCells ⟨bk, rs.length * 2, none⟩ 0 [.int .i64 (x : Int), .int .i64 (x : Int)]) A c (rs ++ [(x, x)]) := by
  obtain ⟨bk, hA, hF, hroom, hsl, hoth⟩ := h.sl.put (news := [.int .i64 (x : Int), .int .i64 (x : Int)]) (j := 1) rfl hle (by omega)
  refine ⟨bk, hA, hroom, ⟨?_, fun k o hk => ?_⟩⟩
  · rw [cellsR_app, List.length_append]
    exact hsl
  · exact (hoth k (by rintro rfl; rw [hF] at hk; cases hk)).trans (h.old k o hk)
theorem Bld.grow {m1 M : Mem} {A : Option Addr} {c x nb cap e : Nat} {rs : List (Nat × Nat)} {zs : List Value} (h : Bld m1 M A c rs) (hcap : rs.length + 1 ≤ cap) (hn : M nb = none) (hz : zs.length = (cap - (rs.length + 1)) * 2) :
    Bld m1 (M.set nb (.cells (cellsR rs ++ [Value.int .i64 (x : Int), Value.int .i64 (x : Int)] ++ zs).toArray e (0, 0))) (some ⟨nb, 0, none⟩) cap (rs ++ [(x, x)]) := by
  have hF : m1 nb = none := by
    cases hm : m1 nb with
    | none => rfl
    | some o => exact (Option.some_ne_none o ((h.old nb o hm).symm.trans hn)).elim
  refine ⟨?_, old_set h.old hn⟩
  rw [cellsR_app, List.length_append]
  exact h.sl.grow (news := [.int .i64 (x : Int), .int .i64 (x : Int)]) (j := 1) (e := e) rfl hcap hF hz
theorem Bld.over {m1 M : Mem} {A : Option Addr} {c lo hi x : Nat} {r0 : List (Nat × Nat)} (h : Bld m1 M A c (r0 ++ [(lo, hi)])) : ∃ bk, A = some ⟨bk, 0, none⟩ ∧ ((∃ u, M.cell ⟨bk, r0.length * 2 + 1, none⟩ = some u) ∧ M.fz ⟨bk, r0.length * 2 + 1, none⟩ = false) ∧
    M.cell ⟨bk, r0.length * 2 + 1, none⟩ = some (.int .i64 (hi : Int)) ∧ Bld m1 (M.setCell ⟨bk, r0.length * 2 + 1, none⟩ (.int .i64 (x : Int))) A c (r0 ++ [(lo, x)]) := by
  have hlt : r0.length * 2 + 1 < (cellsR (r0 ++ [(lo, hi)])).length := by rw [cellsR_len]; simp; omega
  obtain ⟨bk, hA, hF, hc, hz, hs, ho⟩ := h.sl.over (.int .i64 (x : Int)) hlt
  obtain ⟨bk', hA', _, hcell, _⟩ := h.sl.cell (k := r0.length * 2 + 1) (v := .int .i64 (hi : Int)) (by rw [cellsR_app, List.getElem?_append_right (by rw [cellsR_len]; omega), cellsR_len]; simp [cellsR])
  rw [hA] at hA'
  cases hA'
  refine ⟨bk, hA, ⟨hc, hz⟩, hcell, ⟨?_, fun k o hk => ?_⟩⟩
  · rw [cellsR_over] at hs
    have e2 : (r0 ++ [(lo, x)]).length = (r0 ++ [(lo, hi)]).length := by simp
    rw [e2]
    exact hs
  · exact (ho k (by rintro rfl; rw [hF] at hk; cases hk)).trans (h.old k o hk)
theorem cov_bound (l : List Nat) (hl : ∀ y, y ∈ l → y < 256) : ∀ r, r ∈ rangesOf l → r.2 < 256 := by
  have : ∀ (l : List Nat) (rs : List (Nat × Nat)), (∀ y, y ∈ l → y < 256) → (∀ r, r ∈ rs → r.2 < 256) → ∀ r, r ∈ l.foldl addR rs → r.2 < 256 := by
    intro l
    induction l with
    | nil => exact fun rs _ h => h
    | cons x t ih =>
      intro rs hl h
      refine ih (addR rs x) (fun y hy => hl y (List.mem_cons_of_mem _ hy)) fun r hr => ?_
      have hx := hl x List.mem_cons_self
      unfold addR at hr
      split at hr
      · split at hr
        · rcases List.mem_append.1 hr with hr | hr
          · exact h r (List.dropLast_subset _ hr)
          · rw [List.mem_singleton] at hr; subst hr; exact hx
        · rcases List.mem_append.1 hr with hr | hr
          · exact h r hr
          · rw [List.mem_singleton] at hr; subst hr; exact hx
      · rw [List.mem_singleton] at hr; subst hr; exact hx
  exact this l [] hl (fun _ h => absurd h List.not_mem_nil)
theorem rranges_c {m : Mem} {G : Nat → Nat} (h : WOk G) : FCalls Tryd.prog 16 [wv G] m fun v m' => ∃ A c, v = .slice A (rangesOf (elems (has G))).length c ∧
    Sl m' (fun k => m k = none) A (rangesOf (elems (has G))).length c 2 (cellsR (rangesOf (elems (has G)))) ∧ ∀ k o, m k = some o → m' k = some o := by
  refine fcalls_of_vc (T := tbl) (B := bodies) (pr := [1]) (DR := dr16) (args := [.ints .u64 (W G)]) tbl_ok bodies_ok mixed Tryd.func16 rfl (by decide +kernel) (by simp [Tryd.f16]) rfl ?_
  (conv => whnf)
  refine ⟨rfl, W_len.symm, ?_⟩
  (conv => whnf)
  refine FCalls.mono (list_c h) fun v m1 ⟨Al, cl, h2, hL, hold1⟩ => ?_
  subst h2
  have hl256 := elems_len (has G)
  have hmem : ∀ x, x ∈ elems (has G) → x < 256 := fun x hx => (elems_mem.1 hx).1
  generalize elems (has G) = l at *
  (conv => whnf)
  refine loop_keep [4] (Nat × Option Addr × Nat × Mem) (fun s => [(5, .v (.int .i64 s.1)), (3, .v (.slice s.2.1 (rangesOf (l.take s.1)).length s.2.2.1))]) (fun _ => [.ints .u64 (W G)]) (fun s => s.2.2.2)
    (fun s => s.1 ≤ l.length ∧ Bld m1 s.2.2.2 s.2.1 s.2.2.1 (rangesOf (l.take s.1))) (fun s => l.length - s.1) (0, none, 0, m1) ⟨rfl, rfl, trivial⟩ rfl rfl ⟨by simp only; omega, Sl.nil, fun _ _ h => h⟩ ?_
  (conv => whnf)
  refine ⟨rfl, fun s hs => ?_⟩
  obtain ⟨i, A, c, M⟩ := s
  obtain ⟨hi, hS⟩ := hs
  simp only at hi hS
  (conv => whnf)
  refine brk_intro (fun h1 => ?_) (fun h1 => ?_)
  · have h1 : (i : Int) < l.length := by simpa using h1
    have hi' : i < l.length := by omega
    obtain ⟨x, hx⟩ : ∃ x, l[i]? = some x := ⟨_, List.getElem?_eq_getElem hi'⟩
    have hx256 := hmem x (List.mem_of_getElem? hx)
    have htake : l.take (i + 1) = l.take i ++ [x] := by rw [List.take_add_one, hx]; rfl
    have hrl : (rangesOf (l.take i)).length ≤ 256 := Nat.le_trans (rangesOf_len _) (by simp; omega)
    have hsnoc : rangesOf (l.take (i + 1)) = addR (rangesOf (l.take i)) x := by rw [htake, rangesOf_snoc]
    have hLM := hL.keep (m' := M) fun b _ hb => by
      cases hm : m1 b with
      | none => exact absurd hm hb
      | some o => exact hS.old b o hm
    obtain ⟨bl, hAl, _, hxc, _⟩ := hLM.cell (k := i) (v := .int .i64 (x : Int)) (by simp [cellsN, hx])
    have eal : ((⟨bl, 0, none⟩ : Addr).add ((i : Int).toNat * (tbl.at 3).size)) = ⟨bl, i, none⟩ := by
      rw [add_mk, Nat.zero_add]
      show (⟨bl, (i : Int).toNat * 1, none⟩ : Addr) = _
      rw [show (i : Int).toNat * 1 = i by omega]
    have hstep : IntKind.i64.wrap ((i : Int) + 1) = ((i + 1 : Nat) : Int) := by rw [wrap_id (by omega) (by omega)]; omega
    have hnext : ∀ (E : Env) (A' : Option Addr) (c' : Nat) (M' : Mem) (n' : Nat), Bld m1 M' A' c' (rangesOf (l.take (i + 1))) → True := fun _ _ _ _ _ _ => trivial
    generalize hrs : rangesOf (l.take i) = rs at *
    (conv => whnf)
    rcases snoc_cases rs with rfl | ⟨r0, lo, hi, rfl⟩
    · have hadd : addR [] x = [] ++ [(x, x)] := rfl
      rw [hadd] at hsnoc
      (conv => whnf)
      refine ⟨_, hAl, by omega, h1, ?_⟩
      (conv => whnf)
      refine ⟨_, by rw [eal, hxc], ?_⟩
      (conv => whnf)
      refine ⟨_, hAl, by omega, h1, ?_⟩
      (conv => whnf)
      refine ⟨_, by rw [eal, hxc], ?_⟩
      (conv => whnf)
      intro nb hnb
      have hM : ∀ o, (M.set nb o) nb = some o := fun o => by simp [Mem.set]
      have hS2 := hS.new (o := .cells [.int .i64 (x : Int), .int .i64 (x : Int)].toArray 40 (0, 0)) hnb
      (conv => whnf)
      refine ⟨[.int .i64 (x : Int), .int .i64 (x : Int)], rfl, .inr ⟨_, rfl, fun k v hv => ?_⟩, fun hle => ?_, fun hlt => ?_⟩
      · rw [add_mk, Nat.zero_add]
        exact Blk.cell (l := [.int .i64 (x : Int), .int .i64 (x : Int)]) ⟨40, hM _⟩ hv
      · obtain ⟨bq, hAq, hroomq, hS3⟩ := hS2.put (x := x) hle
        refine .inl ⟨_, hAq, ?_, rfl, ?_⟩
        · rw [ext_at bq]
          exact hroomq
        · (conv => whnf)
          refine ⟨(i + 1, A, c, _), le_eq ⟨by show some (AV.v (.int .i64 (IntKind.i64.wrap ((i : Int) + 1)))) = _; rw [hstep], by show some (AV.v (.slice A (([] : List (Nat × Nat)).length + 1) c)) = some (AV.v (.slice A (rangesOf (l.take (i + 1))).length c)); rw [hsnoc]; simp, rfl, trivial⟩ rfl rfl (by rw [ext_at bq]), ⟨by simp only; omega, ?_⟩, by simp only; omega⟩
          show Bld m1 _ A c (rangesOf (l.take (i + 1)))
          rw [hsnoc]
          exact hS3
      · refine ⟨cap40 (n := ([] : List (Nat × Nat)).length) hlt hrl, cellsR _, cellsR_len _, hS2.sl.olds, fun cap nb2 hcap hnb2 => ?_⟩
        have hS3 := hS2.grow (x := x) (e := 40) (zs := (zerosOf tbl 40 (cap - (([] : List (Nat × Nat)).length + 1))).list) hcap hnb2 (zeros40 _)
        (conv => whnf)
        refine ⟨(i + 1, some ⟨nb2, 0, none⟩, cap, _), le_eq ⟨by show some (AV.v (.int .i64 (IntKind.i64.wrap ((i : Int) + 1)))) = _; rw [hstep], by show some (AV.v (.slice _ (([] : List (Nat × Nat)).length + 1) cap)) = some (AV.v (.slice _ (rangesOf (l.take (i + 1))).length cap)); rw [hsnoc]; simp, rfl, trivial⟩ rfl rfl rfl, ⟨by simp only; omega, ?_⟩, by simp only; omega⟩
        show Bld m1 _ _ cap (rangesOf (l.take (i + 1)))
        rw [hsnoc]
        exact hS3
    · have hn : 0 < (r0 ++ [(lo, hi)]).length := by simp
      have hlen : (r0 ++ [(lo, hi)]).length = r0.length + 1 := by simp
      have e1 : decide ((((r0 ++ [(lo, hi)]).length : Nat) : Int) > 0) = true := decide_eq_true (by omega)
      have e2 : IntKind.i64.wrap ((((r0 ++ [(lo, hi)]).length : Nat) : Int) - 1) = ((r0.length : Nat) : Int) := by rw [wrap_id (by omega) (by omega)]; omega
      obtain ⟨bk, hA, hroom, hcell, hov⟩ := hS.over (x := x)
      have hlh : hi ≤ 256 := by
        have hc := cov_bound (l.take i) (fun y hy => hmem y (List.mem_of_mem_take hy))
        rw [hrs] at hc
        have := hc (lo, hi) (by simp)
        simp only at this
        omega
      have e3 : IntKind.i64.wrap ((hi : Int) + 1) = (hi : Int) + 1 := wrap_id (by omega) (by omega)
      (conv => whnf)
      refine brk_true (by rw [e1]; rfl) ?_
      (conv => whnf)
      refine ⟨_, hA, by rw [e2]; omega, by rw [e2]; omega, ?_⟩
      (conv => whnf)
      have e4 : (((⟨bk, 0, none⟩ : Addr).add ((IntKind.i64.wrap ((((r0 ++ [(lo, hi)]).length : Nat) : Int) - 1)).toNat * (tbl.at 40).size)).add 1) = ⟨bk, r0.length * 2 + 1, none⟩ := by
        rw [e2, add_mk, add_mk]
        show (⟨bk, 0 + ((r0.length : Nat) : Int).toNat * 2 + 1, none⟩ : Addr) = _
        congr 1
        omega
      refine ⟨_, by rw [e4, hcell], ?_⟩
      (conv => whnf)
      refine ⟨_, hAl, by omega, h1, ?_⟩
      (conv => whnf)
      refine ⟨_, by rw [eal, hxc], ?_⟩
      (conv => whnf)
      refine brk_intro (fun h5 => ?_) (fun h5 => ?_)
      · rw [e3] at h5
        have h5 : (hi : Int) + 1 = x := by simpa using h5
        have hadd : addR (r0 ++ [(lo, hi)]) x = r0 ++ [(lo, x)] := by
          unfold addR
          simp
          omega
        rw [hadd] at hsnoc
        (conv => whnf)
        refine ⟨_, hAl, by omega, h1, ?_⟩
        (conv => whnf)
        refine ⟨_, by rw [eal, hxc], ?_⟩
        (conv => whnf)
        refine ⟨_, hA, by rw [e2]; omega, by rw [e2]; omega, ?_⟩
        (conv => whnf)
        refine ⟨by rw [e4]; exact hroom, ?_⟩
        (conv => whnf)
        refine ⟨(i + 1, A, c, _), le_eq ⟨by show some (AV.v (.int .i64 (IntKind.i64.wrap ((i : Int) + 1)))) = _; rw [hstep], by show some (AV.v (.slice A (r0 ++ [(lo, hi)]).length c)) = some (AV.v (.slice A (rangesOf (l.take (i + 1))).length c)); rw [hsnoc]; simp, rfl, trivial⟩ rfl rfl (by rw [e4]), ⟨by simp only; omega, ?_⟩, by simp only; omega⟩
        show Bld m1 _ A c (rangesOf (l.take (i + 1)))
        rw [hsnoc]
        exact hov
      · rw [e3] at h5
        have h5 : ¬ (hi : Int) + 1 = x := by simpa using h5
        have hadd : addR (r0 ++ [(lo, hi)]) x = (r0 ++ [(lo, hi)]) ++ [(x, x)] := by
          unfold addR
          simp
          omega
        rw [hadd] at hsnoc
        (conv => whnf)
        refine ⟨_, hAl, by omega, h1, ?_⟩
        (conv => whnf)
        refine ⟨_, by rw [eal, hxc], ?_⟩
        (conv => whnf)
        refine ⟨_, hAl, by omega, h1, ?_⟩
        (conv => whnf)
        refine ⟨_, by rw [eal, hxc], ?_⟩
        (conv => whnf)
        intro nb hnb
        have hM : ∀ o, (M.set nb o) nb = some o := fun o => by simp [Mem.set]
        have hS2 := hS.new (o := .cells [.int .i64 (x : Int), .int .i64 (x : Int)].toArray 40 (0, 0)) hnb
        (conv => whnf)
        refine ⟨[.int .i64 (x : Int), .int .i64 (x : Int)], rfl, .inr ⟨_, rfl, fun k v hv => ?_⟩, fun hle => ?_, fun hlt => ?_⟩
        · rw [add_mk, Nat.zero_add]
          exact Blk.cell (l := [.int .i64 (x : Int), .int .i64 (x : Int)]) ⟨40, hM _⟩ hv
        · obtain ⟨bq, hAq, hroomq, hS3⟩ := hS2.put (x := x) hle
          refine .inl ⟨_, hAq, ?_, rfl, ?_⟩
          · rw [ext_at bq]
            exact hroomq
          · (conv => whnf)
            refine ⟨(i + 1, A, c, _), le_eq ⟨by show some (AV.v (.int .i64 (IntKind.i64.wrap ((i : Int) + 1)))) = _; rw [hstep], by show some (AV.v (.slice A ((r0 ++ [(lo, hi)]).length + 1) c)) = some (AV.v (.slice A (rangesOf (l.take (i + 1))).length c)); rw [hsnoc]; simp, rfl, trivial⟩ rfl rfl (by rw [ext_at bq]), ⟨by simp only; omega, ?_⟩, by simp only; omega⟩
            show Bld m1 _ A c (rangesOf (l.take (i + 1)))
            rw [hsnoc]
            exact hS3
        · refine ⟨cap40 (n := (r0 ++ [(lo, hi)]).length) hlt hrl, cellsR _, cellsR_len _, hS2.sl.olds, fun cap nb2 hcap hnb2 => ?_⟩
          have hS3 := hS2.grow (x := x) (e := 40) (zs := (zerosOf tbl 40 (cap - ((r0 ++ [(lo, hi)]).length + 1))).list) hcap hnb2 (zeros40 _)
          (conv => whnf)
          refine ⟨(i + 1, some ⟨nb2, 0, none⟩, cap, _), le_eq ⟨by show some (AV.v (.int .i64 (IntKind.i64.wrap ((i : Int) + 1)))) = _; rw [hstep], by show some (AV.v (.slice _ ((r0 ++ [(lo, hi)]).length + 1) cap)) = some (AV.v (.slice _ (rangesOf (l.take (i + 1))).length cap)); rw [hsnoc]; simp, rfl, trivial⟩ rfl rfl rfl, ⟨by simp only; omega, ?_⟩, by simp only; omega⟩
          show Bld m1 _ _ cap (rangesOf (l.take (i + 1)))
          rw [hsnoc]
          exact hS3
  · have h1 : ¬ ((i : Int) < l.length) := by simpa using h1
    have h1 : i = l.length := by omega
    subst h1
    rw [List.take_length] at hS
    rw [List.take_length]
    (conv => whnf)
    exact ⟨A, c, rfl, hS.sl.mono fun k hk => by
      cases hm : m k with
      | none => rfl
      | some o => exact (Option.some_ne_none o ((hold1 k o hm).symm.trans hk)).elim, fun k o hk => hS.old k o (hold1 k o hk)⟩
end Go.Proofs.YtegeeofjebpgbaaDoor
