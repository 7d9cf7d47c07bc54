/- Sets: Ranges. -/
import Derived.Test.YtegeeofjebpgbaaDoorSsF
import Derived.Laws.Append
namespace Go.Proofs.YtegeeofjebpgbaaDoor
open Go Go.Mv
set_option maxHeartbeats 1000000
set_option maxRecDepth 10000
set_option linter.unusedVariables false
set_option linter.unusedSimpArgs false
attribute [local irreducible] FCalls IntKind.wrap bits Mem.set Mem.setCell Mem.setCells YCalls
def cellsR : List (Nat × Nat) → List Value
  | [] => []
  | r :: l => .int .i64 (r.1 : Int) :: .int .i64 (r.2 : Int) :: cellsR l
theorem cellsR_len : ∀ l, (cellsR l).length = l.length * 2
  | [] => rfl
  | r :: l => by simp only [cellsR, List.length_cons, cellsR_len l]; omega
theorem cellsR_app : ∀ l k, cellsR (l ++ k) = cellsR l ++ cellsR k
  | [], k => rfl
  | r :: l, k => by simp only [cellsR, List.cons_append, cellsR_app l k]
/-- One byte more. -/
def addR (rs : List (Nat × Nat)) (x : Nat) : List (Nat × Nat) :=
  match rs.getLast? with
  | some r => if r.2 + 1 = x then rs.dropLast ++ [(r.1, x)] else rs ++ [(x, x)]
  | none => [(x, x)]
def rangesOf (l : List Nat) : List (Nat × Nat) := l.foldl addR []
theorem rangesOf_snoc (l : List Nat) (x : Nat) : rangesOf (l ++ [x]) = addR (rangesOf l) x := by simp [rangesOf]
theorem addR_len (rs : List (Nat × Nat)) (x : Nat) : (addR rs x).length ≤ rs.length + 1 := by
  unfold addR
  split
  · split
    · simp
    · simp
  · simp
theorem rangesOf_len (l : List Nat) : (rangesOf l).length ≤ l.length := by
  have : ∀ (l : List Nat) (rs : List (Nat × Nat)), (l.foldl addR rs).length ≤ rs.length + l.length := by
    intro l
    induction l with
    | nil => intro rs; simp
    | cons x r ih =>
      intro rs
      simp only [List.foldl_cons, List.length_cons]
      have := ih (addR rs x)
      have := addR_len rs x
      omega
  have := this l []
  simpa [rangesOf] using this
structure RIn (m0 m : Mem) (b b3 e3 : Nat) (G : Nat → Nat) (rs : List (Nat × Nat)) (A : Option Addr) (c : Nat) : Prop where
  tz : Tz m
  set : SetIn m b G
  var : m b3 = some (.cells #[.slice A rs.length c] e3 (0, 0))
  sl : Sl m (fun k => m0 k = none ∧ k ≠ b ∧ k ≠ b3 ∧ k ≠ 0) A rs.length c 2 (cellsR rs)
  old : ∀ k o, m0 k = some o → m k = some o
theorem Tz.ne {m : Mem} {b : Nat} (h : Tz m) (hb : m b = none) : b ≠ 0 := by
  rintro rfl
  have := h 0 (by decide)
  simp [Mem.cell, hb] at this
theorem elems_nil {G : Nat → Nat} (h : W G = [0, 0, 0, 0]) : elems (has G) = [] := by
  have : ∀ k, k < 4 → G k = 0 := by
    intro k hk
    have h2 := W_at (G := G) hk
    rw [h] at h2
    have h3 : ([0, 0, 0, 0] : List Int).getD k 0 = 0 := by
      rcases k with _ | _ | _ | _ | k <;> first | rfl | omega
    omega
  unfold elems
  rw [List.filter_eq_nil_iff]
  intro b hb
  have hb := List.mem_range.1 hb
  unfold has
  rw [this (b / 64) (by omega), Nat.zero_testBit]
  simp
theorem snoc_cases (rs : List (Nat × Nat)) : rs = [] ∨ ∃ r0 lo hi, rs = r0 ++ [(lo, hi)] := by
  rcases List.eq_nil_or_concat rs with h | ⟨r0, ⟨lo, hi⟩, h⟩
  · exact .inl h
  · exact .inr ⟨r0, lo, hi, by rw [h, List.concat_eq_append]⟩
theorem elems_len (f : Nat → Bool) : (elems f).length ≤ 256 := by
  have := List.length_filter_le f (List.range 256)
  simpa [elems] using this
section
variable {m0 m : Mem} {b b3 e3 : Nat} {G : Nat → Nat} {rs : List (Nat × Nat)} {A : Option Addr} {c : Nat}
theorem RIn.ne3 (h : RIn m0 m b b3 e3 G rs A c) {k : Nat} (hk : m k = none) : k ≠ b3 := by
  rintro rfl
  rw [h.var] at hk
  cases hk
theorem RIn.neb (h : RIn m0 m b b3 e3 G rs A c) {k : Nat} (hk : m k = none) : k ≠ b := by
  rintro rfl
  have := h.set 0 (by decide)
  simp [Mem.cell, hk] at this
theorem RIn.new (h : RIn m0 m b b3 e3 G rs A c) {k : Nat} {o : Obj} (hk : m k = none) : RIn m0 (m.set k o) b b3 e3 G rs A c :=
  ⟨h.tz.set hk, h.set.set hk, by rw [Mem.set_ne (Ne.symm (h.ne3 hk))]; exact h.var, h.sl.keep fun i _ hi => Mem.set_ne (by rintro rfl; exact hi hk), fun i o' hi => by
    have h1 := h.old i o' hi
    rw [Mem.set_ne (by rintro rfl; rw [hk] at h1; cases h1)]
    exact h1⟩
theorem SetIn.same {m m' : Mem} {b : Nat} {G : Nat → Nat} (h : SetIn m b G) (hm : m' b = m b) : SetIn m' b G := by
  intro i hi
  have := h i hi
  unfold Mem.cell at this ⊢
  simp only at this ⊢
  rw [hm]
  exact this
theorem Tz.same {m m' : Mem} (h : Tz m) (hm : m' 0 = m 0) : Tz m' := by
  intro i hi
  have := h i hi
  unfold Mem.cell at this ⊢
  simp only at this ⊢
  rw [hm]
  exact this
/-- Another block of the list's own is written, and the variable. -/
theorem RIn.turn {m' : Mem} {rs' : List (Nat × Nat)} {A' : Option Addr} {c' : Nat} (h : RIn m0 m b b3 e3 G rs A c) (hb3 : b3 ≠ 0 ∧ m0 b3 = none ∧ b3 ≠ b)
    (hm : ∀ k, ¬ (m0 k = none ∧ k ≠ b ∧ k ≠ b3 ∧ k ≠ 0) → m' k = m k) (hs : Sl m' (fun k => m0 k = none ∧ k ≠ b ∧ k ≠ b3 ∧ k ≠ 0) A' rs'.length c' 2 (cellsR rs')) :
    RIn m0 (m'.setCell ⟨b3, 0, none⟩ (.slice A' rs'.length c')) b b3 e3 G rs' A' c' := by
  have h3 : m' b3 = some (.cells #[.slice A rs.length c] e3 (0, 0)) := by rw [hm b3 (by simp), h.var]
  refine ⟨?_, ?_, by simp [Mem.setCell, h3], hs.keep fun k hk _ => Mem.setCell_ne hk.2.2.1, fun k o hk => ?_⟩
  · exact h.tz.same (by rw [Mem.setCell_ne (Ne.symm hb3.1), hm 0 (by simp)])
  · exact h.set.same (by rw [Mem.setCell_ne (Ne.symm hb3.2.2), hm b (by simp)])
  · rw [Mem.setCell_ne (by rintro rfl; rw [hb3.2.1] at hk; cases hk), hm k (by rw [hk]; simp)]
    exact h.old k o hk
theorem RIn.var_ok (h : RIn m0 m b b3 e3 G rs A c) {m' : Mem} (hm : m' b3 = m b3) : (∃ u, m'.cell ⟨b3, 0, none⟩ = some u) ∧ m'.fz ⟨b3, 0, none⟩ = false := by
  have hB : Blk m' b3 [.slice A rs.length c] := ⟨e3, by rw [hm]; exact h.var⟩
  exact ⟨⟨_, hB.cell (i := 0) rfl⟩, hB.fz⟩
theorem RIn.app_put {x : Nat} (h : RIn m0 m b b3 e3 G rs A c) (hb3 : b3 ≠ 0 ∧ m0 b3 = none ∧ b3 ≠ b) (hle : rs.length + 1 ≤ c) : ∃ bk, A = some ⟨bk, 0, none⟩ ∧ m.room ⟨bk, rs.length * 2, none⟩ (1 * 2) ∧
    ((∃ u, (m.setCells ⟨bk, rs.length * 2, none⟩ 0 [Value.int .i64 (x : Int), Value.int .i64 (x : Int)]).cell ⟨b3, 0, none⟩ = some u) ∧ (m.setCells ⟨bk, rs.length * 2, none⟩ 0 [Value.int .i64 (x : Int), Value.int .i64 (x : Int)]).fz ⟨b3, 0, none⟩ = false) ∧
    RIn m0 ((m.setCells ⟨bk, rs.length * 2, none⟩ 0 [Value.int .i64 (x : Int), Value.int .i64 (x : Int)]).setCell ⟨b3, 0, none⟩ (.slice A (rs.length + 1) c)) b b3 e3 G (rs ++ [(x, x)]) A c := by
  obtain ⟨bk, hA, hF, hroom, hsl, hoth⟩ := h.sl.put (news := [Value.int .i64 (x : Int), Value.int .i64 (x : Int)]) (j := 1) rfl hle (by omega)
  refine ⟨bk, hA, hroom, h.var_ok (hoth b3 (Ne.symm hF.2.2.1)), ?_⟩
  have e1 : (rs ++ [(x, x)]).length = rs.length + 1 := by simp
  have := h.turn (rs' := rs ++ [(x, x)]) (A' := A) (c' := c) hb3 (fun k hk => hoth k fun he => hk (he ▸ hF)) (by rw [e1, cellsR_app]; exact hsl)
  rw [e1] at this
  exact this
theorem RIn.app_grow {x nb cap : Nat} {zs : List Value} {e : Nat} (h : RIn m0 m b b3 e3 G rs A c) (hb3 : b3 ≠ 0 ∧ m0 b3 = none ∧ b3 ≠ b) (hcap : rs.length + 1 ≤ cap) (hn : m nb = none) (hz : zs.length = (cap - (rs.length + 1)) * 2) :
    ((∃ u, (m.set nb (.cells (cellsR rs ++ [Value.int .i64 (x : Int), Value.int .i64 (x : Int)] ++ zs).toArray e (0, 0))).cell ⟨b3, 0, none⟩ = some u) ∧ (m.set nb (.cells (cellsR rs ++ [Value.int .i64 (x : Int), Value.int .i64 (x : Int)] ++ zs).toArray e (0, 0))).fz ⟨b3, 0, none⟩ = false) ∧
    RIn m0 ((m.set nb (.cells (cellsR rs ++ [Value.int .i64 (x : Int), Value.int .i64 (x : Int)] ++ zs).toArray e (0, 0))).setCell ⟨b3, 0, none⟩ (.slice (some ⟨nb, 0, none⟩) (rs.length + 1) cap)) b b3 e3 G (rs ++ [(x, x)]) (some ⟨nb, 0, none⟩) cap := by
  have hF : m0 nb = none ∧ nb ≠ b ∧ nb ≠ b3 ∧ nb ≠ 0 := by
    refine ⟨?_, h.neb hn, h.ne3 hn, h.tz.ne hn⟩
    cases hm : m0 nb with
    | none => rfl
    | some o => rw [h.old nb o hm] at hn; cases hn
  have hsl := h.sl.grow (news := [Value.int .i64 (x : Int), Value.int .i64 (x : Int)]) (j := 1) (e := e) rfl hcap hF hz
  refine ⟨h.var_ok (Mem.set_ne (Ne.symm hF.2.2.1)), ?_⟩
  have e1 : (rs ++ [(x, x)]).length = rs.length + 1 := by simp
  have := h.turn (rs' := rs ++ [(x, x)]) (A' := some ⟨nb, 0, none⟩) (c' := cap) hb3 (fun k hk => Mem.set_ne fun he => hk (he ▸ hF)) (by rw [e1, cellsR_app]; exact hsl)
  rw [e1] at this
  exact this
theorem RIn.over {r0 : List (Nat × Nat)} {lo hi x bk : Nat} (h : RIn m0 m b b3 e3 G (r0 ++ [(lo, hi)]) A c) (hA : A = some ⟨bk, 0, none⟩) : ((∃ u, m.cell ⟨bk, r0.length * 2 + 1, none⟩ = some u) ∧ m.fz ⟨bk, r0.length * 2 + 1, none⟩ = false) ∧
    RIn m0 (m.setCell ⟨bk, r0.length * 2 + 1, none⟩ (.int .i64 (x : Int))) b b3 e3 G (r0 ++ [(lo, x)]) A c := by
  obtain ⟨bk', hA', hF, hc, hz, hs, ho⟩ := h.sl.over (k := r0.length * 2 + 1) (.int .i64 (x : Int)) (by rw [cellsR_len]; simp; omega)
  rw [hA] at hA'
  cases hA'
  refine ⟨⟨hc, hz⟩, h.tz.same (ho 0 (Ne.symm hF.2.2.2)), h.set.same (ho b (Ne.symm hF.2.1)), ?_, ?_, fun k o hk => ?_⟩
  · rw [ho b3 (Ne.symm hF.2.2.1), h.var]
    simp
  · have e1 : (cellsR (r0 ++ [(lo, hi)])).set (r0.length * 2 + 1) (.int .i64 (x : Int)) = cellsR (r0 ++ [(lo, x)]) := by
      rw [cellsR_app, cellsR_app, List.set_append_right _ _ (by rw [cellsR_len]; omega), cellsR_len]
      rw [show r0.length * 2 + 1 - r0.length * 2 = 1 by omega]
      rfl
    rw [e1] at hs
    have e2 : (r0 ++ [(lo, x)]).length = (r0 ++ [(lo, hi)]).length := by simp
    rw [e2]
    exact hs
  · rw [ho k (by rintro rfl; rw [hF.1] at hk; cases hk)]
    exact h.old k o hk
theorem zeros40 (n : Nat) : (zerosOf tbl 40 n).list.length = n * 2 := by
  show ((List.range n).flatMap fun _ => [Value.int .i64 0, Value.int .i64 0]).length = n * 2
  induction n with
  | zero => rfl
  | succ n ih =>
    rw [List.range_succ, List.flatMap_append, List.length_append, ih]
    show n * 2 + 2 = _
    omega
theorem cap40 {n c : Nat} (h : c < n + 1) (hn : n ≤ 256) : Builtin.nextslicecap (n + 1) c * (tbl.at 40).bytes ≤ 2 ^ 48 := by
  have := nextslicecap_le h
  show _ * 16 ≤ 2 ^ 48
  omega
theorem ext_at (bk n : Nat) : (⟨bk, 0, none⟩ : Addr).add (n * (tbl.at 40).size) = ⟨bk, n * 2, none⟩ := by
  rw [add_mk, Nat.zero_add]
  rfl
end
theorem ranges_c {m : Mem} {G : Nat → Nat} (hT : Tz m) (h : WOk G) : FCalls Tryd.prog 17 [wv G] m fun v m' => ∃ A c, v = .slice A (rangesOf (elems (has G))).length c ∧
    Sl m' (fun k => m k = none) A (rangesOf (elems (has G))).length c 2 (cellsR (rangesOf (elems (has G)))) ∧ ∀ k o, m k = some o → m' k = some o := by
  refine fcalls_of_vc (T := tbl) (B := bodies) (pr := [1]) (DR := dr17) (args := [.ints .u64 (W G)]) tbl_ok bodies_ok mixed Tryd.func17 rfl (by decide +kernel) (by simp [Tryd.f17]) rfl ?_
  (conv => whnf)
  intro b3 hb3
  have hold3 : ∀ o k o', m k = some o' → (m.set b3 o) k = some o' := fun o k o' hk => by
    rw [Mem.set_ne (by rintro rfl; rw [hb3] at hk; cases hk)]
    exact hk
  have hB3 : ∀ l : List Value, Blk (m.set b3 (.cells l.toArray 36 (0, 0))) b3 l := fun l => ⟨36, by simp [Mem.set]⟩
  (conv => whnf)
  refine ⟨rfl, W_len.symm, ?_⟩
  (conv => whnf)
  refine ⟨W_len, rfl, ?_⟩
  (conv => whnf)
  refine brk_intro (fun h1 => ?_) (fun h1 => ?_)
  · have h1 : W G = [0, 0, 0, 0] := by simpa using h1
    (conv => whnf)
    refine ⟨none, 0, 0, (hB3 [.slice none 0 0]).cell (i := 0) rfl, ?_⟩
    (conv => whnf)
    have he := elems_nil h1
    refine ⟨none, 0, by rw [he]; rfl, by rw [he]; exact Sl.nil, hold3 _⟩
  · (conv => whnf)
    refine ⟨rfl, W_len.symm, ?_⟩
    (conv => whnf)
    refine FCalls.mono all_c fun v m' ⟨b, e, hb, hv, hm⟩ => ?_
    subst hv hm
    have hne : b ≠ b3 := by
      rintro rfl
      simp [Mem.set] at hb
    have hbm : m b = none := by rwa [Mem.set_ne hne] at hb
    (conv => whnf)
    refine range_iter (all_iter h b) (fun m l o hl hI => ⟨hI.1.set hl, hI.2.set hl⟩) (fun i vs hx => ?_) (fun i m' => ∃ A c, RIn m m' b b3 36 G (rangesOf ((elems (has G)).take i)) A c) ?_ (fun i m' ⟨A, c, hR⟩ => ⟨hR.tz, hR.set⟩) (fun i vs m1 hx hJ => ?_) (fun m1 hJ => ?_)
    · rw [List.getElem?_map] at hx
      obtain ⟨x, _, rfl⟩ := Option.map_eq_some_iff.1 hx
      rfl
    · refine ⟨none, 0, (hT.set hb3).set hb, SetIn.new, ?_, Sl.nil, fun k o hk => ?_⟩
      · rw [Mem.set_ne (Ne.symm hne)]
        simp [Mem.set]
        rfl
      · rw [Mem.set_ne (by rintro rfl; rw [hbm] at hk; cases hk)]
        exact hold3 _ k o hk
    · rw [List.getElem?_map] at hx
      obtain ⟨x, hx', rfl⟩ := Option.map_eq_some_iff.1 hx
      obtain ⟨A, c, hR⟩ := hJ
      have hx256 := (elems_mem.1 (List.mem_of_getElem? hx')).1
      have htake : (elems (has G)).take (i + 1) = (elems (has G)).take i ++ [x] := by rw [List.take_add_one, hx']; rfl
      rw [htake, rangesOf_snoc]
      have hrl : (rangesOf ((elems (has G)).take i)).length ≤ 256 := Nat.le_trans (rangesOf_len _) (Nat.le_trans (by simp; omega) (elems_len (has G)))
      generalize rangesOf ((elems (has G)).take i) = rs at *
      (conv => whnf)
      have hvar : m1.cell ⟨b3, 0, none⟩ = some (.slice A rs.length c) := Blk.cell (l := [.slice A rs.length c]) ⟨36, hR.var⟩ (i := 0) rfl
      have hb3' : b3 ≠ 0 ∧ m b3 = none ∧ b3 ≠ b := ⟨hT.ne hb3, hb3, Ne.symm hne⟩
      refine ⟨A, rs.length, c, hvar, ?_⟩
      rcases snoc_cases rs with rfl | ⟨r0, lo, hi, rfl⟩
      · have hadd : addR [] x = [] ++ [(x, x)] := rfl
        rw [hadd]
        (conv => whnf)
        refine ⟨A, _, c, hvar, ?_⟩
        (conv => whnf)
        intro nb hnb
        have hM : ∀ o, (m1.set nb o) nb = some o := fun o => by simp [Mem.set]
        (conv => whnf)
        have hR2 := hR.new (o := .cells [.int .i64 (x : Int), .int .i64 (x : Int)].toArray 40 (0, 0)) hnb
        refine ⟨[.int .i64 (x : Int), .int .i64 (x : Int)], rfl, .inr ⟨_, rfl, fun k v hv => ?_⟩, fun hle => ?_, fun hlt => ?_⟩
        · rw [add_mk, Nat.zero_add]
          exact Blk.cell (l := [.int .i64 (x : Int), .int .i64 (x : Int)]) ⟨40, hM _⟩ hv
        · obtain ⟨bk, hA, hroom, hvar2, hR3⟩ := hR2.app_put (x := x) hb3' hle
          refine .inl ⟨_, hA, ?_, rfl, ?_⟩
          · rw [ext_at bk]
            exact hroom
          · (conv => whnf)
            refine ⟨?_, ?_⟩
            · rw [ext_at bk]
              exact hvar2
            · (conv => whnf)
              rw [ext_at bk]
              exact ⟨A, c, hR3⟩
        · refine ⟨?_, cellsR _, cellsR_len _, hR2.sl.olds, fun cap nb2 hcap hnb2 => ?_⟩
          · exact cap40 hlt hrl
          · have hR3 := hR2.app_grow (x := x) (e := 40) (zs := (zerosOf tbl 40 (cap - (([] : List (Nat × Nat)).length + 1))).list) hb3' hcap hnb2 ?_
            · (conv => whnf)
              refine ⟨hR3.1, ?_⟩
              (conv => whnf)
              exact ⟨_, _, hR3.2⟩
            · exact zeros40 _
      · have hn : 0 < (r0 ++ [(lo, hi)]).length := by simp
        have hlen : (r0 ++ [(lo, hi)]).length = r0.length + 1 := by simp
        have e1 : decide ((((r0 ++ [(lo, hi)]).length : Nat) : Int) > 0) = true := decide_eq_true (by omega)
        have e2 : IntKind.i64.wrap ((((r0 ++ [(lo, hi)]).length : Nat) : Int) - 1) = ((r0.length : Nat) : Int) := by rw [wrap_id (by omega) (by omega)]; omega
        have e3 : IntKind.i64.wrap ((x : Int) - 1) = (x : Int) - 1 := wrap_id (by omega) (by omega)
        (conv => whnf)
        refine brk_true (by rw [e1]; rfl) ?_
        (conv => whnf)
        refine ⟨A, _, c, hvar, ?_⟩
        (conv => whnf)
        obtain ⟨bk, hA, hF, hcell, _⟩ := hR.sl.cell (k := r0.length * 2 + 1) (v := .int .i64 (hi : Int)) (by rw [cellsR_app, List.getElem?_append_right (by rw [cellsR_len]; omega), cellsR_len]; simp [cellsR])
        refine ⟨_, hA, by rw [e2]; omega, by rw [e2]; omega, ?_⟩
        (conv => whnf)
        have e4 : (((⟨bk, 0, none⟩ : Addr).add ((IntKind.i64.wrap ((((r0 ++ [(lo, hi)]).length : Nat) : Int) - 1)).toNat * (tbl.at 40).size)).add 1) = ⟨bk, r0.length * 2 + 1, none⟩ := by
          rw [e2, add_mk, add_mk]
          show (⟨bk, 0 + ((r0.length : Nat) : Int).toNat * 2 + 1, none⟩ : Addr) = _
          congr 1
          omega
        refine ⟨_, by rw [e4, hcell], ?_⟩
        (conv => whnf)
        refine brk_intro (fun h5 => ?_) (fun h5 => ?_)
        · rw [e3] at h5
          have h5 : (hi : Int) = x - 1 := by simpa using h5
          have hadd : addR (r0 ++ [(lo, hi)]) x = r0 ++ [(lo, x)] := by
            unfold addR
            simp
            omega
          rw [hadd]
          (conv => whnf)
          refine ⟨A, _, c, hvar, ?_⟩
          (conv => whnf)
          refine ⟨_, hA, by rw [e2]; omega, by rw [e2]; omega, ?_⟩
          (conv => whnf)
          obtain ⟨hov, hR3⟩ := hR.over (x := x) hA
          refine ⟨by rw [e4]; exact hov, ?_⟩
          (conv => whnf)
          rw [e4]
          exact ⟨A, c, hR3⟩
        · rw [e3] at h5
          have h5 : ¬ (hi : Int) = x - 1 := by simpa using h5
          have hadd : addR (r0 ++ [(lo, hi)]) x = (r0 ++ [(lo, hi)]) ++ [(x, x)] := by
            unfold addR
            simp
            omega
          rw [hadd]
          (conv => whnf)
          refine ⟨A, _, c, hvar, ?_⟩
          (conv => whnf)
          intro nb hnb
          have hM : ∀ o, (m1.set nb o) nb = some o := fun o => by simp [Mem.set]
          (conv => whnf)
          have hR2 := hR.new (o := .cells [.int .i64 (x : Int), .int .i64 (x : Int)].toArray 40 (0, 0)) hnb
          refine ⟨[.int .i64 (x : Int), .int .i64 (x : Int)], rfl, .inr ⟨_, rfl, fun k v hv => ?_⟩, fun hle => ?_, fun hlt => ?_⟩
          · rw [add_mk, Nat.zero_add]
            exact Blk.cell (l := [.int .i64 (x : Int), .int .i64 (x : Int)]) ⟨40, hM _⟩ hv
          · obtain ⟨bk, hA, hroom, hvar2, hR3⟩ := hR2.app_put (x := x) hb3' hle
            refine .inl ⟨_, hA, ?_, rfl, ?_⟩
            · rw [ext_at bk]
              exact hroom
            · (conv => whnf)
              refine ⟨?_, ?_⟩
              · rw [ext_at bk]
                exact hvar2
              · (conv => whnf)
                rw [ext_at bk]
                exact ⟨A, c, hR3⟩
          · refine ⟨?_, cellsR _, cellsR_len _, hR2.sl.olds, fun cap nb2 hcap hnb2 => ?_⟩
            · exact cap40 hlt hrl
            · have hR3 := hR2.app_grow (x := x) (e := 40) (zs := (zerosOf tbl 40 (cap - ((r0 ++ [(lo, hi)]).length + 1))).list) hb3' hcap hnb2 ?_
              · (conv => whnf)
                refine ⟨hR3.1, ?_⟩
                (conv => whnf)
                exact ⟨_, _, hR3.2⟩
              · exact zeros40 _
    · obtain ⟨A, c, hR⟩ := hJ
      rw [show ((elems (has G)).map fun x => [Value.int .i64 ((x : Nat) : Int)]).length = (elems (has G)).length by simp, List.take_length] at hR
      have hvar : m1.cell ⟨b3, 0, none⟩ = some (.slice A (rangesOf (elems (has G))).length c) := Blk.cell (l := [.slice A (rangesOf (elems (has G))).length c]) ⟨36, hR.var⟩ (i := 0) rfl
      (conv => whnf)
      refine ⟨A, _, c, hvar, ?_⟩
      (conv => whnf)
      exact ⟨A, c, rfl, hR.sl.mono fun k hk => hk.1, hR.old⟩
end Go.Proofs.YtegeeofjebpgbaaDoor
