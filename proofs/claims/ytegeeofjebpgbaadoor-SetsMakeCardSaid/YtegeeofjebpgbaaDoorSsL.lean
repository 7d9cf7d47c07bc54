/- Sets: the document's List, Count; SetsBytes. -/
import Derived.Test.YtegeeofjebpgbaaDoorSsEach
namespace Go.Proofs.YtegeeofjebpgbaaDoor
open Go Go.Mv
set_option maxHeartbeats 1000000
set_option maxRecDepth 10000
set_option linter.unusedVariables false
set_option linter.unusedSimpArgs false
attribute [local irreducible] FCalls IntKind.wrap bits Mem.set Mem.setCell Mem.setCells YCalls
def elemsTo (f : Nat → Bool) (n : Nat) : List Nat := (List.range n).filter f
def cellsN (l : List Nat) : List Value := l.map fun x => .int .i64 ((x : Nat) : Int)
theorem cellsN_len (l : List Nat) : (cellsN l).length = l.length * 1 := by simp [cellsN]
theorem elemsTo_len (f : Nat → Bool) (n : Nat) : (elemsTo f n).length ≤ n := by
  have := List.length_filter_le f (List.range n)
  simpa [elemsTo] using this
theorem elemsTo_succ (f : Nat → Bool) (n : Nat) : elemsTo f (n + 1) = elemsTo f n ++ (bif f n then [n] else []) := by
  unfold elemsTo
  rw [List.range_succ, List.filter_append]
  cases h : f n <;> simp [h]
theorem cap3 {n c : Nat} (h : c < n + 1) (hn : n ≤ 256) : Builtin.nextslicecap (n + 1) c * (tbl.at 3).bytes ≤ 2 ^ 48 := by
  have := nextslicecap_le h
  show _ * 8 ≤ 2 ^ 48
  omega
theorem zeros3 (n : Nat) : (zerosOf tbl 3 n).list.length = n * 1 := by
  show (intCells .i64 (List.replicate n 0)).length = n * 1
  simp [intCells]
theorem ext3 (bk n : Nat) : (⟨bk, 0, none⟩ : Addr).add (n * (tbl.at 3).size) = ⟨bk, n * 1, none⟩ := by
  rw [add_mk, Nat.zero_add]
  rfl
theorem old_set {m m' : Mem} {b : Nat} {o : Obj} (h : ∀ k o, m k = some o → m' k = some o) (hb : m' b = none) : ∀ k o', m k = some o' → (m'.set b o) k = some o' := by
  intro k o' hk
  have := h k o' hk
  rw [Mem.set_ne (by rintro rfl; rw [hb] at this; cases this)]
  exact this
theorem list_c {m : Mem} {G : Nat → Nat} (h : WOk G) : FCalls Tryd.prog 15 [wv G] m fun v m' => ∃ A c, v = .slice A (elems (has G)).length c ∧ Sl m' (fun k => m k = none) A (elems (has G)).length c 1 (cellsN (elems (has G))) ∧ ∀ k o, m k = some o → m' k = some o := by
  refine fcalls_of_vc (T := tbl) (B := bodies) (pr := [1]) (DR := dr15) (args := [.ints .u64 (W G)]) tbl_ok bodies_ok mixed Tryd.func15 rfl (by decide +kernel) (by simp [Tryd.f15]) rfl ?_
  (conv => whnf)
  refine loop_keep [1] (Nat × Option Addr × Nat × Mem) (fun s => [(4, .v (.int .i64 s.1)), (3, .v (.slice s.2.1 (elemsTo (has G) s.1).length s.2.2.1))]) (fun _ => [.ints .u64 (W G)]) (fun s => s.2.2.2)
    (fun s => s.1 ≤ 256 ∧ Sl s.2.2.2 (fun k => m k = none) s.2.1 (elemsTo (has G) s.1).length s.2.2.1 1 (cellsN (elemsTo (has G) s.1)) ∧ ∀ k o, m k = some o → s.2.2.2 k = some o) (fun s => 256 - s.1) (0, none, 0, m) ⟨rfl, rfl, trivial⟩ rfl rfl ⟨by simp only; omega, Sl.nil, fun _ _ h => h⟩ ?_
  (conv => whnf)
  refine ⟨rfl, fun s hs => ?_⟩
  obtain ⟨i, A, c, M⟩ := s
  obtain ⟨hi, hS, hold⟩ := hs
  simp only at hi hS hold
  (conv => whnf)
  refine brk_intro (fun h1 => ?_) (fun h1 => ?_)
  · have h1 : (i : Int) < 256 := by simpa using h1
    have hi' : i < 256 := by omega
    have hlen := elemsTo_len (has G) i
    (conv => whnf)
    refine ⟨rfl, W_len.symm, ?_⟩
    (conv => whnf)
    refine FCalls.mono (in_c h (by omega) h1) fun v m' ⟨h2, h3⟩ => ?_
    rw [show ((i : Int)).toNat = i by omega] at h2
    subst h2 h3
    (conv => whnf)
    have hsucc := elemsTo_succ (has G) i
    refine brk_intro (fun h4 => ?_) (fun h4 => ?_)
    · rw [h4] at hsucc
      have hsucc : elemsTo (has G) (i + 1) = elemsTo (has G) i ++ [i] := hsucc
      have hcs : cellsN (elemsTo (has G) (i + 1)) = cellsN (elemsTo (has G) i) ++ [.int .i64 (i : Int)] := by rw [hsucc]; simp [cellsN]
      have hln : (elemsTo (has G) (i + 1)).length = (elemsTo (has G) i).length + 1 := by rw [hsucc]; simp
      (conv => whnf)
      intro nb hnb
      have hM : ∀ o, (m'.set nb o) nb = some o := fun o => by simp [Mem.set]
      have hS2 := hS.keep (m' := m'.set nb (.cells [.int .i64 (i : Int)].toArray 3 (0, 0))) fun b _ hb => Mem.set_ne (by rintro rfl; exact hb hnb)
      have hold2 := old_set (o := .cells [.int .i64 (i : Int)].toArray 3 (0, 0)) hold hnb
      (conv => whnf)
      refine ⟨[.int .i64 (i : Int)], rfl, .inr ⟨_, rfl, fun k v hv => ?_⟩, fun hle => ?_, fun hlt => ?_⟩
      · rw [add_mk, Nat.zero_add]
        exact Blk.cell (l := [.int .i64 (i : Int)]) ⟨3, hM _⟩ hv
      · obtain ⟨bk, hA, hF, hroom, hsl, hoth⟩ := hS2.put (news := [.int .i64 (i : Int)]) (j := 1) rfl hle (by omega)
        refine .inl ⟨_, hA, ?_, rfl, ?_⟩
        · rw [ext3]
          exact hroom
        · (conv => whnf)
          refine ⟨(i + 1, A, c, _), le_eq ⟨by show some (AV.v (.int .i64 (IntKind.i64.wrap ((i : Int) + 1)))) = _; rw [step256 i hi'], by show some (AV.v (.slice A ((elemsTo (has G) i).length + 1) c)) = some (AV.v (.slice A (elemsTo (has G) (i + 1)).length c)); rw [hln], rfl, trivial⟩ rfl rfl (by rw [ext3]), ⟨by simp only; omega, ?_, fun k o hk => ?_⟩, by simp only; omega⟩
          · show Sl _ _ A (elemsTo (has G) (i + 1)).length c 1 (cellsN (elemsTo (has G) (i + 1)))
            rw [hcs, hln]
            exact hsl
          · exact (hoth k (by rintro rfl; rw [hF] at hk; cases hk)).trans (hold2 k o hk)
      · refine ⟨cap3 (n := (elemsTo (has G) i).length) hlt (by omega), cellsN _, cellsN_len _, hS2.olds, fun cap nb2 hcap hnb2 => ?_⟩
        have hF : m nb2 = none := by
          cases hm : m nb2 with
          | none => rfl
          | some o => exact (Option.some_ne_none o ((hold2 nb2 o hm).symm.trans hnb2)).elim
        have hsl := hS2.grow (news := [.int .i64 (i : Int)]) (j := 1) (e := 3) (zs := (zerosOf tbl 3 (cap - ((elemsTo (has G) i).length + 1))).list) rfl hcap hF (zeros3 _)
        (conv => whnf)
        refine ⟨(i + 1, some ⟨nb2, 0, none⟩, cap, _), le_eq ⟨by show some (AV.v (.int .i64 (IntKind.i64.wrap ((i : Int) + 1)))) = _; rw [step256 i hi'], by show some (AV.v (.slice _ ((elemsTo (has G) i).length + 1) cap)) = some (AV.v (.slice _ (elemsTo (has G) (i + 1)).length cap)); rw [hln], rfl, trivial⟩ rfl rfl rfl, ⟨by simp only; omega, ?_, fun k o hk => ?_⟩, by simp only; omega⟩
        · show Sl _ _ _ (elemsTo (has G) (i + 1)).length cap 1 (cellsN (elemsTo (has G) (i + 1)))
          rw [hcs, hln]
          exact hsl
        · exact old_set hold2 hnb2 k o hk
    · rw [h4] at hsucc
      have hsucc : elemsTo (has G) (i + 1) = elemsTo (has G) i := by rw [hsucc]; exact List.append_nil _
      (conv => whnf)
      refine ⟨(i + 1, A, c, m'), le_eq ⟨by show some (AV.v (.int .i64 (IntKind.i64.wrap ((i : Int) + 1)))) = _; rw [step256 i hi'], by show some (AV.v (.slice A (elemsTo (has G) i).length c)) = some (AV.v (.slice A (elemsTo (has G) (i + 1)).length c)); rw [hsucc], rfl, trivial⟩ rfl rfl rfl, ⟨by simp only; omega, ?_, hold⟩, by simp only; omega⟩
      show Sl _ _ A (elemsTo (has G) (i + 1)).length c 1 (cellsN (elemsTo (has G) (i + 1)))
      rw [hsucc]
      exact hS
  · have h1 : ¬ ((i : Int) < 256) := by simpa using h1
    have h1 : i = 256 := by omega
    subst h1
    (conv => whnf)
    exact ⟨A, c, rfl, hS, hold⟩
theorem rcount_c {m : Mem} {G : Nat → Nat} (h : WOk G) : FCalls Tryd.prog 35 [wv G] m fun v m' => v = .int .i64 ((cnt (has G) 256 : Nat) : Int) ∧ m' = m := by
  refine FCalls.less ?_
  refine fcalls_of_vc (T := tbl) (B := bodies) (pr := [1]) (DR := dr35) (args := [.ints .u64 (W G)]) tbl_ok bodies_ok mixed Tryd.func35 rfl (by decide +kernel) (by simp [Tryd.f35]) rfl ?_
  (conv => whnf)
  refine ⟨rfl, W_len.symm, ?_⟩
  (conv => whnf)
  refine FCalls.mono (list_c h) fun v m' ⟨A, c, h2, h3, h4⟩ => ?_
  subst h2
  (conv => whnf)
  exact ⟨m, h4, by rw [cnt_elems]; rfl, rfl⟩
theorem bytesLaw_c {m : Mem} {G : Nat → Nat} {b : Int} (hT : Tz m) (h : WOk G) (hb : b ≤ 9223372036854775807) : FCalls Tryd.prog 7 [wv G, .int .i64 b] m fun v m' => v = .bool true ∧ m' = m := by
  refine fcalls_of_vc (T := tbl) (B := bodies) (pr := [2]) (DR := dr7) (args := [.ints .u64 (W G), .v (.int .i64 b)]) tbl_ok bodies_ok mixed Tryd.func7 rfl (by decide +kernel) (by simp [Tryd.f7]) rfl ?_
  have e0 : ∀ x : Bool, (x == x) = true := fun x => beq_self_eq_true x
  have e1 : (W (if 0 ≤ b ∧ b < 256 then with' G b.toNat else G) == W (laidG (withF (has G) b true) 256)) = true := eqL (withI_ok h) fun c hc => by
    have := withI_has (G := G) (b := b) (c := (c : Int))
    rw [decide_eq_true (show (0 : Int) ≤ (c : Int) ∧ (c : Int) < 256 by omega), Bool.true_and, Bool.true_and, show ((c : Int)).toNat = c by omega] at this
    rw [this]
    unfold withF
    split
    · rename_i he; rw [decide_eq_true he.symm, Bool.or_true]
    · rename_i he; rw [decide_eq_false (fun h => he h.symm), Bool.or_false]
  have e2 : (W (if 0 ≤ b ∧ b < 256 then without' G b.toNat else G) == W (laidG (withF (has G) b false) 256)) = true := eqL (withoutI_ok h) fun c hc => by
    have := withoutI_has (G := G) (b := b) (c := (c : Int))
    rw [decide_eq_true (show (0 : Int) ≤ (c : Int) ∧ (c : Int) < 256 by omega), Bool.true_and, Bool.true_and, show ((c : Int)).toNat = c by omega] at this
    rw [this]
    unfold withF
    split
    · rename_i he; rw [decide_eq_true he.symm, Bool.not_true, Bool.and_false]
    · rename_i he; rw [decide_eq_false (fun h => he h.symm), Bool.not_false, Bool.and_true]
  (conv => whnf)
  refine FCalls.mono (examples_c hT) fun v m' ⟨h1, h2⟩ => ?_
  subst h1 h2
  (conv => whnf)
  refine ⟨rfl, W_len.symm, ?_⟩
  (conv => whnf)
  refine FCalls.mono (next_c hT h hb) fun v m' ⟨h1, r, h2, h3⟩ => ?_
  subst h1 h3
  have tail : True := trivial
  cases r
  all_goals
    (conv => whnf)
    refine ⟨rfl, W_len.symm, ?_⟩
    (conv => whnf)
    refine FCalls.mono (rnext_c h hb) fun v m' ⟨h4, q, h5, h6⟩ => ?_
    have hq := h5.eq h2
    subst h4 hq h6
    (conv => whnf)
    refine ⟨rfl, W_len.symm, ?_⟩
    (conv => whnf)
    refine ⟨_, has_c h, ?_⟩
    (conv => whnf)
    refine ⟨rfl, W_len.symm, ?_⟩
    (conv => whnf)
    refine ⟨_, rhas_c h, ?_⟩
    (conv => whnf)
    refine brk_true (by rw [e0]; rfl) ?_
    (conv => whnf)
    refine ⟨rfl, W_len.symm, ?_⟩
    (conv => whnf)
    refine ⟨_, with_c h, ?_⟩
    (conv => whnf)
    refine ⟨_, W_len, rfl, ?_⟩
    (conv => whnf)
    refine ⟨rfl, W_len.symm, ?_⟩
    (conv => whnf)
    refine ⟨_, FCalls.det (rwith_c h), ?_⟩
    (conv => whnf)
    refine ⟨_, W_len, rfl, ?_⟩
    (conv => whnf)
    refine ⟨W_len, W_len, ?_⟩
    (conv => whnf)
    refine brk_true (by rw [e1]; rfl) ?_
    (conv => whnf)
    refine ⟨rfl, W_len.symm, ?_⟩
    (conv => whnf)
    refine ⟨_, without_c h, ?_⟩
    (conv => whnf)
    refine ⟨_, W_len, rfl, ?_⟩
    (conv => whnf)
    refine ⟨rfl, W_len.symm, ?_⟩
    (conv => whnf)
    refine ⟨_, FCalls.det (rwithout_c h), ?_⟩
    (conv => whnf)
    refine ⟨_, W_len, rfl, ?_⟩
    (conv => whnf)
    refine ⟨W_len, W_len, ?_⟩
    (conv => whnf)
    refine brk_true (by rw [e2]; rfl) ?_
    (conv => whnf)
    refine ⟨rfl, W_len.symm, ?_⟩
    (conv => whnf)
    refine ⟨_, count_c h, ?_⟩
    (conv => whnf)
    refine ⟨rfl, W_len.symm, ?_⟩
    (conv => whnf)
    refine ⟨_, rcount_c h, ?_⟩
    (conv => whnf)
    refine brk_true (by rw [beq_self_eq_true]; rfl) ?_
    (conv => whnf)
    first
      | exact ⟨rfl, rfl⟩
      | (refine brk_true (by rw [beq_self_eq_true]; rfl) ?_
         (conv => whnf)
         exact ⟨rfl, rfl⟩)
end Go.Proofs.YtegeeofjebpgbaaDoor
