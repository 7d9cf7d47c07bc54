/- SetsWalk: Next, gone on from, tells what All tells. -/
import Derived.Test.YtegeeofjebpgbaaDoorSsH
namespace Go.Proofs.YtegeeofjebpgbaaDoor
open Go Go.Mv
set_option maxHeartbeats 1000000
set_option maxRecDepth 10000
set_option linter.unusedVariables false
set_option linter.unusedSimpArgs false
attribute [local irreducible] FCalls IntKind.wrap bits Mem.set Mem.setCell Mem.setCells YCalls
def fromAt (f : Nat → Bool) : Nat → Int
  | 0 => -3
  | i + 1 => match (elems f)[i]? with
    | some b => (b : Int) + 1
    | none => 0
theorem next_from {f : Nat → Bool} {i : Nat} (h : i ≤ (elems f).length) : NextIs f (fromAt f i) (elems f)[i]? := by
  cases i with
  | zero => exact next_at fun j x _ => by simp only [fromAt]; omega
  | succ i =>
    have hi : i < (elems f).length := by omega
    have := next_behind (List.getElem?_eq_getElem hi)
    simp only [fromAt, List.getElem?_eq_getElem hi] at this ⊢
    exact this
theorem fromAt_le {f : Nat → Bool} {i : Nat} : fromAt f i ≤ 256 ∧ -3 ≤ fromAt f i := by
  cases i with
  | zero => simp [fromAt]
  | succ i =>
    simp only [fromAt]
    split
    · rename_i b hb
      have := (elems_mem.1 (List.mem_of_getElem? hb)).1
      omega
    · omega
theorem Tz.more {m m' : Mem} (h : Tz m) (hm : ∀ k o, m k = some o → m' k = some o) : Tz m' := by
  refine h.same ?_
  cases h0 : m 0 with
  | some o => rw [hm 0 o h0]
  | none => exact absurd rfl (h.ne h0)
theorem SetIn.of {m : Mem} {b : Nat} {G : Nat → Nat} (h : Blk m b (intCells .u64 (W G))) : SetIn m b G := by
  intro i hi
  refine h.cell ?_
  simp [intCells, List.getD, hi]
def LW (b1 b2 bb b5 b6 : Nat) (G : Nat → Nat) (i : Nat) : List (Nat × List Value) := [(b6, [.int .i64 (fromAt (has G) i)]), (b5, [.int .i64 (i : Int)]), (bb, intCells .u64 (W G)), (b2, [.bool false]), (b1, intCells .u64 (W G))]
theorem walk_c {m : Mem} {G : Nat → Nat} (hT : Tz m) (h : WOk G) : FCalls Tryd.prog 3 [wv G] m fun v m' => v = .bool true ∧ ∀ k o, m k = some o → m' k = some o := by
  refine fcalls_of_vc (T := tbl) (B := bodies) (pr := []) (DR := dr3) (args := [.ints .u64 (W G)]) tbl_ok bodies_ok mixed Tryd.func3 rfl (by decide +kernel) (by simp [Tryd.f3]) rfl ?_
  (conv => whnf)
  intro b1 hb1
  have o1 := (Own.nil (m := m)).new (l := intCells .u64 (W G)) (e := 24) hb1
  (conv => whnf)
  intro b2 hb2
  have o2 := o1.new (l := [.bool false]) (e := 4) hb2
  (conv => whnf)
  refine FCalls.mono (examples_c (hT.more o2.old)) fun v m' ⟨h1, h2⟩ => ?_
  subst h1 h2
  (conv => whnf)
  refine ⟨W G, W_len, (SetIn.of (o2.at 1 rfl)).ld, ?_⟩
  (conv => whnf)
  refine FCalls.mono all_c fun v m' ⟨bb, e, hbb, hv, hm⟩ => ?_
  subst hv hm
  have ob := o2.new (l := intCells .u64 (W G)) (e := e) hbb
  (conv => whnf)
  intro b5 hb5
  have o5 := ob.new (l := [.int .i64 0]) (e := 3) hb5
  (conv => whnf)
  refine ⟨o5.room 0 rfl (i := 0) rfl, ?_⟩
  have o5' := o5.put 0 (i := 0) (.int .i64 0) rfl
  (conv => whnf)
  intro b6 hb6
  have o6 := o5'.new (l := [.int .i64 0]) (e := 3) hb6
  (conv => whnf)
  refine ⟨o6.room 0 rfl (i := 0) rfl, ?_⟩
  have o7 : Own m _ (LW b1 b2 bb b5 b6 G 0) := o6.put 0 (i := 0) (.int .i64 (-3)) rfl
  (conv => whnf)
  refine range_iter (all_iter h bb) (fun m l o hl hI => ⟨hI.1.set hl, hI.2.set hl⟩) (fun i vs hx => ?_) (fun i m' => Own m m' (LW b1 b2 bb b5 b6 G i)) o7 (fun i m' hO => ⟨hT.more hO.old, SetIn.of (hO.at 2 rfl)⟩) (fun i vs m1 hx hO => ?_) (fun m1 hO => ?_)
  · rw [List.getElem?_map] at hx
    obtain ⟨x, _, rfl⟩ := Option.map_eq_some_iff.1 hx
    rfl
  · rw [List.getElem?_map] at hx
    obtain ⟨x, hx', rfl⟩ := Option.map_eq_some_iff.1 hx
    have hx256 := elems_mem.1 (List.mem_of_getElem? hx')
    have hlt := (List.getElem?_eq_some_iff.1 hx').1
    have hf := fromAt_le (f := has G) (i := i)
    (conv => whnf)
    refine ⟨W G, W_len, (SetIn.of (hO.at 4 rfl)).ld, ?_⟩
    (conv => whnf)
    refine ⟨_, hO.cell 0 rfl (i := 0) rfl, ?_⟩
    (conv => whnf)
    refine FCalls.mono (next_c (hT.more hO.old) h (by omega)) fun v m' ⟨h1, r, h2, h3⟩ => ?_
    subst h1 h3
    have hr := h2.eq (next_from (by omega))
    rw [hx'] at hr
    subst hr
    have exx : ((x : Int) == (x : Int)) = true := beq_self_eq_true _
    (conv => whnf)
    refine brk_true (by simp) ?_
    (conv => whnf)
    refine ⟨W G, W_len, (SetIn.of (hO.at 4 rfl)).ld, ?_⟩
    (conv => whnf)
    refine FCalls.mono (has_c h) fun v m' ⟨h5, h6⟩ => ?_
    have e1 : (decide ((0 : Int) ≤ (x : Int) ∧ (x : Int) < 256) && has G (x : Int).toNat) = true := by
      rw [decide_eq_true (by omega), show (x : Int).toNat = x by omega, hx256.2]
      rfl
    rw [e1] at h5
    subst h5 h6
    have c1 : decide ((x : Int) < 0) = false := decide_eq_false (by omega)
    have c2 : decide ((x : Int) > 255) = false := decide_eq_false (by omega)
    (conv => whnf)
    refine brk_false (by rw [c2]; rfl) ?_
    (conv => whnf)
    have e2 : IntKind.i64.wrap ((x : Int) + 1) = fromAt (has G) (i + 1) := by
      rw [wrap_id (by omega) (by omega)]
      simp only [fromAt, hx']
    rw [e2]
    refine ⟨hO.room 0 rfl (i := 0) rfl, ?_⟩
    have hO2 := hO.put 0 (i := 0) (.int .i64 (fromAt (has G) (i + 1))) rfl
    (conv => whnf)
    refine ⟨_, hO2.cell 1 rfl (i := 0) rfl, ?_⟩
    (conv => whnf)
    refine ⟨hO2.room 1 rfl (i := 0) rfl, ?_⟩
    have hil : i < 256 := Nat.lt_of_lt_of_le hlt (elems_len _)
    have e3 : IntKind.i64.wrap ((i : Int) + 1) = ((i + 1 : Nat) : Int) := by rw [wrap_id (by omega) (by omega)]; omega
    have hO3 := hO2.put 1 (i := 0) (.int .i64 ((i + 1 : Nat) : Int)) rfl
    (conv => whnf)
    rw [e3]
    exact hO3
  · have hlen : (List.map (fun x => [Value.int IntKind.i64 ((x : Nat) : Int)]) (elems (has G))).length = (elems (has G)).length := by simp
    rw [hlen] at hO
    have hf := fromAt_le (f := has G) (i := (elems (has G)).length)
    (conv => whnf)
    refine ⟨W G, W_len, (SetIn.of (hO.at 4 rfl)).ld, ?_⟩
    (conv => whnf)
    refine ⟨_, hO.cell 0 rfl (i := 0) rfl, ?_⟩
    (conv => whnf)
    refine FCalls.mono (next_c (hT.more hO.old) h (by omega)) fun v m' ⟨h1, r, h2, h3⟩ => ?_
    subst h1 h3
    have hr := h2.eq (next_from (Nat.le_refl _))
    rw [List.getElem?_eq_none (Nat.le_refl _)] at hr
    subst hr
    (conv => whnf)
    refine ⟨_, hO.cell 1 rfl (i := 0) rfl, ?_⟩
    (conv => whnf)
    refine ⟨W G, W_len, (SetIn.of (hO.at 4 rfl)).ld, ?_⟩
    (conv => whnf)
    refine ⟨_, (count_c h), ?_⟩
    (conv => whnf)
    refine ⟨hO.room 3 rfl (i := 0) rfl, ?_⟩
    have e9 : ((((elems (has G)).length : Nat) : Int) == ((cnt (has G) 256 : Nat) : Int)) = true := by rw [cnt_elems]; exact beq_self_eq_true _
    rw [e9]
    have hO4 := hO.put 3 (i := 0) (.bool true) rfl
    (conv => whnf)
    refine ⟨_, hO4.cell 3 rfl (i := 0) rfl, ?_⟩
    (conv => whnf)
    exact ⟨rfl, hO4.old⟩
end Go.Proofs.YtegeeofjebpgbaaDoor
