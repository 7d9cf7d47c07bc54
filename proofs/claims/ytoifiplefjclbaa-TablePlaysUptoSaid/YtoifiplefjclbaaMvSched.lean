/- Mv: a region that draws its order: an operation that may be taken first. -/
import Derived.Test.YtoifiplefjclbaaMvFloat
namespace Go.Mv
open Go
section
variable {P : Program} {ops : Array Oper} {r : Option Nat} {Q : Exit → Act → World → Prop} {tm : Oper → Bool}
def ExtW (w w' : World) : Prop := w' = w ∨ ∃ o, w' = w.alloc o
/-- Any order; a tame operation turns nothing, or makes one block. -/
def wpAnyS (P : Program) (r : Option Nat) (ops : Array Oper) (Q : Exit → Act → World → Prop) (tm : Oper → Bool) : Nat → Array Bool → Act → World → Prop
  | 0, listed, a, w => Region.ready .any ops listed = [] ∧ Q .normal a w
  | f + 1, listed, a, w => (Region.ready .any ops listed = [] → Q .normal a w) ∧ ∀ i ∈ Region.ready .any ops listed,
      wpOpIn (Fr r) 0 P ops Q i (fun a' w' => (∀ o, ops[i]? = some o → tm o = true → ExtW w w') ∧ wpAnyS P r ops Q tm f (listed.setIfInBounds i true) a' w') a w
theorem wpAnyS.any : ∀ {f : Nat} {listed : Array Bool} {a : Act} {w : World}, wpAnyS P r ops Q tm f listed a w → wpAnyIn (Fr r) 0 P .any ops Q f listed a w
  | 0, _, _, _, h => h
  | _ + 1, _, _, _, h => ⟨h.1, fun i hi => wpOpIn_mono (fun _ _ h' => wpAnyS.any h'.2) (h.2 i hi)⟩
/-- One value, in every world of C. -/
def YV (P : Program) (ops : Array Oper) (C : World → Prop) (o : Oper) (v : Value) (a : Act) : Prop :=
  (Region.wanted o (yielded ops a.tmps) = true ∧ ∀ w, C w → (execOp a.eval o).run P w = .ok (.value v) w) ∨ (Region.wanted o (yielded ops a.tmps) = false ∧ v = undef)
theorem YV.same {C : World → Prop} {o : Oper} {v : Value} {a a' : Act} (hy : YV P ops C o v a) (he : execOp a'.eval o = execOp a.eval o) (hw : Region.wanted o (yielded ops a'.tmps) = Region.wanted o (yielded ops a.tmps)) : YV P ops C o v a' := by
  unfold YV at *
  rw [he, hw]
  exact hy
theorem YV.op {C : World → Prop} {i : Nat} {o : Oper} {v : Value} {a : Act} {w : World} (hi : ops[i]? = some o) (hnd : ∀ c, o.op ≠ .defer c) (hy : YV P ops C o v a) (hC : C w) {K : Act → World → Prop} (h : K (a.put o.dst v) w) : wpOpIn (Fr r) 0 P ops Q i K a w := by
  unfold wpOpIn
  simp only [hi]
  rcases hy with ⟨hw, hv⟩ | ⟨hw, rfl⟩
  · rw [if_pos hw]
    refine ⟨fun f _ => trivial, ?_⟩
    rw [Oper.semAt_eq _ _ _ hnd, hv w hC]
    exact h
  · rw [if_neg (by simp [hw])]
    exact ⟨fun f _ => trivial, h⟩
theorem commute {C : World → Prop} {j : Nat} {oi oj : Oper} {v : Value} (hj : ops[j]? = some oj) (hap : oi.apart ops oj = true)
    (hsi : ∀ cs b, oi.op ≠ .select cs b) (hsj : ∀ cs b, oj.op ≠ .select cs b) (hdj : ∀ c, oj.op ≠ .defer c)
    (hQ : ∀ c a w, ¬ Q (.panic c) a w) {K : Act → World → Prop} {a : Act} {w : World}
    (hy : YV P ops C oi v a) (h : wpOpIn (Fr r) 0 P ops Q j K (a.put oi.dst v) w) :
    wpOpIn (Fr r) 0 P ops Q j (fun a' w' => YV P ops C oi v a' ∧ K (a'.put oi.dst v) w') a w := by
  obtain ⟨h1, h2, h3⟩ := Oper.apart_spec hap
  have keep : ∀ (a : Act), YV P ops C oi v a → ∀ u, YV P ops C oi v (a.put oj.dst u) := fun a hy u =>
    hy.same (execOp_put oi hsi a oj.dst u h3) (wanted_put oi a oj.dst u h3)
  unfold wpOpIn at *
  simp only [hj] at *
  rw [wanted_put oj a oi.dst v h1] at h
  split
  · rename_i hw
    simp only [hw, if_true] at h
    unfold Oper.wpIn at *
    refine ⟨fun f _ => trivial, ?_⟩
    have h := h.2
    rw [Oper.semAt_eq _ _ _ hdj, execOp_put oj hsj a oi.dst v h1] at h
    rw [Oper.semAt_eq _ _ _ hdj]
    generalize (execOp a.eval oj).run P w = q at *
    cases q with
    | ok x w' =>
      cases x <;> simp only [Oper.uponIn] at h ⊢
      case value u => exact ⟨keep a hy u, by rw [← Act.put_comm a v u h2]; exact h⟩
      case skip => exact ⟨keep a hy _, by rw [← Act.put_comm a v undef h2]; exact h⟩
      case defer d =>
        refine ⟨hy.same (a' := { a with defers := d :: a.defers }.put oj.dst undef) (execOp_put oi hsi { a with defers := d :: a.defers } oj.dst undef h3) (wanted_put oi { a with defers := d :: a.defers } oj.dst undef h3), ?_⟩
        rw [← Act.put_comm _ v undef h2, ← Act.put_defers]
        exact h
      case enter f args =>
        refine ⟨h.1, CallsIn.mono h.2 fun e w'' he => ?_⟩
        cases e with
        | returned u => exact ⟨keep a hy u, by rw [← Act.put_comm a v u h2]; exact he⟩
        | panicked c => exact absurd he (hQ _ _ _)
        | outgrown => exact he
      case row row args => exact ⟨h.1, RowsIn.mono h.2 fun u w'' he => ⟨keep a hy u, by rw [← Act.put_comm a v u h2]; exact he⟩⟩
      case round l f tmps assign body =>
        refine ⟨h.1, RoundIn.mono h.2 fun e w'' he => ?_⟩
        cases e with
        | returned u => exact ⟨keep a hy u, by rw [← Act.put_comm a v u h2]; exact he⟩
        | panicked c => exact absurd he (hQ _ _ _)
        | outgrown => exact he
    | halt x w' =>
      cases x <;> simp only [Oper.uponIn] at h ⊢
      case panic u => exact absurd h (hQ _ _ _)
  · rename_i hw
    simp only [hw] at h
    exact ⟨fun f _ => trivial, keep a hy _, by rw [← Act.put_comm a v undef h2]; exact h.2⟩
/-- Who waits for i, by way of whom. -/
def blockB (ops : Array Oper) (bl : List Nat) (i : Nat) : Bool := bl.all fun j => Region.waitsFor .any ops j i || bl.any fun k => decide (k < j) && Region.waitsFor .any ops j k
theorem not_blocked {bl : List Nat} {i : Nat} {listed : Array Bool} (hB : blockB ops bl i = true) (inv : HeadInv .any ops ops.size listed) (hi : listed.getD i true = false) :
    ∀ (n j : Nat), j < n → j ∈ bl → ∀ oj, ops[j]? = some oj → ¬ ∀ e ∈ oj.after, Region.binds .any e = true → listed.getD e.on false = true := by
  intro n
  induction n with
  | zero => intro j hj; omega
  | succ n ih =>
    intro j hj hbl oj hoj hall
    have h1 := List.all_eq_true.1 hB j hbl
    simp only [Bool.or_eq_true, List.any_eq_true, Bool.and_eq_true, decide_eq_true_eq] at h1
    rcases h1 with h1 | ⟨k, hk, hkj, h1⟩
    · obtain ⟨o, ho, e, he, hb, hon⟩ := Region.waitsFor_spec h1
      rw [hoj] at ho
      cases ho
      have := hall e he hb
      rw [hon, getD_both hi] at this
      cases this
    · obtain ⟨o, ho, e, he, hb, hon⟩ := Region.waitsFor_spec h1
      rw [hoj] at ho
      cases ho
      have h2 := hall e he hb
      rw [hon] at h2
      have hks : k < ops.size := by
        apply Classical.byContradiction
        intro hge
        have : listed.getD k false = false := by
          rw [Array.getD_eq_getD_getElem?, Array.getElem?_eq_none (by rw [inv.size]; omega)]
          rfl
        rw [this] at h2
        cases h2
      exact ih k (by omega) hk ops[k] (Array.getElem?_eq_getElem hks) (inv.closed k ops[k] (Array.getElem?_eq_getElem hks) h2)
/-- Operation i taken first. -/
theorem any_eager {C : World → Prop} {i : Nat} {oi : Oper} {v : Value} {bl : List Nat} (hi : ops[i]? = some oi) (hsel : ∀ (j : Nat) (o : Oper), ops[j]? = some o → (∀ cs b, o.op ≠ .select cs b) ∧ ∀ c, o.op ≠ .defer c)
    (hQ : ∀ c a w, ¬ Q (.panic c) a w) (hCl : ∀ w o, C w → C (w.alloc o)) (hB : blockB ops bl i = true) :
    ∀ (f : Nat) (listed : Array Bool) (a : Act) (w : World), HeadInv .any ops ops.size listed →
      (∀ j oj, ops[j]? = some oj → j ≠ i → listed.getD j true = false → j ∉ bl → oi.apart ops oj = true ∧ (tm oj = true ∨ ∀ w, C w)) →
      i ∈ Region.ready .any ops listed → C w → YV P ops C oi v a → wpAnyS P r ops Q tm f (listed.setIfInBounds i true) (a.put oi.dst v) w → wpAnyS P r ops Q tm (f + 1) listed a w := by
  intro f
  induction f with
  | zero =>
    intro listed a w inv _ hr hC hy H
    refine ⟨fun h => (by rw [h] at hr; cases hr), fun j hj => ?_⟩
    by_cases hji : j = i
    · subst hji
      exact hy.op hi (hsel j oi hi).2 hC ⟨fun _ _ _ => .inl rfl, H⟩
    · have := ready_mono hj hji
      rw [H.1] at this
      cases this
  | succ f ih =>
    intro listed a w inv hfree hr hC hy H
    refine ⟨fun h => (by rw [h] at hr; cases hr), fun j hj => ?_⟩
    by_cases hji : j = i
    · subst hji
      exact hy.op hi (hsel j oi hi).2 hC ⟨fun _ _ _ => .inl rfl, H⟩
    · obtain ⟨hjun, oj, hoj, hall⟩ := mem_ready.1 hj
      have hnb : j ∉ bl := fun hb => not_blocked hB inv (mem_ready.1 hr).1 (j + 1) j (by omega) hb oj hoj hall
      obtain ⟨hap, htm⟩ := hfree j oj hoj hji hjun hnb
      have h1 := commute hoj hap (hsel i oi hi).1 (hsel j oj hoj).1 (hsel j oj hoj).2 hQ hy (H.2 j (ready_mono hj hji))
      refine wpOpIn_mono (fun a' w' ⟨hy', hex, hK⟩ => ⟨hex, ?_⟩) h1
      have hjs := (Array.getElem?_eq_some_iff.1 hoj).1
      refine ih (listed.setIfInBounds j true) a' w' (inv.set hj hjs) (fun k ok hk hki hu hno => hfree k ok hk hki ?_ hno) (ready_mono hr (Ne.symm hji)) ?_ hy' ?_
      · by_cases hjk : j = k
        · subst hjk; exact hjun
        · rwa [getD_set_ne true hjk] at hu
      · rcases htm with h2 | h2
        · rcases hex oj hoj h2 with rfl | ⟨o, rfl⟩
          · exact hC
          · exact hCl w o hC
        · exact h2 w'
      · rw [Array.setIfInBounds_comm _ _ hji]
        exact hK
end
end Go.Mv
