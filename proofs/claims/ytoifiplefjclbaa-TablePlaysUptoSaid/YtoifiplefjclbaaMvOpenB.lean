/- Mv: what comes in as an argument, opened, where its bulk is bounded: F holds of what was read; a slice that F holds of has at most X elements, and F holds of them. -/
import Derived.Test.YtoifiplefjclbaaMvOpen
namespace Go.Mv
open Go Go.RowKit Go.ChangeShapes
structure FitsOk (F : (H : Type) → DataW H → Prop) (X : Nat) : Prop where
  sl : ∀ {H : Type} {es sp : List (DataW H)}, F H (.slice es sp) → es.length ≤ X ∧ ∀ d, d ∈ es → F H d
  agg : ∀ {H : Type} {ps : List (DataW H)}, F H (.agg ps) → ∀ d, d ∈ ps → F H d
  str : ∀ {H : Type} {b : List UInt8}, F H (.lit (.string b)) → b.length ≤ X
def OpensB (P : Program) (w : World) (t : TypeId) {α : Type} (f : α → List Value) (Q : α → Prop) (F : (H : Type) → DataW H → Prop) : Prop :=
  ∀ {H : Type} {enc : TypeId × Value → H} {base : Nat} {sp : Nat → Bool} {held : Bool} {fuel : Nat} {cs : List Value} {r : DataW H × List MemPlace}, DataW.trod enc P w base sp held fuel t cs = some r → F H r.1 → ∃ x, cs = f x ∧ Q x
section
variable {P : Program} {w : World} {t e : TypeId} {F : (H : Type) → DataW H → Prop} {X : Nat}
theorem Opens.b {α : Type} {f : α → List Value} {Q : α → Prop} (h : Opens P w t f Q) : OpensB P w t f Q F := fun h1 _ => h h1
theorem opensB_string (hF : FitsOk F X) (ht : P.underlying t = some .string) : OpensB P w t (fun s : ByteArray => [.string s]) (fun s => s.size ≤ X) F := by
  intro H enc base sp held fuel cs r h h1
  obtain ⟨s, h2, rfl, h3⟩ := DataW.trod_string ht h
  have := hF.str h1
  exact ⟨s, h2, by simpa using this⟩
theorem opensB_array {n : Nat} {α : Type} {f : α → List Value} {Q : α → Prop} (hF : FitsOk F X) (ht : P.underlying t = some (.array n e)) (hs : P.cellsOf t = n * P.cellsOf e) (he : OpensB P w e f Q F) : OpensB P w t (fun xs : List α => xs.flatMap f) (fun xs => xs.length = n ∧ ∀ x, x ∈ xs → Q x) F := by
  intro H enc base sp held fuel cs r h h1
  obtain ⟨ys, m, _, rfl, hl, hlen, hel⟩ := DataW.trod_array ht h
  obtain ⟨xs, g1, g2, g3⟩ := chunks (k := P.cellsOf e) n (cs := cs) (by rw [hl, hs]) (f := f) (Q := Q) fun i hi => by
    have h0 := hel i hi
    rw [List.getElem?_eq_getElem (by omega)] at h0
    exact he h0 (hF.agg h1 _ (List.mem_map_of_mem (List.getElem_mem _)))
  exact ⟨xs, g2, g1, g3⟩
def OpensFB (P : Program) (w : World) (fs : List Field) (off : Nat) {α : Type} (f : α → List Value) (Q : α → Prop) (F : (H : Type) → DataW H → Prop) : Prop :=
  ∀ {H : Type} {enc : TypeId × Value → H} {base : Nat} {sp : Nat → Bool} {held : Bool} {fuel : Nat} {cs : List Value} {n : Nat}, cs.length = n → off + (fs.map fun x => P.cellsOf x.type).sum = n →
    (∀ x, x ∈ fs → ∃ r, DataW.trod enc P w base sp held fuel x.type ((cs.drop x.offset).take (P.cellsOf x.type)) = some r ∧ F H r.1) → ∃ x, cs.drop off = f x ∧ Q x
theorem opensB_nil {off : Nat} : OpensFB P w [] off (fun _ : Unit => []) (fun _ => True) F := by
  intro H enc base sp held fuel cs n h1 h2 _
  refine ⟨(), ?_, trivial⟩
  simp at h2
  exact List.drop_eq_nil_of_le (by omega)
theorem opensB_cons {off : Nat} {x : Field} {fs : List Field} {α β : Type} {f : α → List Value} {Q : α → Prop} {g : β → List Value} {R : β → Prop} (ho : x.offset = off) (hx : OpensB P w x.type f Q F) (hr : OpensFB P w fs (off + P.cellsOf x.type) g R F) :
    OpensFB P w (x :: fs) off (fun y : α × β => f y.1 ++ g y.2) (fun y => Q y.1 ∧ R y.2) F := by
  intro H enc base sp held fuel cs n h1 h2 h
  obtain ⟨r, h3, h3'⟩ := h x (by simp)
  obtain ⟨a, h4, h5⟩ := hx h3 h3'
  obtain ⟨b, h6, h7⟩ := hr h1 (by rw [← h2, List.map_cons, List.sum_cons]; omega) fun y hy => h y (by simp [hy])
  refine ⟨(a, b), ?_, h5, h7⟩
  simp only
  rw [← h4, ← h6, ho, ← List.drop_drop, List.take_append_drop]
theorem opensB_struct {fs : Array Field} {α : Type} {f : α → List Value} {Q : α → Prop} (hF : FitsOk F X) (ht : P.underlying t = some (.struct fs)) (hs : (fs.toList.map fun x => P.cellsOf x.type).sum = P.cellsOf t) (hf : OpensFB P w fs.toList 0 f Q F) : OpensB P w t f Q F := by
  intro H enc base sp held fuel cs r h h1
  obtain ⟨xs, n, _, rfl, hl, hlen, hfl⟩ := DataW.trod_struct ht h
  have := hf (n := P.cellsOf t) hl (by rw [Nat.zero_add, hs]) fun x hx => by
    obtain ⟨i, hi⟩ := List.mem_iff_getElem?.1 hx
    have h0 := hfl i x (by simpa using hi)
    have hlt : i < xs.length := by
      have := (List.getElem?_eq_some_iff.1 hi).1
      rw [hlen]
      simpa using this
    rw [List.getElem?_eq_getElem hlt] at h0
    exact ⟨_, h0, hF.agg h1 _ (List.mem_map_of_mem (List.getElem_mem _))⟩
  simpa using this
theorem opensB_slice {α : Type} {f : α → List Value} {Q : α → Prop} (hF : FitsOk F X) (ht : P.underlying t = some (.slice e)) (he : OpensB P w e f Q F) (hl : ∀ x, Q x → (f x).length = P.cellsOf e) :
    OpensB P w t (fun s : Option Addr × Nat × Nat × List α => [.slice s.1 s.2.1 s.2.2.1]) (fun s => IsSl w f Q s.1 s.2.1 s.2.2.1 s.2.2.2 ∧ s.2.1 ≤ X) F := by
  intro H enc base sp held fuel cs r h h9
  rcases DataW.trod_slice ht h with ⟨hcs, _⟩ | ⟨x, len, cap, elems, rest, m, _, hcs, rfl, hb, hlc, hm, hlen, hel, _, _⟩
  · exact ⟨(none, 0, 0, []), hcs, ⟨rfl, Nat.le_refl _, Nat.zero_le _, Rd.nil, fun x h => by cases h⟩, Nat.zero_le _⟩
  · obtain ⟨hX, hall⟩ := hF.sl h9
    have hX : len ≤ X := by rw [List.length_map, hlen] at hX; exact hX
    have one : ∀ i, i < len → ∃ y, Q y ∧ w.cells? base (x.add (i * P.cellsOf e)) (P.cellsOf e) = some (f y) := by
      intro i hi
      have h0 := hel i hi
      rw [List.getElem?_eq_getElem (by omega), Option.bind_eq_some_iff] at h0
      obtain ⟨cs', h1, h2⟩ := h0
      obtain ⟨y, rfl, hq⟩ := he h2 (hall _ (List.mem_map_of_mem (List.getElem_mem _)))
      exact ⟨y, hq, h1⟩
    have key : ∀ k, k ≤ len → ∃ zs : List α, zs.length = k ∧ (∀ y, y ∈ zs → Q y) ∧ ∀ (i : Nat) v, (zs.flatMap f)[i]? = some v → w.cell? (x.add i) = some v := by
      intro k
      induction k with
      | zero => exact fun _ => ⟨[], rfl, fun y h => (by cases h), fun i v h => by simp at h⟩
      | succ k ih =>
        intro hk'
        obtain ⟨zs, h1, h2, h3⟩ := ih (by omega)
        obtain ⟨y, hq, h4⟩ := one k (by omega)
        have hfl : (zs.flatMap f).length = k * P.cellsOf e := by
          rw [← h1]
          clear h1 h3
          induction zs with
          | nil => simp
          | cons z r ih2 => rw [List.flatMap_cons, List.length_append, hl z (h2 z (by simp)), ih2 fun y hy => h2 y (by simp [hy]), List.length_cons, Nat.add_mul]; omega
        refine ⟨zs ++ [y], by simp [h1], fun q hq' => ?_, fun i v hv => ?_⟩
        · rcases List.mem_append.1 hq' with h | h
          · exact h2 q h
          · rw [List.mem_singleton] at h; subst h; exact hq
        · rw [List.flatMap_append, List.flatMap_cons, List.flatMap_nil, List.append_nil] at hv
          rcases Nat.lt_or_ge i (k * P.cellsOf e) with hi | hi
          · rw [List.getElem?_append_left (by omega)] at hv
            exact h3 i v hv
          · rw [List.getElem?_append_right (by omega), hfl] at hv
            obtain ⟨_, h5⟩ := World.cells?_some h4
            have hilt := (List.getElem?_eq_some_iff.1 hv).1
            have := h5.2 (i - k * P.cellsOf e) (by rw [hl y hq] at hilt; exact hilt)
            rw [add_add, show k * P.cellsOf e + (i - k * P.cellsOf e) = i by omega] at this
            rw [this]
            exact hv
    obtain ⟨zs, h1, h2, h3⟩ := key len (Nat.le_refl _)
    refine ⟨(some x, len, cap, zs), hcs, ⟨h1, hlc, hm, .inr ⟨x, rfl, fun k v hk => ?_⟩, h2⟩, hX⟩
    rw [whole_cell]
    exact h3 k v hk
end
end Go.Mv
