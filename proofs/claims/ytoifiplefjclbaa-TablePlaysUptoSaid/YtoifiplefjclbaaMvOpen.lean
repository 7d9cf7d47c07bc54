/- Mv: what comes in as an argument, opened: numbers, texts, arrays, structs, slices of them. -/
import Derived.Test.YtoifiplefjclbaaMvSep
import Derived.Test.YtoifiplefjclbaaMvRow
import Derived.ChangeVars
namespace Go.Mv
open Go Go.RowKit Go.ChangeShapes
/-- The cells of type t that were read in world w are f x, for some x with Q. -/
def Opens (P : Program) (w : World) (t : TypeId) {α : Type} (f : α → List Value) (Q : α → Prop) : Prop :=
  ∀ {H : Type} {enc : TypeId × Value → H} {base : Nat} {sp : Nat → Bool} {held : Bool} {fuel : Nat} {cs : List Value} {r : DataW H × List MemPlace}, DataW.trod enc P w base sp held fuel t cs = some r → ∃ x, cs = f x ∧ Q x
section
variable {P : Program} {w : World} {t e : TypeId}
theorem opens_int {k : IntKind} (ht : P.underlying t = some (.int k)) : Opens P w t (fun n : Int => [.int k n]) (fun n => (Lit.int k n).wf = true) := by
  intro H enc base sp held fuel cs r h
  obtain ⟨n, h1, _, h2⟩ := DataW.trod_int ht h
  exact ⟨n, h1, h2⟩
theorem opens_string (ht : P.underlying t = some .string) : Opens P w t (fun s : ByteArray => [.string s]) (fun s => s.size ≤ maxLen) := by
  intro H enc base sp held fuel cs r h
  obtain ⟨s, h1, _, h2⟩ := DataW.trod_string ht h
  exact ⟨s, h1, h2⟩
theorem opens_bool (ht : P.underlying t = some .bool) : Opens P w t (fun b : Bool => [.bool b]) (fun _ => True) := by
  intro H enc base sp held fuel cs r h
  cases fuel with
  | zero => simp [DataW.trod] at h
  | succ n =>
    unfold DataW.trod at h
    rw [ht] at h
    split at h <;> simp_all
theorem chunks {k : Nat} : ∀ (n : Nat) {cs : List Value}, cs.length = n * k → ∀ {α : Type} {f : α → List Value} {Q : α → Prop}, (∀ i, i < n → ∃ x, (cs.drop (i * k)).take k = f x ∧ Q x) → ∃ xs : List α, xs.length = n ∧ cs = xs.flatMap f ∧ ∀ x, x ∈ xs → Q x
  | 0, cs, hl, _, _, _, _ => ⟨[], rfl, by simpa using hl, fun x h => by cases h⟩
  | n + 1, cs, hl, α, f, Q, h => by
    obtain ⟨x, h1, h2⟩ := h 0 (by omega)
    rw [Nat.zero_mul, List.drop_zero] at h1
    obtain ⟨xs, g1, g2, g3⟩ := chunks (k := k) n (cs := cs.drop k) (by rw [List.length_drop, hl, Nat.add_mul]; omega) (f := f) (Q := Q) fun i hi => by
      obtain ⟨y, e1, e2⟩ := h (i + 1) (by omega)
      refine ⟨y, ?_, e2⟩
      rw [List.drop_drop, ← e1, Nat.add_mul, Nat.one_mul, Nat.add_comm k]
    refine ⟨x :: xs, by rw [List.length_cons, g1], ?_, fun y hy => ?_⟩
    · rw [List.flatMap_cons, ← h1, ← g2, List.take_append_drop]
    · rcases List.mem_cons.1 hy with rfl | hy
      · exact h2
      · exact g3 y hy
theorem opens_array {n : Nat} {α : Type} {f : α → List Value} {Q : α → Prop} (ht : P.underlying t = some (.array n e)) (hs : P.cellsOf t = n * P.cellsOf e) (he : Opens P w e f Q) : Opens P w t (fun xs : List α => xs.flatMap f) (fun xs => xs.length = n ∧ ∀ x, x ∈ xs → Q x) := by
  intro H enc base sp held fuel cs r h
  obtain ⟨ys, m, _, _, hl, hlen, hel⟩ := DataW.trod_array ht h
  obtain ⟨xs, g1, g2, g3⟩ := chunks (k := P.cellsOf e) n (cs := cs) (by rw [hl, hs]) (f := f) (Q := Q) fun i hi => by
    have h0 := hel i hi
    rw [List.getElem?_eq_getElem (by omega)] at h0
    exact he h0
  exact ⟨xs, g2, g1, g3⟩
/-- The fields of a struct from off on. -/
def OpensF (P : Program) (w : World) (fs : List Field) (off : Nat) {α : Type} (f : α → List Value) (Q : α → Prop) : Prop :=
  ∀ {H : Type} {enc : TypeId × Value → H} {base : Nat} {sp : Nat → Bool} {held : Bool} {fuel : Nat} {cs : List Value} {n : Nat}, cs.length = n → off + (fs.map fun x => P.cellsOf x.type).sum = n →
    (∀ x, x ∈ fs → ∃ r, DataW.trod enc P w base sp held fuel x.type ((cs.drop x.offset).take (P.cellsOf x.type)) = some r) → ∃ x, cs.drop off = f x ∧ Q x
theorem opens_nil {off : Nat} : OpensF P w [] off (fun _ : Unit => []) (fun _ => True) := by
  intro H enc base sp held fuel cs n h1 h2 _
  refine ⟨(), ?_, trivial⟩
  simp at h2
  exact List.drop_eq_nil_of_le (by omega)
theorem opens_cons {off : Nat} {x : Field} {fs : List Field} {α β : Type} {f : α → List Value} {Q : α → Prop} {g : β → List Value} {R : β → Prop} (ho : x.offset = off) (hx : Opens P w x.type f Q) (hr : OpensF P w fs (off + P.cellsOf x.type) g R) :
    OpensF P w (x :: fs) off (fun y : α × β => f y.1 ++ g y.2) (fun y => Q y.1 ∧ R y.2) := by
  intro H enc base sp held fuel cs n h1 h2 h
  obtain ⟨r, h3⟩ := h x (by simp)
  obtain ⟨a, h4, h5⟩ := hx h3
  obtain ⟨b, h6, h7⟩ := hr h1 (by rw [← h2, List.map_cons, List.sum_cons]; omega) fun y hy => h y (by simp [hy])
  refine ⟨(a, b), ?_, h5, h7⟩
  simp only
  rw [← h4, ← h6, ho, ← List.drop_drop, List.take_append_drop]
theorem opens_struct {fs : Array Field} {α : Type} {f : α → List Value} {Q : α → Prop} (ht : P.underlying t = some (.struct fs)) (hs : (fs.toList.map fun x => P.cellsOf x.type).sum = P.cellsOf t) (hf : OpensF P w fs.toList 0 f Q) : Opens P w t f Q := by
  intro H enc base sp held fuel cs r h
  obtain ⟨xs, n, _, _, hl, hlen, hfl⟩ := DataW.trod_struct ht h
  have := hf (n := P.cellsOf t) hl (by rw [Nat.zero_add, hs]) fun x hx => by
    obtain ⟨i, hi⟩ := List.mem_iff_getElem?.1 hx
    have h0 := hfl i x (by simpa using hi)
    have hlt : i < xs.length := by
      have := (List.getElem?_eq_some_iff.1 hi).1
      rw [hlen]
      simpa using this
    rw [List.getElem?_eq_getElem hlt] at h0
    exact ⟨_, h0⟩
  simpa using this
/-- A slice that came in: what can be read of it. -/
def IsSl {α : Type} (w : World) (f : α → List Value) (Q : α → Prop) (a : Option Addr) (n c : Nat) (zs : List α) : Prop := zs.length = n ∧ n ≤ c ∧ c ≤ maxLen ∧ Rd (whole w) a (zs.flatMap f) ∧ ∀ x, x ∈ zs → Q x
theorem opens_slice {α : Type} {f : α → List Value} {Q : α → Prop} (ht : P.underlying t = some (.slice e)) (he : Opens P w e f Q) (hl : ∀ x, Q x → (f x).length = P.cellsOf e) :
    Opens P w t (fun s : Option Addr × Nat × Nat × List α => [.slice s.1 s.2.1 s.2.2.1]) (fun s => IsSl w f Q s.1 s.2.1 s.2.2.1 s.2.2.2) := by
  intro H enc base sp held fuel cs r h
  rcases DataW.trod_slice ht h with ⟨hcs, _⟩ | ⟨x, len, cap, elems, rest, m, _, hcs, hx, hb, hlc, hm, hlen, hel, _, _⟩
  · exact ⟨(none, 0, 0, []), hcs, rfl, Nat.le_refl _, Nat.zero_le _, Rd.nil, fun x h => by cases h⟩
  · have one : ∀ i, i < len → ∃ y, Q y ∧ w.cells? base (x.add (i * P.cellsOf e)) (P.cellsOf e) = some (f y) := by
      intro i hi
      have h0 := hel i hi
      rw [List.getElem?_eq_getElem (by omega), Option.bind_eq_some_iff] at h0
      obtain ⟨cs', h1, h2⟩ := h0
      obtain ⟨y, rfl, hq⟩ := he h2
      exact ⟨y, hq, h1⟩
    have key : ∀ k, k ≤ len → ∃ zs : List α, zs.length = k ∧ (∀ y, y ∈ zs → Q y) ∧ ∀ (i : Nat) v, (zs.flatMap f)[i]? = some v → w.cell? (x.add i) = some v := by
      intro k
      induction k with
      | zero => exact fun _ => ⟨[], rfl, fun y h => (by cases h), fun i v h => by simp at h⟩
      | succ k ih =>
        intro hk'
        obtain ⟨zs, h1, h2, h3⟩ := ih (by omega)
        obtain ⟨y, hq, h4⟩ := one k (by omega)
        have hfl : (zs.flatMap f).length = k * P.cellsOf e := by
          rw [← h1]
          clear h1 h3
          induction zs with
          | nil => simp
          | cons z r ih2 => rw [List.flatMap_cons, List.length_append, hl z (h2 z (by simp)), ih2 fun y hy => h2 y (by simp [hy]), List.length_cons, Nat.add_mul]; omega
        refine ⟨zs ++ [y], by simp [h1], fun q hq' => ?_, fun i v hv => ?_⟩
        · rcases List.mem_append.1 hq' with h | h
          · exact h2 q h
          · rw [List.mem_singleton] at h; subst h; exact hq
        · rw [List.flatMap_append, List.flatMap_cons, List.flatMap_nil, List.append_nil] at hv
          rcases Nat.lt_or_ge i (k * P.cellsOf e) with hi | hi
          · rw [List.getElem?_append_left (by omega)] at hv
            exact h3 i v hv
          · rw [List.getElem?_append_right (by omega), hfl] at hv
            obtain ⟨_, h5⟩ := World.cells?_some h4
            have hilt := (List.getElem?_eq_some_iff.1 hv).1
            have := h5.2 (i - k * P.cellsOf e) (by rw [hl y hq] at hilt; exact hilt)
            rw [add_add, show k * P.cellsOf e + (i - k * P.cellsOf e) = i by omega] at this
            rw [this]
            exact hv
    obtain ⟨zs, h1, h2, h3⟩ := key len (Nat.le_refl _)
    refine ⟨(some x, len, cap, zs), hcs, h1, hlc, hm, .inr ⟨x, rfl, fun k v hk => ?_⟩, h2⟩
    rw [whole_cell]
    exact h3 k v hk
end
end Go.Mv
