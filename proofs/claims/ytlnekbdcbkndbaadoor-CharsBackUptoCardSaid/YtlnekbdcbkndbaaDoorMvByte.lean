/- Mv: texts made of bytes by the pointers of package unsafe, and bytes out of texts. -/
import Derived.Test.YtlnekbdcbkndbaaDoorMvGen
import Derived.Lib.ConvBytes
namespace Go.Mv
open Go
set_option linter.unusedVariables false
/-- A block with this very object. -/
def ob (b : Nat) (o : Obj) : Asn := fun m => m b = some o
theorem ob_new {L : List Asn} {m m2 : Mem} (h : Sep L m) {b : Nat} {o : Obj} (hb : m b = none) (he : m2 = m.set b o) : Sep (ob b o :: L) m2 := by
  subst he
  refine ⟨fun k => if k = b then some o else none, m, fun k => ?_, fun k o2 hk => ?_, Mem.le_set hb, ?_, h⟩
  · by_cases hk : k = b
    · subst hk; exact .inr hb
    · exact .inl (by simp [hk])
  · by_cases hkb : k = b
    · subst hkb
      simp at hk
      subst hk
      simp [Mem.set]
    · simp [hkb] at hk
  · simp [ob]
theorem ob_get {L : List Asn} {m : Mem} (h : Sep L m) (j : Nat) {b : Nat} {o : Obj} (hj : L[j]? = some (ob b o)) : m b = some o := by
  obtain ⟨m1, h1, h2⟩ := h.get j hj
  exact h1 _ _ h2
section
variable {P : Program} {m : Mem} {K : Value → Mem → Prop}
theorem slicedata {ts : Array TypeId} {ty e : TypeId} {cs : Array Bool} {A : Option Addr} {n c : Nat} (hp : P.underlying ty = some (.pointer e)) (hA : ∀ a, A = some a → ∃ cc e2 z, m a.block = some (.cells cc e2 z))
    (h : ∀ q, (c ≠ 0 → q = A) → K (.pointer q) m) : NextP P (builtin .unsafeSliceData ts ty cs #[.slice A n c]) m K := by
  intro w hw
  cases A with
  | none =>
    refine ⟨_, w, m, ?_, h none fun _ => rfl, Frame.refl hw⟩
    simp only [builtin, Sem.run_bind, Lib.run_unsafeSliceData_nil]
    rfl
  | some a =>
    by_cases hc : c = 0
    · subst hc
      obtain ⟨cc, e2, z, hb⟩ := hA a rfl
      have hsh : w.shape? a.block = some (e2, cc.size) := by
        have := hw _ _ hb
        simp [World.shape?, this]
      refine ⟨_, w.alloc (.view a e), m, ?_, h (some ⟨w.heap.size, 0, none⟩) fun h => absurd rfl h, ?_⟩
      · simp only [builtin, Sem.run_bind, Lib.run_unsafeSliceData_zero w ts ty e hp a n _ hsh]
        rfl
      · exact (Frame.alloc (Frame.refl hw) (.view a e)).less fun b o hb => by
          rw [Mem.set_ne (by rintro rfl; rw [sub_fresh hw] at hb; cases hb)]
          exact hb
    · refine ⟨_, w, m, ?_, h (some a) fun _ => rfl, Frame.refl hw⟩
      simp only [builtin, Sem.run_bind, Lib.run_unsafeSliceData_row w ts ty a n c hc]
      rfl
/-- Frozen bytes are forgotten. -/
theorem Frame.freeze {w : World} (hw : m.sub w) {b i n : Nat} {q : Option Nat} (hb : m b ≠ none) : Frame m w (m.del b) (w.freeze ⟨b, i, none⟩ n) := by
  by_cases hn : n = 0
  · rw [World.freeze, if_pos hn]
    exact (Frame.refl hw).less fun k o hk => by
      unfold Mem.del at hk
      by_cases hkb : k = b
      · simp [hkb] at hk
      · simpa [hkb] using hk
  · rw [World.freeze, if_neg hn]
    refine ⟨rfl, ⟨rfl, Nat.le_refl _⟩, rfl, by simp, fun c o' hc => ?_, fun c hc hn => ?_, fun c hc => ?_⟩
    · unfold Mem.del at hc
      by_cases hcb : c = b
      · simp [hcb] at hc
      · simp only [hcb, if_false] at hc
        show (w.heap.modify b _)[c]? = _
        rw [Array.getElem?_modify, if_neg (Ne.symm hcb)]
        exact hw c o' hc
    · have hcb : b ≠ c := by rintro rfl; exact hb hn
      show (w.heap.modify b _)[c]? = _
      rw [Array.getElem?_modify, if_neg hcb]
    · unfold Mem.del at hc
      by_cases hcb : c = b
      · simp [hcb] at hc
      · simp only [hcb, if_false] at hc
        exact .inl hc
theorem ustring {pt it ty e : TypeId} {cs : Array Bool} (hp : P.underlying pt = some (.pointer e)) (hc : P.cellsOf e = 1) {q : Option Addr} {l : List UInt8} (h63 : l.length ≤ 9223372036854775807)
    (hq : l ≠ [] → ∃ g cc z, q = some ⟨g, 0, none⟩ ∧ m g = some (.cells cc e z) ∧ l.length ≤ cc.size ∧ ∀ (j : Nat) x, l[j]? = some x → cc[j]? = some (.int .u8 x.toNat))
    (h : ∀ m2, K (.string ⟨l.toArray⟩) m2) : NextP P (builtin .unsafeString #[pt, it] ty cs #[.pointer q, .int .i64 (l.length : Nat)]) m K := by
  intro w hw
  by_cases hl : l = []
  · subst hl
    refine ⟨_, w, m, ?_, h m, Frame.refl hw⟩
    simp only [builtin, Sem.run_bind]
    rw [show (Builtin.unsafeString_ #[pt, it] ty #[.pointer q, .int .i64 (([] : List UInt8).length : Nat)]).run P w = _ from Lib.run_unsafeString_none w pt it ty q]
    rfl
  · obtain ⟨g, cc, z, rfl, hg, hn, hcell⟩ := hq hl
    have hg2 := hw _ _ hg
    refine ⟨_, _, m.del g, ?_, h _, Frame.freeze hw (i := 0) (n := l.length) (q := none) (by rw [hg]; simp)⟩
    simp only [builtin, Sem.run_bind, Lib.run_unsafeString_row w pt it ty e hp hc g cc.size (by simp [World.shape?, hg2]) l hl hn h63 (fun j x hx => by
      have := hcell j x hx
      by_cases hj : j = 0
      · subst hj; simp [World.cell?, Addr.add, hg2, this]
      · simp [World.cell?, Addr.add, hg2, this, hj])]
    rfl
theorem tobytes {src dst e : TypeId} {s : ByteArray} {u : TypeDesc} (hs : P.underlying src = some u) (hd : P.underlying dst = some (.slice e)) (he : P.underlying e = some (.int .u8))
    (h : ∀ (b c : Nat) (o : Obj) (m2 : Mem), m b = none → m2 = m.set b o → (∃ cc z, o = .cells cc e z ∧ ∀ j, j < s.size → cc[j]? = some (.int .u8 (s.data.toList.getD j 0).toNat)) → K (.slice (some ⟨b, 0, none⟩) s.size c) m2) : RunP P (Go.convert src dst (.string s)) m K := by
  intro w hw
  refine ⟨_, _, _, Lib.run_convert_string_bytes w src dst e s hs hd he, h w.heap.size _ (.cells (Lib.bytesCells w e s) e ((Lib.bytesCells w e s).size, (Lib.bytesCells w e s).size + 1)) _ (sub_fresh hw) rfl ⟨_, _, rfl, fun j hj => ?_⟩, ?_⟩
  · have := Lib.bytesWorld_cell w e s j hj
    rw [World.cell?, Lib.bytesWorld_at_new] at this
    simpa using this
  · refine ⟨?_, ⟨?_, ?_⟩, ?_, ?_, fun b o hb => ?_, fun b hb _ => Lib.bytesWorld_at_old w e s b hb, fun b hb => ?_⟩
    · simp [Lib.bytesWorld, World.freeze, World.alloc, World.drew, -World.alloc_eq, -World.drew_eq]
    · simp [Lib.bytesWorld, World.freeze, World.alloc, World.drew, -World.alloc_eq, -World.drew_eq]
    · simp [Lib.bytesWorld, World.freeze, World.alloc, World.drew, -World.alloc_eq, -World.drew_eq]
    · simp [Lib.bytesWorld, World.freeze, World.alloc, World.drew, -World.alloc_eq, -World.drew_eq]
    · rw [Lib.bytesWorld_size]; omega
    · by_cases hbn : b = w.heap.size
      · subst hbn
        rw [Lib.bytesWorld_at_new]
        simpa [Mem.set] using hb
      · rw [Mem.set_ne hbn] at hb
        rw [Lib.bytesWorld_at_old w e s b (Mem.sub_lt hw (by rw [hb]; simp))]
        exact hw b o hb
    · by_cases hbn : b = w.heap.size
      · exact .inr (Nat.le_of_eq hbn.symm)
      · rw [Mem.set_ne hbn] at hb
        exact .inl hb
end
end Go.Mv
