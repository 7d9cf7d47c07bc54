/- Mv: memory as a row of parts that lie apart: each part is told of by itself, what turns one leaves the others. -/
import Derived.Test.YtoifiplefjclbaaMvSeq
namespace Go.Mv
open Go
/-- All that m tells, m' tells. -/
def Mem.le (m m' : Mem) : Prop := ∀ k o, m k = some o → m' k = some o
theorem Mem.le_refl (m : Mem) : m.le m := fun _ _ h => h
theorem Mem.le_trans {a b c : Mem} (h : a.le b) (k : b.le c) : a.le c := fun x o hx => k x o (h x o hx)
theorem Mem.le_dom {m m' : Mem} (h : m.le m') {b : Nat} (hb : m b ≠ none) : m' b ≠ none := by
  cases hm : m b with
  | none => exact absurd hm hb
  | some o => rw [h b o hm]; simp
theorem Mem.le_none {m m' : Mem} (h : m.le m') {b : Nat} (hb : m' b = none) : m b = none := by
  cases hm : m b with
  | none => rfl
  | some o => rw [h b o hm] at hb; cases hb
theorem Mem.le_cell {m m' : Mem} (h : m.le m') {a : Addr} {v : Value} (hc : m.cell a = some v) : m'.cell a = some v := by
  unfold Mem.cell at hc ⊢
  cases hm : m a.block with
  | none => rw [hm] at hc; cases hc
  | some o => rw [h _ _ hm]; rw [hm] at hc; exact hc
theorem Mem.le_holds {m m' : Mem} (h : m.le m') {p : Addr} {vs : List Value} (hc : m.holds p vs) : m'.holds p vs := fun i v hi => Mem.le_cell h (hc i v hi)
theorem Mem.le_join_left {m f : Mem} : m.le (m.join f) := fun k o h => by simp [Mem.join, h]
theorem Mem.le_join_right {m f : Mem} (hd : m.apart f) : f.le (m.join f) := fun k o h => by
  rcases hd k with h0 | h0
  · simp [Mem.join, h0, h]
  · rw [h0] at h; cases h
theorem Mem.le_set {m : Mem} {b : Nat} {o : Obj} (hb : m b = none) : m.le (m.set b o) := fun k o' h => by
  rw [Mem.set_ne]
  · exact h
  · rintro rfl
    rw [hb] at h
    cases h
abbrev Asn := Mem → Prop
/-- Parts of m that lie apart, each as its assertion tells. -/
def Sep : List Asn → Mem → Prop
  | [], _ => True
  | A :: r, m => ∃ m1 m2 : Mem, m1.apart m2 ∧ m1.le m ∧ m2.le m ∧ A m1 ∧ Sep r m2
theorem Sep.more : ∀ {L : List Asn} {m m' : Mem}, Sep L m → m.le m' → Sep L m'
  | [], _, _, _, _ => trivial
  | _ :: _, _, _, ⟨m1, m2, h1, h2, h3, h4, h5⟩, hm => ⟨m1, m2, h1, Mem.le_trans h2 hm, Mem.le_trans h3 hm, h4, h5⟩
/-- The j-th part, and the others. -/
theorem Sep.move : ∀ {L : List Asn} {m : Mem} (j : Nat) {A : Asn}, Sep L m → L[j]? = some A → Sep (A :: L.eraseIdx j) m
  | [], _, _, _, _, h => by simp at h
  | B :: r, m, 0, A, h, hj => by
    simp only [List.getElem?_cons_zero, Option.some.injEq] at hj
    subst hj
    exact h
  | B :: r, m, j + 1, A, ⟨m1, m2, h1, h2, h3, h4, h5⟩, hj => by
    simp only [List.getElem?_cons_succ] at hj
    obtain ⟨a, b, k1, k2, k3, k4, k5⟩ := Sep.move j h5 hj
    have hab : a.apart m1 := fun k => by
      rcases h1 k with h | h
      · exact .inr h
      · exact .inl (Mem.le_none k2 h)
    have hmb : m1.apart b := fun k => by
      rcases h1 k with h | h
      · exact .inl h
      · exact .inr (Mem.le_none k3 h)
    refine ⟨a, m1.join b, fun k => ?_, Mem.le_trans k2 h3, fun k o hk => ?_, k4, m1, b, hmb, Mem.le_join_left, Mem.le_join_right hmb, h4, k5⟩
    · rcases k1 k with h | h
      · exact .inl h
      · rcases hab k with h' | h'
        · exact .inl h'
        · exact .inr (by simp [Mem.join, h, h'])
    · unfold Mem.join at hk
      cases hm : m1 k with
      | some o' => rw [hm] at hk; simp at hk; subst hk; exact h2 k _ hm
      | none => rw [hm] at hk; simp at hk; exact h3 k o (k3 k o hk)
/-- The front part may go to the j-th place. -/
theorem Sep.back : ∀ {L : List Asn} {m : Mem} {j : Nat} {A : Asn}, Sep (A :: L) m → j ≤ L.length → Sep (L.insertIdx j A) m
  | L, m, 0, A, h, _ => by simpa using h
  | [], m, j + 1, A, h, hj => by simp at hj
  | B :: r, m, j + 1, A, h, hj => by
    have h1 : Sep (B :: A :: r) m := h.move 1 rfl
    obtain ⟨m1, m2, k1, k2, k3, k4, k5⟩ := h1
    rw [List.insertIdx_succ_cons]
    exact ⟨m1, m2, k1, k2, k3, k4, k5.back (by simpa using hj)⟩
theorem eraseIdx_insert {L : List Asn} {j : Nat} {A B : Asn} (hj : L[j]? = some A) : (L.eraseIdx j).insertIdx j B = L.set j B := by
  induction L generalizing j with
  | nil => simp at hj
  | cons x r ih =>
    cases j with
    | zero => simp
    | succ j =>
      simp only [List.getElem?_cons_succ] at hj
      simp [List.eraseIdx, List.insertIdx_succ_cons, ih hj]
theorem len_erase {L : List Asn} {j : Nat} {A : Asn} (hj : L[j]? = some A) : j ≤ (L.eraseIdx j).length := by
  have := (List.getElem?_eq_some_iff.1 hj).1
  rw [List.length_eraseIdx, if_pos this]
  omega
/-- One part is told of in another way. -/
theorem Sep.turn {L : List Asn} {m : Mem} (h : Sep L m) (j : Nat) {A B : Asn} (hj : L[j]? = some A) (hAB : ∀ m1, m1.le m → A m1 → B m1) : Sep (L.set j B) m := by
  obtain ⟨m1, m2, k1, k2, k3, k4, k5⟩ := h.move j hj
  rw [← eraseIdx_insert (A := A) hj]
  exact Sep.back ⟨m1, m2, k1, k2, k3, hAB m1 k2 k4, k5⟩ (len_erase hj)
theorem Sep.drop {L : List Asn} {m : Mem} (h : Sep L m) (j : Nat) : Sep (L.eraseIdx j) m := by
  cases hj : L[j]? with
  | none => rw [List.eraseIdx_of_length_le (List.getElem?_eq_none_iff.1 hj)]; exact h
  | some A =>
    obtain ⟨m1, m2, k1, k2, k3, k4, k5⟩ := h.move j hj
    exact k5.more k3
/-- One part is of several. -/
theorem Sep.split : ∀ {L R : List Asn} {m : Mem}, Sep (Sep L :: R) m → Sep (L ++ R) m
  | [], _, _, ⟨m1, m2, k1, k2, k3, k4, k5⟩ => k5.more k3
  | A :: L, R, m, ⟨m1, m2, k1, k2, k3, ⟨a, b, q1, q2, q3, q4, q5⟩, k5⟩ => by
    have hb2 : b.apart m2 := fun k => by
      rcases k1 k with h | h
      · exact .inl (Mem.le_none q3 h)
      · exact .inr h
    refine ⟨a, b.join m2, fun k => ?_, Mem.le_trans q2 k2, fun k o hk => ?_, q4, Sep.split (L := L) ⟨b, m2, hb2, Mem.le_join_left, Mem.le_join_right hb2, q5, k5⟩⟩
    · rcases q1 k with h | h
      · exact .inl h
      · rcases k1 k with h' | h'
        · exact .inl (Mem.le_none q2 h')
        · exact .inr (by simp [Mem.join, h, h'])
    · unfold Mem.join at hk
      cases hm : b k with
      | some o' => rw [hm] at hk; simp at hk; subst hk; exact k2 k _ (q3 k _ hm)
      | none => rw [hm] at hk; simp at hk; exact k3 k o hk
theorem Sep.group : ∀ {L R : List Asn} {m : Mem}, Sep (L ++ R) m → Sep (Sep L :: R) m
  | [], R, m, h => ⟨Mem.empty, m, fun _ => .inl rfl, fun _ _ h => (by cases h), Mem.le_refl m, trivial, h⟩
  | A :: L, R, m, ⟨m1, m2, k1, k2, k3, k4, k5⟩ => by
    obtain ⟨a, b, q1, q2, q3, q4, q5⟩ := Sep.group (L := L) (R := R) k5
    have h1a : m1.apart a := fun k => by
      rcases k1 k with h | h
      · exact .inl h
      · exact .inr (Mem.le_none q2 h)
    refine ⟨m1.join a, b, fun k => ?_, fun k o hk => ?_, Mem.le_trans q3 k3, ⟨m1, a, h1a, Mem.le_join_left, Mem.le_join_right h1a, k4, q4⟩, q5⟩
    · rcases q1 k with h | h
      · rcases k1 k with h' | h'
        · exact .inl (by simp [Mem.join, h, h'])
        · exact .inr (Mem.le_none q3 h')
      · exact .inr h
    · unfold Mem.join at hk
      cases hm : m1 k with
      | some o' => rw [hm] at hk; simp at hk; subst hk; exact k2 k _ hm
      | none => rw [hm] at hk; simp at hk; exact k3 k o (q2 k o hk)
/-- What is so of a part, and stays so of more, is so of all. -/
theorem Sep.get {L : List Asn} {m : Mem} (h : Sep L m) (j : Nat) {A : Asn} (hj : L[j]? = some A) : ∃ m1, m1.le m ∧ A m1 := by
  obtain ⟨m1, m2, k1, k2, k3, k4, k5⟩ := h.move j hj
  exact ⟨m1, k2, k4⟩

/-! ### parts -/
/-- Block b holds l. -/
def pt (b : Nat) (l : List Value) : Asn := fun m => Blk m b l
/-- All that m0 tells. -/
def kp (m0 : Mem) : Asn := fun m => m0.le m
theorem Sep.kept {L : List Asn} {m m0 : Mem} (h : Sep L m) (j : Nat) (hj : L[j]? = some (kp m0)) : m0.le m := by
  obtain ⟨m1, h1, h2⟩ := h.get j hj
  exact Mem.le_trans h2 h1
theorem Sep.init (m0 : Mem) : Sep [kp m0] m0 := ⟨m0, Mem.empty, fun _ => .inr rfl, Mem.le_refl _, fun _ _ h => (by cases h), Mem.le_refl _, trivial⟩
theorem Sep.blk {L : List Asn} {m : Mem} (h : Sep L m) (j : Nat) {b : Nat} {l : List Value} (hj : L[j]? = some (pt b l)) : Blk m b l := by
  obtain ⟨m1, h1, e, h2⟩ := h.get j hj
  exact ⟨e, h1 _ _ h2⟩
theorem Sep.cell {L : List Asn} {m : Mem} (h : Sep L m) (j : Nat) {b i : Nat} {l : List Value} {v : Value} (hj : L[j]? = some (pt b l)) (hi : l[i]? = some v) : m.cell ⟨b, i, none⟩ = some v := (h.blk j hj).cell hi
theorem Sep.room {L : List Asn} {m : Mem} (h : Sep L m) (j : Nat) {b i : Nat} {l : List Value} {v : Value} (hj : L[j]? = some (pt b l)) (hi : l[i]? = some v) : (∃ u, m.cell ⟨b, i, none⟩ = some u) ∧ m.fz ⟨b, i, none⟩ = false := ⟨⟨_, h.cell j hj hi⟩, (h.blk j hj).fz⟩
theorem Sep.rooms {L : List Asn} {m : Mem} (h : Sep L m) (j : Nat) {b i n : Nat} {l : List Value} (hj : L[j]? = some (pt b l)) (hn : i + n ≤ l.length) : m.room ⟨b, i, none⟩ n := (h.blk j hj).room hn
theorem Sep.new {L : List Asn} {m : Mem} (h : Sep L m) {b e : Nat} {l : List Value} (hb : m b = none) : Sep (pt b l :: L) (m.set b (.cells l.toArray e (0, 0))) := by
  refine ⟨one b (.cells l.toArray e (0, 0)), m, fun k => ?_, fun k o hk => ?_, Mem.le_set hb, ⟨e, by simp [one]⟩, h⟩
  · by_cases hk : k = b
    · exact .inr (hk ▸ hb)
    · exact .inl (by simp [one, hk])
  · simp only [one] at hk
    split at hk
    · rename_i hkb
      subst hkb
      simpa [Mem.set] using hk
    · cases hk
/-- A part turns, in its own blocks only. -/
theorem Sep.step {L : List Asn} {m m' : Mem} (h : Sep L m) (j : Nat) {A B : Asn} (hj : L[j]? = some A) (hs : ∀ m1, m1.le m → A m1 → ∃ m1', B m1' ∧ m1'.le m' ∧ (∀ k, m1' k ≠ none → m1 k ≠ none ∨ m k = none) ∧ ∀ k o, m k = some o → m1 k = none → m' k = some o) : Sep (L.set j B) m' := by
  obtain ⟨m1, m2, k1, k2, k3, k4, k5⟩ := h.move j hj
  obtain ⟨m1', q1, q2, q3, q4⟩ := hs m1 k2 k4
  rw [← eraseIdx_insert (A := A) hj]
  refine Sep.back ⟨m1', m2, fun k => ?_, q2, fun k o hk => ?_, q1, k5⟩ (len_erase hj)
  · apply Classical.byContradiction
    intro hc
    simp only [not_or] at hc
    rcases q3 k hc.1 with h | h
    · rcases k1 k with h' | h'
      · exact h h'
      · exact hc.2 h'
    · exact Mem.le_dom k3 hc.2 h
  · refine q4 k o (k3 k o hk) ?_
    rcases k1 k with h' | h'
    · exact h'
    · rw [h'] at hk; cases hk
theorem Mem.setCell_some' {m : Mem} {a : Addr} {v : Value} {k : Nat} (h : (m.setCell a v) k ≠ none) : m k ≠ none := by
  intro h1
  apply h
  unfold Mem.setCell
  split <;> simp [h1]
theorem setCell_le {m m1 : Mem} (hm : m1.le m) {b i : Nat} {v : Value} (hb : m1 b ≠ none) : (m1.setCell ⟨b, i, none⟩ v).le (m.setCell ⟨b, i, none⟩ v) := by
  intro k o hk
  by_cases hkb : k = b
  · subst hkb
    cases hm1 : m1 k with
    | none => exact absurd hm1 hb
    | some o1 =>
      have := hm k o1 hm1
      simp only [Mem.setCell, if_true, hm1] at hk
      simp only [Mem.setCell, if_true, this]
      exact hk
  · rw [Mem.setCell_ne hkb] at hk ⊢
    exact hm k o hk
theorem setCells_le {b i : Nat} : ∀ (vs : List Value) {m m1 : Mem} {j : Nat}, m1.le m → m1 b ≠ none → (m1.setCells ⟨b, i, none⟩ j vs).le (m.setCells ⟨b, i, none⟩ j vs)
  | [], _, _, _, hm, _ => hm
  | v :: r, m, m1, j, hm, hb => by
    simp only [Mem.setCells, add_mk]
    refine setCells_le r (setCell_le hm hb) ?_
    intro h
    apply hb
    unfold Mem.setCell at h
    simp only [if_true] at h
    cases hm1 : m1 b with
    | none => rfl
    | some o => rw [hm1] at h; cases o <;> simp at h
theorem setCells_some' {b i : Nat} : ∀ (vs : List Value) {m : Mem} {j k : Nat}, (m.setCells ⟨b, i, none⟩ j vs) k ≠ none → m k ≠ none
  | [], _, _, _, h => h
  | v :: r, m, j, k, h => by
    simp only [Mem.setCells] at h
    exact Mem.setCell_some' (setCells_some' (b := b) (i := i) r h)
/-- Cells of a part's block are written over. -/
theorem Sep.puts {L : List Asn} {m : Mem} (h : Sep L m) (j : Nat) {A B : Asn} {b i : Nat} {vs : List Value} (hj : L[j]? = some A) (hb : ∀ m1, m1.le m → A m1 → m1 b ≠ none) (hB : ∀ m1, m1.le m → A m1 → B (m1.setCells ⟨b, i, none⟩ 0 vs)) : Sep (L.set j B) (m.setCells ⟨b, i, none⟩ 0 vs) := by
  refine h.step j hj fun m1 hm hA => ⟨_, hB m1 hm hA, setCells_le vs hm (hb m1 hm hA), fun k hk => .inl (setCells_some' vs hk), fun k o hk hn => ?_⟩
  rw [Mem.setCells_ne]
  · exact hk
  · rintro rfl
    exact hb m1 hm hA hn
theorem setCells_one {m : Mem} {b i : Nat} {v : Value} : m.setCells ⟨b, i, none⟩ 0 [v] = m.setCell ⟨b, i, none⟩ v := by
  simp only [Mem.setCells, add_mk, Nat.add_zero]
theorem Sep.put {L : List Asn} {m : Mem} (h : Sep L m) (j : Nat) {b i : Nat} {l : List Value} (v : Value) (hj : L[j]? = some (pt b l)) : Sep (L.set j (pt b (l.set i v))) (m.setCell ⟨b, i, none⟩ v) := by
  rw [← setCells_one]
  refine h.puts j hj (fun m1 _ ⟨e, hA⟩ => by rw [hA]; simp) fun m1 _ hA => ?_
  rw [setCells_one]
  exact Blk.put v hA
theorem Sep.putAll {L : List Asn} {m : Mem} (h : Sep L m) (j : Nat) {b i : Nat} {l : List Value} (vs : List Value) (hj : L[j]? = some (pt b l)) : Sep (L.set j (pt b (writeAt l i vs))) (m.setCells ⟨b, i, none⟩ 0 vs) :=
  h.puts j hj (fun m1 _ ⟨e, hA⟩ => by rw [hA]; simp) fun m1 _ hA => Blk.puts (j := 0) vs hA

/-! ### calls -/
/-- Behind a call on a part: the part, and the others beside it. -/
def Beside (R : List Asn) (m1 m : Mem) : Prop := ∃ m2 : Mem, m1.apart m2 ∧ m1.le m ∧ m2.le m ∧ Sep R m2
theorem Beside.sep {R : List Asn} {m1 m : Mem} (h : Beside R m1 m) {L : List Asn} (k : Sep L m1) : Sep (L ++ R) m := by
  obtain ⟨m2, h1, h2, h3, h4⟩ := h
  exact Sep.split ⟨m1, m2, h1, h2, h3, k, h4⟩
theorem Beside.one {R : List Asn} {m1 m : Mem} (h : Beside R m1 m) {A : Asn} (k : A m1) : Sep (A :: R) m := by
  obtain ⟨m2, h1, h2, h3, h4⟩ := h
  exact ⟨m1, m2, h1, h2, h3, k, h4⟩
def Mem.without (m m1 : Mem) : Mem := fun k => if (m1 k).isSome then none else m k
theorem join_without {m m1 : Mem} (h : m1.le m) : m1.join (m.without m1) = m := by
  funext k
  simp only [Mem.join, Mem.without]
  cases hm : m1 k with
  | none => simp
  | some o => simp [h k o hm]
theorem apart_without {m m1 : Mem} : m1.apart (m.without m1) := fun k => by
  simp only [Mem.without]
  cases hm : m1 k with
  | none => exact .inl rfl
  | some o => exact .inr (by simp)
theorem le_without {m m1 m2 : Mem} (h : m1.apart m2) (h2 : m2.le m) : m2.le (m.without m1) := fun k o hk => by
  simp only [Mem.without]
  rcases h k with h0 | h0
  · simp [h0, h2 k o hk]
  · rw [h0] at hk; cases hk
/-- A call on the first part. -/
theorem Sep.calls {P : Program} {f : FuncId} {args : List Value} {K : Value → Mem → Prop} {A : Asn} {R : List Asn} {m : Mem} (h : Sep (A :: R) m) (hc : ∀ m1, A m1 → FCalls P f args m1 K) :
    FCalls P f args m fun v m' => ∃ m1, K v m1 ∧ Beside R m1 m' := by
  obtain ⟨m1, m2, k1, k2, k3, k4, k5⟩ := h
  have hf := (hc m1 k4).frame (m.without m1) apart_without
  rw [join_without k2] at hf
  refine hf.mono fun v m' ⟨m1', e, ha, hK⟩ => ⟨m1', hK, m.without m1, ha, ?_, ?_, k5.more (le_without k1 k3)⟩
  · rw [e]
    exact Mem.le_join_left
  · rw [e]
    exact Mem.le_join_right ha
theorem Sep.call {P : Program} {f : FuncId} {args : List Value} {K : Value → Mem → Prop} {L : List Asn} {m : Mem} (h : Sep L m) (j : Nat) {A : Asn} (hj : L[j]? = some A) (hc : ∀ m1, A m1 → FCalls P f args m1 K) :
    FCalls P f args m fun v m' => ∃ m1, K v m1 ∧ Beside (L.eraseIdx j) m1 m' := (h.move j hj).calls hc
/-- A call on the first n parts. -/
theorem Sep.calln {P : Program} {f : FuncId} {args : List Value} {K : Value → Mem → Prop} {L : List Asn} {m : Mem} (h : Sep L m) (n : Nat) (hc : ∀ m1, Sep (L.take n) m1 → FCalls P f args m1 K) :
    FCalls P f args m fun v m' => ∃ m1, K v m1 ∧ Beside (L.drop n) m1 m' := by
  have h1 : Sep (L.take n ++ L.drop n) m := by rw [List.take_append_drop]; exact h
  exact h1.group.calls hc
/-- A call on no part. -/
theorem Sep.call0 {P : Program} {f : FuncId} {args : List Value} {K : Value → Mem → Prop} {L : List Asn} {m : Mem} (h : Sep L m) (hc : FCalls P f args Mem.empty K) :
    FCalls P f args m fun v m' => ∃ m1, K v m1 ∧ Beside L m1 m' :=
  Sep.calls (A := fun m => m = Mem.empty) ⟨Mem.empty, m, fun _ => .inl rfl, fun _ _ h => (by cases h), Mem.le_refl m, rfl, h⟩ fun m1 h1 => h1 ▸ hc

theorem Sep.new' {L : List Asn} {m m2 : Mem} (h : Sep L m) {b e : Nat} {l : List Value} (hb : m b = none) (he : m2 = m.set b (.cells l.toArray e (0, 0))) : Sep (pt b l :: L) m2 := he ▸ h.new hb
theorem Sep.put' {L : List Asn} {m m2 : Mem} (h : Sep L m) (j : Nat) {b i : Nat} {l : List Value} {v : Value} (he : m2 = m.setCell ⟨b, i, none⟩ v) (hj : L[j]? = some (pt b l)) : Sep (L.set j (pt b (l.set i v))) m2 := he ▸ h.put j v hj
/-- What a call leaves that only makes something new. -/
theorem Sep.on {L N : List Asn} {m m' : Mem} (h : Sep L m) (k : Sep (N ++ [kp m]) m') : Sep (N ++ L) m' := by
  obtain ⟨m1, m2, h1, h2, h3, h4, m3, m4, h5, h6, h7, h8, h9⟩ := k.group
  refine Sep.split ⟨m1, m2, h1, h2, h3, h4, h.more (Mem.le_trans (show m.le m3 from h8) h6)⟩

/-! ### rows of values that can be read -/
theorem add_add {p : Addr} {i j : Nat} : (p.add i).add j = p.add (i + j) := by
  unfold Addr.add
  by_cases hj : j = 0
  · simp [hj]
  · by_cases hi : i = 0
    · simp [hi, hj]
    · rw [if_neg hj, if_neg hi, if_neg (by omega)]
      simp [Nat.add_assoc]
/-- vs can be read from A on. -/
def Rd (m : Mem) (A : Option Addr) (vs : List Value) : Prop := vs = [] ∨ ∃ p, A = some p ∧ ∀ k v, vs[k]? = some v → m.cell (p.add k) = some v
theorem Rd.nil {m : Mem} {A : Option Addr} : Rd m A [] := .inl rfl
theorem Rd.more {m m' : Mem} {A : Option Addr} {vs : List Value} (h : Rd m A vs) (hm : m.le m') : Rd m' A vs :=
  h.imp_right fun ⟨p, h1, h2⟩ => ⟨p, h1, fun k v hk => Mem.le_cell hm (h2 k v hk)⟩
theorem Rd.at {m : Mem} {A : Option Addr} {vs : List Value} {k : Nat} {v : Value} (h : Rd m A vs) (hv : vs[k]? = some v) : ∃ p, A = some p ∧ m.cell (p.add k) = some v := by
  rcases h with rfl | ⟨p, rfl, h⟩
  · simp at hv
  · exact ⟨p, rfl, h k v hv⟩
/-- An element of several cells: its cell at off. -/
theorem Rd.atf {m : Mem} {A : Option Addr} {vs : List Value} {k off : Nat} {v : Value} (h : Rd m A vs) (hv : vs[k + off]? = some v) : ∃ p, A = some p ∧ m.cell ((p.add k).add off) = some v := by
  obtain ⟨p, h1, h2⟩ := h.at hv
  exact ⟨p, h1, by rw [add_add]; exact h2⟩
theorem Rd.holds {m : Mem} {A : Option Addr} {vs : List Value} {n : Nat} (h : Rd m A vs) (hn : vs.length = n) : n = 0 ∨ ∃ p, A = some p ∧ m.holds p vs := by
  rcases h with rfl | ⟨p, rfl, h⟩
  · exact .inl hn.symm
  · exact .inr ⟨p, rfl, h⟩
theorem Rd.take {m : Mem} {A : Option Addr} {vs : List Value} (h : Rd m A vs) (n : Nat) : Rd m A (vs.take n) := by
  rcases h with rfl | ⟨p, rfl, h⟩
  · exact .inl (by simp)
  · refine .inr ⟨p, rfl, fun k v hk => h k v ?_⟩
    rw [List.getElem?_take] at hk
    split at hk
    · exact hk
    · cases hk
theorem Rd.drop {m : Mem} {p : Addr} {vs : List Value} (h : Rd m (some p) vs) (n : Nat) : Rd m (some (p.add n)) (vs.drop n) := by
  rcases h with rfl | ⟨q, hq, h⟩
  · exact .inl (by simp)
  · cases hq
    refine .inr ⟨_, rfl, fun k v hk => ?_⟩
    rw [add_add]
    exact h _ v (by rw [List.getElem?_drop] at hk; exact hk)

/-! ### slices -/
/-- A slice of n elements of sz cells each, with room for c, in a block that it alone has. -/
def sl (A : Option Addr) (n c sz : Nat) (vs : List Value) : Asn := fun m =>
  vs.length = n * sz ∧ n ≤ c ∧ ((A = none ∧ c = 0) ∨ ∃ (b o : Nat) (l : List Value) (e : Nat), A = some ⟨b, o, none⟩ ∧ m b = some (.cells l.toArray e (0, 0)) ∧ o + c * sz ≤ l.length ∧ ∀ (k : Nat) v, vs[k]? = some v → l[o + k]? = some v)
theorem sl_nil {m : Mem} {sz : Nat} : sl none 0 0 sz [] m := ⟨by simp, Nat.le_refl _, .inl ⟨rfl, rfl⟩⟩
theorem sl_len {m : Mem} {A : Option Addr} {n c sz : Nat} {vs : List Value} (h : sl A n c sz vs m) : vs.length = n * sz ∧ n ≤ c := ⟨h.1, h.2.1⟩
theorem sl_more {m m' : Mem} {A : Option Addr} {n c sz : Nat} {vs : List Value} (h : sl A n c sz vs m) (hm : m.le m') : sl A n c sz vs m' := by
  obtain ⟨h1, h2, h3⟩ := h
  exact ⟨h1, h2, h3.imp_right fun ⟨b, o, l, e, k1, k2, k3⟩ => ⟨b, o, l, e, k1, hm _ _ k2, k3⟩⟩
theorem sl_rd {m : Mem} {A : Option Addr} {n c sz : Nat} {vs : List Value} (h : sl A n c sz vs m) : Rd m A vs := by
  obtain ⟨h1, h2, h3⟩ := h
  rcases h3 with ⟨rfl, rfl⟩ | ⟨b, o, l, e, rfl, k2, k3, k4⟩
  · refine .inl (List.length_eq_zero_iff.1 ?_)
    rw [h1, show n = 0 by omega, Nat.zero_mul]
  · refine .inr ⟨_, rfl, fun k v hk => ?_⟩
    rw [add_mk]
    exact Blk.cell ⟨e, k2⟩ (k4 k v hk)
theorem sl_olds {m : Mem} {A : Option Addr} {n c sz : Nat} {vs : List Value} (h : sl A n c sz vs m) : (n * sz = 0 ∧ A = none) ∨ ∃ p, A = some p ∧ m.holds p vs := by
  obtain ⟨h1, h2, h3⟩ := h
  rcases h3 with ⟨rfl, rfl⟩ | ⟨b, o, l, e, rfl, k2, k3, k4⟩
  · exact .inl ⟨by rw [show n = 0 by omega, Nat.zero_mul], rfl⟩
  · refine .inr ⟨_, rfl, fun k v hk => ?_⟩
    rw [add_mk]
    exact Blk.cell ⟨e, k2⟩ (k4 k v hk)
theorem Sep.asn {L : List Asn} {m : Mem} (h : Sep L m) (j : Nat) {A : Option Addr} {n c sz : Nat} {vs : List Value} (hj : L[j]? = some (sl A n c sz vs)) : sl A n c sz vs m := by
  obtain ⟨m1, h1, h2⟩ := h.get j hj
  exact sl_more h2 h1
theorem Sep.rd {L : List Asn} {m : Mem} (h : Sep L m) (j : Nat) {A : Option Addr} {n c sz : Nat} {vs : List Value} (hj : L[j]? = some (sl A n c sz vs)) : Rd m A vs := sl_rd (h.asn j hj)
/-- Some cells are written over. -/
theorem Sep.sts {L : List Asn} {m : Mem} (h : Sep L m) (j : Nat) {A : Option Addr} {n c sz k : Nat} {vs : List Value} (cs : List Value) (hj : L[j]? = some (sl A n c sz vs)) (hk : k + cs.length ≤ vs.length) (h0 : 0 < cs.length) :
    ∃ p, A = some p ∧ m.room (p.add k) cs.length ∧ Sep (L.set j (sl A n c sz (writeAt vs k cs))) (m.setCells (p.add k) 0 cs) := by
  have hA := h.asn j hj
  obtain ⟨h1, h2, h3⟩ := hA
  rcases h3 with ⟨rfl, rfl⟩ | ⟨b, o, l, e, rfl, k2, k3, k4⟩
  · rw [show n = 0 by omega, Nat.zero_mul] at h1
    omega
  · have hlen : o + vs.length ≤ l.length := by
      have := Nat.mul_le_mul_right sz h2
      omega
    refine ⟨_, rfl, ?_, ?_⟩
    · rw [add_mk]
      exact Blk.room ⟨e, k2⟩ (by omega)
    · rw [add_mk]
      refine h.puts j hj (fun m1 hm hA => ?_) fun m1 hm hA => ?_
      · obtain ⟨g1, g2, g3⟩ := hA
        rcases g3 with ⟨hh, _⟩ | ⟨b', o', l', e', hh, q2, _⟩
        · cases hh
        · cases hh
          rw [q2]
          simp
      · obtain ⟨g1, g2, g3⟩ := hA
        rcases g3 with ⟨hh, _⟩ | ⟨b', o', l', e', hh, q2, q3, q4⟩
        · cases hh
        · cases hh
          have hlen' : o + vs.length ≤ l'.length := by
            have := Nat.mul_le_mul_right sz g2
            omega
          obtain ⟨e2, h4⟩ := Blk.puts (i := o + k) (j := 0) cs (m := m1) (b := b) (l := l') ⟨e', q2⟩
          refine ⟨by rw [writeAt_len, g1], g2, .inr ⟨b, o, _, e2, rfl, h4, by rw [writeAt_len]; exact q3, fun i u hu => ?_⟩⟩
          rw [Nat.add_zero, writeAt_get _ _ _ _ (by omega)]
          rw [writeAt_get _ _ _ _ hk] at hu
          by_cases hc : k ≤ i ∧ i < k + cs.length
          · rw [if_pos hc] at hu
            rw [if_pos (by omega), show o + i - (o + k) = i - k by omega]
            exact hu
          · rw [if_neg hc] at hu
            rw [if_neg (by omega)]
            exact q4 i u hu
theorem setCells1 {m : Mem} {p : Addr} {v : Value} : m.setCells p 0 [v] = m.setCell p v := by
  simp only [Mem.setCells, Addr.add, if_true]
theorem room1 {m : Mem} {p : Addr} (h : m.room p 1) : (∃ u, m.cell p = some u) ∧ m.fz p = false := by
  have := h 0 (by omega)
  simpa [Addr.add] using this
theorem writeAt1 {l : List Value} {i : Nat} {v : Value} : writeAt l i [v] = l.set i v := rfl
theorem Sep.st {L : List Asn} {m : Mem} (h : Sep L m) (j : Nat) {A : Option Addr} {n c sz k : Nat} {vs : List Value} (v : Value) (hj : L[j]? = some (sl A n c sz vs)) (hk : k < vs.length) :
    ∃ p, A = some p ∧ ((∃ u, m.cell (p.add k) = some u) ∧ m.fz (p.add k) = false) ∧ Sep (L.set j (sl A n c sz (vs.set k v))) (m.setCell (p.add k) v) := by
  obtain ⟨p, h1, h2, h3⟩ := h.sts j [v] hj (k := k) (by simp; omega) (by simp)
  rw [setCells1, writeAt1] at h3
  exact ⟨p, h1, room1 h2, h3⟩
theorem Sep.stf {L : List Asn} {m : Mem} (h : Sep L m) (j : Nat) {A : Option Addr} {n c sz k off : Nat} {vs : List Value} (v : Value) (hj : L[j]? = some (sl A n c sz vs)) (hk : k + off < vs.length) :
    ∃ p, A = some p ∧ ((∃ u, m.cell ((p.add k).add off) = some u) ∧ m.fz ((p.add k).add off) = false) ∧ Sep (L.set j (sl A n c sz (vs.set (k + off) v))) (m.setCell ((p.add k).add off) v) := by
  obtain ⟨p, h1, h2, h3⟩ := h.st j v hj hk
  refine ⟨p, h1, ?_, ?_⟩ <;> rw [add_add] <;> assumption
theorem sl_cut {m : Mem} {A : Option Addr} {n c sz : Nat} {vs : List Value} (h : sl A n c sz vs m) {k : Nat} (hk : k ≤ n) : sl A k c sz (vs.take (k * sz)) m := by
  obtain ⟨h1, h2, h3⟩ := h
  have := Nat.mul_le_mul_right sz hk
  refine ⟨by rw [List.length_take]; omega, by omega, h3.imp_right fun ⟨b, o, l, e, k1, k2, k3, k4⟩ => ⟨b, o, l, e, k1, k2, k3, fun i v hv => k4 i v ?_⟩⟩
  rw [List.getElem?_take] at hv
  split at hv
  · exact hv
  · cases hv
theorem slice_lo0 {A : Option Addr} {c sz : Nat} : (if c = Int.toNat 0 then A else Option.map (fun p => p.add (Int.toNat 0 * sz)) A) = A := by
  split
  · rfl
  · cases A with
    | none => rfl
    | some p => simp [Addr.add]
/-- The slice from its k-th element on. -/
theorem sl_from {m : Mem} {A : Option Addr} {n c sz : Nat} {vs : List Value} (h : sl A n c sz vs m) {k : Nat} (hk : k ≤ n) : sl (if c = k then A else A.map fun p => p.add (k * sz)) (n - k) (c - k) sz (vs.drop (k * sz)) m := by
  obtain ⟨h1, h2, h3⟩ := h
  have h5 := Nat.mul_le_mul_right sz hk
  refine ⟨by rw [List.length_drop, h1, Nat.sub_mul], by omega, ?_⟩
  rcases h3 with ⟨rfl, rfl⟩ | ⟨b, o, l, e, rfl, k2, k3, k4⟩
  · left
    refine ⟨by split <;> rfl, by omega⟩
  · right
    by_cases hck : c = k
    · have h6 : vs.drop (k * sz) = [] := List.drop_eq_nil_iff.2 (by rw [h1]; exact Nat.mul_le_mul_right sz (by omega))
      rw [if_pos hck]
      refine ⟨b, o, l, e, rfl, k2, by rw [hck, Nat.sub_self, Nat.zero_mul]; omega, fun i v hv => ?_⟩
      rw [h6] at hv
      simp at hv
    · rw [if_neg hck]
      have h7 : k * sz + (c - k) * sz = c * sz := by rw [← Nat.add_mul]; congr 1; omega
      refine ⟨b, o + k * sz, l, e, by rw [Option.map_some, add_mk], k2, by omega, fun i v hv => ?_⟩
      rw [List.getElem?_drop] at hv
      rw [Nat.add_assoc]
      exact k4 _ v hv
theorem zeros_len {T : Tbl} {e : Nat} (hz : (T.at e).zero.list.length = (T.at e).size) (q : Nat) : (zerosOf T e q).list.length = q * (T.at e).size := by
  unfold zerosOf
  split
  · rename_i h
    rw [h] at hz
    simp only [LC.list, List.length_cons, List.length_nil] at hz
    rw [← hz]
    simp [LC.list, intCells]
  · rename_i h
    rw [h] at hz
    simp only [LC.list, List.length_cons, List.length_nil] at hz
    rw [← hz]
    simp [LC.list, boolCells]
  · show ((List.range q).flatMap fun _ => (T.at e).zero.list).length = _
    rw [List.length_flatMap, List.map_const', List.sum_replicate_nat, List.length_range, hz]
/-- What an append to a slice of one's own asks, and what it leaves. -/
theorem Sep.app {T : Tbl} {e : Nat} {L : List Asn} {m : Mem} (h : Sep L m) (j : Nat) {A : Option Addr} {n c : Nat} {vs : List Value} (hj : L[j]? = some (sl A n c (T.at e).size vs)) {B : Option Addr} {k : Nat} {news : List Value}
    (hn : news.length = k * (T.at e).size) (hB : k * (T.at e).size = 0 ∨ ∃ p, B = some p ∧ m.holds p news) (one : oneCells news = true) (hbytes : Nat.blt 0 (T.at e).bytes = true) (hcap : 2 * (n + k) * (T.at e).bytes ≤ 2 ^ 48) (hz : (T.at e).zero.list.length = (T.at e).size) :
    AppOk T e m A n c B k news vs ∧ ∀ A' c' m2, AppR T e m A n c k news vs A' c' m2 → Sep (L.set j (sl A' (n + k) c' (T.at e).size (vs ++ news))) m2 := by
  have hA := h.asn j hj
  have hlen := hA.1
  have hnc := hA.2.1
  refine ⟨⟨hn, hB, fun hle => ?_, fun hlt => ⟨hbytes, ?_, hlen, sl_olds hA⟩⟩, fun A' c' m2 hR => ?_⟩
  · obtain ⟨h1, h2, h3⟩ := hA
    rcases h3 with ⟨rfl, rfl⟩ | ⟨b, o, l, e', rfl, k2, k3, k4⟩
    · exact .inl rfl
    · refine .inr ⟨_, rfl, ?_, one⟩
      rw [add_mk]
      refine Blk.room ⟨e', k2⟩ ?_
      have := Nat.mul_le_mul_right (T.at e).size hle
      rw [Nat.add_mul] at this
      omega
  · exact Nat.le_trans (Nat.mul_le_mul_right _ (nextslicecap_le hlt)) hcap
  · rcases hR with ⟨hle, rfl, rfl, hR⟩ | ⟨hlt, b, hcap', hb, rfl, rfl⟩
    · rcases hR with ⟨hA0, rfl⟩ | ⟨p, hp, rfl⟩
      · refine h.turn j hj fun m1 hm g => ?_
        obtain ⟨g1, g2, g3⟩ := g
        rcases g3 with ⟨_, g4⟩ | ⟨b', o', l', e', hh, _⟩
        · have hk0 : k = 0 := by omega
          subst hk0
          have : news = [] := List.length_eq_zero_iff.1 (by rw [hn, Nat.zero_mul])
          subst this
          exact ⟨by simpa using g1, by omega, .inl ⟨hA0, g4⟩⟩
        · rw [hA0] at hh; cases hh
      · obtain ⟨h1, h2, h3⟩ := hA
        rcases h3 with ⟨hh, _⟩ | ⟨b, o, l, e', hh, k2, k3, k4⟩
        · rw [hh] at hp; cases hp
        · rw [hh] at hp
          cases hp
          subst hh
          rw [add_mk]
          refine h.puts j hj (fun m1 hm g => ?_) fun m1 hm g => ?_
          · obtain ⟨g1, g2, g3⟩ := g
            rcases g3 with ⟨hh, _⟩ | ⟨b', o', l', e', hh, q2, _⟩
            · cases hh
            · cases hh
              rw [q2]
              simp
          · obtain ⟨g1, g2, g3⟩ := g
            rcases g3 with ⟨hh, _⟩ | ⟨b', o', l', e', hh, q2, q3, q4⟩
            · cases hh
            · cases hh
              have h5 := Nat.mul_le_mul_right (T.at e).size hle
              rw [Nat.add_mul] at h5
              obtain ⟨e2, h4⟩ := Blk.puts (i := o + n * (T.at e).size) (j := 0) news (m := m1) (b := b) (l := l') ⟨e', q2⟩
              refine ⟨by rw [List.length_append, g1, hn, Nat.add_mul], hle, .inr ⟨b, o, _, e2, rfl, h4, by rw [writeAt_len]; exact q3, fun i u hu => ?_⟩⟩
              rw [Nat.add_zero, writeAt_get _ _ _ _ (by omega)]
              rcases Nat.lt_or_ge i vs.length with hi | hi
              · rw [List.getElem?_append_left hi] at hu
                rw [if_neg (by omega)]
                exact q4 i u hu
              · rw [List.getElem?_append_right hi] at hu
                have := (List.getElem?_eq_some_iff.1 hu).1
                rw [if_pos (by omega), show o + i - (o + n * (T.at e).size) = i - vs.length by omega]
                exact hu
    · have h1 := (h.new (e := e) (l := vs ++ news ++ (zerosOf T e (c' - (n + k))).list) hb).drop (j + 1)
      have h2 : Sep (pt b (vs ++ news ++ (zerosOf T e (c' - (n + k))).list) :: L.eraseIdx j) (m.set b (.cells (vs ++ news ++ (zerosOf T e (c' - (n + k))).list).toArray e (0, 0))) := h1
      rw [← eraseIdx_insert hj]
      refine Sep.back (h2.turn 0 rfl fun m1 hm ⟨e', g⟩ => ?_) (len_erase hj)
      refine ⟨by rw [List.length_append, hlen, hn, Nat.add_mul], hcap', .inr ⟨b, 0, _, e', rfl, g, ?_, fun i u hu => ?_⟩⟩
      · rw [List.length_append, List.length_append, hlen, hn, zeros_len hz, ← Nat.add_mul, ← Nat.add_mul]
        rw [Nat.zero_add]
        exact Nat.mul_le_mul_right _ (by omega)
      · rw [Nat.zero_add, List.getElem?_append_left (List.getElem?_eq_some_iff.1 hu).1]
        exact hu
/-- A new block is a slice. -/
theorem Sep.slOf {L : List Asn} {m : Mem} (h : Sep L m) (j : Nat) {b n c sz : Nat} {l vs : List Value} (hj : L[j]? = some (pt b l)) (hv : vs.length = n * sz) (hn : n ≤ c) (hl : c * sz ≤ l.length) (hp : ∀ (k : Nat) v, vs[k]? = some v → l[k]? = some v) : Sep (L.set j (sl (some ⟨b, 0, none⟩) n c sz vs)) m :=
  h.turn j hj fun m1 _ ⟨e, g⟩ => ⟨hv, hn, .inr ⟨b, 0, l, e, rfl, g, by omega, fun k v hk => by rw [Nat.zero_add]; exact hp k v hk⟩⟩

/-! ### elements of several cells -/
theorem flat_len {α : Type} {f : α → List Value} {sz : Nat} (hf : ∀ x, (f x).length = sz) : ∀ xs : List α, (xs.flatMap f).length = xs.length * sz
  | [] => by simp
  | x :: r => by rw [List.flatMap_cons, List.length_append, hf, flat_len hf r, List.length_cons, Nat.add_mul]; omega
theorem flat_get {α : Type} {f : α → List Value} {sz : Nat} (hf : ∀ x, (f x).length = sz) : ∀ {xs : List α} {k o : Nat} {x : α}, xs[k]? = some x → o < sz → (xs.flatMap f)[k * sz + o]? = (f x)[o]?
  | [], _, _, _, h, _ => by simp at h
  | y :: r, 0, o, x, h, ho => by
    simp only [List.getElem?_cons_zero, Option.some.injEq] at h
    subst h
    rw [List.flatMap_cons, Nat.zero_mul, Nat.zero_add, List.getElem?_append_left (by rw [hf]; exact ho)]
  | y :: r, k + 1, o, x, h, ho => by
    simp only [List.getElem?_cons_succ] at h
    rw [List.flatMap_cons, List.getElem?_append_right (by rw [hf, Nat.add_mul]; omega), hf, ← flat_get hf h ho]
    congr 1
    rw [Nat.add_mul]
    omega
theorem flat_write {α : Type} {f : α → List Value} {sz : Nat} (hf : ∀ x, (f x).length = sz) {xs : List α} {k o : Nat} {x y : α} {cs : List Value} (hx : xs[k]? = some x) (ho : o + cs.length ≤ sz) (hy : writeAt (f x) o cs = f y) : writeAt (xs.flatMap f) (k * sz + o) cs = (xs.set k y).flatMap f := by
  have hk := (List.getElem?_eq_some_iff.1 hx).1
  have hlen := flat_len hf xs
  have hle : (k + 1) * sz ≤ xs.length * sz := Nat.mul_le_mul_right sz hk
  rw [Nat.add_mul] at hle
  apply List.ext_getElem?
  intro i
  rw [writeAt_get _ _ _ _ (by omega)]
  by_cases h0 : sz = 0
  · subst h0
    have h1 : cs.length = 0 := by omega
    rw [if_neg (by omega), List.getElem?_eq_none (by rw [hlen]; omega), List.getElem?_eq_none (by rw [flat_len hf]; omega)]
  · by_cases hi : i < xs.length * sz
    · have hq : i / sz < xs.length := Nat.div_lt_of_lt_mul (by rw [Nat.mul_comm]; exact hi)
      have hr : i % sz < sz := Nat.mod_lt _ (by omega)
      have hiq : i = (i / sz) * sz + i % sz := by have := Nat.div_add_mod i sz; rw [Nat.mul_comm] at this; omega
      generalize i / sz = q at *
      generalize i % sz = r at *
      subst hiq
      by_cases hqk : q = k
      · subst hqk
        rw [flat_get hf (xs := xs.set q y) (x := y) (by rw [List.getElem?_set_self hk]) hr, ← hy, writeAt_get _ _ _ _ (by rw [hf]; exact ho)]
        by_cases hc : o ≤ r ∧ r < o + cs.length
        · rw [if_pos (by omega), if_pos hc]
          congr 1
          omega
        · rw [if_neg (by omega), if_neg hc, flat_get hf hx hr]
      · obtain ⟨z, hz⟩ : ∃ z, xs[q]? = some z := ⟨_, List.getElem?_eq_getElem hq⟩
        have hne : ¬ (k * sz + o ≤ q * sz + r ∧ q * sz + r < k * sz + o + cs.length) := by
          intro hc
          rcases Nat.lt_or_gt_of_ne hqk with h1 | h1
          · have := Nat.mul_le_mul_right sz (show q + 1 ≤ k by omega)
            rw [Nat.add_mul] at this
            omega
          · have := Nat.mul_le_mul_right sz (show k + 1 ≤ q by omega)
            rw [Nat.add_mul] at this
            omega
        rw [if_neg hne, flat_get hf hz hr, flat_get hf (xs := xs.set k y) (x := z) (by rw [List.getElem?_set_ne (Ne.symm hqk)]; exact hz) hr]
    · have : cs.length ≤ sz := by omega
      rw [if_neg (by omega), List.getElem?_eq_none (by omega), List.getElem?_eq_none (by rw [flat_len hf]; simpa using hi)]
end Go.Mv
