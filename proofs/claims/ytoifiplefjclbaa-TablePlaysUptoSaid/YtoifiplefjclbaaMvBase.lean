/- Mv: a second way to walk Go code: memory as a map from some blocks to objects, statements of a call that bear a frame, and what is known of a frame's slots as a list. -/
import Derived.CallsIn
import Derived.TacticsIn
import Derived.OrdersIn
import Derived.Deep.Quiet
import Derived.Laws.World
import Derived.RangeFuncRecord
namespace Go.Mv
open Go

/-! ### memory -/
abbrev Mem := Nat → Option Obj
def Mem.cell (m : Mem) (a : Addr) : Option Value :=
  match m a.block with
  | some (.cells c _ _) => if a.spot.isSome then none else c[a.off]?
  | _ => none
def Mem.fz (m : Mem) (a : Addr) : Bool :=
  match m a.block with
  | some (.cells _ _ (lo, hi)) => lo ≤ a.off && a.off < hi
  | _ => false
def Mem.setCell (m : Mem) (a : Addr) (v : Value) : Mem := fun b =>
  if b = a.block then
    match m b with
    | some (.cells c e f) => some (.cells (if a.spot.isSome then c else c.setIfInBounds a.off v) e f)
    | o => o
  else m b
def Mem.set (m : Mem) (b : Nat) (o : Obj) : Mem := fun b' => if b' = b then some o else m b'
def Mem.empty : Mem := fun _ => none
def Mem.sub (m : Mem) (w : World) : Prop := ∀ b o, m b = some o → w.heap[b]? = some o

theorem Mem.sub_lt {m : Mem} {w : World} (h : m.sub w) {b : Nat} (hb : m b ≠ none) : b < w.heap.size := by
  cases hm : m b with
  | none => exact absurd hm hb
  | some o => exact (Array.getElem?_eq_some_iff.1 (h b o hm)).1
theorem Mem.sub_cell {m : Mem} {w : World} (h : m.sub w) {a : Addr} {v : Value} (hc : m.cell a = some v) : w.cell? a = some v := by
  unfold Mem.cell at hc
  unfold World.cell?
  cases hm : m a.block with
  | none => simp [hm] at hc
  | some o => rw [h _ _ hm]; rw [hm] at hc; cases o <;> first | exact hc | simp at hc
theorem Mem.sub_fz {m : Mem} {w : World} (h : m.sub w) {a : Addr} {v : Value} (hc : m.cell a = some v) : w.frozen? a = m.fz a := by
  unfold Mem.cell at hc
  unfold World.frozen? Mem.fz
  cases hm : m a.block with
  | none => simp [hm] at hc
  | some o => rw [h _ _ hm]; cases o <;> rfl
theorem Mem.cell_dom {m : Mem} {a : Addr} {v : Value} (hc : m.cell a = some v) : m a.block ≠ none := by
  unfold Mem.cell at hc
  intro h
  simp [h] at hc
theorem heap_alloc (w : World) (o : Obj) (k : Nat) : (w.alloc o).heap[k]? = if k = w.heap.size then some o else w.heap[k]? := by
  show (w.heap.push o)[k]? = _
  rw [Array.getElem?_push]
theorem size_alloc (w : World) (o : Obj) : (w.alloc o).heap.size = w.heap.size + 1 := by
  show (w.heap.push o).size = _
  simp
theorem heap_setCell (w : World) (a : Addr) (v : Value) (k : Nat) : (w.setCell a v).heap[k]? =
    if k = a.block then (w.heap[k]?).map fun
      | .cells c elem frozen => .cells (if a.spot.isSome then c else c.setIfInBounds a.off v) elem frozen
      | o => o
    else w.heap[k]? := by
  simp only [World.setCell, Array.getElem?_modify]
  by_cases h : a.block = k
  · simp [h]
    rfl
  · rw [if_neg h, if_neg (fun e => h e.symm)]
theorem size_setCell (w : World) (a : Addr) (v : Value) : (w.setCell a v).heap.size = w.heap.size := by simp [World.setCell]

/-! ### the frame of a run: from m0 in w0 to m in w -/
structure Frame (m0 : Mem) (w0 : World) (m : Mem) (w : World) : Prop where
  os : w.os = w0.os
  tape : w.tape = w0.tape ∧ w0.drawn ≤ w.drawn
  output : w.output = w0.output
  size : w0.heap.size ≤ w.heap.size
  sub : m.sub w
  keep : ∀ b, b < w0.heap.size → m0 b = none → w.heap[b]? = w0.heap[b]?
  dom : ∀ b, m b ≠ none → m0 b ≠ none ∨ w0.heap.size ≤ b
theorem Frame.refl {m : Mem} {w : World} (h : m.sub w) : Frame m w m w := ⟨rfl, ⟨rfl, Nat.le_refl _⟩, rfl, Nat.le_refl _, h, fun _ _ _ => rfl, fun _ h => .inl h⟩
theorem Frame.trans {m0 m1 m2 : Mem} {w0 w1 w2 : World} (h : Frame m0 w0 m1 w1) (k : Frame m1 w1 m2 w2) : Frame m0 w0 m2 w2 := by
  refine ⟨k.os.trans h.os, ⟨k.tape.1.trans h.tape.1, Nat.le_trans h.tape.2 k.tape.2⟩, k.output.trans h.output, Nat.le_trans h.size k.size, k.sub, fun b hb hn => ?_, fun b hb => ?_⟩
  · have h1 : m1 b = none := by
      apply Classical.byContradiction
      intro hc
      rcases h.dom b hc with hd | hd
      · exact hd hn
      · omega
    rw [k.keep b (by have := h.size; omega) h1, h.keep b hb hn]
  · rcases k.dom b hb with hd | hd
    · exact h.dom b hd
    · exact .inr (Nat.le_trans h.size hd)
/-- Less may be remembered. -/
theorem Frame.less {m0 m m' : Mem} {w0 w : World} (h : Frame m0 w0 m w) (hs : ∀ b o, m' b = some o → m b = some o) : Frame m0 w0 m' w :=
  ⟨h.os, h.tape, h.output, h.size, fun b o hb => h.sub b o (hs b o hb), h.keep, fun b hb => by
    refine h.dom b ?_
    cases hm : m' b with
    | none => exact absurd hm hb
    | some o => rw [hs b o hm]; simp⟩
theorem Frame.setCell {m0 m : Mem} {w0 w : World} (h : Frame m0 w0 m w) {p : Addr} (v : Value) (hp : m p.block ≠ none) : Frame m0 w0 (m.setCell p v) (w.setCell p v) := by
  refine ⟨h.os, h.tape, h.output, by rw [size_setCell]; exact h.size, fun b o hb => ?_, fun b hb hn => ?_, fun b hb => ?_⟩
  · rw [heap_setCell]
    unfold Mem.setCell at hb
    by_cases hbp : b = p.block
    · rw [if_pos hbp] at hb ⊢
      cases hm : m b with
      | none => simp [hm] at hb
      | some o' =>
        rw [h.sub b o' hm]
        rw [hm] at hb
        cases o' <;> simpa using hb
    · rw [if_neg hbp] at hb ⊢
      exact h.sub b o hb
  · rw [heap_setCell]
    have hne : b ≠ p.block := by
      intro e
      subst e
      rcases h.dom _ hp with hd | hd
      · exact hd hn
      · omega
    rw [if_neg hne]
    exact h.keep b hb hn
  · refine h.dom b ?_
    intro hn
    apply hb
    unfold Mem.setCell
    by_cases hbp : b = p.block
    · rw [if_pos hbp, hn]
    · rw [if_neg hbp, hn]
theorem Frame.alloc {m0 m : Mem} {w0 w : World} (h : Frame m0 w0 m w) (o : Obj) : Frame m0 w0 (m.set w.heap.size o) (w.alloc o) := by
  refine ⟨h.os, h.tape, h.output, by rw [size_alloc]; have := h.size; omega, fun b o' hb => ?_, fun b hb hn => ?_, fun b hb => ?_⟩
  · rw [heap_alloc]
    unfold Mem.set at hb
    by_cases hbs : b = w.heap.size
    · rw [if_pos hbs] at hb ⊢; exact hb
    · rw [if_neg hbs] at hb ⊢; exact h.sub b o' hb
  · rw [heap_alloc, if_neg (by have := h.size; omega)]
    exact h.keep b hb hn
  · unfold Mem.set at hb
    by_cases hbs : b = w.heap.size
    · exact .inr (by rw [hbs]; exact h.size)
    · rw [if_neg hbs] at hb; exact h.dom b hb
/-- A new block that is not told. -/
theorem Frame.junk {m0 m : Mem} {w0 w : World} (h : Frame m0 w0 m w) (o : Obj) : Frame m0 w0 m (w.alloc o) := by
  refine (h.alloc o).less fun b o' hb => ?_
  unfold Mem.set
  rw [if_neg]
  · exact hb
  · intro e
    have := Mem.sub_lt h.sub (b := b) (by rw [hb]; simp)
    omega
/-- A store into a block that is not told, and that is new. -/
theorem Frame.junkSet {m0 m : Mem} {w0 w : World} (h : Frame m0 w0 m w) {p : Addr} (v : Value) (hp : m p.block = none) (hs : w0.heap.size ≤ p.block) : Frame m0 w0 m (w.setCell p v) := by
  refine ⟨h.os, h.tape, h.output, by rw [size_setCell]; exact h.size, fun b o hb => ?_, fun b hb hn => ?_, h.dom⟩
  · rw [heap_setCell, if_neg]
    · exact h.sub b o hb
    · intro e; subst e; rw [hp] at hb; cases hb
  · rw [heap_setCell, if_neg (by omega)]
    exact h.keep b hb hn
theorem Frame.drew {m0 m : Mem} {w0 w : World} (h : Frame m0 w0 m w) {n : Nat} (hn : w.drawn ≤ n) : Frame m0 w0 m { w with drawn := n } :=
  ⟨h.os, ⟨h.tape.1, Nat.le_trans h.tape.2 hn⟩, h.output, h.size, h.sub, h.keep, h.dom⟩

/-! ### calls -/
/-- A call: from every world that holds m, it returns, with what K says of the value and of the memory then; nothing else has turned. -/
def FCalls (P : Program) (f : FuncId) (args : List Value) (m : Mem) (K : Value → Mem → Prop) : Prop :=
  ∀ w, m.sub w → Calls P f args.toArray w fun e w' => ∃ v m', e = .returned v ∧ K v m' ∧ Frame m w m' w'
/-- A call of yield, of the loop whose record is l. -/
def YCalls (P : Program) (l : Nat) (args : List Value) (m : Mem) (K : Value → Mem → Prop) : Prop :=
  ∀ w, m.sub w → ∃ fn tmps assign body, (Instr.yield l args.toArray).run P w = .ok (.round l fn tmps assign body) w ∧
    RoundIn Fence.wide 0 P l fn tmps assign body w fun e w' => ∃ v m', e = .returned v ∧ K v m' ∧ Frame m w m' w'
theorem YCalls.mono {P : Program} {l : Nat} {args : List Value} {m : Mem} {K K' : Value → Mem → Prop} (h : YCalls P l args m K) (hk : ∀ v m', K v m' → K' v m') : YCalls P l args m K' := fun w hw => by
  obtain ⟨fn, tmps, assign, body, h1, h2⟩ := h w hw
  exact ⟨fn, tmps, assign, body, h1, h2.mono fun e w' ⟨v, m', he, hK, hF⟩ => ⟨v, m', he, hk v m' hK, hF⟩⟩
theorem FCalls.mono {P : Program} {f : FuncId} {args : List Value} {m : Mem} {K K' : Value → Mem → Prop} (h : FCalls P f args m K) (hk : ∀ v m', K v m' → K' v m') : FCalls P f args m K' :=
  fun w hw => (h w hw).mono fun _ _ ⟨v, m', he, hK, hF⟩ => ⟨v, m', he, hk v m' hK, hF⟩
def Mem.join (m f : Mem) : Mem := fun b => (m b).or (f b)
def Mem.apart (m f : Mem) : Prop := ∀ b, m b = none ∨ f b = none
/-- The frame rule. -/
theorem FCalls.frame {P : Program} {g : FuncId} {args : List Value} {m : Mem} {K : Value → Mem → Prop} (h : FCalls P g args m K) (f : Mem) (hd : m.apart f) :
    FCalls P g args (m.join f) fun v m' => ∃ m1, m' = Mem.join m1 f ∧ m1.apart f ∧ K v m1 := by
  intro w hw
  have hwm : m.sub w := fun b o hb => hw b o (by simp [Mem.join, hb])
  have hwf : f.sub w := fun b o hb => hw b o (by
    rcases hd b with h0 | h0
    · simp [Mem.join, h0, hb]
    · rw [h0] at hb; cases hb)
  refine (h w hwm).mono fun e w' ⟨v, m1, he, hK, hF⟩ => ?_
  have hap : m1.apart f := by
    intro b
    apply Classical.byContradiction
    intro hc
    simp only [not_or] at hc
    rcases hF.dom b hc.1 with hx | hx
    · rcases hd b with h0 | h0
      · exact hx h0
      · exact hc.2 h0
    · have := Mem.sub_lt hwf (b := b) hc.2
      omega
  refine ⟨v, Mem.join m1 f, he, ⟨m1, rfl, hap, hK⟩, hF.os, hF.tape, hF.output, hF.size, fun b o hb => ?_, fun b hb hn => ?_, fun b hb => ?_⟩
  · unfold Mem.join at hb
    cases h1 : m1 b with
    | some o' => rw [h1] at hb; simp at hb; subst hb; exact hF.sub b o' h1
    | none =>
      rw [h1] at hb
      simp at hb
      have hmb : m b = none := by
        rcases hd b with h0 | h0
        · exact h0
        · rw [h0] at hb; cases hb
      rw [hF.keep b (Mem.sub_lt hwf (by rw [hb]; simp)) hmb]
      exact hwf b o hb
  · refine hF.keep b hb ?_
    unfold Mem.join at hn
    cases hmb : m b with
    | none => rfl
    | some o => rw [hmb] at hn; simp at hn
  · unfold Mem.join at hb ⊢
    cases h1 : m1 b with
    | some o' =>
      rcases hF.dom b (by rw [h1]; simp) with hx | hx
      · left
        cases hmb : m b with
        | none => exact absurd hmb hx
        | some o => simp
      · exact .inr hx
    | none =>
      rw [h1] at hb
      left
      cases hmb : m b with
      | none => simpa using hb
      | some o => simp

/-! ### slots -/
inductive AV where
  | v (x : Value)
  | ints (k : IntKind) (xs : List Int)
  | bools (xs : List Bool)
  | loc (i off : Nat)
inductive LC where
  | cells (l : List Value)
  | ints (k : IntKind) (xs : List Int)
  | bools (xs : List Bool)
def intCells (k : IntKind) (xs : List Int) : List Value := xs.map (.int k)
def boolCells (xs : List Bool) : List Value := xs.map .bool
def LC.list : LC → List Value
  | .cells l => l
  | .ints k xs => intCells k xs
  | .bools xs => boolCells xs
/-- What an entry says of a slot's value. -/
def AV.is (ψ : Nat → Nat) (L : Nat) : AV → Value → Prop
  | .v x, y => y = x
  | .ints k xs, y => y = .agg (intCells k xs).toArray
  | .bools xs, y => y = .agg (boolCells xs).toArray
  | .loc i off, y => i < L ∧ y = .pointer (some ⟨ψ i, off, none⟩)
abbrev Env := List (Nat × AV)
def lk : Env → Nat → Option AV
  | [], _ => none
  | (i, v) :: e, t => if i = t then some v else lk e t
structure St where
  env : Env
  ls : List LC
  m : Mem
def St.put (S : St) (d : Option Nat) (x : AV) : St :=
  match d, S with
  | some d, ⟨env, ls, m⟩ => ⟨(d, x) :: env, ls, m⟩
  | none, S => S
theorem St.put_eq {S : St} {d : Option Nat} {x : AV} : S.put d x = match d with
  | some d => { S with env := (d, x) :: S.env }
  | none => S := by cases d <;> rfl

/-- A frame's deferred calls; blocks that are kept though memory does not tell them. -/
structure HD where
  defers : List Deferred
  hid : List (Nat × Obj)
structure Rel (ψ : Nat → Nat) (N : Nat) (D : HD) (m0 : Mem) (w0 : World) (S : St) (a : Act) (w : World) : Prop where
  size : a.tmps.size = N
  defers : a.defers = D.defers
  env : ∀ i x, lk S.env i = some x → x.is ψ S.ls.length (a.tmps.getD i undef)
  box : ∀ i c, S.ls[i]? = some c → ∃ e, w.heap[ψ i]? = some (.cells c.list.toArray e (0, 0)) ∧ S.m (ψ i) = none ∧ w0.heap.size ≤ ψ i
  inj : ∀ i j, i < S.ls.length → j < S.ls.length → ψ i = ψ j → i = j
  frame : Frame m0 w0 S.m w
  marks : ∀ b o, (b, o) ∈ D.hid → w.heap[b]? = some o ∧ S.m b = none ∧ ∀ i, i < S.ls.length → ψ i ≠ b
def Relx (N : Nat) (D : HD) (m0 : Mem) (w0 : World) (S : St) (a : Act) (w : World) : Prop := ∃ ψ, Rel ψ N D m0 w0 S a w

section
variable {ψ : Nat → Nat} {N : Nat} {D : HD} {m0 : Mem} {w0 : World} {S : St} {a : Act} {w : World}

theorem getD_put (t : Array Value) (d i : Nat) (v : Value) (hd : d < t.size) : (t.setIfInBounds d v).getD i undef = if d = i then v else t.getD i undef := by
  by_cases h : d = i
  · subst h
    simp [hd]
  · rw [if_neg h]
    simp only [Array.getD_eq_getD_getElem?]
    rw [Array.getElem?_setIfInBounds_ne h]
theorem Rel.put (h : Rel ψ N D m0 w0 S a w) {d : Option Nat} {x : AV} {v : Value} (hx : x.is ψ S.ls.length v) (hd : ∀ i, d = some i → i < N) : Rel ψ N D m0 w0 (S.put d x) (a.put d v) w := by
  cases d with
  | none => exact h
  | some d =>
    have hdN := hd d rfl
    refine ⟨by simp [Act.put, h.size], h.defers, fun i y hy => ?_, h.box, h.inj, h.frame, h.marks⟩
    simp only [Act.put]
    rw [getD_put _ _ _ _ (by rw [h.size]; exact hdN)]
    simp only [St.put_eq, lk] at hy
    by_cases hi : d = i
    · rw [if_pos hi] at hy ⊢
      cases hy
      exact hx
    · rw [if_neg hi] at hy ⊢
      exact h.env i y hy
theorem Rel.undef (h : Rel ψ N D m0 w0 S a w) (d : Option Nat) (hd : ∀ i, d = some i → i < N) : Rel ψ N D m0 w0 (S.put d (.v undef)) (a.put d undef) w := h.put rfl hd
end
end Go.Mv
