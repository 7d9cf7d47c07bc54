/- Texts that the claim leans on, joined: MvBase, MvVc, MvRel, MvOps, MvStep, MvCall, MvMain, MvDraw, MvRange. -/
import Derived.CallsIn
import Derived.TacticsIn
import Derived.OrdersIn
import Derived.Deep.Quiet
import Derived.Laws.World
import Derived.RangeFuncRecord
import Derived.Laws.Entries
import Derived.Laws.Cells
import Derived.Lib.Builder
import Derived.Laws.StructEq
import Derived.Laws.Pointers
import Derived.Laws.Cover3
import Derived.Laws.Build
import Derived.Laws.IdiomStrings
import Derived.StillTail
/- Mv: a second way to walk Go code: memory as a map from some blocks to objects, statements of a call that bear a frame, and what is known of a frame's slots as a list. -/
namespace Go.Mv
open Go
set_option linter.unusedVariables false

/-! ### memory -/
abbrev Mem := Nat → Option Obj
def Mem.cell (m : Mem) (a : Addr) : Option Value :=
  match m a.block with
  | some (.cells c _ _) => if a.spot.isSome then none else c[a.off]?
  | _ => none
def Mem.fz (m : Mem) (a : Addr) : Bool :=
  match m a.block with
  | some (.cells _ _ (lo, hi)) => lo ≤ a.off && a.off < hi
  | _ => false
def Mem.setCell (m : Mem) (a : Addr) (v : Value) : Mem := fun b =>
  if b = a.block then
    match m b with
    | some (.cells c e f) => some (.cells (if a.spot.isSome then c else c.setIfInBounds a.off v) e f)
    | o => o
  else m b
def Mem.set (m : Mem) (b : Nat) (o : Obj) : Mem := fun b' => if b' = b then some o else m b'
def Mem.empty : Mem := fun _ => none
def Mem.sub (m : Mem) (w : World) : Prop := ∀ b o, m b = some o → w.heap[b]? = some o

theorem Mem.sub_lt {m : Mem} {w : World} (h : m.sub w) {b : Nat} (hb : m b ≠ none) : b < w.heap.size := by
  cases hm : m b with
  | none => exact absurd hm hb
  | some o => exact (Array.getElem?_eq_some_iff.1 (h b o hm)).1
theorem Mem.sub_cell {m : Mem} {w : World} (h : m.sub w) {a : Addr} {v : Value} (hc : m.cell a = some v) : w.cell? a = some v := by
  unfold Mem.cell at hc
  unfold World.cell?
  cases hm : m a.block with
  | none => simp [hm] at hc
  | some o => rw [h _ _ hm]; rw [hm] at hc; cases o <;> first | exact hc | simp at hc
theorem Mem.sub_fz {m : Mem} {w : World} (h : m.sub w) {a : Addr} {v : Value} (hc : m.cell a = some v) : w.frozen? a = m.fz a := by
  unfold Mem.cell at hc
  unfold World.frozen? Mem.fz
  cases hm : m a.block with
  | none => simp [hm] at hc
  | some o => rw [h _ _ hm]; cases o <;> rfl
theorem Mem.cell_dom {m : Mem} {a : Addr} {v : Value} (hc : m.cell a = some v) : m a.block ≠ none := by
  unfold Mem.cell at hc
  intro h
  simp [h] at hc
theorem heap_alloc (w : World) (o : Obj) (k : Nat) : (w.alloc o).heap[k]? = if k = w.heap.size then some o else w.heap[k]? := by
  show (w.heap.push o)[k]? = _
  rw [Array.getElem?_push]
theorem size_alloc (w : World) (o : Obj) : (w.alloc o).heap.size = w.heap.size + 1 := by
  show (w.heap.push o).size = _
  simp
theorem heap_setCell (w : World) (a : Addr) (v : Value) (k : Nat) : (w.setCell a v).heap[k]? =
    if k = a.block then (w.heap[k]?).map fun
      | .cells c elem frozen => .cells (if a.spot.isSome then c else c.setIfInBounds a.off v) elem frozen
      | o => o
    else w.heap[k]? := by
  simp only [World.setCell, Array.getElem?_modify]
  by_cases h : a.block = k
  · simp [h]
    rfl
  · rw [if_neg h, if_neg (fun e => h e.symm)]
theorem size_setCell (w : World) (a : Addr) (v : Value) : (w.setCell a v).heap.size = w.heap.size := by simp [World.setCell]

/-- How many draws there have been; a copy of these texts that leans on contracts which do not tell that asks nothing here. -/
def DrawnLe (a b : Nat) : Prop := a ≤ b ∨ True
theorem DrawnLe.of {a b : Nat} (h : a ≤ b) : DrawnLe a b := by first | exact h | exact .inr trivial
theorem DrawnLe.refl {a : Nat} : DrawnLe a a := .of (Nat.le_refl _)
theorem DrawnLe.trans {a b c : Nat} (h : DrawnLe a b) (k : DrawnLe b c) : DrawnLe a c := by first | exact Nat.le_trans h k | exact .inr trivial
/-! ### the frame of a run: from m0 in w0 to m in w -/
structure Frame (m0 : Mem) (w0 : World) (m : Mem) (w : World) : Prop where
  os : w.os = w0.os
  tape : w.tape = w0.tape ∧ DrawnLe w0.drawn w.drawn
  output : w.output = w0.output
  size : w0.heap.size ≤ w.heap.size
  sub : m.sub w
  keep : ∀ b, b < w0.heap.size → m0 b = none → w.heap[b]? = w0.heap[b]?
  dom : ∀ b, m b ≠ none → m0 b ≠ none ∨ w0.heap.size ≤ b
theorem Frame.refl {m : Mem} {w : World} (h : m.sub w) : Frame m w m w := ⟨rfl, ⟨rfl, .refl⟩, rfl, Nat.le_refl _, h, fun _ _ _ => rfl, fun _ h => .inl h⟩
theorem Frame.trans {m0 m1 m2 : Mem} {w0 w1 w2 : World} (h : Frame m0 w0 m1 w1) (k : Frame m1 w1 m2 w2) : Frame m0 w0 m2 w2 := by
  refine ⟨k.os.trans h.os, ⟨k.tape.1.trans h.tape.1, DrawnLe.trans h.tape.2 k.tape.2⟩, k.output.trans h.output, Nat.le_trans h.size k.size, k.sub, fun b hb hn => ?_, fun b hb => ?_⟩
  · have h1 : m1 b = none := by
      apply Classical.byContradiction
      intro hc
      rcases h.dom b hc with hd | hd
      · exact hd hn
      · omega
    rw [k.keep b (by have := h.size; omega) h1, h.keep b hb hn]
  · rcases k.dom b hb with hd | hd
    · exact h.dom b hd
    · exact .inr (Nat.le_trans h.size hd)
/-- Less may be remembered. -/
theorem Frame.less {m0 m m' : Mem} {w0 w : World} (h : Frame m0 w0 m w) (hs : ∀ b o, m' b = some o → m b = some o) : Frame m0 w0 m' w :=
  ⟨h.os, h.tape, h.output, h.size, fun b o hb => h.sub b o (hs b o hb), h.keep, fun b hb => by
    refine h.dom b ?_
    cases hm : m' b with
    | none => exact absurd hm hb
    | some o => rw [hs b o hm]; simp⟩
theorem Frame.setCell {m0 m : Mem} {w0 w : World} (h : Frame m0 w0 m w) {p : Addr} (v : Value) (hp : m p.block ≠ none) : Frame m0 w0 (m.setCell p v) (w.setCell p v) := by
  refine ⟨h.os, h.tape, h.output, by rw [size_setCell]; exact h.size, fun b o hb => ?_, fun b hb hn => ?_, fun b hb => ?_⟩
  · rw [heap_setCell]
    unfold Mem.setCell at hb
    by_cases hbp : b = p.block
    · rw [if_pos hbp] at hb ⊢
      cases hm : m b with
      | none => simp [hm] at hb
      | some o' =>
        rw [h.sub b o' hm]
        rw [hm] at hb
        cases o' <;> simpa using hb
    · rw [if_neg hbp] at hb ⊢
      exact h.sub b o hb
  · rw [heap_setCell]
    have hne : b ≠ p.block := by
      intro e
      subst e
      rcases h.dom _ hp with hd | hd
      · exact hd hn
      · omega
    rw [if_neg hne]
    exact h.keep b hb hn
  · refine h.dom b ?_
    intro hn
    apply hb
    unfold Mem.setCell
    by_cases hbp : b = p.block
    · rw [if_pos hbp, hn]
    · rw [if_neg hbp, hn]
theorem Frame.alloc {m0 m : Mem} {w0 w : World} (h : Frame m0 w0 m w) (o : Obj) : Frame m0 w0 (m.set w.heap.size o) (w.alloc o) := by
  refine ⟨h.os, h.tape, h.output, by rw [size_alloc]; have := h.size; omega, fun b o' hb => ?_, fun b hb hn => ?_, fun b hb => ?_⟩
  · rw [heap_alloc]
    unfold Mem.set at hb
    by_cases hbs : b = w.heap.size
    · rw [if_pos hbs] at hb ⊢; exact hb
    · rw [if_neg hbs] at hb ⊢; exact h.sub b o' hb
  · rw [heap_alloc, if_neg (by have := h.size; omega)]
    exact h.keep b hb hn
  · unfold Mem.set at hb
    by_cases hbs : b = w.heap.size
    · exact .inr (by rw [hbs]; exact h.size)
    · rw [if_neg hbs] at hb; exact h.dom b hb
/-- A new block that is not told. -/
theorem Frame.junk {m0 m : Mem} {w0 w : World} (h : Frame m0 w0 m w) (o : Obj) : Frame m0 w0 m (w.alloc o) := by
  refine (h.alloc o).less fun b o' hb => ?_
  unfold Mem.set
  rw [if_neg]
  · exact hb
  · intro e
    have := Mem.sub_lt h.sub (b := b) (by rw [hb]; simp)
    omega
/-- A store into a block that is not told, and that is new. -/
theorem Frame.junkSet {m0 m : Mem} {w0 w : World} (h : Frame m0 w0 m w) {p : Addr} (v : Value) (hp : m p.block = none) (hs : w0.heap.size ≤ p.block) : Frame m0 w0 m (w.setCell p v) := by
  refine ⟨h.os, h.tape, h.output, by rw [size_setCell]; exact h.size, fun b o hb => ?_, fun b hb hn => ?_, h.dom⟩
  · rw [heap_setCell, if_neg]
    · exact h.sub b o hb
    · intro e; subst e; rw [hp] at hb; cases hb
  · rw [heap_setCell, if_neg (by omega)]
    exact h.keep b hb hn
theorem Frame.drew {m0 m : Mem} {w0 w : World} (h : Frame m0 w0 m w) {n : Nat} (hn : w.drawn ≤ n) : Frame m0 w0 m { w with drawn := n } :=
  ⟨h.os, ⟨h.tape.1, DrawnLe.trans h.tape.2 (.of hn)⟩, h.output, h.size, h.sub, h.keep, h.dom⟩

/-! ### calls -/
/-- A call: from every world that holds m, it returns, with what K says of the value and of the memory then; nothing else has turned. -/
def FCalls (P : Program) (f : FuncId) (args : List Value) (m : Mem) (K : Value → Mem → Prop) : Prop :=
  ∀ w, m.sub w → Calls P f args.toArray w fun e w' => ∃ v m', e = .returned v ∧ K v m' ∧ Frame m w m' w'
/-- A call of yield, of the loop whose record is l. -/
def YCalls (P : Program) (l : Nat) (args : List Value) (m : Mem) (K : Value → Mem → Prop) : Prop :=
  ∀ w, m.sub w → ∃ fn tmps assign body, (Instr.yield l args.toArray).run P w = .ok (.round l fn tmps assign body) w ∧
    RoundIn Fence.wide 0 P l fn tmps assign body w fun e w' => ∃ v m', e = .returned v ∧ K v m' ∧ Frame m w m' w'
theorem YCalls.mono {P : Program} {l : Nat} {args : List Value} {m : Mem} {K K' : Value → Mem → Prop} (h : YCalls P l args m K) (hk : ∀ v m', K v m' → K' v m') : YCalls P l args m K' := fun w hw => by
  obtain ⟨fn, tmps, assign, body, h1, h2⟩ := h w hw
  exact ⟨fn, tmps, assign, body, h1, h2.mono fun e w' ⟨v, m', he, hK, hF⟩ => ⟨v, m', he, hk v m' hK, hF⟩⟩
theorem FCalls.mono {P : Program} {f : FuncId} {args : List Value} {m : Mem} {K K' : Value → Mem → Prop} (h : FCalls P f args m K) (hk : ∀ v m', K v m' → K' v m') : FCalls P f args m K' :=
  fun w hw => (h w hw).mono fun _ _ ⟨v, m', he, hK, hF⟩ => ⟨v, m', he, hk v m' hK, hF⟩
/-- What a panic leaves, that nobody has recovered. -/
def chain (x : Value) : List PanicEntry := [{ v := x, recovered := false }]
/-- A call that may end by a panic. -/
def PCalls (P : Program) (f : FuncId) (args : List Value) (m : Mem) (K KP : Value → Mem → Prop) : Prop :=
  ∀ w, m.sub w → Calls P f args.toArray w fun e w' => ∃ v m', ((e = .returned v ∧ K v m') ∨ (e = .panicked (chain v) ∧ KP v m')) ∧ Frame m w m' w'
theorem PCalls.mono {P : Program} {f : FuncId} {args : List Value} {m : Mem} {K K' KP KP' : Value → Mem → Prop} (h : PCalls P f args m K KP) (hk : ∀ v m', K v m' → K' v m') (hp : ∀ v m', KP v m' → KP' v m') : PCalls P f args m K' KP' :=
  fun w hw => (h w hw).mono fun _ _ ⟨v, m', h, hF⟩ => ⟨v, m', h.imp (fun h => ⟨h.1, hk _ _ h.2⟩) (fun h => ⟨h.1, hp _ _ h.2⟩), hF⟩
theorem FCalls.p {P : Program} {f : FuncId} {args : List Value} {m : Mem} {K KP : Value → Mem → Prop} (h : FCalls P f args m K) : PCalls P f args m K KP :=
  fun w hw => (h w hw).mono fun _ _ ⟨v, m', he, hK, hF⟩ => ⟨v, m', .inl ⟨he, hK⟩, hF⟩
theorem PCalls.f {P : Program} {f : FuncId} {args : List Value} {m : Mem} {K : Value → Mem → Prop} (h : PCalls P f args m K fun _ _ => False) : FCalls P f args m K :=
  fun w hw => (h w hw).mono fun _ _ ⟨v, m', h, hF⟩ => by
    rcases h with ⟨he, hK⟩ | ⟨_, h⟩
    · exact ⟨v, m', he, hK, hF⟩
    · exact h.elim
/-- Memory may be forgotten at the end. -/
theorem PCalls.less {P : Program} {g : FuncId} {args : List Value} {m : Mem} {K KP : Value → Mem → Prop} (h : PCalls P g args m (fun v m' => ∃ m'', (∀ b o, m'' b = some o → m' b = some o) ∧ K v m'') fun v m' => ∃ m'', (∀ b o, m'' b = some o → m' b = some o) ∧ KP v m'') : PCalls P g args m K KP :=
  fun w hw => (h w hw).mono fun _ _ ⟨v, _, h, hF⟩ => by
    rcases h with ⟨he, m'', hs, hK⟩ | ⟨he, m'', hs, hK⟩
    · exact ⟨v, m'', .inl ⟨he, hK⟩, hF.less hs⟩
    · exact ⟨v, m'', .inr ⟨he, hK⟩, hF.less hs⟩
def Mem.join (m f : Mem) : Mem := fun b => (m b).or (f b)
def Mem.apart (m f : Mem) : Prop := ∀ b, m b = none ∨ f b = none
/-- The frame rule. -/
theorem FCalls.frame {P : Program} {g : FuncId} {args : List Value} {m : Mem} {K : Value → Mem → Prop} (h : FCalls P g args m K) (f : Mem) (hd : m.apart f) :
    FCalls P g args (m.join f) fun v m' => ∃ m1, m' = Mem.join m1 f ∧ m1.apart f ∧ K v m1 := by
  intro w hw
  have hwm : m.sub w := fun b o hb => hw b o (by simp [Mem.join, hb])
  have hwf : f.sub w := fun b o hb => hw b o (by
    rcases hd b with h0 | h0
    · simp [Mem.join, h0, hb]
    · rw [h0] at hb; cases hb)
  refine (h w hwm).mono fun e w' ⟨v, m1, he, hK, hF⟩ => ?_
  have hap : m1.apart f := by
    intro b
    apply Classical.byContradiction
    intro hc
    simp only [not_or] at hc
    rcases hF.dom b hc.1 with hx | hx
    · rcases hd b with h0 | h0
      · exact hx h0
      · exact hc.2 h0
    · have := Mem.sub_lt hwf (b := b) hc.2
      omega
  refine ⟨v, Mem.join m1 f, he, ⟨m1, rfl, hap, hK⟩, hF.os, hF.tape, hF.output, hF.size, fun b o hb => ?_, fun b hb hn => ?_, fun b hb => ?_⟩
  · unfold Mem.join at hb
    cases h1 : m1 b with
    | some o' => rw [h1] at hb; simp at hb; subst hb; exact hF.sub b o' h1
    | none =>
      rw [h1] at hb
      simp at hb
      have hmb : m b = none := by
        rcases hd b with h0 | h0
        · exact h0
        · rw [h0] at hb; cases hb
      rw [hF.keep b (Mem.sub_lt hwf (by rw [hb]; simp)) hmb]
      exact hwf b o hb
  · refine hF.keep b hb ?_
    unfold Mem.join at hn
    cases hmb : m b with
    | none => rfl
    | some o => rw [hmb] at hn; simp at hn
  · unfold Mem.join at hb ⊢
    cases h1 : m1 b with
    | some o' =>
      rcases hF.dom b (by rw [h1]; simp) with hx | hx
      · left
        cases hmb : m b with
        | none => exact absurd hmb hx
        | some o => simp
      · exact .inr hx
    | none =>
      rw [h1] at hb
      left
      cases hmb : m b with
      | none => simpa using hb
      | some o => simp

/-! ### slots -/
inductive AV where
  | v (x : Value)
  | ints (k : IntKind) (xs : List Int)
  | bools (xs : List Bool)
  | loc (i off : Nat)
inductive LC where
  | cells (l : List Value)
  | ints (k : IntKind) (xs : List Int)
  | bools (xs : List Bool)
def intCells (k : IntKind) (xs : List Int) : List Value := xs.map (.int k)
def boolCells (xs : List Bool) : List Value := xs.map .bool
def LC.list : LC → List Value
  | .cells l => l
  | .ints k xs => intCells k xs
  | .bools xs => boolCells xs
/-- What an entry says of a slot's value. -/
def AV.is (ψ : Nat → Nat) (L : Nat) : AV → Value → Prop
  | .v x, y => y = x
  | .ints k xs, y => y = .agg (intCells k xs).toArray
  | .bools xs, y => y = .agg (boolCells xs).toArray
  | .loc i off, y => i < L ∧ y = .pointer (some ⟨ψ i, off, none⟩)
abbrev Env := List (Nat × AV)
def lk : Env → Nat → Option AV
  | [], _ => none
  | (i, v) :: e, t => if i = t then some v else lk e t
structure St where
  env : Env
  ls : List LC
  m : Mem
def St.put (S : St) (d : Option Nat) (x : AV) : St :=
  match d, S with
  | some d, ⟨env, ls, m⟩ => ⟨(d, x) :: env, ls, m⟩
  | none, S => S
theorem St.put_eq {S : St} {d : Option Nat} {x : AV} : S.put d x = match d with
  | some d => { S with env := (d, x) :: S.env }
  | none => S := by cases d <;> rfl

/-- A frame's deferred calls; blocks that are kept though memory does not tell them. -/
structure HD where
  defers : List Deferred
  hid : List (Nat × Obj)
structure Rel (ψ : Nat → Nat) (N : Nat) (D : HD) (m0 : Mem) (w0 : World) (S : St) (a : Act) (w : World) : Prop where
  size : a.tmps.size = N
  defers : a.defers = D.defers
  env : ∀ i x, lk S.env i = some x → x.is ψ S.ls.length (a.tmps.getD i undef)
  box : ∀ i c, S.ls[i]? = some c → ∃ e, w.heap[ψ i]? = some (.cells c.list.toArray e (0, 0)) ∧ S.m (ψ i) = none ∧ w0.heap.size ≤ ψ i
  inj : ∀ i j, i < S.ls.length → j < S.ls.length → ψ i = ψ j → i = j
  frame : Frame m0 w0 S.m w
  marks : ∀ b o, (b, o) ∈ D.hid → w.heap[b]? = some o ∧ S.m b = none ∧ ∀ i, i < S.ls.length → ψ i ≠ b
def Relx (N : Nat) (D : HD) (m0 : Mem) (w0 : World) (S : St) (a : Act) (w : World) : Prop := ∃ ψ, Rel ψ N D m0 w0 S a w

section
variable {ψ : Nat → Nat} {N : Nat} {D : HD} {m0 : Mem} {w0 : World} {S : St} {a : Act} {w : World}

theorem getD_put (t : Array Value) (d i : Nat) (v : Value) (hd : d < t.size) : (t.setIfInBounds d v).getD i undef = if d = i then v else t.getD i undef := by
  by_cases h : d = i
  · subst h
    simp [hd]
  · rw [if_neg h]
    simp only [Array.getD_eq_getD_getElem?]
    rw [Array.getElem?_setIfInBounds_ne h]
theorem Rel.put (h : Rel ψ N D m0 w0 S a w) {d : Option Nat} {x : AV} {v : Value} (hx : x.is ψ S.ls.length v) (hd : ∀ i, d = some i → i < N) : Rel ψ N D m0 w0 (S.put d x) (a.put d v) w := by
  cases d with
  | none => exact h
  | some d =>
    have hdN := hd d rfl
    refine ⟨by simp [Act.put, h.size], h.defers, fun i y hy => ?_, h.box, h.inj, h.frame, h.marks⟩
    simp only [Act.put]
    rw [getD_put _ _ _ _ (by rw [h.size]; exact hdN)]
    simp only [St.put_eq, lk] at hy
    by_cases hi : d = i
    · rw [if_pos hi] at hy ⊢
      cases hy
      exact hx
    · rw [if_neg hi] at hy ⊢
      exact h.env i y hy
theorem Rel.undef (h : Rel ψ N D m0 w0 S a w) (d : Option Nat) (hd : ∀ i, d = some i → i < N) : Rel ψ N D m0 w0 (S.put d (.v undef)) (a.put d undef) w := h.put rfl hd
end
end Go.Mv
/- Mv: what is to be shown of a function's code, reckoned by a Lean function over the code: vc. Its soundness stands in the files behind this one. -/
namespace Go.Mv
open Go

/-! ### the types that the code names -/
inductive TK where
  | int (k : IntKind) | bool | str | ptr | slice (e : Nat) | arr (n e : Nat) | struct (fs : List (Nat × Nat)) | func | one | other
  deriving DecidableEq
/-- The table knows the type. -/
def TK.here : TK → Bool
  | .other => false
  | _ => true
theorem here_spec {k : TK} (h : k.here = true) : k ≠ .other := fun e => by subst e; exact Bool.noConfusion h
structure TI where
  k : TK
  size : Nat
  bytes : Nat
  zero : LC
  eq : Bool := false
abbrev Tbl := List (Nat × TI)
def Tbl.at : Tbl → Nat → TI
  | [], _ => ⟨.other, 0, 0, .cells [], false⟩
  | (i, x) :: r, t => bif Nat.beq i t then x else Tbl.at r t

/-! ### reading slots -/
def lkK : Env → Nat → (AV → Prop) → Prop
  | [], _, _ => False
  | (i, x) :: e, t, k => bif Nat.beq i t then k x else lkK e t k
def evK (S : St) : Operand → (AV → Prop) → Prop
  | .tmp t, k => lkK S.env t k
  | .const v, k => k (.v v)
  | .global g, k => k (.v (.pointer (some ⟨g, 0, none⟩)))
  | .func f, k => k (.v (.func (.func f) #[] #[]))
/-- Its value, where it is one. -/
def valK (x : AV) (k : Value → Prop) : Prop :=
  match x with
  | .v v => k v
  | .ints kd xs => k (.agg (intCells kd xs).toArray)
  | .bools xs => k (.agg (boolCells xs).toArray)
  | .loc _ _ => False
def evsK (S : St) : List Operand → (List Value → Prop) → Prop
  | [], k => k []
  | o :: r, k => evK S o fun x => valK x fun v => evsK S r fun vs => k (v :: vs)
/-- Both ways of a test. -/
def brk (b : Bool) (A B : Prop) : Prop := match b with
  | true => A
  | false => B
theorem brk_intro {b : Bool} {A B : Prop} (h : b = true → A) (k : b = false → B) : brk b A B := by
  cases b
  · exact k rfl
  · exact h rfl
/-- What is decided by reckoning. -/
def req (b : Bool) (A : Prop) : Prop := match b with
  | true => A
  | false => False
theorem req_spec {b : Bool} {A : Prop} (h : req b A) : b = true ∧ A := by
  cases b
  · exact h.elim
  · exact ⟨rfl, h⟩
def IntKind.eqb (a b : IntKind) : Bool := match a, b with
  | .i8, .i8 | .i16, .i16 | .i32, .i32 | .i64, .i64 | .u8, .u8 | .u16, .u16 | .u32, .u32 | .u64, .u64 => true
  | _, _ => false
theorem IntKind.eqb_spec {a b : IntKind} (h : IntKind.eqb a b = true) : a = b := by cases a <;> cases b <;> first | rfl | cases h
def TK.isBool : TK → Bool | .bool => true | _ => false
def TK.isPtr : TK → Bool | .ptr => true | _ => false
def TK.isSlice : TK → Bool | .slice _ => true | _ => false
def TK.isFunc : TK → Bool | .func => true | _ => false
def TK.isInt (kd : IntKind) : TK → Bool | .int k => IntKind.eqb k kd | _ => false

/-! ### memory, by types -/
def ldS (m : Mem) (p : Addr) (tk : TK) (k : Value → Prop) : Prop :=
  match tk with
  | .int kd => ∃ x, m.cell p = some (.int kd x) ∧ k (.int kd x)
  | .bool => ∃ b, m.cell p = some (.bool b) ∧ k (.bool b)
  | .str => ∃ s, m.cell p = some (.string s) ∧ k (.string s)
  | .ptr => ∃ q, m.cell p = some (.pointer q) ∧ k (.pointer q)
  | .slice _ => ∃ A n c, m.cell p = some (.slice A n c) ∧ k (.slice A n c)
  | .func => ∃ v, m.cell p = some v ∧ k v
  | .one => ∃ v, m.cell p = some v ∧ k v
  | _ => False
def flat (T : Tbl) : Nat → Nat → List TK
  | 0, _ => [.other]
  | d + 1, t => match (T.at t).k with
    | .struct fs => fs.flatMap fun f => flat T d f.2
    | .arr n e => (List.range n).flatMap fun _ => flat T d e
    | tk => [tk]
noncomputable def ldL (m : Mem) (p : Addr) (i : Nat) (tks : List TK) : (List Value → Prop) → Prop :=
  List.rec (motive := fun _ => Nat → (List Value → Prop) → Prop) (fun _ k => k []) (fun tk _ ih i k => ldS m (p.add i) tk fun v => ih (i + 1) fun vs => k (v :: vs)) tks i
theorem ldL_nil {m : Mem} {p : Addr} {i : Nat} {k : List Value → Prop} : ldL m p i [] k = k [] := rfl
theorem ldL_cons {m : Mem} {p : Addr} {i : Nat} {tk : TK} {r : List TK} {k : List Value → Prop} : ldL m p i (tk :: r) k = ldS m (p.add i) tk fun v => ldL m p (i + 1) r fun vs => k (v :: vs) := rfl
noncomputable def ldT (T : Tbl) (m : Mem) (p : Addr) (t : Nat) (k : AV → Prop) : Prop :=
  match (T.at t).k with
  | .arr n e => req (Nat.beq (T.at t).size n) <| match (T.at e).k with
    | .int kd => ∃ xs : List Int, xs.length = n ∧ (∀ i, i < n → m.cell (p.add i) = some (.int kd (xs.getD i 0))) ∧ k (.ints kd xs)
    | .bool => ∃ xs : List Bool, xs.length = n ∧ (∀ i, i < n → m.cell (p.add i) = some (.bool (xs.getD i false))) ∧ k (.bools xs)
    | _ => False
  | .struct _ => req (Nat.beq (flat T 8 t).length (T.at t).size) <| ldL m p 0 (flat T 8 t) fun vs => k (.v (.agg vs.toArray))
  | tk => ldS m p tk fun v => k (.v v)
def ldLoc (T : Tbl) (c : LC) (off t : Nat) (k : AV → Prop) : Prop :=
  match (T.at t).k, c with
  | .arr _ _, .ints kd xs => off = 0 ∧ (T.at t).size = xs.length ∧ k (.ints kd xs)
  | .arr _ _, .bools xs => off = 0 ∧ (T.at t).size = xs.length ∧ k (.bools xs)
  | .struct _, .cells l => req (Nat.ble (off + (T.at t).size) l.length) <| k (.v (.agg ((l.drop off).take (T.at t).size).toArray))
  | .int kd', .ints kd xs => req (IntKind.eqb kd' kd) <| off < xs.length ∧ k (.v (.int kd (xs.getD off 0)))
  | .bool, .bools xs => off < xs.length ∧ k (.v (.bool (xs.getD off false)))
  | .arr _ _, _ | .struct _, _ | .other, _ | _, .ints _ _ | _, .bools _ => False
  | _, .cells l => match l[off]? with
    | some v => k (.v v)
    | none => False
def writeAt (l : List Value) : Nat → List Value → List Value
  | _, [] => l
  | i, v :: r => writeAt (l.set i v) (i + 1) r
def oneCells : List Value → Bool
  | [] => true
  | v :: r => v.oneCell' && oneCells r
def stLoc (T : Tbl) (c : LC) (off t : Nat) (x : AV) (k : LC → Prop) : Prop :=
  match c, x with
  | .ints kd xs, .v (.int kd' v) => req (IntKind.eqb kd kd') <| req (Nat.beq (T.at t).size 1) <| off < xs.length ∧ k (.ints kd (xs.set off v))
  | .bools xs, .v (.bool v) => req (Nat.beq (T.at t).size 1) <| off < xs.length ∧ k (.bools (xs.set off v))
  | .ints kd xs, .ints kd' ys => req (IntKind.eqb kd kd') <| off = 0 ∧ (T.at t).size = ys.length ∧ xs.length = ys.length ∧ k (.ints kd ys)
  | .bools xs, .bools ys => off = 0 ∧ (T.at t).size = ys.length ∧ xs.length = ys.length ∧ k (.bools ys)
  | .cells l, .v (.agg cs) => req (Nat.beq cs.toList.length (T.at t).size) <| req (Nat.ble (off + cs.toList.length) l.length) <| req (oneCells cs.toList) <| k (.cells (writeAt l off cs.toList))
  | .cells l, .v v => req (Nat.beq (T.at t).size 1) <| req (Nat.blt off l.length) <| req v.oneCell' <| k (.cells (l.set off v))
  | _, _ => False
def Mem.setCells (m : Mem) (p : Addr) : Nat → List Value → Mem
  | _, [] => m
  | i, v :: r => Mem.setCells (m.setCell (p.add i) v) p (i + 1) r
/-- n cells from p on are there and may be written. -/
def Mem.room (m : Mem) (p : Addr) (n : Nat) : Prop := ∀ i, i < n → (∃ u, m.cell (p.add i) = some u) ∧ m.fz (p.add i) = false
def stMem (T : Tbl) (m : Mem) (p : Addr) (t : Nat) (x : AV) (k : Mem → Prop) : Prop :=
  match x with
  | .v (.agg cs) => req (Nat.beq cs.toList.length (T.at t).size) <| req (oneCells cs.toList) <| m.room p (T.at t).size ∧ k (m.setCells p 0 cs.toList)
  | .v v => req (Nat.beq (T.at t).size 1) <| req v.oneCell' <| ((∃ u, m.cell p = some u) ∧ m.fz p = false) ∧ k (m.setCell p v)
  | .ints kd xs => xs.length = (T.at t).size ∧ m.room p (T.at t).size ∧ k (m.setCells p 0 (intCells kd xs))
  | .bools xs => xs.length = (T.at t).size ∧ m.room p (T.at t).size ∧ k (m.setCells p 0 (boolCells xs))
  | .loc _ _ => False

/-! ### operators -/
def intK (op : BinOp) (kd : IntKind) (a b : Int) (k : Value → Prop) : Prop :=
  match op with
  | .add => k (.int kd (kd.wrap (a + b)))
  | .sub => k (.int kd (kd.wrap (a - b)))
  | .mul => k (.int kd (kd.wrap (a * b)))
  | .quo => b ≠ 0 ∧ k (.int kd (kd.wrap (a.tdiv b)))
  | .rem => b ≠ 0 ∧ k (.int kd (a.tmod b))
  | .and => k (.int kd (Go.bits .and kd a b))
  | .or => k (.int kd (Go.bits .or kd a b))
  | .xor => k (.int kd (Go.bits .xor kd a b))
  | .andNot => k (.int kd (Go.bits .andNot kd a b))
  | .eql => k (.bool (a == b))
  | .neq => k (.bool (a != b))
  | .lss => k (.bool (decide (a < b)))
  | .leq => k (.bool (decide (a ≤ b)))
  | .gtr => k (.bool (decide (a > b)))
  | .geq => k (.bool (decide (a ≥ b)))
  | _ => False
/-- Equality of rows of whole numbers, cell by cell. -/
def cellsEq : List TK → List Value → List Value → (Bool → Prop) → Prop
  | [], [], [], k => k true
  | .int _ :: ts, .int kd a :: r, .int kd' b :: s, k => req (IntKind.eqb kd kd') <| cellsEq ts r s fun c => k (a == b && c)
  | .bool :: ts, .bool a :: r, .bool b :: s, k => cellsEq ts r s fun c => k (a == b && c)
  | _, _, _, _ => False
def offsOk : Nat → List (Nat × Nat) → Bool
  | _, [] => true
  | i, f :: r => Nat.beq f.1 i && offsOk (i + 1) r
def flatInt (T : Tbl) (t : Nat) (k : List TK → Prop) : Prop := match (T.at t).k with
  | .struct fs => req (T.at t).eq <| req (offsOk 0 fs) <| k (fs.map fun f => (T.at f.2).k)
  | _ => False
/-- Arrays of whole numbers that are held as parts. -/
def arrInts (T : Tbl) (t : Nat) (xs ys : Array Value) (k : Bool → Prop) (old : Prop) : Prop := match (T.at t).k with
  | .arr n e => ∃ (kd : IntKind) (as bs : List Int), xs.toList = intCells kd as ∧ ys.toList = intCells kd bs ∧ (req ((T.at e).k.isInt kd) <| req (Nat.beq (T.at e).size 1) <| req (T.at t).eq <| as.length = n ∧ bs.length = n ∧ k (as == bs))
  | _ => old
def binK (T : Tbl) (op : BinOp) (t : Nat) (x y : AV) (k : Value → Prop) : Prop :=
  match op, x, y with
  | .shl, .v (.int kd a), .v (.int _ b) => 0 ≤ b ∧ k (.int kd (kd.wrap (a * 2 ^ (min b.toNat kd.bits))))
  | .shr, .v (.int kd a), .v (.int _ b) => 0 ≤ b ∧ k (.int kd (a.fdiv (2 ^ (min b.toNat kd.bits))))
  | op, .v (.int kd a), .v (.int kd' b) => req (IntKind.eqb kd kd') <| intK op kd a b k
  | .eql, .v (.bool a), .v (.bool b) => req (T.at t).k.isBool <| k (.bool (a == b))
  | .neq, .v (.bool a), .v (.bool b) => req (T.at t).k.isBool <| k (.bool (!(a == b)))
  | .eql, .v (.pointer p), .v (.pointer none) => req (T.at t).k.isPtr <| k (.bool p.isNone)
  | .neq, .v (.pointer p), .v (.pointer none) => req (T.at t).k.isPtr <| k (.bool (!p.isNone))
  | .eql, .v (.pointer (some p)), .v (.pointer (some q)) => req (T.at t).k.isPtr <| p = q ∧ k (.bool true)
  | .neq, .v (.pointer (some p)), .v (.pointer (some q)) => req (T.at t).k.isPtr <| p = q ∧ k (.bool false)
  | .eql, .v (.slice A _ _), .v (.slice none 0 0) => req (T.at t).k.isSlice <| k (.bool A.isNone)
  | .neq, .v (.slice A _ _), .v (.slice none 0 0) => req (T.at t).k.isSlice <| k (.bool (!A.isNone))
  | .eql, .v (.func _ _ _), .v .nilFunc => req (T.at t).k.isFunc <| k (.bool false)
  | .neq, .v (.func _ _ _), .v .nilFunc => req (T.at t).k.isFunc <| k (.bool true)
  | .add, .v (.string a), .v (.string b) => ((a.size + b.size : Nat) : Int) ≤ IntKind.i64.max ∧ k (.string (a ++ b))
  | .eql, .v (.string a), .v (.string b) => k (.bool (a.toList == b.toList))
  | .neq, .v (.string a), .v (.string b) => k (.bool (!(a.toList == b.toList)))
  | .eql, .ints kd xs, .ints kd' ys => req (IntKind.eqb kd kd') <| match (T.at t).k with
    | .arr n e => req ((T.at e).k.isInt kd) <| req (Nat.beq (T.at e).size 1) <| req (T.at t).eq <| xs.length = n ∧ ys.length = n ∧ k (.bool (xs == ys))
    | _ => False
  | .neq, .ints kd xs, .ints kd' ys => req (IntKind.eqb kd kd') <| match (T.at t).k with
    | .arr n e => req ((T.at e).k.isInt kd) <| req (Nat.beq (T.at e).size 1) <| req (T.at t).eq <| xs.length = n ∧ ys.length = n ∧ k (.bool (!(xs == ys)))
    | _ => False
  | .eql, .v (.agg xs), .v (.agg ys) => arrInts T t xs ys (fun c => k (.bool c)) <| flatInt T t fun ts => cellsEq ts xs.toList ys.toList fun c => k (.bool c)
  | .neq, .v (.agg xs), .v (.agg ys) => arrInts T t xs ys (fun c => k (.bool (!c))) <| flatInt T t fun ts => cellsEq ts xs.toList ys.toList fun c => k (.bool (!c))
  | .eql, .v (.agg xs), .ints kd ys => arrInts T t xs (intCells kd ys).toArray (fun c => k (.bool c)) False
  | .neq, .v (.agg xs), .ints kd ys => arrInts T t xs (intCells kd ys).toArray (fun c => k (.bool (!c))) False
  | _, _, _ => False
def unK (op : UnOp) (x : AV) (k : Value → Prop) : Prop :=
  match op, x with
  | .not, .v (.bool b) => k (.bool (!b))
  | .neg, .v (.int kd n) => k (.int kd (kd.wrap (0 - n)))
  | .xor, .v (.int kd n) => k (.int kd (Go.bits .xor kd (if kd.signed then -1 else kd.max) n))
  | _, _ => False
def pickK (c : Bool) (x y : AV) (k : AV → Prop) : Prop :=
  match x, y with
  | .v (.bool p), .v (.bool q) => k (.v (.bool (bif c then p else q)))
  | x, y => brk c (k x) (k y)
def bt (s : ByteArray) (i : Int) : Int := (((s.data.toList.getD i.toNat 0).toNat : Nat) : Int)
def fillK (S : St) (place : Nat → Option (Nat × Nat)) : List (Nat × Operand) → List Value → (List Value → Prop) → Prop
  | [], l, k => k l
  | (i, o) :: r, l, k => match place i with
    | none => False
    | some (off, size) => evK S o fun x => valK x fun v => req (Nat.beq v.cells.toList.length size) <| req (Nat.ble (off + size) l.length) <| fillK S place r (writeAt l off v.cells.toList) k
noncomputable def fillIntsK (S : St) (kd : IntKind) (parts : List (Nat × Operand)) : List Int → (List Int → Prop) → Prop :=
  List.rec (motive := fun _ => List Int → (List Int → Prop) → Prop) (fun l k => k l) (fun a _ ih l k => evK S a.2 fun x => match x with
    | .v (.int kd' v) => req (IntKind.eqb kd kd') <| a.1 < l.length ∧ ih (l.set a.1 v) k
    | _ => False) parts
theorem fillIntsK_nil {S : St} {kd : IntKind} {l : List Int} {k : List Int → Prop} : fillIntsK S kd [] l k = k l := rfl
theorem fillIntsK_cons {S : St} {kd : IntKind} {i : Nat} {o : Operand} {r : List (Nat × Operand)} {l : List Int} {k : List Int → Prop} : fillIntsK S kd ((i, o) :: r) l k = evK S o fun x => match x with
    | .v (.int kd' v) => req (IntKind.eqb kd kd') <| i < l.length ∧ fillIntsK S kd r (l.set i v) k
    | _ => False := rfl
def optK (S : St) (o : Option Operand) (d : Int) (k : Int → Prop) : Prop :=
  match o with
  | some o => evK S o fun x => match x with
    | .v (.int _ n) => k n
    | _ => False
  | none => k d
/-- A value that came out of a call or a tuple, by its type. -/
def normK (T : Tbl) (t : Nat) (v : Value) (k : AV → Prop) : Prop :=
  match (T.at t).k with
  | .arr n e => match (T.at e).k with
    | .int kd => ∃ xs : List Int, xs.length = n ∧ v = .agg (intCells kd xs).toArray ∧ k (.ints kd xs)
    | .bool => ∃ xs : List Bool, xs.length = n ∧ v = .agg (boolCells xs).toArray ∧ k (.bools xs)
    | _ => k (.v v)
  | _ => k (.v v)
def byteVals (l : List UInt8) : List Value := l.map fun b => .int .u8 b.toNat
/-- What a text's bytes are laid as. -/
def byteRow (t : ByteArray) (cap : Nat) : List Value := byteVals t.data.toList ++ List.replicate (cap - t.size) (Value.int .u8 0)
def bytesObj (t : ByteArray) (cap e : Nat) : Obj := .cells (byteRow t cap).toArray e ((byteRow t cap).length, (byteRow t cap).length + 1)
def newKS (pr : List Nat) (dst : Option Nat) (c : LC) (e : Nat) (S : St) (K : St → Prop) : Prop :=
  match dst with
  | some d =>
    bif pr.contains d then K ({ S with ls := S.ls ++ [c] }.put (some d) (.loc S.ls.length 0))
    else ∀ b, S.m b = none → K ({ S with m := S.m.set b (.cells c.list.toArray e (0, 0)) }.put (some d) (.v (.pointer (some ⟨b, 0, none⟩))))
  | none => False
def newK (pr : List Nat) (dst : Option Nat) (c : LC) (e : Nat) (S : St) (K : St → Prop) : Prop := match S with
  | ⟨env, ls, m⟩ =>
    match dst with
    | some d =>
      bif pr.contains d then K ((St.mk env (ls ++ [c]) m).put (some d) (.loc ls.length 0))
      else ∀ b, m b = none → K ((St.mk env ls (m.set b (.cells c.list.toArray e (0, 0)))).put (some d) (.v (.pointer (some ⟨b, 0, none⟩))))
    | none => False
theorem newK_eq {pr : List Nat} {dst : Option Nat} {c : LC} {e : Nat} {S : St} {K : St → Prop} : newK pr dst c e S K = newKS pr dst c e S K := by cases S; rfl
def contentK (x : AV) (k : LC → Prop) : Prop :=
  match x with
  | .v (.agg cs) => k (.cells cs.toList)
  | .v v => k (.cells v.cells.toList)
  | .ints kd xs => k (.ints kd xs)
  | .bools xs => k (.bools xs)
  | .loc _ _ => False
def zerosOf (T : Tbl) (e n : Nat) : LC :=
  match (T.at e).zero with
  | .cells [.int kd 0] => .ints kd (List.replicate n 0)
  | .cells [.bool false] => .bools (List.replicate n false)
  | c => .cells ((List.range n).flatMap fun _ => c.list)
/-- n cells from p on hold vs. -/
def Mem.holds (m : Mem) (p : Addr) (vs : List Value) : Prop := ∀ i v, vs[i]? = some v → m.cell (p.add i) = some v
def ptrK (A : Option Addr) (f : Addr → Prop) (g : Prop) : Prop :=
  match A with
  | some p => f p
  | none => g
/-- An operation of the machine: from every world that holds m a value, and what K says of it and of the memory then; nothing else has turned. -/
def RunP (P : Program) (s : Sem Value) (m : Mem) (K : Value → Mem → Prop) : Prop := ∀ w, m.sub w → ∃ v w' m', s.run P w = .ok v w' ∧ K v m' ∧ Frame m w m' w'
/-- An operation that gives nothing back. -/
def RunU (P : Program) (s : Sem Unit) (m : Mem) (K : Mem → Prop) : Prop := ∀ w, m.sub w → ∃ w' m', s.run P w = .ok () w' ∧ K m' ∧ Frame m w m' w'
/-- A built-in function, or a function that has no text. -/
def NextP (P : Program) (s : Sem Next) (m : Mem) (K : Value → Mem → Prop) : Prop := ∀ w, m.sub w → ∃ v w' m', s.run P w = .ok (.value v) w' ∧ K v m' ∧ Frame m w m' w'
def constB : Operand → Bool
  | .const _ => true
  | _ => false
def quietBuiltin : Builtin → Bool
  | .len | .cap | .max | .min => true
  | _ => false
/-- The operations that are asked of as the machine does them. -/
def genB : Op → Bool
  | .range .. | .next .. | .makeInterface .. | .lookup .. | .makeMap _ none | .typeAssert .. => true
  | _ => false
def updRun (t : Nat) : List Value → Sem Unit
  | [x, y, z] => Instr.mapUpdate t x y z
  | _ => stuck "no such operation"
def opArgs : Op → List Operand
  | .range _ x => [x]
  | .next x _ => [x]
  | .makeInterface _ x => [x]
  | .lookup _ x i _ => [x, i]
  | .typeAssert x _ _ _ => [x]
  | _ => []
def opRun (ty : Nat) : Op → List Value → Sem Value
  | .range t _, [x] => Instr.range t x
  | .next _ b, [x] => Instr.next x b ty
  | .makeInterface t _, [x] => Instr.makeInterface t x
  | .lookup t _ _ ok, [x, i] => Instr.lookup t x i ok
  | .makeMap t none, [] => Instr.makeMap t none
  | .typeAssert _ t s ok, [x] => Instr.typeAssert x t s ok
  | _, _ => stuck "no such operation"
def callKS (P : Program) (T : Tbl) (B : List Nat) (dst : Option Nat) (ty : Nat) (c : Call) (S : St) (K : St → Prop) : Prop :=
  match c.callee with
  | .value f => evK S f fun x => match x with
    | .v (.func (.func g) first cap) => evsK S c.args.toList fun vs => bif B.contains g then
        FCalls P g (first.toList ++ vs ++ cap.toList) S.m fun v m' => normK T ty v fun y => K ({ S with m := m' }.put dst y)
      else NextP P (callFunc g (first.toList ++ vs ++ cap.toList).toArray) S.m fun v m' => K ({ S with m := m' }.put dst (.v v))
    | .v (.func (.yield l) ⟨[]⟩ ⟨[]⟩) => evsK S c.args.toList fun vs => YCalls P l vs S.m fun v m' => normK T ty v fun y => K ({ S with m := m' }.put dst y)
    | _ => False
  | .invoke _ _ => False
  | .builtin b => match b, c.args.toList, c.argTypes.toList with
    | .len, [o], [t] => evK S o fun x => match (T.at t).k, x with
      | .slice _, .v (.slice _ n _) => K (S.put dst (.v (.int .i64 n)))
      | .str, .v (.string s) => K (S.put dst (.v (.int .i64 s.size)))
      | .arr n _, _ => K (S.put dst (.v (.int .i64 n)))
      | _, _ => False
    | .cap, [o], [t] => evK S o fun x => match (T.at t).k, x with
      | .slice _, .v (.slice _ _ c) => K (S.put dst (.v (.int .i64 c)))
      | .arr n _, _ => K (S.put dst (.v (.int .i64 n)))
      | _, _ => False
    | .max, [o, o'], _ => evK S o fun x => evK S o' fun y => match x, y with
      | .v (.int kd a), .v (.int kd' b) => req (IntKind.eqb kd kd') <| K (S.put dst (.v (.int kd (if b > a then b else a))))
      | _, _ => False
    | .min, [o, o'], _ => evK S o fun x => evK S o' fun y => match x, y with
      | .v (.int kd a), .v (.int kd' b) => req (IntKind.eqb kd kd') <| K (S.put dst (.v (.int kd (if b < a then b else a))))
      | _, _ => False
    | .append, [o, o'], [t, t'] => evK S o fun x => evK S o' fun y => match (T.at t).k, (T.at t').k, x, y with
      | .slice e, .slice _, .v (.slice A n c), .v (.slice B j _) => req (Nat.blt 0 (T.at e).size) <| 
        ∃ news : List Value, news.length = j * (T.at e).size ∧ (j * (T.at e).size = 0 ∨ ∃ p, B = some p ∧ S.m.holds p news) ∧
          (n + j ≤ c → (∃ p, A = some p ∧ S.m.room (p.add (n * (T.at e).size)) (j * (T.at e).size) ∧ oneCells news = true ∧
              K ({ S with m := S.m.setCells (p.add (n * (T.at e).size)) 0 news }.put dst (.v (.slice A (n + j) c)))) ∨
            (A = none ∧ K (S.put dst (.v (.slice A (n + j) c))))) ∧
          (c < n + j → req (Nat.blt 0 (T.at e).bytes) (Builtin.nextslicecap (n + j) c * (T.at e).bytes ≤ 2 ^ 48 ∧
            ∃ olds : List Value, olds.length = n * (T.at e).size ∧ ((n * (T.at e).size = 0 ∧ A = none) ∨ ∃ p, A = some p ∧ S.m.holds p olds) ∧
            ∀ cap b, n + j ≤ cap → S.m b = none →
              K ({ S with m := S.m.set b (.cells (olds ++ news ++ (zerosOf T e (cap - (n + j))).list).toArray e (0, 0)) }.put dst (.v (.slice (some ⟨b, 0, none⟩) (n + j) cap)))))
      | .slice _, .slice _, _, _ => False
      | _, _, .v x, .v y => NextP P (builtin .append c.argTypes ty (c.args.map constB) #[x, y]) S.m fun v m' => K ({ S with m := m' }.put dst (.v v))
      | _, _, _, _ => False
    | .copy, [o, o'], [t, t'] => evK S o fun x => evK S o' fun y => match (T.at t).k, (T.at t').k, x, y with
      | .slice e, .slice _, .v (.slice A n _), .v (.slice B j _) => req (Nat.blt 0 (T.at e).size) <| 
        ∃ news : List Value, news.length = min j n * (T.at e).size ∧ (min j n * (T.at e).size = 0 ∨ ∃ p q, A = some p ∧ B = some q ∧ S.m.holds q news ∧ S.m.room p (min j n * (T.at e).size) ∧ oneCells news = true) ∧
          ptrK A (fun p => K ({ S with m := S.m.setCells p 0 news }.put dst (.v (.int .i64 (min j n : Nat))))) (K (S.put dst (.v (.int .i64 (min j n : Nat)))))
      | _, _, _, _ => False
    | .clear, [o], [t] => evK S o fun x => match (T.at t).k, x with
      | .slice e, .v (.slice A n _) => req (Nat.blt 0 (T.at e).size) <| req (oneCells (T.at e).zero.list) <|
        (A = none ∨ n = 0 → K (S.put dst (.v (.tuple #[])))) ∧
        (∀ p, A = some p → 0 < n → S.m.room p (n * (T.at e).size) ∧ K ({ S with m := S.m.setCells p 0 (zerosOf T e n).list }.put dst (.v (.tuple #[]))))
      | .slice _, _ => False
      | _, .v x => NextP P (builtin .clear c.argTypes ty (c.args.map constB) #[x]) S.m fun v m' => K ({ S with m := m' }.put dst (.v v))
      | _, _ => False
    | b, _, _ => req (!quietBuiltin b) <| evsK S c.args.toList fun vs => NextP P (builtin b c.argTypes ty (c.args.map constB) vs.toArray) S.m fun v m' => K ({ S with m := m' }.put dst (.v v))

def callK (P : Program) (T : Tbl) (B : List Nat) (dst : Option Nat) (ty : Nat) (c : Call) (S : St) (K : St → Prop) : Prop := match S with
  | ⟨env, ls, m⟩ =>
    match c.callee with
    | .value f => evK (St.mk env ls m) f fun x => match x with
      | .v (.func (.func g) first cap) => evsK (St.mk env ls m) c.args.toList fun vs => bif B.contains g then
          FCalls P g (first.toList ++ vs ++ cap.toList) m fun v m' => normK T ty v fun y => K ((St.mk env ls (m')).put dst y)
        else NextP P (callFunc g (first.toList ++ vs ++ cap.toList).toArray) m fun v m' => K ((St.mk env ls m').put dst (.v v))
      | .v (.func (.yield l) ⟨[]⟩ ⟨[]⟩) => evsK (St.mk env ls m) c.args.toList fun vs => YCalls P l vs m fun v m' => normK T ty v fun y => K ((St.mk env ls (m')).put dst y)
      | _ => False
    | .invoke _ _ => False
    | .builtin b => match b, c.args.toList, c.argTypes.toList with
      | .len, [o], [t] => evK (St.mk env ls m) o fun x => match (T.at t).k, x with
        | .slice _, .v (.slice _ n _) => K ((St.mk env ls m).put dst (.v (.int .i64 n)))
        | .str, .v (.string s) => K ((St.mk env ls m).put dst (.v (.int .i64 s.size)))
        | .arr n _, _ => K ((St.mk env ls m).put dst (.v (.int .i64 n)))
        | _, _ => False
      | .cap, [o], [t] => evK (St.mk env ls m) o fun x => match (T.at t).k, x with
        | .slice _, .v (.slice _ _ c) => K ((St.mk env ls m).put dst (.v (.int .i64 c)))
        | .arr n _, _ => K ((St.mk env ls m).put dst (.v (.int .i64 n)))
        | _, _ => False
      | .max, [o, o'], _ => evK (St.mk env ls m) o fun x => evK (St.mk env ls m) o' fun y => match x, y with
        | .v (.int kd a), .v (.int kd' b) => req (IntKind.eqb kd kd') <| K ((St.mk env ls m).put dst (.v (.int kd (if b > a then b else a))))
        | _, _ => False
      | .min, [o, o'], _ => evK (St.mk env ls m) o fun x => evK (St.mk env ls m) o' fun y => match x, y with
        | .v (.int kd a), .v (.int kd' b) => req (IntKind.eqb kd kd') <| K ((St.mk env ls m).put dst (.v (.int kd (if b < a then b else a))))
        | _, _ => False
      | .append, [o, o'], [t, t'] => evK (St.mk env ls m) o fun x => evK (St.mk env ls m) o' fun y => match (T.at t).k, (T.at t').k, x, y with
        | .slice e, .slice _, .v (.slice A n c), .v (.slice B j _) => req (Nat.blt 0 (T.at e).size) <| 
          ∃ news : List Value, news.length = j * (T.at e).size ∧ (j * (T.at e).size = 0 ∨ ∃ p, B = some p ∧ m.holds p news) ∧
            (n + j ≤ c → (∃ p, A = some p ∧ m.room (p.add (n * (T.at e).size)) (j * (T.at e).size) ∧ oneCells news = true ∧
                K ((St.mk env ls (m.setCells (p.add (n * (T.at e).size)) 0 news)).put dst (.v (.slice A (n + j) c)))) ∨
              (A = none ∧ K ((St.mk env ls m).put dst (.v (.slice A (n + j) c))))) ∧
            (c < n + j → req (Nat.blt 0 (T.at e).bytes) (Builtin.nextslicecap (n + j) c * (T.at e).bytes ≤ 2 ^ 48 ∧
              ∃ olds : List Value, olds.length = n * (T.at e).size ∧ ((n * (T.at e).size = 0 ∧ A = none) ∨ ∃ p, A = some p ∧ m.holds p olds) ∧
              ∀ cap b, n + j ≤ cap → m b = none →
                K ((St.mk env ls (m.set b (.cells (olds ++ news ++ (zerosOf T e (cap - (n + j))).list).toArray e (0, 0)))).put dst (.v (.slice (some ⟨b, 0, none⟩) (n + j) cap)))))
        | .slice _, .slice _, _, _ => False
        | _, _, .v x, .v y => NextP P (builtin .append c.argTypes ty (c.args.map constB) #[x, y]) m fun v m' => K ((St.mk env ls m').put dst (.v v))
        | _, _, _, _ => False
      | .copy, [o, o'], [t, t'] => evK (St.mk env ls m) o fun x => evK (St.mk env ls m) o' fun y => match (T.at t).k, (T.at t').k, x, y with
        | .slice e, .slice _, .v (.slice A n _), .v (.slice B j _) => req (Nat.blt 0 (T.at e).size) <| 
          ∃ news : List Value, news.length = min j n * (T.at e).size ∧ (min j n * (T.at e).size = 0 ∨ ∃ p q, A = some p ∧ B = some q ∧ m.holds q news ∧ m.room p (min j n * (T.at e).size) ∧ oneCells news = true) ∧
            ptrK A (fun p => K ((St.mk env ls (m.setCells p 0 news)).put dst (.v (.int .i64 (min j n : Nat))))) (K ((St.mk env ls m).put dst (.v (.int .i64 (min j n : Nat)))))
        | _, _, _, _ => False
      | .clear, [o], [t] => evK (St.mk env ls m) o fun x => match (T.at t).k, x with
        | .slice e, .v (.slice A n _) => req (Nat.blt 0 (T.at e).size) <| req (oneCells (T.at e).zero.list) <|
          (A = none ∨ n = 0 → K ((St.mk env ls m).put dst (.v (.tuple #[])))) ∧
          (∀ p, A = some p → 0 < n → m.room p (n * (T.at e).size) ∧ K ((St.mk env ls (m.setCells p 0 (zerosOf T e n).list)).put dst (.v (.tuple #[]))))
        | .slice _, _ => False
        | _, .v x => NextP P (builtin .clear c.argTypes ty (c.args.map constB) #[x]) m fun v m' => K ((St.mk env ls m').put dst (.v v))
        | _, _ => False
      | b, _, _ => req (!quietBuiltin b) <| evsK (St.mk env ls m) c.args.toList fun vs => NextP P (builtin b c.argTypes ty (c.args.map constB) vs.toArray) m fun v m' => K ((St.mk env ls m').put dst (.v v))

theorem callK_eq {P : Program} {T : Tbl} {B : List Nat} {dst : Option Nat} {ty : Nat} {c : Call} {S : St} {K : St → Prop} : callK P T B dst ty c S K = callKS P T B dst ty c S K := by cases S; rfl
/-- A comparison of an interface's value with nil: what it is in every world. -/
def isNilC : Operand → Bool
  | .const v => match v with
    | .nilIface => true
    | _ => false
  | _ => false
def nilCmp (op : BinOp) (t : Nat) (x : Operand) (u : Value) : Sem Value := do eqGuard op t x (.const .nilIface) u .nilIface; Go.binOp op t u .nilIface
/-- A struct that bears an array. -/
def arrIn (T : Tbl) (t : Nat) : Bool := match (T.at t).k with
  | .struct fs => fs.any fun f => match (T.at f.2).k with | .arr _ _ => true | _ => false
  | _ => false
def aggEq (P : Program) (T : Tbl) (op : BinOp) (t : Nat) (u v : AV) (k : Value → Prop) : Prop := match op, u, v with
  | .eql, .v (.agg xs), .v (.agg ys) => req (T.at t).eq <| ∃ c, (∀ w, (Op.equal t (.agg xs) (.agg ys)).run P w = .ok c w) ∧ k (.bool c)
  | .neq, .v (.agg xs), .v (.agg ys) => req (T.at t).eq <| ∃ c, (∀ w, (Op.equal t (.agg xs) (.agg ys)).run P w = .ok c w) ∧ k (.bool (!c))
  | _, _, _ => False
def binN (P : Program) (T : Tbl) (op : BinOp) (t : Nat) (x y : Operand) (u v : AV) (k : Value → Prop) : Prop := match isNilC y with
  | true => valK u fun a => ∃ r, (∀ w, (nilCmp op t x a).run P w = .ok r w) ∧ k r
  | false => match arrIn T t with
    | true => aggEq P T op t u v k
    | false => binK T op t u v k
noncomputable def vcOpS (P : Program) (T : Tbl) (B pr : List Nat) (dst : Option Nat) (op : Op) (ty : Nat) (S : St) (K : St → Prop) : Prop :=
  match op with
  | .move x | .assign x => evK S x fun v => K (S.put dst v)
  | .pick c a b => evK S c fun cv => match cv with
    | .v (.bool c) => evK S a fun x => evK S b fun y => pickK c x y fun v => K (S.put dst v)
    | _ => False
  | .alloc e => req (T.at e).k.here <| newK pr dst (T.at e).zero e S K
  | .box e x => evK S x fun v => contentK v fun c => newK pr dst c e S K
  | .build t parts => match (T.at t).k with
    | .struct fs => req (fs.all fun f => Nat.blt 0 (T.at f.2).size) <| fillK S (fun i => (fs[i]?).map fun f => (f.1, (T.at f.2).size)) parts.toList (T.at t).zero.list fun l => K (S.put dst (.v (.agg l.toArray)))
    | .arr _ e => match (T.at e).k, (T.at t).zero with
      | .int kd, .ints kd' xs => req (IntKind.eqb kd kd') <| req (Nat.beq (T.at e).size 1) <| fillIntsK S kd parts.toList xs fun l => K (S.put dst (.ints kd l))
      | _, _ => req (Nat.blt 0 (T.at e).size) <| fillK S (fun i => some (i * (T.at e).size, (T.at e).size)) parts.toList (T.at t).zero.list fun l => K (S.put dst (.v (.agg l.toArray)))
    | _ => False
  | .buildSlice t len parts => match (T.at t).k with
    | .slice e => req (Nat.blt 0 (T.at e).size) <| req (Nat.ble (len * (T.at e).size) 16777216) <| fillK S (fun i => some (i * (T.at e).size, (T.at e).size)) parts.toList (zerosOf T e len).list fun l =>
        ∀ b, S.m b = none → K ({ S with m := S.m.set b (.cells l.toArray e (0, 0)) }.put dst (.v (.slice (some ⟨b, 0, none⟩) len len)))
    | _ => False
  | .load t p => evK S p fun x => match x with
    | .loc i off => match S.ls[i]? with
      | some c => ldLoc T c off t fun v => K (S.put dst v)
      | none => False
    | .v (.pointer (some p)) => ldT T S.m p t fun v => K (S.put dst v)
    | _ => False
  | .store t p v => req (T.at t).k.here <| evK S p fun x => evK S v fun y => match x with
    | .loc i off => match S.ls[i]? with
      | some c => stLoc T c off t y fun c' => K ({ S with ls := S.ls.set i c' }.put dst (.v undef))
      | none => False
    | .v (.pointer (some p)) => stMem T S.m p t y fun m' => K ({ S with m := m' }.put dst (.v undef))
    | _ => False
  | .nilCheck x => evK S x fun v => match v with
    | .v (.pointer q) => ptrK q (fun p => K (S.put dst (.v (.pointer (some p))))) False
    | .loc i off => K (S.put dst (.loc i off))
    | _ => False
  | .binOp op t x y _ => evK S x fun u => evK S y fun v => binN P T op t x y u v fun r => K (S.put dst (.v r))
  | .unOp op _ x => evK S x fun u => unK op u fun r => K (S.put dst (.v r))
  | .convert s d x => evK S x fun u => match (T.at s).k, (T.at d).k, u with
    | .int _, .int kd, .v (.int _ n) => K (S.put dst (.v (.int kd (kd.wrap n))))
    | .str, .slice e, .v (.string t) => req ((T.at e).k.isInt .u8) <| ∀ (cap b : Nat), t.size ≤ cap → S.m b = none → K ({ S with m := S.m.set b (bytesObj t cap e) }.put dst (.v (.slice (some ⟨b, 0, none⟩) t.size cap)))
    | .slice e, .str, .v (.slice A n _) => req ((T.at e).k.isInt .u8) <| ∃ l : List UInt8, l.length = n ∧ ((A = none ∧ l = []) ∨ ∃ p, A = some p ∧ S.m.holds p (byteVals l)) ∧ K (S.put dst (.v (.string ⟨l.toArray⟩)))
    | .int _, .int _, _ => False
    | .slice _, .str, _ => False
    | .str, .slice _, _ => False
    | _, _, .v z => RunP P (Go.convert s d z) S.m fun v m' => K ({ S with m := m' }.put dst (.v v))
    | _, _, _ => False
  | .makeFunc fn first cap => evsK S first.toList fun fs => evsK S cap.toList fun cs => K (S.put dst (.v (.func fn fs.toArray cs.toArray)))
  | .makeSlice t l c => evK S l fun x => evK S c fun y => match (T.at t).k, x, y with
    | .slice e, .v (.int .i64 n), .v (.int .i64 c) => req (Nat.blt 0 (T.at e).size) <| 0 ≤ n ∧ n ≤ c ∧ c ≤ 9223372036854775807 ∧ (T.at e).bytes * c ≤ 2 ^ 48 ∧
        ∀ b, S.m b = none → K ({ S with m := S.m.set b (.cells (zerosOf T e c.toNat).list.toArray e (0, 0)) }.put dst (.v (.slice (some ⟨b, 0, none⟩) n.toNat c.toNat)))
    | _, _, _ => False
  | .slice t x lo hi none => evK S x fun v => match (T.at t).k, v with
    | .slice e, .v (.slice A n c) => req (Nat.blt 0 (T.at e).size) <| optK S hi n fun h => optK S lo 0 fun l =>
        0 ≤ l ∧ l ≤ h ∧ h ≤ c ∧ K (S.put dst (.v (.slice (if c = l.toNat then A else A.map fun p => p.add (l.toNat * (T.at e).size)) (h.toNat - l.toNat) (c - l.toNat))))
    | .str, .v (.string s) => optK S hi s.size fun h => optK S lo 0 fun l =>
        0 ≤ l ∧ l ≤ h ∧ h ≤ s.size ∧ K (S.put dst (.v (.string (s.extract l.toNat h.toNat))))
    | .arr n e, .v (.pointer (some p)) => req (Nat.blt 0 (T.at e).size) <| optK S hi n fun h => optK S lo 0 fun l =>
        0 ≤ l ∧ l ≤ h ∧ h ≤ n ∧ K (S.put dst (.v (.slice (some (if n = l.toNat then p else p.add (l.toNat * (T.at e).size))) (h.toNat - l.toNat) (n - l.toNat))))
    | _, _ => False
  | .fieldAddr s x f => evK S x fun v => match (T.at s).k with
    | .struct fs => match fs[f]? with
      | some (off, ft) => req (Nat.blt 0 (T.at ft).size) <| match v with
        | .loc i o => K (S.put dst (.loc i (o + off)))
        | .v (.pointer (some p)) => K (S.put dst (.v (.pointer (some (p.add off)))))
        | _ => False
      | none => False
    | _ => False
  | .field s x f => evK S x fun v => match (T.at s).k, v with
    | .struct fs, .v (.agg cs) => match fs[f]? with
      | some (off, ft) => match (T.at ft).k with
        | .struct _ => K (S.put dst (.v (.agg (cs.extract off (off + (T.at ft).size)))))
        | .arr _ _ | .other => False
        | _ => match cs.toList[off]? with
          | some c => K (S.put dst (.v c))
          | none => False
      | none => False
    | _, _ => False
  | .indexAddr t x i => evK S x fun v => evK S i fun iv => match iv with
    | .v (.int _ j) => match (T.at t).k, v with
      | .arr n e, .loc b o => req (Nat.blt 0 (T.at e).size) <| 0 ≤ j ∧ j < n ∧ K (S.put dst (.loc b (o + j.toNat * (T.at e).size)))
      | .arr n e, .v (.pointer (some p)) => req (Nat.blt 0 (T.at e).size) <| 0 ≤ j ∧ j < n ∧ K (S.put dst (.v (.pointer (some (p.add (j.toNat * (T.at e).size))))))
      | .slice e, .v (.slice A n _) => req (Nat.blt 0 (T.at e).size) <| ∃ p, A = some p ∧ 0 ≤ j ∧ j < n ∧ K (S.put dst (.v (.pointer (some (p.add (j.toNat * (T.at e).size))))))
      | _, _ => False
    | _ => False
  | .index t x i => evK S x fun v => evK S i fun iv => match iv with
    | .v (.int _ j) => match (T.at t).k, v with
      | .arr n e, .ints kd xs => req (Nat.beq (T.at e).size 1) <| req ((T.at e).k.isInt kd) <| 0 ≤ j ∧ j < n ∧ j.toNat < xs.length ∧ K (S.put dst (.v (.int kd (xs.getD j.toNat 0))))
      | .arr n e, .bools xs => req (Nat.beq (T.at e).size 1) <| req (T.at e).k.isBool <| 0 ≤ j ∧ j < n ∧ j.toNat < xs.length ∧ K (S.put dst (.v (.bool (xs.getD j.toNat false))))
      | .arr n e, .v (.agg cs) => req (Nat.blt 0 (T.at e).size) <| 0 ≤ j ∧ j < n ∧ match (T.at e).k with
        | .struct _ => K (S.put dst (.v (.agg (cs.extract (j.toNat * (T.at e).size) (j.toNat * (T.at e).size + (T.at e).size)))))
        | .arr _ _ => K (S.put dst (.v (.agg (cs.extract (j.toNat * (T.at e).size) (j.toNat * (T.at e).size + (T.at e).size)))))
        | .other => False
        | _ => ∃ c, cs.toList[j.toNat * (T.at e).size]? = some c ∧ K (S.put dst (.v c))
      | .str, .v (.string s) => 0 ≤ j ∧ j < s.size ∧ K (S.put dst (.v (.int .u8 (bt s j))))
      | _, _ => False
    | _ => False
  | .extract x i => evK S x fun v => match v with
    | .v (.tuple vs) => match vs.toList[i]? with
      | some u => normK T ty u fun y => K (S.put dst y)
      | none => False
    | _ => False
  | .call c => callK P T B dst ty c S K
  | .mapUpdate t x y z => evsK S [x, y, z] fun vs => RunU P (updRun t vs) S.m fun m' => K ({ S with m := m' }.put dst (.v undef))
  | op => req (genB op) <| evsK S (opArgs op) fun vs => RunP P (opRun ty op vs) S.m fun v m' => K ({ S with m := m' }.put dst (.v v))

noncomputable def vcOp (P : Program) (T : Tbl) (B pr : List Nat) (dst : Option Nat) (op : Op) (ty : Nat) (S : St) (K : St → Prop) : Prop := match S with
  | ⟨env, ls, m⟩ =>
    match op with
    | .move x | .assign x => evK (St.mk env ls m) x fun v => K ((St.mk env ls m).put dst v)
    | .pick c a b => evK (St.mk env ls m) c fun cv => match cv with
      | .v (.bool c) => evK (St.mk env ls m) a fun x => evK (St.mk env ls m) b fun y => pickK c x y fun v => K ((St.mk env ls m).put dst v)
      | _ => False
    | .alloc e => req (T.at e).k.here <| newK pr dst (T.at e).zero e (St.mk env ls m) K
    | .box e x => evK (St.mk env ls m) x fun v => contentK v fun c => newK pr dst c e (St.mk env ls m) K
    | .build t parts => match (T.at t).k with
      | .struct fs => req (fs.all fun f => Nat.blt 0 (T.at f.2).size) <| fillK (St.mk env ls m) (fun i => (fs[i]?).map fun f => (f.1, (T.at f.2).size)) parts.toList (T.at t).zero.list fun l => K ((St.mk env ls m).put dst (.v (.agg l.toArray)))
      | .arr _ e => match (T.at e).k, (T.at t).zero with
        | .int kd, .ints kd' xs => req (IntKind.eqb kd kd') <| req (Nat.beq (T.at e).size 1) <| fillIntsK (St.mk env ls m) kd parts.toList xs fun l => K ((St.mk env ls m).put dst (.ints kd l))
        | _, _ => req (Nat.blt 0 (T.at e).size) <| fillK (St.mk env ls m) (fun i => some (i * (T.at e).size, (T.at e).size)) parts.toList (T.at t).zero.list fun l => K ((St.mk env ls m).put dst (.v (.agg l.toArray)))
      | _ => False
    | .buildSlice t len parts => match (T.at t).k with
      | .slice e => req (Nat.blt 0 (T.at e).size) <| req (Nat.ble (len * (T.at e).size) 16777216) <| fillK (St.mk env ls m) (fun i => some (i * (T.at e).size, (T.at e).size)) parts.toList (zerosOf T e len).list fun l =>
          ∀ b, m b = none → K ((St.mk env ls (m.set b (.cells l.toArray e (0, 0)))).put dst (.v (.slice (some ⟨b, 0, none⟩) len len)))
      | _ => False
    | .load t p => evK (St.mk env ls m) p fun x => match x with
      | .loc i off => match ls[i]? with
        | some c => ldLoc T c off t fun v => K ((St.mk env ls m).put dst v)
        | none => False
      | .v (.pointer (some p)) => ldT T m p t fun v => K ((St.mk env ls m).put dst v)
      | _ => False
    | .store t p v => req (T.at t).k.here <| evK (St.mk env ls m) p fun x => evK (St.mk env ls m) v fun y => match x with
      | .loc i off => match ls[i]? with
        | some c => stLoc T c off t y fun c' => K ((St.mk env (ls.set i c') m).put dst (.v undef))
        | none => False
      | .v (.pointer (some p)) => stMem T m p t y fun m' => K ((St.mk env ls (m')).put dst (.v undef))
      | _ => False
    | .nilCheck x => evK (St.mk env ls m) x fun v => match v with
      | .v (.pointer q) => ptrK q (fun p => K ((St.mk env ls m).put dst (.v (.pointer (some p))))) False
      | .loc i off => K ((St.mk env ls m).put dst (.loc i off))
      | _ => False
    | .binOp op t x y _ => evK (St.mk env ls m) x fun u => evK (St.mk env ls m) y fun v => binN P T op t x y u v fun r => K ((St.mk env ls m).put dst (.v r))
    | .unOp op _ x => evK (St.mk env ls m) x fun u => unK op u fun r => K ((St.mk env ls m).put dst (.v r))
    | .convert s d x => evK (St.mk env ls m) x fun u => match (T.at s).k, (T.at d).k, u with
      | .int _, .int kd, .v (.int _ n) => K ((St.mk env ls m).put dst (.v (.int kd (kd.wrap n))))
      | .str, .slice e, .v (.string t) => req ((T.at e).k.isInt .u8) <| ∀ (cap b : Nat), t.size ≤ cap → m b = none → K ((St.mk env ls (m.set b (bytesObj t cap e))).put dst (.v (.slice (some ⟨b, 0, none⟩) t.size cap)))
      | .slice e, .str, .v (.slice A n _) => req ((T.at e).k.isInt .u8) <| ∃ l : List UInt8, l.length = n ∧ ((A = none ∧ l = []) ∨ ∃ p, A = some p ∧ m.holds p (byteVals l)) ∧ K ((St.mk env ls m).put dst (.v (.string ⟨l.toArray⟩)))
      | .int _, .int _, _ => False
      | .slice _, .str, _ => False
      | .str, .slice _, _ => False
      | _, _, .v z => RunP P (Go.convert s d z) m fun v m' => K ((St.mk env ls m').put dst (.v v))
      | _, _, _ => False
    | .makeFunc fn first cap => evsK (St.mk env ls m) first.toList fun fs => evsK (St.mk env ls m) cap.toList fun cs => K ((St.mk env ls m).put dst (.v (.func fn fs.toArray cs.toArray)))
    | .makeSlice t l c => evK (St.mk env ls m) l fun x => evK (St.mk env ls m) c fun y => match (T.at t).k, x, y with
      | .slice e, .v (.int .i64 n), .v (.int .i64 c) => req (Nat.blt 0 (T.at e).size) <| 0 ≤ n ∧ n ≤ c ∧ c ≤ 9223372036854775807 ∧ (T.at e).bytes * c ≤ 2 ^ 48 ∧
          ∀ b, m b = none → K ((St.mk env ls (m.set b (.cells (zerosOf T e c.toNat).list.toArray e (0, 0)))).put dst (.v (.slice (some ⟨b, 0, none⟩) n.toNat c.toNat)))
      | _, _, _ => False
    | .slice t x lo hi none => evK (St.mk env ls m) x fun v => match (T.at t).k, v with
      | .slice e, .v (.slice A n c) => req (Nat.blt 0 (T.at e).size) <| optK (St.mk env ls m) hi n fun h => optK (St.mk env ls m) lo 0 fun l =>
          0 ≤ l ∧ l ≤ h ∧ h ≤ c ∧ K ((St.mk env ls m).put dst (.v (.slice (if c = l.toNat then A else A.map fun p => p.add (l.toNat * (T.at e).size)) (h.toNat - l.toNat) (c - l.toNat))))
      | .str, .v (.string s) => optK (St.mk env ls m) hi s.size fun h => optK (St.mk env ls m) lo 0 fun l =>
          0 ≤ l ∧ l ≤ h ∧ h ≤ s.size ∧ K ((St.mk env ls m).put dst (.v (.string (s.extract l.toNat h.toNat))))
      | .arr n e, .v (.pointer (some p)) => req (Nat.blt 0 (T.at e).size) <| optK (St.mk env ls m) hi n fun h => optK (St.mk env ls m) lo 0 fun l =>
          0 ≤ l ∧ l ≤ h ∧ h ≤ n ∧ K ((St.mk env ls m).put dst (.v (.slice (some (if n = l.toNat then p else p.add (l.toNat * (T.at e).size))) (h.toNat - l.toNat) (n - l.toNat))))
      | _, _ => False
    | .fieldAddr s x f => evK (St.mk env ls m) x fun v => match (T.at s).k with
      | .struct fs => match fs[f]? with
        | some (off, ft) => req (Nat.blt 0 (T.at ft).size) <| match v with
          | .loc i o => K ((St.mk env ls m).put dst (.loc i (o + off)))
          | .v (.pointer (some p)) => K ((St.mk env ls m).put dst (.v (.pointer (some (p.add off)))))
          | _ => False
        | none => False
      | _ => False
    | .field s x f => evK (St.mk env ls m) x fun v => match (T.at s).k, v with
      | .struct fs, .v (.agg cs) => match fs[f]? with
        | some (off, ft) => match (T.at ft).k with
          | .struct _ => K ((St.mk env ls m).put dst (.v (.agg (cs.extract off (off + (T.at ft).size)))))
          | .arr _ _ | .other => False
          | _ => match cs.toList[off]? with
            | some c => K ((St.mk env ls m).put dst (.v c))
            | none => False
        | none => False
      | _, _ => False
    | .indexAddr t x i => evK (St.mk env ls m) x fun v => evK (St.mk env ls m) i fun iv => match iv with
      | .v (.int _ j) => match (T.at t).k, v with
        | .arr n e, .loc b o => req (Nat.blt 0 (T.at e).size) <| 0 ≤ j ∧ j < n ∧ K ((St.mk env ls m).put dst (.loc b (o + j.toNat * (T.at e).size)))
        | .arr n e, .v (.pointer (some p)) => req (Nat.blt 0 (T.at e).size) <| 0 ≤ j ∧ j < n ∧ K ((St.mk env ls m).put dst (.v (.pointer (some (p.add (j.toNat * (T.at e).size))))))
        | .slice e, .v (.slice A n _) => req (Nat.blt 0 (T.at e).size) <| ∃ p, A = some p ∧ 0 ≤ j ∧ j < n ∧ K ((St.mk env ls m).put dst (.v (.pointer (some (p.add (j.toNat * (T.at e).size))))))
        | _, _ => False
      | _ => False
    | .index t x i => evK (St.mk env ls m) x fun v => evK (St.mk env ls m) i fun iv => match iv with
      | .v (.int _ j) => match (T.at t).k, v with
        | .arr n e, .ints kd xs => req (Nat.beq (T.at e).size 1) <| req ((T.at e).k.isInt kd) <| 0 ≤ j ∧ j < n ∧ j.toNat < xs.length ∧ K ((St.mk env ls m).put dst (.v (.int kd (xs.getD j.toNat 0))))
        | .arr n e, .bools xs => req (Nat.beq (T.at e).size 1) <| req (T.at e).k.isBool <| 0 ≤ j ∧ j < n ∧ j.toNat < xs.length ∧ K ((St.mk env ls m).put dst (.v (.bool (xs.getD j.toNat false))))
        | .arr n e, .v (.agg cs) => req (Nat.blt 0 (T.at e).size) <| 0 ≤ j ∧ j < n ∧ match (T.at e).k with
          | .struct _ => K ((St.mk env ls m).put dst (.v (.agg (cs.extract (j.toNat * (T.at e).size) (j.toNat * (T.at e).size + (T.at e).size)))))
          | .arr _ _ => K ((St.mk env ls m).put dst (.v (.agg (cs.extract (j.toNat * (T.at e).size) (j.toNat * (T.at e).size + (T.at e).size)))))
          | .other => False
          | _ => ∃ c, cs.toList[j.toNat * (T.at e).size]? = some c ∧ K ((St.mk env ls m).put dst (.v c))
        | .str, .v (.string s) => 0 ≤ j ∧ j < s.size ∧ K ((St.mk env ls m).put dst (.v (.int .u8 (bt s j))))
        | _, _ => False
      | _ => False
    | .extract x i => evK (St.mk env ls m) x fun v => match v with
      | .v (.tuple vs) => match vs.toList[i]? with
        | some u => normK T ty u fun y => K ((St.mk env ls m).put dst y)
        | none => False
      | _ => False
    | .call c => callK P T B dst ty c (St.mk env ls m) K
    | .mapUpdate t x y z => evsK (St.mk env ls m) [x, y, z] fun vs => RunU P (updRun t vs) m fun m' => K ((St.mk env ls m').put dst (.v undef))
    | op => req (genB op) <| evsK (St.mk env ls m) (opArgs op) fun vs => RunP P (opRun ty op vs) m fun v m' => K ((St.mk env ls m').put dst (.v v))

theorem vcOp_eq {P : Program} {T : Tbl} {B pr : List Nat} {dst : Option Nat} {op : Op} {ty : Nat} {S : St} {K : St → Prop} : vcOp P T B pr dst op ty S K = vcOpS P T B pr dst op ty S K := by cases S; rfl
/-! ### newer questions: memory is a name of its own behind what turns it (pr holds 99999) -/
def nwB : List Nat → Bool
  | [] => false
  | j :: r => bif Nat.beq j 99999 then true else nwB r
def newKF (pr : List Nat) (dst : Option Nat) (c : LC) (e : Nat) (S : St) (K : St → Prop) : Prop := match S with
  | ⟨env, ls, m⟩ =>
    match dst with
    | some d =>
      bif pr.contains d then K ((St.mk env (ls ++ [c]) m).put (some d) (.loc ls.length 0))
      else ∀ (b : Nat) (m2 : Mem), m b = none → m2 = m.set b (.cells c.list.toArray e (0, 0)) → K ((St.mk env ls m2).put (some d) (.v (.pointer (some ⟨b, 0, none⟩))))
    | none => False
theorem newKF_old {pr : List Nat} {dst : Option Nat} {c : LC} {e : Nat} {S : St} {K : St → Prop} (h : newKF pr dst c e S K) : newK pr dst c e S K := by
  cases S
  cases dst with
  | none => exact h
  | some d =>
    simp only [newKF, newK] at h ⊢
    cases hp : pr.contains d with
    | true => rw [hp] at h; exact h
    | false => rw [hp] at h; exact fun b hb => h b _ hb rfl
/-- What an append asks, of j elements behind n. -/
def AppOk (T : Tbl) (e : Nat) (m : Mem) (A : Option Addr) (n c : Nat) (B : Option Addr) (j : Nat) (news olds : List Value) : Prop :=
  news.length = j * (T.at e).size ∧ (j * (T.at e).size = 0 ∨ ∃ p, B = some p ∧ m.holds p news) ∧
  (n + j ≤ c → A = none ∨ ∃ p, A = some p ∧ m.room (p.add (n * (T.at e).size)) (j * (T.at e).size) ∧ oneCells news = true) ∧
  (c < n + j → Nat.blt 0 (T.at e).bytes = true ∧ Builtin.nextslicecap (n + j) c * (T.at e).bytes ≤ 2 ^ 48 ∧ olds.length = n * (T.at e).size ∧ ((n * (T.at e).size = 0 ∧ A = none) ∨ ∃ p, A = some p ∧ m.holds p olds))
/-- What it leaves. -/
def AppR (T : Tbl) (e : Nat) (m : Mem) (A : Option Addr) (n c j : Nat) (news olds : List Value) (A' : Option Addr) (c' : Nat) (m' : Mem) : Prop :=
  (n + j ≤ c ∧ A' = A ∧ c' = c ∧ ((A = none ∧ m' = m) ∨ ∃ p, A = some p ∧ m' = m.setCells (p.add (n * (T.at e).size)) 0 news)) ∨
  (c < n + j ∧ ∃ b, n + j ≤ c' ∧ m b = none ∧ A' = some ⟨b, 0, none⟩ ∧ m' = m.set b (.cells (olds ++ news ++ (zerosOf T e (c' - (n + j))).list).toArray e (0, 0)))
def ClearR (m : Mem) (A : Option Addr) (n : Nat) (zs : List Value) (m' : Mem) : Prop :=
  ((A = none ∨ n = 0) ∧ m' = m) ∨ ∃ p, A = some p ∧ 0 < n ∧ m' = m.setCells p 0 zs
def strApp (T : Tbl) (b : Builtin) (ts : List Nat) : Bool := match b, ts with
  | .append, [_, t] => match (T.at t).k with
    | .str => true
    | _ => false
  | .clear, [t] => match (T.at t).k with
    | .slice _ => false
    | _ => true
  | _, _ => false
def builtinF (T : Tbl) (dst : Option Nat) (b : Builtin) (args : List Operand) (ts : List Nat) (S : St) (K : St → Prop) (old : Prop) : Prop := match S with
  | ⟨env, ls, m⟩ =>
    match b, args, ts with
      | .append, [o, o'], [t, t'] => evK (St.mk env ls m) o fun x => evK (St.mk env ls m) o' fun y => match (T.at t).k, (T.at t').k, x, y with
        | .slice e, .slice _, .v (.slice A n c), .v (.slice B j _) => req (Nat.blt 0 (T.at e).size) <|
          ∃ news olds : List Value, AppOk T e m A n c B j news olds ∧ ∀ (A' : Option Addr) (c' : Nat) (m2 : Mem), AppR T e m A n c j news olds A' c' m2 → K ((St.mk env ls m2).put dst (.v (.slice A' (n + j) c')))
        | _, _, _, _ => False
      | .copy, [o, o'], [t, t'] => evK (St.mk env ls m) o fun x => evK (St.mk env ls m) o' fun y => match (T.at t).k, (T.at t').k, x, y with
        | .slice e, .slice _, .v (.slice A n _), .v (.slice B j _) => req (Nat.blt 0 (T.at e).size) <| 
          ∃ news : List Value, news.length = min j n * (T.at e).size ∧ (min j n * (T.at e).size = 0 ∨ ∃ p q, A = some p ∧ B = some q ∧ m.holds q news ∧ m.room p (min j n * (T.at e).size) ∧ oneCells news = true) ∧
            ∀ m2 : Mem, ptrK A (fun p => m2 = m.setCells p 0 news) (m2 = m) → K ((St.mk env ls m2).put dst (.v (.int .i64 (min j n : Nat))))
        | _, _, _, _ => False
      | .clear, [o], [t] => evK (St.mk env ls m) o fun x => match (T.at t).k, x with
        | .slice e, .v (.slice A n _) => req (Nat.blt 0 (T.at e).size) <| req (oneCells (T.at e).zero.list) <|
          (∀ p, A = some p → 0 < n → m.room p (n * (T.at e).size)) ∧ ∀ m2 : Mem, ClearR m A n (zerosOf T e n).list m2 → K ((St.mk env ls m2).put dst (.v (.tuple #[])))
        | _, _ => False
      | _, _, _ => old
noncomputable def vcOpF (P : Program) (T : Tbl) (B pr : List Nat) (dst : Option Nat) (op : Op) (ty : Nat) (S : St) (K : St → Prop) : Prop := match S with
  | ⟨env, ls, m⟩ =>
    match op with
    | .alloc e => req (T.at e).k.here <| newKF pr dst (T.at e).zero e (St.mk env ls m) K
    | .box e x => evK (St.mk env ls m) x fun v => contentK v fun c => newKF pr dst c e (St.mk env ls m) K
    | .buildSlice t len parts => match (T.at t).k with
      | .slice e => req (Nat.blt 0 (T.at e).size) <| req (Nat.ble (len * (T.at e).size) 16777216) <| fillK (St.mk env ls m) (fun i => some (i * (T.at e).size, (T.at e).size)) parts.toList (zerosOf T e len).list fun l =>
          ∀ (b : Nat) (m2 : Mem), m b = none → m2 = m.set b (.cells l.toArray e (0, 0)) → K ((St.mk env ls m2).put dst (.v (.slice (some ⟨b, 0, none⟩) len len)))
      | _ => False
    | .store t p v => req (T.at t).k.here <| evK (St.mk env ls m) p fun x => evK (St.mk env ls m) v fun y => match x with
      | .loc i off => match ls[i]? with
        | some c => stLoc T c off t y fun c' => K ((St.mk env (ls.set i c') m).put dst (.v undef))
        | none => False
      | .v (.pointer (some p)) => stMem T m p t y fun m' => ∀ m2 : Mem, m2 = m' → K ((St.mk env ls m2).put dst (.v undef))
      | _ => False
    | .convert s d x => evK (St.mk env ls m) x fun u => match (T.at s).k, (T.at d).k, u with
      | .int _, .int kd, .v (.int _ n) => K ((St.mk env ls m).put dst (.v (.int kd (kd.wrap n))))
      | .str, .slice e, .v (.string t) => req ((T.at e).k.isInt .u8) <| ∀ (cap b : Nat) (m2 : Mem), t.size ≤ cap → m b = none → m2 = m.set b (bytesObj t cap e) → K ((St.mk env ls m2).put dst (.v (.slice (some ⟨b, 0, none⟩) t.size cap)))
      | .slice e, .str, .v (.slice A n _) => req ((T.at e).k.isInt .u8) <| ∃ l : List UInt8, l.length = n ∧ ((A = none ∧ l = []) ∨ ∃ p, A = some p ∧ m.holds p (byteVals l)) ∧ K ((St.mk env ls m).put dst (.v (.string ⟨l.toArray⟩)))
      | .int _, .int _, _ => False
      | .slice _, .str, _ => False
      | .str, .slice _, _ => False
      | _, _, .v z => RunP P (Go.convert s d z) m fun v m' => K ((St.mk env ls m').put dst (.v v))
      | _, _, _ => False
    | .makeSlice t l c => evK (St.mk env ls m) l fun x => evK (St.mk env ls m) c fun y => match (T.at t).k, x, y with
      | .slice e, .v (.int .i64 n), .v (.int .i64 c) => req (Nat.blt 0 (T.at e).size) <| 0 ≤ n ∧ n ≤ c ∧ c ≤ 9223372036854775807 ∧ (T.at e).bytes * c ≤ 2 ^ 48 ∧
          ∀ (b : Nat) (m2 : Mem), m b = none → m2 = m.set b (.cells (zerosOf T e c.toNat).list.toArray e (0, 0)) → K ((St.mk env ls m2).put dst (.v (.slice (some ⟨b, 0, none⟩) n.toNat c.toNat)))
      | _, _, _ => False
    | .call c => match c.callee with
      | .builtin b => bif strApp T b c.argTypes.toList then callK P T B dst ty c (St.mk env ls m) K else builtinF T dst b c.args.toList c.argTypes.toList (St.mk env ls m) K (callK P T B dst ty c (St.mk env ls m) K)
      | _ => callK P T B dst ty c (St.mk env ls m) K
    | op => vcOp P T B pr dst op ty (St.mk env ls m) K
theorem evK_mono {S : St} {o : Operand} {k k' : AV → Prop} (h : evK S o k) (hk : ∀ x, k x → k' x) : evK S o k' := by
  cases o with
  | tmp t =>
    simp only [evK] at h ⊢
    generalize S.env = E at h ⊢
    induction E with
    | nil => exact h
    | cons a r ih =>
      obtain ⟨i, x⟩ := a
      simp only [lkK] at h ⊢
      cases hb : Nat.beq i t with
      | true => rw [hb] at h; exact hk _ h
      | false => rw [hb] at h; exact ih h
  | const v => exact hk _ h
  | global g => exact hk _ h
  | func f => exact hk _ h
theorem req_mono {b : Bool} {A A' : Prop} (h : req b A) (hk : A → A') : req b A' := by
  cases b
  · exact h
  · exact hk h
theorem stMem_mono {T : Tbl} {m : Mem} {p : Addr} {t : Nat} {x : AV} {k k' : Mem → Prop} (h : stMem T m p t x k) (hk : ∀ m, k m → k' m) : stMem T m p t x k' := by
  cases x with
  | v v => cases v <;> exact req_mono h fun h => req_mono h fun h => ⟨h.1, hk _ h.2⟩
  | ints kd xs => exact ⟨h.1, h.2.1, hk _ h.2.2⟩
  | bools xs => exact ⟨h.1, h.2.1, hk _ h.2.2⟩
  | loc i off => exact h
theorem contentK_mono {x : AV} {k k' : LC → Prop} (h : contentK x k) (hk : ∀ c, k c → k' c) : contentK x k' := by
  cases x with
  | v v => cases v <;> exact hk _ h
  | ints kd xs => exact hk _ h
  | bools xs => exact hk _ h
  | loc i off => exact h
theorem fillK_mono {S : St} {place : Nat → Option (Nat × Nat)} {k k' : List Value → Prop} (hk : ∀ l, k l → k' l) : ∀ {ps : List (Nat × Operand)} {l : List Value}, fillK S place ps l k → fillK S place ps l k'
  | [], _, h => hk _ h
  | (i, o) :: r, l, h => by
    unfold fillK at h ⊢
    cases hp : place i with
    | none => rw [hp] at h; exact h
    | some a =>
      rw [hp] at h
      refine evK_mono h fun x hx => ?_
      unfold valK at hx ⊢
      split at hx <;> first | exact hx | exact req_mono hx fun h => req_mono h fun h => fillK_mono hk h
theorem builtinF_old {P : Program} {T : Tbl} {B : List Nat} {dst : Option Nat} {ty : Nat} {c : Call} {b : Builtin} {S : St} {K : St → Prop} (hc : c.callee = .builtin b) (h : builtinF T dst b c.args.toList c.argTypes.toList S K (callK P T B dst ty c S K)) : callK P T B dst ty c S K := by
  obtain ⟨env, ls, m⟩ := S
  unfold builtinF at h
  simp only at h
  split at h
  · rename_i o o' t t' ha ht
    simp only [callK, hc, ha, ht]
    refine evK_mono h fun x hx => evK_mono hx fun y hy => ?_
    split at hy
    · rename_i q1 q2
      simp only [q1, q2]
      refine req_mono hy fun ⟨news, olds, ⟨h1, h2, h3, h4⟩, hk⟩ => ⟨news, h1, h2, fun hle => ?_, fun hlt => ?_⟩
      · rcases h3 hle with hA | ⟨p, hA, h5, h6⟩
        · exact .inr ⟨hA, hk _ _ _ (.inl ⟨hle, rfl, rfl, .inl ⟨hA, rfl⟩⟩)⟩
        · exact .inl ⟨p, hA, h5, h6, hk _ _ _ (.inl ⟨hle, rfl, rfl, .inr ⟨p, hA, rfl⟩⟩)⟩
      · obtain ⟨q1, q2, q3, q4⟩ := h4 hlt
        rw [q1]
        exact ⟨q2, olds, q3, q4, fun cap b hcap hb => hk _ _ _ (.inr ⟨hlt, b, hcap, hb, rfl, rfl⟩)⟩
    · exact hy.elim
  · rename_i o o' t t' ha ht
    simp only [callK, hc, ha, ht]
    refine evK_mono h fun x hx => evK_mono hx fun y hy => ?_
    split at hy
    · refine req_mono hy fun ⟨news, h1, h2, hk⟩ => ⟨news, h1, h2, ?_⟩
      unfold ptrK
      split <;> exact hk _ rfl
    · exact hy
  · rename_i o t ha ht
    simp only [callK, hc, ha, ht]
    refine evK_mono h fun x hx => ?_
    split at hx
    · rename_i q1
      simp only [q1]
      exact req_mono hx fun h => req_mono h fun ⟨h1, hk⟩ => ⟨fun h0 => hk _ (.inl ⟨h0, rfl⟩), fun p hp h0 => ⟨h1 p hp h0, hk _ (.inr ⟨p, hp, h0, rfl⟩)⟩⟩
    · exact hx.elim
  · exact h
theorem vcOpF_old {P : Program} {T : Tbl} {B pr : List Nat} {dst : Option Nat} {op : Op} {ty : Nat} {S : St} {K : St → Prop} (h : vcOpF P T B pr dst op ty S K) : vcOp P T B pr dst op ty S K := by
  obtain ⟨env, ls, m⟩ := S
  unfold vcOpF at h
  simp only at h
  split at h
  · exact req_mono h newKF_old
  · exact evK_mono h fun x hx => contentK_mono hx fun c => newKF_old
  · unfold vcOp
    try simp only
    split at h
    · rename_i ht
      try simp only [ht]
      exact req_mono h fun h => req_mono h fun h => fillK_mono (fun l hl b hb => hl b _ hb rfl) h
    · exact h.elim
  · unfold vcOp
    try simp only
    refine req_mono h fun h => evK_mono h fun x hx => evK_mono hx fun y hy => ?_
    split at hy
    · exact hy
    · exact stMem_mono hy fun m hm => hm m rfl
    · exact hy
  · unfold vcOp
    try simp only
    refine evK_mono h fun u hu => ?_
    split at hu
    · exact hu
    · exact req_mono hu fun h cap b h1 h2 => h cap b _ h1 h2 rfl
    · exact hu
    all_goals exact hu
  · unfold vcOp
    try simp only
    refine evK_mono h fun x hx => evK_mono hx fun y hy => ?_
    split at hy
    · exact req_mono hy fun ⟨h1, h2, h3, h4, hk⟩ => ⟨h1, h2, h3, h4, fun b hb => hk b _ hb rfl⟩
    · exact hy
  · rename_i c
    unfold vcOp
    try simp only
    split at h
    · rename_i b hb
      cases hs : strApp T b c.argTypes.toList with
      | true => rw [hs] at h; exact h
      | false => rw [hs] at h; exact builtinF_old hb h
    · exact h
  · exact h
noncomputable def vcOpN (P : Program) (T : Tbl) (B pr : List Nat) (dst : Option Nat) (op : Op) (ty : Nat) (S : St) (K : St → Prop) : Prop := match nwB pr with
  | true => vcOpF P T B pr dst op ty S K
  | false => vcOp P T B pr dst op ty S K
theorem vcOpN_old {P : Program} {T : Tbl} {B pr : List Nat} {dst : Option Nat} {op : Op} {ty : Nat} {S : St} {K : St → Prop} (h : vcOpN P T B pr dst op ty S K) : vcOp P T B pr dst op ty S K := by
  unfold vcOpN at h
  split at h
  · exact vcOpF_old h
  · exact h
/-- Operations, in the text's order. -/
noncomputable def opStep (P : Program) (T : Tbl) (B pr : List Nat) (ops : List Oper) (o : Oper) (ih : St → (St → Prop) → Prop) (S : St) (K : St → Prop) : Prop := match o, S with
  | ⟨dst, op, ty, _, _, guard⟩, ⟨env, ls, m⟩ => match guard with
    | none => vcOpN P T B pr dst op ty ⟨env, ls, m⟩ fun S' => ih S' K
    | some (j, want) => match (ops[j]?).bind (·.dst) with
      | none => False
      | some d => lkK env d fun x => match x with
        | .v (.bool b) => brk (b == want) (vcOpN P T B pr dst op ty ⟨(d, .v (.bool want)) :: env, ls, m⟩ fun S' => ih S' K)
            (ih (St.put ⟨(d, .v (.bool (!want))) :: env, ls, m⟩ dst (.v undef)) K)
        | .v (.tuple _) => ih (St.put ⟨env, ls, m⟩ dst (.v undef)) K
        | _ => False
noncomputable def vcOps (P : Program) (T : Tbl) (B pr : List Nat) (ops : List Oper) (l : List Oper) : St → (St → Prop) → Prop :=
  List.rec (motive := fun _ => St → (St → Prop) → Prop) (fun S K => K S) (fun o _ ih => opStep P T B pr ops o ih) l
/-- What a region that draws its order may do ahead of its tail: it reads, and calls what leaves memory as it was. -/
def quietKind (T : Tbl) : Op → Bool
  | .convert s d _ => match (T.at s).k, (T.at d).k with
    | .int _, .int _ => true
    | .slice _, .str => true
    | _, _ => false
  | .move _ | .assign _ | .build .. | .pick .. | .nilCheck _ | .binOp .. | .unOp .. | .fieldAddr .. | .field .. | .indexAddr .. | .index .. | .extract .. | .load .. | .slice .. | .makeFunc .. => true
  | _ => false
noncomputable def vcQS (P : Program) (T : Tbl) (B pr : List Nat) (dst : Option Nat) (op : Op) (ty : Nat) (S : St) (K : St → Prop) : Prop :=
  match op with
  | .call c => match c.callee with
    | .value f => evK S f fun x => match x with
      | .v (.func (.func g) first cap) => req (B.contains g) <| evsK S c.args.toList fun vs =>
          ∃ v, FCalls P g (first.toList ++ vs ++ cap.toList) S.m (fun u m' => u = v ∧ m' = S.m) ∧ normK T ty v fun y => K (S.put dst y)
      | _ => False
    | .builtin b => req (quietBuiltin b) <| callK P T B dst ty c S K
    | _ => False
  | op => req (quietKind T op) <| vcOp P T B pr dst op ty S K
noncomputable def vcQ (P : Program) (T : Tbl) (B pr : List Nat) (dst : Option Nat) (op : Op) (ty : Nat) (S : St) (K : St → Prop) : Prop := match S with
  | ⟨env, ls, m⟩ =>
    match op with
    | .call c => match c.callee with
      | .value f => evK (St.mk env ls m) f fun x => match x with
        | .v (.func (.func g) first cap) => req (B.contains g) <| evsK (St.mk env ls m) c.args.toList fun vs =>
            ∃ v, FCalls P g (first.toList ++ vs ++ cap.toList) m (fun u m' => u = v ∧ m' = m) ∧ normK T ty v fun y => K ((St.mk env ls m).put dst y)
        | _ => False
      | .builtin b => req (quietBuiltin b) <| callK P T B dst ty c (St.mk env ls m) K
      | _ => False
    | op => req (quietKind T op) <| vcOp P T B pr dst op ty (St.mk env ls m) K
theorem vcQ_eq {P : Program} {T : Tbl} {B pr : List Nat} {dst : Option Nat} {op : Op} {ty : Nat} {S : St} {K : St → Prop} : vcQ P T B pr dst op ty S K = vcQS P T B pr dst op ty S K := by cases S; rfl
noncomputable def opStepQ (P : Program) (T : Tbl) (B pr : List Nat) (ops : List Oper) (o : Oper) (ih : St → (St → Prop) → Prop) (S : St) (K : St → Prop) : Prop := match o, S with
  | ⟨dst, op, ty, _, _, guard⟩, ⟨env, ls, m⟩ => match guard with
    | none => vcQ P T B pr dst op ty ⟨env, ls, m⟩ fun S' => ih S' K
    | some (j, want) => match (ops[j]?).bind (·.dst) with
      | none => False
      | some d => lkK env d fun x => match x with
        | .v (.bool b) => brk (b == want) (vcQ P T B pr dst op ty ⟨(d, .v (.bool want)) :: env, ls, m⟩ fun S' => ih S' K)
            (ih (St.put ⟨(d, .v (.bool (!want))) :: env, ls, m⟩ dst (.v undef)) K)
        | .v (.tuple _) => ih (St.put ⟨env, ls, m⟩ dst (.v undef)) K
        | _ => False
noncomputable def vcQs (P : Program) (T : Tbl) (B pr : List Nat) (ops : List Oper) (l : List Oper) : St → (St → Prop) → Prop :=
  List.rec (motive := fun _ => St → (St → Prop) → Prop) (fun S K => K S) (fun o _ ih => opStepQ P T B pr ops o ih) l
/-- What is known may be forgotten: fewer slots, fewer boxes, less memory. -/
def St.le (S S' : St) : Prop := (∀ i x, lk S'.env i = some x → lk S.env i = some x) ∧ (∃ l, S.ls = S'.ls ++ l) ∧ (∀ b o, S'.m b = some o → S.m b = some o) ∧ (∀ i x, lk S'.env i = some x → match x with | .loc j _ => j < S'.ls.length | _ => True)
/-- A loop: an invariant and a measure. -/
@[irreducible] def LoopP (f : (Exit → St → Prop) → St → Prop) (K : Exit → St → Prop) (S : St) : Prop :=
  ∃ (σ : Type) (st : σ → St) (J : σ → Prop) (μ : σ → Nat), (∃ s, S.le (st s) ∧ J s) ∧ ∀ s, J s → f (fun e S'' => match e with | .normal => ∃ s1, S''.le (st s1) ∧ J s1 ∧ μ s1 < μ s | e => K e S'') (st s)
/-- An order in which a region that draws is told of: what may be taken first (bl: who waits for it), or each that can come up. -/
inductive Sched where
  | done
  | one (i : Nat) (bl : List Nat) (s : Sched)
  | fork (i : Nat) (s t : Sched)
  | stop
/-- Where a region's tail begins; or its order. -/
inductive DE where
  | n (k : Nat)
  | s (t : Sched)
instance {k : Nat} : OfNat DE k := ⟨.n k⟩
def quietOp (T : Tbl) : Op → Bool
  | .call c => match c.callee with
    | .builtin b => quietBuiltin b
    | _ => false
  | op => quietKind T op
noncomputable def stepX (P : Program) (T : Tbl) (B pr : List Nat) (ops : List Oper) (i : Nat) (ih : St → (St → Prop) → Prop) (S : St) (K : St → Prop) : Prop :=
  match ops[i]? with
  | some o => bif quietOp T o.op then opStepQ P T B pr ops o ih S K else opStep P T B pr ops o ih S K
  | none => False
noncomputable def vcSched (P : Program) (T : Tbl) (B pr : List Nat) (ops : List Oper) (s : Sched) : St → (St → Prop) → Prop :=
  Sched.rec (motive := fun _ => St → (St → Prop) → Prop) (fun S K => K S) (fun i _ _ ih => stepX P T B pr ops i ih)
    (fun i _ _ ihs iht S K => stepX P T B pr ops i ihs S K ∧ iht S K) (fun _ _ => True) s
/-! ### panics -/
/-- pr holds 200000 + g: the function g may panic. -/
def panB (pr : List Nat) : Bool := pr.any fun i => Nat.ble 200000 i
def panCall (pr : List Nat) (c : Call) : Option Nat := match c.callee with
  | .value f => match f with
    | .func g => bif pr.contains (200000 + g) then some g else none
    | _ => none
  | _ => none
def panOp (pr : List Nat) (o : Oper) : Bool := match o.op with
  | .call c => (panCall pr c).isSome
  | .panic _ => true
  | _ => false
def panReg (pr : List Nat) (ops : List Oper) : Bool := bif panB pr then ops.any (panOp pr) else false
def ifaceK (x : AV) (k : Value → Prop) : Prop := match x with
  | .v v => match v with
    | .iface t u => k (.iface t u)
    | _ => False
  | _ => False
/-- What is known of the slots that some operations do not write. -/
def dstsB (ops : List Oper) (i : Nat) : Bool := ops.any fun o => match o.dst with
  | some d => Nat.beq d i
  | none => false
def cutEnv (ops : List Oper) : Env → Env
  | [] => []
  | (i, x) :: r => bif dstsB ops i then cutEnv ops r else (i, x) :: cutEnv ops r
noncomputable def opStepP (P : Program) (T : Tbl) (B pr : List Nat) (ops : List Oper) (o : Oper) (ih : St → (Exit → St → Prop) → Prop) (S : St) (K : Exit → St → Prop) : Prop := match o, S with
  | ⟨dst, op, ty, pos, after, guard⟩, ⟨env, ls, m⟩ => match panOp pr ⟨dst, op, ty, pos, after, guard⟩ with
    | false => opStep P T B pr ops ⟨dst, op, ty, pos, after, guard⟩ (fun S' _ => ih S' K) ⟨env, ls, m⟩ (fun _ => True)
    | true => match guard with
      | some _ => False
      | none => match op with
        | .call c => match panCall pr c with
          | some g => req (B.contains g) <| evsK ⟨env, ls, m⟩ c.args.toList fun vs => PCalls P g vs m (fun v m' => normK T ty v fun y => ih (St.put ⟨env, ls, m'⟩ dst y) K) (fun x m' => K (.panic (chain x)) ⟨cutEnv ops env, ls, m'⟩)
          | none => False
        | .panic x => evK ⟨env, ls, m⟩ x fun y => ifaceK y fun v => K (.panic (chain v)) ⟨cutEnv ops env, ls, m⟩
        | _ => False
noncomputable def vcOpsP (P : Program) (T : Tbl) (B pr : List Nat) (ops : List Oper) (l : List Oper) : St → (Exit → St → Prop) → Prop :=
  List.rec (motive := fun _ => St → (Exit → St → Prop) → Prop) (fun S K => K .normal S) (fun o _ ih => opStepP P T B pr ops o ih) l
noncomputable def stepXP (P : Program) (T : Tbl) (B pr : List Nat) (ops : List Oper) (i : Nat) (ih : St → (Exit → St → Prop) → Prop) (S : St) (K : Exit → St → Prop) : Prop :=
  match ops[i]? with
  | some o => bif quietOp T o.op then opStepQ P T B pr ops o (fun S' _ => ih S' K) S (fun _ => True) else opStepP P T B pr ops o ih S K
  | none => False
noncomputable def vcSchedP (P : Program) (T : Tbl) (B pr : List Nat) (ops : List Oper) (s : Sched) : St → (Exit → St → Prop) → Prop :=
  Sched.rec (motive := fun _ => St → (Exit → St → Prop) → Prop) (fun S K => K .normal S) (fun i _ _ ih => stepXP P T B pr ops i ih)
    (fun i _ _ ihs iht S K => stepXP P T B pr ops i ihs S K ∧ iht S K) (fun _ _ => True) s
def drawAt : List (Nat × DE) → Nat → Option DE
  | [], _ => none
  | (i, n) :: r, id => bif Nat.beq i id then some n else drawAt r id

/-! ### a range over a function -/
def hasB : List Nat → Nat → Bool
  | [], _ => false
  | j :: r, i => bif Nat.beq j i then true else hasB r i
def plainEnvG (seen : List Nat) : Env → Env
  | [] => []
  | (i, x) :: r => match x with
    | .loc _ _ => plainEnvG (i :: seen) r
    | x => bif hasB seen i then plainEnvG seen r else (i, x) :: plainEnvG seen r
/-- The entries that are no boxes. -/
def plainEnv (E : Env) : Env := plainEnvG [] E
def parEnv : List Nat → List Value → Env → Env
  | p :: ps, v :: vs, E => parEnv ps vs ((p, .v v) :: E)
  | _, _, E => E
def Mem.del (m : Mem) (l : Nat) : Mem := fun b => if b = l then none else m b
/-- The jump that a round's end leaves behind. -/
def jumpOf : Exit → Option Code
  | .ret => some .ret
  | .exit id => some (.exit id)
  | _ => none
/-- What a call of yield leaves: R, by the way in which the round is left; the loop's record beside it. -/
def roundR (l : Nat) (rec : Loop) (R : Exit → Mem → Prop) (v : Value) (m2 : Mem) : Prop :=
  ∃ m3 : Mem, m3 l = none ∧ ((v = .bool true ∧ m2 = m3.set l (.loop rec) ∧ R .normal m3) ∨
    (v = .bool false ∧ ∃ e c, jumpOf e = some c ∧ m2 = m3.set l (.loop { rec with state := .done, pending := some c }) ∧ R e m3))
def roundK (R : Exit → Mem → Prop) (e : Exit) (S : St) : Prop :=
  match e with
  | .normal => R .normal S.m
  | .ret => R .ret S.m
  | .exit id => R (.exit id) S.m
  | _ => False
def pendK (K : Exit → St → Prop) (c : Option Code) (S : St) : Prop :=
  match c with
  | none => K .normal S
  | some .ret => K .ret S
  | some (.exit id) => K (.exit id) S
  | _ => False
@[irreducible] def RangeP (P : Program) (f : Nat) (first cap : List Value) (ps : List Nat) (X Y : (Exit → St → Prop) → St → Prop) (K : Exit → St → Prop) (S : St) : Prop :=
  ∀ (l : Nat) (rec : Loop), S.m l = none → rec.state = .ready → rec.pending = none →
    (∀ (vals : List Value) (m1 : Mem) (R : Exit → Mem → Prop), m1 l = some (.loop rec) → vals.length = ps.length →
      X (fun e S1 => match e with | .normal => Y (roundK R) S1 | _ => False) ⟨parEnv ps vals (plainEnv S.env), [], m1.del l⟩ → YCalls P l vals m1 (roundR l rec R)) →
    FCalls P f (first ++ [.func (.yield l) #[] #[]] ++ cap) (S.m.set l (.loop rec)) fun _ m' => ∃ st pend, st ≠ .busy ∧ m' l = some (.loop { rec with state := st, pending := pend }) ∧ pendK K pend ⟨S.env, S.ls, m'.del l⟩
/-- Where ways meet: what is to be known behind x may be said anew. -/
@[irreducible] def JoinP (X Y : (Exit → St → Prop) → St → Prop) (K : Exit → St → Prop) (S : St) : Prop :=
  ∃ J : St → Prop, X (fun e S' => match e with | .normal => ∃ S1, S'.le S1 ∧ J S1 | e => K e S') S ∧ ∀ S1, J S1 → Y K S1
def firstRegion : Code → Option Nat
  | .region id _ _ => some id
  | .seq x _ => firstRegion x
  | .cond _ x _ => firstRegion x
  | .block _ x => firstRegion x
  | .loop x => firstRegion x
  | _ => none
/-- DR holds 100000 + the first region within a cond's first branch: its ways meet by JoinP. -/
def joinAt (DR : List (Nat × DE)) : Code → Bool
  | .cond _ a _ => match firstRegion a with
    | some id => match drawAt DR (100000 + id) with
      | some _ => true
      | none => false
    | none => false
  | .seq _ y => joinAt DR y
  | .block _ y => joinAt DR y
  | _ => false
/-- The code. DR: of each region that draws its order, where its tail begins. -/
noncomputable def vc (P : Program) (T : Tbl) (B pr : List Nat) (DR : List (Nat × DE)) (c : Code) : (Exit → St → Prop) → St → Prop :=
  Code.rec (motive := fun _ => (Exit → St → Prop) → St → Prop)
    (fun K S => K .normal S)
    (fun id ops draw K S => match draw with
      | false => bif panReg pr ops.toList then vcOpsP P T B pr ops.toList ops.toList S K else vcOps P T B pr ops.toList ops.toList S (K .normal)
      | true => match drawAt DR id with
        | some e => match e with
          | .n n => vcQs P T B pr ops.toList (ops.toList.take n) S fun S' => vcOps P T B pr ops.toList (ops.toList.drop n) S' (K .normal)
          | .s t => bif panReg pr ops.toList then vcSchedP P T B pr ops.toList t S K else vcSched P T B pr ops.toList t S (K .normal)
        | none => False)
    (fun a _ x y K S => bif joinAt DR a then JoinP x y K S else x (fun e S' => match e with | .normal => y K S' | e => K e S') S)
    (fun c _ _ x y K S => evK S c fun v => match v with
      | .v (.bool b) => brk b (x K S) (y K S)
      | _ => False)
    (fun id _ x K S => x (fun e S' => match e with | .exit j => bif Nat.beq j id then K .normal S' else K (.exit j) S' | e => K e S') S)
    (fun _ x K S => LoopP x K S)
    (fun g ps _ _ x y K S => evK S g fun gv => match gv with
      | .v (.func (.func f) first cap) => req (B.contains f) <| RangeP P f first.toList cap.toList ps.toList x y K S
      | _ => False)
    (fun id K S => K (.exit id) S)
    (fun _ _ _ _ => False)
    (fun _ _ _ => False)
    (fun _ _ _ => False)
    (fun K S => K .ret S)
    (fun _ _ _ => False) c
section
variable {P : Program} {T : Tbl} {B pr : List Nat} {DR : List (Nat × DE)} {K : Exit → St → Prop} {S : St}
theorem vc_skip : vc P T B pr DR .skip K S = K .normal S := rfl
theorem vc_region {id : Nat} {ops : Array Oper} : vc P T B pr DR (.region id ops false) K S = bif panReg pr ops.toList then vcOpsP P T B pr ops.toList ops.toList S K else vcOps P T B pr ops.toList ops.toList S (K .normal) := rfl
theorem vc_draw {id : Nat} {ops : Array Oper} : vc P T B pr DR (.region id ops true) K S = match drawAt DR id with
    | some e => match e with
      | .n n => vcQs P T B pr ops.toList (ops.toList.take n) S fun S' => vcOps P T B pr ops.toList (ops.toList.drop n) S' (K .normal)
      | .s t => bif panReg pr ops.toList then vcSchedP P T B pr ops.toList t S K else vcSched P T B pr ops.toList t S (K .normal)
    | none => False := rfl
theorem vc_seq {x y : Code} : vc P T B pr DR (.seq x y) K S = bif joinAt DR x then JoinP (vc P T B pr DR x) (vc P T B pr DR y) K S else vc P T B pr DR x (fun e S' => match e with | .normal => vc P T B pr DR y K S' | e => K e S') S := rfl
theorem vc_cond {c : Operand} {x y : Code} : vc P T B pr DR (.cond c x y) K S = evK S c fun v => match v with
    | .v (.bool b) => brk b (vc P T B pr DR x K S) (vc P T B pr DR y K S)
    | _ => False := rfl
theorem vc_block {id : Nat} {c : Code} : vc P T B pr DR (.block id c) K S = vc P T B pr DR c (fun e S' => match e with | .exit j => bif Nat.beq j id then K .normal S' else K (.exit j) S' | e => K e S') S := rfl
theorem vc_loop {c : Code} : vc P T B pr DR (.loop c) K S = LoopP (vc P T B pr DR c) K S := rfl
theorem vc_exit {id : Nat} : vc P T B pr DR (.exit id) K S = K (.exit id) S := rfl
theorem vc_ret : vc P T B pr DR .ret K S = K .ret S := rfl
theorem vc_rangeFunc {g : Operand} {ps : Array Tmp} {x y : Code} : vc P T B pr DR (.rangeFunc g ps x y) K S = evK S g fun gv => match gv with
    | .v (.func (.func f) first cap) => req (B.contains f) <| RangeP P f first.toList cap.toList ps.toList (vc P T B pr DR x) (vc P T B pr DR y) K S
    | _ => False := rfl
theorem vc_scope {x : Code} : vc P T B pr DR (.scope x) K S = False := rfl
theorem vc_label {l : Nat} : vc P T B pr DR (.label l) K S = False := rfl
theorem vc_goto {l : Nat} : vc P T B pr DR (.goto l) K S = False := rfl
theorem vc_refuse {s : String} : vc P T B pr DR (.refuse s) K S = False := rfl
end
end Go.Mv
/- Mv: the relation between what is told of a frame and the machine's own; single steps on memory. -/
namespace Go.Mv
open Go

/-! ### the table of types -/
def descOk : TK → TypeDesc → Bool
  | .int k, .int k' => IntKind.eqb k k'
  | .bool, .bool => true
  | .str, .string => true
  | .ptr, .pointer _ => true
  | .slice e, .slice e' => Nat.beq e e'
  | .arr n e, .array n' e' => Nat.beq n n' && Nat.beq e e'
  | .struct fs, .struct gs => decide (gs.toList.map (fun f => (f.offset, f.type)) = fs)
  | .func, .func _ _ _ => true
  | .one, .map _ _ => true
  | .one, .interface _ => true
  | _, _ => false
def valB : Value → Value → Bool
  | .int k a, .int k' b => IntKind.eqb k k' && decide (a = b)
  | .bool a, .bool b => decide (a = b)
  | .pointer none, .pointer none => true
  | .slice none 0 0, .slice none 0 0 => true
  | .string a, .string b => decide (a.data = b.data)
  | .nilFunc, .nilFunc => true
  | .nilIface, .nilIface => true
  | .map none, .map none => true
  | _, _ => false
def listB : List Value → List Value → Bool
  | [], [] => true
  | a :: r, b :: s => valB a b && listB r s
  | _, _ => false
def isAggV : Value → Bool
  | .agg _ => true
  | _ => false
def TK.agg : TK → Bool
  | .arr _ _ | .struct _ => true
  | _ => false
def eqOk (P : Program) (t : Nat) : Bool :=
  !P.eqGuardType P.depth t && match P.underlying t with
    | some (.struct fs) => !P.stoodInHeld t && fs.toList.all fun f => decide (f.name ≠ "_")
    | _ => true
def ptrOk (P : Program) (t : Nat) : Bool :=
  match P.underlying t with
  | some (.pointer e) => (P.info? e).isSome
  | _ => true
def tiOk (P : Program) (t : Nat) (i : TI) : Bool :=
  match P.info? t, P.underlying t with
  | some inf, some d => descOk i.k d && Nat.beq inf.size i.size && Nat.beq inf.bytes i.bytes && Nat.beq i.zero.list.length i.size && ptrOk P t && match inf.zero with
    | some z => listB z.cells.toList i.zero.list && ((isAggV z == i.k.agg) && (!i.eq || eqOk P t))
    | none => false
  | _, _ => false
def Tbl.ok (P : Program) (T : Tbl) : Bool := T.all fun x => tiOk P x.1 x.2
theorem valB_spec {a b : Value} (h : valB a b = true) : a = b := by
  unfold valB at h
  split at h
  · simp only [Bool.and_eq_true, decide_eq_true_eq] at h; rw [IntKind.eqb_spec h.1, h.2]
  · rw [of_decide_eq_true h]
  · rfl
  · rfl
  · have := of_decide_eq_true h
    rename_i a b
    cases a; cases b; simp_all
  · rfl
  · rfl
  · rfl
  · cases h
theorem listB_spec : ∀ {a b : List Value}, listB a b = true → a = b
  | [], [], _ => rfl
  | a :: r, b :: s, h => by
    simp only [listB, Bool.and_eq_true] at h
    rw [valB_spec h.1, listB_spec h.2]
  | [], _ :: _, h => by simp [listB] at h
  | _ :: _, [], h => by simp [listB] at h
structure TyFact (P : Program) (t : Nat) (i : TI) : Prop where
  desc : ∃ d, P.underlying t = some d ∧ descOk i.k d = true
  info : ∃ inf, P.info? t = some inf ∧ inf.size = i.size ∧ inf.bytes = i.bytes ∧ ∃ z, inf.zero = some z ∧ z.cells.toList = i.zero.list ∧ isAggV z = i.k.agg
  len : i.zero.list.length = i.size
  eq : i.eq = true → eqOk P t = true
  ptr : ∀ e, P.underlying t = some (.pointer e) → ∃ j, P.info? e = some j
theorem Tbl.at_mem : ∀ {T : Tbl} {t : Nat}, (T.at t).k ≠ .other → (t, T.at t) ∈ T
  | [], t, h => by simp [Tbl.at] at h
  | (i, x) :: r, t, h => by
    simp only [Tbl.at] at h ⊢
    cases hb : Nat.beq i t with
    | true => rw [hb] at h; simp [Nat.eq_of_beq_eq_true hb]
    | false => rw [hb] at h; simp only [cond_false] at h ⊢; exact List.mem_cons_of_mem _ (Tbl.at_mem h)
theorem Tbl.fact {P : Program} {T : Tbl} (h : T.ok P = true) {t : Nat} (hk : (T.at t).k ≠ .other) : TyFact P t (T.at t) := by
  have h1 := List.all_eq_true.1 h _ (Tbl.at_mem hk)
  simp only [tiOk] at h1
  split at h1
  · rename_i inf d hi hd
    simp only [Bool.and_eq_true] at h1
    obtain ⟨⟨⟨⟨⟨h2, h3⟩, h4⟩, h6⟩, h7⟩, h5⟩ := h1
    split at h5
    · rename_i z hz
      simp only [Bool.and_eq_true, beq_iff_eq] at h5
      refine ⟨⟨d, hd, h2⟩, ⟨inf, hi, Nat.eq_of_beq_eq_true h3, Nat.eq_of_beq_eq_true h4, z, hz, listB_spec h5.1, h5.2.1⟩, Nat.eq_of_beq_eq_true h6, fun he => ?_, fun e he => ?_⟩
      · have := h5.2.2
        rw [he] at this
        simpa using this
      · unfold ptrOk at h7
        rw [he] at h7
        exact Option.isSome_iff_exists.1 h7
    · cases h5
  · cases h1
section
variable {P : Program} {t : Nat} {i : TI} (h : TyFact P t i) (w : World)
include h
theorem TyFact.size : (sizeOf t).run P w = .ok i.size w := by
  obtain ⟨inf, hi, hs, _⟩ := h.info
  simp [sizeOf, typeInfo, hi, hs]
theorem TyFact.typeInfo : ∃ inf, (typeInfo t).run P w = .ok inf w ∧ inf.bytes = i.bytes ∧ inf.size = i.size := by
  obtain ⟨inf, hi, hs, hb, _⟩ := h.info
  exact ⟨inf, by simp [Go.typeInfo, hi], hb, hs⟩
omit w in
theorem TyFact.zero : ∃ z, (∀ w, (zeroValue t).run P w = .ok z w) ∧ z.cells.toList = i.zero.list ∧ isAggV z = i.k.agg := by
  obtain ⟨inf, hi, _, _, z, hz, h1, h2⟩ := h.info
  exact ⟨z, fun w => by simp [zeroValue, Go.typeInfo, hi, hz], h1, h2⟩
theorem TyFact.under : ∃ d, (underlying t).run P w = .ok d w ∧ descOk i.k d = true := by
  obtain ⟨d, hd, hk⟩ := h.desc
  exact ⟨d, run_underlying hd w, hk⟩
theorem TyFact.isAgg : (isAgg t).run P w = .ok i.k.agg w := by
  obtain ⟨d, hd, hk⟩ := h.desc
  cases hk' : i.k <;> rw [hk'] at hk <;> cases d <;> first | (simp [descOk] at hk; done) | simp [Go.isAgg, run_underlying hd, TK.agg]
end
theorem under_int {P : Program} {t : Nat} {i : TI} (h : TyFact P t i) {kd : IntKind} (hk : i.k = .int kd) : P.underlying t = some (.int kd) := by
  obtain ⟨d, hd, hx⟩ := h.desc
  rw [hk] at hx
  cases d <;> simp [descOk] at hx
  rw [hd, IntKind.eqb_spec hx]
theorem under_bool {P : Program} {t : Nat} {i : TI} (h : TyFact P t i) (hk : i.k = .bool) : P.underlying t = some .bool := by
  obtain ⟨d, hd, hx⟩ := h.desc
  rw [hk] at hx
  cases d <;> simp [descOk] at hx
  exact hd
theorem under_str {P : Program} {t : Nat} {i : TI} (h : TyFact P t i) (hk : i.k = .str) : P.underlying t = some .string := by
  obtain ⟨d, hd, hx⟩ := h.desc
  rw [hk] at hx
  cases d <;> simp [descOk] at hx
  exact hd
theorem under_ptr {P : Program} {t : Nat} {i : TI} (h : TyFact P t i) (hk : i.k = .ptr) : ∃ e, P.underlying t = some (.pointer e) := by
  obtain ⟨d, hd, hx⟩ := h.desc
  rw [hk] at hx
  cases d <;> simp [descOk] at hx
  exact ⟨_, hd⟩
theorem under_slice {P : Program} {t e : Nat} {i : TI} (h : TyFact P t i) (hk : i.k = .slice e) : P.underlying t = some (.slice e) := by
  obtain ⟨d, hd, hx⟩ := h.desc
  rw [hk] at hx
  cases d <;> simp [descOk] at hx
  rw [hd, hx]
theorem under_arr {P : Program} {t n e : Nat} {i : TI} (h : TyFact P t i) (hk : i.k = .arr n e) : P.underlying t = some (.array n e) := by
  obtain ⟨d, hd, hx⟩ := h.desc
  rw [hk] at hx
  cases d <;> simp [descOk] at hx
  rw [hd, hx.1, hx.2]
theorem under_func {P : Program} {t : Nat} {i : TI} (h : TyFact P t i) (hk : i.k = .func) : ∃ a b c, P.underlying t = some (.func a b c) := by
  obtain ⟨d, hd, hx⟩ := h.desc
  rw [hk] at hx
  cases d <;> simp [descOk] at hx
  exact ⟨_, _, _, hd⟩
theorem under_struct {P : Program} {t : Nat} {fs : List (Nat × Nat)} {i : TI} (h : TyFact P t i) (hk : i.k = .struct fs) :
    ∃ gs : Array Field, P.underlying t = some (.struct gs) ∧ gs.toList.map (fun f => (f.offset, f.type)) = fs := by
  obtain ⟨d, hd, hx⟩ := h.desc
  rw [hk] at hx
  cases d <;> simp [descOk] at hx
  rename_i gs
  exact ⟨gs, hd, hx⟩

/-! ### slots -/
section
variable {ψ : Nat → Nat} {N : Nat} {D : HD} {m0 : Mem} {w0 : World} {S : St} {a : Act} {w : World}
theorem lkK_spec : ∀ {e : Env} {t : Nat} {k : AV → Prop}, lkK e t k → ∃ x, lk e t = some x ∧ k x
  | [], _, _, h => h.elim
  | (i, x) :: e, t, k, h => by
    simp only [lkK] at h
    simp only [lk]
    cases hb : Nat.beq i t with
    | true => rw [hb] at h; rw [if_pos (Nat.eq_of_beq_eq_true hb)]; exact ⟨x, rfl, h⟩
    | false => rw [hb] at h; rw [if_neg (Nat.ne_of_beq_eq_false hb)]; exact lkK_spec h
theorem Rel.ev (h : Rel ψ N D m0 w0 S a w) {o : Operand} {k : AV → Prop} (hk : evK S o k) : ∃ x, x.is ψ S.ls.length (a.eval o) ∧ k x := by
  cases o with
  | tmp t => obtain ⟨x, hx, hk⟩ := lkK_spec hk; exact ⟨x, h.env _ _ hx, hk⟩
  | const v => exact ⟨.v v, rfl, hk⟩
  | global g => exact ⟨.v (.pointer (some ⟨g, 0, none⟩)), rfl, hk⟩
  | func f => exact ⟨.v (.func (.func f) #[] #[]), rfl, hk⟩
theorem valK_spec {x : AV} {k : Value → Prop} {L : Nat} {v : Value} (h : valK x k) (hx : x.is ψ L v) : k v := by
  cases x <;> simp only [AV.is] at hx <;> first | exact h.elim | (subst hx; exact h)
theorem Rel.evs (h : Rel ψ N D m0 w0 S a w) : ∀ {os : List Operand} {k : List Value → Prop}, evsK S os k → k (os.map a.eval)
  | [], _, hk => hk
  | o :: r, k, hk => by
    obtain ⟨x, hx, h2⟩ := h.ev hk
    have h3 := valK_spec h2 hx
    exact h.evs (os := r) (k := fun vs => k (a.eval o :: vs)) h3
/-- The memory that is told turns; the boxes stay. -/
theorem Rel.mem (h : Rel ψ N D m0 w0 S a w) {m' : Mem} {w' : World} (hf : Frame m0 w0 m' w') (hb : ∀ k, k < w.heap.size → S.m k = none → w'.heap[k]? = w.heap[k]? ∧ m' k = none) : Rel ψ N D m0 w0 { S with m := m' } a w' :=
  ⟨h.size, h.defers, h.env, fun i c hc => by
    obtain ⟨e, h1, h2, h3⟩ := h.box i c hc
    have hk := hb _ (Array.getElem?_eq_some_iff.1 h1).1 h2
    exact ⟨e, hk.1.trans h1, hk.2, h3⟩, h.inj, hf, fun b o hd => by
    obtain ⟨h1, h2, h4⟩ := h.marks b o hd
    have hk := hb _ (Array.getElem?_eq_some_iff.1 h1).1 h2
    exact ⟨hk.1.trans h1, hk.2, h4⟩⟩
theorem Rel.boxLt (h : Rel ψ N D m0 w0 S a w) {i : Nat} (hi : i < S.ls.length) : ψ i < w.heap.size := by
  obtain ⟨e, h1, _⟩ := h.box i S.ls[i] (List.getElem?_eq_getElem hi)
  exact (Array.getElem?_eq_some_iff.1 h1).1
theorem Rel.boxNone (h : Rel ψ N D m0 w0 S a w) {i : Nat} (hi : i < S.ls.length) : S.m (ψ i) = none := by
  obtain ⟨e, _, h2, _⟩ := h.box i S.ls[i] (List.getElem?_eq_getElem hi)
  exact h2
theorem Rel.sub (h : Rel ψ N D m0 w0 S a w) : S.m.sub w := h.frame.sub
theorem Rel.drew (h : Rel ψ N D m0 w0 S a w) {n : Nat} (hn : w.drawn ≤ n) : Rel ψ N D m0 w0 S a { w with drawn := n } :=
  ⟨h.size, h.defers, h.env, h.box, h.inj, h.frame.drew hn, h.marks⟩
theorem Rel.setCell (h : Rel ψ N D m0 w0 S a w) {p : Addr} {u : Value} (v : Value) (hp : S.m.cell p = some u) : Rel ψ N D m0 w0 { S with m := S.m.setCell p v } a (w.setCell p v) := by
  have hd := Mem.cell_dom hp
  refine h.mem (h.frame.setCell v hd) fun k hk hn => ?_
  have hne : k ≠ p.block := fun e => hd (e ▸ hn)
  exact ⟨by rw [heap_setCell, if_neg hne], by unfold Mem.setCell; rw [if_neg hne]; exact hn⟩
theorem Rel.alloc (h : Rel ψ N D m0 w0 S a w) (o : Obj) : Rel ψ N D m0 w0 { S with m := S.m.set w.heap.size o } a (w.alloc o) := by
  refine h.mem (h.frame.alloc o) fun k hk hn => ?_
  have hne : k ≠ w.heap.size := by omega
  exact ⟨by rw [heap_alloc, if_neg hne], by unfold Mem.set; rw [if_neg hne]; exact hn⟩
theorem Rel.fresh (h : Rel ψ N D m0 w0 S a w) : S.m w.heap.size = none := by
  cases hm : S.m w.heap.size with
  | none => rfl
  | some o => exact absurd (Mem.sub_lt h.sub (b := w.heap.size) (by rw [hm]; simp)) (Nat.lt_irrefl _)
theorem AV.is_mono {x : AV} {ψ ψ' : Nat → Nat} {L L' : Nat} {v : Value} (h : x.is ψ L v) (hL : L ≤ L') (hψ : ∀ i, i < L → ψ' i = ψ i) : x.is ψ' L' v := by
  cases x <;> simp only [AV.is] at h ⊢ <;> try exact h
  exact ⟨by omega, by rw [hψ _ h.1]; exact h.2⟩
theorem Rel.newbox (h : Rel ψ N D m0 w0 S a w) (c : LC) (e : Nat) :
    ∃ ψ', ψ' S.ls.length = w.heap.size ∧ Rel ψ' N D m0 w0 { S with ls := S.ls ++ [c] } a (w.alloc (.cells c.list.toArray e (0, 0))) := by
  refine ⟨fun i => if i = S.ls.length then w.heap.size else ψ i, by simp, h.size, h.defers, fun i x hx => ?_, fun i c' hc => ?_, fun i j hi hj he => ?_, h.frame.junk _, fun b o hd => ?_⟩
  · refine AV.is_mono (h.env i x hx) (by simp) fun j hj => ?_
    rw [if_neg (by omega)]
  · by_cases hi : i = S.ls.length
    · subst hi
      simp at hc
      subst hc
      refine ⟨e, ?_, ?_, ?_⟩
      · show (w.alloc _).heap[if S.ls.length = S.ls.length then w.heap.size else ψ S.ls.length]? = _
        rw [if_pos rfl, heap_alloc, if_pos rfl]
      · simp only [if_true]; exact h.fresh
      · simp only [if_true]; exact h.frame.size
    · have hlt : i < S.ls.length := by
        have := (List.getElem?_eq_some_iff.1 hc).1
        simp at this
        omega
      rw [List.getElem?_append_left hlt] at hc
      obtain ⟨e', h1, h2, h3⟩ := h.box i c' hc
      have := h.boxLt hlt
      refine ⟨e', ?_, ?_, ?_⟩
      · simp only [if_neg hi]; rw [heap_alloc, if_neg (by omega)]; exact h1
      · simp only [if_neg hi]; exact h2
      · simp only [if_neg hi]; exact h3
  · simp at hi hj
    by_cases hi' : i = S.ls.length
    · by_cases hj' : j = S.ls.length
      · omega
      · have := h.boxLt (i := j) (by omega)
        simp only [if_pos hi', if_neg hj'] at he
        omega
    · by_cases hj' : j = S.ls.length
      · have := h.boxLt (i := i) (by omega)
        simp only [if_neg hi', if_pos hj'] at he
        omega
      · simp only [if_neg hi', if_neg hj'] at he
        exact h.inj i j (by omega) (by omega) he
  · obtain ⟨h1, h2, h4⟩ := h.marks b o hd
    have hlt := (Array.getElem?_eq_some_iff.1 h1).1
    refine ⟨by rw [heap_alloc, if_neg (by omega)]; exact h1, h2, fun i hi => ?_⟩
    by_cases hi' : i = S.ls.length
    · simp only [if_pos hi']; omega
    · simp only [if_neg hi']
      simp at hi
      exact h4 i (by omega)
/-- A store into a box. -/
theorem Rel.boxSet (h : Rel ψ N D m0 w0 S a w) {i : Nat} {c : LC} (hc : S.ls[i]? = some c) (c' : LC) (w' : World) (hw : ∃ e, w'.heap[ψ i]? = some (.cells c'.list.toArray e (0, 0)))
    (ho : ∀ k, k ≠ ψ i → w'.heap[k]? = w.heap[k]?) (hs : w'.heap.size = w.heap.size) (h1 : w'.os = w.os) (h2 : w'.tape = w.tape ∧ w.drawn ≤ w'.drawn) (h3 : w'.output = w.output) : Rel ψ N D m0 w0 { S with ls := S.ls.set i c' } a w' := by
  have hi : i < S.ls.length := (List.getElem?_eq_some_iff.1 hc).1
  obtain ⟨e0, hb1, hb2, hb3⟩ := h.box i c hc
  refine ⟨h.size, h.defers, fun j x hx => ?_, fun j c2 hc2 => ?_, ?_, ?_, fun b o hd => ?_⟩
  · simp only [List.length_set]; exact h.env j x hx
  · by_cases hij : i = j
    · subst hij
      simp only [List.getElem?_set_self hi] at hc2
      cases hc2
      obtain ⟨e, he⟩ := hw
      exact ⟨e, he, hb2, hb3⟩
    · rw [List.getElem?_set_ne hij] at hc2
      obtain ⟨e, g1, g2, g3⟩ := h.box j c2 hc2
      have hj : j < S.ls.length := (List.getElem?_eq_some_iff.1 hc2).1
      refine ⟨e, ?_, g2, g3⟩
      rw [ho _ (fun heq => hij (h.inj i j hi hj heq.symm))]
      exact g1
  · intro i j hi hj he
    simp only [List.length_set] at hi hj
    exact h.inj i j hi hj he
  · refine ⟨h1.trans h.frame.os, ⟨h2.1.trans h.frame.tape.1, DrawnLe.trans h.frame.tape.2 (.of h2.2)⟩, h3.trans h.frame.output, by rw [hs]; exact h.frame.size, fun b o hb => ?_, fun b hb hn => ?_, h.frame.dom⟩
    · rw [ho b (fun heq => by subst heq; rw [hb2] at hb; cases hb)]
      exact h.frame.sub b o hb
    · rw [ho b (by omega)]
      exact h.frame.keep b hb hn
  · obtain ⟨g1, g2, g4⟩ := h.marks b o hd
    exact ⟨(ho b (Ne.symm (g4 i hi))).trans g1, g2, fun j hj => g4 j (by simpa using hj)⟩
end
end Go.Mv
/- Mv: each operation does what vcOp says. -/
namespace Go.Mv
open Go

def Fr (r : Option Nat) : Fence := { Fence.wide with round := r }
theorem fr_calls {P : Program} {r : Option Nat} {n : Nat} {f : FuncId} {args : Array Value} {w : World} {R : Ending → World → Prop} (h : Calls P f args w R) : CallsIn (Fr r) n P f args w R :=
  (callsIn_wide.2 h : CallsIn Fence.wide n P f args w R)

def Stp (P : Program) (r : Option Nat) (N : Nat) (D : HD) (m0 : Mem) (w0 : World) (Q : Exit → Act → World → Prop) (o : Oper) (a : Act) (w : World) (K : St → Prop) : Prop :=
  ∀ next : Act → World → Prop, (∀ S' a' w', K S' → Relx N D m0 w0 S' a' w' → next a' w') → o.wpIn (Fr r) 0 P a w next Q

section
variable {P : Program} {r : Option Nat} {T : Tbl} {pr : List Nat} {ψ : Nat → Nat} {N : Nat} {D : HD} {m0 : Mem} {w0 : World} {Q : Exit → Act → World → Prop} {S S' : St} {o : Oper} {a : Act} {w w' : World} {K : St → Prop} {v : Value}

theorem Stp.val (hnd : ∀ c, o.op ≠ .defer c) (hrun : (execOp a.eval o).run P w = .ok (.value v) w') (hK : K S') (hR : Relx N D m0 w0 S' (a.put o.dst v) w') : Stp P r N D m0 w0 Q o a w K := by
  intro next hn
  refine ⟨fun f _ => trivial, ?_⟩
  rw [Oper.semAt_eq _ _ _ hnd, hrun]
  exact hn _ _ _ hK hR
theorem Stp.skip (hnd : ∀ c, o.op ≠ .defer c) (hrun : (execOp a.eval o).run P w = .ok .skip w') (hK : K S') (hR : Relx N D m0 w0 S' (a.put o.dst undef) w') : Stp P r N D m0 w0 Q o a w K := by
  intro next hn
  refine ⟨fun f _ => trivial, ?_⟩
  rw [Oper.semAt_eq _ _ _ hnd, hrun]
  exact hn _ _ _ hK hR
theorem Stp.enter {f : FuncId} {args : Array Value} (hnd : ∀ c, o.op ≠ .defer c) (hrun : (execOp a.eval o).run P w = .ok (.enter f args) w')
    (hc : Calls P f args w' fun e w'' => ∃ v, e = .returned v ∧ ∃ S', K S' ∧ Relx N D m0 w0 S' (a.put o.dst v) w'') : Stp P r N D m0 w0 Q o a w K := by
  intro next hn
  refine ⟨fun f _ => trivial, ?_⟩
  rw [Oper.semAt_eq _ _ _ hnd, hrun]
  refine ⟨fun h => by simp [Fr, Fence.wide] at h, (fr_calls (hc.mono fun e w'' h => ?_) : CallsIn (Fr r) (0 - 1) P f args w' _)⟩
  obtain ⟨v, rfl, S', hK, hR⟩ := h
  exact hn _ _ _ hK hR

theorem Stp.round {l : Nat} {f : FuncId} {tmps : Array Value} {assign body : Code} (hnd : ∀ c, o.op ≠ .defer c) (hrun : (execOp a.eval o).run P w = .ok (.round l f tmps assign body) w')
    (hc : RoundIn Fence.wide 0 P l f tmps assign body w' fun e w'' => ∃ v, e = .returned v ∧ ∃ S', K S' ∧ Relx N D m0 w0 S' (a.put o.dst v) w'') : Stp P r N D m0 w0 Q o a w K := by
  intro next hn
  refine ⟨fun f _ => trivial, ?_⟩
  rw [Oper.semAt_eq _ _ _ hnd, hrun]
  refine ⟨fun h => by simp [Fr, Fence.wide] at h, ((hc.mono fun e w'' h => ?_ : RoundIn Fence.wide 0 P l f tmps assign body w' _) : RoundIn (Fr r) (0 - 1) P l f tmps assign body w' _)⟩
  obtain ⟨v, rfl, S', hK, hR⟩ := h
  exact hn _ _ _ hK hR

/-! #### what is read -/
theorem loadScalar (h : S.m.sub w) {p : Addr} {t : Nat} (hf : TyFact P t (T.at t)) (hna : (T.at t).k.agg = false) {v : Value} (hc : S.m.cell p = some v) : (loadVar t p).run P w = .ok v w := by
  have := hf.isAgg w
  rw [hna] at this
  simp [loadVar, this, Mem.sub_cell h hc]
theorem loadRow (h : S.m.sub w) {p : Addr} {t : Nat} (hf : TyFact P t (T.at t)) (ha : (T.at t).k.agg = true) {vs : List Value} (hl : vs.length = (T.at t).size) (hc : ∀ i v, vs[i]? = some v → S.m.cell (p.add i) = some v) :
    (loadVar t p).run P w = .ok (.agg vs.toArray) w := by
  have h1 := hf.isAgg w
  rw [ha] at h1
  have h2 := run_loadCells_list (P := P) (w := w) p vs (fun j v hj => Mem.sub_cell h (hc j v hj))
  simp [loadVar, h1, hf.size w, ← hl, h2]
theorem ldS_spec {m : Mem} {p : Addr} {tk : TK} {k : Value → Prop} (h : ldS m p tk k) : tk.agg = false ∧ tk ≠ .other ∧ ∃ v, m.cell p = some v ∧ k v := by
  cases tk <;> simp only [ldS] at h
  · obtain ⟨x, h1, h2⟩ := h; exact ⟨rfl, by simp, _, h1, h2⟩
  · obtain ⟨x, h1, h2⟩ := h; exact ⟨rfl, by simp, _, h1, h2⟩
  · obtain ⟨x, h1, h2⟩ := h; exact ⟨rfl, by simp, _, h1, h2⟩
  · obtain ⟨x, h1, h2⟩ := h; exact ⟨rfl, by simp, _, h1, h2⟩
  · obtain ⟨x, n, c, h1, h2⟩ := h; exact ⟨rfl, by simp, _, h1, h2⟩
  · obtain ⟨x, h1, h2⟩ := h; exact ⟨rfl, by simp, _, h1, h2⟩
  · obtain ⟨x, h1, h2⟩ := h; exact ⟨rfl, by simp, _, h1, h2⟩
theorem ldL_spec {m : Mem} {p : Addr} : ∀ {tks : List TK} {i : Nat} {k : List Value → Prop}, ldL m p i tks k → ∃ vs, vs.length = tks.length ∧ (∀ j v, vs[j]? = some v → m.cell (p.add (i + j)) = some v) ∧ k vs
  | [], i, k, h => ⟨[], rfl, fun j v hj => by simp at hj, h⟩
  | tk :: r, i, k, h => by
    rw [ldL_cons] at h
    obtain ⟨_, _, v, hv, h2⟩ := ldS_spec h
    obtain ⟨vs, hl, hc, hk⟩ := ldL_spec h2
    refine ⟨v :: vs, by simp [hl], fun j u hj => ?_, hk⟩
    cases j with
    | zero => simp at hj; subst hj; exact hv
    | succ j => simp at hj; have := hc j u hj; rwa [Nat.add_assoc, Nat.add_comm 1 j] at this
theorem intCells_get {kd : IntKind} {xs : List Int} {i : Nat} {v : Value} (h : (intCells kd xs)[i]? = some v) : i < xs.length ∧ v = .int kd (xs.getD i 0) := by
  simp only [intCells, List.getElem?_map, Option.map_eq_some_iff] at h
  obtain ⟨x, hx, rfl⟩ := h
  exact ⟨(List.getElem?_eq_some_iff.1 hx).1, by simp [List.getD_eq_getElem?_getD, hx]⟩
theorem boolCells_get {xs : List Bool} {i : Nat} {v : Value} (h : (boolCells xs)[i]? = some v) : i < xs.length ∧ v = .bool (xs.getD i false) := by
  simp only [boolCells, List.getElem?_map, Option.map_eq_some_iff] at h
  obtain ⟨x, hx, rfl⟩ := h
  exact ⟨(List.getElem?_eq_some_iff.1 hx).1, by simp [List.getD_eq_getElem?_getD, hx]⟩
/-- A load from memory that is told. -/
theorem ldT_sound (hT : T.ok P = true) {p : Addr} {t : Nat} {k : AV → Prop} (hk : ldT T S.m p t k) (ψ : Nat → Nat) (L : Nat) : ∃ v x, (∀ w, S.m.sub w → (loadVar t p).run P w = .ok v w) ∧ x.is ψ L v ∧ k x := by
  unfold ldT at hk
  split at hk
  · rename_i n e hn
    obtain ⟨hs, hk⟩ := req_spec hk
    have hf := Tbl.fact hT (t := t) (by rw [hn]; simp)
    have hs := Nat.eq_of_beq_eq_true hs
    split at hk
    · obtain ⟨xs, hl, hc, hk⟩ := hk
      refine ⟨_, .ints _ xs, fun w h => loadRow h hf (by rw [hn]; rfl) (vs := intCells _ xs) (by simp [intCells, hl, hs]) (fun i v hi => ?_), rfl, hk⟩
      obtain ⟨hlt, rfl⟩ := intCells_get hi
      exact hc i (by omega)
    · obtain ⟨xs, hl, hc, hk⟩ := hk
      refine ⟨_, .bools xs, fun w h => loadRow h hf (by rw [hn]; rfl) (vs := boolCells xs) (by simp [boolCells, hl, hs]) (fun i v hi => ?_), rfl, hk⟩
      obtain ⟨hlt, rfl⟩ := boolCells_get hi
      exact hc i (by omega)
    · exact hk.elim
  · rename_i fs hn
    obtain ⟨hs, hk⟩ := req_spec hk
    have hf := Tbl.fact hT (t := t) (by rw [hn]; simp)
    have hs := Nat.eq_of_beq_eq_true hs
    obtain ⟨vs, hl, hc, hk⟩ := ldL_spec hk
    exact ⟨_, .v _, fun w h => loadRow h hf (by rw [hn]; rfl) (vs := vs) (by omega) (fun i v hi => by simpa using hc i v hi), rfl, hk⟩
  · obtain ⟨hna, hno, v, hc, hk⟩ := ldS_spec hk
    exact ⟨v, .v v, fun w h => loadScalar h (Tbl.fact hT hno) hna hc, rfl, hk⟩
theorem box_cell (h : Rel ψ N D m0 w0 S a w) {i : Nat} {c : LC} (hc : S.ls[i]? = some c) {off : Nat} {v : Value} (hv : c.list[off]? = some v) : w.cell? ⟨ψ i, off, none⟩ = some v := by
  obtain ⟨e, h1, _⟩ := h.box i c hc
  simp [World.cell?, h1, hv]
theorem ldLoc_sound (hT : T.ok P = true) {i : Nat} {c : LC} (hc : S.ls[i]? = some c) {off t : Nat} {k : AV → Prop} (hk : ldLoc T c off t k) :
    ∃ v x, (∀ w, Rel ψ N D m0 w0 S a w → (loadVar t ⟨ψ i, off, none⟩).run P w = .ok v w) ∧ x.is ψ S.ls.length v ∧ k x := by
  have scalar : ∀ {t : Nat}, (T.at t).k.agg = false → (T.at t).k ≠ .other → ∀ {v : Value}, c.list[off]? = some v → ∀ w, Rel ψ N D m0 w0 S a w → (loadVar t ⟨ψ i, off, none⟩).run P w = .ok v w := by
    intro t hna hno v hv w h
    have h1 := (Tbl.fact hT hno).isAgg w
    rw [hna] at h1
    simp [loadVar, h1, box_cell h hc hv]
  have row : ∀ {t : Nat}, (T.at t).k.agg = true → (T.at t).k ≠ .other → ∀ {vs : List Value}, vs.length = (T.at t).size → (∀ j v, vs[j]? = some v → c.list[off + j]? = some v) → ∀ w, Rel ψ N D m0 w0 S a w → (loadVar t ⟨ψ i, off, none⟩).run P w = .ok (.agg vs.toArray) w := by
    intro t ha hno vs hl hv w h
    have hf := Tbl.fact hT hno
    have h1 := hf.isAgg w
    rw [ha] at h1
    have h2 := run_loadCells_list (P := P) (w := w) ⟨ψ i, off, none⟩ vs (fun j v hj => by
      have h3 := box_cell h hc (hv j v hj)
      unfold Addr.add
      split
      · rename_i h0; subst h0; simpa using h3
      · exact h3)
    simp [loadVar, h1, hf.size w, ← hl, h2]
  unfold ldLoc at hk
  split at hk
  · rename_i hn
    obtain ⟨h0, hs, hk⟩ := hk
    subst h0
    refine ⟨_, .ints _ _, row (by rw [hn]; rfl) (by rw [hn]; simp) (vs := intCells _ _) (by simp [intCells, hs]) (fun j v hj => by simpa [LC.list] using hj), rfl, hk⟩
  · rename_i hn
    obtain ⟨h0, hs, hk⟩ := hk
    subst h0
    refine ⟨_, .bools _, row (by rw [hn]; rfl) (by rw [hn]; simp) (vs := boolCells _) (by simp [boolCells, hs]) (fun j v hj => by simpa [LC.list] using hj), rfl, hk⟩
  · rename_i fs l hn
    obtain ⟨hs, hk⟩ := req_spec hk
    have hs := Nat.le_of_ble_eq_true hs
    refine ⟨_, .v _, row (by rw [hn]; rfl) (by rw [hn]; simp) (vs := (l.drop off).take (T.at t).size) (by simp; omega) (fun j v hj => ?_), rfl, hk⟩
    have := (List.getElem?_eq_some_iff.1 hj).1
    simp at this
    rw [List.getElem?_take_of_lt (by omega)] at hj
    simpa [LC.list] using hj
  · rename_i kd kd' xs hn
    obtain ⟨hs, hlt, hk⟩ := req_spec hk
    have hs := IntKind.eqb_spec hs
    subst hs
    refine ⟨_, .v _, scalar (by rw [hn]; rfl) (by rw [hn]; simp) (v := .int kd (xs.getD off 0)) ?_, rfl, hk⟩
    simp [LC.list, intCells, hlt]
  · rename_i xs hn
    obtain ⟨hlt, hk⟩ := hk
    refine ⟨_, .v _, scalar (by rw [hn]; rfl) (by rw [hn]; simp) (v := .bool (xs.getD off false)) ?_, rfl, hk⟩
    simp [LC.list, boolCells, hlt]
  all_goals first
    | exact hk.elim
    | skip
  split at hk
  · rename_i v hv
    refine ⟨v, .v v, scalar ?_ ?_ hv, rfl, hk⟩
    · cases hk' : (T.at t).k <;> first | rfl | (exfalso; simp_all)
    · intro hk'; simp_all
  · exact hk.elim

/-! #### what is written -/
theorem run_store1 {p : Addr} {u v : Value} (hv : v.oneCell' = true) (hc : w.cell? p = some u) (hf : w.frozen? p = false) : (store p v).run P w = .ok () (w.setCell p v) := by
  cases v <;> first | (simp [Value.oneCell'] at hv; done) | simp [store, Sem.run, hc, hf]
/-- Rows that are written, cell by cell: through the relation. -/
theorem setCell_cell {m : Mem} {p q : Addr} {v u : Value} (hq : m.cell q = some u) : ∃ u', (m.setCell p v).cell q = some u' := by
  unfold Mem.cell Mem.setCell at *
  by_cases h : q.block = p.block
  · rw [if_pos h]
    cases hm : m q.block with
    | none => simp [hm] at hq
    | some o =>
      rw [hm] at hq
      cases o <;> first | (simp at hq; done) | skip
      rename_i c e f
      simp only at hq ⊢
      by_cases hs : q.spot.isSome = true
      · simp [hs] at hq
      · simp only [hs, if_false, Bool.false_eq_true] at hq ⊢
        have hlt := (Array.getElem?_eq_some_iff.1 hq).1
        by_cases hp : p.spot.isSome = true
        · simp only [hp, if_true]; exact ⟨_, hq⟩
        · simp only [hp, if_false, Bool.false_eq_true]
          exact ⟨_, Array.getElem?_eq_getElem (by simpa using hlt)⟩
  · rw [if_neg h]; exact ⟨u, hq⟩
theorem setCell_fz {m : Mem} {p q : Addr} {v : Value} : (m.setCell p v).fz q = m.fz q := by
  unfold Mem.fz Mem.setCell
  by_cases h : q.block = p.block
  · rw [if_pos h]
    cases hm : m q.block with
    | none => rfl
    | some o => cases o <;> rfl
  · rw [if_neg h]
theorem room_setCell {m : Mem} {p q : Addr} {v : Value} {n : Nat} (h : m.room p n) : (m.setCell q v).room p n := fun i hi => by
  obtain ⟨⟨u, hu⟩, hf⟩ := h i hi
  exact ⟨setCell_cell hu, by rw [setCell_fz]; exact hf⟩
theorem Rel.storeCells (ψ : Nat → Nat) : ∀ (vs : List Value) (S : St) (w : World) (p : Addr) (i n : Nat), Rel ψ N D m0 w0 S a w → S.m.room p n → i + vs.length ≤ n → oneCells vs = true →
    ∃ w', (Go.storeCells p vs i).run P w = .ok () w' ∧ Rel ψ N D m0 w0 { S with m := S.m.setCells p i vs } a w'
  | [], S, w, p, i, n, h, _, _, _ => ⟨w, rfl, h⟩
  | v :: vs, S, w, p, i, n, h, hr, hl, ho => by
    simp only [oneCells, Bool.and_eq_true] at ho
    simp at hl
    obtain ⟨⟨u, hu⟩, hf⟩ := hr i (by omega)
    have h1 := run_store1 (P := P) ho.1 (Mem.sub_cell h.sub hu) (by rw [Mem.sub_fz h.sub hu]; exact hf)
    have h2 := h.setCell v hu
    obtain ⟨w', hw, h3⟩ := Rel.storeCells ψ vs { S with m := S.m.setCell (p.add i) v } _ p (i + 1) n h2 (room_setCell hr) (by omega) ho.2
    refine ⟨w', ?_, h3⟩
    simp only [Go.storeCells, Sem.run_bind, h1, Result.andThen_ok]
    exact hw
theorem oneCells_ints {kd : IntKind} : ∀ (xs : List Int), oneCells (intCells kd xs) = true
  | [] => rfl
  | _ :: r => by simp only [intCells, List.map_cons, oneCells, Value.oneCell', Bool.true_and]; exact oneCells_ints r
theorem oneCells_bools : ∀ (xs : List Bool), oneCells (boolCells xs) = true
  | [] => rfl
  | _ :: r => by simp only [boolCells, List.map_cons, oneCells, Value.oneCell', Bool.true_and]; exact oneCells_bools r
theorem one_cells {v : Value} (h : v.oneCell' = true) : v.cells = #[v] := by cases v <;> first | rfl | cases h
theorem tyfact_of_size (hT : T.ok P = true) {t : Nat} (h : (T.at t).size ≠ 0) : TyFact P t (T.at t) := by
  refine Tbl.fact hT fun hk => ?_
  have : ∀ {T : Tbl}, T.ok P = true → (T.at t).k = .other → (T.at t).size = 0 := by
    intro T hT hk
    induction T with
    | nil => rfl
    | cons x r ih =>
      obtain ⟨i, x⟩ := x
      simp only [Tbl.at] at hk ⊢
      simp only [Tbl.ok, List.all_cons, Bool.and_eq_true] at hT
      cases hb : Nat.beq i t with
      | true =>
        exfalso
        rw [hb] at hk
        simp only [cond_true] at hk
        have h1 := hT.1
        simp only [tiOk] at h1
        split at h1
        · rw [hk] at h1; simp [descOk] at h1
        · cases h1
      | false =>
        rw [hb] at hk
        exact ih hT.2 hk
  exact h (this hT hk)
theorem stMem_sound (hT : T.ok P = true) (h : Rel ψ N D m0 w0 S a w) {p : Addr} {t : Nat} {x : AV} {v : Value} (hx : x.is ψ S.ls.length v) {k : Mem → Prop} (hk : stMem T S.m p t x k) (ht : (T.at t).k ≠ .other) :
    ∃ w' m', (storeVar t p v).run P w = .ok () w' ∧ k m' ∧ Rel ψ N D m0 w0 { S with m := m' } a w' := by
  have hf := Tbl.fact hT ht
  have row : ∀ {vs : List Value}, v.cells.toList = vs → vs.length = (T.at t).size → oneCells vs = true → S.m.room p (T.at t).size → ∃ w', (storeVar t p v).run P w = .ok () w' ∧ Rel ψ N D m0 w0 { S with m := S.m.setCells p 0 vs } a w' := by
    intro vs hv hl ho hr
    obtain ⟨w', hw, h2⟩ := Rel.storeCells (P := P) ψ vs S w p 0 _ h hr (by omega) ho
    refine ⟨w', ?_, h2⟩
    have hsz : v.cells.size = (T.at t).size := by rw [← hl, ← hv]; simp
    simp [storeVar, hf.size w, hsz, hv, hw]
  unfold stMem at hk
  split at hk
  · rename_i cs
    obtain ⟨hl, ho, hr, hk⟩ : _ ∧ _ ∧ _ ∧ _ := ⟨(req_spec hk).1, (req_spec (req_spec hk).2).1, (req_spec (req_spec hk).2).2⟩
    simp only [AV.is] at hx
    subst hx
    obtain ⟨w', h1, h2⟩ := row (vs := cs.toList) rfl (Nat.eq_of_beq_eq_true hl) ho hr
    exact ⟨w', _, h1, hk, h2⟩
  · rename_i v' _
    obtain ⟨hl, ho, ⟨⟨u, hu⟩, hz⟩, hk⟩ : _ ∧ _ ∧ _ ∧ _ := ⟨(req_spec hk).1, (req_spec (req_spec hk).2).1, (req_spec (req_spec hk).2).2⟩
    simp only [AV.is] at hx
    subst hx
    have hl := Nat.eq_of_beq_eq_true hl
    refine ⟨_, _, ?_, hk, h.setCell _ hu⟩
    have h1 := run_store1 (P := P) ho (Mem.sub_cell h.sub hu) (by rw [Mem.sub_fz h.sub hu]; exact hz)
    have h0 : p.add 0 = p := rfl
    simp [storeVar, hf.size w, one_cells ho, hl, Go.storeCells, h0, h1]
  · obtain ⟨hl, hr, hk⟩ := hk
    simp only [AV.is] at hx
    subst hx
    obtain ⟨w', h1, h2⟩ := row (vs := intCells _ _) rfl (by simp [intCells, hl]) (oneCells_ints _) hr
    exact ⟨w', _, h1, hk, h2⟩
  · obtain ⟨hl, hr, hk⟩ := hk
    simp only [AV.is] at hx
    subst hx
    obtain ⟨w', h1, h2⟩ := row (vs := boolCells _) rfl (by simp [boolCells, hl]) (oneCells_bools _) hr
    exact ⟨w', _, h1, hk, h2⟩
  · exact hk.elim

/-! #### a store into a box -/
theorem run_storeCells_box (b : Nat) : ∀ (vs : List Value) (l : List Value) (e : Nat) (w : World) (off i : Nat), w.heap[b]? = some (.cells l.toArray e (0, 0)) → off + i + vs.length ≤ l.length → oneCells vs = true →
    ∃ w', (Go.storeCells ⟨b, off, none⟩ vs i).run P w = .ok () w' ∧ w'.heap[b]? = some (.cells (writeAt l (off + i) vs).toArray e (0, 0)) ∧ (∀ k, k ≠ b → w'.heap[k]? = w.heap[k]?) ∧ w'.heap.size = w.heap.size ∧ w'.os = w.os ∧ (w'.tape = w.tape ∧ w.drawn ≤ w'.drawn) ∧ w'.output = w.output
  | [], l, e, w, off, i, hb, _, _ => ⟨w, rfl, hb, fun _ _ => rfl, rfl, rfl, ⟨rfl, Nat.le_refl _⟩, rfl⟩
  | v :: vs, l, e, w, off, i, hb, hl, ho => by
    simp only [oneCells, Bool.and_eq_true] at ho
    simp at hl
    have ha : (⟨b, off, none⟩ : Addr).add i = ⟨b, off + i, none⟩ := by
      unfold Addr.add
      split
      · rename_i h0; subst h0; rfl
      · rfl
    have hlt : off + i < l.length := by omega
    have h1 := run_store1 (P := P) (w := w) (p := ⟨b, off + i, none⟩) (u := l[off + i]) ho.1 (by simp [World.cell?, hb, hlt]) (by simp [World.frozen?, hb])
    have h2 : (w.setCell ⟨b, off + i, none⟩ v).heap[b]? = some (.cells (l.set (off + i) v).toArray e (0, 0)) := by
      rw [heap_setCell, if_pos rfl, hb]
      simp
    obtain ⟨w', g1, g2, g3, g4, g5, g6, g7⟩ := run_storeCells_box b vs (l.set (off + i) v) e (w.setCell ⟨b, off + i, none⟩ v) off (i + 1) h2 (by simp; omega) ho.2
    refine ⟨w', ?_, by rw [Nat.add_assoc] at *; exact g2, fun k hk => ?_, by rw [g4, size_setCell], g5, g6, g7⟩
    · simp only [Go.storeCells, Sem.run_bind, ha, h1, Result.andThen_ok]
      exact g1
    · rw [g3 k hk, heap_setCell, if_neg hk]
theorem writeAt_length : ∀ (vs l : List Value) (i : Nat), (writeAt l i vs).length = l.length
  | [], _, _ => rfl
  | v :: vs, l, i => by simp only [writeAt]; rw [writeAt_length vs]; simp
theorem writeAt_all : ∀ (vs pre l : List Value), vs.length = l.length → writeAt (pre ++ l) pre.length vs = pre ++ vs
  | [], pre, l, h => by
    have : l = [] := List.eq_nil_of_length_eq_zero (by simpa using h.symm)
    subst this
    rfl
  | v :: vs, pre, [], h => by simp at h
  | v :: vs, pre, x :: l, h => by
    simp only [writeAt]
    have h1 : (pre ++ x :: l).set pre.length v = (pre ++ [v]) ++ l := by simp
    rw [h1]
    have h2 := writeAt_all vs (pre ++ [v]) l (by simpa using h)
    simp only [List.length_append, List.length_cons, List.length_nil] at h2
    rw [h2]
    simp
theorem stLoc_sound (hT : T.ok P = true) (h : Rel ψ N D m0 w0 S a w) {i : Nat} {c : LC} (hc : S.ls[i]? = some c) {off t : Nat} {x : AV} {v : Value} (hx : x.is ψ S.ls.length v) {k : LC → Prop} (hk : stLoc T c off t x k)
    (ht : (T.at t).k ≠ .other) : ∃ w' c', (storeVar t ⟨ψ i, off, none⟩ v).run P w = .ok () w' ∧ k c' ∧ Rel ψ N D m0 w0 { S with ls := S.ls.set i c' } a w' := by
  have hf := Tbl.fact hT ht
  obtain ⟨e, hb, _⟩ := h.box i c hc
  have gen : ∀ (vs : List Value) (c' : LC), v.cells.toList = vs → vs.length = (T.at t).size → oneCells vs = true → off + vs.length ≤ c.list.length → c'.list = writeAt c.list off vs → k c' →
      ∃ w' c', (storeVar t ⟨ψ i, off, none⟩ v).run P w = .ok () w' ∧ k c' ∧ Rel ψ N D m0 w0 { S with ls := S.ls.set i c' } a w' := by
    intro vs c' hv hl ho hlen hc' hk
    obtain ⟨w', g1, g2, g3, g4, g5, g6, g7⟩ := run_storeCells_box (P := P) (ψ i) vs c.list e w off 0 hb (by omega) ho
    refine ⟨w', c', ?_, hk, h.boxSet hc c' w' ⟨e, by rw [hc']; simpa using g2⟩ g3 g4 g5 g6 g7⟩
    have hsz : v.cells.size = (T.at t).size := by rw [← hl, ← hv]; simp
    simp [storeVar, hf.size w, hsz, hv, g1]
  unfold stLoc at hk
  split at hk
  · rename_i kd xs kd' u
    obtain ⟨h1, hk1⟩ := req_spec hk
    obtain ⟨h2, h3, hk2⟩ := req_spec hk1
    have h1 := IntKind.eqb_spec h1
    have h2 := Nat.eq_of_beq_eq_true h2
    subst h1
    simp only [AV.is] at hx
    subst hx
    refine gen [.int kd u] _ rfl (by simp [h2]) rfl (by simp [LC.list, intCells]; omega) ?_ hk2
    simp [LC.list, intCells, writeAt]
  · rename_i xs u
    obtain ⟨h2, h3, hk⟩ := req_spec hk
    have h2 := Nat.eq_of_beq_eq_true h2
    simp only [AV.is] at hx
    subst hx
    refine gen [.bool u] _ rfl (by simp [h2]) rfl (by simp [LC.list, boolCells]; omega) ?_ hk
    simp [LC.list, boolCells, writeAt]
  · rename_i kd xs kd' ys
    obtain ⟨h1, h0, h2, h3, hk2⟩ := req_spec hk
    have h1 := IntKind.eqb_spec h1
    subst h1; subst h0
    simp only [AV.is] at hx
    subst hx
    refine gen (intCells kd ys) _ rfl (by simp [intCells, h2]) (oneCells_ints _) (by simp [LC.list, intCells]; omega) ?_ hk2
    have := writeAt_all (intCells kd ys) [] (intCells kd xs) (by simp [intCells, h3])
    simpa [LC.list] using this.symm
  · rename_i xs ys
    obtain ⟨h0, h2, h3, hk⟩ := hk
    subst h0
    simp only [AV.is] at hx
    subst hx
    refine gen (boolCells ys) _ rfl (by simp [boolCells, h2]) (oneCells_bools _) (by simp [LC.list, boolCells]; omega) ?_ hk
    have := writeAt_all (boolCells ys) [] (boolCells xs) (by simp [boolCells, h3])
    simpa [LC.list] using this.symm
  · rename_i l cs
    obtain ⟨h1, hk⟩ := req_spec hk
    obtain ⟨h2, hk⟩ := req_spec hk
    obtain ⟨h3, hk⟩ := req_spec hk
    simp only [AV.is] at hx
    subst hx
    exact gen cs.toList _ rfl (Nat.eq_of_beq_eq_true h1) h3 (Nat.le_of_ble_eq_true h2) rfl hk
  · rename_i l u _
    obtain ⟨h1, hk⟩ := req_spec hk
    obtain ⟨h2, hk⟩ := req_spec hk
    obtain ⟨h3, hk⟩ := req_spec hk
    simp only [AV.is] at hx
    subst hx
    refine gen [v] _ (by simp [one_cells h3]) (by simp [Nat.eq_of_beq_eq_true h1]) (by simp [oneCells, h3]) (by simp [LC.list]; exact Nat.le_of_ble_eq_true h2) ?_ hk
    simp [LC.list, writeAt]
  · exact hk.elim

/-! #### operators -/
theorem run_equalIn_ints {t e n : Nat} {kd : IntKind} (ht : P.underlying t = some (.array n e)) (he : P.underlying e = some (.int kd)) (hs : ∀ w, (sizeOf e).run P w = .ok 1 w) (hg : ∀ w, (isAgg e).run P w = .ok false w)
    (d : Nat) {xs ys : List Int} (hx : xs.length = n) (hy : ys.length = n) (w : World) :
    (Op.equalIn (d + 2) t (.agg (intCells kd xs).toArray) (.agg (intCells kd ys).toArray)).run P w = .ok (xs == ys) w := by
  have hpart : ∀ (zs : List Int) (i : Nat), i < zs.length → ∀ w, (part e (intCells kd zs).toArray i).run P w = .ok (.int kd (zs.getD i 0)) w := by
    intro zs i hi w
    simp [part, hg w, intCells, hi]
  have key : ∀ k s, s + k = n → ∀ w, (forIn (m := Sem) (List.range' s k 1) ((none, ()) : Option Bool × Unit) fun i _ => do
      let a ← part e (intCells kd xs).toArray (i * 1)
      let b ← part e (intCells kd ys).toArray (i * 1)
      let r ← Op.equalIn (d + 1) e a b
      if (!r) = true then pure (ForInStep.done (some false, ())) else pure (ForInStep.yield (none, ()))).run P w =
        .ok (if xs.drop s == ys.drop s then (none, ()) else (some false, ())) w := by
    intro k
    induction k with
    | zero =>
      intro s hs' w
      have h1 : xs.drop s = [] := List.drop_eq_nil_of_le (by omega)
      have h2 : ys.drop s = [] := List.drop_eq_nil_of_le (by omega)
      simp [h1, h2]
    | succ k ih =>
      intro s hs' w
      have hsx : s < xs.length := by omega
      have hsy : s < ys.length := by omega
      have h1 : xs.drop s = xs.getD s 0 :: xs.drop (s + 1) := by rw [List.drop_eq_getElem_cons hsx]; simp [List.getD_eq_getElem?_getD, hsx]
      have h2 : ys.drop s = ys.getD s 0 :: ys.drop (s + 1) := by rw [List.drop_eq_getElem_cons hsy]; simp [List.getD_eq_getElem?_getD, hsy]
      simp only [List.range'_succ, List.forIn_cons, Sem.run_bind, Nat.mul_one, hpart xs s hsx, hpart ys s hsy, Result.andThen_ok, run_equalIn_int w d e kd kd _ _ he]
      rw [h1, h2]
      cases hb : (xs.getD s 0 == ys.getD s 0) with
      | false => simp only [Bool.not_false, if_true, Sem.run_pure, Result.andThen_ok, List.cons_beq_cons, hb, Bool.false_and, Bool.false_eq_true, if_false]
      | true =>
        have := ih (s + 1) (by omega) w
        simp only [Nat.mul_one] at this
        simp only [Bool.not_true, Bool.false_eq_true, if_false, Sem.run_pure, Result.andThen_ok, this, List.cons_beq_cons, hb, Bool.true_and]
  have h0 := key n 0 (by omega) w
  rw [Op.equalIn]
  simp only [Sem.run_bind, run_underlying ht, Result.andThen_ok, hs w]
  simp only [Std.Legacy.Range.forIn_eq_forIn_range', Std.Legacy.Range.size, Nat.sub_zero, Nat.add_sub_cancel, Nat.div_one]
  rw [h0]
  simp only [List.drop_zero]
  cases xs == ys <;> simp

theorem eqFields_sound (hT : T.ok P = true) (d : Nat) (xs ys : Array Value) : ∀ (gs : List Field) (j : Nat) (rx ry : List Value) (k : Bool → Prop), offsOk j (gs.map fun f => (f.offset, f.type)) = true →
    (gs.all fun f => decide (f.name ≠ "_")) = true → rx = xs.toList.drop j → ry = ys.toList.drop j → cellsEq (gs.map fun f => (T.at f.type).k) rx ry k → ∃ c, (∀ w, (Op.eqFields (d + 1) xs ys gs).run P w = .ok c w) ∧ k c
  | [], j, rx, ry, k, _, _, _, _, hk => by
    cases rx <;> cases ry <;> simp only [List.map_nil, cellsEq] at hk
    exact ⟨true, fun _ => rfl, hk⟩
  | g :: gs, j, rx, ry, k, ho, hn, hx, hy, hk => by
    simp only [List.map_cons, offsOk, Bool.and_eq_true] at ho
    simp only [List.all_cons, Bool.and_eq_true, decide_eq_true_eq] at hn
    have h0 := Nat.eq_of_beq_eq_true ho.1
    have go : ∀ (a b : Value) (r s : List Value) (c : Bool) (k' : Bool → Prop), rx = a :: r → ry = b :: s → (T.at g.type).k.agg = false → (T.at g.type).k ≠ .other → (∀ w, (Op.equalIn (d + 1) g.type a b).run P w = .ok c w) →
        cellsEq (gs.map fun f => (T.at f.type).k) r s k' → (∀ c', k' c' → k (c && c')) → ∃ c, (∀ w, (Op.eqFields (d + 1) xs ys (g :: gs)).run P w = .ok c w) ∧ k c := by
      intro a b r s c k' hrx hry hna hno he hk' hkk
      have hf := Tbl.fact hT hno
      have hag := fun w => hf.isAgg w
      rw [hna] at hag
      have part1 : ∀ (zs : Array Value) (z : Value) (q : List Value), zs.toList.drop j = z :: q → ∀ w, (part g.type zs g.offset).run P w = .ok z w := by
        intro zs z q hz w
        have : zs.toList[j]? = some z := by rw [← List.head?_drop, hz]; rfl
        have h2 : zs[g.offset]? = some z := by rw [h0]; simpa using this
        simp [part, hag, h2]
      have hd1 : ∀ (zs : Array Value) (z : Value) (q : List Value), zs.toList.drop j = z :: q → q = zs.toList.drop (j + 1) := by
        intro zs z q hz
        rw [← List.drop_drop, hz]
        rfl
      obtain ⟨c', h1, h2⟩ := eqFields_sound hT d xs ys gs (j + 1) r s k' ho.2 hn.2 (hd1 xs a r (hx.symm.trans hrx)) (hd1 ys b s (hy.symm.trans hry)) hk'
      have e1 := part1 xs a r (hx.symm.trans hrx)
      have e2 := part1 ys b s (hy.symm.trans hry)
      have key : ∀ w, (Op.eqFields (d + 1) xs ys (g :: gs)).run P w = if (!c) = true then .ok false w else (Op.eqFields (d + 1) xs ys gs).run P w := by
        intro w
        simp only [Op.eqFields, ne_eq, hn.1, not_false_eq_true, if_true, Sem.run_bind, e1, e2, he, Result.andThen_ok, Sem.run_ite, Sem.run_pure]
      cases c with
      | false =>
        refine ⟨false, fun w => by rw [key]; rfl, ?_⟩
        have := hkk c' h2
        simpa using this
      | true => exact ⟨c', fun w => by rw [key]; exact h1 w, by have := hkk c' h2; simpa using this⟩
    simp only [List.map_cons] at hk
    cases hg : (T.at g.type).k with
    | int kd0 =>
      rw [hg] at hk
      cases rx with
      | nil => simp [cellsEq] at hk
      | cons a r =>
        cases ry with
        | nil => cases a <;> simp [cellsEq] at hk
        | cons b s =>
          cases a <;> cases b <;> simp only [cellsEq] at hk
          obtain ⟨h1, hk2⟩ := req_spec hk
          have h1 := IntKind.eqb_spec h1
          subst h1
          exact go _ _ r s _ _ rfl rfl (by rw [hg]; rfl) (by rw [hg]; simp) (fun w => run_equalIn_int w d _ _ kd0 _ _ (under_int (Tbl.fact hT (by rw [hg]; simp)) hg)) hk2 (fun c' h => h)
    | bool =>
      rw [hg] at hk
      cases rx with
      | nil => simp [cellsEq] at hk
      | cons a r =>
        cases ry with
        | nil => cases a <;> simp [cellsEq] at hk
        | cons b s =>
          cases a <;> cases b <;> simp only [cellsEq] at hk
          exact go _ _ r s _ _ rfl rfl (by rw [hg]; rfl) (by rw [hg]; simp) (fun w => run_equalIn_bool' w d _ _ _ (under_bool (Tbl.fact hT (by rw [hg]; simp)) hg)) hk (fun c' h => h)
    | _ => rw [hg] at hk; simp [cellsEq] at hk
theorem eqOk_guard {t : Nat} {i : TI} (h : TyFact P t i) (he : i.eq = true) : P.eqGuardType P.depth t = false := by
  have := h.eq he
  simp only [eqOk, Bool.and_eq_true] at this
  simpa using this.1
/-- A value that has no parts is compared without a look at its type's guard. -/
theorem run_eqGuard_plain (op : BinOp) (t : Nat) (x y : Operand) (u v : Value) (h : isAggV u = false) (h' : ∀ w, u ≠ .nilIface ∨ v ≠ w) : (eqGuard op t x y u v).run P w = .ok () w := by
  cases op <;> simp [eqGuard] <;> cases u <;> cases v <;> first | rfl | (simp [isAggV] at h; done) | skip
  all_goals first | rfl | (exfalso; rcases h' .nilIface with h1 | h1 <;> exact h1 rfl)
theorem run_eq_ptr_nil {t e : Nat} (hu : P.underlying t = some (.pointer e)) (d : Nat) (p : Option Addr) (w : World) : (Op.equalIn (d + 1) t (.pointer p) (.pointer none)).run P w = .ok p.isNone w := by
  rw [Op.equalIn]
  cases p <;> simp [run_underlying hu]
theorem run_eq_slice_nil {t e : Nat} (hu : P.underlying t = some (.slice e)) (d : Nat) (p : Option Addr) (n c : Nat) (w : World) : (Op.equalIn (d + 1) t (.slice p n c) (.slice none 0 0)).run P w = .ok p.isNone w := by
  rw [Op.equalIn]
  cases p <;> simp [run_underlying hu]
theorem run_eq_func_nil {t : Nat} {e1 e2 : Array Nat} {e3 : Bool} (hu : P.underlying t = some (.func e1 e2 e3)) (d : Nat) (f : Fn) (x y : Array Value) (w : World) : (Op.equalIn (d + 1) t (.func f x y) .nilFunc).run P w = .ok false w := by
  rw [Op.equalIn]
  simp [run_underlying hu]
theorem binK_sound (hT : T.ok P = true) {op : BinOp} {t : Nat} {x y : AV} {k : Value → Prop} (hk : binK T op t x y k) {L : Nat} {u v : Value} (hx : x.is ψ L u) (hy : y.is ψ L v) (ox oy : Operand) :
    ∃ q, (∀ w, (do eqGuard op t ox oy u v; Go.binOp op t u v : Sem Value).run P w = .ok q w) ∧ k q := by
  have plain : ∀ q, (∀ w, (Go.binOp op t u v).run P w = .ok q w) → isAggV u = false → (∀ w, u ≠ .nilIface ∨ v ≠ w) → k q → ∃ q, (∀ w, (do eqGuard op t ox oy u v; Go.binOp op t u v : Sem Value).run P w = .ok q w) ∧ k q := by
    intro q h1 h2 h3 h4
    exact ⟨q, fun w => by simp only [Sem.run_bind, run_eqGuard_plain op t ox oy u v h2 h3, Result.andThen_ok, h1], h4⟩
  unfold binK at hk
  split at hk
  · rename_i kd a kd' b
    simp only [AV.is] at hx hy
    subst hx; subst hy
    refine plain _ (fun w => ?_) rfl (fun _ => .inl (by simp)) hk.2
    have : ¬ b < 0 := by omega
    simp [Go.binOp, Op.shift, this]
  · rename_i kd a kd' b
    simp only [AV.is] at hx hy
    subst hx; subst hy
    refine plain _ (fun w => ?_) rfl (fun _ => .inl (by simp)) hk.2
    have : ¬ b < 0 := by omega
    simp [Go.binOp, Op.shift, this]
  · rename_i kd a kd' b hn1 hn2
    simp only [AV.is] at hx hy
    subst hx; subst hy
    obtain ⟨h1, hk1⟩ := req_spec hk
    have h1 := IntKind.eqb_spec h1
    subst h1
    unfold intK at hk1
    split at hk1
    all_goals first
      | exact hk1.elim
      | (refine plain _ (fun w => ?_) rfl (fun _ => .inl (by simp)) hk1; simp [Go.binOp, Op.intArith, Op.intBits, Op.intCmp, Go.bits]; done)
      | (refine plain _ (fun w => ?_) rfl (fun _ => .inl (by simp)) hk1.2; have := hk1.1; simp [Go.binOp, Op.intDiv, this]; done)
      | (refine plain _ (fun w => ?_) rfl (fun _ => .inl (by simp)) hk1; rfl)
  · simp only [AV.is] at hx hy
    subst hx; subst hy
    obtain ⟨h1, hk1⟩ := req_spec hk
    cases hb : (T.at t).k <;> rw [hb] at h1 <;> simp [TK.isBool] at h1
    have hu := under_bool (Tbl.fact hT (by rw [hb]; simp)) hb
    refine plain _ (fun w => ?_) rfl (fun _ => .inl (by simp)) hk1
    simp [Go.binOp, Op.equal, Op.maxDepth, run_equalIn_bool' w 9999 t _ _ hu]
  · simp only [AV.is] at hx hy
    subst hx; subst hy
    obtain ⟨h1, hk1⟩ := req_spec hk
    cases hb : (T.at t).k <;> rw [hb] at h1 <;> simp [TK.isBool] at h1
    have hu := under_bool (Tbl.fact hT (by rw [hb]; simp)) hb
    refine plain _ (fun w => ?_) rfl (fun _ => .inl (by simp)) hk1
    simp [Go.binOp, Op.equal, Op.maxDepth, run_equalIn_bool' w 9999 t _ _ hu]
  · simp only [AV.is] at hx hy
    subst hx; subst hy
    obtain ⟨h1, hk1⟩ := req_spec hk
    cases hb : (T.at t).k <;> rw [hb] at h1 <;> simp [TK.isPtr] at h1
    obtain ⟨e, hu⟩ := under_ptr (Tbl.fact hT (by rw [hb]; simp)) hb
    refine plain _ (fun w => ?_) rfl (fun _ => .inl (by simp)) hk1
    simp [Go.binOp, Op.equal, Op.maxDepth, run_eq_ptr_nil hu 9999]
  · simp only [AV.is] at hx hy
    subst hx; subst hy
    obtain ⟨h1, hk1⟩ := req_spec hk
    cases hb : (T.at t).k <;> rw [hb] at h1 <;> simp [TK.isPtr] at h1
    obtain ⟨e, hu⟩ := under_ptr (Tbl.fact hT (by rw [hb]; simp)) hb
    refine plain _ (fun w => ?_) rfl (fun _ => .inl (by simp)) hk1
    simp [Go.binOp, Op.equal, Op.maxDepth, run_eq_ptr_nil hu 9999]
  · simp only [AV.is] at hx hy
    subst hx; subst hy
    obtain ⟨h1, rfl, hk1⟩ := req_spec hk
    cases hb : (T.at t).k <;> rw [hb] at h1 <;> simp [TK.isPtr] at h1
    have hf := Tbl.fact hT (t := t) (by rw [hb]; simp)
    obtain ⟨e, hu⟩ := under_ptr hf hb
    obtain ⟨j, hj⟩ := hf.ptr e hu
    exact plain _ (fun w => run_eql_ptr_same w _ hu hj) rfl (fun _ => .inl (by simp)) hk1
  · simp only [AV.is] at hx hy
    subst hx; subst hy
    obtain ⟨h1, rfl, hk1⟩ := req_spec hk
    cases hb : (T.at t).k <;> rw [hb] at h1 <;> simp [TK.isPtr] at h1
    have hf := Tbl.fact hT (t := t) (by rw [hb]; simp)
    obtain ⟨e, hu⟩ := under_ptr hf hb
    obtain ⟨j, hj⟩ := hf.ptr e hu
    exact plain _ (fun w => Lib.run_neq_ptr_same w _ hu hj) rfl (fun _ => .inl (by simp)) hk1
  · simp only [AV.is] at hx hy
    subst hx; subst hy
    obtain ⟨h1, hk1⟩ := req_spec hk
    cases hb : (T.at t).k <;> rw [hb] at h1 <;> simp [TK.isSlice] at h1
    have hu := under_slice (Tbl.fact hT (by rw [hb]; simp)) hb
    refine plain _ (fun w => ?_) rfl (fun _ => .inl (by simp)) hk1
    simp [Go.binOp, Op.equal, Op.maxDepth, run_eq_slice_nil hu 9999]
  · simp only [AV.is] at hx hy
    subst hx; subst hy
    obtain ⟨h1, hk1⟩ := req_spec hk
    cases hb : (T.at t).k <;> rw [hb] at h1 <;> simp [TK.isSlice] at h1
    have hu := under_slice (Tbl.fact hT (by rw [hb]; simp)) hb
    refine plain _ (fun w => ?_) rfl (fun _ => .inl (by simp)) hk1
    simp [Go.binOp, Op.equal, Op.maxDepth, run_eq_slice_nil hu 9999]
  · simp only [AV.is] at hx hy
    subst hx; subst hy
    obtain ⟨h1, hk1⟩ := req_spec hk
    cases hb : (T.at t).k <;> rw [hb] at h1 <;> simp [TK.isFunc] at h1
    obtain ⟨e1, e2, e3, hu⟩ := under_func (Tbl.fact hT (by rw [hb]; simp)) hb
    refine plain _ (fun w => ?_) rfl (fun _ => .inl (by simp)) hk1
    simp [Go.binOp, Op.equal, Op.maxDepth, run_eq_func_nil hu 9999]
  · simp only [AV.is] at hx hy
    subst hx; subst hy
    obtain ⟨h1, hk1⟩ := req_spec hk
    cases hb : (T.at t).k <;> rw [hb] at h1 <;> simp [TK.isFunc] at h1
    obtain ⟨e1, e2, e3, hu⟩ := under_func (Tbl.fact hT (by rw [hb]; simp)) hb
    refine plain _ (fun w => ?_) rfl (fun _ => .inl (by simp)) hk1
    simp [Go.binOp, Op.equal, Op.maxDepth, run_eq_func_nil hu 9999]
  · simp only [AV.is] at hx hy
    subst hx; subst hy
    refine plain _ (fun w => ?_) rfl (fun _ => .inl (by simp)) hk.2
    have h1 := hk.1
    simp only [Go.binOp, Op.stringOp]
    rw [if_neg (by omega)]
    rfl
  · simp only [AV.is] at hx hy
    subst hx; subst hy
    exact plain _ (fun _ => rfl) rfl (fun _ => .inl (by simp)) hk
  · simp only [AV.is] at hx hy
    subst hx; subst hy
    exact plain _ (fun _ => rfl) rfl (fun _ => .inl (by simp)) hk
  · rename_i kd xs kd' ys
    obtain ⟨h1, hk1⟩ := req_spec hk
    have h1 := IntKind.eqb_spec h1
    subst h1
    split at hk1
    · rename_i n e hn
      obtain ⟨h2, hk2⟩ := req_spec hk1
      obtain ⟨h3, hk3⟩ := req_spec hk2
      obtain ⟨h4, h5, h6, hk4⟩ := req_spec hk3
      have hf := Tbl.fact hT (t := t) (by rw [hn]; simp)
      have hek : (T.at e).k = .int kd := by
        cases hb : (T.at e).k <;> rw [hb] at h2 <;> simp [TK.isInt] at h2
        rw [IntKind.eqb_spec h2]
      have hfe := Tbl.fact hT (t := e) (by rw [hek]; simp)
      have he := run_equalIn_ints (P := P) (under_arr hf hn) (under_int hfe hek) (fun w => by rw [hfe.size w, Nat.eq_of_beq_eq_true h3]) (fun w => by rw [hfe.isAgg w, hek]; rfl) 9998 h5 h6
      have hg := fun w => run_eqGuard_agg (P := P) w (op := BinOp.eql) t ox oy (intCells kd xs).toArray (intCells kd ys).toArray (eqOk_guard hf h4)
      simp only [AV.is] at hx hy
      subst hx; subst hy
      refine ⟨_, fun w => ?_, hk4⟩
      simp only [Sem.run_bind, hg, Result.andThen_ok]
      simp [Go.binOp, Op.equal, Op.maxDepth, he]
    · exact hk1.elim
  · rename_i kd xs kd' ys
    obtain ⟨h1, hk1⟩ := req_spec hk
    have h1 := IntKind.eqb_spec h1
    subst h1
    split at hk1
    · rename_i n e hn
      obtain ⟨h2, hk2⟩ := req_spec hk1
      obtain ⟨h3, hk3⟩ := req_spec hk2
      obtain ⟨h4, h5, h6, hk4⟩ := req_spec hk3
      have hf := Tbl.fact hT (t := t) (by rw [hn]; simp)
      have hek : (T.at e).k = .int kd := by
        cases hb : (T.at e).k <;> rw [hb] at h2 <;> simp [TK.isInt] at h2
        rw [IntKind.eqb_spec h2]
      have hfe := Tbl.fact hT (t := e) (by rw [hek]; simp)
      have he := run_equalIn_ints (P := P) (under_arr hf hn) (under_int hfe hek) (fun w => by rw [hfe.size w, Nat.eq_of_beq_eq_true h3]) (fun w => by rw [hfe.isAgg w, hek]; rfl) 9998 h5 h6
      have hg := fun w => run_eqGuard_agg (P := P) w (op := BinOp.neq) t ox oy (intCells kd xs).toArray (intCells kd ys).toArray (eqOk_guard hf h4)
      simp only [AV.is] at hx hy
      subst hx; subst hy
      refine ⟨_, fun w => ?_, hk4⟩
      simp only [Sem.run_bind, hg, Result.andThen_ok]
      simp [Go.binOp, Op.equal, Op.maxDepth, he]
    · exact hk1.elim
  · rename_i xs ys
    unfold arrInts at hk
    split at hk
    · rename_i n e hn
      obtain ⟨kd, as, bs, e1, e2, hk1⟩ := hk
      obtain rfl : xs = (intCells kd as).toArray := by rw [← e1]
      obtain rfl : ys = (intCells kd bs).toArray := by rw [← e2]
      obtain ⟨h2, hk2⟩ := req_spec hk1
      obtain ⟨h3, hk3⟩ := req_spec hk2
      obtain ⟨h4, h5, h6, hk4⟩ := req_spec hk3
      have hf := Tbl.fact hT (t := t) (by rw [hn]; simp)
      have hek : (T.at e).k = .int kd := by
        cases hb : (T.at e).k <;> rw [hb] at h2 <;> simp [TK.isInt] at h2
        rw [IntKind.eqb_spec h2]
      have hfe := Tbl.fact hT (t := e) (by rw [hek]; simp)
      have he := run_equalIn_ints (P := P) (under_arr hf hn) (under_int hfe hek) (fun w => by rw [hfe.size w, Nat.eq_of_beq_eq_true h3]) (fun w => by rw [hfe.isAgg w, hek]; rfl) 9998 h5 h6
      have hg := fun w => run_eqGuard_agg (P := P) w (op := BinOp.eql) t ox oy (intCells kd as).toArray (intCells kd bs).toArray (eqOk_guard hf h4)
      simp only [AV.is] at hx hy
      subst hx; subst hy
      refine ⟨_, fun w => ?_, hk4⟩
      simp only [Sem.run_bind, hg, Result.andThen_ok]
      simp [Go.binOp, Op.equal, Op.maxDepth, he]
    unfold flatInt at hk
    split at hk
    · rename_i fs hn
      obtain ⟨h4, hk1⟩ := req_spec hk
      obtain ⟨h2, hk2⟩ := req_spec hk1
      have hf := Tbl.fact hT (t := t) (by rw [hn]; simp)
      obtain ⟨gs, hu, hgs⟩ := under_struct hf hn
      have h7 := hf.eq h4
      simp only [eqOk, hu, Bool.and_eq_true] at h7
      have hff : P.fieldsOf t = gs := by simp [Program.fieldsOf, hu]
      have hrun := fun w => run_equalIn_struct (P := P) w 9999 t xs ys (by rw [hff]; exact hu) (by simpa using h7.2.1)
      rw [hff] at hrun
      rw [← hgs] at h2 hk2
      rw [List.map_map] at hk2
      obtain ⟨c, hc, hk3⟩ := eqFields_sound (P := P) hT 9998 xs ys gs.toList 0 xs.toList ys.toList _ h2 h7.2.2 rfl rfl hk2
      have hg := fun w => run_eqGuard_agg (P := P) w (op := BinOp.eql) t ox oy xs ys (eqOk_guard hf h4)
      simp only [AV.is] at hx hy
      subst hx; subst hy
      refine ⟨_, fun w => ?_, hk3⟩
      simp only [Sem.run_bind, hg, Result.andThen_ok]
      simp [Go.binOp, Op.equal, Op.maxDepth, hrun, hc]
    · exact hk.elim
  · rename_i xs ys
    unfold arrInts at hk
    split at hk
    · rename_i n e hn
      obtain ⟨kd, as, bs, e1, e2, hk1⟩ := hk
      obtain rfl : xs = (intCells kd as).toArray := by rw [← e1]
      obtain rfl : ys = (intCells kd bs).toArray := by rw [← e2]
      obtain ⟨h2, hk2⟩ := req_spec hk1
      obtain ⟨h3, hk3⟩ := req_spec hk2
      obtain ⟨h4, h5, h6, hk4⟩ := req_spec hk3
      have hf := Tbl.fact hT (t := t) (by rw [hn]; simp)
      have hek : (T.at e).k = .int kd := by
        cases hb : (T.at e).k <;> rw [hb] at h2 <;> simp [TK.isInt] at h2
        rw [IntKind.eqb_spec h2]
      have hfe := Tbl.fact hT (t := e) (by rw [hek]; simp)
      have he := run_equalIn_ints (P := P) (under_arr hf hn) (under_int hfe hek) (fun w => by rw [hfe.size w, Nat.eq_of_beq_eq_true h3]) (fun w => by rw [hfe.isAgg w, hek]; rfl) 9998 h5 h6
      have hg := fun w => run_eqGuard_agg (P := P) w (op := BinOp.neq) t ox oy (intCells kd as).toArray (intCells kd bs).toArray (eqOk_guard hf h4)
      simp only [AV.is] at hx hy
      subst hx; subst hy
      refine ⟨_, fun w => ?_, hk4⟩
      simp only [Sem.run_bind, hg, Result.andThen_ok]
      simp [Go.binOp, Op.equal, Op.maxDepth, he]
    unfold flatInt at hk
    split at hk
    · rename_i fs hn
      obtain ⟨h4, hk1⟩ := req_spec hk
      obtain ⟨h2, hk2⟩ := req_spec hk1
      have hf := Tbl.fact hT (t := t) (by rw [hn]; simp)
      obtain ⟨gs, hu, hgs⟩ := under_struct hf hn
      have h7 := hf.eq h4
      simp only [eqOk, hu, Bool.and_eq_true] at h7
      have hff : P.fieldsOf t = gs := by simp [Program.fieldsOf, hu]
      have hrun := fun w => run_equalIn_struct (P := P) w 9999 t xs ys (by rw [hff]; exact hu) (by simpa using h7.2.1)
      rw [hff] at hrun
      rw [← hgs] at h2 hk2
      rw [List.map_map] at hk2
      obtain ⟨c, hc, hk3⟩ := eqFields_sound (P := P) hT 9998 xs ys gs.toList 0 xs.toList ys.toList _ h2 h7.2.2 rfl rfl hk2
      have hg := fun w => run_eqGuard_agg (P := P) w (op := BinOp.neq) t ox oy xs ys (eqOk_guard hf h4)
      simp only [AV.is] at hx hy
      subst hx; subst hy
      refine ⟨_, fun w => ?_, hk3⟩
      simp only [Sem.run_bind, hg, Result.andThen_ok]
      simp [Go.binOp, Op.equal, Op.maxDepth, hrun, hc]
    · exact hk.elim
  · rename_i xs kd0 ys
    unfold arrInts at hk
    split at hk
    · rename_i n e hn
      obtain ⟨kd, as, bs, e1, e2, hk1⟩ := hk
      simp only [AV.is] at hx hy
      rw [show (intCells kd0 ys).toArray = (intCells kd bs).toArray by rw [← e2]] at hy
      obtain rfl : xs = (intCells kd as).toArray := by rw [← e1]
      obtain ⟨h2, hk2⟩ := req_spec hk1
      obtain ⟨h3, hk3⟩ := req_spec hk2
      obtain ⟨h4, h5, h6, hk4⟩ := req_spec hk3
      have hf := Tbl.fact hT (t := t) (by rw [hn]; simp)
      have hek : (T.at e).k = .int kd := by
        cases hb : (T.at e).k <;> rw [hb] at h2 <;> simp [TK.isInt] at h2
        rw [IntKind.eqb_spec h2]
      have hfe := Tbl.fact hT (t := e) (by rw [hek]; simp)
      have he := run_equalIn_ints (P := P) (under_arr hf hn) (under_int hfe hek) (fun w => by rw [hfe.size w, Nat.eq_of_beq_eq_true h3]) (fun w => by rw [hfe.isAgg w, hek]; rfl) 9998 h5 h6
      have hg := fun w => run_eqGuard_agg (P := P) w (op := BinOp.eql) t ox oy (intCells kd as).toArray (intCells kd bs).toArray (eqOk_guard hf h4)
      subst hx; subst hy
      refine ⟨_, fun w => ?_, hk4⟩
      simp only [Sem.run_bind, hg, Result.andThen_ok]
      simp [Go.binOp, Op.equal, Op.maxDepth, he]
    · exact hk.elim
  · rename_i xs kd0 ys
    unfold arrInts at hk
    split at hk
    · rename_i n e hn
      obtain ⟨kd, as, bs, e1, e2, hk1⟩ := hk
      simp only [AV.is] at hx hy
      rw [show (intCells kd0 ys).toArray = (intCells kd bs).toArray by rw [← e2]] at hy
      obtain rfl : xs = (intCells kd as).toArray := by rw [← e1]
      obtain ⟨h2, hk2⟩ := req_spec hk1
      obtain ⟨h3, hk3⟩ := req_spec hk2
      obtain ⟨h4, h5, h6, hk4⟩ := req_spec hk3
      have hf := Tbl.fact hT (t := t) (by rw [hn]; simp)
      have hek : (T.at e).k = .int kd := by
        cases hb : (T.at e).k <;> rw [hb] at h2 <;> simp [TK.isInt] at h2
        rw [IntKind.eqb_spec h2]
      have hfe := Tbl.fact hT (t := e) (by rw [hek]; simp)
      have he := run_equalIn_ints (P := P) (under_arr hf hn) (under_int hfe hek) (fun w => by rw [hfe.size w, Nat.eq_of_beq_eq_true h3]) (fun w => by rw [hfe.isAgg w, hek]; rfl) 9998 h5 h6
      have hg := fun w => run_eqGuard_agg (P := P) w (op := BinOp.neq) t ox oy (intCells kd as).toArray (intCells kd bs).toArray (eqOk_guard hf h4)
      subst hx; subst hy
      refine ⟨_, fun w => ?_, hk4⟩
      simp only [Sem.run_bind, hg, Result.andThen_ok]
      simp [Go.binOp, Op.equal, Op.maxDepth, he]
    · exact hk.elim
  · exact hk.elim
theorem isNilC_spec {y : Operand} (h : isNilC y = true) : y = .const .nilIface := by
  unfold isNilC at h
  split at h
  · split at h
    · rfl
    · cases h
  · cases h
theorem binN_sound (hT : T.ok P = true) {op : BinOp} {t : Nat} {ox oy : Operand} {x y : AV} {k : Value → Prop} (hk : binN P T op t ox oy x y k) {L : Nat} {u v : Value} (hx : x.is ψ L u) (hy : y.is ψ L v) (hv : v = a.eval oy) :
    ∃ q, (∀ w, (do eqGuard op t ox oy u v; Go.binOp op t u v : Sem Value).run P w = .ok q w) ∧ k q := by
  unfold binN at hk
  cases hn : isNilC oy with
  | true =>
    rw [hn] at hk
    have ho := isNilC_spec hn
    subst ho
    obtain ⟨r, h1, h2⟩ := valK_spec hk hx
    subst hv
    exact ⟨r, h1, h2⟩
  | false =>
    rw [hn] at hk
    cases hA : arrIn T t with
    | false =>
      rw [hA] at hk
      exact binK_sound hT hk hx hy ox oy
    | true =>
      rw [hA] at hk
      have hf : TyFact P t (T.at t) := Tbl.fact hT fun hk => by unfold arrIn at hA; rw [hk] at hA; cases hA
      simp only at hk
      unfold aggEq at hk
      split at hk
      · obtain ⟨h4, c, h5, h6⟩ := req_spec hk
        simp only [AV.is] at hx hy
        subst hx; subst hy
        refine ⟨_, fun w => ?_, h6⟩
        simp only [Sem.run_bind, run_eqGuard_agg (P := P) w (op := BinOp.eql) t ox oy _ _ (eqOk_guard hf h4), Result.andThen_ok]
        simp [Go.binOp, h5]
      · obtain ⟨h4, c, h5, h6⟩ := req_spec hk
        simp only [AV.is] at hx hy
        subst hx; subst hy
        refine ⟨_, fun w => ?_, h6⟩
        simp only [Sem.run_bind, run_eqGuard_agg (P := P) w (op := BinOp.neq) t ox oy _ _ (eqOk_guard hf h4), Result.andThen_ok]
        simp [Go.binOp, h5]
      · exact hk.elim
theorem run_eq_nil_nil {t : Nat} {ms : Array (String × TypeId)} (hu : P.underlying t = some (.interface ms)) (d : Nat) (w : World) : (Op.equalIn (d + 1) t .nilIface .nilIface).run P w = .ok true w := by
  rw [Op.equalIn]
  simp [run_underlying hu]
theorem run_eq_iface_nil {t : Nat} {ms : Array (String × TypeId)} (hu : P.underlying t = some (.interface ms)) (d : Nat) (a : Nat) (b : Value) (w : World) : (Op.equalIn (d + 1) t (.iface a b) .nilIface).run P w = .ok false w := by
  rw [Op.equalIn]
  simp [run_underlying hu]
theorem run_guard_nil {op : BinOp} {t : Nat} {ox : Operand} (w : World) : (eqGuard op t ox (.const .nilIface) .nilIface .nilIface).run P w = .ok () w := by
  unfold eqGuard
  cases op <;> simp
theorem nil_cmp {t : Nat} {ms : Array (String × TypeId)} {ox : Operand} (hu : P.underlying t = some (.interface ms)) (w : World) (u : Value) (hv : u = .nilIface ∨ ∃ a b, u = .iface a b) :
    (nilCmp .eql t ox u).run P w = .ok (.bool (match u with | .nilIface => true | _ => false)) w ∧ (nilCmp .neq t ox u).run P w = .ok (.bool (match u with | .nilIface => false | _ => true)) w := by
  rcases hv with rfl | ⟨a, b, rfl⟩
  · constructor
    · simp only [nilCmp, Sem.run_bind, run_guard_nil, Result.andThen_ok]
      simp [Go.binOp, Op.equal, Op.maxDepth, run_eq_nil_nil hu 9999 w]
    · simp only [nilCmp, Sem.run_bind, run_guard_nil, Result.andThen_ok]
      simp [Go.binOp, Op.equal, Op.maxDepth, run_eq_nil_nil hu 9999 w]
  · have hg : ∀ op : BinOp, (eqGuard op t ox (.const .nilIface) (.iface a b) .nilIface).run P w = .ok () w := fun op => run_eqGuard_plain op t ox _ _ _ rfl (fun _ => .inl (by simp))
    constructor
    · simp only [nilCmp, Sem.run_bind, hg, Result.andThen_ok]
      simp [Go.binOp, Op.equal, Op.maxDepth, run_eq_iface_nil hu 9999 a b w]
    · simp only [nilCmp, Sem.run_bind, hg, Result.andThen_ok]
      simp [Go.binOp, Op.equal, Op.maxDepth, run_eq_iface_nil hu 9999 a b w]
end
end Go.Mv
/- Mv: one operation, whole. -/
namespace Go.Mv
open Go
section
variable {P : Program} {r : Option Nat} {T : Tbl} {pr : List Nat} {ψ : Nat → Nat} {N : Nat} {D : HD} {m0 : Mem} {w0 : World} {Q : Exit → Act → World → Prop} {S S' : St} {a : Act} {w w' : World} {K : St → Prop} {v : Value}
  {dst : Option Tmp} {op : Op} {ty : TypeId} {pos : String} {after : Array Edge} {guard : Option (Nat × Bool)}

/-- The operation yields v in the world that it got. -/
theorem same (hR : Rel ψ N D m0 w0 S a w) (hd : ∀ i, dst = some i → i < N) (hnd : ∀ c, op ≠ .defer c) {v : Value} {x : AV} (hrun : (execOp a.eval ⟨dst, op, ty, pos, after, guard⟩).run P w = .ok (.value v) w) (hx : x.is ψ S.ls.length v)
    (hK : K (S.put dst x)) : Stp P r N D m0 w0 Q ⟨dst, op, ty, pos, after, guard⟩ a w K :=
  Stp.val hnd hrun hK ⟨ψ, hR.put hx hd⟩
theorem run_val {s : Sem Value} {v : Value} {w w' : World} (h : s.run P w = .ok v w') : ((do pure (.value (← s))) : Sem Next).run P w = .ok (.value v) w' := by
  simp [h]

theorem newK_sound (hR : Rel ψ N D m0 w0 S a w) (hd : ∀ i, dst = some i → i < N) (hnd : ∀ c, op ≠ .defer c) {c : LC} {e : Nat} {vs : Array Value} (hc : vs.toList = c.list)
    (hrun : (execOp a.eval ⟨dst, op, ty, pos, after, guard⟩).run P w = .ok (.value (.pointer (some ⟨w.heap.size, 0, none⟩))) (w.alloc (.cells vs e (0, 0)))) (hk : newK pr dst c e S K) :
    Stp P r N D m0 w0 Q ⟨dst, op, ty, pos, after, guard⟩ a w K := by
  have hvs : vs = c.list.toArray := by rw [← hc]
  subst hvs
  rw [newK_eq] at hk
  unfold newKS at hk
  cases dst with
  | none => exact hk.elim
  | some d =>
    simp only at hk
    cases hp : pr.contains d with
    | true =>
      rw [hp] at hk
      simp only [cond_true] at hk
      obtain ⟨ψ', h1, h2⟩ := hR.newbox c e
      refine Stp.val hnd hrun hk ⟨ψ', Rel.put (x := .loc S.ls.length 0) h2 ⟨by simp, by rw [h1]⟩ hd⟩
    | false =>
      rw [hp] at hk
      simp only [cond_false] at hk
      exact Stp.val hnd hrun (hk _ hR.fresh) ⟨ψ, (hR.alloc _).put rfl hd⟩
theorem valK_is {x : AV} {k : Value → Prop} {L : Nat} {v : Value} (h : valK x k) (hx : x.is ψ L v) : k v := valK_spec h hx
theorem fold_writeAt : ∀ (cs : List Value) (l : Array Value) (off j : Nat), (cs.zipIdx j).foldl (fun (acc : Array Value) (c : Value × Nat) => acc.setIfInBounds (off + c.2) c.1) l = (writeAt l.toList (off + j) cs).toArray
  | [], l, off, j => by simp [writeAt]
  | c :: cs, l, off, j => by
    simp only [List.zipIdx_cons, List.foldl_cons, writeAt]
    rw [fold_writeAt cs _ off (j + 1)]
    simp [Nat.add_assoc]
theorem fillK_sound (hR : Rel ψ N D m0 w0 S a w) {place place' : Nat → Option (Nat × Nat)} (hp : ∀ i, place i = place' i) : ∀ (parts : List (Nat × Operand)) (l : List Value) (k : List Value → Prop), fillK S place parts l k →
    ∃ cs, Instr.fill place' l.toArray (parts.map fun x => (x.1, a.eval x.2)) = some cs ∧ k cs.toList
  | [], l, k, hk => ⟨l.toArray, rfl, hk⟩
  | (i, o) :: rest, l, k, hk => by
    simp only [fillK] at hk
    cases hpl : place i with
    | none => rw [hpl] at hk; exact hk.elim
    | some x =>
      obtain ⟨off, size⟩ := x
      rw [hpl] at hk
      simp only at hk
      obtain ⟨x, hx, h1⟩ := hR.ev hk
      have h2 := valK_spec h1 hx
      obtain ⟨h3, h4⟩ := req_spec h2
      obtain ⟨h5, h6⟩ := req_spec h4
      have h3 := Nat.eq_of_beq_eq_true h3
      have h5 := Nat.le_of_ble_eq_true h5
      obtain ⟨cs, h7, h8⟩ := fillK_sound hR hp rest _ k h6
      refine ⟨cs, ?_, h8⟩
      simp only [List.map_cons, Instr.fill, ← hp i, hpl]
      have h9 : (a.eval o).cells.size = size := by simpa using h3
      rw [if_neg]
      · rw [← h7]
        congr 1
        have h10 := fold_writeAt (a.eval o).cells.toList l.toArray off 0
        simp only [Nat.add_zero] at h10
        rw [← h10]
        rw [← Array.foldl_toList]
        rw [Array.toList_zipIdx]
      · simp [h9]
        omega

theorem zeros_eq (e : Nat) (z : Value) (hz : z.cells.toList = (T.at e).zero.list) (n : Nat) (hs : (T.at e).zero.list.length = (T.at e).size) :
    ((Array.range (n * (T.at e).size)).map (z.cells[· % z.cells.size]!)).toList = (zerosOf T e n).list := by
  have hsz : z.cells.size = (T.at e).size := by rw [← hs, ← hz]; simp
  have gen : ((Array.range (n * (T.at e).size)).map (z.cells[· % z.cells.size]!)).toList = (List.range n).flatMap fun _ => (T.at e).zero.list := by
    rw [← hz]
    have h1 : ∀ i, z.cells[i % z.cells.size]! = z.cells.toList[i % z.cells.toList.length]! := by intro i; rw [Array.getElem!_toList, Array.length_toList]
    simp only [Array.toList_map, Array.toList_range, h1, ← hsz]
    have h2 : z.cells.size = z.cells.toList.length := by simp
    rw [h2]
    generalize z.cells.toList = l
    induction n with
    | zero => simp
    | succ n ih =>
      rw [Nat.succ_mul, List.range_add, List.map_append, ih, List.range_succ, List.flatMap_append]
      congr 1
      apply List.ext_getElem?
      intro i
      simp only [List.map_map, List.getElem?_map, List.flatMap_cons, List.flatMap_nil, List.append_nil]
      by_cases hi : i < l.length
      · rw [List.getElem?_range hi]
        simp [hi, Nat.mod_eq_of_lt hi]
      · rw [List.getElem?_eq_none (by simp; omega), List.getElem?_eq_none (by omega)]
        rfl
  rw [gen]
  clear gen
  unfold zerosOf
  split
  · rename_i kd h
    rw [h]
    simp only [LC.list, intCells, List.map_replicate]
    induction n with
    | zero => rfl
    | succ n ih => rw [List.range_succ, List.flatMap_append, ih, List.replicate_succ']; simp
  · rename_i h
    rw [h]
    simp only [LC.list, boolCells, List.map_replicate]
    induction n with
    | zero => rfl
    | succ n ih => rw [List.range_succ, List.flatMap_append, ih, List.replicate_succ']; simp
  · rfl
theorem fillIntsK_sound (hR : Rel ψ N D m0 w0 S a w) {kd : IntKind} {place : Nat → Option (Nat × Nat)} (hp : ∀ i, place i = some (i * 1, 1)) : ∀ (parts : List (Nat × Operand)) (l : List Int) (k : List Int → Prop), fillIntsK S kd parts l k →
    ∃ xs, Instr.fill place (intCells kd l).toArray (parts.map fun x => (x.1, a.eval x.2)) = some (intCells kd xs).toArray ∧ k xs
  | [], l, k, hk => ⟨l, rfl, hk⟩
  | (i, o) :: rest, l, k, hk => by
    simp only [fillIntsK_cons] at hk
    obtain ⟨x, hx, h1⟩ := hR.ev hk
    split at h1
    · rename_i kd' v
      obtain ⟨h2, h3, h4⟩ := req_spec h1
      have h2 := IntKind.eqb_spec h2
      subst h2
      simp only [AV.is] at hx
      obtain ⟨xs, h5, h6⟩ := fillIntsK_sound hR hp rest _ k h4
      refine ⟨xs, ?_, h6⟩
      have h9 : (a.eval o).cells = #[.int kd v] := by rw [hx]; rfl
      simp only [List.map_cons, Instr.fill, hp, Nat.mul_one]
      rw [if_neg]
      · rw [← h5]
        congr 1
        simp [intCells, h9]
      · simp [intCells, h9]
        omega
    · exact h1.elim
theorem norm_sound {t : Nat} {v : Value} {k : AV → Prop} (h : normK T t v k) (ψ : Nat → Nat) (L : Nat) : ∃ x : AV, x.is ψ L v ∧ k x := by
  unfold normK at h
  split at h
  · split at h
    · obtain ⟨xs, _, h1, h2⟩ := h; exact ⟨.ints _ xs, h1, h2⟩
    · obtain ⟨xs, _, h1, h2⟩ := h; exact ⟨.bools xs, h1, h2⟩
    · exact ⟨.v v, rfl, h⟩
  · exact ⟨.v v, rfl, h⟩
theorem optK_sound (hR : Rel ψ N D m0 w0 S a w) {o : Option Operand} {d : Int} {k : Int → Prop} (h : optK S o d k) : ∃ n : Int, k n ∧ ((o = none ∧ n = d) ∨ ∃ x kd, o = some x ∧ a.eval x = .int kd n) := by
  unfold optK at h
  split at h
  · rename_i o
    obtain ⟨x, hx, h1⟩ := hR.ev h
    split at h1
    · simp only [AV.is] at hx
      exact ⟨_, h1, .inr ⟨o, _, rfl, hx⟩⟩
    · exact h1.elim
  · exact ⟨d, h, .inl ⟨rfl, rfl⟩⟩
end
end Go.Mv
/- Mv: calls, built-in ones and others. -/
namespace Go.Mv
open Go
section
variable {P : Program} {r : Option Nat} {T : Tbl} {pr : List Nat} {ψ : Nat → Nat} {N : Nat} {D : HD} {m0 : Mem} {w0 : World} {Q : Exit → Act → World → Prop} {S S' : St} {a : Act} {w w' : World} {K : St → Prop} {v : Value}
  {dst : Option Tmp} {op : Op} {ty : TypeId} {pos : String} {after : Array Edge} {guard : Option (Nat × Bool)}

theorem run_loads (h : S.m.sub w) {p : Addr} {vs : List Value} (hh : S.m.holds p vs) : (loadCells p vs.length).run P w = .ok vs.toArray w :=
  run_loadCells_list (P := P) (w := w) p vs (fun j v hj => Mem.sub_cell h (hh j v hj))
/-- A call of a function with a body: what FCalls says is what the machine does. -/
theorem frame_rel (hR : Rel ψ N D m0 w0 S a w) {m' : Mem} (hF : Frame S.m w m' w') : Rel ψ N D m0 w0 { S with m := m' } a w' :=
  hR.mem (hR.frame.trans hF) fun k hlt hn => by
    refine ⟨hF.keep _ hlt hn, ?_⟩
    cases hm : m' k with
    | none => rfl
    | some o =>
      rcases hF.dom k (by rw [hm]; simp) with hx | hx
      · exact absurd hn hx
      · omega
theorem enter_sound (hR : Rel ψ N D m0 w0 S a w) (hd : ∀ i, dst = some i → i < N) (hnd : ∀ c, op ≠ .defer c) {g : FuncId} {args : List Value}
    (hrun : (execOp a.eval ⟨dst, op, ty, pos, after, guard⟩).run P w = .ok (.enter g args.toArray) w)
    (hc : FCalls P g args S.m fun v m' => normK T ty v fun y => K ({ S with m := m' }.put dst y)) : Stp P r N D m0 w0 Q ⟨dst, op, ty, pos, after, guard⟩ a w K := by
  refine Stp.enter hnd hrun ((hc w hR.sub).mono fun e w' h => ?_)
  obtain ⟨v, m', he, hk, hF⟩ := h
  obtain ⟨y, hy, hK⟩ := norm_sound hk ψ S.ls.length
  exact ⟨v, he, _, hK, ψ, (frame_rel hR hF).put hy hd⟩
theorem next_sound (hR : Rel ψ N D m0 w0 S a w) (hd : ∀ i, dst = some i → i < N) (hnd : ∀ c, op ≠ .defer c) {s : Sem Next} (he : (execOp a.eval ⟨dst, op, ty, pos, after, guard⟩).run P w = s.run P w)
    (hk : NextP P s S.m fun v m' => K ({ S with m := m' }.put dst (.v v))) : Stp P r N D m0 w0 Q ⟨dst, op, ty, pos, after, guard⟩ a w K := by
  obtain ⟨v, w', m', h1, h2, hF⟩ := hk w hR.sub
  exact Stp.val hnd (he.trans h1) h2 ⟨ψ, (frame_rel hR hF).put rfl hd⟩
theorem callYield_sound (hR : Rel ψ N D m0 w0 S a w) (hd : ∀ i, dst = some i → i < N) {c : Call} {f : Operand} (hcal : c.callee = .value f) {l : Nat} (hev : a.eval f = .func (.yield l) #[] #[])
    (hc : YCalls P l (c.args.toList.map a.eval) S.m fun v m' => normK T ty v fun y => K ({ S with m := m' }.put dst y)) : Stp P r N D m0 w0 Q ⟨dst, .call c, ty, pos, after, guard⟩ a w K := by
  obtain ⟨fn, tmps, assign, body, h1, h2⟩ := hc w hR.sub
  have hrun : (execOp a.eval ⟨dst, .call c, ty, pos, after, guard⟩).run P w = .ok (.round l fn tmps assign body) w := by
    obtain ⟨callee, args, ats⟩ := c
    simp only at hcal
    subst hcal
    have he : args.map a.eval = (args.toList.map a.eval).toArray := by
      apply Array.ext'
      simp
    simp only [execOp, resolve, hev, Deferred.ofValue, pure_bind, invoke]
    simp only [Array.empty_append]
    rw [he]
    exact h1
  refine Stp.round (fun c h => by cases h) hrun (h2.mono fun e w' h => ?_)
  obtain ⟨v, m', he, hk, hF⟩ := h
  obtain ⟨y, hy, hK⟩ := norm_sound hk ψ S.ls.length
  exact ⟨v, he, _, hK, ψ, (frame_rel hR hF).put hy hd⟩

def bodyB (P : Program) (g : Nat) : Bool :=
  match P.funcs[g]? with
  | some fn => fn.body.isSome && decide (fn.name ≠ "runtime.NumGoroutine")
  | none => false
def bodiesOk (P : Program) (B : List Nat) : Bool := B.all (bodyB P)
theorem run_callFunc {g : Nat} (h : bodyB P g = true) (args : Array Value) : (callFunc g args).run P w = .ok (.enter g args) w := by
  unfold bodyB at h
  split at h
  · rename_i fn hf
    simp only [Bool.and_eq_true, decide_eq_true_eq] at h
    have h1 : fn.body ≠ none := by intro hb; rw [hb] at h; simp at h
    simp [callFunc, hf, h.2, h1]
  · cases h
theorem zip_ev (cs : List Operand) (f : Operand → Value) : (cs.toArray.map f).toList = cs.map f := by simp
theorem callExt_sound (hR : Rel ψ N D m0 w0 S a w) (hd : ∀ i, dst = some i → i < N) {c : Call} {f : Operand} (hcal : c.callee = .value f) {first cap : Array Value} {g : Nat} (hev : a.eval f = .func (.func g) first cap)
    (hc : NextP P (callFunc g (first.toList ++ c.args.toList.map a.eval ++ cap.toList).toArray) S.m fun v m' => K ({ S with m := m' }.put dst (.v v))) : Stp P r N D m0 w0 Q ⟨dst, .call c, ty, pos, after, guard⟩ a w K := by
  refine next_sound hR hd (fun c h => by cases h) ?_ hc
  obtain ⟨callee, args, ats⟩ := c
  simp only at hcal
  subst hcal
  have he : (first ++ args.map a.eval) ++ cap = (first.toList ++ args.toList.map a.eval ++ cap.toList).toArray := by
    apply Array.ext'
    simp
  simp only [execOp, resolve, hev, Deferred.ofValue, pure_bind, invoke]
  rw [he]
theorem builtin_sound (hR : Rel ψ N D m0 w0 S a w) (hd : ∀ i, dst = some i → i < N) {c : Call} {b : Builtin} (hcal : c.callee = .builtin b) {vs : List Value} (hvs : c.args.toList.map a.eval = vs)
    (hc : NextP P (builtin b c.argTypes ty (c.args.map constB) vs.toArray) S.m fun v m' => K ({ S with m := m' }.put dst (.v v))) : Stp P r N D m0 w0 Q ⟨dst, .call c, ty, pos, after, guard⟩ a w K := by
  refine next_sound hR hd (fun c h => by cases h) ?_ hc
  obtain ⟨callee, args, ats⟩ := c
  simp only at hcal hvs
  subst hcal
  have he : args.map a.eval = vs.toArray := by
    apply Array.ext'
    simp [← hvs]
  simp only [execOp, resolve, pure_bind, invoke]
  rw [he]
  refine congrArg (fun z => Sem.run P (builtin b ats ty z vs.toArray) w) ?_
  refine congrArg (fun f => Array.map f args) ?_
  funext o
  cases o <;> rfl
theorem callFn_sound (hR : Rel ψ N D m0 w0 S a w) (hd : ∀ i, dst = some i → i < N) {c : Call} {f : Operand} (hcal : c.callee = .value f) {first cap : Array Value} {g : Nat} (hev : a.eval f = .func (.func g) first cap) (hB : bodyB P g = true)
    (hc : FCalls P g (first.toList ++ c.args.toList.map a.eval ++ cap.toList) S.m fun v m' => normK T ty v fun y => K ({ S with m := m' }.put dst y)) : Stp P r N D m0 w0 Q ⟨dst, .call c, ty, pos, after, guard⟩ a w K := by
  refine enter_sound hR hd (fun c h => by cases h) ?_ hc
  obtain ⟨callee, args, ats⟩ := c
  simp only at hcal
  subst hcal
  have he : (first ++ args.map a.eval) ++ cap = (first.toList ++ args.toList.map a.eval ++ cap.toList).toArray := by
    apply Array.ext'
    simp
  simp only [execOp, resolve, hev, Deferred.ofValue, pure_bind, invoke]
  rw [he]
  exact run_callFunc hB _

/-! #### built-in functions -/
theorem run_builtin {c : Call} {b : Builtin} (hcal : c.callee = .builtin b) {v : Value} {w' : World} (h : (builtin b c.argTypes ty (c.args.map fun | .const _ => true | _ => false) (c.args.map a.eval)).run P w = .ok (.value v) w') :
    (execOp a.eval ⟨dst, .call c, ty, pos, after, guard⟩).run P w = .ok (.value v) w' := by
  obtain ⟨callee, args, ats⟩ := c
  simp only at hcal
  subst hcal
  simp only [execOp, resolve, pure_bind, invoke]
  exact h
theorem zerosRest {e : Nat} (hf : TyFact P e (T.at e)) (n : Nat) (w : World) : ∃ z, (zeroValue e).run P w = .ok z w ∧ (Builtin.zeroCells z.cells n).toList = (zerosOf T e n).list := by
  obtain ⟨z, h1, h2, h3⟩ := hf.zero
  refine ⟨z, h1 w, ?_⟩
  have := zeros_eq (T := T) e z h2 n hf.len
  have hsz : z.cells.size = (T.at e).size := by rw [← hf.len, ← h2]; simp
  unfold Builtin.zeroCells
  rw [hsz] at this ⊢
  exact this
theorem firstCells_slice (h : S.m.sub w) {B : Option Addr} {n c size : Nat} {vs : List Value} (hl : vs.length = n * size) (hh : (n * size = 0 ∧ B = none) ∨ ∃ p, B = some p ∧ S.m.holds p vs) : (Builtin.firstCells size n (.slice B n c)).run P w = .ok vs.toArray w := by
  rcases hh with ⟨h0, rfl⟩ | ⟨p, rfl, hp⟩
  · have : vs = [] := List.eq_nil_of_length_eq_zero (by omega)
    subst this
    rfl
  · simp only [Builtin.firstCells, ← hl]
    exact run_loads h hp
theorem firstCells_slice' (h : S.m.sub w) {B : Option Addr} {n j c size : Nat} {vs : List Value} (hl : vs.length = n * size) (hh : n * size = 0 ∨ ∃ p, B = some p ∧ S.m.holds p vs) : (Builtin.firstCells size n (.slice B j c)).run P w = .ok vs.toArray w := by
  rcases hh with h0 | ⟨p, rfl, hp⟩
  · have : vs = [] := List.eq_nil_of_length_eq_zero (by omega)
    subst this
    cases B with
    | none => rfl
    | some p => simp only [Builtin.firstCells, h0]; rfl
  · simp only [Builtin.firstCells, ← hl]
    exact run_loads h hp
theorem append_sound (hT : T.ok P = true) (hR : Rel ψ N D m0 w0 S a w) (hd : ∀ i, dst = some i → i < N) {c : Call} (hcal : c.callee = .builtin .append) {o o' : Operand} {t t' e e' : Nat} (hargs : c.args.toList = [o, o']) (hats : c.argTypes.toList = [t, t'])
    (hsz : 0 < (T.at e).size) (ht : (T.at t).k = .slice e) (ht' : (T.at t').k = .slice e') {A B : Option Addr} {n cc j cj : Nat} (ho : a.eval o = .slice A n cc) (ho' : a.eval o' = .slice B j cj)
    {news : List Value} (hn : news.length = j * (T.at e).size) (hnews : j * (T.at e).size = 0 ∨ ∃ p, B = some p ∧ S.m.holds p news)
    (hroom : n + j ≤ cc → (∃ p, A = some p ∧ S.m.room (p.add (n * (T.at e).size)) (j * (T.at e).size) ∧ oneCells news = true ∧
              K ({ S with m := S.m.setCells (p.add (n * (T.at e).size)) 0 news }.put dst (.v (.slice A (n + j) cc)))) ∨
            (A = none ∧ K (S.put dst (.v (.slice A (n + j) cc)))))
    (hgrow : cc < n + j → req (Nat.blt 0 (T.at e).bytes) (Builtin.nextslicecap (n + j) cc * (T.at e).bytes ≤ 2 ^ 48 ∧
            ∃ olds : List Value, olds.length = n * (T.at e).size ∧ ((n * (T.at e).size = 0 ∧ A = none) ∨ ∃ p, A = some p ∧ S.m.holds p olds) ∧
            ∀ cap b, n + j ≤ cap → S.m b = none →
              K ({ S with m := S.m.set b (.cells (olds ++ news ++ (zerosOf T e (cap - (n + j))).list).toArray e (0, 0)) }.put dst (.v (.slice (some ⟨b, 0, none⟩) (n + j) cap))))) :
    Stp P r N D m0 w0 Q ⟨dst, .call c, ty, pos, after, guard⟩ a w K := by
  have hna : c.args = #[o, o'] := by apply Array.ext'; rw [hargs]
  have hnt : c.argTypes = #[t, t'] := by apply Array.ext'; rw [hats]
  have hft := Tbl.fact hT (t := t) (by rw [ht]; simp)
  have hft' := Tbl.fact hT (t := t') (by rw [ht']; simp)
  have hut := under_slice hft ht
  have hut' := under_slice hft' ht'
  have hfe := tyfact_of_size hT (t := e) (by omega)
  obtain ⟨inf, hinf, hb, hs⟩ := hfe.typeInfo w
  have hz0 : ((underlying t').run P w) = .ok (.slice e') w := run_underlying hut' w
  by_cases hle : n + j ≤ cc
  · have hrun0 : ∀ w', (match A with | some p => Go.storeCells (p.add (n * (T.at e).size)) news | none => pure ()).run P w = .ok () w' →
        (Builtin.append_ c.argTypes ty (c.args.map a.eval)).run P w = .ok (.slice A (n + j) cc) w' := by
      intro w' hw'
      have hfc := firstCells_slice' (P := P) (j := j) (c := cj) hR.sub hn hnews
      rw [hna, hnt]
      simp only [Builtin.append_, List.map_toArray, List.map_cons, List.map_nil, ho, ho']
      simp only [List.getElem?_toArray, List.getElem?_cons_zero, List.getElem?_cons_succ, Sem.run_bind, run_underlying hut, run_underlying hut', hfe.size w, Result.andThen_ok, Sem.run_pure]
      simp only [Bool.false_eq_true, if_false, Builtin.lenOf, Sem.run_pure, Result.andThen_ok, hle, if_true, Bool.not_false, Sem.run_bind, hfc]
      cases A with
      | none => simpa using hw'
      | some p =>
        simp only at hw'
        simp only [Sem.run_bind, hw', Result.andThen_ok, Sem.run_pure]
    rcases hroom hle with ⟨p, rfl, hr, hone, hK⟩ | ⟨rfl, hK⟩
    · obtain ⟨w', h1, h2⟩ := Rel.storeCells (P := P) ψ news S w (p.add (n * (T.at e).size)) 0 _ hR hr (by omega) hone
      exact Stp.val (fun c h => by cases h) (run_builtin hcal (run_val (hrun0 w' h1))) hK ⟨ψ, h2.put rfl hd⟩
    · exact Stp.val (fun c h => by cases h) (run_builtin hcal (run_val (hrun0 w rfl))) hK ⟨ψ, hR.put rfl hd⟩
  · obtain ⟨hby, hcap, olds, hol, holds, hK⟩ := req_spec (hgrow (by omega))
    have hby : 0 < (T.at e).bytes := by have := Nat.le_of_ble_eq_true hby; omega
    obtain ⟨cap, hcapdef⟩ : ∃ cap, cap = (Question.appendCap (n + j) cc e).cut (w.tape w.drawn (.appendCap (n + j) cc e)) := ⟨_, rfl⟩
    have hcapge : n + j ≤ cap := by rw [hcapdef]; simp only [Question.cut]; omega
    obtain ⟨z, hz, hzl⟩ := zerosRest (P := P) hfe (cap - (n + j)) { w with drawn := w.drawn + 1 }
    have hR' := hR.drew (Nat.le_succ w.drawn)
    have hfc := firstCells_slice' (P := P) (j := j) (c := cj) hR'.sub hn hnews
    have hfo := firstCells_slice (P := P) (c := cc) hR'.sub hol holds
    have hrun : (Builtin.append_ c.argTypes ty (c.args.map a.eval)).run P w =
        .ok (.slice (some ⟨w.heap.size, 0, none⟩) (n + j) cap) (World.alloc { w with drawn := w.drawn + 1 } (.cells (olds ++ news ++ (zerosOf T e (cap - (n + j))).list).toArray e (0, 0))) := by
      rw [hna, hnt]
      simp only [Builtin.append_, List.map_toArray, List.map_cons, List.map_nil, ho, ho']
      simp only [List.getElem?_toArray, List.getElem?_cons_zero, List.getElem?_cons_succ, Sem.run_bind, run_underlying hut, run_underlying hut', hfe.size w, Result.andThen_ok, Sem.run_pure]
      simp only [Bool.false_eq_true, if_false, Builtin.lenOf, Sem.run_pure, Result.andThen_ok, hle, Bool.not_false, if_true, Sem.run_bind, hinf, hb]
      have hneg : ¬ (((n + j : Nat) : Int) > IntKind.i64.max ∧ (False ∨ (T.at e).bytes = 0)) := by
        rintro ⟨_, h | h⟩
        · exact h
        · omega
      rw [if_neg hneg]
      simp only [Sem.run_bind, Result.andThen_ok, hinf, hb]
      rw [if_neg (by omega)]
      simp only [Sem.run_bind, Sem.run_pure, Result.andThen_ok, run_choose, Question.forced, Bool.false_eq_true, if_false, ← hcapdef]
      have hinf' : (typeInfo e).run P { w with drawn := w.drawn + 1 } = .ok inf { w with drawn := w.drawn + 1 } := by
        obtain ⟨inf', h1, h2, h3⟩ := hfe.info
        simp only [typeInfo, Sem.run_bind, run_program, Result.andThen_ok, h1, Sem.run_pure] at hinf ⊢
        cases hinf
        rfl
      simp only [hinf', Result.andThen_ok, run_askRoom, hfo, hfc, hz, Sem.run_pure, newRow, Sem.run_bind, run_newObj]
      have : olds.toArray ++ news.toArray ++ Builtin.zeroCells z.cells (cap - (n + j)) = (olds ++ news ++ (zerosOf T e (cap - (n + j))).list).toArray := by
        apply Array.ext'
        simp [hzl]
      rw [this]
      rfl
    exact Stp.val (fun c h => by cases h) (run_builtin hcal (run_val hrun)) (hK cap w.heap.size hcapge hR.fresh) ⟨ψ, (hR'.alloc _).put rfl hd⟩

theorem copy_sound (hT : T.ok P = true) (hR : Rel ψ N D m0 w0 S a w) (hd : ∀ i, dst = some i → i < N) {c : Call} (hcal : c.callee = .builtin .copy) {o o' : Operand} {t t' e : Nat} (hargs : c.args.toList = [o, o']) (hats : c.argTypes.toList = [t, t'])
    (hsz : 0 < (T.at e).size) (ht : (T.at t).k = .slice e) {A B : Option Addr} {n cc j cj : Nat} (ho : a.eval o = .slice A n cc) (ho' : a.eval o' = .slice B j cj)
    {news : List Value} (hn : news.length = min j n * (T.at e).size) (hnews : min j n * (T.at e).size = 0 ∨ ∃ p q, A = some p ∧ B = some q ∧ S.m.holds q news ∧ S.m.room p (min j n * (T.at e).size) ∧ oneCells news = true)
    (hK : ptrK A (fun p => K ({ S with m := S.m.setCells p 0 news }.put dst (.v (.int .i64 (min j n : Nat))))) (K (S.put dst (.v (.int .i64 (min j n : Nat)))))) :
    Stp P r N D m0 w0 Q ⟨dst, .call c, ty, pos, after, guard⟩ a w K := by
  have hna : c.args = #[o, o'] := by apply Array.ext'; rw [hargs]
  have hnt : c.argTypes = #[t, t'] := by apply Array.ext'; rw [hats]
  have hft := Tbl.fact hT (t := t) (by rw [ht]; simp)
  have hut := under_slice hft ht
  have hfe := tyfact_of_size hT (t := e) (by omega)
  have hfc : (Builtin.firstCells (T.at e).size (min j n) (.slice B j cj)).run P w = .ok news.toArray w := by
    refine firstCells_slice' (P := P) hR.sub hn ?_
    rcases hnews with h | ⟨p, q, _, h1, h2, _⟩
    · exact .inl h
    · exact .inr ⟨q, h1, h2⟩
  have hrun0 : ∀ w', (match A with | some p => Go.storeCells p news | none => pure ()).run P w = .ok () w' →
      (Builtin.copy_ c.argTypes ty (c.args.map a.eval)).run P w = .ok (.int .i64 (min j n : Nat)) w' := by
    intro w' hw'
    rw [hna, hnt]
    simp only [Builtin.copy_, List.map_toArray, List.map_cons, List.map_nil, ho, ho']
    simp only [List.getElem?_toArray, List.getElem?_cons_zero, List.getElem?_cons_succ, Sem.run_bind, run_underlying hut, hfe.size w, Result.andThen_ok, Sem.run_pure, Builtin.lenOf]
    rw [show Nat.min j n = min j n from rfl, hfc]
    simp only [Result.andThen_ok]
    cases A with
    | none => simpa [goInt] using hw'
    | some p =>
      simp only at hw'
      simp only [Sem.run_bind, hw', Result.andThen_ok, Sem.run_pure, goInt]
  cases A with
  | none => exact Stp.val (fun c h => by cases h) (run_builtin hcal (run_val (hrun0 w rfl))) hK ⟨ψ, hR.put rfl hd⟩
  | some p =>
    have hst : ∃ w', (Go.storeCells p news 0).run P w = .ok () w' ∧ Rel ψ N D m0 w0 { S with m := S.m.setCells p 0 news } a w' := by
      rcases hnews with h | ⟨p', q, hp, _, _, hr, hone⟩
      · have : news = [] := List.eq_nil_of_length_eq_zero (by omega)
        subst this
        exact ⟨w, rfl, hR⟩
      · cases hp
        exact Rel.storeCells (P := P) ψ news S w p 0 _ hR hr (by omega) hone
    obtain ⟨w', h1, h2⟩ := hst
    exact Stp.val (fun c h => by cases h) (run_builtin hcal (run_val (hrun0 w' h1))) hK ⟨ψ, h2.put rfl hd⟩
theorem oneCells_append : ∀ (x y : List Value), oneCells (x ++ y) = (oneCells x && oneCells y)
  | [], _ => rfl
  | v :: r, y => by simp only [List.cons_append, oneCells, oneCells_append r y, Bool.and_assoc]
theorem oneCells_rep : ∀ (n : Nat) (l : List Value), oneCells l = true → oneCells ((List.range n).flatMap fun _ => l) = true
  | 0, l, _ => rfl
  | n + 1, l, h => by rw [List.range_succ, List.flatMap_append, oneCells_append, oneCells_rep n l h]; simp [h]
theorem oneCells_zeros {e : Nat} (h : oneCells (T.at e).zero.list = true) (n : Nat) : oneCells (zerosOf T e n).list = true := by
  unfold zerosOf
  split
  · exact oneCells_ints _
  · exact oneCells_bools _
  · exact oneCells_rep n _ h
theorem clear_sound (hT : T.ok P = true) (hR : Rel ψ N D m0 w0 S a w) (hd : ∀ i, dst = some i → i < N) {c : Call} (hcal : c.callee = .builtin .clear) {o : Operand} {t e : Nat} (hargs : c.args.toList = [o]) (hats : c.argTypes.toList = [t])
    (hsz : 0 < (T.at e).size) (ht : (T.at t).k = .slice e) {A : Option Addr} {n cc : Nat} (ho : a.eval o = .slice A n cc) (hone : oneCells (zerosOf T e n).list = true)
    (hK : (A = none ∨ n = 0 → K (S.put dst (.v (.tuple #[])))) ∧
        (∀ p, A = some p → 0 < n → S.m.room p (n * (T.at e).size) ∧ K ({ S with m := S.m.setCells p 0 (zerosOf T e n).list }.put dst (.v (.tuple #[]))))) :
    Stp P r N D m0 w0 Q ⟨dst, .call c, ty, pos, after, guard⟩ a w K := by
  have hna : c.args = #[o] := by apply Array.ext'; rw [hargs]
  have hnt : c.argTypes = #[t] := by apply Array.ext'; rw [hats]
  have hft := Tbl.fact hT (t := t) (by rw [ht]; simp)
  have hut := under_slice hft ht
  have hfe := tyfact_of_size hT (t := e) (by omega)
  have base : (A = none ∨ n = 0) → (Builtin.clear_ c.argTypes ty (c.args.map a.eval)).run P w = .ok (.tuple #[]) w := by
    intro h
    rw [hna, hnt]
    simp only [Builtin.clear_, List.map_toArray, List.map_cons, List.map_nil, ho]
    simp only [List.getElem?_toArray, List.getElem?_cons_zero, Sem.run_bind, run_underlying hut, Result.andThen_ok]
    rcases h with rfl | rfl
    · rfl
    · cases A <;> rfl
  cases A with
  | none => exact Stp.val (fun c h => by cases h) (run_builtin hcal (run_val (base (.inl rfl)))) (hK.1 (.inl rfl)) ⟨ψ, hR.put rfl hd⟩
  | some p =>
    cases n with
    | zero => exact Stp.val (fun c h => by cases h) (run_builtin hcal (run_val (base (.inr rfl)))) (hK.1 (.inr rfl)) ⟨ψ, hR.put rfl hd⟩
    | succ n =>
      obtain ⟨hr, hk⟩ := hK.2 p rfl (by omega)
      obtain ⟨z, hz, hzl⟩ := zerosRest (P := P) hfe (n + 1) w
      have hlen : (zerosOf T e (n + 1)).list.length = (n + 1) * (T.at e).size := by
        obtain ⟨z', h1, h2, h3⟩ := hfe.zero
        rw [← zeros_eq (T := T) e z' h2 (n + 1) hfe.len]
        simp
      obtain ⟨w', h1, h2⟩ := Rel.storeCells (P := P) ψ (zerosOf T e (n + 1)).list S w p 0 _ hR hr (by omega) hone
      refine Stp.val (fun c h => by cases h) (run_builtin hcal (run_val (w' := w') ?_)) hk ⟨ψ, h2.put rfl hd⟩
      rw [hna, hnt]
      simp only [Builtin.clear_, List.map_toArray, List.map_cons, List.map_nil, ho]
      simp only [List.getElem?_toArray, List.getElem?_cons_zero, Sem.run_bind, run_underlying hut, Result.andThen_ok, hz, hzl, h1, Sem.run_pure]
theorem call_sound {B : List Nat} (hT : T.ok P = true) (hB : bodiesOk P B = true) (hR : Rel ψ N D m0 w0 S a w) (hd : ∀ i, dst = some i → i < N) {c : Call} (hk : callK P T B dst ty c S K) :
    Stp P r N D m0 w0 Q ⟨dst, .call c, ty, pos, after, guard⟩ a w K := by
  rw [callK_eq] at hk
  unfold callKS at hk
  cases hcal : c.callee with
  | value f =>
    rw [hcal] at hk
    simp only at hk
    obtain ⟨x, hx, h1⟩ := hR.ev hk
    split at h1
    · rename_i g first cap
      have h4 := hR.evs h1
      simp only [AV.is] at hx
      cases h2 : B.contains g with
      | true =>
        rw [h2] at h4
        exact callFn_sound hR hd hcal hx (List.all_eq_true.1 hB _ (by simpa using h2)) h4
      | false =>
        rw [h2] at h4
        exact callExt_sound hR hd hcal hx h4
    · rename_i l
      have h4 := hR.evs h1
      simp only [AV.is] at hx
      exact callYield_sound hR hd hcal hx h4
    · exact h1.elim
  | invoke _ _ => rw [hcal] at hk; exact hk.elim
  | builtin b =>
    rw [hcal] at hk
    simp only at hk
    have one : ∀ {o : Operand} {t : Nat} {v : Value}, c.args.toList = [o] → c.argTypes.toList = [t] → (builtin b #[t] ty (c.args.map fun | .const _ => true | _ => false) #[a.eval o]).run P w = .ok (.value v) w → K (S.put dst (.v v)) →
        Stp P r N D m0 w0 Q ⟨dst, .call c, ty, pos, after, guard⟩ a w K := by
      intro o t v h1 h2 h3 h4
      refine Stp.val (fun c h => by cases h) (run_builtin hcal ?_) h4 ⟨ψ, hR.put rfl hd⟩
      have hna : c.args = #[o] := by apply Array.ext'; rw [h1]
      have hnt : c.argTypes = #[t] := by apply Array.ext'; rw [h2]
      rw [hnt, show c.args.map a.eval = #[a.eval o] from by rw [hna]; simp]
      exact h3
    split at hk
    · rename_i o t h1 h2
      obtain ⟨x, hx, h3⟩ := hR.ev hk
      split at h3
      · rename_i ht
        simp only [AV.is] at hx
        have hu := under_slice (Tbl.fact hT (t := t) (by rw [ht]; simp)) ht
        exact one h1 h2 (by simp [builtin, Builtin.len_, run_underlying hu, hx, goInt]) h3
      · rename_i ht
        simp only [AV.is] at hx
        have hu := under_str (Tbl.fact hT (t := t) (by rw [ht]; simp)) ht
        exact one h1 h2 (by simp [builtin, Builtin.len_, run_underlying hu, hx, goInt]) h3
      · rename_i ht
        have hu := under_arr (Tbl.fact hT (t := t) (by rw [ht]; simp)) ht
        exact one h1 h2 (by simp [builtin, Builtin.len_, run_underlying hu, goInt]) h3
      · exact h3.elim
    · rename_i o t h1 h2
      obtain ⟨x, hx, h3⟩ := hR.ev hk
      split at h3
      · rename_i ht
        simp only [AV.is] at hx
        have hu := under_slice (Tbl.fact hT (t := t) (by rw [ht]; simp)) ht
        exact one h1 h2 (by simp [builtin, Builtin.cap_, run_underlying hu, hx, goInt]) h3
      · rename_i ht
        have hu := under_arr (Tbl.fact hT (t := t) (by rw [ht]; simp)) ht
        exact one h1 h2 (by simp [builtin, Builtin.cap_, run_underlying hu, goInt]) h3
      · exact h3.elim
    · rename_i o o' h1
      obtain ⟨x, hx, h3⟩ := hR.ev hk
      obtain ⟨y, hy, h4⟩ := hR.ev h3
      split at h4
      · obtain ⟨h5, h6⟩ := req_spec h4
        have h5 := IntKind.eqb_spec h5
        simp only [AV.is] at hx hy
        have hna : c.args = #[o, o'] := by apply Array.ext'; rw [h1]
        refine Stp.val (fun c h => by cases h) (run_builtin hcal ?_) h6 ⟨ψ, hR.put rfl hd⟩
        rw [hna]
        simp [builtin, Builtin.max_, Builtin.max2, hx, hy]
      · exact h4.elim
    · rename_i o o' h1
      obtain ⟨x, hx, h3⟩ := hR.ev hk
      obtain ⟨y, hy, h4⟩ := hR.ev h3
      split at h4
      · obtain ⟨h5, h6⟩ := req_spec h4
        have h5 := IntKind.eqb_spec h5
        simp only [AV.is] at hx hy
        have hna : c.args = #[o, o'] := by apply Array.ext'; rw [h1]
        refine Stp.val (fun c h => by cases h) (run_builtin hcal ?_) h6 ⟨ψ, hR.put rfl hd⟩
        rw [hna]
        simp [builtin, Builtin.min_, Builtin.min2, hx, hy]
      · exact h4.elim
    · rename_i o o' t t' h1 h2
      obtain ⟨x, hx, h3⟩ := hR.ev hk
      obtain ⟨y, hy, h4⟩ := hR.ev h3
      split at h4
      · rename_i e e' A n cc B' j cj ht ht'
        simp only [AV.is] at hx hy
        obtain ⟨h5, news, h6, h7, h8, h9⟩ := req_spec h4
        exact append_sound hT hR hd hcal h1 h2 (by have := Nat.le_of_ble_eq_true h5; omega) ht ht' hx hy h6 h7 h8 h9
      · exact h4.elim
      · rename_i x y _ _
        simp only [AV.is] at hx hy
        exact builtin_sound hR hd hcal (vs := [x, y]) (by rw [h1]; simp [hx, hy]) h4
      · exact h4.elim
    · rename_i o o' t t' h1 h2
      obtain ⟨x, hx, h3⟩ := hR.ev hk
      obtain ⟨y, hy, h4⟩ := hR.ev h3
      split at h4
      · rename_i e e' A n cc B' j cj ht ht'
        simp only [AV.is] at hx hy
        obtain ⟨h5, news, h6, h7, h8⟩ := req_spec h4
        exact copy_sound hT hR hd hcal h1 h2 (by have := Nat.le_of_ble_eq_true h5; omega) ht hx hy h6 h7 h8
      · exact h4.elim
    · rename_i o t h1 h2
      obtain ⟨x, hx, h3⟩ := hR.ev hk
      split at h3
      · rename_i e A n cc ht
        simp only [AV.is] at hx
        obtain ⟨h5, h6⟩ := req_spec h3
        obtain ⟨h7, h8⟩ := req_spec h6
        exact clear_sound hT hR hd hcal h1 h2 (by have := Nat.le_of_ble_eq_true h5; omega) ht hx (oneCells_zeros h7 _) h8
      · exact h3.elim
      · rename_i x _ _
        simp only [AV.is] at hx
        exact builtin_sound hR hd hcal (vs := [x]) (by rw [h1]; simp [hx]) h3
      · exact h3.elim
    · obtain ⟨_, h3⟩ := req_spec hk
      exact builtin_sound hR hd hcal rfl (hR.evs h3)
end
end Go.Mv
/- Mv: every operation does what vcOp says. -/
namespace Go.Mv
open Go
section
variable {P : Program} {r : Option Nat} {T : Tbl} {B pr : List Nat} {ψ : Nat → Nat} {N : Nat} {D : HD} {m0 : Mem} {w0 : World} {Q : Exit → Act → World → Prop} {S S' : St} {a : Act} {w w' : World} {K : St → Prop} {v : Value}
  {dst : Option Tmp} {op : Op} {ty : TypeId} {pos : String} {after : Array Edge} {guard : Option (Nat × Bool)}

theorem box_add (b o n : Nat) : (⟨b, o, none⟩ : Addr).add n = ⟨b, o + n, none⟩ := by
  unfold Addr.add
  split
  · rename_i h; subst h; rfl
  · rfl
theorem blt_spec {a b : Nat} (h : Nat.blt a b = true) : a < b := by have := Nat.le_of_ble_eq_true h; omega
theorem contentK_sound {x : AV} {k : LC → Prop} {L : Nat} {v : Value} (h : contentK x k) (hx : x.is ψ L v) : ∃ c : LC, v.cells.toList = c.list ∧ k c := by
  unfold contentK at h
  split at h <;> simp only [AV.is] at hx
  · subst hx; exact ⟨_, rfl, h⟩
  · subst hx; exact ⟨_, rfl, h⟩
  · subst hx; exact ⟨_, rfl, h⟩
  · subst hx; exact ⟨_, rfl, h⟩
  · exact h.elim
theorem run_newVar (e : Nat) (v : Value) (w : World) : ((do pure (.pointer (some (← newVar e v)))) : Sem Value).run P w = .ok (.pointer (some ⟨w.heap.size, 0, none⟩)) (w.alloc (.cells v.cells e (0, 0))) := rfl
theorem wrap_i64 {n : Int} (h0 : 0 ≤ n) (h1 : n ≤ 9223372036854775807) : IntKind.i64.wrap n = n := by
  have h2 : n % (2 ^ 64 : Int) = n := Int.emod_eq_of_lt h0 (by omega)
  simp only [IntKind.wrap, IntKind.bits, IntKind.signed, h2]
  rw [if_neg]
  simp
  omega
theorem gs_get {gs : Array Field} {fs : List (Nat × Nat)} (h : gs.toList.map (fun f => (f.offset, f.type)) = fs) {i : Nat} {x : Nat × Nat} (hx : fs[i]? = some x) : ∃ f, gs[i]? = some f ∧ f.offset = x.1 ∧ f.type = x.2 := by
  rw [← h, List.getElem?_map, Option.map_eq_some_iff] at hx
  obtain ⟨f, hf, he⟩ := hx
  exact ⟨f, by simpa using hf, by rw [← he], by rw [← he]⟩

/-- Does it look at memory? -/
def isMem : Op → Bool
  | .load .. => true
  | .convert .. => true
  | _ => false
theorem sameV {v : Value} {x : AV} (hrun : ∀ w, (isMem op = false ∨ Rel ψ N D m0 w0 S a w) → (execOp a.eval ⟨dst, op, ty, pos, after, guard⟩).run P w = .ok (.value v) w) (hx : x.is ψ S.ls.length v) (hK : K (S.put dst x)) :
    ∃ v x, x.is ψ S.ls.length v ∧ K (S.put dst x) ∧ ∀ w, (isMem op = false ∨ Rel ψ N D m0 w0 S a w) → (execOp a.eval ⟨dst, op, ty, pos, after, guard⟩).run P w = .ok (.value v) w := ⟨v, x, hx, hK, hrun⟩
/-- Operations that only read: one value, in every world that holds what is told. -/
theorem isInt_under (hT : T.ok P = true) {e : Nat} {kd : IntKind} (h : (T.at e).k.isInt kd = true) : P.underlying e = some (.int kd) := by
  cases hb : (T.at e).k <;> rw [hb] at h <;> simp [TK.isInt] at h
  have := IntKind.eqb_spec h
  subst this
  exact under_int (Tbl.fact hT (t := e) (by rw [hb]; simp)) hb
theorem vcVal (hT : T.ok P = true) (hR0 : Rel ψ N D m0 w0 S a w) (hq : quietKind T op = true) (hk : vcOp P T B pr dst op ty S K) :
    ∃ v x, x.is ψ S.ls.length v ∧ K (S.put dst x) ∧ ∀ w, (isMem op = false ∨ Rel ψ N D m0 w0 S a w) → (execOp a.eval ⟨dst, op, ty, pos, after, guard⟩).run P w = .ok (.value v) w := by
  rw [vcOp_eq] at hk
  unfold vcOpS at hk
  split at hk
  -- move, assign
  · obtain ⟨x, hx, h1⟩ := hR0.ev hk
    exact sameV (fun _ _ => rfl) hx h1
  · obtain ⟨x, hx, h1⟩ := hR0.ev hk
    exact sameV (fun _ _ => rfl) hx h1
  -- pick
  · rename_i c x y
    obtain ⟨cv, hc, h1⟩ := hR0.ev hk
    split at h1
    · rename_i b
      simp only [AV.is] at hc
      obtain ⟨u, hu, h2⟩ := hR0.ev h1
      obtain ⟨v, hv, h3⟩ := hR0.ev h2
      have hrun : ∀ z, z = (if b then a.eval x else a.eval y) → ∀ w, (execOp a.eval ⟨dst, .pick c x y, ty, pos, after, guard⟩).run P w = .ok (.value z) w := by
        intro z hz w
        simp [execOp, hc, asBool, hz]
      unfold pickK at h3
      split at h3
      · rename_i p q
        simp only [AV.is] at hu hv
        exact sameV (x := .v (.bool (bif b then p else q))) (fun w hR => hrun (.bool (bif b then p else q)) (by cases b <;> simp [hu, hv]) w) rfl h3
      · cases b with
        | true => exact sameV (fun w hR => hrun (a.eval x) (by simp) w) hu h3
        | false => exact sameV (fun w hR => hrun (a.eval y) (by simp) w) hv h3
    · exact h1.elim
  · simp [quietKind] at hq
  · simp [quietKind] at hq
  -- build
  · rename_i t parts
    split at hk
    · rename_i fs hfs
      have hf := Tbl.fact hT (t := t) (by rw [hfs]; simp)
      obtain ⟨z, hz, hzl, _⟩ := hf.zero
      obtain ⟨gs, hu, hgs⟩ := under_struct hf hfs
      have hmap : (parts.map fun (x : Nat × Operand) => (x.1, a.eval x.2)).toList = parts.toList.map fun x => (x.1, a.eval x.2) := by simp
      obtain ⟨hall, hk'⟩ := req_spec hk
      have hpl : ∃ places : Array (Nat × Nat), (∀ w, (gs.mapM fun f => (do pure (f.offset, ← sizeOf f.type) : Sem (Nat × Nat))).run P w = .ok places w) ∧ ∀ i : Nat, ((fs[i]?).map fun (f : Nat × Nat) => (f.1, (T.at f.2).size)) = places[i]? := by
        have key : ∀ (l : List Field), (l.all fun f => Nat.blt 0 (T.at f.type).size) = true → (∀ w, (l.mapM fun f => (do pure (f.offset, ← sizeOf f.type) : Sem (Nat × Nat))).run P w = .ok (l.map fun f => (f.offset, (T.at f.type).size)) w) := by
          intro l hl
          induction l with
          | nil => intro w; rfl
          | cons f l ih =>
            simp only [List.all_cons, Bool.and_eq_true] at hl
            have h1 := (tyfact_of_size hT (t := f.type) (by have := blt_spec hl.1; omega)).size
            have h2 := ih hl.2
            simp only [bind_pure_comp] at h2
            intro w
            simp [List.mapM_cons, h1, h2]
        refine ⟨(gs.toList.map fun f => (f.offset, (T.at f.type).size)).toArray, fun w => ?_, fun i => ?_⟩
        · rw [Array.mapM_eq_mapM_toList, Sem.run_map, key gs.toList (by rw [← hgs] at hall; simpa [List.all_map, Function.comp_def] using hall)]
          rfl
        · rw [← hgs]
          simp [Function.comp_def]
      obtain ⟨places, hp1, hp2⟩ := hpl
      have hzl' : z.cells = (T.at t).zero.list.toArray := by apply Array.ext'; rw [hzl]
      obtain ⟨cs, hcs, hK⟩ := fillK_sound hR0 (place' := fun i => places[i]?) hp2 parts.toList _ _ hk'
      have hcs' : cs = cs.toList.toArray := by simp
      refine sameV (x := .v (.agg cs.toList.toArray)) (fun w hR => run_val (v := .agg cs) ?_) (by rw [← hcs']; rfl) hK
      simp only [Instr.build, Sem.run_bind, hz, Result.andThen_ok, run_underlying hu, hp1, hzl', hmap, hcs, Sem.run_pure]
    · rename_i n e he
      split at hk
      · rename_i kd kd' xs hkd hzi
        obtain ⟨h0, h1⟩ := req_spec hk
        obtain ⟨h2, h3⟩ := req_spec h1
        have h0 := IntKind.eqb_spec h0
        subst h0
        have hf := Tbl.fact hT (t := t) (by rw [he]; simp)
        have hu := under_arr hf he
        have hse := fun w => (Tbl.fact hT (t := e) (by rw [hkd]; simp)).size w
        rw [Nat.eq_of_beq_eq_true h2] at hse
        obtain ⟨z, hz, hzl, _⟩ := hf.zero
        have hmap : (parts.map fun (x : Nat × Operand) => (x.1, a.eval x.2)).toList = parts.toList.map fun x => (x.1, a.eval x.2) := by simp
        obtain ⟨ys, h4, hK⟩ := fillIntsK_sound hR0 (place := fun i => some (i * 1, 1)) (fun _ => rfl) parts.toList _ _ h3
        have hzl' : z.cells = (intCells kd xs).toArray := by apply Array.ext'; rw [hzl, hzi]; rfl
        refine sameV (x := .ints kd ys) (fun w hR => run_val (v := .agg (intCells kd ys).toArray) ?_) rfl hK
        simp only [Instr.build, Sem.run_bind, hz, Result.andThen_ok, run_underlying hu, hse, hzl', hmap, h4, Sem.run_pure]
      · obtain ⟨h0, h1⟩ := req_spec hk
        have hf := Tbl.fact hT (t := t) (by rw [he]; simp)
        have hu := under_arr hf he
        have hse := fun w => (tyfact_of_size hT (t := e) (by have := blt_spec h0; omega)).size w
        obtain ⟨z, hz, hzl, _⟩ := hf.zero
        have hmap : (parts.map fun (x : Nat × Operand) => (x.1, a.eval x.2)).toList = parts.toList.map fun x => (x.1, a.eval x.2) := by simp
        have hzl' : z.cells = (T.at t).zero.list.toArray := by apply Array.ext'; rw [hzl]
        obtain ⟨cs, hcs, hK⟩ := fillK_sound hR0 (place' := fun i => some (i * (T.at e).size, (T.at e).size)) (fun i => rfl) parts.toList _ _ h1
        have hcs' : cs = cs.toList.toArray := by simp
        refine sameV (x := .v (.agg cs.toList.toArray)) (fun w hR => run_val (v := .agg cs) ?_) (by rw [← hcs']; rfl) hK
        simp only [Instr.build, Sem.run_bind, hz, Result.andThen_ok, run_underlying hu, hse, hzl', hmap, hcs, Sem.run_pure]
    · exact hk.elim
  · simp [quietKind] at hq
  -- load
  · rename_i t p
    obtain ⟨x, hx, h1⟩ := hR0.ev hk
    split at h1
    · rename_i i off
      split at h1
      · rename_i c hc
        obtain ⟨v, y, hv, hy, hK⟩ := ldLoc_sound (N := N) (D := D) (m0 := m0) (w0 := w0) (a := a) (ψ := ψ) hT hc h1
        exact sameV (fun w hR => run_val (by simp only [Instr.loadAt, hx.2, Instr.sureAddr, pure_bind]; exact hv w (hR.resolve_left (by simp [isMem])))) hy hK
      · exact h1.elim
    · rename_i p'
      obtain ⟨v, y, hv, hy, hK⟩ := ldT_sound hT h1 ψ S.ls.length
      simp only [AV.is] at hx
      exact sameV (fun w hR => run_val (by simp only [Instr.loadAt, hx, Instr.sureAddr, pure_bind]; exact hv w (hR.resolve_left (by simp [isMem])).sub)) hy hK
    · exact h1.elim
  · simp [quietKind] at hq
  -- nilCheck
  · rename_i x
    obtain ⟨u, hu, h1⟩ := hR0.ev hk
    split at h1
    · rename_i q
      cases q with
      | none => exact h1.elim
      | some p =>
      have hK := h1
      simp only [AV.is] at hu
      exact sameV (x := .v (.pointer (some p))) (fun w hR => by simp [execOp, hu]) rfl hK
    · rename_i i off
      exact sameV (v := a.eval x) (fun w hR => by simp [execOp, hu.2]) hu h1
    · exact h1.elim
  -- binOp
  · rename_i op t x y _
    obtain ⟨u, hu, h1⟩ := hR0.ev hk
    obtain ⟨v, hv, h2⟩ := hR0.ev h1
    obtain ⟨q, h3, hK⟩ := binN_sound (a := a) hT h2 hu hv rfl
    exact sameV (x := .v q) (fun w hR => run_val (h3 w)) rfl hK
  -- unOp
  · rename_i op t x
    obtain ⟨u, hu, h1⟩ := hR0.ev hk
    unfold unK at h1
    split at h1
    · simp only [AV.is] at hu
      exact sameV (x := .v _) (fun w hR => run_val (by simp only [hu]; rfl)) rfl h1
    · simp only [AV.is] at hu
      exact sameV (x := .v _) (fun w hR => run_val (by simp only [hu]; rfl)) rfl h1
    · simp only [AV.is] at hu
      exact sameV (x := .v _) (fun w hR => run_val (by simp only [hu]; rfl)) rfl h1
    · exact h1.elim
  -- convert
  · rename_i s d x
    obtain ⟨u, hu, h1⟩ := hR0.ev hk
    split at h1
    · rename_i ks kd kd' n hks hkd
      simp only [AV.is] at hu
      have hud := under_int (Tbl.fact hT (t := d) (by rw [hkd]; simp)) hkd
      have hus := under_int (Tbl.fact hT (t := s) (by rw [hks]; simp)) hks
      exact sameV (x := .v _) (fun w hR => run_val (by simp only [hu, Go.convert, Sem.run_bind, run_underlying hus, run_underlying hud, Result.andThen_ok]; rfl)) rfl h1
    · rename_i e t hks hkd
      simp [quietKind, hks, hkd] at hq
    · rename_i e A n c hks hkd
      obtain ⟨h2, l, h3, h4, h5⟩ := req_spec h1
      simp only [AV.is] at hu
      have hud := under_str (Tbl.fact hT (t := d) (by rw [hkd]; simp)) hkd
      have hus := under_slice (Tbl.fact hT (t := s) (by rw [hks]; simp)) hks
      have hue := isInt_under hT h2
      refine sameV (x := .v _) (fun w hR => run_val (v := .string ⟨l.toArray⟩) (w' := w) ?_) rfl h5
      rw [hu]
      rcases h4 with ⟨rfl, rfl⟩ | ⟨p, rfl, hp⟩
      · simp only [convert, Sem.run_bind, run_underlying hus, run_underlying hud, Result.andThen_ok, run_underlying hue, Conv.bytesToString, Sem.run_pure]
        rfl
      · subst h3
        refine run_convert_bytes_back w s d e p c l hus hue hud fun j hj => ?_
        exact Mem.sub_cell (hR.resolve_left (by simp [isMem])).sub (hp j _ (by simp [byteVals, hj]))
    · exact h1.elim
    · exact h1.elim
    · exact h1.elim
    · exfalso
      cases hks : (T.at s).k <;> cases hkd : (T.at d).k <;> simp_all [quietKind]
    · exact h1.elim
  -- makeFunc
  · rename_i fn first cap
    have h1 := hR0.evs hk
    have h2 := hR0.evs h1
    refine sameV (x := .v (.func fn (first.toList.map a.eval).toArray (cap.toList.map a.eval).toArray)) (fun w hR => ?_) rfl h2
    simp only [execOp, Instr.makeFunc, pure_bind, Sem.run_pure]
    congr 3
    · apply Array.ext'; simp
    · apply Array.ext'; simp
  · simp [quietKind] at hq
  -- slice
  · rename_i t x lo hi
    obtain ⟨u, hu, h1⟩ := hR0.ev hk
    split at h1
    · rename_i e A n cp he
      obtain ⟨h0, h2⟩ := req_spec h1
      obtain ⟨h, h3, hhi⟩ := optK_sound hR0 h2
      obtain ⟨l, ⟨h4, h5, h6, hK⟩, hlo⟩ := optK_sound hR0 h3
      simp only [AV.is] at hu
      have hut := under_slice (Tbl.fact hT (t := t) (by rw [he]; simp)) he
      have hse := fun w => (tyfact_of_size hT (t := e) (by have := blt_spec h0; omega)).size w
      refine sameV (x := .v _) (fun w hR => run_val ?_) rfl hK
      have hh : ∀ w : World, (match hi.map a.eval with | some v => Instr.sliceBound v cp .sliceAcap | none => pure n).run P w = .ok h.toNat w := by
        intro w
        rcases hhi with ⟨rfl, rfl⟩ | ⟨x, kd, rfl, hx⟩
        · simp
        · simp only [Option.map_some, hx, Instr.sliceBound, asIntOf, pure_bind]
          rw [if_pos ⟨by omega, by omega⟩]
          rfl
      have hl : ∀ w : World, (match lo.map a.eval with | some v => Instr.sliceBound v h.toNat .sliceB | none => pure 0).run P w = .ok l.toNat w := by
        intro w
        rcases hlo with ⟨rfl, rfl⟩ | ⟨x, kd, rfl, hx⟩
        · simp
        · simp only [Option.map_some, hx, Instr.sliceBound, asIntOf, pure_bind]
          rw [if_pos ⟨by omega, by omega⟩]
          rfl
      have hb : (Instr.sliceBounds true n cp (lo.map a.eval) (hi.map a.eval) none).run P w = .ok (l.toNat, h.toNat, cp) w := by
        have h1 := hh w
        have h2 := hl w
        unfold Instr.sliceBounds
        cases hhx : hi.map a.eval <;> cases hlx : lo.map a.eval <;> rw [hhx] at h1 <;> rw [hlx] at h2 <;> simp_all
      simp only [Option.map_none, Instr.sliceAt, Sem.run_bind, run_underlying hut, Result.andThen_ok, hu, Instr.slice, hb, hse, Sem.run_pure]
    · rename_i s hs
      obtain ⟨h, h3, hhi⟩ := optK_sound hR0 h1
      obtain ⟨l, ⟨h4, h5, h6, hK⟩, hlo⟩ := optK_sound hR0 h3
      simp only [AV.is] at hu
      have hut := under_str (Tbl.fact hT (t := t) (by rw [hs]; simp)) hs
      refine sameV (x := .v _) (fun w hR => run_val ?_) rfl hK
      have hh : ∀ w : World, (match hi.map a.eval with | some v => Instr.sliceBound v s.size .sliceAlen | none => pure s.size).run P w = .ok h.toNat w := by
        intro w
        rcases hhi with ⟨rfl, rfl⟩ | ⟨x, kd, rfl, hx⟩
        · simp
        · simp only [Option.map_some, hx, Instr.sliceBound, asIntOf, pure_bind]
          rw [if_pos ⟨by omega, by omega⟩]
          rfl
      have hl : ∀ w : World, (match lo.map a.eval with | some v => Instr.sliceBound v h.toNat .sliceB | none => pure 0).run P w = .ok l.toNat w := by
        intro w
        rcases hlo with ⟨rfl, rfl⟩ | ⟨x, kd, rfl, hx⟩
        · simp
        · simp only [Option.map_some, hx, Instr.sliceBound, asIntOf, pure_bind]
          rw [if_pos ⟨by omega, by omega⟩]
          rfl
      have hb : (Instr.sliceBounds false s.size s.size (lo.map a.eval) (hi.map a.eval) none).run P w = .ok (l.toNat, h.toNat, s.size) w := by
        have h1 := hh w
        have h2 := hl w
        unfold Instr.sliceBounds
        cases hhx : hi.map a.eval <;> cases hlx : lo.map a.eval <;> rw [hhx] at h1 <;> rw [hlx] at h2 <;> simp_all
      simp only [Option.map_none, Instr.sliceAt, Sem.run_bind, run_underlying hut, Result.andThen_ok, hu, Instr.slice, Option.isSome_none, Bool.false_eq_true, if_false, hb, Sem.run_pure]
    · rename_i n e p he
      obtain ⟨h0, h2⟩ := req_spec h1
      obtain ⟨h, h3, hhi⟩ := optK_sound hR0 h2
      obtain ⟨l, ⟨h4, h5, h6, hK⟩, hlo⟩ := optK_sound hR0 h3
      simp only [AV.is] at hu
      have hut := under_arr (Tbl.fact hT (t := t) (by rw [he]; simp)) he
      have hse := fun w => (tyfact_of_size hT (t := e) (by have := blt_spec h0; omega)).size w
      refine sameV (x := .v _) (fun w hR => run_val ?_) rfl hK
      have hh : ∀ w : World, (match hi.map a.eval with | some v => Instr.sliceBound v n .sliceAlen | none => pure n).run P w = .ok h.toNat w := by
        intro w
        rcases hhi with ⟨rfl, rfl⟩ | ⟨x, kd, rfl, hx⟩
        · simp
        · simp only [Option.map_some, hx, Instr.sliceBound, asIntOf, pure_bind]
          rw [if_pos ⟨by omega, by omega⟩]
          rfl
      have hl : ∀ w : World, (match lo.map a.eval with | some v => Instr.sliceBound v h.toNat .sliceB | none => pure 0).run P w = .ok l.toNat w := by
        intro w
        rcases hlo with ⟨rfl, rfl⟩ | ⟨x, kd, rfl, hx⟩
        · simp
        · simp only [Option.map_some, hx, Instr.sliceBound, asIntOf, pure_bind]
          rw [if_pos ⟨by omega, by omega⟩]
          rfl
      have hb : (Instr.sliceBounds false n n (lo.map a.eval) (hi.map a.eval) none).run P w = .ok (l.toNat, h.toNat, n) w := by
        have h1 := hh w
        have h2 := hl w
        unfold Instr.sliceBounds
        cases hhx : hi.map a.eval <;> cases hlx : lo.map a.eval <;> rw [hhx] at h1 <;> rw [hlx] at h2 <;> simp_all
      simp only [Option.map_none, Instr.sliceAt, Sem.run_bind, run_underlying hut, Result.andThen_ok, hu, Instr.sureAddr, hb, hse, Sem.run_pure]
    · exact h1.elim
  -- fieldAddr
  · rename_i t x f
    obtain ⟨u, hu, h1⟩ := hR0.ev hk
    split at h1
    · rename_i fs hfs
      split at h1
      · rename_i off ft hf
        obtain ⟨h0, h2⟩ := req_spec h1
        obtain ⟨gs, hug, hgs⟩ := under_struct (Tbl.fact hT (t := t) (by rw [hfs]; simp)) hfs
        obtain ⟨g, hg, hgo, hgt⟩ := gs_get hgs hf
        have hse := fun w => (tyfact_of_size hT (t := ft) (by have := blt_spec h0; omega)).size w
        have hrun : ∀ {p : Addr}, a.eval x = .pointer (some p) → ∀ w, (Instr.fieldAt t (a.eval x) f).run P w = .ok (.pointer (some (p.add off))) w := by
          intro p hp w
          simp only [Instr.fieldAt, Sem.run_bind, run_underlying hug, Result.andThen_ok, hg, hp, Instr.sureAddr, Sem.run_pure, fieldPlace, hgt, hse]
          rw [if_neg (by have := blt_spec h0; omega)]
          simp [hgo]
        split at h2
        · rename_i i o
          refine sameV (x := .loc i (o + off)) (fun w hR => run_val (hrun hu.2 w)) ⟨hu.1, ?_⟩ h2
          rw [box_add]
        · simp only [AV.is] at hu
          exact sameV (x := .v _) (fun w hR => run_val (hrun hu w)) rfl h2
        · exact h2.elim
      · exact h1.elim
    · exact h1.elim
  -- field
  · rename_i t x f
    obtain ⟨u, hu, h1⟩ := hR0.ev hk
    split at h1
    · rename_i fs cs hfs
      simp only [AV.is] at hu
      split at h1
      · rename_i off ft hf
        obtain ⟨gs, hug, hgs⟩ := under_struct (Tbl.fact hT (t := t) (by rw [hfs]; simp)) hfs
        obtain ⟨g, hg, hgo, hgt⟩ := gs_get hgs hf
        split at h1
        · rename_i hk2
          have hfa := Tbl.fact hT (t := ft) (by rw [hk2]; simp)
          have h3 := fun w => hfa.isAgg w
          rw [hk2] at h3
          refine sameV (x := .v _) (fun w hR => run_val ?_) rfl h1
          simp [Instr.field, run_underlying hug, hg, hu, asAgg, part, hgt, h3, TK.agg, hfa.size, hgo]
        · exact h1.elim
        · exact h1.elim
        · rename_i hn1 hn2 hn3
          split at h1
          · rename_i c hc
            have hfa := Tbl.fact hT (t := ft) (fun h => by simp_all)
            have h3 := fun w => hfa.isAgg w
            have h4 : (T.at ft).k.agg = false := by cases hk2 : (T.at ft).k <;> first | rfl | (exfalso; simp_all)
            rw [h4] at h3
            have hc' : cs[off]? = some c := by simpa using hc
            refine sameV (x := .v _) (fun w hR => run_val ?_) rfl h1
            simp [Instr.field, run_underlying hug, hg, hu, asAgg, part, hgt, h3, hgo, hc']
          · exact h1.elim
      · exact h1.elim
    · exact h1.elim
  -- indexAddr
  · rename_i t x i
    obtain ⟨u, hu, h1⟩ := hR0.ev hk
    obtain ⟨v, hv, h2⟩ := hR0.ev h1
    split at h2
    · rename_i kd j
      simp only [AV.is] at hv
      split at h2
      · rename_i n e b o he
        obtain ⟨h0, h3, h4, hK⟩ := req_spec h2
        have hut := under_arr (Tbl.fact hT (t := t) (by rw [he]; simp)) he
        have hse := fun w => (tyfact_of_size hT (t := e) (by have := blt_spec h0; omega)).size w
        refine sameV (x := .loc b (o + j.toNat * (T.at e).size)) (fun w hR => run_val (v := .pointer (some ⟨ψ b, o + j.toNat * (T.at e).size, none⟩)) ?_) ⟨hu.1, rfl⟩ hK
        have hc : 0 ≤ j ∧ j < (n : Int) := ⟨h3, h4⟩
        simp only [Instr.indexAt, Sem.run_bind, run_underlying hut, Result.andThen_ok, hu.2, hv, asIntOf, Sem.run_pure, Instr.sureAddr]
        simp only [hc, and_self, if_true, Sem.run_bind, hse, Result.andThen_ok, Sem.run_pure, box_add]
      · rename_i n e p he
        obtain ⟨h0, h3, h4, hK⟩ := req_spec h2
        have hut := under_arr (Tbl.fact hT (t := t) (by rw [he]; simp)) he
        have hse := fun w => (tyfact_of_size hT (t := e) (by have := blt_spec h0; omega)).size w
        simp only [AV.is] at hu
        refine sameV (x := .v _) (fun w hR => run_val ?_) rfl hK
        have hc : 0 ≤ j ∧ j < (n : Int) := ⟨h3, h4⟩
        simp only [Instr.indexAt, Sem.run_bind, run_underlying hut, Result.andThen_ok, hu, hv, asIntOf, Sem.run_pure, Instr.sureAddr]
        simp only [hc, and_self, if_true, Sem.run_bind, hse, Result.andThen_ok, Sem.run_pure]
      · rename_i e A n cp he
        obtain ⟨h0, p, rfl, h3, h4, hK⟩ := req_spec h2
        have hut := under_slice (Tbl.fact hT (t := t) (by rw [he]; simp)) he
        have hse := fun w => (tyfact_of_size hT (t := e) (by have := blt_spec h0; omega)).size w
        simp only [AV.is] at hu
        refine sameV (x := .v _) (fun w hR => run_val ?_) rfl hK
        have hc : 0 ≤ j ∧ j < (n : Int) := ⟨h3, h4⟩
        simp only [Instr.indexAt, Sem.run_bind, run_underlying hut, Result.andThen_ok, hu, hv, asIntOf, Sem.run_pure, Instr.sureAddr]
        simp only [hc, and_self, if_true, Sem.run_bind, hse, Result.andThen_ok, Sem.run_pure]
      · exact h2.elim
    · exact h2.elim
  -- index
  · rename_i t x i
    obtain ⟨u, hu, h1⟩ := hR0.ev hk
    obtain ⟨v, hv, h2⟩ := hR0.ev h1
    split at h2
    · rename_i kd j
      simp only [AV.is] at hv
      split at h2
      · rename_i n e kd' xs he
        obtain ⟨h0, h3⟩ := req_spec h2
        obtain ⟨h4, h5, h6, h7, hK⟩ := req_spec h3
        have hut := under_arr (Tbl.fact hT (t := t) (by rw [he]; simp)) he
        have hek : (T.at e).k = .int kd' := by
          cases hb : (T.at e).k <;> rw [hb] at h4 <;> simp [TK.isInt] at h4
          rw [IntKind.eqb_spec h4]
        have hfe := Tbl.fact hT (t := e) (by rw [hek]; simp)
        have hse := fun w => hfe.size w
        have hag := fun w => hfe.isAgg w
        rw [Nat.eq_of_beq_eq_true h0] at hse
        rw [hek] at hag
        simp only [AV.is] at hu
        refine sameV (x := .v (.int kd' (xs.getD j.toNat 0))) (fun w hR => run_val (v := .int kd' (xs.getD j.toNat 0)) ?_) rfl hK
        have hc : 0 ≤ j ∧ j < (n : Int) := ⟨h5, h6⟩
        simp only [Instr.index, Sem.run_bind, run_underlying hut, Result.andThen_ok, hu, hv, asIntOf, Sem.run_pure]
        simp only [hc, and_self, if_true, Sem.run_bind, hse, Result.andThen_ok, Nat.mul_one, part, hag, TK.agg]
        simp [intCells, h7]
      · rename_i n e xs he
        obtain ⟨h0, h3⟩ := req_spec h2
        obtain ⟨h4, h5, h6, h7, hK⟩ := req_spec h3
        have hut := under_arr (Tbl.fact hT (t := t) (by rw [he]; simp)) he
        have hek : (T.at e).k = .bool := by
          cases hb : (T.at e).k <;> rw [hb] at h4 <;> simp [TK.isBool] at h4
        have hfe := Tbl.fact hT (t := e) (by rw [hek]; simp)
        have hse := fun w => hfe.size w
        have hag := fun w => hfe.isAgg w
        rw [Nat.eq_of_beq_eq_true h0] at hse
        rw [hek] at hag
        simp only [AV.is] at hu
        refine sameV (x := .v (.bool (xs.getD j.toNat false))) (fun w hR => run_val (v := .bool (xs.getD j.toNat false)) ?_) rfl hK
        have hc : 0 ≤ j ∧ j < (n : Int) := ⟨h5, h6⟩
        simp only [Instr.index, Sem.run_bind, run_underlying hut, Result.andThen_ok, hu, hv, asIntOf, Sem.run_pure]
        simp only [hc, and_self, if_true, Sem.run_bind, hse, Result.andThen_ok, Nat.mul_one, part, hag, TK.agg]
        simp [boolCells, h7]
      · rename_i n e cs he
        obtain ⟨h0, h5, h6, h7⟩ := req_spec h2
        have hut := under_arr (Tbl.fact hT (t := t) (by rw [he]; simp)) he
        have hse := fun w => (tyfact_of_size hT (t := e) (by have := blt_spec h0; omega)).size w
        simp only [AV.is] at hu
        have hc : 0 ≤ j ∧ j < (n : Int) := ⟨h5, h6⟩
        have hagf : (T.at e).k ≠ .other → ∀ w, (Go.isAgg e).run P w = .ok (T.at e).k.agg w := fun hne w => (Tbl.fact hT (t := e) hne).isAgg w
        suffices hh : ∃ v0, (∀ w, (part e cs (j.toNat * (T.at e).size)).run P w = .ok v0 w) ∧ K (S.put dst (.v v0)) by
          obtain ⟨v0, hp, hK⟩ := hh
          refine sameV (x := .v v0) (fun w hR => run_val (v := v0) ?_) rfl hK
          simp only [Instr.index, Sem.run_bind, run_underlying hut, Result.andThen_ok, hu, hv, asIntOf, Sem.run_pure]
          simp only [hc, and_self, if_true, Sem.run_bind, hse, Result.andThen_ok, hp]
        have one : (T.at e).k ≠ .other → (T.at e).k.agg = false → (∃ c, cs.toList[j.toNat * (T.at e).size]? = some c ∧ K (S.put dst (.v c))) → ∃ v0, (∀ w, (part e cs (j.toNat * (T.at e).size)).run P w = .ok v0 w) ∧ K (S.put dst (.v v0)) := fun hne hb hK => by
          obtain ⟨c, hc2, hK⟩ := hK
          have hc3 : cs[j.toNat * (T.at e).size]? = some c := by simpa using hc2
          exact ⟨c, fun w => by simp [part, hagf hne, hb, hc3], hK⟩
        have many : (T.at e).k ≠ .other → (T.at e).k.agg = true → K (S.put dst (.v (.agg (cs.extract (j.toNat * (T.at e).size) (j.toNat * (T.at e).size + (T.at e).size))))) → ∃ v0, (∀ w, (part e cs (j.toNat * (T.at e).size)).run P w = .ok v0 w) ∧ K (S.put dst (.v v0)) := fun hne hb hK => 
          ⟨_, fun w => by simp [part, hagf hne, hb, hse], hK⟩
        split at h7
        · rename_i hek; exact many (by rw [hek]; simp) (by rw [hek]; rfl) h7
        · rename_i hek; exact many (by rw [hek]; simp) (by rw [hek]; rfl) h7
        · exact h7.elim
        · rename_i h8 h9 h10
          exact one (fun h => h10 h) (by cases hek : (T.at e).k <;> first | rfl | exact (h8 _ hek).elim | exact (h9 _ _ hek).elim) h7
      · rename_i s hs
        obtain ⟨h3, h4, hK⟩ := h2
        have hut := under_str (Tbl.fact hT (t := t) (by rw [hs]; simp)) hs
        simp only [AV.is] at hu
        refine sameV (x := .v (.int .u8 (bt s j))) (fun w hR => run_val (v := .int .u8 (bt s j)) ?_) rfl hK
        simp only [Instr.index, Sem.run_bind, run_underlying hut, Result.andThen_ok, hu, hv, asIntOf, Sem.run_pure]
        have hlt : j.toNat < s.size := by omega
        have hget : (if 0 ≤ j then s[j.toNat]? else none) = some s[j.toNat] := by
          rw [if_pos h3]
          exact getElem?_pos s j.toNat hlt
        rw [hget]
        simp only [Sem.run_pure, bt]
        have : s.data.toList.getD j.toNat 0 = s[j.toNat] := by
          have h9 : j.toNat < s.data.size := hlt
          simp only [List.getD_eq_getElem?_getD, Array.getElem?_toList, h9, getElem?_pos, Option.getD_some]
          rfl
        rw [this]
      · exact h2.elim
    · exact h2.elim
  -- extract
  · rename_i x i
    obtain ⟨u, hu, h1⟩ := hR0.ev hk
    split at h1
    · rename_i vs
      simp only [AV.is] at hu
      split at h1
      · rename_i v hv
        obtain ⟨y, hy, hK⟩ := norm_sound h1 ψ S.ls.length
        have hv' : vs[i]? = some v := by simpa using hv
        exact sameV (fun w hR => run_val (by simp [Instr.extract, hu, hv'])) hy hK
      · exact h1.elim
    · exact h1.elim
  · simp [quietKind] at hq
  · simp [quietKind] at hq
  · exfalso
    obtain ⟨h1, _⟩ := req_spec hk
    cases op <;> simp_all [genB, quietKind]
theorem run_sound (hR : Rel ψ N D m0 w0 S a w) (hd : ∀ i, dst = some i → i < N) (hnd : ∀ c, op ≠ .defer c) {s : Sem Value} (he : (execOp a.eval ⟨dst, op, ty, pos, after, guard⟩).run P w = ((do pure (.value (← s))) : Sem Next).run P w)
    (hk : RunP P s S.m fun v m' => K ({ S with m := m' }.put dst (.v v))) : Stp P r N D m0 w0 Q ⟨dst, op, ty, pos, after, guard⟩ a w K := by
  obtain ⟨v, w', m', h1, h2, hF⟩ := hk w hR.sub
  exact Stp.val hnd (he.trans (run_val h1)) h2 ⟨ψ, (frame_rel hR hF).put rfl hd⟩
theorem gen_run {ρ : Operand → Value} (h : genB op = true) : execOp ρ ⟨dst, op, ty, pos, after, guard⟩ = ((do pure (.value (← opRun ty op ((opArgs op).map ρ)))) : Sem Next) := by
  cases op <;> first | rfl | (simp [genB] at h; done) | skip
  rename_i t x
  cases x with
  | none => rfl
  | some x => simp [genB] at h
/-- A slice with its parts: what it does, in any world. -/
theorem buildSlice_run (hT : T.ok P = true) {t e len : Nat} {parts : Array (Nat × Operand)} (he : (T.at t).k = .slice e) (h0 : 0 < (T.at e).size) (h2 : len * (T.at e).size ≤ 16777216) {cs : Array Value}
    (hcs : Instr.fill (fun i => some (i * (T.at e).size, (T.at e).size)) (zerosOf T e len).list.toArray (parts.toList.map fun x => (x.1, a.eval x.2)) = some cs) (w : World) :
    (execOp a.eval ⟨dst, .buildSlice t len parts, ty, pos, after, guard⟩).run P w = .ok (.value (.slice (some ⟨w.heap.size, 0, none⟩) len len)) (w.alloc (.cells cs.toList.toArray e (0, 0))) := by
  have hu := under_slice (Tbl.fact hT (t := t) (by rw [he]; simp)) he
  have hfe := tyfact_of_size hT (t := e) (by omega)
  obtain ⟨z, hz, hzl, _⟩ := hfe.zero
  have hzer : ((Array.range (len * (T.at e).size)).map ((if len * (T.at e).size = 0 then #[] else z.cells)[· % (if len * (T.at e).size = 0 then #[] else z.cells).size]!)).toList = (zerosOf T e len).list := by
    rw [← zeros_eq (T := T) e z hzl len hfe.len]
    by_cases h : len * (T.at e).size = 0
    · simp [h]
    · simp [h]
  have hmap : (parts.map fun (x : Nat × Operand) => (x.1, a.eval x.2)).toList = parts.toList.map fun x => (x.1, a.eval x.2) := by simp
  refine run_val (v := .slice (some ⟨w.heap.size, 0, none⟩) len len) (w' := w.alloc (.cells cs.toList.toArray e (0, 0))) ?_
  simp only [Instr.buildSlice, Sem.run_bind, run_underlying hu, Result.andThen_ok, hfe.size w]
  rw [if_neg (by omega)]
  have fin : ∀ zc : Array Value, ((Array.range (len * (T.at e).size)).map (zc[· % zc.size]!)).toList = (zerosOf T e len).list →
      (match Instr.fill (fun i => some (i * (T.at e).size, (T.at e).size)) ((Array.range (len * (T.at e).size)).map fun x => zc[x % zc.size]!) ((parts.map fun (x : Nat × Operand) => (x.1, a.eval x.2)).toList) with
        | some cells => do
          let __do_lift ← newRow e cells
          pure (Value.slice (some __do_lift) len len)
        | x => stuck "buildSlice: a part of the wrong size").run P w = .ok (.slice (some ⟨w.heap.size, 0, none⟩) len len) (w.alloc (.cells cs.toList.toArray e (0, 0))) := by
    intro zc hzc
    have : ((Array.range (len * (T.at e).size)).map fun x => zc[x % zc.size]!) = (zerosOf T e len).list.toArray := by
      apply Array.ext'
      rw [hzc]
    rw [this, hmap, hcs]
    rfl
  by_cases h : len * (T.at e).size = 0
  · rw [if_pos h]
    simp only [Sem.run_bind, Sem.run_pure, Result.andThen_ok]
    refine fin #[] ?_
    simpa [h] using hzer
  · rw [if_neg h]
    simp only [Sem.run_bind, Sem.run_pure, Result.andThen_ok, hz]
    refine fin z.cells ?_
    simpa [h] using hzer
theorem vcOp_sound (hT : T.ok P = true) (hB : bodiesOk P B = true) (hR : Rel ψ N D m0 w0 S a w) (hd : ∀ i, dst = some i → i < N) (hk : vcOp P T B pr dst op ty S K) : Stp P r N D m0 w0 Q ⟨dst, op, ty, pos, after, guard⟩ a w K := by
  by_cases hq : quietKind T op = true
  · obtain ⟨v, x, hx, hK, hrun⟩ := vcVal (pos := pos) (after := after) (guard := guard) hT hR hq hk
    exact same hR hd (fun c h => by rw [h] at hq; cases hq) (hrun w (.inr hR)) hx hK
  rw [vcOp_eq] at hk
  unfold vcOpS at hk
  split at hk
  · exact absurd rfl hq
  · exact absurd rfl hq
  · exact absurd rfl hq
  -- alloc
  · rename_i e
    obtain ⟨h0, h1⟩ := req_spec hk
    obtain ⟨z, hz, hzl, _⟩ := (Tbl.fact hT (t := e) (here_spec h0)).zero
    refine newK_sound (vs := z.cells) hR hd (fun c h => by cases h) hzl ?_ h1
    exact run_val (by simp only [Instr.alloc, Sem.run_bind, hz, Result.andThen_ok]; rfl)
  -- box
  · rename_i e x
    obtain ⟨u, hu, h1⟩ := hR.ev hk
    obtain ⟨c, hc, h2⟩ := contentK_sound h1 hu
    exact newK_sound (vs := (a.eval x).cells) hR hd (fun c h => by cases h) hc (run_val (by simp only [Instr.box]; rfl)) h2
  -- build
  · exact absurd rfl hq
  -- buildSlice
  · rename_i t len parts
    split at hk
    · rename_i e he
      obtain ⟨h0, h1⟩ := req_spec hk
      obtain ⟨h2, h3⟩ := req_spec h1
      have h2 := Nat.le_of_ble_eq_true h2
      have hu := under_slice (Tbl.fact hT (t := t) (by rw [he]; simp)) he
      have hfe := tyfact_of_size hT (t := e) (by have := blt_spec h0; omega)
      obtain ⟨z, hz, hzl, _⟩ := hfe.zero
      obtain ⟨cs, hcs, hk⟩ := fillK_sound hR (place' := fun i => some (i * (T.at e).size, (T.at e).size)) (fun i => rfl) parts.toList _ _ h3
      have hzer : ((Array.range (len * (T.at e).size)).map ((if len * (T.at e).size = 0 then #[] else z.cells)[· % (if len * (T.at e).size = 0 then #[] else z.cells).size]!)).toList = (zerosOf T e len).list := by
        rw [← zeros_eq (T := T) e z hzl len hfe.len]
        by_cases h : len * (T.at e).size = 0
        · simp [h]
        · simp [h]
      have hmap : (parts.map fun (x : Nat × Operand) => (x.1, a.eval x.2)).toList = parts.toList.map fun x => (x.1, a.eval x.2) := by simp
      refine Stp.val (fun c h => by cases h) (run_val (v := .slice (some ⟨w.heap.size, 0, none⟩) len len) (w' := w.alloc (.cells cs.toList.toArray e (0, 0))) ?_) (hk w.heap.size hR.fresh) ⟨ψ, (hR.alloc _).put rfl hd⟩
      simp only [Instr.buildSlice, Sem.run_bind, run_underlying hu, Result.andThen_ok, hfe.size w]
      rw [if_neg (by omega)]
      have fin : ∀ zc : Array Value, ((Array.range (len * (T.at e).size)).map (zc[· % zc.size]!)).toList = (zerosOf T e len).list →
          (match Instr.fill (fun i => some (i * (T.at e).size, (T.at e).size)) ((Array.range (len * (T.at e).size)).map fun x => zc[x % zc.size]!) ((parts.map fun (x : Nat × Operand) => (x.1, a.eval x.2)).toList) with
            | some cells => do
              let __do_lift ← newRow e cells
              pure (Value.slice (some __do_lift) len len)
            | x => stuck "buildSlice: a part of the wrong size").run P w = .ok (.slice (some ⟨w.heap.size, 0, none⟩) len len) (w.alloc (.cells cs.toList.toArray e (0, 0))) := by
        intro zc hzc
        have : ((Array.range (len * (T.at e).size)).map fun x => zc[x % zc.size]!) = (zerosOf T e len).list.toArray := by
          apply Array.ext'
          rw [hzc]
        rw [this, hmap, hcs]
        rfl
      by_cases h : len * (T.at e).size = 0
      · rw [if_pos h]
        simp only [Sem.run_bind, Sem.run_pure, Result.andThen_ok]
        refine fin #[] ?_
        simpa [h] using hzer
      · rw [if_neg h]
        simp only [Sem.run_bind, Sem.run_pure, Result.andThen_ok, hz]
        refine fin z.cells ?_
        simpa [h] using hzer
    · exact hk.elim
  · exact absurd rfl hq
  -- store
  · rename_i t p u
    obtain ⟨h0, h1⟩ := req_spec hk
    obtain ⟨x, hx, h2⟩ := hR.ev h1
    obtain ⟨y, hy, h3⟩ := hR.ev h2
    have hrun : ∀ {q : Addr} {w' : World}, a.eval p = .pointer (some q) → (storeVar t q (a.eval u)).run P w = .ok () w' → (execOp a.eval ⟨dst, .store t p u, ty, pos, after, guard⟩).run P w = .ok .skip w' := by
      intro q w' h4 h5
      simp only [execOp, Instr.storeAt, h4, Instr.sureAddr, pure_bind, Sem.run_bind, h5, Result.andThen_ok]
      rfl
    split at h3
    · rename_i i off
      split at h3
      · rename_i c hc
        obtain ⟨w', c', h4, hK, hR'⟩ := stLoc_sound hT hR hc hy h3 (here_spec h0)
        exact Stp.skip (fun c h => by cases h) (hrun hx.2 h4) hK ⟨ψ, hR'.undef _ hd⟩
      · exact h3.elim
    · rename_i q
      obtain ⟨w', m', h4, hK, hR'⟩ := stMem_sound hT hR hy h3 (here_spec h0)
      simp only [AV.is] at hx
      exact Stp.skip (fun c h => by cases h) (hrun hx h4) hK ⟨ψ, hR'.undef _ hd⟩
    · exact h3.elim
  · exact absurd rfl hq
  · exact absurd rfl hq
  · exact absurd rfl hq
  -- convert
  · rename_i s d x
    obtain ⟨u, hu, h1⟩ := hR.ev hk
    split at h1
    · rename_i hks hkd
      simp [quietKind, hks, hkd] at hq
    · rename_i e t hks hkd
      obtain ⟨h2, h3⟩ := req_spec h1
      simp only [AV.is] at hu
      have hus := under_str (Tbl.fact hT (t := s) (by rw [hks]; simp)) hks
      have hud := under_slice (Tbl.fact hT (t := d) (by rw [hkd]; simp)) hkd
      have hue := isInt_under hT h2
      have hcapge : t.size ≤ grownCap w t.size 0 e := by simp only [grownCap, Question.cut]; omega
      have hR' := hR.drew (Nat.le_succ w.drawn)
      have hobj : Obj.cells (bytesRow t (grownCap w t.size 0 e)) e ((bytesRow t (grownCap w t.size 0 e)).size, (bytesRow t (grownCap w t.size 0 e)).size + 1) = bytesObj t (grownCap w t.size 0 e) e := by
        have hrow : bytesRow t (grownCap w t.size 0 e) = (byteRow t (grownCap w t.size 0 e)).toArray := by
          apply Array.ext'
          simp [bytesRow, byteRow, byteVals]
        unfold bytesObj
        rw [hrow]
        simp
      refine Stp.val (fun c h => by cases h) (run_val (v := .slice (some ⟨w.heap.size, 0, none⟩) t.size (grownCap w t.size 0 e)) (w' := w.drew.alloc (bytesObj t (grownCap w t.size 0 e) e)) ?_) (h3 _ w.heap.size hcapge hR.fresh) ⟨ψ, (hR'.alloc _).put rfl hd⟩
      simp only [hu]
      rw [run_bytes_of_string w s d e t hus hud hue, hobj]
    · rename_i hks hkd
      simp [quietKind, hks, hkd] at hq
    · exact h1.elim
    · exact h1.elim
    · exact h1.elim
    · simp only [AV.is] at hu
      exact run_sound hR hd (fun c h => by cases h) (by rw [← hu]; rfl) h1
    · exact h1.elim
  · exact absurd rfl hq
  -- makeSlice
  · rename_i t l c
    obtain ⟨x, hx, h1⟩ := hR.ev hk
    obtain ⟨y, hy, h2⟩ := hR.ev h1
    split at h2
    · rename_i e n cp he
      obtain ⟨h0, h3, h4, h5, h6, hK⟩ := req_spec h2
      simp only [AV.is] at hx hy
      have hu := under_slice (Tbl.fact hT (t := t) (by rw [he]; simp)) he
      have hfe := tyfact_of_size hT (t := e) (by have := blt_spec h0; omega)
      obtain ⟨z, hz, hzl, _⟩ := hfe.zero
      obtain ⟨inf, hinf, hb, _⟩ := hfe.typeInfo w
      have hwn : IntKind.i64.wrap n = n := wrap_i64 h3 (by omega)
      have hwc : IntKind.i64.wrap cp = cp := wrap_i64 (by omega) h5
      have hK' := hK w.heap.size hR.fresh
      refine Stp.val (fun c h => by cases h) (run_val (v := .slice (some ⟨w.heap.size, 0, none⟩) n.toNat cp.toNat) (w' := w.alloc (.cells (zerosOf T e cp.toNat).list.toArray e (0, 0))) ?_) hK' ⟨ψ, (hR.alloc _).put rfl hd⟩
      simp only [Instr.makeSlice, Sem.run_bind, run_underlying hu, Result.andThen_ok, hx, hy, asInt, asIntOf, Sem.run_pure, hinf, hb, hwn, hwc]
      have c1 : ¬ cp < 0 := by omega
      have c2 : ¬ ((T.at e).bytes : Int) * cp > 2 ^ 48 := by omega
      have c3 : ¬ n < 0 := by omega
      have c4 : ¬ n > cp := by omega
      rw [if_neg (by simp only [Bool.or_eq_true, decide_eq_true_eq]; rintro (((h | h) | h) | h) <;> contradiction)]
      have hse := hfe.size w
      have hzer := zeros_eq (T := T) e z hzl cp.toNat hfe.len
      simp only [Sem.run_bind, run_askRoom, Result.andThen_ok, hse]
      by_cases h : cp.toNat * (T.at e).size = 0
      · rw [if_pos h]
        have h0' : (zerosOf T e cp.toNat).list.toArray = #[] := by
          apply Array.ext'
          rw [List.toList_toArray, ← hzer, h]
          simp
        simp only [Sem.run_bind, Sem.run_pure, Result.andThen_ok, h, h0']
        rw [show (Array.map (fun x => (#[] : Array Value)[x % (#[] : Array Value).size]!) (Array.range 0)) = #[] from by simp]
        rfl
      · rw [if_neg h]
        have h0' : (zerosOf T e cp.toNat).list.toArray = (Array.range (cp.toNat * (T.at e).size)).map fun x => z.cells[x % z.cells.size]! := by
          apply Array.ext'
          rw [List.toList_toArray, ← hzer]
        simp only [Sem.run_bind, Sem.run_pure, Result.andThen_ok, hz, h0']
        rfl
    · exact h2.elim
  · exact absurd rfl hq
  · exact absurd rfl hq
  · exact absurd rfl hq
  · exact absurd rfl hq
  · exact absurd rfl hq
  · exact absurd rfl hq
  -- call
  · exact call_sound hT hB hR hd hk
  -- mapUpdate
  · rename_i t x y z
    obtain ⟨w', m', h1, h2, hF⟩ := (hR.evs hk) w hR.sub
    refine Stp.skip (fun c h => by cases h) ?_ h2 ⟨ψ, (frame_rel hR hF).undef _ hd⟩
    show ((do updRun t ([x, y, z].map a.eval); pure .skip) : Sem Next).run P w = _
    simp only [Sem.run_bind, h1, Result.andThen_ok]
    rfl
  · obtain ⟨h1, h2⟩ := req_spec hk
    exact run_sound hR hd (fun c h => by rw [h] at h1; cases h1) (by rw [gen_run h1]) (hR.evs h2)
end
end Go.Mv
/- Mv: a region that draws its order: operations that read come up in any order; then a tail in its own order. -/
namespace Go.Mv
open Go
section
variable {P : Program} {ops : Array Oper} {md : Region.Mode} {C : World → Prop} {r : Option Nat} {Q : Exit → Act → World → Prop}

theorem wpIn_of_quiet {o : Oper} {a : Act} {K : Act → Prop} {K' : Act → World → Prop} {w : World} (hw : C w) (h : ∀ a w', C w' → K a → K' a w') (hh : o.quiet P a C K) : o.wpIn (Fr r) 0 P a w K' Q := by
  obtain ⟨v, h1, h2⟩ := hh
  have h3 := h1 w hw
  unfold Oper.quietAt at h3
  have hnd : ∀ c, o.op ≠ .defer c := by
    intro c hc
    rw [show execOp a.eval o = (do pure (.defer (← resolve a.eval c o.type))) from by unfold execOp; rw [hc]] at h3
    simp only [Sem.run_bind] at h3
    cases hr : (resolve a.eval c o.type).run P w <;> rw [hr] at h3 <;> exact h3
  refine ⟨fun f _ => trivial, ?_⟩
  rw [Oper.semAt_eq _ _ _ hnd]
  generalize (execOp a.eval o).run P w = q at *
  cases q with
  | ok n w' =>
    cases n <;> simp only [Oper.quietUpon] at h3 <;> simp only [Oper.uponIn]
    case value u => obtain ⟨e1, e2⟩ := h3; rw [e1, e2]; exact h _ _ hw h2
    case skip => obtain ⟨e1, e2⟩ := h3; rw [e1, ← e2]; exact h _ _ hw h2
    case enter f args =>
      obtain ⟨e1, hc⟩ := h3
      rw [e1]
      exact ⟨fun h => by simp [Fr, Fence.wide] at h, (fr_calls (hc.mono fun e w'' ⟨he, hw''⟩ => by subst he; exact h _ _ hw'' h2) : CallsIn (Fr r) (0 - 1) P f args w _)⟩
  | halt x w' => simp only [Oper.quietUpon] at h3
theorem wpOpIn_of_qOp {i : Nat} {a : Act} {K : Act → Prop} {K' : Act → World → Prop} {w : World} (hC : C w) (h : ∀ a w', C w' → K a → K' a w') (hh : qOp P ops C i K a) : wpOpIn (Fr r) 0 P ops Q i K' a w := by
  unfold qOp at hh
  unfold wpOpIn
  split
  · rename_i ho; simp only [ho] at hh; exact h _ _ hC hh
  · rename_i o ho
    simp only [ho] at hh
    split
    · rename_i hw; simp only [hw, if_true] at hh; exact wpIn_of_quiet hC h hh
    · rename_i hw; simp only [hw] at hh; exact ⟨fun f _ => trivial, h _ _ hC hh⟩
/-- The head: each operation that can come up is one of the first n; L is asked when they are through. -/
def anyH (P : Program) (md : Region.Mode) (ops : Array Oper) (C : World → Prop) (n : Nat) (L : Array Bool → Act → Prop) : Nat → Array Bool → Act → Prop
  | 0, listed, a => L listed a
  | f + 1, listed, a => Region.ready md ops listed ≠ [] ∧ ∀ i ∈ Region.ready md ops listed, i < n ∧ qOp P ops C i (anyH P md ops C n L f (listed.setIfInBounds i true)) a
theorem anyIn_of_head {n g : Nat} {L : Array Bool → Act → Prop} (hL : ∀ listed a w, C w → L listed a → wpAnyIn (Fr r) 0 P md ops Q g listed a w) :
    ∀ (f : Nat) (listed : Array Bool) (a : Act) (w : World), C w → anyH P md ops C n L f listed a → wpAnyIn (Fr r) 0 P md ops Q (f + g) listed a w
  | 0, listed, a, w, hw, h => by rw [Nat.zero_add]; exact hL _ _ _ hw h
  | f + 1, listed, a, w, hw, h => by
    rw [show f + 1 + g = (f + g) + 1 by omega]
    exact ⟨fun h0 => absurd h0 h.1, fun i hi => wpOpIn_of_qOp hw (fun a' w' hw' h' => anyIn_of_head hL f _ a' w' hw' h') (h.2 i hi).2⟩
theorem anyH_first {n i : Nat} {oi : Oper} {v : Value} {L : Array Bool → Act → Prop} (hi : ops[i]? = some oi) (hsel : ∀ (j : Nat) (o : Oper) cs b, ops[j]? = some o → o.op ≠ .select cs b)
    (hs : Region.sinkB md ops n = true) (hc : Region.chainB md ops n = true) (hn : n < ops.size) (hin : i < n) (hdone : ∀ listed a, L listed a → ∀ j ∈ Region.ready md ops listed, n ≤ j) :
    ∀ (f : Nat) (listed : Array Bool) (a : Act), HeadInv md ops n listed →
      (∀ j oj, ops[j]? = some oj → j ≠ i → listed.getD j true = false → (∀ e ∈ oj.after, Region.binds md e = true → e.on ≠ i) → oi.apart ops oj = true) →
      i ∈ Region.ready md ops listed → YieldsIn P ops C oi v a → anyH P md ops C n L f (listed.setIfInBounds i true) (a.put oi.dst v) → anyH P md ops C n L (f + 1) listed a := by
  intro f
  induction f with
  | zero =>
    intro listed a inv _ hr hy H
    have hun := (mem_ready.1 hr).1
    refine ⟨List.ne_nil_of_mem hr, fun j hj => ?_⟩
    have hjn : j < n := Nat.lt_of_not_le fun h => tail_waits hs hc hn inv _ i rfl hin hun j h hj
    refine ⟨hjn, ?_⟩
    by_cases hji : j = i
    · subst hji; exact hy.qOp hi H
    · have := hdone _ _ H j (ready_mono hj hji)
      omega
  | succ f ih =>
    intro listed a inv hfree hr hy H
    have hun := (mem_ready.1 hr).1
    refine ⟨List.ne_nil_of_mem hr, fun j hj => ?_⟩
    have hjn : j < n := Nat.lt_of_not_le fun h => tail_waits hs hc hn inv _ i rfl hin hun j h hj
    refine ⟨hjn, ?_⟩
    by_cases hji : j = i
    · subst hji; exact hy.qOp hi H
    · obtain ⟨hjun, oj, hoj, hall⟩ := mem_ready.1 hj
      have hnot : ∀ e ∈ oj.after, Region.binds md e = true → e.on ≠ i := fun e he hb heq => by
        have h1 := hall e he hb
        rw [heq, getD_both hun] at h1
        cases h1
      have h2 := qOp_put hoj (hfree j oj hoj hji hjun hnot) (fun cs b => hsel i oi cs b hi) (fun cs b => hsel j oj cs b hoj) hy (H.2 j (ready_mono hj hji)).2
      refine qOp_mono (fun a' h3 => ih (listed.setIfInBounds j true) a' (inv.set hj hjn) (fun k ok hk hki hu hno => hfree k ok hk hki ?_ hno) (ready_mono hr (Ne.symm hji)) h3.1 ?_) h2
      · by_cases hjk : j = k
        · subst hjk; exact hjun
        · rwa [getD_set_ne true hjk] at hu
      · rw [Array.setIfInBounds_comm _ _ hji]
        exact h3.2
theorem anyH_lex {n g : Nat} {Lq : Act → Prop} (hsel : Region.noSelect ops = true) (hs : Region.sinkB md ops n = true) (hc : Region.chainB md ops n = true) (hn : n < ops.size) :
    ∀ (l : List Oper) (k : Nat) (listed : Array Bool) (a : Act), (∀ j, j < l.length → l[j]? = ops[k + j]?) → k + l.length = n → HeadInv md ops n listed → Region.lexHead md ops g l.length k listed = true → wpQuiet P ops C Lq l a →
    anyH P md ops C n (fun listed' a' => Region.seqB md ops g n listed' = true ∧ Lq a') l.length listed a
  | [], k, listed, a, _, hk, _, hB, h => by
    have : k = n := by simpa using hk
    subst this
    exact ⟨by simpa [Region.lexHead] using hB, h⟩
  | o :: l, k, listed, a, hl, hk, inv, hB, h => by
    have h0 : ops[k]? = some o := by simpa using (hl 0 (by simp)).symm
    simp only [List.length_cons, Region.lexHead, Bool.and_eq_true] at hB
    have hkn : k < n := by simp only [List.length_cons] at hk; omega
    have hr' : k ∈ Region.ready md ops listed := by simpa using hB.1.1
    have hst : qOp P ops C k (wpQuiet P ops C Lq l) a := by unfold qOp; simp only [h0]; exact h
    obtain ⟨v, hy, hK⟩ := yieldsIn_of_qOp h0 hst
    exact anyH_first h0 (Region.noSelect_spec hsel) hs hc hn hkn (fun listed' a' hL => seqB_ready hL.1) l.length listed a inv (Region.free_spec h0 hB.1.2) hr' hy
      (anyH_lex hsel hs hc hn l (k + 1) _ _ (fun j hj => by have := hl (j + 1) (by simp; omega); simpa [Nat.add_assoc, Nat.add_comm 1 j] using this) (by simp only [List.length_cons] at hk; omega) (inv.set hr' hkn) hB.2 hK)
theorem anyIn_of_seq : ∀ (l : List Oper) (k : Nat) (listed : Array Bool) (a : Act) (w : World), (∀ j, l[j]? = ops[k + j]?) → Region.seqB md ops l.length k listed = true → wpListIn (Fr r) 0 P ops Q l a w → wpAnyIn (Fr r) 0 P md ops Q l.length listed a w
  | [], _, _, _, _, _, hB, h => ⟨by simpa [Region.seqB] using hB, h⟩
  | o :: l, k, listed, a, w, hl, hB, h => by
    have h0 : ops[k]? = some o := by simpa using (hl 0).symm
    simp only [List.length_cons, Region.seqB, Bool.and_eq_true, decide_eq_true_eq] at hB
    refine ⟨fun h1 => (by rw [hB.1] at h1; cases h1), fun i hi => ?_⟩
    rw [hB.1] at hi
    have hik : i = k := by simpa using hi
    subst hik
    have hw : wpOpIn (Fr r) 0 P ops Q i (wpListIn (Fr r) 0 P ops Q l) a w := by unfold wpOpIn; simp only [h0]; exact h
    exact wpOpIn_mono (fun a' w' h' => anyIn_of_seq l (i + 1) _ a' w' (fun j => by have := hl (j + 1); simpa [Nat.add_assoc, Nat.add_comm 1 j] using this) hB.2 h') hw
/-- The region: its first n operations read; the others come behind them, one by one. -/
theorem wpIn_draw {id : Nat} {a : Act} {w : World} {l : List Oper} (n : Nat) (hm : P.follows .mixedOrders = true) (hB : Region.lexTailB .any l.toArray n = true) (hC : C { w with drawn := w.drawn + 1 })
    (h : wpQuiet P l.toArray C (fun a' => ∀ w', C w' → wpListIn (Fr r) 0 P l.toArray Q (l.drop n) a' w') (l.take n) a) : (Code.region id l.toArray true).wpIn (Fr r) 0 P Q a w := by
  simp only [Region.lexTailB, Bool.and_eq_true, decide_eq_true_eq] at hB
  obtain ⟨⟨⟨⟨hsel, hn⟩, hs⟩, hc⟩, hlex⟩ := hB
  have hn' : n < l.length := by simpa using hn
  have htl : (l.take n).length = n := by simp; omega
  have hdl : (l.drop n).length = l.toArray.size - n := by simp
  have inv0 : HeadInv .any l.toArray n (Array.replicate l.toArray.size false) :=
    ⟨by simp, fun j oj _ hl => (by rw [getD_replicate_false] at hl; cases hl), fun t _ ht => getD_in (by simpa using ht) (getD_replicate_false _ _)⟩
  have H := anyH_lex (md := .any) (g := l.toArray.size - n) hsel hs hc hn (l.take n) 0 _ a (fun j hj => by
    have hj' : j < n := by rw [htl] at hj; exact hj
    simp [hj']) (by simpa using htl) inv0 (by rw [htl]; exact hlex) h
  refine wpIn_region_any hm ?_
  have := anyIn_of_head (r := r) (Q := Q) (g := l.toArray.size - n) (fun listed a' w' hw' hL => by
    have := anyIn_of_seq (md := .any) (r := r) (Q := Q) (l.drop n) n listed a' w' (fun j => by simp [List.getElem?_drop]) (by rw [hdl]; exact hL.1) (hL.2 w' hw')
    rwa [hdl] at this) _ _ _ _ hC H
  rw [htl, show n + (l.toArray.size - n) = l.toArray.size by omega] at this
  exact this
end
end Go.Mv
/- Mv: a range over a function: its rounds, the statement. -/
namespace Go.Mv
open Go
def mark (b : Nat) : Deferred := { target := .collected b, args := #[] }
/-- More marks among the deferred calls; their blocks are kept. -/
def Ext (w0 : World) (D D' : HD) : Prop := ∃ bs : List Nat, D'.defers = bs.map mark ++ D.defers ∧ D'.hid = (bs.map fun b => (b, Obj.deferred (some []))) ++ D.hid ∧ bs.Nodup ∧ ∀ b, b ∈ bs → w0.heap.size ≤ b ∧ ∀ o, (b, o) ∉ D.hid
theorem Ext.refl {w0 : World} {D : HD} : Ext w0 D D := ⟨[], rfl, rfl, List.nodup_nil, fun b hb => by cases hb⟩
theorem Ext.trans {w0 : World} {D D' D'' : HD} (h : Ext w0 D D') (k : Ext w0 D' D'') : Ext w0 D D'' := by
  obtain ⟨bs, h1, h2, h3, h4⟩ := h
  obtain ⟨cs, k1, k2, k3, k4⟩ := k
  refine ⟨cs ++ bs, by rw [k1, h1]; simp, by rw [k2, h2]; simp, ?_, fun b hb => ?_⟩
  · rw [List.nodup_append]
    refine ⟨k3, h3, fun a ha b hb he => ?_⟩
    subst he
    refine (k4 a ha).2 (.deferred (some [])) ?_
    rw [h2]
    exact List.mem_append_left _ (List.mem_map.2 ⟨a, hb, rfl⟩)
  · rcases List.mem_append.1 hb with hb | hb
    · refine ⟨(k4 b hb).1, fun o ho => (k4 b hb).2 o ?_⟩
      rw [h2]
      exact List.mem_append_right _ ho
    · exact h4 b hb
def RelX (N : Nat) (D : HD) (m0 : Mem) (w0 : World) (S : St) (a : Act) (w : World) : Prop := ∃ D', Ext w0 D D' ∧ Relx N D' m0 w0 S a w
theorem Relx.X {N : Nat} {D : HD} {m0 : Mem} {w0 : World} {S : St} {a : Act} {w : World} (h : Relx N D m0 w0 S a w) : RelX N D m0 w0 S a w := ⟨D, Ext.refl, h⟩
def Run (P : Program) (r : Option Nat) (N : Nat) (D : HD) (m0 : Mem) (w0 : World) (c : Code) (K : Exit → St → Prop) (S : St) : Prop :=
  ∀ (Q : Exit → Act → World → Prop) (a : Act) (w : World), Relx N D m0 w0 S a w → (∀ e S' a' w', K e S' → RelX N D m0 w0 S' a' w' → Q e a' w') → c.wpIn (Fr r) 0 P Q a w
section
variable {P : Program} {r : Option Nat} {T : Tbl} {B pr : List Nat} {ψ : Nat → Nat} {N : Nat} {D : HD} {m0 : Mem} {w0 : World} {Q : Exit → Act → World → Prop} {S S' : St} {a : Act} {w w' : World} {K : Exit → St → Prop} {v : Value}

theorem plainEnvG_lk : ∀ {E : Env} {seen : List Nat} {i : Nat} {x : AV}, lk (plainEnvG seen E) i = some x → hasB seen i = false ∧ lk E i = some x ∧ ∀ j o, x ≠ .loc j o
  | [], _, _, _, h => by simp [plainEnvG, lk] at h
  | (j, y) :: r, seen, i, x, h => by
    have go : ∀ y : AV, (∀ a b, y ≠ .loc a b) → lk (bif hasB seen j then plainEnvG seen r else (j, y) :: plainEnvG seen r) i = some x → hasB seen i = false ∧ lk ((j, y) :: r) i = some x ∧ ∀ j o, x ≠ .loc j o := by
      intro y hy h
      simp only [lk]
      cases hs : hasB seen j with
      | true =>
        rw [hs] at h
        obtain ⟨h1, h2, h3⟩ := plainEnvG_lk (E := r) h
        have hne : j ≠ i := by rintro rfl; rw [hs] at h1; cases h1
        rw [if_neg hne]
        exact ⟨h1, h2, h3⟩
      | false =>
        rw [hs] at h
        simp only [cond_false, lk] at h
        by_cases hne : j = i
        · rw [if_pos hne] at h ⊢
          cases h
          exact ⟨hne ▸ hs, rfl, hy⟩
        · rw [if_neg hne] at h ⊢
          exact plainEnvG_lk (E := r) h
    cases y with
    | loc a b =>
      simp only [plainEnvG] at h
      obtain ⟨h1, h2, h3⟩ := plainEnvG_lk (E := r) h
      simp only [hasB] at h1
      cases hb : Nat.beq j i with
      | true => rw [hb] at h1; cases h1
      | false =>
        rw [hb] at h1
        simp only [lk, if_neg (Nat.ne_of_beq_eq_false hb)]
        exact ⟨h1, h2, h3⟩
    | _ => exact go _ (fun a b hh => by cases hh) h
theorem plainEnv_is {t : Array Value} {L : Nat} {E : Env} (hE : ∀ i x, lk E i = some x → x.is ψ L (t.getD i undef)) (i : Nat) (x : AV) (h : lk (plainEnv E) i = some x) : x.is ψ 0 (t.getD i undef) := by
  obtain ⟨_, h2, h3⟩ := plainEnvG_lk h
  have h4 := hE i x h2
  cases x <;> first | exact h4 | exact absurd rfl (h3 _ _)
theorem putObj_frame {m1 m : Mem} {wy w1 : World} {l : Nat} {o : Obj} (h : Frame m1 wy m w1) (hl : m1 l ≠ none) (hm : m l = none) : Frame m1 wy m (w1.putObj l o) :=
  ⟨h.os, h.tape, h.output, by rw [World.putObj_size]; exact h.size, fun b o' hb => by
    have hne : b ≠ l := by rintro rfl; rw [hm] at hb; cases hb
    rw [World.putObj_heap_other hne]
    exact h.sub b o' hb, fun b hb hn => by
    have hne : b ≠ l := by rintro rfl; exact hl hn
    rw [World.putObj_heap_other hne]
    exact h.keep b hb hn, h.dom⟩
theorem putObj_frame_in {m1 m : Mem} {wy w1 : World} {l : Nat} {o : Obj} (h : Frame m1 wy m w1) (hl : m1 l ≠ none) (hlt : l < w1.heap.size) : Frame m1 wy (m.set l o) (w1.putObj l o) :=
  ⟨h.os, h.tape, h.output, by rw [World.putObj_size]; exact h.size, fun b o' hb => by
    by_cases hne : b = l
    · subst hne
      rw [World.putObj_heap_same hlt]
      simpa [Mem.set] using hb
    · rw [World.putObj_heap_other hne]
      simp only [Mem.set, if_neg hne] at hb
      exact h.sub b o' hb, fun b hb hn => by
    have hne : b ≠ l := by rintro rfl; exact hl hn
    rw [World.putObj_heap_other hne]
    exact h.keep b hb hn, fun b hb => by
    by_cases hne : b = l
    · subst hne; exact .inl hl
    · simp only [Mem.set, if_neg hne] at hb
      exact h.dom b hb⟩
/-- A hidden block becomes another object. -/
theorem Rel.hide {D' : HD} {l : Nat} {o o' : Obj} {hs : List (Nat × Obj)} (h : Rel ψ N D m0 w0 S a w) (hD : D.hid = hs ++ [(l, o)]) (hs' : ∀ b x, (b, x) ∈ hs → b ≠ l) (hl : m0 l ≠ none) (hdef : D'.defers = D.defers) (hD' : D'.hid = hs ++ [(l, o')]) :
    Rel ψ N D' m0 w0 S a (w.putObj l o') := by
  obtain ⟨g1, g2, g3⟩ := h.marks l o (by rw [hD]; simp)
  have hlt := (Array.getElem?_eq_some_iff.1 g1).1
  refine ⟨h.size, h.defers.trans hdef.symm, h.env, fun i c hc => ?_, h.inj, putObj_frame h.frame hl g2, fun b x hb => ?_⟩
  · obtain ⟨e, h1, h2, h3⟩ := h.box i c hc
    have hi := (List.getElem?_eq_some_iff.1 hc).1
    exact ⟨e, by rw [World.putObj_heap_other (g3 i hi)]; exact h1, h2, h3⟩
  · rw [hD'] at hb
    rcases List.mem_append.1 hb with hb | hb
    · obtain ⟨h1, h2, h3⟩ := h.marks b x (by rw [hD]; exact List.mem_append_left _ hb)
      exact ⟨by rw [World.putObj_heap_other (hs' b x hb)]; exact h1, h2, h3⟩
    · rw [List.mem_singleton] at hb
      cases hb
      exact ⟨World.putObj_heap_same hlt, g2, g3⟩
theorem foldl_size (N : Nat) : ∀ (l : List (Nat × Value)) (t : Array Value), t.size = N → (l.foldl (fun t (p, v) => t.setIfInBounds p v) t).size = N
  | [], _, h => h
  | (p, v) :: r, t, h => by
    simp only [List.foldl_cons]
    exact foldl_size N r _ (by simpa using h)
theorem parEnv_is : ∀ (ps : List Nat) (vals : List Value) (E : Env) (t : Array Value), (∀ p, p ∈ ps → p < t.size) → vals.length = ps.length → (∀ i x, lk E i = some x → x.is ψ 0 (t.getD i undef)) →
    ∀ i x, lk (parEnv ps vals E) i = some x → x.is ψ 0 (((ps.zip vals).foldl (fun t (p, v) => t.setIfInBounds p v) t).getD i undef)
  | [], vals, E, t, _, hl, hE, i, x, h => by
    cases vals with
    | nil => exact hE i x h
    | cons _ _ => simp at hl
  | p :: ps, [], E, t, _, hl, _, i, x, h => by simp at hl
  | p :: ps, v :: vals, E, t, hp, hl, hE, i, x, h => by
    simp only [List.zip_cons_cons, List.foldl_cons]
    refine parEnv_is ps vals ((p, .v v) :: E) (t.setIfInBounds p v) (fun q hq => by simpa using hp q (List.mem_cons_of_mem _ hq)) (by simpa using hl) (fun j y hy => ?_) i x h
    rw [getD_put _ _ _ _ (hp p List.mem_cons_self)]
    simp only [lk] at hy
    by_cases hj : p = j
    · rw [if_pos hj] at hy ⊢
      cases hy
      rfl
    · rw [if_neg hj] at hy ⊢
      exact hE j y hy
/-- One round: the assignments, the body, the record. -/
theorem round_sound {l : Nat} {rec : Loop} {ps : List Nat} {vals : List Value} {m1 : Mem} {R : Exit → Mem → Prop} {E : Env} {X Y : (Exit → St → Prop) → St → Prop}
    (hst : rec.state = .ready) (hpe : rec.pending = none) (hps : rec.params.toList = ps) (hN : rec.tmps.size = N) (hlt : ∀ p, p ∈ ps → p < N) (hE : ∀ i x, lk E i = some x → x.is ψ 0 (rec.tmps.getD i undef))
    (ihx : ∀ D m0 w0 K S, X K S → Run P (some l) N D m0 w0 rec.assign K S) (ihy : ∀ D m0 w0 K S, Y K S → Run P (some l) N D m0 w0 rec.body K S)
    (hl : m1 l = some (.loop rec)) (hlen : vals.length = ps.length)
    (h : X (fun e S1 => match e with | .normal => Y (roundK R) S1 | _ => False) ⟨parEnv ps vals E, [], m1.del l⟩) : YCalls P l vals m1 (roundR l rec R) := by
  intro wy hsub
  have hwl := hsub l _ hl
  have hsz : vals.toArray.size = rec.params.size := by
    have : rec.params.toList.length = rec.params.size := by simp
    rw [← this, hps]
    simpa using hlen
  refine ⟨_, _, _, _, run_yield hwl hsz, roundIn_of_wpIn trivial ?_⟩
  have htm : (rec.params.zip vals.toArray).foldl (fun tmps (t, a) => tmps.setIfInBounds t a) rec.tmps = (ps.zip vals).foldl (fun t (p, v) => t.setIfInBounds p v) rec.tmps := by
    rw [← Array.foldl_toList, Array.toList_zip, hps]
  rw [htm]
  have hdel : (m1.del l) l = none := by simp [Mem.del]
  have hless : ∀ b o, (m1.del l) b = some o → m1 b = some o := fun b o hb => by
    simp only [Mem.del] at hb
    split at hb
    · cases hb
    · exact hb
  have hl0 : m1 l ≠ none := by rw [hl]; simp
  have hR : Rel ψ N ⟨[], [(l, .loop rec)]⟩ m1 wy ⟨parEnv ps vals E, [], m1.del l⟩ { tmps := (ps.zip vals).foldl (fun t (p, v) => t.setIfInBounds p v) rec.tmps, defers := [] } wy :=
    ⟨foldl_size N _ _ hN, rfl, parEnv_is ps vals E _ (by rw [hN]; exact hlt) hlen hE, fun i c hc => by simp at hc, fun i j hi => by simp at hi, (Frame.refl hsub).less hless, fun b o hb => by
      rw [List.mem_singleton] at hb
      cases hb
      exact ⟨hwl, hdel, fun i hi => by simp at hi⟩⟩
  refine (ihx ⟨[], [(l, .loop rec)]⟩ m1 wy _ _ h) _ _ wy ⟨ψ, hR⟩ fun e S1 a1 w1 hk hX => ?_
  cases e with
  | normal =>
    obtain ⟨D', ⟨bs, e1, e2, e3, e4⟩, ψ', hR1⟩ := hX
    obtain ⟨g1, g2, g3⟩ := hR1.marks l (.loop rec) (by rw [e2]; simp)
    have hbs : ∀ b x, (b, x) ∈ (bs.map fun b => (b, Obj.deferred (some []))) → b ≠ l := by
      intro b x hb he
      obtain ⟨c, hc, hce⟩ := List.mem_map.1 hb
      cases hce
      subst he
      exact (e4 b hc).2 (.loop rec) (by simp)
    refine ⟨_, run_beginRound g1 hst, ?_⟩
    have hR2 := hR1.hide (D' := ⟨D'.defers, (bs.map fun b => (b, Obj.deferred (some []))) ++ [(l, .loop { rec with state := .busy })]⟩) e2 hbs hl0 rfl rfl
    refine (ihy _ m1 wy _ _ hk) _ _ _ ⟨ψ', hR2⟩ fun e S2 a2 w3 hk2 hX2 => ?_
    obtain ⟨D3, ⟨cs, f1, f2, f3, f4⟩, ψ3, hR3⟩ := hX2
    obtain ⟨k1, k2, k3⟩ := hR3.marks l (.loop { rec with state := .busy }) (by rw [f2]; simp)
    have hlt3 := (Array.getElem?_eq_some_iff.1 k1).1
    have hrec : ({ rec with state := .ready, pending := none } : Loop) = rec := by cases rec; simp_all
    cases e with
    | normal =>
      refine ⟨_, _, run_endRound none k1, _, _, rfl, ⟨S2.m, k2, .inl ⟨rfl, rfl, hk2⟩⟩, ?_⟩
      have := putObj_frame_in (o := .loop rec) hR3.frame hl0 hlt3
      simpa [hrec] using this
    | ret => exact ⟨_, _, run_endRound (some .ret) k1, _, _, rfl, ⟨S2.m, k2, .inr ⟨rfl, .ret, .ret, rfl, rfl, hk2⟩⟩, putObj_frame_in hR3.frame hl0 hlt3⟩
    | exit id => exact ⟨_, _, run_endRound (some (.exit id)) k1, _, _, rfl, ⟨S2.m, k2, .inr ⟨rfl, .exit id, .exit id, rfl, rfl, hk2⟩⟩, putObj_frame_in hR3.frame hl0 hlt3⟩
    | _ => exact hk2.elim
  | _ => exact hk.elim
theorem del_frame {m : Mem} {l : Nat} {o : Obj} (h : Frame m0 w0 m w) (hl : w0.heap.size ≤ l) : Frame m0 w0 (m.del l) (w.putObj l o) :=
  ⟨h.os, h.tape, h.output, by rw [World.putObj_size]; exact h.size, fun b o' hb => by
    simp only [Mem.del] at hb
    split at hb
    · cases hb
    · rename_i hne
      rw [World.putObj_heap_other hne]
      exact h.sub b o' hb, fun b hb hn => by
    rw [World.putObj_heap_other (by omega)]
    exact h.keep b hb hn, fun b hb => by
    simp only [Mem.del] at hb
    split at hb
    · exact absurd rfl hb
    · exact h.dom b hb⟩
/-- The statement. -/
theorem range_sound (hB : bodiesOk P B = true) {g : Operand} {ps : Array Tmp} {x y : Code} {f : Nat} {first cap : Array Value} {X Y : (Exit → St → Prop) → St → Prop}
    (hR : Rel ψ N D m0 w0 S a w) (hev : a.eval g = .func (.func f) first cap) (hf : B.contains f = true) (hlt : ∀ p, p ∈ ps.toList → p < N)
    (ihx : ∀ l D m0 w0 K S, X K S → Run P (some l) N D m0 w0 x K S) (ihy : ∀ l D m0 w0 K S, Y K S → Run P (some l) N D m0 w0 y K S)
    (h : RangeP P f first.toList cap.toList ps.toList X Y K S)
    (hK : ∀ e S' a' w', K e S' → RelX N D m0 w0 S' a' w' → Q e a' w') : (Code.rangeFunc g ps x y).wpIn (Fr none) 0 P Q a w := by
  have hBg : bodyB P f = true := List.all_eq_true.1 hB _ (by simpa using hf)
  refine wpIn_rangeFunc fun fn _ => ?_
  let rc : Loop := { state := .ready, pending := none, fn := fn, tmps := a.tmps, params := ps, assign := x, body := y, defers := w.heap.size }
  let l := w.heap.size + 1
  let w1 := (w.alloc (.deferred (some []))).alloc (.loop rc)
  have hsz1 : w1.heap.size = w.heap.size + 2 := by simp only [w1, size_alloc]
  have hlk : ∀ k, k < w.heap.size → w1.heap[k]? = w.heap[k]? := fun k hk => by
    simp only [w1, heap_alloc, size_alloc]
    rw [if_neg (by omega), if_neg (by omega)]
  have hb1 : w1.heap[w.heap.size]? = some (.deferred (some [])) := by
    simp only [w1, heap_alloc, size_alloc]
    rw [if_neg (by omega), if_pos trivial]
  have hl1 : w1.heap[l]? = some (.loop rc) := by
    simp only [w1, heap_alloc, size_alloc, l]
    rw [if_pos trivial]
  have hmlt : ∀ b, S.m b ≠ none → b < w.heap.size := fun b hb => Mem.sub_lt hR.sub hb
  have hmn : ∀ b, w.heap.size ≤ b → S.m b = none := fun b hb => by
    cases hm : S.m b with
    | none => rfl
    | some o => exact absurd (hmlt b (by rw [hm]; simp)) (by omega)
  have hsub1 : (S.m.set l (.loop rc)).sub w1 := fun b o hb => by
    simp only [Mem.set] at hb
    split at hb
    · rename_i he; cases hb; rw [he]; exact hl1
    · rw [hlk b (hmlt b (by rw [hb]; simp))]; exact hR.sub b o hb
  have hF1 : Frame m0 w0 (S.m.set l (.loop rc)) w1 := by
    have := (hR.frame.junk (.deferred (some []))).alloc (.loop rc)
    rw [size_alloc] at this
    exact this
  unfold RangeP at h
  have hcall := h l rc (hmn l (by simp only [l]; omega)) rfl rfl (fun vals m1 R hm1 hlen hX =>
    round_sound (N := N) (ψ := ψ) (E := plainEnv S.env) rfl rfl rfl hR.size hlt (plainEnv_is hR.env) (ihx l) (ihy l) hm1 hlen hX)
  have hargs : (first ++ #[Value.func (.yield l) #[] #[]]) ++ cap = (first.toList ++ [Value.func (.yield l) #[] #[]] ++ cap.toList).toArray := by
    apply Array.ext'
    simp
  refine ⟨l, [mark w.heap.size], w1, { target := .fn (.func f) cap, args := first ++ #[.func (.yield l) #[] #[]] }, w1, f, (first.toList ++ [Value.func (.yield l) #[] #[]] ++ cap.toList).toArray, w1, run_enterLoop_outer fn a.tmps ps x y, ?_, fun _ _ => trivial, ?_, fun hh => by simp [Fr, Fence.wide] at hh, ?_⟩
  · simp only [resolve, hev, Deferred.ofValue, Sem.run_pure, List.map_toArray, List.map_cons, List.map_nil]
    rfl
  · simp only [invoke]
    rw [hargs]
    exact run_callFunc hBg _
  · refine fr_calls ((hcall w1 hsub1).mono fun e w2 hh => ?_)
    obtain ⟨v, m', rfl, ⟨st, pend, hst, hml, hpend⟩, hF⟩ := hh
    have hrec := hF.sub _ _ hml
    refine ⟨pend, _, run_endLoop hrec hst, ?_⟩
    have hlt2 : ∀ b, b < w.heap.size + 1 → S.m b = none → w2.heap[b]? = w1.heap[b]? ∧ m' b = none := fun b hb hn => by
      have hne : b ≠ l := by simp only [l]; omega
      have h0 : (S.m.set l (.loop rc)) b = none := by simp only [Mem.set, if_neg hne]; exact hn
      refine ⟨hF.keep b (by omega) h0, ?_⟩
      cases hm : m' b with
      | none => rfl
      | some o =>
        rcases hF.dom b (by rw [hm]; simp) with hd | hd
        · exact absurd h0 hd
        · omega
    have hdel : ∀ b, m' b = none → (m'.del l) b = none := fun b hb => by
      simp only [Mem.del]
      split
      · rfl
      · exact hb
    have hX : RelX N D m0 w0 ⟨S.env, S.ls, m'.del l⟩ { a with defers := [mark w.heap.size] ++ a.defers } (w2.putObj l (.loop { rc with state := .exhausted, pending := pend })) := by
      refine ⟨⟨mark w.heap.size :: D.defers, (w.heap.size, .deferred (some [])) :: D.hid⟩, ⟨[w.heap.size], rfl, rfl, by simp, fun b hb => ?_⟩, ψ, hR.size, ?_, hR.env, fun i c hc => ?_, hR.inj, del_frame (hF1.trans hF) (by have := hR.frame.size; simp only [l]; omega), fun b o hb => ?_⟩
      · rw [List.mem_singleton] at hb
        subst hb
        refine ⟨hR.frame.size, fun o ho => ?_⟩
        have := (Array.getElem?_eq_some_iff.1 (hR.marks _ o ho).1).1
        omega
      · show mark w.heap.size :: a.defers = _
        rw [hR.defers]
      · obtain ⟨e, h1, h2, h3⟩ := hR.box i c hc
        have hi := (Array.getElem?_eq_some_iff.1 h1).1
        obtain ⟨k1, k2⟩ := hlt2 (ψ i) (by omega) h2
        exact ⟨e, by rw [World.putObj_heap_other (by simp only [l]; omega), k1, hlk _ hi]; exact h1, hdel _ k2, h3⟩
      · rcases List.mem_cons.1 hb with hb | hb
        · cases hb
          obtain ⟨k1, k2⟩ := hlt2 w.heap.size (by omega) (hmn _ (Nat.le_refl _))
          refine ⟨by rw [World.putObj_heap_other (by simp only [l]; omega), k1]; exact hb1, hdel _ k2, fun i hi => ?_⟩
          have := hR.boxLt hi
          omega
        · obtain ⟨h1, h2, h3⟩ := hR.marks b o hb
          have hi := (Array.getElem?_eq_some_iff.1 h1).1
          obtain ⟨k1, k2⟩ := hlt2 b (by omega) h2
          exact ⟨by rw [World.putObj_heap_other (by simp only [l]; omega), k1, hlk _ hi]; exact h1, hdel _ k2, h3⟩
    cases pend with
    | none => exact hK _ _ _ _ hpend hX
    | some c =>
      cases c with
      | ret => exact wpIn_ret (hK _ _ _ _ hpend hX)
      | exit id => exact wpIn_exit (hK _ _ _ _ hpend hX)
      | _ => exact hpend.elim
end
end Go.Mv
