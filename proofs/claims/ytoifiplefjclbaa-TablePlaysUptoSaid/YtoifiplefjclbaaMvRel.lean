/- Mv: the relation between what is told of a frame and the machine's own; single steps on memory. -/
import Derived.Test.YtoifiplefjclbaaMvVc
import Derived.Laws.Cells
import Derived.Laws.Entries
namespace Go.Mv
open Go

/-! ### the table of types -/
def descOk : TK → TypeDesc → Bool
  | .int k, .int k' => IntKind.eqb k k'
  | .bool, .bool => true
  | .str, .string => true
  | .ptr, .pointer _ => true
  | .slice e, .slice e' => Nat.beq e e'
  | .arr n e, .array n' e' => Nat.beq n n' && Nat.beq e e'
  | .struct fs, .struct gs => decide (gs.toList.map (fun f => (f.offset, f.type)) = fs)
  | .func, .func _ _ _ => true
  | _, _ => false
def valB : Value → Value → Bool
  | .int k a, .int k' b => IntKind.eqb k k' && decide (a = b)
  | .bool a, .bool b => decide (a = b)
  | .pointer none, .pointer none => true
  | .slice none 0 0, .slice none 0 0 => true
  | .string a, .string b => decide (a.data = b.data)
  | .nilFunc, .nilFunc => true
  | .nilIface, .nilIface => true
  | _, _ => false
def listB : List Value → List Value → Bool
  | [], [] => true
  | a :: r, b :: s => valB a b && listB r s
  | _, _ => false
def isAggV : Value → Bool
  | .agg _ => true
  | _ => false
def TK.agg : TK → Bool
  | .arr _ _ | .struct _ => true
  | _ => false
def eqOk (P : Program) (t : Nat) : Bool :=
  !P.eqGuardType P.depth t && match P.underlying t with
    | some (.struct fs) => !P.stoodInHeld t && fs.toList.all fun f => decide (f.name ≠ "_")
    | _ => true
def ptrOk (P : Program) (t : Nat) : Bool :=
  match P.underlying t with
  | some (.pointer e) => (P.info? e).isSome
  | _ => true
def tiOk (P : Program) (t : Nat) (i : TI) : Bool :=
  match P.info? t, P.underlying t with
  | some inf, some d => descOk i.k d && Nat.beq inf.size i.size && Nat.beq inf.bytes i.bytes && Nat.beq i.zero.list.length i.size && ptrOk P t && match inf.zero with
    | some z => listB z.cells.toList i.zero.list && ((isAggV z == i.k.agg) && (!i.eq || eqOk P t))
    | none => false
  | _, _ => false
def Tbl.ok (P : Program) (T : Tbl) : Bool := T.all fun x => tiOk P x.1 x.2
theorem valB_spec {a b : Value} (h : valB a b = true) : a = b := by
  unfold valB at h
  split at h
  · simp only [Bool.and_eq_true, decide_eq_true_eq] at h; rw [IntKind.eqb_spec h.1, h.2]
  · rw [of_decide_eq_true h]
  · rfl
  · rfl
  · have := of_decide_eq_true h
    rename_i a b
    cases a; cases b; simp_all
  · rfl
  · rfl
  · cases h
theorem listB_spec : ∀ {a b : List Value}, listB a b = true → a = b
  | [], [], _ => rfl
  | a :: r, b :: s, h => by
    simp only [listB, Bool.and_eq_true] at h
    rw [valB_spec h.1, listB_spec h.2]
  | [], _ :: _, h => by simp [listB] at h
  | _ :: _, [], h => by simp [listB] at h
structure TyFact (P : Program) (t : Nat) (i : TI) : Prop where
  desc : ∃ d, P.underlying t = some d ∧ descOk i.k d = true
  info : ∃ inf, P.info? t = some inf ∧ inf.size = i.size ∧ inf.bytes = i.bytes ∧ ∃ z, inf.zero = some z ∧ z.cells.toList = i.zero.list ∧ isAggV z = i.k.agg
  len : i.zero.list.length = i.size
  eq : i.eq = true → eqOk P t = true
  ptr : ∀ e, P.underlying t = some (.pointer e) → ∃ j, P.info? e = some j
theorem Tbl.at_mem : ∀ {T : Tbl} {t : Nat}, (T.at t).k ≠ .other → (t, T.at t) ∈ T
  | [], t, h => by simp [Tbl.at] at h
  | (i, x) :: r, t, h => by
    simp only [Tbl.at] at h ⊢
    cases hb : Nat.beq i t with
    | true => rw [hb] at h; simp [Nat.eq_of_beq_eq_true hb]
    | false => rw [hb] at h; simp only [cond_false] at h ⊢; exact List.mem_cons_of_mem _ (Tbl.at_mem h)
theorem Tbl.fact {P : Program} {T : Tbl} (h : T.ok P = true) {t : Nat} (hk : (T.at t).k ≠ .other) : TyFact P t (T.at t) := by
  have h1 := List.all_eq_true.1 h _ (Tbl.at_mem hk)
  simp only [tiOk] at h1
  split at h1
  · rename_i inf d hi hd
    simp only [Bool.and_eq_true] at h1
    obtain ⟨⟨⟨⟨⟨h2, h3⟩, h4⟩, h6⟩, h7⟩, h5⟩ := h1
    split at h5
    · rename_i z hz
      simp only [Bool.and_eq_true, beq_iff_eq] at h5
      refine ⟨⟨d, hd, h2⟩, ⟨inf, hi, Nat.eq_of_beq_eq_true h3, Nat.eq_of_beq_eq_true h4, z, hz, listB_spec h5.1, h5.2.1⟩, Nat.eq_of_beq_eq_true h6, fun he => ?_, fun e he => ?_⟩
      · have := h5.2.2
        rw [he] at this
        simpa using this
      · unfold ptrOk at h7
        rw [he] at h7
        exact Option.isSome_iff_exists.1 h7
    · cases h5
  · cases h1
section
variable {P : Program} {t : Nat} {i : TI} (h : TyFact P t i) (w : World)
include h
theorem TyFact.size : (sizeOf t).run P w = .ok i.size w := by
  obtain ⟨inf, hi, hs, _⟩ := h.info
  simp [sizeOf, typeInfo, hi, hs]
theorem TyFact.typeInfo : ∃ inf, (typeInfo t).run P w = .ok inf w ∧ inf.bytes = i.bytes ∧ inf.size = i.size := by
  obtain ⟨inf, hi, hs, hb, _⟩ := h.info
  exact ⟨inf, by simp [Go.typeInfo, hi], hb, hs⟩
omit w in
theorem TyFact.zero : ∃ z, (∀ w, (zeroValue t).run P w = .ok z w) ∧ z.cells.toList = i.zero.list ∧ isAggV z = i.k.agg := by
  obtain ⟨inf, hi, _, _, z, hz, h1, h2⟩ := h.info
  exact ⟨z, fun w => by simp [zeroValue, Go.typeInfo, hi, hz], h1, h2⟩
theorem TyFact.under : ∃ d, (underlying t).run P w = .ok d w ∧ descOk i.k d = true := by
  obtain ⟨d, hd, hk⟩ := h.desc
  exact ⟨d, run_underlying hd w, hk⟩
theorem TyFact.isAgg : (isAgg t).run P w = .ok i.k.agg w := by
  obtain ⟨d, hd, hk⟩ := h.desc
  cases hk' : i.k <;> rw [hk'] at hk <;> cases d <;> first | (simp [descOk] at hk; done) | simp [Go.isAgg, run_underlying hd, TK.agg]
end
theorem under_int {P : Program} {t : Nat} {i : TI} (h : TyFact P t i) {kd : IntKind} (hk : i.k = .int kd) : P.underlying t = some (.int kd) := by
  obtain ⟨d, hd, hx⟩ := h.desc
  rw [hk] at hx
  cases d <;> simp [descOk] at hx
  rw [hd, IntKind.eqb_spec hx]
theorem under_bool {P : Program} {t : Nat} {i : TI} (h : TyFact P t i) (hk : i.k = .bool) : P.underlying t = some .bool := by
  obtain ⟨d, hd, hx⟩ := h.desc
  rw [hk] at hx
  cases d <;> simp [descOk] at hx
  exact hd
theorem under_str {P : Program} {t : Nat} {i : TI} (h : TyFact P t i) (hk : i.k = .str) : P.underlying t = some .string := by
  obtain ⟨d, hd, hx⟩ := h.desc
  rw [hk] at hx
  cases d <;> simp [descOk] at hx
  exact hd
theorem under_ptr {P : Program} {t : Nat} {i : TI} (h : TyFact P t i) (hk : i.k = .ptr) : ∃ e, P.underlying t = some (.pointer e) := by
  obtain ⟨d, hd, hx⟩ := h.desc
  rw [hk] at hx
  cases d <;> simp [descOk] at hx
  exact ⟨_, hd⟩
theorem under_slice {P : Program} {t e : Nat} {i : TI} (h : TyFact P t i) (hk : i.k = .slice e) : P.underlying t = some (.slice e) := by
  obtain ⟨d, hd, hx⟩ := h.desc
  rw [hk] at hx
  cases d <;> simp [descOk] at hx
  rw [hd, hx]
theorem under_arr {P : Program} {t n e : Nat} {i : TI} (h : TyFact P t i) (hk : i.k = .arr n e) : P.underlying t = some (.array n e) := by
  obtain ⟨d, hd, hx⟩ := h.desc
  rw [hk] at hx
  cases d <;> simp [descOk] at hx
  rw [hd, hx.1, hx.2]
theorem under_func {P : Program} {t : Nat} {i : TI} (h : TyFact P t i) (hk : i.k = .func) : ∃ a b c, P.underlying t = some (.func a b c) := by
  obtain ⟨d, hd, hx⟩ := h.desc
  rw [hk] at hx
  cases d <;> simp [descOk] at hx
  exact ⟨_, _, _, hd⟩
theorem under_struct {P : Program} {t : Nat} {fs : List (Nat × Nat)} {i : TI} (h : TyFact P t i) (hk : i.k = .struct fs) :
    ∃ gs : Array Field, P.underlying t = some (.struct gs) ∧ gs.toList.map (fun f => (f.offset, f.type)) = fs := by
  obtain ⟨d, hd, hx⟩ := h.desc
  rw [hk] at hx
  cases d <;> simp [descOk] at hx
  rename_i gs
  exact ⟨gs, hd, hx⟩

/-! ### slots -/
section
variable {ψ : Nat → Nat} {N : Nat} {D : HD} {m0 : Mem} {w0 : World} {S : St} {a : Act} {w : World}
theorem lkK_spec : ∀ {e : Env} {t : Nat} {k : AV → Prop}, lkK e t k → ∃ x, lk e t = some x ∧ k x
  | [], _, _, h => h.elim
  | (i, x) :: e, t, k, h => by
    simp only [lkK] at h
    simp only [lk]
    cases hb : Nat.beq i t with
    | true => rw [hb] at h; rw [if_pos (Nat.eq_of_beq_eq_true hb)]; exact ⟨x, rfl, h⟩
    | false => rw [hb] at h; rw [if_neg (Nat.ne_of_beq_eq_false hb)]; exact lkK_spec h
theorem Rel.ev (h : Rel ψ N D m0 w0 S a w) {o : Operand} {k : AV → Prop} (hk : evK S o k) : ∃ x, x.is ψ S.ls.length (a.eval o) ∧ k x := by
  cases o with
  | tmp t => obtain ⟨x, hx, hk⟩ := lkK_spec hk; exact ⟨x, h.env _ _ hx, hk⟩
  | const v => exact ⟨.v v, rfl, hk⟩
  | global g => exact ⟨.v (.pointer (some ⟨g, 0, none⟩)), rfl, hk⟩
  | func f => exact ⟨.v (.func (.func f) #[] #[]), rfl, hk⟩
theorem valK_spec {x : AV} {k : Value → Prop} {L : Nat} {v : Value} (h : valK x k) (hx : x.is ψ L v) : k v := by
  cases x <;> simp only [AV.is] at hx <;> first | exact h.elim | (subst hx; exact h)
theorem Rel.evs (h : Rel ψ N D m0 w0 S a w) : ∀ {os : List Operand} {k : List Value → Prop}, evsK S os k → k (os.map a.eval)
  | [], _, hk => hk
  | o :: r, k, hk => by
    obtain ⟨x, hx, h2⟩ := h.ev hk
    have h3 := valK_spec h2 hx
    exact h.evs (os := r) (k := fun vs => k (a.eval o :: vs)) h3
/-- The memory that is told turns; the boxes stay. -/
theorem Rel.mem (h : Rel ψ N D m0 w0 S a w) {m' : Mem} {w' : World} (hf : Frame m0 w0 m' w') (hb : ∀ k, k < w.heap.size → S.m k = none → w'.heap[k]? = w.heap[k]? ∧ m' k = none) : Rel ψ N D m0 w0 { S with m := m' } a w' :=
  ⟨h.size, h.defers, h.env, fun i c hc => by
    obtain ⟨e, h1, h2, h3⟩ := h.box i c hc
    have hk := hb _ (Array.getElem?_eq_some_iff.1 h1).1 h2
    exact ⟨e, hk.1.trans h1, hk.2, h3⟩, h.inj, hf, fun b o hd => by
    obtain ⟨h1, h2, h4⟩ := h.marks b o hd
    have hk := hb _ (Array.getElem?_eq_some_iff.1 h1).1 h2
    exact ⟨hk.1.trans h1, hk.2, h4⟩⟩
theorem Rel.boxLt (h : Rel ψ N D m0 w0 S a w) {i : Nat} (hi : i < S.ls.length) : ψ i < w.heap.size := by
  obtain ⟨e, h1, _⟩ := h.box i S.ls[i] (List.getElem?_eq_getElem hi)
  exact (Array.getElem?_eq_some_iff.1 h1).1
theorem Rel.boxNone (h : Rel ψ N D m0 w0 S a w) {i : Nat} (hi : i < S.ls.length) : S.m (ψ i) = none := by
  obtain ⟨e, _, h2, _⟩ := h.box i S.ls[i] (List.getElem?_eq_getElem hi)
  exact h2
theorem Rel.sub (h : Rel ψ N D m0 w0 S a w) : S.m.sub w := h.frame.sub
theorem Rel.drew (h : Rel ψ N D m0 w0 S a w) {n : Nat} (hn : w.drawn ≤ n) : Rel ψ N D m0 w0 S a { w with drawn := n } :=
  ⟨h.size, h.defers, h.env, h.box, h.inj, h.frame.drew hn, h.marks⟩
theorem Rel.setCell (h : Rel ψ N D m0 w0 S a w) {p : Addr} {u : Value} (v : Value) (hp : S.m.cell p = some u) : Rel ψ N D m0 w0 { S with m := S.m.setCell p v } a (w.setCell p v) := by
  have hd := Mem.cell_dom hp
  refine h.mem (h.frame.setCell v hd) fun k hk hn => ?_
  have hne : k ≠ p.block := fun e => hd (e ▸ hn)
  exact ⟨by rw [heap_setCell, if_neg hne], by unfold Mem.setCell; rw [if_neg hne]; exact hn⟩
theorem Rel.alloc (h : Rel ψ N D m0 w0 S a w) (o : Obj) : Rel ψ N D m0 w0 { S with m := S.m.set w.heap.size o } a (w.alloc o) := by
  refine h.mem (h.frame.alloc o) fun k hk hn => ?_
  have hne : k ≠ w.heap.size := by omega
  exact ⟨by rw [heap_alloc, if_neg hne], by unfold Mem.set; rw [if_neg hne]; exact hn⟩
theorem Rel.fresh (h : Rel ψ N D m0 w0 S a w) : S.m w.heap.size = none := by
  cases hm : S.m w.heap.size with
  | none => rfl
  | some o => exact absurd (Mem.sub_lt h.sub (b := w.heap.size) (by rw [hm]; simp)) (Nat.lt_irrefl _)
theorem AV.is_mono {x : AV} {ψ ψ' : Nat → Nat} {L L' : Nat} {v : Value} (h : x.is ψ L v) (hL : L ≤ L') (hψ : ∀ i, i < L → ψ' i = ψ i) : x.is ψ' L' v := by
  cases x <;> simp only [AV.is] at h ⊢ <;> try exact h
  exact ⟨by omega, by rw [hψ _ h.1]; exact h.2⟩
theorem Rel.newbox (h : Rel ψ N D m0 w0 S a w) (c : LC) (e : Nat) :
    ∃ ψ', ψ' S.ls.length = w.heap.size ∧ Rel ψ' N D m0 w0 { S with ls := S.ls ++ [c] } a (w.alloc (.cells c.list.toArray e (0, 0))) := by
  refine ⟨fun i => if i = S.ls.length then w.heap.size else ψ i, by simp, h.size, h.defers, fun i x hx => ?_, fun i c' hc => ?_, fun i j hi hj he => ?_, h.frame.junk _, fun b o hd => ?_⟩
  · refine AV.is_mono (h.env i x hx) (by simp) fun j hj => ?_
    rw [if_neg (by omega)]
  · by_cases hi : i = S.ls.length
    · subst hi
      simp at hc
      subst hc
      refine ⟨e, ?_, ?_, ?_⟩
      · show (w.alloc _).heap[if S.ls.length = S.ls.length then w.heap.size else ψ S.ls.length]? = _
        rw [if_pos rfl, heap_alloc, if_pos rfl]
      · simp only [if_true]; exact h.fresh
      · simp only [if_true]; exact h.frame.size
    · have hlt : i < S.ls.length := by
        have := (List.getElem?_eq_some_iff.1 hc).1
        simp at this
        omega
      rw [List.getElem?_append_left hlt] at hc
      obtain ⟨e', h1, h2, h3⟩ := h.box i c' hc
      have := h.boxLt hlt
      refine ⟨e', ?_, ?_, ?_⟩
      · simp only [if_neg hi]; rw [heap_alloc, if_neg (by omega)]; exact h1
      · simp only [if_neg hi]; exact h2
      · simp only [if_neg hi]; exact h3
  · simp at hi hj
    by_cases hi' : i = S.ls.length
    · by_cases hj' : j = S.ls.length
      · omega
      · have := h.boxLt (i := j) (by omega)
        simp only [if_pos hi', if_neg hj'] at he
        omega
    · by_cases hj' : j = S.ls.length
      · have := h.boxLt (i := i) (by omega)
        simp only [if_neg hi', if_pos hj'] at he
        omega
      · simp only [if_neg hi', if_neg hj'] at he
        exact h.inj i j (by omega) (by omega) he
  · obtain ⟨h1, h2, h4⟩ := h.marks b o hd
    have hlt := (Array.getElem?_eq_some_iff.1 h1).1
    refine ⟨by rw [heap_alloc, if_neg (by omega)]; exact h1, h2, fun i hi => ?_⟩
    by_cases hi' : i = S.ls.length
    · simp only [if_pos hi']; omega
    · simp only [if_neg hi']
      simp at hi
      exact h4 i (by omega)
/-- A store into a box. -/
theorem Rel.boxSet (h : Rel ψ N D m0 w0 S a w) {i : Nat} {c : LC} (hc : S.ls[i]? = some c) (c' : LC) (w' : World) (hw : ∃ e, w'.heap[ψ i]? = some (.cells c'.list.toArray e (0, 0)))
    (ho : ∀ k, k ≠ ψ i → w'.heap[k]? = w.heap[k]?) (hs : w'.heap.size = w.heap.size) (h1 : w'.os = w.os) (h2 : w'.tape = w.tape ∧ w.drawn ≤ w'.drawn) (h3 : w'.output = w.output) : Rel ψ N D m0 w0 { S with ls := S.ls.set i c' } a w' := by
  have hi : i < S.ls.length := (List.getElem?_eq_some_iff.1 hc).1
  obtain ⟨e0, hb1, hb2, hb3⟩ := h.box i c hc
  refine ⟨h.size, h.defers, fun j x hx => ?_, fun j c2 hc2 => ?_, ?_, ?_, fun b o hd => ?_⟩
  · simp only [List.length_set]; exact h.env j x hx
  · by_cases hij : i = j
    · subst hij
      simp only [List.getElem?_set_self hi] at hc2
      cases hc2
      obtain ⟨e, he⟩ := hw
      exact ⟨e, he, hb2, hb3⟩
    · rw [List.getElem?_set_ne hij] at hc2
      obtain ⟨e, g1, g2, g3⟩ := h.box j c2 hc2
      have hj : j < S.ls.length := (List.getElem?_eq_some_iff.1 hc2).1
      refine ⟨e, ?_, g2, g3⟩
      rw [ho _ (fun heq => hij (h.inj i j hi hj heq.symm))]
      exact g1
  · intro i j hi hj he
    simp only [List.length_set] at hi hj
    exact h.inj i j hi hj he
  · refine ⟨h1.trans h.frame.os, ⟨h2.1.trans h.frame.tape.1, Nat.le_trans h.frame.tape.2 h2.2⟩, h3.trans h.frame.output, by rw [hs]; exact h.frame.size, fun b o hb => ?_, fun b hb hn => ?_, h.frame.dom⟩
    · rw [ho b (fun heq => by subst heq; rw [hb2] at hb; cases hb)]
      exact h.frame.sub b o hb
    · rw [ho b (by omega)]
      exact h.frame.keep b hb hn
  · obtain ⟨g1, g2, g4⟩ := h.marks b o hd
    exact ⟨(ho b (Ne.symm (g4 i hi))).trans g1, g2, fun j hj => g4 j (by simpa using hj)⟩
end
end Go.Mv
