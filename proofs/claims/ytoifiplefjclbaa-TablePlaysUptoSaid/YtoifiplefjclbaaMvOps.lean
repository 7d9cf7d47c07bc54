/- Mv: each operation does what vcOp says. -/
import Derived.Test.YtoifiplefjclbaaMvRel
import Derived.Lib.Builder
import Derived.Laws.StructEq
import Derived.Laws.Pointers
import Derived.Laws.Cover3
namespace Go.Mv
open Go

def Fr (r : Option Nat) : Fence := { Fence.wide with round := r }
theorem fr_calls {P : Program} {r : Option Nat} {n : Nat} {f : FuncId} {args : Array Value} {w : World} {R : Ending → World → Prop} (h : Calls P f args w R) : CallsIn (Fr r) n P f args w R :=
  (callsIn_wide.2 h : CallsIn Fence.wide n P f args w R)

def Stp (P : Program) (r : Option Nat) (N : Nat) (D : HD) (m0 : Mem) (w0 : World) (Q : Exit → Act → World → Prop) (o : Oper) (a : Act) (w : World) (K : St → Prop) : Prop :=
  ∀ next : Act → World → Prop, (∀ S' a' w', K S' → Relx N D m0 w0 S' a' w' → next a' w') → o.wpIn (Fr r) 0 P a w next Q

section
variable {P : Program} {r : Option Nat} {T : Tbl} {pr : List Nat} {ψ : Nat → Nat} {N : Nat} {D : HD} {m0 : Mem} {w0 : World} {Q : Exit → Act → World → Prop} {S S' : St} {o : Oper} {a : Act} {w w' : World} {K : St → Prop} {v : Value}

theorem Stp.val (hnd : ∀ c, o.op ≠ .defer c) (hrun : (execOp a.eval o).run P w = .ok (.value v) w') (hK : K S') (hR : Relx N D m0 w0 S' (a.put o.dst v) w') : Stp P r N D m0 w0 Q o a w K := by
  intro next hn
  refine ⟨fun f _ => trivial, ?_⟩
  rw [Oper.semAt_eq _ _ _ hnd, hrun]
  exact hn _ _ _ hK hR
theorem Stp.skip (hnd : ∀ c, o.op ≠ .defer c) (hrun : (execOp a.eval o).run P w = .ok .skip w') (hK : K S') (hR : Relx N D m0 w0 S' (a.put o.dst undef) w') : Stp P r N D m0 w0 Q o a w K := by
  intro next hn
  refine ⟨fun f _ => trivial, ?_⟩
  rw [Oper.semAt_eq _ _ _ hnd, hrun]
  exact hn _ _ _ hK hR
theorem Stp.enter {f : FuncId} {args : Array Value} (hnd : ∀ c, o.op ≠ .defer c) (hrun : (execOp a.eval o).run P w = .ok (.enter f args) w')
    (hc : Calls P f args w' fun e w'' => ∃ v, e = .returned v ∧ ∃ S', K S' ∧ Relx N D m0 w0 S' (a.put o.dst v) w'') : Stp P r N D m0 w0 Q o a w K := by
  intro next hn
  refine ⟨fun f _ => trivial, ?_⟩
  rw [Oper.semAt_eq _ _ _ hnd, hrun]
  refine ⟨fun h => by simp [Fr, Fence.wide] at h, (fr_calls (hc.mono fun e w'' h => ?_) : CallsIn (Fr r) (0 - 1) P f args w' _)⟩
  obtain ⟨v, rfl, S', hK, hR⟩ := h
  exact hn _ _ _ hK hR

theorem Stp.round {l : Nat} {f : FuncId} {tmps : Array Value} {assign body : Code} (hnd : ∀ c, o.op ≠ .defer c) (hrun : (execOp a.eval o).run P w = .ok (.round l f tmps assign body) w')
    (hc : RoundIn Fence.wide 0 P l f tmps assign body w' fun e w'' => ∃ v, e = .returned v ∧ ∃ S', K S' ∧ Relx N D m0 w0 S' (a.put o.dst v) w'') : Stp P r N D m0 w0 Q o a w K := by
  intro next hn
  refine ⟨fun f _ => trivial, ?_⟩
  rw [Oper.semAt_eq _ _ _ hnd, hrun]
  refine ⟨fun h => by simp [Fr, Fence.wide] at h, ((hc.mono fun e w'' h => ?_ : RoundIn Fence.wide 0 P l f tmps assign body w' _) : RoundIn (Fr r) (0 - 1) P l f tmps assign body w' _)⟩
  obtain ⟨v, rfl, S', hK, hR⟩ := h
  exact hn _ _ _ hK hR

/-! #### what is read -/
theorem loadScalar (h : S.m.sub w) {p : Addr} {t : Nat} (hf : TyFact P t (T.at t)) (hna : (T.at t).k.agg = false) {v : Value} (hc : S.m.cell p = some v) : (loadVar t p).run P w = .ok v w := by
  have := hf.isAgg w
  rw [hna] at this
  simp [loadVar, this, Mem.sub_cell h hc]
theorem loadRow (h : S.m.sub w) {p : Addr} {t : Nat} (hf : TyFact P t (T.at t)) (ha : (T.at t).k.agg = true) {vs : List Value} (hl : vs.length = (T.at t).size) (hc : ∀ i v, vs[i]? = some v → S.m.cell (p.add i) = some v) :
    (loadVar t p).run P w = .ok (.agg vs.toArray) w := by
  have h1 := hf.isAgg w
  rw [ha] at h1
  have h2 := run_loadCells_list (P := P) (w := w) p vs (fun j v hj => Mem.sub_cell h (hc j v hj))
  simp [loadVar, h1, hf.size w, ← hl, h2]
theorem ldS_spec {m : Mem} {p : Addr} {tk : TK} {k : Value → Prop} (h : ldS m p tk k) : tk.agg = false ∧ tk ≠ .other ∧ ∃ v, m.cell p = some v ∧ k v := by
  cases tk <;> simp only [ldS] at h
  · obtain ⟨x, h1, h2⟩ := h; exact ⟨rfl, by simp, _, h1, h2⟩
  · obtain ⟨x, h1, h2⟩ := h; exact ⟨rfl, by simp, _, h1, h2⟩
  · obtain ⟨x, h1, h2⟩ := h; exact ⟨rfl, by simp, _, h1, h2⟩
  · obtain ⟨x, h1, h2⟩ := h; exact ⟨rfl, by simp, _, h1, h2⟩
  · obtain ⟨x, n, c, h1, h2⟩ := h; exact ⟨rfl, by simp, _, h1, h2⟩
  · obtain ⟨x, h1, h2⟩ := h; exact ⟨rfl, by simp, _, h1, h2⟩
theorem ldL_spec {m : Mem} {p : Addr} : ∀ {tks : List TK} {i : Nat} {k : List Value → Prop}, ldL m p i tks k → ∃ vs, vs.length = tks.length ∧ (∀ j v, vs[j]? = some v → m.cell (p.add (i + j)) = some v) ∧ k vs
  | [], i, k, h => ⟨[], rfl, fun j v hj => by simp at hj, h⟩
  | tk :: r, i, k, h => by
    rw [ldL_cons] at h
    obtain ⟨_, _, v, hv, h2⟩ := ldS_spec h
    obtain ⟨vs, hl, hc, hk⟩ := ldL_spec h2
    refine ⟨v :: vs, by simp [hl], fun j u hj => ?_, hk⟩
    cases j with
    | zero => simp at hj; subst hj; exact hv
    | succ j => simp at hj; have := hc j u hj; rwa [Nat.add_assoc, Nat.add_comm 1 j] at this
theorem intCells_get {kd : IntKind} {xs : List Int} {i : Nat} {v : Value} (h : (intCells kd xs)[i]? = some v) : i < xs.length ∧ v = .int kd (xs.getD i 0) := by
  simp only [intCells, List.getElem?_map, Option.map_eq_some_iff] at h
  obtain ⟨x, hx, rfl⟩ := h
  exact ⟨(List.getElem?_eq_some_iff.1 hx).1, by simp [List.getD_eq_getElem?_getD, hx]⟩
theorem boolCells_get {xs : List Bool} {i : Nat} {v : Value} (h : (boolCells xs)[i]? = some v) : i < xs.length ∧ v = .bool (xs.getD i false) := by
  simp only [boolCells, List.getElem?_map, Option.map_eq_some_iff] at h
  obtain ⟨x, hx, rfl⟩ := h
  exact ⟨(List.getElem?_eq_some_iff.1 hx).1, by simp [List.getD_eq_getElem?_getD, hx]⟩
/-- A load from memory that is told. -/
theorem ldT_sound (hT : T.ok P = true) {p : Addr} {t : Nat} {k : AV → Prop} (hk : ldT T S.m p t k) (ψ : Nat → Nat) (L : Nat) : ∃ v x, (∀ w, S.m.sub w → (loadVar t p).run P w = .ok v w) ∧ x.is ψ L v ∧ k x := by
  unfold ldT at hk
  split at hk
  · rename_i n e hn
    obtain ⟨hs, hk⟩ := req_spec hk
    have hf := Tbl.fact hT (t := t) (by rw [hn]; simp)
    have hs := Nat.eq_of_beq_eq_true hs
    split at hk
    · obtain ⟨xs, hl, hc, hk⟩ := hk
      refine ⟨_, .ints _ xs, fun w h => loadRow h hf (by rw [hn]; rfl) (vs := intCells _ xs) (by simp [intCells, hl, hs]) (fun i v hi => ?_), rfl, hk⟩
      obtain ⟨hlt, rfl⟩ := intCells_get hi
      exact hc i (by omega)
    · obtain ⟨xs, hl, hc, hk⟩ := hk
      refine ⟨_, .bools xs, fun w h => loadRow h hf (by rw [hn]; rfl) (vs := boolCells xs) (by simp [boolCells, hl, hs]) (fun i v hi => ?_), rfl, hk⟩
      obtain ⟨hlt, rfl⟩ := boolCells_get hi
      exact hc i (by omega)
    · exact hk.elim
  · rename_i fs hn
    obtain ⟨hs, hk⟩ := req_spec hk
    have hf := Tbl.fact hT (t := t) (by rw [hn]; simp)
    have hs := Nat.eq_of_beq_eq_true hs
    obtain ⟨vs, hl, hc, hk⟩ := ldL_spec hk
    exact ⟨_, .v _, fun w h => loadRow h hf (by rw [hn]; rfl) (vs := vs) (by omega) (fun i v hi => by simpa using hc i v hi), rfl, hk⟩
  · obtain ⟨hna, hno, v, hc, hk⟩ := ldS_spec hk
    exact ⟨v, .v v, fun w h => loadScalar h (Tbl.fact hT hno) hna hc, rfl, hk⟩
theorem box_cell (h : Rel ψ N D m0 w0 S a w) {i : Nat} {c : LC} (hc : S.ls[i]? = some c) {off : Nat} {v : Value} (hv : c.list[off]? = some v) : w.cell? ⟨ψ i, off, none⟩ = some v := by
  obtain ⟨e, h1, _⟩ := h.box i c hc
  simp [World.cell?, h1, hv]
theorem ldLoc_sound (hT : T.ok P = true) {i : Nat} {c : LC} (hc : S.ls[i]? = some c) {off t : Nat} {k : AV → Prop} (hk : ldLoc T c off t k) :
    ∃ v x, (∀ w, Rel ψ N D m0 w0 S a w → (loadVar t ⟨ψ i, off, none⟩).run P w = .ok v w) ∧ x.is ψ S.ls.length v ∧ k x := by
  have scalar : ∀ {t : Nat}, (T.at t).k.agg = false → (T.at t).k ≠ .other → ∀ {v : Value}, c.list[off]? = some v → ∀ w, Rel ψ N D m0 w0 S a w → (loadVar t ⟨ψ i, off, none⟩).run P w = .ok v w := by
    intro t hna hno v hv w h
    have h1 := (Tbl.fact hT hno).isAgg w
    rw [hna] at h1
    simp [loadVar, h1, box_cell h hc hv]
  have row : ∀ {t : Nat}, (T.at t).k.agg = true → (T.at t).k ≠ .other → ∀ {vs : List Value}, vs.length = (T.at t).size → (∀ j v, vs[j]? = some v → c.list[off + j]? = some v) → ∀ w, Rel ψ N D m0 w0 S a w → (loadVar t ⟨ψ i, off, none⟩).run P w = .ok (.agg vs.toArray) w := by
    intro t ha hno vs hl hv w h
    have hf := Tbl.fact hT hno
    have h1 := hf.isAgg w
    rw [ha] at h1
    have h2 := run_loadCells_list (P := P) (w := w) ⟨ψ i, off, none⟩ vs (fun j v hj => by
      have h3 := box_cell h hc (hv j v hj)
      unfold Addr.add
      split
      · rename_i h0; subst h0; simpa using h3
      · exact h3)
    simp [loadVar, h1, hf.size w, ← hl, h2]
  unfold ldLoc at hk
  split at hk
  · rename_i hn
    obtain ⟨h0, hs, hk⟩ := hk
    subst h0
    refine ⟨_, .ints _ _, row (by rw [hn]; rfl) (by rw [hn]; simp) (vs := intCells _ _) (by simp [intCells, hs]) (fun j v hj => by simpa [LC.list] using hj), rfl, hk⟩
  · rename_i hn
    obtain ⟨h0, hs, hk⟩ := hk
    subst h0
    refine ⟨_, .bools _, row (by rw [hn]; rfl) (by rw [hn]; simp) (vs := boolCells _) (by simp [boolCells, hs]) (fun j v hj => by simpa [LC.list] using hj), rfl, hk⟩
  · rename_i fs l hn
    obtain ⟨hs, hk⟩ := req_spec hk
    have hs := Nat.le_of_ble_eq_true hs
    refine ⟨_, .v _, row (by rw [hn]; rfl) (by rw [hn]; simp) (vs := (l.drop off).take (T.at t).size) (by simp; omega) (fun j v hj => ?_), rfl, hk⟩
    have := (List.getElem?_eq_some_iff.1 hj).1
    simp at this
    rw [List.getElem?_take_of_lt (by omega)] at hj
    simpa [LC.list] using hj
  · rename_i kd kd' xs hn
    obtain ⟨hs, hlt, hk⟩ := req_spec hk
    have hs := IntKind.eqb_spec hs
    subst hs
    refine ⟨_, .v _, scalar (by rw [hn]; rfl) (by rw [hn]; simp) (v := .int kd (xs.getD off 0)) ?_, rfl, hk⟩
    simp [LC.list, intCells, hlt]
  · rename_i xs hn
    obtain ⟨hlt, hk⟩ := hk
    refine ⟨_, .v _, scalar (by rw [hn]; rfl) (by rw [hn]; simp) (v := .bool (xs.getD off false)) ?_, rfl, hk⟩
    simp [LC.list, boolCells, hlt]
  all_goals first
    | exact hk.elim
    | skip
  split at hk
  · rename_i v hv
    refine ⟨v, .v v, scalar ?_ ?_ hv, rfl, hk⟩
    · cases hk' : (T.at t).k <;> first | rfl | (exfalso; simp_all)
    · intro hk'; simp_all
  · exact hk.elim

/-! #### what is written -/
theorem run_store1 {p : Addr} {u v : Value} (hv : v.oneCell' = true) (hc : w.cell? p = some u) (hf : w.frozen? p = false) : (store p v).run P w = .ok () (w.setCell p v) := by
  cases v <;> first | (simp [Value.oneCell'] at hv; done) | simp [store, Sem.run, hc, hf]
/-- Rows that are written, cell by cell: through the relation. -/
theorem setCell_cell {m : Mem} {p q : Addr} {v u : Value} (hq : m.cell q = some u) : ∃ u', (m.setCell p v).cell q = some u' := by
  unfold Mem.cell Mem.setCell at *
  by_cases h : q.block = p.block
  · rw [if_pos h]
    cases hm : m q.block with
    | none => simp [hm] at hq
    | some o =>
      rw [hm] at hq
      cases o <;> first | (simp at hq; done) | skip
      rename_i c e f
      simp only at hq ⊢
      by_cases hs : q.spot.isSome = true
      · simp [hs] at hq
      · simp only [hs, if_false, Bool.false_eq_true] at hq ⊢
        have hlt := (Array.getElem?_eq_some_iff.1 hq).1
        by_cases hp : p.spot.isSome = true
        · simp only [hp, if_true]; exact ⟨_, hq⟩
        · simp only [hp, if_false, Bool.false_eq_true]
          exact ⟨_, Array.getElem?_eq_getElem (by simpa using hlt)⟩
  · rw [if_neg h]; exact ⟨u, hq⟩
theorem setCell_fz {m : Mem} {p q : Addr} {v : Value} : (m.setCell p v).fz q = m.fz q := by
  unfold Mem.fz Mem.setCell
  by_cases h : q.block = p.block
  · rw [if_pos h]
    cases hm : m q.block with
    | none => rfl
    | some o => cases o <;> rfl
  · rw [if_neg h]
theorem room_setCell {m : Mem} {p q : Addr} {v : Value} {n : Nat} (h : m.room p n) : (m.setCell q v).room p n := fun i hi => by
  obtain ⟨⟨u, hu⟩, hf⟩ := h i hi
  exact ⟨setCell_cell hu, by rw [setCell_fz]; exact hf⟩
theorem Rel.storeCells (ψ : Nat → Nat) : ∀ (vs : List Value) (S : St) (w : World) (p : Addr) (i n : Nat), Rel ψ N D m0 w0 S a w → S.m.room p n → i + vs.length ≤ n → oneCells vs = true →
    ∃ w', (Go.storeCells p vs i).run P w = .ok () w' ∧ Rel ψ N D m0 w0 { S with m := S.m.setCells p i vs } a w'
  | [], S, w, p, i, n, h, _, _, _ => ⟨w, rfl, h⟩
  | v :: vs, S, w, p, i, n, h, hr, hl, ho => by
    simp only [oneCells, Bool.and_eq_true] at ho
    simp at hl
    obtain ⟨⟨u, hu⟩, hf⟩ := hr i (by omega)
    have h1 := run_store1 (P := P) ho.1 (Mem.sub_cell h.sub hu) (by rw [Mem.sub_fz h.sub hu]; exact hf)
    have h2 := h.setCell v hu
    obtain ⟨w', hw, h3⟩ := Rel.storeCells ψ vs { S with m := S.m.setCell (p.add i) v } _ p (i + 1) n h2 (room_setCell hr) (by omega) ho.2
    refine ⟨w', ?_, h3⟩
    simp only [Go.storeCells, Sem.run_bind, h1, Result.andThen_ok]
    exact hw
theorem oneCells_ints {kd : IntKind} : ∀ (xs : List Int), oneCells (intCells kd xs) = true
  | [] => rfl
  | _ :: r => by simp only [intCells, List.map_cons, oneCells, Value.oneCell', Bool.true_and]; exact oneCells_ints r
theorem oneCells_bools : ∀ (xs : List Bool), oneCells (boolCells xs) = true
  | [] => rfl
  | _ :: r => by simp only [boolCells, List.map_cons, oneCells, Value.oneCell', Bool.true_and]; exact oneCells_bools r
theorem one_cells {v : Value} (h : v.oneCell' = true) : v.cells = #[v] := by cases v <;> first | rfl | cases h
theorem tyfact_of_size (hT : T.ok P = true) {t : Nat} (h : (T.at t).size ≠ 0) : TyFact P t (T.at t) := by
  refine Tbl.fact hT fun hk => ?_
  have : ∀ {T : Tbl}, T.ok P = true → (T.at t).k = .other → (T.at t).size = 0 := by
    intro T hT hk
    induction T with
    | nil => rfl
    | cons x r ih =>
      obtain ⟨i, x⟩ := x
      simp only [Tbl.at] at hk ⊢
      simp only [Tbl.ok, List.all_cons, Bool.and_eq_true] at hT
      cases hb : Nat.beq i t with
      | true =>
        exfalso
        rw [hb] at hk
        simp only [cond_true] at hk
        have h1 := hT.1
        simp only [tiOk] at h1
        split at h1
        · rw [hk] at h1; simp [descOk] at h1
        · cases h1
      | false =>
        rw [hb] at hk
        exact ih hT.2 hk
  exact h (this hT hk)
theorem stMem_sound (hT : T.ok P = true) (h : Rel ψ N D m0 w0 S a w) {p : Addr} {t : Nat} {x : AV} {v : Value} (hx : x.is ψ S.ls.length v) {k : Mem → Prop} (hk : stMem T S.m p t x k) (ht : (T.at t).size ≠ 0) :
    ∃ w' m', (storeVar t p v).run P w = .ok () w' ∧ k m' ∧ Rel ψ N D m0 w0 { S with m := m' } a w' := by
  have hf := tyfact_of_size hT ht
  have row : ∀ {vs : List Value}, v.cells.toList = vs → vs.length = (T.at t).size → oneCells vs = true → S.m.room p (T.at t).size → ∃ w', (storeVar t p v).run P w = .ok () w' ∧ Rel ψ N D m0 w0 { S with m := S.m.setCells p 0 vs } a w' := by
    intro vs hv hl ho hr
    obtain ⟨w', hw, h2⟩ := Rel.storeCells (P := P) ψ vs S w p 0 _ h hr (by omega) ho
    refine ⟨w', ?_, h2⟩
    have hsz : v.cells.size = (T.at t).size := by rw [← hl, ← hv]; simp
    simp [storeVar, hf.size w, hsz, hv, hw]
  unfold stMem at hk
  split at hk
  · rename_i cs
    obtain ⟨hl, ho, hr, hk⟩ : _ ∧ _ ∧ _ ∧ _ := ⟨(req_spec hk).1, (req_spec (req_spec hk).2).1, (req_spec (req_spec hk).2).2⟩
    simp only [AV.is] at hx
    subst hx
    obtain ⟨w', h1, h2⟩ := row (vs := cs.toList) rfl (Nat.eq_of_beq_eq_true hl) ho hr
    exact ⟨w', _, h1, hk, h2⟩
  · rename_i v' _
    obtain ⟨hl, ho, ⟨⟨u, hu⟩, hz⟩, hk⟩ : _ ∧ _ ∧ _ ∧ _ := ⟨(req_spec hk).1, (req_spec (req_spec hk).2).1, (req_spec (req_spec hk).2).2⟩
    simp only [AV.is] at hx
    subst hx
    have hl := Nat.eq_of_beq_eq_true hl
    refine ⟨_, _, ?_, hk, h.setCell _ hu⟩
    have h1 := run_store1 (P := P) ho (Mem.sub_cell h.sub hu) (by rw [Mem.sub_fz h.sub hu]; exact hz)
    have h0 : p.add 0 = p := rfl
    simp [storeVar, hf.size w, one_cells ho, hl, Go.storeCells, h0, h1]
  · obtain ⟨hl, hr, hk⟩ := hk
    simp only [AV.is] at hx
    subst hx
    obtain ⟨w', h1, h2⟩ := row (vs := intCells _ _) rfl (by simp [intCells, hl]) (oneCells_ints _) hr
    exact ⟨w', _, h1, hk, h2⟩
  · obtain ⟨hl, hr, hk⟩ := hk
    simp only [AV.is] at hx
    subst hx
    obtain ⟨w', h1, h2⟩ := row (vs := boolCells _) rfl (by simp [boolCells, hl]) (oneCells_bools _) hr
    exact ⟨w', _, h1, hk, h2⟩
  · exact hk.elim

/-! #### a store into a box -/
theorem run_storeCells_box (b : Nat) : ∀ (vs : List Value) (l : List Value) (e : Nat) (w : World) (off i : Nat), w.heap[b]? = some (.cells l.toArray e (0, 0)) → off + i + vs.length ≤ l.length → oneCells vs = true →
    ∃ w', (Go.storeCells ⟨b, off, none⟩ vs i).run P w = .ok () w' ∧ w'.heap[b]? = some (.cells (writeAt l (off + i) vs).toArray e (0, 0)) ∧ (∀ k, k ≠ b → w'.heap[k]? = w.heap[k]?) ∧ w'.heap.size = w.heap.size ∧ w'.os = w.os ∧ (w'.tape = w.tape ∧ w.drawn ≤ w'.drawn) ∧ w'.output = w.output
  | [], l, e, w, off, i, hb, _, _ => ⟨w, rfl, hb, fun _ _ => rfl, rfl, rfl, ⟨rfl, Nat.le_refl _⟩, rfl⟩
  | v :: vs, l, e, w, off, i, hb, hl, ho => by
    simp only [oneCells, Bool.and_eq_true] at ho
    simp at hl
    have ha : (⟨b, off, none⟩ : Addr).add i = ⟨b, off + i, none⟩ := by
      unfold Addr.add
      split
      · rename_i h0; subst h0; rfl
      · rfl
    have hlt : off + i < l.length := by omega
    have h1 := run_store1 (P := P) (w := w) (p := ⟨b, off + i, none⟩) (u := l[off + i]) ho.1 (by simp [World.cell?, hb, hlt]) (by simp [World.frozen?, hb])
    have h2 : (w.setCell ⟨b, off + i, none⟩ v).heap[b]? = some (.cells (l.set (off + i) v).toArray e (0, 0)) := by
      rw [heap_setCell, if_pos rfl, hb]
      simp
    obtain ⟨w', g1, g2, g3, g4, g5, g6, g7⟩ := run_storeCells_box b vs (l.set (off + i) v) e (w.setCell ⟨b, off + i, none⟩ v) off (i + 1) h2 (by simp; omega) ho.2
    refine ⟨w', ?_, by rw [Nat.add_assoc] at *; exact g2, fun k hk => ?_, by rw [g4, size_setCell], g5, g6, g7⟩
    · simp only [Go.storeCells, Sem.run_bind, ha, h1, Result.andThen_ok]
      exact g1
    · rw [g3 k hk, heap_setCell, if_neg hk]
theorem writeAt_length : ∀ (vs l : List Value) (i : Nat), (writeAt l i vs).length = l.length
  | [], _, _ => rfl
  | v :: vs, l, i => by simp only [writeAt]; rw [writeAt_length vs]; simp
theorem writeAt_all : ∀ (vs pre l : List Value), vs.length = l.length → writeAt (pre ++ l) pre.length vs = pre ++ vs
  | [], pre, l, h => by
    have : l = [] := List.eq_nil_of_length_eq_zero (by simpa using h.symm)
    subst this
    rfl
  | v :: vs, pre, [], h => by simp at h
  | v :: vs, pre, x :: l, h => by
    simp only [writeAt]
    have h1 : (pre ++ x :: l).set pre.length v = (pre ++ [v]) ++ l := by simp
    rw [h1]
    have h2 := writeAt_all vs (pre ++ [v]) l (by simpa using h)
    simp only [List.length_append, List.length_cons, List.length_nil] at h2
    rw [h2]
    simp
theorem stLoc_sound (hT : T.ok P = true) (h : Rel ψ N D m0 w0 S a w) {i : Nat} {c : LC} (hc : S.ls[i]? = some c) {off t : Nat} {x : AV} {v : Value} (hx : x.is ψ S.ls.length v) {k : LC → Prop} (hk : stLoc T c off t x k)
    (ht : (T.at t).size ≠ 0) : ∃ w' c', (storeVar t ⟨ψ i, off, none⟩ v).run P w = .ok () w' ∧ k c' ∧ Rel ψ N D m0 w0 { S with ls := S.ls.set i c' } a w' := by
  have hf := tyfact_of_size hT ht
  obtain ⟨e, hb, _⟩ := h.box i c hc
  have gen : ∀ (vs : List Value) (c' : LC), v.cells.toList = vs → vs.length = (T.at t).size → oneCells vs = true → off + vs.length ≤ c.list.length → c'.list = writeAt c.list off vs → k c' →
      ∃ w' c', (storeVar t ⟨ψ i, off, none⟩ v).run P w = .ok () w' ∧ k c' ∧ Rel ψ N D m0 w0 { S with ls := S.ls.set i c' } a w' := by
    intro vs c' hv hl ho hlen hc' hk
    obtain ⟨w', g1, g2, g3, g4, g5, g6, g7⟩ := run_storeCells_box (P := P) (ψ i) vs c.list e w off 0 hb (by omega) ho
    refine ⟨w', c', ?_, hk, h.boxSet hc c' w' ⟨e, by rw [hc']; simpa using g2⟩ g3 g4 g5 g6 g7⟩
    have hsz : v.cells.size = (T.at t).size := by rw [← hl, ← hv]; simp
    simp [storeVar, hf.size w, hsz, hv, g1]
  unfold stLoc at hk
  split at hk
  · rename_i kd xs kd' u
    obtain ⟨h1, hk1⟩ := req_spec hk
    obtain ⟨h2, h3, hk2⟩ := req_spec hk1
    have h1 := IntKind.eqb_spec h1
    have h2 := Nat.eq_of_beq_eq_true h2
    subst h1
    simp only [AV.is] at hx
    subst hx
    refine gen [.int kd u] _ rfl (by simp [h2]) rfl (by simp [LC.list, intCells]; omega) ?_ hk2
    simp [LC.list, intCells, writeAt]
  · rename_i xs u
    obtain ⟨h2, h3, hk⟩ := req_spec hk
    have h2 := Nat.eq_of_beq_eq_true h2
    simp only [AV.is] at hx
    subst hx
    refine gen [.bool u] _ rfl (by simp [h2]) rfl (by simp [LC.list, boolCells]; omega) ?_ hk
    simp [LC.list, boolCells, writeAt]
  · rename_i kd xs kd' ys
    obtain ⟨h1, h0, h2, h3, hk2⟩ := req_spec hk
    have h1 := IntKind.eqb_spec h1
    subst h1; subst h0
    simp only [AV.is] at hx
    subst hx
    refine gen (intCells kd ys) _ rfl (by simp [intCells, h2]) (oneCells_ints _) (by simp [LC.list, intCells]; omega) ?_ hk2
    have := writeAt_all (intCells kd ys) [] (intCells kd xs) (by simp [intCells, h3])
    simpa [LC.list] using this.symm
  · rename_i xs ys
    obtain ⟨h0, h2, h3, hk⟩ := hk
    subst h0
    simp only [AV.is] at hx
    subst hx
    refine gen (boolCells ys) _ rfl (by simp [boolCells, h2]) (oneCells_bools _) (by simp [LC.list, boolCells]; omega) ?_ hk
    have := writeAt_all (boolCells ys) [] (boolCells xs) (by simp [boolCells, h3])
    simpa [LC.list] using this.symm
  · rename_i l cs
    obtain ⟨h1, hk⟩ := req_spec hk
    obtain ⟨h2, hk⟩ := req_spec hk
    obtain ⟨h3, hk⟩ := req_spec hk
    simp only [AV.is] at hx
    subst hx
    exact gen cs.toList _ rfl (Nat.eq_of_beq_eq_true h1) h3 (Nat.le_of_ble_eq_true h2) rfl hk
  · rename_i l u _
    obtain ⟨h1, hk⟩ := req_spec hk
    obtain ⟨h2, hk⟩ := req_spec hk
    obtain ⟨h3, hk⟩ := req_spec hk
    simp only [AV.is] at hx
    subst hx
    refine gen [v] _ (by simp [one_cells h3]) (by simp [Nat.eq_of_beq_eq_true h1]) (by simp [oneCells, h3]) (by simp [LC.list]; exact Nat.le_of_ble_eq_true h2) ?_ hk
    simp [LC.list, writeAt]
  · exact hk.elim

/-! #### operators -/
theorem run_equalIn_ints {t e n : Nat} {kd : IntKind} (ht : P.underlying t = some (.array n e)) (he : P.underlying e = some (.int kd)) (hs : ∀ w, (sizeOf e).run P w = .ok 1 w) (hg : ∀ w, (isAgg e).run P w = .ok false w)
    (d : Nat) {xs ys : List Int} (hx : xs.length = n) (hy : ys.length = n) (w : World) :
    (Op.equalIn (d + 2) t (.agg (intCells kd xs).toArray) (.agg (intCells kd ys).toArray)).run P w = .ok (xs == ys) w := by
  have hpart : ∀ (zs : List Int) (i : Nat), i < zs.length → ∀ w, (part e (intCells kd zs).toArray i).run P w = .ok (.int kd (zs.getD i 0)) w := by
    intro zs i hi w
    simp [part, hg w, intCells, hi]
  have key : ∀ k s, s + k = n → ∀ w, (forIn (m := Sem) (List.range' s k 1) ((none, ()) : Option Bool × Unit) fun i _ => do
      let a ← part e (intCells kd xs).toArray (i * 1)
      let b ← part e (intCells kd ys).toArray (i * 1)
      let r ← Op.equalIn (d + 1) e a b
      if (!r) = true then pure (ForInStep.done (some false, ())) else pure (ForInStep.yield (none, ()))).run P w =
        .ok (if xs.drop s == ys.drop s then (none, ()) else (some false, ())) w := by
    intro k
    induction k with
    | zero =>
      intro s hs' w
      have h1 : xs.drop s = [] := List.drop_eq_nil_of_le (by omega)
      have h2 : ys.drop s = [] := List.drop_eq_nil_of_le (by omega)
      simp [h1, h2]
    | succ k ih =>
      intro s hs' w
      have hsx : s < xs.length := by omega
      have hsy : s < ys.length := by omega
      have h1 : xs.drop s = xs.getD s 0 :: xs.drop (s + 1) := by rw [List.drop_eq_getElem_cons hsx]; simp [List.getD_eq_getElem?_getD, hsx]
      have h2 : ys.drop s = ys.getD s 0 :: ys.drop (s + 1) := by rw [List.drop_eq_getElem_cons hsy]; simp [List.getD_eq_getElem?_getD, hsy]
      simp only [List.range'_succ, List.forIn_cons, Sem.run_bind, Nat.mul_one, hpart xs s hsx, hpart ys s hsy, Result.andThen_ok, run_equalIn_int w d e kd kd _ _ he]
      rw [h1, h2]
      cases hb : (xs.getD s 0 == ys.getD s 0) with
      | false => simp only [Bool.not_false, if_true, Sem.run_pure, Result.andThen_ok, List.cons_beq_cons, hb, Bool.false_and, Bool.false_eq_true, if_false]
      | true =>
        have := ih (s + 1) (by omega) w
        simp only [Nat.mul_one] at this
        simp only [Bool.not_true, Bool.false_eq_true, if_false, Sem.run_pure, Result.andThen_ok, this, List.cons_beq_cons, hb, Bool.true_and]
  have h0 := key n 0 (by omega) w
  rw [Op.equalIn]
  simp only [Sem.run_bind, run_underlying ht, Result.andThen_ok, hs w]
  simp only [Std.Legacy.Range.forIn_eq_forIn_range', Std.Legacy.Range.size, Nat.sub_zero, Nat.add_sub_cancel, Nat.div_one]
  rw [h0]
  simp only [List.drop_zero]
  cases xs == ys <;> simp

theorem eqFields_sound (hT : T.ok P = true) (d : Nat) (xs ys : Array Value) : ∀ (gs : List Field) (j : Nat) (rx ry : List Value) (k : Bool → Prop), offsOk j (gs.map fun f => (f.offset, f.type)) = true →
    (gs.all fun f => decide (f.name ≠ "_")) = true → rx = xs.toList.drop j → ry = ys.toList.drop j → cellsEq (gs.map fun f => (T.at f.type).k) rx ry k → ∃ c, (∀ w, (Op.eqFields (d + 1) xs ys gs).run P w = .ok c w) ∧ k c
  | [], j, rx, ry, k, _, _, _, _, hk => by
    cases rx <;> cases ry <;> simp only [List.map_nil, cellsEq] at hk
    exact ⟨true, fun _ => rfl, hk⟩
  | g :: gs, j, rx, ry, k, ho, hn, hx, hy, hk => by
    simp only [List.map_cons, offsOk, Bool.and_eq_true] at ho
    simp only [List.all_cons, Bool.and_eq_true, decide_eq_true_eq] at hn
    have h0 := Nat.eq_of_beq_eq_true ho.1
    have go : ∀ (a b : Value) (r s : List Value) (c : Bool) (k' : Bool → Prop), rx = a :: r → ry = b :: s → (T.at g.type).k.agg = false → (T.at g.type).k ≠ .other → (∀ w, (Op.equalIn (d + 1) g.type a b).run P w = .ok c w) →
        cellsEq (gs.map fun f => (T.at f.type).k) r s k' → (∀ c', k' c' → k (c && c')) → ∃ c, (∀ w, (Op.eqFields (d + 1) xs ys (g :: gs)).run P w = .ok c w) ∧ k c := by
      intro a b r s c k' hrx hry hna hno he hk' hkk
      have hf := Tbl.fact hT hno
      have hag := fun w => hf.isAgg w
      rw [hna] at hag
      have part1 : ∀ (zs : Array Value) (z : Value) (q : List Value), zs.toList.drop j = z :: q → ∀ w, (part g.type zs g.offset).run P w = .ok z w := by
        intro zs z q hz w
        have : zs.toList[j]? = some z := by rw [← List.head?_drop, hz]; rfl
        have h2 : zs[g.offset]? = some z := by rw [h0]; simpa using this
        simp [part, hag, h2]
      have hd1 : ∀ (zs : Array Value) (z : Value) (q : List Value), zs.toList.drop j = z :: q → q = zs.toList.drop (j + 1) := by
        intro zs z q hz
        rw [← List.drop_drop, hz]
        rfl
      obtain ⟨c', h1, h2⟩ := eqFields_sound hT d xs ys gs (j + 1) r s k' ho.2 hn.2 (hd1 xs a r (hx.symm.trans hrx)) (hd1 ys b s (hy.symm.trans hry)) hk'
      have e1 := part1 xs a r (hx.symm.trans hrx)
      have e2 := part1 ys b s (hy.symm.trans hry)
      have key : ∀ w, (Op.eqFields (d + 1) xs ys (g :: gs)).run P w = if (!c) = true then .ok false w else (Op.eqFields (d + 1) xs ys gs).run P w := by
        intro w
        simp only [Op.eqFields, ne_eq, hn.1, not_false_eq_true, if_true, Sem.run_bind, e1, e2, he, Result.andThen_ok, Sem.run_ite, Sem.run_pure]
      cases c with
      | false =>
        refine ⟨false, fun w => by rw [key]; rfl, ?_⟩
        have := hkk c' h2
        simpa using this
      | true => exact ⟨c', fun w => by rw [key]; exact h1 w, by have := hkk c' h2; simpa using this⟩
    simp only [List.map_cons] at hk
    cases hg : (T.at g.type).k with
    | int kd0 =>
      rw [hg] at hk
      cases rx with
      | nil => simp [cellsEq] at hk
      | cons a r =>
        cases ry with
        | nil => cases a <;> simp [cellsEq] at hk
        | cons b s =>
          cases a <;> cases b <;> simp only [cellsEq] at hk
          obtain ⟨h1, hk2⟩ := req_spec hk
          have h1 := IntKind.eqb_spec h1
          subst h1
          exact go _ _ r s _ _ rfl rfl (by rw [hg]; rfl) (by rw [hg]; simp) (fun w => run_equalIn_int w d _ _ kd0 _ _ (under_int (Tbl.fact hT (by rw [hg]; simp)) hg)) hk2 (fun c' h => h)
    | bool =>
      rw [hg] at hk
      cases rx with
      | nil => simp [cellsEq] at hk
      | cons a r =>
        cases ry with
        | nil => cases a <;> simp [cellsEq] at hk
        | cons b s =>
          cases a <;> cases b <;> simp only [cellsEq] at hk
          exact go _ _ r s _ _ rfl rfl (by rw [hg]; rfl) (by rw [hg]; simp) (fun w => run_equalIn_bool' w d _ _ _ (under_bool (Tbl.fact hT (by rw [hg]; simp)) hg)) hk (fun c' h => h)
    | _ => rw [hg] at hk; simp [cellsEq] at hk
theorem eqOk_guard {t : Nat} {i : TI} (h : TyFact P t i) (he : i.eq = true) : P.eqGuardType P.depth t = false := by
  have := h.eq he
  simp only [eqOk, Bool.and_eq_true] at this
  simpa using this.1
/-- A value that has no parts is compared without a look at its type's guard. -/
theorem run_eqGuard_plain (op : BinOp) (t : Nat) (x y : Operand) (u v : Value) (h : isAggV u = false) (h' : ∀ w, u ≠ .nilIface ∨ v ≠ w) : (eqGuard op t x y u v).run P w = .ok () w := by
  cases op <;> simp [eqGuard] <;> cases u <;> cases v <;> first | rfl | (simp [isAggV] at h; done) | skip
  all_goals first | rfl | (exfalso; rcases h' .nilIface with h1 | h1 <;> exact h1 rfl)
theorem run_eq_ptr_nil {t e : Nat} (hu : P.underlying t = some (.pointer e)) (d : Nat) (p : Option Addr) (w : World) : (Op.equalIn (d + 1) t (.pointer p) (.pointer none)).run P w = .ok p.isNone w := by
  rw [Op.equalIn]
  cases p <;> simp [run_underlying hu]
theorem run_eq_slice_nil {t e : Nat} (hu : P.underlying t = some (.slice e)) (d : Nat) (p : Option Addr) (n c : Nat) (w : World) : (Op.equalIn (d + 1) t (.slice p n c) (.slice none 0 0)).run P w = .ok p.isNone w := by
  rw [Op.equalIn]
  cases p <;> simp [run_underlying hu]
theorem run_eq_func_nil {t : Nat} {e1 e2 : Array Nat} {e3 : Bool} (hu : P.underlying t = some (.func e1 e2 e3)) (d : Nat) (f : Fn) (x y : Array Value) (w : World) : (Op.equalIn (d + 1) t (.func f x y) .nilFunc).run P w = .ok false w := by
  rw [Op.equalIn]
  simp [run_underlying hu]
theorem binK_sound (hT : T.ok P = true) {op : BinOp} {t : Nat} {x y : AV} {k : Value → Prop} (hk : binK T op t x y k) {L : Nat} {u v : Value} (hx : x.is ψ L u) (hy : y.is ψ L v) (ox oy : Operand) :
    ∃ q, (∀ w, (do eqGuard op t ox oy u v; Go.binOp op t u v : Sem Value).run P w = .ok q w) ∧ k q := by
  have plain : ∀ q, (∀ w, (Go.binOp op t u v).run P w = .ok q w) → isAggV u = false → (∀ w, u ≠ .nilIface ∨ v ≠ w) → k q → ∃ q, (∀ w, (do eqGuard op t ox oy u v; Go.binOp op t u v : Sem Value).run P w = .ok q w) ∧ k q := by
    intro q h1 h2 h3 h4
    exact ⟨q, fun w => by simp only [Sem.run_bind, run_eqGuard_plain op t ox oy u v h2 h3, Result.andThen_ok, h1], h4⟩
  unfold binK at hk
  split at hk
  · rename_i kd a kd' b
    simp only [AV.is] at hx hy
    subst hx; subst hy
    refine plain _ (fun w => ?_) rfl (fun _ => .inl (by simp)) hk.2
    have : ¬ b < 0 := by omega
    simp [Go.binOp, Op.shift, this]
  · rename_i kd a kd' b
    simp only [AV.is] at hx hy
    subst hx; subst hy
    refine plain _ (fun w => ?_) rfl (fun _ => .inl (by simp)) hk.2
    have : ¬ b < 0 := by omega
    simp [Go.binOp, Op.shift, this]
  · rename_i kd a kd' b hn1 hn2
    simp only [AV.is] at hx hy
    subst hx; subst hy
    obtain ⟨h1, hk1⟩ := req_spec hk
    have h1 := IntKind.eqb_spec h1
    subst h1
    unfold intK at hk1
    split at hk1
    all_goals first
      | exact hk1.elim
      | (refine plain _ (fun w => ?_) rfl (fun _ => .inl (by simp)) hk1; simp [Go.binOp, Op.intArith, Op.intBits, Op.intCmp, Go.bits]; done)
      | (refine plain _ (fun w => ?_) rfl (fun _ => .inl (by simp)) hk1.2; have := hk1.1; simp [Go.binOp, Op.intDiv, this]; done)
      | (refine plain _ (fun w => ?_) rfl (fun _ => .inl (by simp)) hk1; rfl)
  · simp only [AV.is] at hx hy
    subst hx; subst hy
    obtain ⟨h1, hk1⟩ := req_spec hk
    cases hb : (T.at t).k <;> rw [hb] at h1 <;> simp [TK.isBool] at h1
    have hu := under_bool (Tbl.fact hT (by rw [hb]; simp)) hb
    refine plain _ (fun w => ?_) rfl (fun _ => .inl (by simp)) hk1
    simp [Go.binOp, Op.equal, Op.maxDepth, run_equalIn_bool' w 9999 t _ _ hu]
  · simp only [AV.is] at hx hy
    subst hx; subst hy
    obtain ⟨h1, hk1⟩ := req_spec hk
    cases hb : (T.at t).k <;> rw [hb] at h1 <;> simp [TK.isBool] at h1
    have hu := under_bool (Tbl.fact hT (by rw [hb]; simp)) hb
    refine plain _ (fun w => ?_) rfl (fun _ => .inl (by simp)) hk1
    simp [Go.binOp, Op.equal, Op.maxDepth, run_equalIn_bool' w 9999 t _ _ hu]
  · simp only [AV.is] at hx hy
    subst hx; subst hy
    obtain ⟨h1, hk1⟩ := req_spec hk
    cases hb : (T.at t).k <;> rw [hb] at h1 <;> simp [TK.isPtr] at h1
    obtain ⟨e, hu⟩ := under_ptr (Tbl.fact hT (by rw [hb]; simp)) hb
    refine plain _ (fun w => ?_) rfl (fun _ => .inl (by simp)) hk1
    simp [Go.binOp, Op.equal, Op.maxDepth, run_eq_ptr_nil hu 9999]
  · simp only [AV.is] at hx hy
    subst hx; subst hy
    obtain ⟨h1, hk1⟩ := req_spec hk
    cases hb : (T.at t).k <;> rw [hb] at h1 <;> simp [TK.isPtr] at h1
    obtain ⟨e, hu⟩ := under_ptr (Tbl.fact hT (by rw [hb]; simp)) hb
    refine plain _ (fun w => ?_) rfl (fun _ => .inl (by simp)) hk1
    simp [Go.binOp, Op.equal, Op.maxDepth, run_eq_ptr_nil hu 9999]
  · simp only [AV.is] at hx hy
    subst hx; subst hy
    obtain ⟨h1, rfl, hk1⟩ := req_spec hk
    cases hb : (T.at t).k <;> rw [hb] at h1 <;> simp [TK.isPtr] at h1
    have hf := Tbl.fact hT (t := t) (by rw [hb]; simp)
    obtain ⟨e, hu⟩ := under_ptr hf hb
    obtain ⟨j, hj⟩ := hf.ptr e hu
    exact plain _ (fun w => run_eql_ptr_same w _ hu hj) rfl (fun _ => .inl (by simp)) hk1
  · simp only [AV.is] at hx hy
    subst hx; subst hy
    obtain ⟨h1, rfl, hk1⟩ := req_spec hk
    cases hb : (T.at t).k <;> rw [hb] at h1 <;> simp [TK.isPtr] at h1
    have hf := Tbl.fact hT (t := t) (by rw [hb]; simp)
    obtain ⟨e, hu⟩ := under_ptr hf hb
    obtain ⟨j, hj⟩ := hf.ptr e hu
    exact plain _ (fun w => Lib.run_neq_ptr_same w _ hu hj) rfl (fun _ => .inl (by simp)) hk1
  · simp only [AV.is] at hx hy
    subst hx; subst hy
    obtain ⟨h1, hk1⟩ := req_spec hk
    cases hb : (T.at t).k <;> rw [hb] at h1 <;> simp [TK.isSlice] at h1
    have hu := under_slice (Tbl.fact hT (by rw [hb]; simp)) hb
    refine plain _ (fun w => ?_) rfl (fun _ => .inl (by simp)) hk1
    simp [Go.binOp, Op.equal, Op.maxDepth, run_eq_slice_nil hu 9999]
  · simp only [AV.is] at hx hy
    subst hx; subst hy
    obtain ⟨h1, hk1⟩ := req_spec hk
    cases hb : (T.at t).k <;> rw [hb] at h1 <;> simp [TK.isSlice] at h1
    have hu := under_slice (Tbl.fact hT (by rw [hb]; simp)) hb
    refine plain _ (fun w => ?_) rfl (fun _ => .inl (by simp)) hk1
    simp [Go.binOp, Op.equal, Op.maxDepth, run_eq_slice_nil hu 9999]
  · simp only [AV.is] at hx hy
    subst hx; subst hy
    obtain ⟨h1, hk1⟩ := req_spec hk
    cases hb : (T.at t).k <;> rw [hb] at h1 <;> simp [TK.isFunc] at h1
    obtain ⟨e1, e2, e3, hu⟩ := under_func (Tbl.fact hT (by rw [hb]; simp)) hb
    refine plain _ (fun w => ?_) rfl (fun _ => .inl (by simp)) hk1
    simp [Go.binOp, Op.equal, Op.maxDepth, run_eq_func_nil hu 9999]
  · simp only [AV.is] at hx hy
    subst hx; subst hy
    obtain ⟨h1, hk1⟩ := req_spec hk
    cases hb : (T.at t).k <;> rw [hb] at h1 <;> simp [TK.isFunc] at h1
    obtain ⟨e1, e2, e3, hu⟩ := under_func (Tbl.fact hT (by rw [hb]; simp)) hb
    refine plain _ (fun w => ?_) rfl (fun _ => .inl (by simp)) hk1
    simp [Go.binOp, Op.equal, Op.maxDepth, run_eq_func_nil hu 9999]
  · simp only [AV.is] at hx hy
    subst hx; subst hy
    refine plain _ (fun w => ?_) rfl (fun _ => .inl (by simp)) hk.2
    have h1 := hk.1
    simp only [Go.binOp, Op.stringOp]
    rw [if_neg (by omega)]
    rfl
  · simp only [AV.is] at hx hy
    subst hx; subst hy
    exact plain _ (fun _ => rfl) rfl (fun _ => .inl (by simp)) hk
  · simp only [AV.is] at hx hy
    subst hx; subst hy
    exact plain _ (fun _ => rfl) rfl (fun _ => .inl (by simp)) hk
  · rename_i kd xs kd' ys
    obtain ⟨h1, hk1⟩ := req_spec hk
    have h1 := IntKind.eqb_spec h1
    subst h1
    split at hk1
    · rename_i n e hn
      obtain ⟨h2, hk2⟩ := req_spec hk1
      obtain ⟨h3, hk3⟩ := req_spec hk2
      obtain ⟨h4, h5, h6, hk4⟩ := req_spec hk3
      have hf := Tbl.fact hT (t := t) (by rw [hn]; simp)
      have hek : (T.at e).k = .int kd := by
        cases hb : (T.at e).k <;> rw [hb] at h2 <;> simp [TK.isInt] at h2
        rw [IntKind.eqb_spec h2]
      have hfe := Tbl.fact hT (t := e) (by rw [hek]; simp)
      have he := run_equalIn_ints (P := P) (under_arr hf hn) (under_int hfe hek) (fun w => by rw [hfe.size w, Nat.eq_of_beq_eq_true h3]) (fun w => by rw [hfe.isAgg w, hek]; rfl) 9998 h5 h6
      have hg := fun w => run_eqGuard_agg (P := P) w (op := BinOp.eql) t ox oy (intCells kd xs).toArray (intCells kd ys).toArray (eqOk_guard hf h4)
      simp only [AV.is] at hx hy
      subst hx; subst hy
      refine ⟨_, fun w => ?_, hk4⟩
      simp only [Sem.run_bind, hg, Result.andThen_ok]
      simp [Go.binOp, Op.equal, Op.maxDepth, he]
    · exact hk1.elim
  · rename_i kd xs kd' ys
    obtain ⟨h1, hk1⟩ := req_spec hk
    have h1 := IntKind.eqb_spec h1
    subst h1
    split at hk1
    · rename_i n e hn
      obtain ⟨h2, hk2⟩ := req_spec hk1
      obtain ⟨h3, hk3⟩ := req_spec hk2
      obtain ⟨h4, h5, h6, hk4⟩ := req_spec hk3
      have hf := Tbl.fact hT (t := t) (by rw [hn]; simp)
      have hek : (T.at e).k = .int kd := by
        cases hb : (T.at e).k <;> rw [hb] at h2 <;> simp [TK.isInt] at h2
        rw [IntKind.eqb_spec h2]
      have hfe := Tbl.fact hT (t := e) (by rw [hek]; simp)
      have he := run_equalIn_ints (P := P) (under_arr hf hn) (under_int hfe hek) (fun w => by rw [hfe.size w, Nat.eq_of_beq_eq_true h3]) (fun w => by rw [hfe.isAgg w, hek]; rfl) 9998 h5 h6
      have hg := fun w => run_eqGuard_agg (P := P) w (op := BinOp.neq) t ox oy (intCells kd xs).toArray (intCells kd ys).toArray (eqOk_guard hf h4)
      simp only [AV.is] at hx hy
      subst hx; subst hy
      refine ⟨_, fun w => ?_, hk4⟩
      simp only [Sem.run_bind, hg, Result.andThen_ok]
      simp [Go.binOp, Op.equal, Op.maxDepth, he]
    · exact hk1.elim
  · rename_i xs ys
    unfold flatInt at hk
    split at hk
    · rename_i fs hn
      obtain ⟨h4, hk1⟩ := req_spec hk
      obtain ⟨h2, hk2⟩ := req_spec hk1
      have hf := Tbl.fact hT (t := t) (by rw [hn]; simp)
      obtain ⟨gs, hu, hgs⟩ := under_struct hf hn
      have h7 := hf.eq h4
      simp only [eqOk, hu, Bool.and_eq_true] at h7
      have hff : P.fieldsOf t = gs := by simp [Program.fieldsOf, hu]
      have hrun := fun w => run_equalIn_struct (P := P) w 9999 t xs ys (by rw [hff]; exact hu) (by simpa using h7.2.1)
      rw [hff] at hrun
      rw [← hgs] at h2 hk2
      rw [List.map_map] at hk2
      obtain ⟨c, hc, hk3⟩ := eqFields_sound (P := P) hT 9998 xs ys gs.toList 0 xs.toList ys.toList _ h2 h7.2.2 rfl rfl hk2
      have hg := fun w => run_eqGuard_agg (P := P) w (op := BinOp.eql) t ox oy xs ys (eqOk_guard hf h4)
      simp only [AV.is] at hx hy
      subst hx; subst hy
      refine ⟨_, fun w => ?_, hk3⟩
      simp only [Sem.run_bind, hg, Result.andThen_ok]
      simp [Go.binOp, Op.equal, Op.maxDepth, hrun, hc]
    · exact hk.elim
  · rename_i xs ys
    unfold flatInt at hk
    split at hk
    · rename_i fs hn
      obtain ⟨h4, hk1⟩ := req_spec hk
      obtain ⟨h2, hk2⟩ := req_spec hk1
      have hf := Tbl.fact hT (t := t) (by rw [hn]; simp)
      obtain ⟨gs, hu, hgs⟩ := under_struct hf hn
      have h7 := hf.eq h4
      simp only [eqOk, hu, Bool.and_eq_true] at h7
      have hff : P.fieldsOf t = gs := by simp [Program.fieldsOf, hu]
      have hrun := fun w => run_equalIn_struct (P := P) w 9999 t xs ys (by rw [hff]; exact hu) (by simpa using h7.2.1)
      rw [hff] at hrun
      rw [← hgs] at h2 hk2
      rw [List.map_map] at hk2
      obtain ⟨c, hc, hk3⟩ := eqFields_sound (P := P) hT 9998 xs ys gs.toList 0 xs.toList ys.toList _ h2 h7.2.2 rfl rfl hk2
      have hg := fun w => run_eqGuard_agg (P := P) w (op := BinOp.neq) t ox oy xs ys (eqOk_guard hf h4)
      simp only [AV.is] at hx hy
      subst hx; subst hy
      refine ⟨_, fun w => ?_, hk3⟩
      simp only [Sem.run_bind, hg, Result.andThen_ok]
      simp [Go.binOp, Op.equal, Op.maxDepth, hrun, hc]
    · exact hk.elim
  · exact hk.elim
end
end Go.Mv
