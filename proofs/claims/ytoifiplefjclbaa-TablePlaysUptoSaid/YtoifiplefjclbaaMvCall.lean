/- Mv: calls, built-in ones and others. -/
import Derived.Test.YtoifiplefjclbaaMvStep
namespace Go.Mv
open Go
section
variable {P : Program} {r : Option Nat} {T : Tbl} {pr : List Nat} {ψ : Nat → Nat} {N : Nat} {D : HD} {m0 : Mem} {w0 : World} {Q : Exit → Act → World → Prop} {S S' : St} {a : Act} {w w' : World} {K : St → Prop} {v : Value}
  {dst : Option Tmp} {op : Op} {ty : TypeId} {pos : String} {after : Array Edge} {guard : Option (Nat × Bool)}

theorem run_loads (h : S.m.sub w) {p : Addr} {vs : List Value} (hh : S.m.holds p vs) : (loadCells p vs.length).run P w = .ok vs.toArray w :=
  run_loadCells_list (P := P) (w := w) p vs (fun j v hj => Mem.sub_cell h (hh j v hj))
/-- A call of a function with a body: what FCalls says is what the machine does. -/
theorem frame_rel (hR : Rel ψ N D m0 w0 S a w) {m' : Mem} (hF : Frame S.m w m' w') : Rel ψ N D m0 w0 { S with m := m' } a w' :=
  hR.mem (hR.frame.trans hF) fun k hlt hn => by
    refine ⟨hF.keep _ hlt hn, ?_⟩
    cases hm : m' k with
    | none => rfl
    | some o =>
      rcases hF.dom k (by rw [hm]; simp) with hx | hx
      · exact absurd hn hx
      · omega
theorem enter_sound (hR : Rel ψ N D m0 w0 S a w) (hd : ∀ i, dst = some i → i < N) (hnd : ∀ c, op ≠ .defer c) {g : FuncId} {args : List Value}
    (hrun : (execOp a.eval ⟨dst, op, ty, pos, after, guard⟩).run P w = .ok (.enter g args.toArray) w)
    (hc : FCalls P g args S.m fun v m' => normK T ty v fun y => K ({ S with m := m' }.put dst y)) : Stp P r N D m0 w0 Q ⟨dst, op, ty, pos, after, guard⟩ a w K := by
  refine Stp.enter hnd hrun ((hc w hR.sub).mono fun e w' h => ?_)
  obtain ⟨v, m', he, hk, hF⟩ := h
  obtain ⟨y, hy, hK⟩ := norm_sound hk ψ S.ls.length
  exact ⟨v, he, _, hK, ψ, (frame_rel hR hF).put hy hd⟩
theorem next_sound (hR : Rel ψ N D m0 w0 S a w) (hd : ∀ i, dst = some i → i < N) (hnd : ∀ c, op ≠ .defer c) {s : Sem Next} (he : (execOp a.eval ⟨dst, op, ty, pos, after, guard⟩).run P w = s.run P w)
    (hk : NextP P s S.m fun v m' => K ({ S with m := m' }.put dst (.v v))) : Stp P r N D m0 w0 Q ⟨dst, op, ty, pos, after, guard⟩ a w K := by
  obtain ⟨v, w', m', h1, h2, hF⟩ := hk w hR.sub
  exact Stp.val hnd (he.trans h1) h2 ⟨ψ, (frame_rel hR hF).put rfl hd⟩
theorem callYield_sound (hR : Rel ψ N D m0 w0 S a w) (hd : ∀ i, dst = some i → i < N) {c : Call} {f : Operand} (hcal : c.callee = .value f) {l : Nat} (hev : a.eval f = .func (.yield l) #[] #[])
    (hc : YCalls P l (c.args.toList.map a.eval) S.m fun v m' => normK T ty v fun y => K ({ S with m := m' }.put dst y)) : Stp P r N D m0 w0 Q ⟨dst, .call c, ty, pos, after, guard⟩ a w K := by
  obtain ⟨fn, tmps, assign, body, h1, h2⟩ := hc w hR.sub
  have hrun : (execOp a.eval ⟨dst, .call c, ty, pos, after, guard⟩).run P w = .ok (.round l fn tmps assign body) w := by
    obtain ⟨callee, args, ats⟩ := c
    simp only at hcal
    subst hcal
    have he : args.map a.eval = (args.toList.map a.eval).toArray := by
      apply Array.ext'
      simp
    simp only [execOp, resolve, hev, Deferred.ofValue, pure_bind, invoke]
    simp only [Array.empty_append]
    rw [he]
    exact h1
  refine Stp.round (fun c h => by cases h) hrun (h2.mono fun e w' h => ?_)
  obtain ⟨v, m', he, hk, hF⟩ := h
  obtain ⟨y, hy, hK⟩ := norm_sound hk ψ S.ls.length
  exact ⟨v, he, _, hK, ψ, (frame_rel hR hF).put hy hd⟩

def bodyB (P : Program) (g : Nat) : Bool :=
  match P.funcs[g]? with
  | some fn => fn.body.isSome && decide (fn.name ≠ "runtime.NumGoroutine")
  | none => false
def bodiesOk (P : Program) (B : List Nat) : Bool := B.all (bodyB P)
theorem run_callFunc {g : Nat} (h : bodyB P g = true) (args : Array Value) : (callFunc g args).run P w = .ok (.enter g args) w := by
  unfold bodyB at h
  split at h
  · rename_i fn hf
    simp only [Bool.and_eq_true, decide_eq_true_eq] at h
    have h1 : fn.body ≠ none := by intro hb; rw [hb] at h; simp at h
    simp [callFunc, hf, h.2, h1]
  · cases h
theorem zip_ev (cs : List Operand) (f : Operand → Value) : (cs.toArray.map f).toList = cs.map f := by simp
theorem callExt_sound (hR : Rel ψ N D m0 w0 S a w) (hd : ∀ i, dst = some i → i < N) {c : Call} {f : Operand} (hcal : c.callee = .value f) {first cap : Array Value} {g : Nat} (hev : a.eval f = .func (.func g) first cap)
    (hc : NextP P (callFunc g (first.toList ++ c.args.toList.map a.eval ++ cap.toList).toArray) S.m fun v m' => K ({ S with m := m' }.put dst (.v v))) : Stp P r N D m0 w0 Q ⟨dst, .call c, ty, pos, after, guard⟩ a w K := by
  refine next_sound hR hd (fun c h => by cases h) ?_ hc
  obtain ⟨callee, args, ats⟩ := c
  simp only at hcal
  subst hcal
  have he : (first ++ args.map a.eval) ++ cap = (first.toList ++ args.toList.map a.eval ++ cap.toList).toArray := by
    apply Array.ext'
    simp
  simp only [execOp, resolve, hev, Deferred.ofValue, pure_bind, invoke]
  rw [he]
theorem builtin_sound (hR : Rel ψ N D m0 w0 S a w) (hd : ∀ i, dst = some i → i < N) {c : Call} {b : Builtin} (hcal : c.callee = .builtin b) {vs : List Value} (hvs : c.args.toList.map a.eval = vs)
    (hc : NextP P (builtin b c.argTypes ty (c.args.map constB) vs.toArray) S.m fun v m' => K ({ S with m := m' }.put dst (.v v))) : Stp P r N D m0 w0 Q ⟨dst, .call c, ty, pos, after, guard⟩ a w K := by
  refine next_sound hR hd (fun c h => by cases h) ?_ hc
  obtain ⟨callee, args, ats⟩ := c
  simp only at hcal hvs
  subst hcal
  have he : args.map a.eval = vs.toArray := by
    apply Array.ext'
    simp [← hvs]
  simp only [execOp, resolve, pure_bind, invoke]
  rw [he]
  refine congrArg (fun z => Sem.run P (builtin b ats ty z vs.toArray) w) ?_
  refine congrArg (fun f => Array.map f args) ?_
  funext o
  cases o <;> rfl
theorem callFn_sound (hR : Rel ψ N D m0 w0 S a w) (hd : ∀ i, dst = some i → i < N) {c : Call} {f : Operand} (hcal : c.callee = .value f) {first cap : Array Value} {g : Nat} (hev : a.eval f = .func (.func g) first cap) (hB : bodyB P g = true)
    (hc : FCalls P g (first.toList ++ c.args.toList.map a.eval ++ cap.toList) S.m fun v m' => normK T ty v fun y => K ({ S with m := m' }.put dst y)) : Stp P r N D m0 w0 Q ⟨dst, .call c, ty, pos, after, guard⟩ a w K := by
  refine enter_sound hR hd (fun c h => by cases h) ?_ hc
  obtain ⟨callee, args, ats⟩ := c
  simp only at hcal
  subst hcal
  have he : (first ++ args.map a.eval) ++ cap = (first.toList ++ args.toList.map a.eval ++ cap.toList).toArray := by
    apply Array.ext'
    simp
  simp only [execOp, resolve, hev, Deferred.ofValue, pure_bind, invoke]
  rw [he]
  exact run_callFunc hB _

/-! #### built-in functions -/
theorem run_builtin {c : Call} {b : Builtin} (hcal : c.callee = .builtin b) {v : Value} {w' : World} (h : (builtin b c.argTypes ty (c.args.map fun | .const _ => true | _ => false) (c.args.map a.eval)).run P w = .ok (.value v) w') :
    (execOp a.eval ⟨dst, .call c, ty, pos, after, guard⟩).run P w = .ok (.value v) w' := by
  obtain ⟨callee, args, ats⟩ := c
  simp only at hcal
  subst hcal
  simp only [execOp, resolve, pure_bind, invoke]
  exact h
theorem zerosRest {e : Nat} (hf : TyFact P e (T.at e)) (n : Nat) (w : World) : ∃ z, (zeroValue e).run P w = .ok z w ∧ (Builtin.zeroCells z.cells n).toList = (zerosOf T e n).list := by
  obtain ⟨z, h1, h2, h3⟩ := hf.zero
  refine ⟨z, h1 w, ?_⟩
  have := zeros_eq (T := T) e z h2 n hf.len
  have hsz : z.cells.size = (T.at e).size := by rw [← hf.len, ← h2]; simp
  unfold Builtin.zeroCells
  rw [hsz] at this ⊢
  exact this
theorem firstCells_slice (h : S.m.sub w) {B : Option Addr} {n c size : Nat} {vs : List Value} (hl : vs.length = n * size) (hh : (n * size = 0 ∧ B = none) ∨ ∃ p, B = some p ∧ S.m.holds p vs) : (Builtin.firstCells size n (.slice B n c)).run P w = .ok vs.toArray w := by
  rcases hh with ⟨h0, rfl⟩ | ⟨p, rfl, hp⟩
  · have : vs = [] := List.eq_nil_of_length_eq_zero (by omega)
    subst this
    rfl
  · simp only [Builtin.firstCells, ← hl]
    exact run_loads h hp
theorem firstCells_slice' (h : S.m.sub w) {B : Option Addr} {n j c size : Nat} {vs : List Value} (hl : vs.length = n * size) (hh : n * size = 0 ∨ ∃ p, B = some p ∧ S.m.holds p vs) : (Builtin.firstCells size n (.slice B j c)).run P w = .ok vs.toArray w := by
  rcases hh with h0 | ⟨p, rfl, hp⟩
  · have : vs = [] := List.eq_nil_of_length_eq_zero (by omega)
    subst this
    cases B with
    | none => rfl
    | some p => simp only [Builtin.firstCells, h0]; rfl
  · simp only [Builtin.firstCells, ← hl]
    exact run_loads h hp
theorem append_sound (hT : T.ok P = true) (hR : Rel ψ N D m0 w0 S a w) (hd : ∀ i, dst = some i → i < N) {c : Call} (hcal : c.callee = .builtin .append) {o o' : Operand} {t t' e e' : Nat} (hargs : c.args.toList = [o, o']) (hats : c.argTypes.toList = [t, t'])
    (hsz : 0 < (T.at e).size) (ht : (T.at t).k = .slice e) (ht' : (T.at t').k = .slice e') {A B : Option Addr} {n cc j cj : Nat} (ho : a.eval o = .slice A n cc) (ho' : a.eval o' = .slice B j cj)
    {news : List Value} (hn : news.length = j * (T.at e).size) (hnews : j * (T.at e).size = 0 ∨ ∃ p, B = some p ∧ S.m.holds p news)
    (hroom : n + j ≤ cc → (∃ p, A = some p ∧ S.m.room (p.add (n * (T.at e).size)) (j * (T.at e).size) ∧ oneCells news = true ∧
              K ({ S with m := S.m.setCells (p.add (n * (T.at e).size)) 0 news }.put dst (.v (.slice A (n + j) cc)))) ∨
            (A = none ∧ K (S.put dst (.v (.slice A (n + j) cc)))))
    (hgrow : cc < n + j → req (Nat.blt 0 (T.at e).bytes) (Builtin.nextslicecap (n + j) cc * (T.at e).bytes ≤ 2 ^ 48 ∧
            ∃ olds : List Value, olds.length = n * (T.at e).size ∧ ((n * (T.at e).size = 0 ∧ A = none) ∨ ∃ p, A = some p ∧ S.m.holds p olds) ∧
            ∀ cap b, n + j ≤ cap → S.m b = none →
              K ({ S with m := S.m.set b (.cells (olds ++ news ++ (zerosOf T e (cap - (n + j))).list).toArray e (0, 0)) }.put dst (.v (.slice (some ⟨b, 0, none⟩) (n + j) cap))))) :
    Stp P r N D m0 w0 Q ⟨dst, .call c, ty, pos, after, guard⟩ a w K := by
  have hna : c.args = #[o, o'] := by apply Array.ext'; rw [hargs]
  have hnt : c.argTypes = #[t, t'] := by apply Array.ext'; rw [hats]
  have hft := Tbl.fact hT (t := t) (by rw [ht]; simp)
  have hft' := Tbl.fact hT (t := t') (by rw [ht']; simp)
  have hut := under_slice hft ht
  have hut' := under_slice hft' ht'
  have hfe := tyfact_of_size hT (t := e) (by omega)
  obtain ⟨inf, hinf, hb, hs⟩ := hfe.typeInfo w
  have hz0 : ((underlying t').run P w) = .ok (.slice e') w := run_underlying hut' w
  by_cases hle : n + j ≤ cc
  · have hrun0 : ∀ w', (match A with | some p => Go.storeCells (p.add (n * (T.at e).size)) news | none => pure ()).run P w = .ok () w' →
        (Builtin.append_ c.argTypes ty (c.args.map a.eval)).run P w = .ok (.slice A (n + j) cc) w' := by
      intro w' hw'
      have hfc := firstCells_slice' (P := P) (j := j) (c := cj) hR.sub hn hnews
      rw [hna, hnt]
      simp only [Builtin.append_, List.map_toArray, List.map_cons, List.map_nil, ho, ho']
      simp only [List.getElem?_toArray, List.getElem?_cons_zero, List.getElem?_cons_succ, Sem.run_bind, run_underlying hut, run_underlying hut', hfe.size w, Result.andThen_ok, Sem.run_pure]
      simp only [Bool.false_eq_true, if_false, Builtin.lenOf, Sem.run_pure, Result.andThen_ok, hle, if_true, Bool.not_false, Sem.run_bind, hfc]
      cases A with
      | none => simpa using hw'
      | some p =>
        simp only at hw'
        simp only [Sem.run_bind, hw', Result.andThen_ok, Sem.run_pure]
    rcases hroom hle with ⟨p, rfl, hr, hone, hK⟩ | ⟨rfl, hK⟩
    · obtain ⟨w', h1, h2⟩ := Rel.storeCells (P := P) ψ news S w (p.add (n * (T.at e).size)) 0 _ hR hr (by omega) hone
      exact Stp.val (fun c h => by cases h) (run_builtin hcal (run_val (hrun0 w' h1))) hK ⟨ψ, h2.put rfl hd⟩
    · exact Stp.val (fun c h => by cases h) (run_builtin hcal (run_val (hrun0 w rfl))) hK ⟨ψ, hR.put rfl hd⟩
  · obtain ⟨hby, hcap, olds, hol, holds, hK⟩ := req_spec (hgrow (by omega))
    have hby : 0 < (T.at e).bytes := by have := Nat.le_of_ble_eq_true hby; omega
    obtain ⟨cap, hcapdef⟩ : ∃ cap, cap = (Question.appendCap (n + j) cc e).cut (w.tape w.drawn (.appendCap (n + j) cc e)) := ⟨_, rfl⟩
    have hcapge : n + j ≤ cap := by rw [hcapdef]; simp only [Question.cut]; omega
    obtain ⟨z, hz, hzl⟩ := zerosRest (P := P) hfe (cap - (n + j)) { w with drawn := w.drawn + 1 }
    have hR' := hR.drew (Nat.le_succ w.drawn)
    have hfc := firstCells_slice' (P := P) (j := j) (c := cj) hR'.sub hn hnews
    have hfo := firstCells_slice (P := P) (c := cc) hR'.sub hol holds
    have hrun : (Builtin.append_ c.argTypes ty (c.args.map a.eval)).run P w =
        .ok (.slice (some ⟨w.heap.size, 0, none⟩) (n + j) cap) (World.alloc { w with drawn := w.drawn + 1 } (.cells (olds ++ news ++ (zerosOf T e (cap - (n + j))).list).toArray e (0, 0))) := by
      rw [hna, hnt]
      simp only [Builtin.append_, List.map_toArray, List.map_cons, List.map_nil, ho, ho']
      simp only [List.getElem?_toArray, List.getElem?_cons_zero, List.getElem?_cons_succ, Sem.run_bind, run_underlying hut, run_underlying hut', hfe.size w, Result.andThen_ok, Sem.run_pure]
      simp only [Bool.false_eq_true, if_false, Builtin.lenOf, Sem.run_pure, Result.andThen_ok, hle, Bool.not_false, if_true, Sem.run_bind, hinf, hb]
      have hneg : ¬ (((n + j : Nat) : Int) > IntKind.i64.max ∧ (False ∨ (T.at e).bytes = 0)) := by
        rintro ⟨_, h | h⟩
        · exact h
        · omega
      rw [if_neg hneg]
      simp only [Sem.run_bind, Result.andThen_ok, hinf, hb]
      rw [if_neg (by omega)]
      simp only [Sem.run_bind, Sem.run_pure, Result.andThen_ok, run_choose, Question.forced, Bool.false_eq_true, if_false, ← hcapdef]
      have hinf' : (typeInfo e).run P { w with drawn := w.drawn + 1 } = .ok inf { w with drawn := w.drawn + 1 } := by
        obtain ⟨inf', h1, h2, h3⟩ := hfe.info
        simp only [typeInfo, Sem.run_bind, run_program, Result.andThen_ok, h1, Sem.run_pure] at hinf ⊢
        cases hinf
        rfl
      simp only [hinf', Result.andThen_ok, run_askRoom, hfo, hfc, hz, Sem.run_pure, newRow, Sem.run_bind, run_newObj]
      have : olds.toArray ++ news.toArray ++ Builtin.zeroCells z.cells (cap - (n + j)) = (olds ++ news ++ (zerosOf T e (cap - (n + j))).list).toArray := by
        apply Array.ext'
        simp [hzl]
      rw [this]
      rfl
    exact Stp.val (fun c h => by cases h) (run_builtin hcal (run_val hrun)) (hK cap w.heap.size hcapge hR.fresh) ⟨ψ, (hR'.alloc _).put rfl hd⟩

theorem copy_sound (hT : T.ok P = true) (hR : Rel ψ N D m0 w0 S a w) (hd : ∀ i, dst = some i → i < N) {c : Call} (hcal : c.callee = .builtin .copy) {o o' : Operand} {t t' e : Nat} (hargs : c.args.toList = [o, o']) (hats : c.argTypes.toList = [t, t'])
    (hsz : 0 < (T.at e).size) (ht : (T.at t).k = .slice e) {A B : Option Addr} {n cc j cj : Nat} (ho : a.eval o = .slice A n cc) (ho' : a.eval o' = .slice B j cj)
    {news : List Value} (hn : news.length = min j n * (T.at e).size) (hnews : min j n * (T.at e).size = 0 ∨ ∃ p q, A = some p ∧ B = some q ∧ S.m.holds q news ∧ S.m.room p (min j n * (T.at e).size) ∧ oneCells news = true)
    (hK : ptrK A (fun p => K ({ S with m := S.m.setCells p 0 news }.put dst (.v (.int .i64 (min j n : Nat))))) (K (S.put dst (.v (.int .i64 (min j n : Nat)))))) :
    Stp P r N D m0 w0 Q ⟨dst, .call c, ty, pos, after, guard⟩ a w K := by
  have hna : c.args = #[o, o'] := by apply Array.ext'; rw [hargs]
  have hnt : c.argTypes = #[t, t'] := by apply Array.ext'; rw [hats]
  have hft := Tbl.fact hT (t := t) (by rw [ht]; simp)
  have hut := under_slice hft ht
  have hfe := tyfact_of_size hT (t := e) (by omega)
  have hfc : (Builtin.firstCells (T.at e).size (min j n) (.slice B j cj)).run P w = .ok news.toArray w := by
    refine firstCells_slice' (P := P) hR.sub hn ?_
    rcases hnews with h | ⟨p, q, _, h1, h2, _⟩
    · exact .inl h
    · exact .inr ⟨q, h1, h2⟩
  have hrun0 : ∀ w', (match A with | some p => Go.storeCells p news | none => pure ()).run P w = .ok () w' →
      (Builtin.copy_ c.argTypes ty (c.args.map a.eval)).run P w = .ok (.int .i64 (min j n : Nat)) w' := by
    intro w' hw'
    rw [hna, hnt]
    simp only [Builtin.copy_, List.map_toArray, List.map_cons, List.map_nil, ho, ho']
    simp only [List.getElem?_toArray, List.getElem?_cons_zero, List.getElem?_cons_succ, Sem.run_bind, run_underlying hut, hfe.size w, Result.andThen_ok, Sem.run_pure, Builtin.lenOf]
    rw [show Nat.min j n = min j n from rfl, hfc]
    simp only [Result.andThen_ok]
    cases A with
    | none => simpa [goInt] using hw'
    | some p =>
      simp only at hw'
      simp only [Sem.run_bind, hw', Result.andThen_ok, Sem.run_pure, goInt]
  cases A with
  | none => exact Stp.val (fun c h => by cases h) (run_builtin hcal (run_val (hrun0 w rfl))) hK ⟨ψ, hR.put rfl hd⟩
  | some p =>
    have hst : ∃ w', (Go.storeCells p news 0).run P w = .ok () w' ∧ Rel ψ N D m0 w0 { S with m := S.m.setCells p 0 news } a w' := by
      rcases hnews with h | ⟨p', q, hp, _, _, hr, hone⟩
      · have : news = [] := List.eq_nil_of_length_eq_zero (by omega)
        subst this
        exact ⟨w, rfl, hR⟩
      · cases hp
        exact Rel.storeCells (P := P) ψ news S w p 0 _ hR hr (by omega) hone
    obtain ⟨w', h1, h2⟩ := hst
    exact Stp.val (fun c h => by cases h) (run_builtin hcal (run_val (hrun0 w' h1))) hK ⟨ψ, h2.put rfl hd⟩
theorem oneCells_append : ∀ (x y : List Value), oneCells (x ++ y) = (oneCells x && oneCells y)
  | [], _ => rfl
  | v :: r, y => by simp only [List.cons_append, oneCells, oneCells_append r y, Bool.and_assoc]
theorem oneCells_rep : ∀ (n : Nat) (l : List Value), oneCells l = true → oneCells ((List.range n).flatMap fun _ => l) = true
  | 0, l, _ => rfl
  | n + 1, l, h => by rw [List.range_succ, List.flatMap_append, oneCells_append, oneCells_rep n l h]; simp [h]
theorem oneCells_zeros {e : Nat} (h : oneCells (T.at e).zero.list = true) (n : Nat) : oneCells (zerosOf T e n).list = true := by
  unfold zerosOf
  split
  · exact oneCells_ints _
  · exact oneCells_bools _
  · exact oneCells_rep n _ h
theorem clear_sound (hT : T.ok P = true) (hR : Rel ψ N D m0 w0 S a w) (hd : ∀ i, dst = some i → i < N) {c : Call} (hcal : c.callee = .builtin .clear) {o : Operand} {t e : Nat} (hargs : c.args.toList = [o]) (hats : c.argTypes.toList = [t])
    (hsz : 0 < (T.at e).size) (ht : (T.at t).k = .slice e) {A : Option Addr} {n cc : Nat} (ho : a.eval o = .slice A n cc) (hone : oneCells (zerosOf T e n).list = true)
    (hK : (A = none ∨ n = 0 → K (S.put dst (.v (.tuple #[])))) ∧
        (∀ p, A = some p → 0 < n → S.m.room p (n * (T.at e).size) ∧ K ({ S with m := S.m.setCells p 0 (zerosOf T e n).list }.put dst (.v (.tuple #[]))))) :
    Stp P r N D m0 w0 Q ⟨dst, .call c, ty, pos, after, guard⟩ a w K := by
  have hna : c.args = #[o] := by apply Array.ext'; rw [hargs]
  have hnt : c.argTypes = #[t] := by apply Array.ext'; rw [hats]
  have hft := Tbl.fact hT (t := t) (by rw [ht]; simp)
  have hut := under_slice hft ht
  have hfe := tyfact_of_size hT (t := e) (by omega)
  have base : (A = none ∨ n = 0) → (Builtin.clear_ c.argTypes ty (c.args.map a.eval)).run P w = .ok (.tuple #[]) w := by
    intro h
    rw [hna, hnt]
    simp only [Builtin.clear_, List.map_toArray, List.map_cons, List.map_nil, ho]
    simp only [List.getElem?_toArray, List.getElem?_cons_zero, Sem.run_bind, run_underlying hut, Result.andThen_ok]
    rcases h with rfl | rfl
    · rfl
    · cases A <;> rfl
  cases A with
  | none => exact Stp.val (fun c h => by cases h) (run_builtin hcal (run_val (base (.inl rfl)))) (hK.1 (.inl rfl)) ⟨ψ, hR.put rfl hd⟩
  | some p =>
    cases n with
    | zero => exact Stp.val (fun c h => by cases h) (run_builtin hcal (run_val (base (.inr rfl)))) (hK.1 (.inr rfl)) ⟨ψ, hR.put rfl hd⟩
    | succ n =>
      obtain ⟨hr, hk⟩ := hK.2 p rfl (by omega)
      obtain ⟨z, hz, hzl⟩ := zerosRest (P := P) hfe (n + 1) w
      have hlen : (zerosOf T e (n + 1)).list.length = (n + 1) * (T.at e).size := by
        obtain ⟨z', h1, h2, h3⟩ := hfe.zero
        rw [← zeros_eq (T := T) e z' h2 (n + 1) hfe.len]
        simp
      obtain ⟨w', h1, h2⟩ := Rel.storeCells (P := P) ψ (zerosOf T e (n + 1)).list S w p 0 _ hR hr (by omega) hone
      refine Stp.val (fun c h => by cases h) (run_builtin hcal (run_val (w' := w') ?_)) hk ⟨ψ, h2.put rfl hd⟩
      rw [hna, hnt]
      simp only [Builtin.clear_, List.map_toArray, List.map_cons, List.map_nil, ho]
      simp only [List.getElem?_toArray, List.getElem?_cons_zero, Sem.run_bind, run_underlying hut, Result.andThen_ok, hz, hzl, h1, Sem.run_pure]
theorem call_sound {B : List Nat} (hT : T.ok P = true) (hB : bodiesOk P B = true) (hR : Rel ψ N D m0 w0 S a w) (hd : ∀ i, dst = some i → i < N) {c : Call} (hk : callK P T B dst ty c S K) :
    Stp P r N D m0 w0 Q ⟨dst, .call c, ty, pos, after, guard⟩ a w K := by
  rw [callK_eq] at hk
  unfold callKS at hk
  cases hcal : c.callee with
  | value f =>
    rw [hcal] at hk
    simp only at hk
    obtain ⟨x, hx, h1⟩ := hR.ev hk
    split at h1
    · rename_i g first cap
      have h4 := hR.evs h1
      simp only [AV.is] at hx
      cases h2 : B.contains g with
      | true =>
        rw [h2] at h4
        exact callFn_sound hR hd hcal hx (List.all_eq_true.1 hB _ (by simpa using h2)) h4
      | false =>
        rw [h2] at h4
        exact callExt_sound hR hd hcal hx h4
    · rename_i l
      have h4 := hR.evs h1
      simp only [AV.is] at hx
      exact callYield_sound hR hd hcal hx h4
    · exact h1.elim
  | invoke _ _ => rw [hcal] at hk; exact hk.elim
  | builtin b =>
    rw [hcal] at hk
    simp only at hk
    have one : ∀ {o : Operand} {t : Nat} {v : Value}, c.args.toList = [o] → c.argTypes.toList = [t] → (builtin b #[t] ty (c.args.map fun | .const _ => true | _ => false) #[a.eval o]).run P w = .ok (.value v) w → K (S.put dst (.v v)) →
        Stp P r N D m0 w0 Q ⟨dst, .call c, ty, pos, after, guard⟩ a w K := by
      intro o t v h1 h2 h3 h4
      refine Stp.val (fun c h => by cases h) (run_builtin hcal ?_) h4 ⟨ψ, hR.put rfl hd⟩
      have hna : c.args = #[o] := by apply Array.ext'; rw [h1]
      have hnt : c.argTypes = #[t] := by apply Array.ext'; rw [h2]
      rw [hnt, show c.args.map a.eval = #[a.eval o] from by rw [hna]; simp]
      exact h3
    split at hk
    · rename_i o t h1 h2
      obtain ⟨x, hx, h3⟩ := hR.ev hk
      split at h3
      · rename_i ht
        simp only [AV.is] at hx
        have hu := under_slice (Tbl.fact hT (t := t) (by rw [ht]; simp)) ht
        exact one h1 h2 (by simp [builtin, Builtin.len_, run_underlying hu, hx, goInt]) h3
      · rename_i ht
        simp only [AV.is] at hx
        have hu := under_str (Tbl.fact hT (t := t) (by rw [ht]; simp)) ht
        exact one h1 h2 (by simp [builtin, Builtin.len_, run_underlying hu, hx, goInt]) h3
      · rename_i ht
        have hu := under_arr (Tbl.fact hT (t := t) (by rw [ht]; simp)) ht
        exact one h1 h2 (by simp [builtin, Builtin.len_, run_underlying hu, goInt]) h3
      · exact h3.elim
    · rename_i o t h1 h2
      obtain ⟨x, hx, h3⟩ := hR.ev hk
      split at h3
      · rename_i ht
        simp only [AV.is] at hx
        have hu := under_slice (Tbl.fact hT (t := t) (by rw [ht]; simp)) ht
        exact one h1 h2 (by simp [builtin, Builtin.cap_, run_underlying hu, hx, goInt]) h3
      · rename_i ht
        have hu := under_arr (Tbl.fact hT (t := t) (by rw [ht]; simp)) ht
        exact one h1 h2 (by simp [builtin, Builtin.cap_, run_underlying hu, goInt]) h3
      · exact h3.elim
    · rename_i o o' h1
      obtain ⟨x, hx, h3⟩ := hR.ev hk
      obtain ⟨y, hy, h4⟩ := hR.ev h3
      split at h4
      · obtain ⟨h5, h6⟩ := req_spec h4
        have h5 := IntKind.eqb_spec h5
        simp only [AV.is] at hx hy
        have hna : c.args = #[o, o'] := by apply Array.ext'; rw [h1]
        refine Stp.val (fun c h => by cases h) (run_builtin hcal ?_) h6 ⟨ψ, hR.put rfl hd⟩
        rw [hna]
        simp [builtin, Builtin.max_, Builtin.max2, hx, hy]
      · exact h4.elim
    · rename_i o o' h1
      obtain ⟨x, hx, h3⟩ := hR.ev hk
      obtain ⟨y, hy, h4⟩ := hR.ev h3
      split at h4
      · obtain ⟨h5, h6⟩ := req_spec h4
        have h5 := IntKind.eqb_spec h5
        simp only [AV.is] at hx hy
        have hna : c.args = #[o, o'] := by apply Array.ext'; rw [h1]
        refine Stp.val (fun c h => by cases h) (run_builtin hcal ?_) h6 ⟨ψ, hR.put rfl hd⟩
        rw [hna]
        simp [builtin, Builtin.min_, Builtin.min2, hx, hy]
      · exact h4.elim
    · rename_i o o' t t' h1 h2
      obtain ⟨x, hx, h3⟩ := hR.ev hk
      obtain ⟨y, hy, h4⟩ := hR.ev h3
      split at h4
      · rename_i e e' A n cc B' j cj ht ht'
        simp only [AV.is] at hx hy
        obtain ⟨h5, news, h6, h7, h8, h9⟩ := req_spec h4
        exact append_sound hT hR hd hcal h1 h2 (by have := Nat.le_of_ble_eq_true h5; omega) ht ht' hx hy h6 h7 h8 h9
      · exact h4.elim
      · rename_i x y _ _
        simp only [AV.is] at hx hy
        exact builtin_sound hR hd hcal (vs := [x, y]) (by rw [h1]; simp [hx, hy]) h4
      · exact h4.elim
    · rename_i o o' t t' h1 h2
      obtain ⟨x, hx, h3⟩ := hR.ev hk
      obtain ⟨y, hy, h4⟩ := hR.ev h3
      split at h4
      · rename_i e e' A n cc B' j cj ht ht'
        simp only [AV.is] at hx hy
        obtain ⟨h5, news, h6, h7, h8⟩ := req_spec h4
        exact copy_sound hT hR hd hcal h1 h2 (by have := Nat.le_of_ble_eq_true h5; omega) ht hx hy h6 h7 h8
      · exact h4.elim
    · rename_i o t h1 h2
      obtain ⟨x, hx, h3⟩ := hR.ev hk
      split at h3
      · rename_i e A n cc ht
        simp only [AV.is] at hx
        obtain ⟨h5, h6⟩ := req_spec h3
        obtain ⟨h7, h8⟩ := req_spec h6
        exact clear_sound hT hR hd hcal h1 h2 (by have := Nat.le_of_ble_eq_true h5; omega) ht hx (oneCells_zeros h7 _) h8
      · exact h3.elim
    · obtain ⟨_, h3⟩ := req_spec hk
      exact builtin_sound hR hd hcal rfl (hR.evs h3)
end
end Go.Mv
