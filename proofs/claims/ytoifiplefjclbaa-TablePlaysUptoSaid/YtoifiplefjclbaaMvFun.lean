/- Mv: a function's own statement out of its code. -/
import Derived.Test.YtoifiplefjclbaaMvCode
import Derived.RangeFuncLeaves
namespace Go.Mv
open Go

def AV.toV : AV → Value
  | .v x => x
  | .ints k xs => .agg (intCells k xs).toArray
  | .bools xs => .agg (boolCells xs).toArray
  | .loc _ _ => .tuple #[]
def AV.plain : AV → Bool
  | .loc _ _ => false
  | _ => true
def argEnv : Nat → List AV → Env
  | _, [] => []
  | i, x :: r => (i, x) :: argEnv (i + 1) r
def single : List Value → Value
  | [v] => v
  | vs => .tuple vs.toArray
def resK (T : Tbl) (S : St) : List ResultVar → (List Value → Prop) → Prop
  | [], k => k []
  | .tmp t :: r, k => lkK S.env t fun x => valK x fun v => resK T S r fun vs => k (v :: vs)
  | .cell t ty :: r, k => lkK S.env t fun x => match x with
    | .loc i off => match S.ls[i]? with
      | some c => ldLoc T c off ty fun y => valK y fun v => resK T S r fun vs => k (v :: vs)
      | none => False
    | .v (.pointer (some p)) => ldT T S.m p ty fun y => valK y fun v => resK T S r fun vs => k (v :: vs)
    | _ => False
def retK (T : Tbl) (rs : List ResultVar) (K : Value → Mem → Prop) (e : Exit) (S : St) : Prop :=
  match e with
  | .normal | .ret => resK T S rs fun vs => K (single vs) S.m
  | _ => False
section
variable {P : Program} {r : Option Nat} {T : Tbl} {B pr : List Nat} {ψ : Nat → Nat} {N : Nat} {D : HD} {m0 : Mem} {w0 : World} {S S' : St} {a : Act} {w w' : World} {v : Value}

theorem argEnv_lk : ∀ (args : List AV) (i j : Nat) (x : AV), lk (argEnv i args) j = some x → ∃ d, j = i + d ∧ args[d]? = some x
  | [], _, _, _, h => by simp [argEnv, lk] at h
  | y :: r, i, j, x, h => by
    simp only [argEnv, lk] at h
    by_cases hij : i = j
    · rw [if_pos hij] at h
      cases h
      exact ⟨0, by omega, rfl⟩
    · rw [if_neg hij] at h
      obtain ⟨d, h1, h2⟩ := argEnv_lk r (i + 1) j x h
      exact ⟨d + 1, by omega, by simpa using h2⟩
def resOne (tmps : Array Value) : ResultVar → Sem Value
  | .tmp t => pure (tmps.getD t undef)
  | .cell b t => do loadVar t (← asAddr (tmps.getD b undef))
theorem run_resTmp (tmps : Array Value) (t : Nat) (w : World) : (resOne tmps (.tmp t)).run P w = .ok (tmps.getD t undef) w := rfl
theorem run_resCell {tmps : Array Value} {t ty : Nat} {p : Addr} {w : World} {v : Value} (h : tmps.getD t undef = .pointer (some p)) (hv : (loadVar ty p).run P w = .ok v w) : (resOne tmps (.cell t ty)).run P w = .ok v w := by
  simp only [resOne, h, asAddr, pure_bind, hv]
theorem resK_sound (hT : T.ok P = true) (hR : Rel ψ N D m0 w0 S a w) : ∀ (rs : List ResultVar) (k : List Value → Prop), resK T S rs k →
    ∃ vs : List Value, (rs.mapM (resOne a.tmps)).run P w = .ok vs w ∧ k vs
  | [], k, h => ⟨[], rfl, h⟩
  | .tmp t :: rs, k, h => by
    simp only [resK] at h
    obtain ⟨x, hx, h1⟩ := lkK_spec h
    have h2 := valK_spec h1 (hR.env _ _ hx)
    obtain ⟨vs, h3, h4⟩ := resK_sound hT hR rs _ h2
    exact ⟨_ :: vs, by simp only [List.mapM_cons, Sem.run_bind, run_resTmp, Sem.run_pure, Result.andThen_ok, h3], h4⟩
  | .cell t ty :: rs, k, h => by
    simp only [resK] at h
    obtain ⟨x, hx, h1⟩ := lkK_spec h
    have hx' := hR.env _ _ hx
    split at h1
    · rename_i i off
      split at h1
      · rename_i c hc
        obtain ⟨v, y, hv, hy, h2⟩ := ldLoc_sound (N := N) (D := D) (m0 := m0) (w0 := w0) (a := a) (ψ := ψ) hT hc h1
        have h3 := valK_spec h2 hy
        obtain ⟨vs, h4, h5⟩ := resK_sound hT hR rs _ h3
        exact ⟨v :: vs, by simp only [List.mapM_cons, Sem.run_bind, run_resCell hx'.2 (hv w hR), Sem.run_pure, Result.andThen_ok, h4], h5⟩
      · exact h1.elim
    · obtain ⟨v, y, hv, hy, h2⟩ := ldT_sound hT h1 ψ S.ls.length
      have h3 := valK_spec h2 hy
      obtain ⟨vs, h4, h5⟩ := resK_sound hT hR rs _ h3
      simp only [AV.is] at hx'
      exact ⟨v :: vs, by simp only [List.mapM_cons, Sem.run_bind, run_resCell hx' (hv w hR.sub), Sem.run_pure, Result.andThen_ok, h4], h5⟩
    · exact h1.elim
theorem results_sound (hT : T.ok P = true) (hR : Rel ψ N D m0 w0 S a w) {fn : Func} {K : Value → Mem → Prop} (h : resK T S fn.results.toList fun vs => K (single vs) S.m) : ∃ v, (results fn a.tmps).run P w = .ok v w ∧ K v S.m := by
  obtain ⟨vs, h1, h2⟩ := resK_sound hT hR _ _ h
  refine ⟨single vs, ?_, h2⟩
  have hfun : (fun (x : ResultVar) => match x with
    | .tmp t => (pure (a.tmps.getD t undef) : Sem Value)
    | .cell b t => do loadVar t (← asAddr (a.tmps.getD b undef))) = resOne a.tmps := by
    funext x
    cases x <;> rfl
  show Sem.run P (do
    let vs ← fn.results.mapM (fun (x : ResultVar) => match x with
      | .tmp t => (pure (a.tmps.getD t undef) : Sem Value)
      | .cell b t => do loadVar t (← asAddr (a.tmps.getD b undef)))
    pure (if h : vs.size = 1 then vs[0] else .tuple vs)) w = _
  rw [hfun, Array.mapM_eq_mapM_toList]
  simp only [Sem.run_bind, Sem.run_map]
  rw [h1]
  simp only [Result.andThen_ok, Sem.run_pure]
  congr 1
  cases vs with
  | nil => rfl
  | cons v r => cases r <;> rfl
theorem argEnv_start (args : List AV) (N : Nat) (hlen : args.length ≤ N) (hpl : (args.all AV.plain) = true) (m : Mem) (w : World) (hw : m.sub w) :
    Rel (fun i => i) N ⟨[], []⟩ m w ⟨argEnv 0 args, [], m⟩ { tmps := (args.map AV.toV).toArray ++ Array.replicate (N - (args.map AV.toV).toArray.size) undef, defers := [] } w := by
  refine ⟨by simp; omega, rfl, fun i x hx => ?_, fun i c hc => by simp at hc, fun i j hi => by simp at hi, Frame.refl hw, fun b o hb => by cases hb⟩
  obtain ⟨d, h1, h2⟩ := argEnv_lk args 0 i x hx
  have hd : d < args.length := (List.getElem?_eq_some_iff.1 h2).1
  have hi : i = d := by omega
  subst hi
  have hv : ((args.map AV.toV).toArray ++ Array.replicate (N - (args.map AV.toV).toArray.size) undef).getD i undef = x.toV := by
    rw [Array.getD_eq_getD_getElem?, Array.getElem?_append_left (by simpa using hd)]
    simp [h2]
  rw [hv]
  have hp := List.all_eq_true.1 hpl x (List.mem_of_getElem? h2)
  cases x <;> first | rfl | (simp [AV.plain] at hp)
/-- The marks are come to, one behind the other; then the results are read. -/
theorem leavesM (hT : T.ok P = true) {fn : Func} {K : Value → Mem → Prop} {S : St} (hK : resK T S fn.results.toList fun vs => K (single vs) S.m) : ∀ (bs : List Nat) (a : Act) (w : World), bs.Nodup → (∀ b, b ∈ bs → w0.heap.size ≤ b) →
    Rel ψ N ⟨bs.map mark, bs.map fun b => (b, Obj.deferred (some []))⟩ m0 w0 S a w → LeavesInM (Fr none) 0 P fn a.tmps (fun e w' => ∃ v m', e = .returned v ∧ K v m' ∧ Frame m0 w0 m' w') (bs.map mark) .returning w
  | [], a, w, _, _, hR => by
    obtain ⟨v, hv, hk⟩ := results_sound hT hR (fn := fn) (K := K) hK
    exact ⟨v, hv, v, _, rfl, hk, hR.frame⟩
  | b :: bs, a, w, hn, hb, hR => by
    obtain ⟨hn1, hn2⟩ := List.nodup_cons.1 hn
    obtain ⟨h1, h2, h3⟩ := hR.marks b (.deferred (some [])) List.mem_cons_self
    refine ⟨by simp, .inl ⟨b, _, rfl, run_takeDeferred h1, ?_⟩⟩
    have hoth : ∀ {k : Nat}, k ≠ b → (w.putObj b (.deferred none)).heap[k]? = w.heap[k]? := fun hk => World.putObj_heap_other hk
    refine leavesM hT hK bs { a with defers := bs.map mark } _ hn2 (fun c hc => hb c (List.mem_cons_of_mem _ hc)) ⟨hR.size, rfl, hR.env, fun i c hc => ?_, hR.inj, ?_, fun c o hc => ?_⟩
    · obtain ⟨e, g1, g2, g3⟩ := hR.box i c hc
      exact ⟨e, by rw [hoth (h3 i (List.getElem?_eq_some_iff.1 hc).1)]; exact g1, g2, g3⟩
    · refine ⟨hR.frame.os, hR.frame.tape, hR.frame.output, by rw [World.putObj_size]; exact hR.frame.size, fun c o hc => ?_, fun c hc hn => ?_, hR.frame.dom⟩
      · rw [hoth (by rintro rfl; rw [h2] at hc; cases hc)]
        exact hR.frame.sub c o hc
      · rw [hoth (by have := hb b List.mem_cons_self; omega)]
        exact hR.frame.keep c hc hn
    · obtain ⟨g1, g2, g3⟩ := hR.marks c o (List.mem_cons_of_mem _ hc)
      refine ⟨?_, g2, g3⟩
      rw [hoth]
      · exact g1
      · rintro rfl
        obtain ⟨d, hd, hde⟩ := List.mem_map.1 hc
        cases hde
        exact hn1 hd
/-- A function. -/
theorem fcalls_of_vc (hT : T.ok P = true) (hB : bodiesOk P B = true) (hm : P.follows .mixedOrders = true) {g : Nat} {fn : Func} {c : Code} {DR : List (Nat × DE)} (hf : P.funcs[g]? = some fn) (hb : fn.body = some c)
    (hok : codeOk T fn.ntmps DR c = true) {args : List AV} (hlen : args.length ≤ fn.ntmps) (hpl : (args.all AV.plain) = true) {m : Mem} {K : Value → Mem → Prop} (h : vc P T B pr DR c (retK T fn.results.toList K) ⟨argEnv 0 args, [], m⟩) :
    FCalls P g (args.map AV.toV) m K := by
  intro w hw
  have hrun := vc_sound (N := fn.ntmps) hT hB hm c none ⟨[], []⟩ m w _ _ (.inl rfl) hok h
  have fin : ∀ (S' : St) (a' : Act) (w' : World), (resK T S' fn.results.toList fun vs => K (single vs) S'.m) → RelX fn.ntmps ⟨[], []⟩ m w S' a' w' →
      LeavesInM (Fr none) 0 P fn a'.tmps (fun e w'' => ∃ v m', e = .returned v ∧ K v m' ∧ Frame m w m' w'') a'.defers .returning w' := by
    intro S' a' w' hk ⟨D', ⟨bs, h1, h2, h3, h4⟩, ψ, hR⟩
    have hd := hR.defers
    obtain ⟨d1, d2⟩ := D'
    simp only [List.append_nil] at h1 h2
    subst h1 h2
    rw [hd]
    exact leavesM hT hk bs a' w' h3 (fun b hb => (h4 b hb).1) hR
  have h1 := hrun (bodyPostM (Fr none) 0 P fn fun e w' => ∃ v m', e = .returned v ∧ K v m' ∧ Frame m w m' w') _ w ⟨_, argEnv_start args fn.ntmps hlen hpl m w hw⟩ (fun e S' a' w' hk hR' => by
    cases e with
    | normal => exact fin S' a' w' hk hR'
    | ret => exact fin S' a' w' hk hR'
    | _ => exact hk.elim)
  exact callsIn_wide.1 (callsIn_of_wp_marks (F := Fr none) (n := 0) hf hb trivial h1 : CallsIn Fence.wide 0 P g _ w _)
/-- Memory may be forgotten at the end. -/
theorem FCalls.less {g : Nat} {args : List Value} {m : Mem} {K : Value → Mem → Prop} (h : FCalls P g args m fun v m' => ∃ m'', (∀ b o, m'' b = some o → m' b = some o) ∧ K v m'') : FCalls P g args m K :=
  fun w hw => (h w hw).mono fun _ _ ⟨v, _, he, ⟨m'', hs, hK⟩, hF⟩ => ⟨v, m'', he, hK, hF.less hs⟩
end
end Go.Mv
