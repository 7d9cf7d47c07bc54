/- Mv: regions in the text's order; code; functions. -/
import Derived.Test.YtoifiplefjclbaaMvRange
import Derived.Test.YtoifiplefjclbaaMvSched
namespace Go.Mv
set_option linter.unusedSimpArgs false
open Go
section
variable {P : Program} {r : Option Nat} {T : Tbl} {B pr : List Nat} {ψ : Nat → Nat} {N : Nat} {D : HD} {m0 : Mem} {w0 : World} {Q : Exit → Act → World → Prop} {S S' : St} {a : Act} {w w' : World} {K : St → Prop} {v : Value}

def dstOk (N : Nat) (o : Oper) : Bool :=
  match o.dst with
  | some d => Nat.blt d N
  | none => true
theorem dstOk_spec {o : Oper} (h : dstOk N o = true) : ∀ i, o.dst = some i → i < N := by
  intro i hi
  simp only [dstOk, hi] at h
  exact blt_spec h
theorem Rel.entry (h : Rel ψ N D m0 w0 S a w) {d : Nat} {x : AV} (hx : x.is ψ S.ls.length (a.tmps.getD d Go.undef)) : Rel ψ N D m0 w0 (S.put (some d) x) a w :=
  ⟨h.size, h.defers, fun i y hy => by
    simp only [St.put_eq, lk] at hy
    by_cases hi : d = i
    · rw [if_pos hi] at hy
      cases hy
      rw [← hi]
      exact hx
    · rw [if_neg hi] at hy
      exact h.env i y hy, h.box, h.inj, h.frame, h.marks⟩
theorem vcOps_cons {ops rest : List Oper} {o : Oper} : vcOps P T B pr ops (o :: rest) S K = match o.guard with
    | none => vcOpN P T B pr o.dst o.op o.type S fun S' => vcOps P T B pr ops rest S' K
    | some (j, want) => match (ops[j]?).bind (·.dst) with
      | none => False
      | some d => lkK S.env d fun x => match x with
        | .v (.bool b) => brk (b == want) (vcOpN P T B pr o.dst o.op o.type { S with env := (d, .v (.bool want)) :: S.env } fun S' => vcOps P T B pr ops rest S' K)
            (vcOps P T B pr ops rest (St.put { S with env := (d, .v (.bool (!want))) :: S.env } o.dst (.v undef)) K)
        | .v (.tuple _) => vcOps P T B pr ops rest (S.put o.dst (.v undef)) K
        | _ => False := by
  cases o; cases S; rfl
theorem vcQs_cons {ops rest : List Oper} {o : Oper} : vcQs P T B pr ops (o :: rest) S K = match o.guard with
    | none => vcQ P T B pr o.dst o.op o.type S fun S' => vcQs P T B pr ops rest S' K
    | some (j, want) => match (ops[j]?).bind (·.dst) with
      | none => False
      | some d => lkK S.env d fun x => match x with
        | .v (.bool b) => brk (b == want) (vcQ P T B pr o.dst o.op o.type { S with env := (d, .v (.bool want)) :: S.env } fun S' => vcQs P T B pr ops rest S' K)
            (vcQs P T B pr ops rest (St.put { S with env := (d, .v (.bool (!want))) :: S.env } o.dst (.v undef)) K)
        | .v (.tuple _) => vcQs P T B pr ops rest (S.put o.dst (.v undef)) K
        | _ => False := by
  cases o; cases S; rfl
theorem vcOps_sound (hT : T.ok P = true) (hB : bodiesOk P B = true) (ops : List Oper) : ∀ (rest : List Oper) (S : St) (a : Act) (w : World) (K : St → Prop), (rest.all (dstOk N)) = true → vcOps P T B pr ops rest S K → Relx N D m0 w0 S a w →
    (∀ S' a' w', K S' → Relx N D m0 w0 S' a' w' → Q .normal a' w') → wpListIn (Fr r) 0 P ops.toArray Q rest a w
  | [], S, a, w, K, _, hk, hR, hK => hK S a w hk hR
  | o :: rest, S, a, w, K, hd, hk, ⟨ψ, hR⟩, hK => by
    simp only [List.all_cons, Bool.and_eq_true] at hd
    have hdo := dstOk_spec hd.1
    have ih := fun S a w K => vcOps_sound hT hB ops rest S a w K hd.2
    rw [vcOps_cons] at hk
    simp only [wpListIn]
    have run : ∀ S : St, Rel ψ N D m0 w0 S a w → (vcOpN P T B pr o.dst o.op o.type S fun S' => vcOps P T B pr ops rest S' K) → o.wpIn (Fr r) 0 P a w (wpListIn (Fr r) 0 P ops.toArray Q rest) Q := by
      intro S hR hv
      obtain ⟨dst, op, ty, pos, after, guard⟩ := o
      exact vcOp_sound hT hB hR hdo (vcOpN_old hv) _ (fun S' a' w' h1 h2 => ih S' a' w' K h1 h2 hK)
    have skip : ∀ S : St, Rel ψ N D m0 w0 S a w → vcOps P T B pr ops rest (S.put o.dst (.v undef)) K →
        ((∀ f, o.about P w a.eval = some f → (Fr r).fn f) ∧ wpListIn (Fr r) 0 P ops.toArray Q rest (a.put o.dst undef) w) := by
      intro S hR hv
      exact ⟨fun f _ => trivial, ih _ _ _ K hv ⟨ψ, hR.undef _ hdo⟩ hK⟩
    cases hg : o.guard with
    | none =>
      rw [hg] at hk
      rw [if_pos (by simp [Region.wanted, hg])]
      exact run S hR hk
    | some g =>
      obtain ⟨j, want⟩ := g
      rw [hg] at hk
      simp only at hk
      cases hj : (ops[j]?).bind (·.dst) with
      | none => rw [hj] at hk; exact hk.elim
      | some d =>
        rw [hj] at hk
        simp only at hk
        obtain ⟨x, hx, h1⟩ := lkK_spec hk
        have hx' := hR.env _ _ hx
        have hy : yielded ops.toArray a.tmps j = match a.tmps.getD d undef with | .bool b => some b | _ => none := by
          simp only [yielded]
          have : (ops.toArray[j]?).bind (·.dst) = some d := by simpa using hj
          simp only [this, Option.bind_some, Array.getD_eq_getD_getElem?]
          cases a.tmps[d]? with
          | none => rfl
          | some v => cases v <;> rfl
        split at h1
        · rename_i b
          simp only [AV.is] at hx'
          rw [hx'] at hy
          simp only at hy
          cases hb : (b == want) with
          | true =>
            rw [hb] at h1
            have hbw : b = want := by simpa using hb
            rw [if_pos (by simp [Region.wanted, hg, hy, hbw])]
            exact run _ (hR.entry (x := .v (.bool want)) (by simp only [AV.is]; rw [hx', hbw])) h1
          | false =>
            rw [hb] at h1
            have hbw : b ≠ want := by simpa using hb
            rw [if_neg (by simp [Region.wanted, hg, hy, hbw])]
            exact skip _ (hR.entry (x := .v (.bool (!want))) (by simp only [AV.is]; rw [hx']; cases b <;> cases want <;> simp_all)) h1
        · simp only [AV.is] at hx'
          rw [hx'] at hy
          simp only at hy
          rw [if_neg (by simp [Region.wanted, hg, hy])]
          exact skip _ hR h1
        · exact h1.elim

/-! ### a region that draws -/
def WRel (ψ : Nat → Nat) (D : HD) (m0 : Mem) (w0 : World) (m : Mem) (ls : List LC) (w : World) : Prop :=
  Frame m0 w0 m w ∧ (∀ i c, ls[i]? = some c → ∃ e, w.heap[ψ i]? = some (.cells c.list.toArray e (0, 0)) ∧ m (ψ i) = none ∧ w0.heap.size ≤ ψ i) ∧
  ∀ b o, (b, o) ∈ D.hid → w.heap[b]? = some o ∧ m b = none ∧ ∀ i, i < ls.length → ψ i ≠ b
theorem Rel.wr (h : Rel ψ N D m0 w0 S a w) : WRel ψ D m0 w0 S.m S.ls w := ⟨h.frame, h.box, h.marks⟩
theorem Rel.move (h : Rel ψ N D m0 w0 S a w) {w' : World} (hw : WRel ψ D m0 w0 S.m S.ls w') : Rel ψ N D m0 w0 S a w' := ⟨h.size, h.defers, h.env, hw.2.1, h.inj, hw.1, hw.2.2⟩
theorem WRel.call {m : Mem} {ls : List LC} (h : WRel ψ D m0 w0 m ls w) {w' : World} (hF : Frame m w m w') : WRel ψ D m0 w0 m ls w' :=
  ⟨h.1.trans hF, fun i c hc => by
    obtain ⟨e, h1, h2, h3⟩ := h.2.1 i c hc
    exact ⟨e, (hF.keep _ (Array.getElem?_eq_some_iff.1 h1).1 h2).trans h1, h2, h3⟩, fun b o hd => by
    obtain ⟨h1, h2, h4⟩ := h.2.2 b o hd
    exact ⟨(hF.keep _ (Array.getElem?_eq_some_iff.1 h1).1 h2).trans h1, h2, h4⟩⟩
/-- What an operation that reads leaves: one value, in every world that fits; a call keeps what is told. -/
def QV (P : Program) (C : World → Prop) (m : Mem) (o : Oper) (a : Act) (v : Value) : Prop := ∀ w, C w → o.quietAt P a (fun w'' => Frame m w m w'') w v
theorem quietAt_mono {C C' : World → Prop} {o : Oper} {v : Value} (hc : ∀ w, C w → C' w) (h : o.quietAt P a C w v) : o.quietAt P a C' w v := by
  unfold Oper.quietAt at *
  generalize (execOp a.eval o).run P w = q at *
  cases q with
  | ok n w' =>
    cases n <;> simp only [Oper.quietUpon] at h ⊢
    case value u => exact h
    case skip => exact h
    case enter f args => exact ⟨h.1, h.2.mono fun e w'' ⟨h1, h2⟩ => ⟨h1, hc _ h2⟩⟩
  | halt x w' => simp only [Oper.quietUpon] at h
theorem quietV {o : Oper} (hR : Rel ψ N D m0 w0 S a w) {v : Value} (hrun : ∀ w, Rel ψ N D m0 w0 S a w → (execOp a.eval o).run P w = .ok (.value v) w) : QV P (WRel ψ D m0 w0 S.m S.ls) S.m o a v :=
  fun w' hw' => by unfold Oper.quietAt; rw [hrun w' (hR.move hw')]; exact ⟨rfl, rfl⟩
/-- It looks at no world. -/
def pureOp : Op → Bool
  | .call _ => false
  | op => !isMem op
theorem pureOp_mem {op : Op} (h : pureOp op = true) : isMem op = false := by
  cases op <;> simp_all [pureOp]
/-- It enters no function. -/
def noFun : Op → Bool
  | .call c => match c.callee with
    | .builtin _ => true
    | _ => false
  | _ => true
theorem vcQ_fam (hT : T.ok P = true) (hB : bodiesOk P B = true) (hR : Rel ψ N D m0 w0 S a w) {o : Oper} (hd : ∀ i, o.dst = some i → i < N) (hk : vcQ P T B pr o.dst o.op o.type S K) :
    ∃ v S', (QV P (WRel ψ D m0 w0 S.m S.ls) S.m o a v ∧ (pureOp o.op = true → ∀ w, (execOp a.eval o).run P w = .ok (.value v) w) ∧ (noFun o.op = true → ∀ w', WRel ψ D m0 w0 S.m S.ls w' → (execOp a.eval o).run P w' = .ok (.value v) w')) ∧ K S' ∧ S'.m = S.m ∧ S'.ls = S.ls ∧ Rel ψ N D m0 w0 S' (a.put o.dst v) w := by
  obtain ⟨dst, op, ty, pos, after, guard⟩ := o
  have puts : ∀ (d : Option Nat) (x : AV), (S.put d x).m = S.m ∧ (S.put d x).ls = S.ls := by intro d x; cases d <;> exact ⟨rfl, rfl⟩
  have val : ∀ {v : Value} {x : AV}, x.is ψ S.ls.length v → K (S.put dst x) → (∀ w, Rel ψ N D m0 w0 S a w → (execOp a.eval ⟨dst, op, ty, pos, after, guard⟩).run P w = .ok (.value v) w) →
      (pureOp op = true → ∀ w, (execOp a.eval ⟨dst, op, ty, pos, after, guard⟩).run P w = .ok (.value v) w) →
      ∃ v S', (QV P (WRel ψ D m0 w0 S.m S.ls) S.m ⟨dst, op, ty, pos, after, guard⟩ a v ∧ (pureOp op = true → ∀ w, (execOp a.eval ⟨dst, op, ty, pos, after, guard⟩).run P w = .ok (.value v) w) ∧ (noFun op = true → ∀ w', WRel ψ D m0 w0 S.m S.ls w' → (execOp a.eval ⟨dst, op, ty, pos, after, guard⟩).run P w' = .ok (.value v) w')) ∧ K S' ∧ S'.m = S.m ∧ S'.ls = S.ls ∧ Rel ψ N D m0 w0 S' (a.put dst v) w :=
    fun hx h1 hrun hpu => ⟨_, _, ⟨quietV hR hrun, hpu, fun _ w' hw' => hrun w' (hR.move hw')⟩, h1, (puts _ _).1, (puts _ _).2, hR.put hx hd⟩
  rw [vcQ_eq] at hk
  unfold vcQS at hk
  simp only at hk
  split at hk
  · rename_i c
    split at hk
    · rename_i f hcal
      obtain ⟨x, hx, h1⟩ := hR.ev hk
      split at h1
      · rename_i g first cap
        obtain ⟨h2, h3⟩ := req_spec h1
        obtain ⟨v, h4, h5⟩ := hR.evs h3
        simp only [AV.is] at hx
        obtain ⟨y, hy, h6⟩ := norm_sound h5 ψ S.ls.length
        refine ⟨v, _, ⟨fun w' hw' => ?_, fun h => by simp [pureOp] at h, fun h => by simp [noFun, hcal] at h⟩, h6, (puts _ _).1, (puts _ _).2, hR.put hy hd⟩
        have hBg : bodyB P g = true := List.all_eq_true.1 hB _ (by simpa using h2)
        obtain ⟨callee, args, ats⟩ := c
        simp only at hcal
        subst hcal
        have he : (first ++ args.map a.eval) ++ cap = (first.toList ++ args.toList.map a.eval ++ cap.toList).toArray := by
          apply Array.ext'
          simp
        unfold Oper.quietAt
        simp only [execOp, resolve, hx, Deferred.ofValue, pure_bind, invoke]
        rw [he, run_callFunc hBg]
        refine ⟨rfl, (h4 w' hw'.1.sub).mono fun e w'' hh => ?_⟩
        obtain ⟨u, m', h7, ⟨h8, h9⟩, hF⟩ := hh
        subst h8; subst h9
        exact ⟨h7, hF⟩
      · exact h1.elim
    · rename_i b hcal
      obtain ⟨hqb, h1⟩ := req_spec hk
      rw [callK_eq] at h1
      unfold callKS at h1
      rw [hcal] at h1
      simp only at h1
      have one : ∀ {v : Value}, (∀ w : World, (Go.builtin b c.argTypes ty (c.args.map fun | .const _ => true | _ => false) (c.args.map a.eval)).run P w = .ok (.value v) w) → K (S.put dst (.v v)) →
          ∃ v S', (QV P (WRel ψ D m0 w0 S.m S.ls) S.m ⟨dst, .call c, ty, pos, after, guard⟩ a v ∧ (pureOp (.call c) = true → ∀ w, (execOp a.eval ⟨dst, .call c, ty, pos, after, guard⟩).run P w = .ok (.value v) w) ∧ (noFun (.call c) = true → ∀ w', WRel ψ D m0 w0 S.m S.ls w' → (execOp a.eval ⟨dst, .call c, ty, pos, after, guard⟩).run P w' = .ok (.value v) w')) ∧ K S' ∧ S'.m = S.m ∧ S'.ls = S.ls ∧ Rel ψ N D m0 w0 S' (a.put dst v) w := by
        intro v h2 h3
        exact val (x := .v v) rfl h3 (fun w _ => run_builtin hcal (h2 w)) (fun h => by simp [pureOp] at h)
      split at h1
      · rename_i o t h2 h3
        have hna : c.args = #[o] := by apply Array.ext'; rw [h2]
        have hnt : c.argTypes = #[t] := by apply Array.ext'; rw [h3]
        obtain ⟨x, hx, h4⟩ := hR.ev h1
        split at h4
        · rename_i ht
          simp only [AV.is] at hx
          have hu := under_slice (Tbl.fact hT (t := t) (by rw [ht]; simp)) ht
          exact one (fun w => by simp [hna, hnt, builtin, Builtin.len_, run_underlying hu, hx, goInt]) h4
        · rename_i ht
          simp only [AV.is] at hx
          have hu := under_str (Tbl.fact hT (t := t) (by rw [ht]; simp)) ht
          exact one (fun w => by simp [hna, hnt, builtin, Builtin.len_, run_underlying hu, hx, goInt]) h4
        · rename_i ht
          have hu := under_arr (Tbl.fact hT (t := t) (by rw [ht]; simp)) ht
          exact one (fun w => by simp [hna, hnt, builtin, Builtin.len_, run_underlying hu, goInt]) h4
        · exact h4.elim
      · rename_i o t h2 h3
        have hna : c.args = #[o] := by apply Array.ext'; rw [h2]
        have hnt : c.argTypes = #[t] := by apply Array.ext'; rw [h3]
        obtain ⟨x, hx, h4⟩ := hR.ev h1
        split at h4
        · rename_i ht
          simp only [AV.is] at hx
          have hu := under_slice (Tbl.fact hT (t := t) (by rw [ht]; simp)) ht
          exact one (fun w => by simp [hna, hnt, builtin, Builtin.cap_, run_underlying hu, hx, goInt]) h4
        · rename_i ht
          have hu := under_arr (Tbl.fact hT (t := t) (by rw [ht]; simp)) ht
          exact one (fun w => by simp [hna, hnt, builtin, Builtin.cap_, run_underlying hu, goInt]) h4
        · exact h4.elim
      · rename_i o o' h2
        have hna : c.args = #[o, o'] := by apply Array.ext'; rw [h2]
        obtain ⟨x, hx, h4⟩ := hR.ev h1
        obtain ⟨y, hy, h5⟩ := hR.ev h4
        split at h5
        · obtain ⟨_, h6⟩ := req_spec h5
          simp only [AV.is] at hx hy
          exact one (fun w => by simp [hna, builtin, Builtin.max_, Builtin.max2, hx, hy]) h6
        · exact h5.elim
      · rename_i o o' h2
        have hna : c.args = #[o, o'] := by apply Array.ext'; rw [h2]
        obtain ⟨x, hx, h4⟩ := hR.ev h1
        obtain ⟨y, hy, h5⟩ := hR.ev h4
        split at h5
        · obtain ⟨_, h6⟩ := req_spec h5
          simp only [AV.is] at hx hy
          exact one (fun w => by simp [hna, builtin, Builtin.min_, Builtin.min2, hx, hy]) h6
        · exact h5.elim
      all_goals first
        | exact h1.elim
        | (simp [quietBuiltin] at hqb; done)
        | (exfalso; obtain ⟨hq2, _⟩ := req_spec h1; simp [hqb] at hq2)
    · exact hk.elim
  · obtain ⟨hq, h1⟩ := req_spec hk
    obtain ⟨v, x, hx, h2, hrun⟩ := vcVal (pos := pos) (after := after) (guard := guard) hT hR hq h1
    exact val hx h2 (fun w hR => hrun w (.inr hR)) (fun h w => hrun w (.inl (pureOp_mem h)))
theorem vcQ_sound (hT : T.ok P = true) (hB : bodiesOk P B = true) (hR : Rel ψ N D m0 w0 S a w) {o : Oper} (hd : ∀ i, o.dst = some i → i < N) (hk : vcQ P T B pr o.dst o.op o.type S K) {Kq : Act → Prop}
    (hK : ∀ S' a', K S' → S'.m = S.m → S'.ls = S.ls → Rel ψ N D m0 w0 S' a' w → Kq a') : o.quiet P a (WRel ψ D m0 w0 S.m S.ls) Kq := by
  obtain ⟨v, S', ⟨h1, _⟩, h2, h3, h4, h5⟩ := vcQ_fam hT hB hR hd hk
  exact ⟨v, fun w' hw' => quietAt_mono (fun w'' hF => hw'.call hF) (h1 w' hw'), hK S' _ h2 h3 h4 h5⟩
theorem yielded_at {ops : List Oper} {j d : Nat} {tmps : Array Value} (hj : (ops[j]?).bind (·.dst) = some d) : yielded ops.toArray tmps j = match tmps.getD d undef with | .bool b => some b | _ => none := by
  simp only [yielded]
  have : (ops.toArray[j]?).bind (·.dst) = some d := by simpa using hj
  simp only [this, Option.bind_some, Array.getD_eq_getD_getElem?]
  cases tmps[d]? with
  | none => rfl
  | some v => cases v <;> rfl
theorem vcQs_sound (hT : T.ok P = true) (hB : bodiesOk P B = true) (ops : List Oper) : ∀ (rest : List Oper) (S : St) (a : Act) (w : World) (K : St → Prop), (rest.all (dstOk N)) = true → vcQs P T B pr ops rest S K → Rel ψ N D m0 w0 S a w →
    wpQuiet P ops.toArray (WRel ψ D m0 w0 S.m S.ls) (fun a' => ∃ S', K S' ∧ S'.m = S.m ∧ S'.ls = S.ls ∧ Rel ψ N D m0 w0 S' a' w) rest a
  | [], S, a, w, K, _, hk, hR => ⟨S, hk, rfl, rfl, hR⟩
  | o :: rest, S, a, w, K, hd, hk, hR => by
    simp only [List.all_cons, Bool.and_eq_true] at hd
    have hdo := dstOk_spec hd.1
    rw [vcQs_cons] at hk
    simp only [wpQuiet]
    have ih : ∀ (S1 : St) (a1 : Act), S1.m = S.m → S1.ls = S.ls → vcQs P T B pr ops rest S1 K → Rel ψ N D m0 w0 S1 a1 w → wpQuiet P ops.toArray (WRel ψ D m0 w0 S.m S.ls) (fun a' => ∃ S', K S' ∧ S'.m = S.m ∧ S'.ls = S.ls ∧ Rel ψ N D m0 w0 S' a' w) rest a1 := by
      intro S1 a1 h1 h2 h3 h4
      have := vcQs_sound hT hB ops rest S1 a1 w K hd.2 h3 h4
      rw [h1, h2] at this
      exact this
    have run : ∀ S1 : St, S1.m = S.m → S1.ls = S.ls → Rel ψ N D m0 w0 S1 a w → (vcQ P T B pr o.dst o.op o.type S1 fun S' => vcQs P T B pr ops rest S' K) →
        o.quiet P a (WRel ψ D m0 w0 S.m S.ls) (wpQuiet P ops.toArray (WRel ψ D m0 w0 S.m S.ls) (fun a' => ∃ S', K S' ∧ S'.m = S.m ∧ S'.ls = S.ls ∧ Rel ψ N D m0 w0 S' a' w) rest) := by
      intro S1 h1 h2 h3 h4
      have := vcQ_sound hT hB h3 hdo h4 (fun S' a' h5 h6 h7 h8 => ih S' a' (h6.trans h1) (h7.trans h2) h5 h8)
      rw [h1, h2] at this
      exact this
    have puts : ∀ (S : St) (d : Option Nat) (x : AV), (S.put d x).m = S.m ∧ (S.put d x).ls = S.ls := by intro S d x; cases d <;> exact ⟨rfl, rfl⟩
    cases hg : o.guard with
    | none =>
      rw [hg] at hk
      rw [if_pos (by simp [Region.wanted, hg])]
      exact run S rfl rfl hR hk
    | some g =>
      obtain ⟨j, want⟩ := g
      rw [hg] at hk
      simp only at hk
      cases hj : (ops[j]?).bind (·.dst) with
      | none => rw [hj] at hk; exact hk.elim
      | some d =>
        rw [hj] at hk
        simp only at hk
        obtain ⟨x, hx, h1⟩ := lkK_spec hk
        have hx' := hR.env _ _ hx
        have hy := yielded_at (tmps := a.tmps) hj
        split at h1
        · rename_i b
          simp only [AV.is] at hx'
          rw [hx'] at hy
          simp only at hy
          cases hb : (b == want) with
          | true =>
            rw [hb] at h1
            have hbw : b = want := by simpa using hb
            rw [if_pos (by simp [Region.wanted, hg, hy, hbw])]
            exact run _ (puts _ _ _).1 (puts _ _ _).2 (hR.entry (x := .v (.bool want)) (by simp only [AV.is]; rw [hx', hbw])) h1
          | false =>
            rw [hb] at h1
            have hbw : b ≠ want := by simpa using hb
            rw [if_neg (by simp [Region.wanted, hg, hy, hbw])]
            exact ih (St.put (S.put (some d) (.v (.bool (!want)))) o.dst (.v undef)) _ ((puts _ _ _).1.trans (puts _ _ _).1) ((puts _ _ _).2.trans (puts _ _ _).2) h1 (Rel.undef (hR.entry (x := .v (.bool (!want))) (by simp only [AV.is]; rw [hx']; cases b <;> cases want <;> simp_all)) _ hdo)
        · simp only [AV.is] at hx'
          rw [hx'] at hy
          simp only at hy
          rw [if_neg (by simp [Region.wanted, hg, hy])]
          exact ih _ _ (puts _ _ _).1 (puts _ _ _).2 h1 (hR.undef _ hdo)
        · exact h1.elim

/-! ### a block that floats -/
/-- The world's classes: as it was; with a new block; any. -/
inductive FK where
  | base
  | new (k : Nat) (o : Obj)
  | any (p : World → Prop)
def CF (ψ : Nat → Nat) (D : HD) (m0 : Mem) (w0 : World) (m : Mem) (ls : List LC) : FK → World → Prop
  | .base => WRel ψ D m0 w0 m ls
  | .new k o => fun w => WRel ψ ⟨D.defers, (k, o) :: D.hid⟩ m0 w0 m ls w ∧ w0.heap.size ≤ k ∧ ∀ o', (k, o') ∉ D.hid
  | .any p => p
/-- In which classes head i does what it does. -/
def RF (ops : Array Oper) (i : Nat) : FK → Prop
  | .any _ => ∃ o, ops[i]? = some o ∧ pureOp o.op = true
  | _ => True
theorem WRel.fewer {m : Mem} {ls : List LC} {x : Nat × Obj} (h : WRel ψ ⟨D.defers, x :: D.hid⟩ m0 w0 m ls w) : WRel ψ D m0 w0 m ls w := ⟨h.1, h.2.1, fun b o hb => h.2.2 b o (List.mem_cons_of_mem _ hb)⟩
theorem CF.new {m : Mem} {ls : List LC} {o : Obj} (h : WRel ψ D m0 w0 m ls w) : CF ψ D m0 w0 m ls (.new w.heap.size o) (w.alloc o) := by
  have hlt : ∀ (k : Nat) (x : Obj), w.heap[k]? = some x → k < w.heap.size := fun k x hk => (Array.getElem?_eq_some_iff.1 hk).1
  have hold : ∀ (k : Nat) (x : Obj), w.heap[k]? = some x → (w.alloc o).heap[k]? = some x := fun k x hk => by
    rw [heap_alloc, if_neg (by have := hlt k x hk; omega)]
    exact hk
  have hm : m w.heap.size = none := by
    cases hm : m w.heap.size with
    | none => rfl
    | some o' => exact absurd (hlt _ _ (h.1.sub _ _ hm)) (Nat.lt_irrefl _)
  refine ⟨⟨h.1.junk o, fun i c hc => ?_, fun b x hb => ?_⟩, h.1.size, fun o' ho' => absurd (hlt _ _ (h.2.2 _ _ ho').1) (Nat.lt_irrefl _)⟩
  · obtain ⟨e, h1, h2, h3⟩ := h.2.1 i c hc
    exact ⟨e, hold _ _ h1, h2, h3⟩
  · rcases List.mem_cons.1 hb with hb | hb
    · cases hb
      refine ⟨by rw [heap_alloc, if_pos rfl], hm, fun i hi => ?_⟩
      obtain ⟨e, h1, _⟩ := h.2.1 i _ (List.getElem?_eq_getElem hi)
      have := hlt _ _ h1
      omega
    · obtain ⟨h1, h2, h3⟩ := h.2.2 b x hb
      exact ⟨hold _ _ h1, h2, h3⟩
theorem Rel.floatBox {k : Nat} {c : LC} {e : Nat} (h : Rel ψ N ⟨D.defers, (k, .cells c.list.toArray e (0, 0)) :: D.hid⟩ m0 w0 S a w) (hk : w0.heap.size ≤ k) (hn : ∀ o', (k, o') ∉ D.hid) :
    ∃ ψ', ψ' S.ls.length = k ∧ Rel ψ' N D m0 w0 { S with ls := S.ls ++ [c] } a w := by
  obtain ⟨g1, g2, g3⟩ := h.marks k _ List.mem_cons_self
  refine ⟨fun i => if i = S.ls.length then k else ψ i, by simp, h.size, h.defers, fun i x hx => ?_, fun i c' hc => ?_, fun i j hi hj he => ?_, h.frame, fun b o hd => ?_⟩
  · refine AV.is_mono (h.env i x hx) (by simp) fun j hj => ?_
    rw [if_neg (by omega)]
  · by_cases hi : i = S.ls.length
    · subst hi
      simp at hc
      subst hc
      simp only [if_true]
      exact ⟨e, g1, g2, hk⟩
    · have hlt : i < S.ls.length := by
        have := (List.getElem?_eq_some_iff.1 hc).1
        simp at this
        omega
      rw [List.getElem?_append_left hlt] at hc
      simp only [if_neg hi]
      exact h.box i c' hc
  · simp at hi hj
    by_cases hi' : i = S.ls.length
    · by_cases hj' : j = S.ls.length
      · omega
      · simp only [if_pos hi', if_neg hj'] at he
        exact absurd he.symm (g3 j (by omega))
    · by_cases hj' : j = S.ls.length
      · simp only [if_neg hi', if_pos hj'] at he
        exact absurd he (g3 i (by omega))
      · simp only [if_neg hi', if_neg hj'] at he
        exact h.inj i j (by omega) (by omega) he
  · obtain ⟨h1, h2, h4⟩ := h.marks b o (List.mem_cons_of_mem _ hd)
    refine ⟨h1, h2, fun i hi => ?_⟩
    by_cases hi' : i = S.ls.length
    · simp only [if_pos hi']
      rintro rfl
      exact hn o hd
    · simp only [if_neg hi']
      simp at hi
      exact h4 i (by omega)
theorem Rel.floatMem {k : Nat} {o : Obj} (h : Rel ψ N ⟨D.defers, (k, o) :: D.hid⟩ m0 w0 S a w) (hk : w0.heap.size ≤ k) (hn : ∀ o', (k, o') ∉ D.hid) : Rel ψ N D m0 w0 { S with m := S.m.set k o } a w := by
  obtain ⟨g1, g2, g3⟩ := h.marks k _ List.mem_cons_self
  refine ⟨h.size, h.defers, h.env, fun i c hc => ?_, h.inj, ⟨h.frame.os, h.frame.tape, h.frame.output, h.frame.size, fun b o' hb => ?_, h.frame.keep, fun b hb => ?_⟩, fun b o' hd => ?_⟩
  · obtain ⟨e, h1, h2, h3⟩ := h.box i c hc
    refine ⟨e, h1, ?_, h3⟩
    show Mem.set S.m k o (ψ i) = none
    simp only [Mem.set, if_neg (g3 i (List.getElem?_eq_some_iff.1 hc).1)]
    exact h2
  · simp only [Mem.set] at hb
    split at hb
    · rename_i he; cases hb; rw [he]; exact g1
    · exact h.frame.sub b o' hb
  · by_cases he : b = k
    · subst he; exact .inr hk
    · simp only [Mem.set, if_neg he] at hb
      exact h.frame.dom b hb
  · obtain ⟨h1, h2, h4⟩ := h.marks b o' (List.mem_cons_of_mem _ hd)
    refine ⟨h1, ?_, h4⟩
    show Mem.set S.m k o b = none
    have hne : b ≠ k := by rintro rfl; exact hn o' hd
    simp only [Mem.set, if_neg hne]
    exact h2
def freshOp : Op → Bool
  | .alloc _ => true
  | .buildSlice .. => true
  | .makeSlice .. => true
  | _ => false
theorem fresh_sound (hT : T.ok P = true) (hR : Rel ψ N D m0 w0 S a w) {dst : Option Tmp} {op : Op} {ty : TypeId} {pos : String} {after : Array Edge} {guard : Option (Nat × Bool)} (hd : ∀ i, dst = some i → i < N) (hf : freshOp op = true) (hk : vcOp P T B pr dst op ty S K) :
    ∃ (o : Obj) (mk : Nat → Value), (∀ w' : World, (execOp a.eval ⟨dst, op, ty, pos, after, guard⟩).run P w' = .ok (.value (mk w'.heap.size)) (w'.alloc o)) ∧
      ∀ (k : Nat) (w2 : World), Rel ψ N ⟨D.defers, (k, o) :: D.hid⟩ m0 w0 S a w2 → w0.heap.size ≤ k → (∀ o', (k, o') ∉ D.hid) → ∃ S1, K S1 ∧ Relx N D m0 w0 S1 (a.put dst (mk k)) w2 := by
  rw [vcOp_eq] at hk
  unfold vcOpS at hk
  split at hk <;> simp only [freshOp, Bool.false_eq_true] at hf
  · rename_i e
    obtain ⟨h0, h1⟩ := req_spec hk
    obtain ⟨z, hz, hzl, _⟩ := (tyfact_of_size hT (t := e) (by have := blt_spec h0; omega)).zero
    refine ⟨.cells (T.at e).zero.list.toArray e (0, 0), fun k => .pointer (some ⟨k, 0, none⟩), fun w' => run_val ?_, fun k w2 hR2 hk2 hn2 => ?_⟩
    · simp only [Instr.alloc, Sem.run_bind, hz, Result.andThen_ok]
      rw [← hzl]
      rfl
    · rw [newK_eq] at h1
      unfold newKS at h1
      split at h1
      · rename_i d
        cases hc : pr.contains d with
        | true =>
          rw [hc] at h1
          simp only [cond_true] at h1
          obtain ⟨ψ', hψ, hR3⟩ := hR2.floatBox hk2 hn2
          exact ⟨_, h1, ψ', hR3.put ⟨by simp, by rw [hψ]⟩ hd⟩
        | false =>
          rw [hc] at h1
          simp only [cond_false] at h1
          exact ⟨_, h1 k (hR2.marks k _ List.mem_cons_self).2.1, ψ, (hR2.floatMem hk2 hn2).put rfl hd⟩
      · exact h1.elim
  · rename_i t len parts
    split at hk
    · rename_i e he
      obtain ⟨h0, h1⟩ := req_spec hk
      obtain ⟨h2, h3⟩ := req_spec h1
      have h0 := blt_spec h0
      have h2 := Nat.le_of_ble_eq_true h2
      obtain ⟨cs, hcs, hk⟩ := fillK_sound hR (place' := fun i => some (i * (T.at e).size, (T.at e).size)) (fun i => rfl) parts.toList _ _ h3
      exact ⟨.cells cs.toList.toArray e (0, 0), fun k => .slice (some ⟨k, 0, none⟩) len len, fun w' => buildSlice_run hT he h0 h2 hcs w', fun k w2 hR2 hk2 hn2 => ⟨_, hk k (hR2.marks k _ List.mem_cons_self).2.1, ψ, (hR2.floatMem hk2 hn2).put rfl hd⟩⟩
    · exact hk.elim
  · rename_i t l c
    obtain ⟨x, hx, h1⟩ := hR.ev hk
    obtain ⟨y, hy, h2⟩ := hR.ev h1
    split at h2
    · rename_i e n cp he
      obtain ⟨h0, h3, h4, h5, h6, hK⟩ := req_spec h2
      simp only [AV.is] at hx hy
      have hu := under_slice (Tbl.fact hT (t := t) (by rw [he]; simp)) he
      have hfe := tyfact_of_size hT (t := e) (by have := blt_spec h0; omega)
      obtain ⟨z, hz, hzl, _⟩ := hfe.zero
      have hwn : IntKind.i64.wrap n = n := wrap_i64 h3 (by omega)
      have hwc : IntKind.i64.wrap cp = cp := wrap_i64 (by omega) h5
      refine ⟨.cells (zerosOf T e cp.toNat).list.toArray e (0, 0), fun k => .slice (some ⟨k, 0, none⟩) n.toNat cp.toNat, fun w' => run_val ?_, fun k w2 hR2 hk2 hn2 => ⟨_, hK k (hR2.marks k _ List.mem_cons_self).2.1, ψ, (hR2.floatMem hk2 hn2).put rfl hd⟩⟩
      obtain ⟨inf, hinf, hb, _⟩ := hfe.typeInfo w'
      simp only [Instr.makeSlice, Sem.run_bind, run_underlying hu, Result.andThen_ok, hx, hy, asInt, asIntOf, Sem.run_pure, hinf, hb, hwn, hwc]
      have c1 : ¬ cp < 0 := by omega
      have c2 : ¬ ((T.at e).bytes : Int) * cp > 2 ^ 48 := by omega
      have c3 : ¬ n < 0 := by omega
      have c4 : ¬ n > cp := by omega
      rw [if_neg (by simp only [Bool.or_eq_true, decide_eq_true_eq]; rintro (((h | h) | h) | h) <;> contradiction)]
      have hse := hfe.size w'
      have hzer := zeros_eq (T := T) e z hzl cp.toNat hfe.len
      simp only [Sem.run_bind, run_askRoom, Result.andThen_ok, hse]
      by_cases h : cp.toNat * (T.at e).size = 0
      · rw [if_pos h]
        have h0' : (zerosOf T e cp.toNat).list.toArray = #[] := by
          apply Array.ext'
          rw [List.toList_toArray, ← hzer, h]
          simp
        simp only [Sem.run_bind, Sem.run_pure, Result.andThen_ok, h, h0']
        rw [show (Array.map (fun x => (#[] : Array Value)[x % (#[] : Array Value).size]!) (Array.range 0)) = #[] from by simp]
        rfl
      · rw [if_neg h]
        have h0' : (zerosOf T e cp.toNat).list.toArray = (Array.range (cp.toNat * (T.at e).size)).map fun x => z.cells[x % z.cells.size]! := by
          apply Array.ext'
          rw [List.toList_toArray, ← hzer]
        simp only [Sem.run_bind, Sem.run_pure, Result.andThen_ok, hz, h0']
        rfl
    · exact h2.elim
def isStore : Op → Bool
  | .store .. => true
  | _ => false
theorem store_run (hT : T.ok P = true) (hR : Rel ψ N D m0 w0 S a w) {dst : Option Tmp} {op : Op} {ty : TypeId} {pos : String} {after : Array Edge} {guard : Option (Nat × Bool)} (hd : ∀ i, dst = some i → i < N) (hf : isStore op = true) (hk : vcOp P T B pr dst op ty S K) :
    ∃ w' S2, (execOp a.eval ⟨dst, op, ty, pos, after, guard⟩).run P w = .ok .skip w' ∧ K S2 ∧ Relx N D m0 w0 S2 (a.put dst undef) w' := by
  rw [vcOp_eq] at hk
  unfold vcOpS at hk
  split at hk <;> simp only [isStore, Bool.false_eq_true] at hf
  rename_i t p u
  obtain ⟨h0, h1⟩ := req_spec hk
  have h0 := blt_spec h0
  obtain ⟨x, hx, h2⟩ := hR.ev h1
  obtain ⟨y, hy, h3⟩ := hR.ev h2
  have hrun : ∀ {q : Addr} {w' : World}, a.eval p = .pointer (some q) → (storeVar t q (a.eval u)).run P w = .ok () w' → (execOp a.eval ⟨dst, .store t p u, ty, pos, after, guard⟩).run P w = .ok .skip w' := by
    intro q w' h4 h5
    simp only [execOp, Instr.storeAt, h4, Instr.sureAddr, pure_bind, Sem.run_bind, h5, Result.andThen_ok]
    rfl
  split at h3
  · rename_i i off
    split at h3
    · rename_i c hc
      obtain ⟨w', c', h4, hK, hR'⟩ := stLoc_sound hT hR hc hy h3 (by omega)
      exact ⟨w', _, hrun hx.2 h4, hK, ψ, hR'.undef _ hd⟩
    · exact h3.elim
  · rename_i q
    obtain ⟨w', m', h4, hK, hR'⟩ := stMem_sound hT hR hy h3 (by omega)
    simp only [AV.is] at hx
    exact ⟨w', _, hrun hx h4, hK, ψ, hR'.undef _ hd⟩
  · exact h3.elim
theorem YF_of {m : Mem} {ls : List LC} {ops : Array Oper} {o : Oper} {v : Value} {i : Nat} (hi : ops[i]? = some o) (hw : Region.wanted o (yielded ops a.tmps) = true)
    (h : QV P (WRel ψ D m0 w0 m ls) m o a v ∧ (pureOp o.op = true → ∀ w, (execOp a.eval o).run P w = .ok (.value v) w)) : YF P ops (CF ψ D m0 w0 m ls) (RF ops i) o v a := by
  refine .inl ⟨hw, fun k w hk hC => ?_⟩
  cases k with
  | base => exact quietAt_mono (fun _ hF => WRel.call hC hF) (h.1 w hC)
  | new k o => exact quietAt_mono (fun _ hF => ⟨hC.1.call hF, hC.2⟩) (h.1 w hC.1.fewer)
  | any p =>
    obtain ⟨o', ho', hp⟩ := hk
    rw [hi] at ho'
    cases ho'
    unfold Oper.quietAt
    rw [h.2 hp w]
    exact ⟨rfl, rfl⟩
theorem vcQs_walk (hT : T.ok P = true) (hB : bodiesOk P B = true) (ops : List Oper) : ∀ (rest : List Oper) (k : Nat) (S : St) (a : Act) (w : World) (K : St → Prop), (∀ j, j < rest.length → rest[j]? = ops[k + j]?) → (rest.all (dstOk N)) = true → vcQs P T B pr ops rest S K → Rel ψ N D m0 w0 S a w →
    ∃ b S', walkF P ops.toArray (CF ψ D m0 w0 S.m S.ls) (RF ops.toArray) k rest a b ∧ K S' ∧ S'.m = S.m ∧ S'.ls = S.ls ∧ Rel ψ N D m0 w0 S' b w
  | [], _, S, a, w, K, _, _, hk, hR => ⟨a, S, rfl, hk, rfl, rfl, hR⟩
  | o :: rest, k, S, a, w, K, hix, hd, hk, hR => by
    have hko : ops.toArray[k]? = some o := by simpa using (hix 0 (by simp)).symm
    have hix' : ∀ j, j < rest.length → rest[j]? = ops[k + 1 + j]? := fun j hj => by
      have := hix (j + 1) (by simp; omega)
      simpa [Nat.add_assoc, Nat.add_comm 1 j] using this
    simp only [List.all_cons, Bool.and_eq_true] at hd
    have hdo := dstOk_spec hd.1
    rw [vcQs_cons] at hk
    have ih : ∀ (S1 : St) (v : Value), S1.m = S.m → S1.ls = S.ls → vcQs P T B pr ops rest S1 K → Rel ψ N D m0 w0 S1 (a.put o.dst v) w → YF P ops.toArray (CF ψ D m0 w0 S.m S.ls) (RF ops.toArray k) o v a →
        ∃ b S', walkF P ops.toArray (CF ψ D m0 w0 S.m S.ls) (RF ops.toArray) k (o :: rest) a b ∧ K S' ∧ S'.m = S.m ∧ S'.ls = S.ls ∧ Rel ψ N D m0 w0 S' b w := by
      intro S1 v h1 h2 h3 h4 h5
      obtain ⟨b, S', g1, g2, g3, g4, g5⟩ := vcQs_walk hT hB ops rest (k + 1) S1 (a.put o.dst v) w K hix' hd.2 h3 h4
      rw [h1, h2] at g1
      exact ⟨b, S', ⟨v, h5, g1⟩, g2, g3.trans h1, g4.trans h2, g5⟩
    have run : ∀ S1 : St, S1.m = S.m → S1.ls = S.ls → Region.wanted o (yielded ops.toArray a.tmps) = true → Rel ψ N D m0 w0 S1 a w → (vcQ P T B pr o.dst o.op o.type S1 fun S' => vcQs P T B pr ops rest S' K) →
        ∃ b S', walkF P ops.toArray (CF ψ D m0 w0 S.m S.ls) (RF ops.toArray) k (o :: rest) a b ∧ K S' ∧ S'.m = S.m ∧ S'.ls = S.ls ∧ Rel ψ N D m0 w0 S' b w := by
      intro S1 h1 h2 hwant h3 h4
      obtain ⟨v, S2, g1, g2, g3, g4, g5⟩ := vcQ_fam hT hB h3 hdo h4
      rw [h1, h2] at g1
      exact ih S2 v (g3.trans h1) (g4.trans h2) g2 g5 (YF_of hko hwant ⟨g1.1, g1.2.1⟩)
    have puts : ∀ (S : St) (d : Option Nat) (x : AV), (S.put d x).m = S.m ∧ (S.put d x).ls = S.ls := by intro S d x; cases d <;> exact ⟨rfl, rfl⟩
    cases hg : o.guard with
    | none =>
      rw [hg] at hk
      exact run S rfl rfl (by simp [Region.wanted, hg]) hR hk
    | some g =>
      obtain ⟨j, want⟩ := g
      rw [hg] at hk
      simp only at hk
      cases hj : (ops[j]?).bind (·.dst) with
      | none => rw [hj] at hk; exact hk.elim
      | some d =>
        rw [hj] at hk
        simp only at hk
        obtain ⟨x, hx, h1⟩ := lkK_spec hk
        have hx' := hR.env _ _ hx
        have hy := yielded_at (tmps := a.tmps) hj
        split at h1
        · rename_i b
          simp only [AV.is] at hx'
          rw [hx'] at hy
          simp only at hy
          cases hb : (b == want) with
          | true =>
            rw [hb] at h1
            have hbw : b = want := by simpa using hb
            exact run _ (puts _ _ _).1 (puts _ _ _).2 (by simp [Region.wanted, hg, hy, hbw]) (hR.entry (x := .v (.bool want)) (by simp only [AV.is]; rw [hx', hbw])) h1
          | false =>
            rw [hb] at h1
            have hbw : b ≠ want := by simpa using hb
            exact ih (St.put (S.put (some d) (.v (.bool (!want)))) o.dst (.v undef)) undef ((puts _ _ _).1.trans (puts _ _ _).1) ((puts _ _ _).2.trans (puts _ _ _).2) h1 (Rel.undef (hR.entry (x := .v (.bool (!want))) (by simp only [AV.is]; rw [hx']; cases b <;> cases want <;> simp_all)) _ hdo)
              (.inr ⟨by simp [Region.wanted, hg, hy, hbw], rfl⟩)
        · simp only [AV.is] at hx'
          rw [hx'] at hy
          simp only at hy
          exact ih _ undef (puts _ _ _).1 (puts _ _ _).2 h1 (hR.undef _ hdo) (.inr ⟨by simp [Region.wanted, hg, hy], rfl⟩)
        · exact h1.elim

/-! ### code -/
theorem Rel.le (h : Rel ψ N D m0 w0 S a w) (hle : S.le S') : Rel ψ N D m0 w0 S' a w := by
  obtain ⟨h1, ⟨l, h2⟩, h3, h4⟩ := hle
  have hlen : S.ls.length = S'.ls.length + l.length := by rw [h2]; simp
  refine ⟨h.size, h.defers, fun i x hx => ?_, fun i c hc => ?_, fun i j hi hj => h.inj i j (by omega) (by omega), h.frame.less h3, fun b o hd => ?_⟩
  · have := h.env i x (h1 i x hx)
    have h5 := h4 i x hx
    cases x <;> simp only [AV.is] at this ⊢ <;> first | exact this | exact ⟨h5, this.2⟩
  · have hi := (List.getElem?_eq_some_iff.1 hc).1
    obtain ⟨e, g1, g2, g3⟩ := h.box i c (by rw [h2, List.getElem?_append_left hi]; exact hc)
    refine ⟨e, g1, ?_, g3⟩
    cases hm : S'.m (ψ i) with
    | none => rfl
    | some o => rw [h3 _ _ hm] at g2; cases g2
  · obtain ⟨g1, g2, g4⟩ := h.marks b o hd
    refine ⟨g1, ?_, fun i hi => g4 i (by omega)⟩
    cases hm : S'.m b with
    | none => rfl
    | some o => rw [h3 _ _ hm] at g2; cases g2
/-- The heads that are left behind operation n look at no world. -/
def restPure (ops : Array Oper) (h n : Nat) : Bool := (List.range h).all fun i => Region.waitsFor .any ops n i || match ops[i]? with
  | some o => pureOp o.op
  | none => false
/-- A region with a block that floats; with a store that may come up ahead of what looks at no world; with both. -/
def floatD (ops : Array Oper) (h : Nat) : Bool :=
  match ops[h]? with
  | some o => (freshOp o.op && floatB .any ops h 1) || ((isStore o.op && (restPure ops h h && floatB .any ops h 1)) || (freshOp o.op && (match ops[h + 1]? with
    | some o' => isStore o'.op && (restPure ops h (h + 1) && floatB .any ops h 2)
    | none => false)))
  | none => false
/-! ### an order -/
def noDefer (o : Oper) : Bool := match o.op with
  | .defer _ => false
  | _ => true
def tameB (T : Tbl) (o : Oper) : Bool := quietOp T o.op || freshOp o.op
def eagerB (ops : Array Oper) (T : Tbl) (listed : Array Bool) (i : Nat) (bl : List Nat) : Bool :=
  match ops[i]? with
  | some oi => quietOp T oi.op && (blockB ops bl i && (List.range ops.size).all fun j => j == i || (listed.getD j true || (bl.contains j || match ops[j]? with
    | some oj => oi.apart ops oj && (pureOp oi.op || tameB T oj)
    | none => true)))
  | none => false
def schedB (ops : Array Oper) (T : Tbl) : Sched → Nat → Array Bool → List Nat → Bool
  | .done, _, listed, cov => (Region.ready .any ops listed).isEmpty && cov.isEmpty
  | .one i bl s, f, listed, cov => match f with
    | 0 => false
    | f + 1 => cov.isEmpty && (listed.getD i true == false && ((Region.ready .any ops listed).contains i && ((Region.ready .any ops listed == [i] || eagerB ops T listed i bl) && schedB ops T s f (listed.setIfInBounds i true) [])))
  | .fork i s t, f, listed, cov => match f with
    | 0 => false
    | f + 1 => (Region.ready .any ops listed).contains i && (schedB ops T s f (listed.setIfInBounds i true) [] && schedB ops T t (f + 1) listed (i :: cov))
  | .stop, _, listed, cov => !cov.isEmpty && (Region.ready .any ops listed).all fun i => cov.contains i
theorem opStep_eq {ops : List Oper} {o : Oper} {ih : St → (St → Prop) → Prop} : opStep P T B pr ops o ih S K = match o.guard with
    | none => vcOpN P T B pr o.dst o.op o.type S fun S' => ih S' K
    | some (j, want) => match (ops[j]?).bind (·.dst) with
      | none => False
      | some d => lkK S.env d fun x => match x with
        | .v (.bool b) => brk (b == want) (vcOpN P T B pr o.dst o.op o.type { S with env := (d, .v (.bool want)) :: S.env } fun S' => ih S' K)
            (ih (St.put { S with env := (d, .v (.bool (!want))) :: S.env } o.dst (.v undef)) K)
        | .v (.tuple _) => ih (S.put o.dst (.v undef)) K
        | _ => False := by
  cases o; cases S; rfl
theorem opStepQ_eq {ops : List Oper} {o : Oper} {ih : St → (St → Prop) → Prop} : opStepQ P T B pr ops o ih S K = match o.guard with
    | none => vcQ P T B pr o.dst o.op o.type S fun S' => ih S' K
    | some (j, want) => match (ops[j]?).bind (·.dst) with
      | none => False
      | some d => lkK S.env d fun x => match x with
        | .v (.bool b) => brk (b == want) (vcQ P T B pr o.dst o.op o.type { S with env := (d, .v (.bool want)) :: S.env } fun S' => ih S' K)
            (ih (St.put { S with env := (d, .v (.bool (!want))) :: S.env } o.dst (.v undef)) K)
        | .v (.tuple _) => ih (S.put o.dst (.v undef)) K
        | _ => False := by
  cases o; cases S; rfl
/-- The guard's two ways. -/
theorem guard_ways {ops : List Oper} {o : Oper} {V : St → Prop} {I : St → Prop} (hR : Rel ψ N D m0 w0 S a w) (hdo : ∀ i, o.dst = some i → i < N) (h : match o.guard with
    | none => V S
    | some (j, want) => match (ops[j]?).bind (·.dst) with
      | none => False
      | some d => lkK S.env d fun x => match x with
        | .v (.bool b) => brk (b == want) (V { S with env := (d, .v (.bool want)) :: S.env }) (I (St.put { S with env := (d, .v (.bool (!want))) :: S.env } o.dst (.v undef)))
        | .v (.tuple _) => I (S.put o.dst (.v undef))
        | _ => False) :
    (∃ S1, Region.wanted o (yielded ops.toArray a.tmps) = true ∧ S1.m = S.m ∧ S1.ls = S.ls ∧ Rel ψ N D m0 w0 S1 a w ∧ V S1) ∨
    (∃ S1, Region.wanted o (yielded ops.toArray a.tmps) = false ∧ S1.m = S.m ∧ S1.ls = S.ls ∧ Rel ψ N D m0 w0 S1 (a.put o.dst undef) w ∧ I S1) := by
  have puts : ∀ (S : St) (d : Option Nat) (x : AV), (S.put d x).m = S.m ∧ (S.put d x).ls = S.ls := by intro S d x; cases d <;> exact ⟨rfl, rfl⟩
  cases hg : o.guard with
  | none =>
    rw [hg] at h
    exact .inl ⟨S, by simp [Region.wanted, hg], rfl, rfl, hR, h⟩
  | some g =>
    obtain ⟨j, want⟩ := g
    rw [hg] at h
    simp only at h
    cases hj : (ops[j]?).bind (·.dst) with
    | none => rw [hj] at h; exact h.elim
    | some d =>
      rw [hj] at h
      simp only at h
      obtain ⟨x, hx, h1⟩ := lkK_spec h
      have hx' := hR.env _ _ hx
      have hy := yielded_at (tmps := a.tmps) hj
      split at h1
      · rename_i b
        simp only [AV.is] at hx'
        rw [hx'] at hy
        simp only at hy
        cases hb : (b == want) with
        | true =>
          rw [hb] at h1
          have hbw : b = want := by simpa using hb
          exact .inl ⟨S.put (some d) (.v (.bool want)), by simp [Region.wanted, hg, hy, hbw], rfl, rfl, hR.entry (x := .v (.bool want)) (by simp only [AV.is]; rw [hx', hbw]), h1⟩
        | false =>
          rw [hb] at h1
          have hbw : b ≠ want := by simpa using hb
          exact .inr ⟨St.put (S.put (some d) (.v (.bool (!want)))) o.dst (.v undef), by simp [Region.wanted, hg, hy, hbw], (puts _ _ _).1, (puts _ _ _).2, Rel.undef (hR.entry (x := .v (.bool (!want))) (by simp only [AV.is]; rw [hx']; cases b <;> cases want <;> simp_all)) _ hdo, h1⟩
      · simp only [AV.is] at hx'
        rw [hx'] at hy
        simp only at hy
        exact .inr ⟨_, by simp [Region.wanted, hg, hy], (puts _ _ _).1, (puts _ _ _).2, hR.undef _ hdo, h1⟩
      · exact h1.elim
theorem quiet_noFun {op : Op} (h : quietOp T op = true) : noFun op = true := by
  cases op <;> first | rfl | skip
  rename_i c
  obtain ⟨callee, args, ats⟩ := c
  cases callee <;> simp_all [quietOp, noFun]
/-- A quiet operation: its value is the same in every world that fits. -/
theorem stepQ_val (hT : T.ok P = true) (hB : bodiesOk P B = true) {ops : List Oper} {o : Oper} {ih : St → (St → Prop) → Prop} (hR : Rel ψ N D m0 w0 S a w) (hdo : ∀ i, o.dst = some i → i < N) (hq : quietOp T o.op = true) (h : opStepQ P T B pr ops o ih S K) :
    ∃ v S', YV P ops.toArray (WRel ψ D m0 w0 S.m S.ls) o v a ∧ (pureOp o.op = true → YV P ops.toArray (fun _ => True) o v a) ∧ ih S' K ∧ Rel ψ N D m0 w0 S' (a.put o.dst v) w := by
  rw [opStepQ_eq] at h
  rcases guard_ways (V := fun S1 => vcQ P T B pr o.dst o.op o.type S1 fun S' => ih S' K) (I := fun S1 => ih S1 K) hR hdo h with ⟨S1, hw, h1, h2, h3, h4⟩ | ⟨S1, hw, h1, h2, h3, h4⟩
  · obtain ⟨v, S2, ⟨_, g1, g2⟩, g3, _, _, g6⟩ := vcQ_fam hT hB h3 hdo h4
    rw [h1, h2] at g2
    exact ⟨v, S2, .inl ⟨hw, g2 (quiet_noFun hq)⟩, fun hp => .inl ⟨hw, fun w _ => g1 hp w⟩, g3, g6⟩
  · exact ⟨undef, S1, .inr ⟨hw, rfl⟩, fun _ => .inr ⟨hw, rfl⟩, h4, h3⟩
/-- One operation. -/
theorem stepX_sound (hT : T.ok P = true) (hB : bodiesOk P B = true) {ops : List Oper} {i : Nat} {ih : St → (St → Prop) → Prop} (hall : ops.all (dstOk N) = true) (hnd : ops.all noDefer = true) (hR : Relx N D m0 w0 S a w) (h : stepX P T B pr ops i ih S K)
    {Kw : Act → World → Prop} (hK : ∀ S' a' w', ih S' K → Relx N D m0 w0 S' a' w' → Kw a' w') :
    wpOpIn (Fr r) 0 P ops.toArray Q i (fun a' w' => (∀ o, ops.toArray[i]? = some o → tameB T o = true → ExtW w w') ∧ Kw a' w') a w := by
  unfold stepX at h
  cases ho : ops[i]? with
  | none => rw [ho] at h; exact h.elim
  | some o =>
    rw [ho] at h
    simp only at h
    have ho' : ops.toArray[i]? = some o := by simpa using ho
    have hdo := dstOk_spec (List.all_eq_true.1 hall o (List.mem_of_getElem? ho))
    have hnd' : ∀ c, o.op ≠ .defer c := fun c hc => by
      have := List.all_eq_true.1 hnd o (List.mem_of_getElem? ho)
      simp [noDefer, hc] at this
    obtain ⟨ψ, hR⟩ := hR
    cases hq : quietOp T o.op with
    | true =>
      rw [hq] at h
      obtain ⟨v, S', h1, _, h3, h4⟩ := stepQ_val hT hB hR hdo hq h
      exact h1.op ho' hnd' hR.wr ⟨fun _ _ _ => .inl rfl, hK S' _ _ h3 ⟨ψ, h4⟩⟩
    | false =>
      rw [hq] at h
      simp only [cond_false] at h
      rw [opStep_eq] at h
      rcases guard_ways (V := fun S1 => vcOpN P T B pr o.dst o.op o.type S1 fun S' => ih S' K) (I := fun S1 => ih S1 K) hR hdo h with ⟨S1, hw, h1, h2, h3, h4⟩ | ⟨S1, hw, h1, h2, h3, h4⟩
      · replace h4 := vcOpN_old h4
        unfold wpOpIn
        simp only [ho']
        rw [if_pos hw]
        cases hf : freshOp o.op with
        | true =>
          obtain ⟨dst, op, ty, pos, after, guard⟩ := o
          obtain ⟨ob, mk, hrun, hcont⟩ := fresh_sound (pos := pos) (after := after) (guard := guard) hT h3 hdo hf h4
          obtain ⟨g1, g2, g3⟩ := CF.new (o := ob) h3.wr
          obtain ⟨S2, k1, k2⟩ := hcont w.heap.size (w.alloc ob) ⟨h3.size, h3.defers, h3.env, g1.2.1, h3.inj, g1.1, g1.2.2⟩ g2 g3
          refine ⟨fun f _ => trivial, ?_⟩
          rw [Oper.semAt_eq _ _ _ hnd', hrun w]
          exact ⟨fun _ _ _ => .inr ⟨ob, rfl⟩, hK S2 _ _ k1 k2⟩
        | false =>
          obtain ⟨dst, op, ty, pos, after, guard⟩ := o
          refine vcOp_sound (pos := pos) (after := after) (guard := guard) hT hB h3 hdo h4 _ fun S' a' w' k1 k2 => ⟨fun o2 ho2 htm => ?_, hK S' a' w' k1 k2⟩
          cases ho2
          simp [tameB, hq, hf] at htm
      · unfold wpOpIn
        simp only [ho']
        rw [if_neg (by simp [hw])]
        exact ⟨fun f _ => trivial, fun _ _ _ => .inl rfl, hK S1 _ _ h4 ⟨ψ, h3⟩⟩
theorem WRel.alloc {m : Mem} {ls : List LC} (h : WRel ψ D m0 w0 m ls w) (o : Obj) : WRel ψ D m0 w0 m ls (w.alloc o) := (CF.new h).1.fewer
theorem sched_sound (hT : T.ok P = true) (hB : bodiesOk P B = true) {ops : List Oper} (hall : ops.all (dstOk N) = true) (hsel : Region.noSelect ops.toArray = true) (hnd : ops.all noDefer = true) (hQn : ∀ c a w, ¬ Q (.panic c) a w)
    (hK : ∀ S' a' w', K S' → Relx N D m0 w0 S' a' w' → Q .normal a' w') :
    ∀ (s : Sched) (f : Nat) (listed : Array Bool) (cov : List Nat) (S : St) (a : Act) (w : World), schedB ops.toArray T s f listed cov = true → HeadInv .any ops.toArray ops.toArray.size listed → vcSched P T B pr ops s S K → Relx N D m0 w0 S a w →
      (cov = [] → wpAnyS P r ops.toArray Q (tameB T) f listed a w) ∧
      ∀ f', f = f' + 1 → ∀ i ∈ Region.ready .any ops.toArray listed, i ∉ cov → wpOpIn (Fr r) 0 P ops.toArray Q i (fun a' w' => (∀ o, ops.toArray[i]? = some o → tameB T o = true → ExtW w w') ∧ wpAnyS P r ops.toArray Q (tameB T) f' (listed.setIfInBounds i true) a' w') a w := by
  have hse : ∀ (j : Nat) (o : Oper), ops.toArray[j]? = some o → (∀ cs b, o.op ≠ .select cs b) ∧ ∀ c, o.op ≠ .defer c := fun j o ho => ⟨fun cs b => Region.noSelect_spec hsel j o cs b ho, fun c hc => by
    have := List.all_eq_true.1 hnd o (List.mem_of_getElem? (by simpa using ho))
    simp [noDefer, hc] at this⟩
  intro s
  induction s with
  | done =>
    intro f listed cov S a w hB1 inv h hR
    simp only [schedB, Bool.and_eq_true, List.isEmpty_iff] at hB1
    have hq := hK S a w h hR
    refine ⟨fun _ => ?_, fun f' _ i hi => by rw [hB1.1] at hi; cases hi⟩
    cases f with
    | zero => exact ⟨hB1.1, hq⟩
    | succ f => exact ⟨fun _ => hq, fun i hi => by rw [hB1.1] at hi; cases hi⟩
  | one i bl s ih =>
    intro f listed cov S a w hB1 inv h hR
    cases f with
    | zero => simp [schedB] at hB1
    | succ f =>
      simp only [schedB, Bool.and_eq_true, List.isEmpty_iff, Bool.or_eq_true, List.contains_iff_mem, beq_iff_eq] at hB1
      obtain ⟨hcov, hun, hri, hor, hB2⟩ := hB1
      subst hcov
      have h : stepX P T B pr ops i (vcSched P T B pr ops s) S K := h
      have his : i < ops.toArray.size := by
        obtain ⟨_, oi, hoi, _⟩ := mem_ready.1 hri
        exact (Array.getElem?_eq_some_iff.1 hoi).1
      have key : wpAnyS P r ops.toArray Q (tameB T) (f + 1) listed a w := by
        rcases hor with hone | heag
        · refine ⟨fun h0 => (by rw [h0] at hri; cases hri), fun j hj => ?_⟩
          rw [hone] at hj
          have : j = i := by simpa using hj
          subst this
          exact stepX_sound hT hB hall hnd hR h fun S' a' w' h1 h2 => (ih f _ [] S' a' w' hB2 (inv.set hri his) h1 h2).1 rfl
        · unfold eagerB at heag
          unfold stepX at h
          cases ho : ops[i]? with
          | none => rw [ho] at h; exact h.elim
          | some oi =>
            have ho' : ops.toArray[i]? = some oi := by simpa using ho
            rw [ho] at h
            rw [ho'] at heag
            simp only [Bool.and_eq_true, List.all_eq_true, List.mem_range, Bool.or_eq_true, beq_iff_eq, List.contains_iff_mem] at h heag
            obtain ⟨hq, hbl, hfree⟩ := heag
            rw [hq] at h
            have hdo := dstOk_spec (List.all_eq_true.1 hall oi (List.mem_of_getElem? ho))
            obtain ⟨ψ, hR⟩ := hR
            obtain ⟨v, S', h1, h2, h3, h4⟩ := stepQ_val hT hB hR hdo hq h
            have hnext := (ih f _ [] S' _ w hB2 (inv.set hri his) h3 ⟨ψ, h4⟩).1 rfl
            have hfr : ∀ j oj, ops.toArray[j]? = some oj → j ≠ i → listed.getD j true = false → j ∉ bl → oi.apart ops.toArray oj = true ∧ (pureOp oi.op = true ∨ tameB T oj = true) := by
              intro j oj hoj hji hju hjb
              have := hfree j (Array.getElem?_eq_some_iff.1 hoj).1
              rw [hoj] at this
              rcases this with h5 | h5 | h5 | h5
              · exact absurd h5 hji
              · rw [hju] at h5; cases h5
              · exact absurd h5 hjb
              · simpa [Bool.and_eq_true, Bool.or_eq_true] using h5
            by_cases hp : pureOp oi.op = true
            · exact any_eager (C := fun _ => True) ho' hse hQn (fun _ _ h => h) hbl f listed a w inv (fun j oj h5 h6 h7 h8 => ⟨(hfr j oj h5 h6 h7 h8).1, .inr fun _ => trivial⟩) hri trivial (h2 hp) hnext
            · exact any_eager (C := WRel ψ D m0 w0 S.m S.ls) ho' hse hQn (fun w o h => h.alloc o) hbl f listed a w inv (fun j oj h5 h6 h7 h8 => ⟨(hfr j oj h5 h6 h7 h8).1, .inl ((hfr j oj h5 h6 h7 h8).2.resolve_left hp)⟩) hri hR.wr h1 hnext
      exact ⟨fun _ => key, fun f' hf j hj _ => by cases hf; exact key.2 j hj⟩
  | fork i s t ihs iht =>
    intro f listed cov S a w hB1 inv h hR
    cases f with
    | zero => simp [schedB] at hB1
    | succ f =>
      simp only [schedB, Bool.and_eq_true, List.contains_iff_mem] at hB1
      obtain ⟨hri, hB2, hB3⟩ := hB1
      have h : stepX P T B pr ops i (vcSched P T B pr ops s) S K ∧ vcSched P T B pr ops t S K := h
      have his : i < ops.toArray.size := by
        obtain ⟨_, oi, hoi, _⟩ := mem_ready.1 hri
        exact (Array.getElem?_eq_some_iff.1 hoi).1
      have key : ∀ j ∈ Region.ready .any ops.toArray listed, j ∉ cov → wpOpIn (Fr r) 0 P ops.toArray Q j (fun a' w' => (∀ o, ops.toArray[j]? = some o → tameB T o = true → ExtW w w') ∧ wpAnyS P r ops.toArray Q (tameB T) f (listed.setIfInBounds j true) a' w') a w := by
        intro j hj hjc
        by_cases hji : j = i
        · subst hji
          exact stepX_sound hT hB hall hnd hR h.1 fun S' a' w' h1 h2 => (ihs f _ [] S' a' w' hB2 (inv.set hri his) h1 h2).1 rfl
        · exact (iht (f + 1) listed (i :: cov) S a w hB3 inv h.2 hR).2 f rfl j hj (by simp [hji, hjc])
      exact ⟨fun hc => ⟨fun h0 => (by rw [h0] at hri; cases hri), fun j hj => key j hj (by rw [hc]; simp)⟩, fun f' hf j hj hjc => by cases hf; exact key j hj hjc⟩
  | stop =>
    intro f listed cov S a w hB1 inv h hR
    simp only [schedB, Bool.and_eq_true, Bool.not_eq_true', List.all_eq_true, List.contains_iff_mem] at hB1
    refine ⟨fun hc => (by rw [hc] at hB1; simp at hB1), fun f' _ j hj hjc => absurd (hB1.2 j hj) hjc⟩
def noRange : Code → Bool
  | .seq x y => noRange x && noRange y
  | .cond _ x y => noRange x && noRange y
  | .block _ c => noRange c
  | .loop c => noRange c
  | .rangeFunc .. => false
  | _ => true
/-- Every slot that the code writes is one of N; each region that draws its order has its tail where DR says. -/
def codeOk (T : Tbl) (N : Nat) (DR : List (Nat × DE)) : Code → Bool
  | .region _ ops false => ops.toList.all (dstOk N)
  | .region id ops true => ops.toList.all (dstOk N) && match drawAt DR id with
    | some (.n n) => Region.lexTailB .any ops n || floatD ops n
    | some (.s t) => Region.noSelect ops && (ops.toList.all noDefer && schedB ops T t ops.size (Array.replicate ops.size false) [])
    | none => true
  | .seq x y => codeOk T N DR x && codeOk T N DR y
  | .cond _ x y => codeOk T N DR x && codeOk T N DR y
  | .block _ c => codeOk T N DR c
  | .loop c => codeOk T N DR c
  | .rangeFunc _ ps x y => (codeOk T N DR x && codeOk T N DR y) && ((noRange x && noRange y) && ps.toList.all (fun p => Nat.blt p N))
  | _ => true
theorem exists_least {p : Nat → Prop} (h : ∃ n, p n) : ∃ n, p n ∧ ∀ m, p m → n ≤ m := by
  obtain ⟨n, hn⟩ := h
  induction n using Nat.strongRecOn with
  | _ n ih =>
    by_cases hm : ∃ m, m < n ∧ p m
    · obtain ⟨m, hlt, hpm⟩ := hm
      exact ih m hlt hpm
    · exact ⟨n, hn, fun m hpm => Nat.le_of_not_lt fun hlt => hm ⟨m, hlt, hpm⟩⟩
theorem RelX.trans {D' : HD} (he : Ext w0 D D') (h : RelX N D' m0 w0 S a w) : RelX N D m0 w0 S a w := by
  obtain ⟨D'', h1, h2⟩ := h
  exact ⟨D'', he.trans h1, h2⟩
theorem RelX.le (h : RelX N D m0 w0 S a w) (hle : S.le S') : RelX N D m0 w0 S' a w := by
  obtain ⟨D', h1, ψ, h2⟩ := h
  exact ⟨D', h1, ψ, h2.le hle⟩
theorem float_sound (hT : T.ok P = true) (hB : bodiesOk P B = true) (hm : P.follows .mixedOrders = true) {id h : Nat} {ops : Array Oper} (hfl : floatD ops h = true) (hall : ops.toList.all (dstOk N) = true)
    (hk : vcQs P T B pr ops.toList (ops.toList.take h) S fun S' => vcOps P T B pr ops.toList (ops.toList.drop h) S' K) (hR : Rel ψ N D m0 w0 S a w)
    (hK : ∀ S' a' w', K S' → Relx N D m0 w0 S' a' w' → Q .normal a' w') : (Code.region id ops true).wpIn (Fr r) 0 P Q a w := by
  have hall := List.all_eq_true.1 hall
  have hops : ops = ops.toList.toArray := by simp
  have hR1 := hR.drew (Nat.le_succ w.drawn)
  obtain ⟨b, S', hwalk, hk, hm1, hl1, hR2⟩ := vcQs_walk (N := N) (D := D) (m0 := m0) (w0 := w0) (ψ := ψ) hT hB ops.toList (ops.toList.take h) 0 S a { w with drawn := w.drawn + 1 } _ (fun j hj => by
    have hj' : j < h := by simp at hj; omega
    rw [List.getElem?_take, if_pos hj', Nat.zero_add]) (List.all_eq_true.2 fun x hx => hall x (List.mem_of_mem_take hx)) hk hR1
  have hdrop : ∀ (n : Nat) (o : Oper), ops[n]? = some o → ops.toList.drop n = o :: ops.toList.drop (n + 1) := by
    intro n o ho
    have ho' : ops.toList[n]? = some o := by simpa using ho
    rw [List.drop_eq_getElem_cons (List.getElem?_eq_some_iff.1 ho').1]
    congr 1
    exact (List.getElem?_eq_some_iff.1 ho').2
  have hdst : ∀ (n : Nat) (o : Oper), ops[n]? = some o → ∀ i, o.dst = some i → i < N := fun n o ho => dstOk_spec (hall o (List.mem_of_getElem? (i := n) (by simpa using ho)))
  have tl : ∀ (n : Nat) (S1 : St) (a1 : Act) (w1 : World), vcOps P T B pr ops.toList (ops.toList.drop n) S1 K → Relx N D m0 w0 S1 a1 w1 → wpListIn (Fr r) 0 P ops.toList.toArray Q (ops.toList.drop n) a1 w1 :=
    fun n S1 a1 w1 h1 h2 => vcOps_sound (r := r) (Q := Q) hT hB ops.toList (ops.toList.drop n) S1 a1 w1 _ (List.all_eq_true.2 fun x hx => hall x (List.mem_of_mem_drop hx)) h1 h2 hK
  have rb : ∀ w2, WRel ψ D m0 w0 S.m S.ls w2 → Rel ψ N D m0 w0 S' b w2 := fun w2 hw => ⟨hR2.size, hR2.defers, hR2.env, by rw [hm1, hl1]; exact hw.2.1, hR2.inj, by rw [hm1]; exact hw.1, by rw [hm1, hl1]; exact hw.2.2⟩
  have rn : ∀ k o w2, WRel ψ ⟨D.defers, (k, o) :: D.hid⟩ m0 w0 S.m S.ls w2 → Rel ψ N ⟨D.defers, (k, o) :: D.hid⟩ m0 w0 S' b w2 := fun k o w2 hw => ⟨hR2.size, hR2.defers, hR2.env, by rw [hm1, hl1]; exact hw.2.1, hR2.inj, by rw [hm1]; exact hw.1, by rw [hm1, hl1]; exact hw.2.2⟩
  have pur : ∀ n, restPure ops h n = true → ∀ i, i < h → Region.waitsFor .any ops.toList.toArray n i = false → RF ops.toList.toArray i (.any fun _ => True) := by
    intro n hp i hi hw
    have := List.all_eq_true.1 hp i (List.mem_range.2 hi)
    rw [← hops] at hw ⊢
    rw [hw, Bool.false_or] at this
    cases ho : ops[i]? with
    | none => rw [ho] at this; cases this
    | some o => rw [ho] at this; exact ⟨o, ho, this⟩
  have gd : ∀ n p o q, floatB .any ops h p = true → q < p → n = h + q → ops[n]? = some o → o.guard = none := by
    intro n p o q hB hq hn ho
    simp only [floatB, Bool.and_eq_true, List.all_eq_true, List.mem_range] at hB
    obtain ⟨on, h1, h2, _⟩ := floatAt_spec (hB.2.2.2.2.2 q hq)
    rw [← hn, ho] at h1
    cases h1
    exact h2
  cases hon : ops[h]? with
  | none => simp [floatD, hon] at hfl
  | some on =>
    have hd1 := hdrop h on hon
    rw [hd1, vcOps_cons] at hk
    have hdo := hdst h on hon
    simp only [floatD, hon, Bool.or_eq_true, Bool.and_eq_true] at hfl
    obtain ⟨dst, op, ty, pos, after, guard⟩ := on
    rcases hfl with ⟨hfo, hfB⟩ | ⟨hst, hrp, hfB⟩ | ⟨hfo, hfl⟩
    · have hg := gd h 1 _ 0 hfB (by omega) (by omega) hon
      simp only at hg
      subst hg
      simp only at hk hfo
      obtain ⟨o, mk, hrun, hcont⟩ := fresh_sound (pos := pos) (after := after) (guard := none) hT hR2 hdo hfo (vcOpN_old hk)
      have ht1 : (ops.toList.drop h).take 1 = [⟨dst, op, ty, pos, after, none⟩] := by rw [hd1]; rfl
      have key := wpIn_float (P := P) (r := r) (Q := Q) (id := id) (h := h) (p := 1) (a := a) (b := b) (w := w) (l := ops.toList) (C := CF ψ D m0 w0 S.m S.ls) (R := RF ops.toList.toArray) (k0 := .base) hm (by rw [← hops]; exact hfB) hR1.wr (fun _ _ => trivial) hwalk
        (by
          rw [ht1]
          refine fun w' hw' => ⟨mk w'.heap.size, .new w'.heap.size o, w'.alloc o, .inl (hrun w'), CF.new hw', fun _ _ _ _ => trivial, fun w2 hw2 => ?_⟩
          obtain ⟨hw3, hk2, hn2⟩ := hw2
          obtain ⟨S1, hK1, hR4⟩ := hcont _ w2 (rn _ _ w2 hw3) hk2 hn2
          exact tl (h + 1) S1 _ w2 hK1 hR4)
        (by rw [ht1]; intro o' ho' c hc; rw [List.mem_singleton] at ho'; subst ho'; simp only at hc; rw [hc] at hfo; cases hfo)
      rw [← hops] at key
      exact key
    · have hg := gd h 1 _ 0 hfB (by omega) (by omega) hon
      simp only at hg
      subst hg
      simp only at hk hst
      have ht1 : (ops.toList.drop h).take 1 = [⟨dst, op, ty, pos, after, none⟩] := by rw [hd1]; rfl
      have key := wpIn_float (P := P) (r := r) (Q := Q) (id := id) (h := h) (p := 1) (a := a) (b := b) (w := w) (l := ops.toList) (C := CF ψ D m0 w0 S.m S.ls) (R := RF ops.toList.toArray) (k0 := .base) hm (by rw [← hops]; exact hfB) hR1.wr (fun _ _ => trivial) hwalk
        (by
          rw [ht1]
          intro w' hw'
          obtain ⟨w2, S2, h1, h2, h3⟩ := store_run (pos := pos) (after := after) (guard := none) hT (rb w' hw') hdo hst (vcOpN_old hk)
          refine ⟨undef, .any (· = w2), w2, .inr ⟨h1, rfl⟩, rfl, fun i hi hw _ => pur h hrp i hi hw, fun w3 hw3 => ?_⟩
          simp only [CF] at hw3
          subst hw3
          exact tl (h + 1) S2 _ _ h2 h3)
        (by rw [ht1]; intro o' ho' c hc; rw [List.mem_singleton] at ho'; subst ho'; simp only at hc; rw [hc] at hst; cases hst)
      rw [← hops] at key
      exact key
    · cases hon2 : ops[h + 1]? with
      | none => rw [hon2] at hfl; cases hfl
      | some on2 =>
        rw [hon2] at hfl
        simp only [Bool.and_eq_true] at hfl
        obtain ⟨hst, hrp, hfB⟩ := hfl
        have hd2 := hdrop (h + 1) on2 hon2
        have hdo2 := hdst (h + 1) on2 hon2
        have hg := gd h 2 _ 0 hfB (by omega) (by omega) hon
        have hg2 := gd (h + 1) 2 _ 1 hfB (by omega) rfl hon2
        obtain ⟨dst2, op2, ty2, pos2, after2, guard2⟩ := on2
        simp only at hg hg2
        subst hg hg2
        simp only at hk hfo hst
        obtain ⟨o, mk, hrun, hcont⟩ := fresh_sound (pos := pos) (after := after) (guard := none) hT hR2 hdo hfo (vcOpN_old hk)
        have ht2 : (ops.toList.drop h).take 2 = [⟨dst, op, ty, pos, after, none⟩, ⟨dst2, op2, ty2, pos2, after2, none⟩] := by rw [hd1, hd2]; rfl
        have key := wpIn_float (P := P) (r := r) (Q := Q) (id := id) (h := h) (p := 2) (a := a) (b := b) (w := w) (l := ops.toList) (C := CF ψ D m0 w0 S.m S.ls) (R := RF ops.toList.toArray) (k0 := .base) hm (by rw [← hops]; exact hfB) hR1.wr (fun _ _ => trivial) hwalk
          (by
            rw [ht2]
            refine fun w' hw' => ⟨mk w'.heap.size, .new w'.heap.size o, w'.alloc o, .inl (hrun w'), CF.new hw', fun _ _ _ _ => trivial, fun w2 hw2 => ?_⟩
            obtain ⟨hw3, hk2, hn2⟩ := hw2
            obtain ⟨S1, hK1, ψ1, hR4⟩ := hcont _ w2 (rn _ _ w2 hw3) hk2 hn2
            rw [hd2, vcOps_cons] at hK1
            simp only at hK1
            obtain ⟨w3, S2, h1, h2, h3⟩ := store_run (pos := pos2) (after := after2) (guard := none) hT hR4 hdo2 hst (vcOpN_old hK1)
            refine ⟨undef, .any (· = w3), w3, .inr ⟨h1, rfl⟩, rfl, fun i hi hw _ => pur (h + 1) hrp i hi hw, fun w4 hw4 => ?_⟩
            simp only [CF] at hw4
            subst hw4
            exact tl (h + 2) S2 _ _ h2 h3)
          (by
            rw [ht2]
            intro o' ho' c hc
            rcases List.mem_cons.1 ho' with rfl | ho'
            · simp only at hc; rw [hc] at hfo; cases hfo
            · rw [List.mem_singleton] at ho'; subst ho'; simp only at hc; rw [hc] at hst; cases hst)
        rw [← hops] at key
        exact key
theorem vc_sound (hT : T.ok P = true) (hB : bodiesOk P B = true) (hm : P.follows .mixedOrders = true) {DR : List (Nat × DE)} : ∀ (c : Code) (r : Option Nat) (D : HD) (m0 : Mem) (w0 : World) (K : Exit → St → Prop) (S : St), (r = none ∨ noRange c = true) → codeOk T N DR c = true → vc P T B pr DR c K S → Run P r N D m0 w0 c K S := by
  intro c
  induction c with
  | skip => intro r D m0 w0 K S _ _ h Q a w hR hK; exact wpIn_skip (hK _ _ _ _ h hR.X)
  | region id ops draw =>
    intro r D m0 w0 K S hr hc h Q a w hR hK
    cases draw with
    | false =>
      simp only [codeOk] at hc
      simp only [vc_skip, vc_region, vc_draw, vc_seq, vc_cond, vc_block, vc_loop, vc_exit, vc_ret, vc_rangeFunc, vc_scope, vc_label, vc_goto, vc_refuse] at h
      have := vcOps_sound (r := r) (Q := Q) hT hB ops.toList ops.toList S a w _ hc h hR (fun S' a' w' h1 h2 => hK _ _ _ _ h1 h2.X)
      have h2 := wpIn_region_list (ops := ops) (id := id) (F := Fr r) (n := 0) (P := P) (Q := Q) (a := a) (w := w) (by simpa using this)
      exact h2
    | true =>
      simp only [codeOk, Bool.and_eq_true] at hc
      simp only [vc_skip, vc_region, vc_draw, vc_seq, vc_cond, vc_block, vc_loop, vc_exit, vc_ret, vc_rangeFunc, vc_scope, vc_label, vc_goto, vc_refuse] at h
      cases hd : drawAt DR id with
      | none => rw [hd] at h; exact h.elim
      | some e =>
       cases e with
       | s t =>
        rw [hd] at h hc
        simp only [Bool.and_eq_true] at h hc
        have hops : ops = ops.toList.toArray := by simp
        obtain ⟨hd0, hsel, hnd, hsB⟩ := hc
        have hX := hR.X
        have hR1 : Relx N D m0 w0 S a { w with drawn := w.drawn + 1 } := by
          obtain ⟨ψ, hR⟩ := hR
          exact ⟨ψ, hR.drew (Nat.le_succ w.drawn)⟩
        refine wpIn_mono (Q := fun e a w => match e with | .normal => Q .normal a w | _ => False) ?_ (fun e a w h => by cases e <;> first | exact h | exact h.elim)
        refine wpIn_region_any hm ?_
        rw [hops] at hsel hsB
        have inv0 : HeadInv .any ops.toList.toArray ops.toList.toArray.size (Array.replicate ops.toList.toArray.size false) :=
          ⟨by simp, fun j oj _ hl => (by rw [getD_replicate_false] at hl; cases hl), fun t h1 h2 => by omega⟩
        have key := (sched_sound (r := r) (Q := fun e a w => match e with | .normal => Q .normal a w | _ => False) hT hB hd0 hsel hnd (fun _ _ _ h => h) (fun S' a' w' h1 h2 => hK .normal S' a' w' h1 h2.X) t _ _ [] S a _ hsB inv0 h hR1).1 rfl
        rw [← hops] at key
        exact key.any
       | n n =>
        rw [hd] at h hc
        simp only at h hc
        obtain ⟨ψ, hR⟩ := hR
        have hR1 := hR.drew (Nat.le_succ w.drawn)
        have hall := List.all_eq_true.1 hc.1
        have hops : ops = ops.toList.toArray := by simp
        rcases Bool.or_eq_true_iff.1 hc.2 with hlt | hfl
        · have h1 := vcQs_sound (N := N) (D := D) (m0 := m0) (w0 := w0) (ψ := ψ) hT hB ops.toList (ops.toList.take n) S a { w with drawn := w.drawn + 1 } _ (List.all_eq_true.2 fun x hx => hall x (List.mem_of_mem_take hx)) h hR1
          have key := wpIn_draw (P := P) (r := r) (Q := Q) (id := id) (a := a) (w := w) (l := ops.toList) (C := WRel ψ D m0 w0 S.m S.ls) n hm (by rw [← hops]; exact hlt) hR1.wr
          rw [← hops] at key
          refine key ?_
          have mono : ∀ (l : List Oper) (a : Act) (A B : Act → Prop), (∀ a, A a → B a) → wpQuiet P ops (WRel ψ D m0 w0 S.m S.ls) A l a → wpQuiet P ops (WRel ψ D m0 w0 S.m S.ls) B l a := by
            intro l
            induction l with
            | nil => intro a A B hAB h; exact hAB _ h
            | cons o l ih =>
              intro a A B hAB h
              simp only [wpQuiet] at h ⊢
              split
              · rename_i hw; rw [if_pos hw] at h; exact Oper.quiet_mono (fun a' => ih a' A B hAB) h
              · rename_i hw; rw [if_neg hw] at h; exact ih _ A B hAB h
          rw [← hops] at h1
          refine mono _ _ _ _ (fun a' hh => ?_) h1
          obtain ⟨S', hk, hm1, hl1, hR2⟩ := hh
          intro w' hw'
          have hR3 : Rel ψ N D m0 w0 S' a' w' := hR2.move (by rw [hm1, hl1]; exact hw')
          have h2 := vcOps_sound (r := r) (Q := Q) hT hB ops.toList (ops.toList.drop n) S' a' w' _ (List.all_eq_true.2 fun x hx => hall x (List.mem_of_mem_drop hx)) hk ⟨ψ, hR3⟩ (fun S' a' w' h1 h2 => hK _ _ _ _ h1 h2.X)
          rw [← hops] at h2
          exact h2
        · exact float_sound (r := r) (Q := Q) (id := id) hT hB hm hfl hc.1 h hR (fun S' a' w' h1 h2 => hK _ _ _ _ h1 h2.X)
  | seq x y ihx ihy =>
    intro r D m0 w0 K S hr hc h Q a w hR hK
    simp only [codeOk, Bool.and_eq_true] at hc
    have hrx : r = none ∨ noRange x = true := hr.imp_right fun h => by simp only [noRange, Bool.and_eq_true] at h; exact h.1
    have hry : r = none ∨ noRange y = true := hr.imp_right fun h => by simp only [noRange, Bool.and_eq_true] at h; exact h.2
    simp only [vc_seq] at h
    cases hj : joinAt DR x with
    | true =>
      rw [hj] at h
      simp only [cond_true, JoinP] at h
      obtain ⟨J, h1, h2⟩ := h
      refine wpIn_seq (ihx r D m0 w0 _ S hrx hc.1 h1 _ a w hR fun e S' a' w' hk hR' => ?_)
      cases e with
      | normal =>
        obtain ⟨S1, hle, hJ⟩ := hk
        obtain ⟨D', he, ψ', hR'⟩ := hR'
        exact ihy r D' m0 w0 K S1 hry hc.2 (h2 S1 hJ) Q a' w' ⟨ψ', hR'.le hle⟩ fun e S' a' w' hk hX => hK e S' a' w' hk (hX.trans he)
      | _ => exact hK _ _ _ _ hk hR'
    | false =>
      rw [hj] at h
      simp only [cond_false] at h
      refine wpIn_seq (ihx r D m0 w0 _ S hrx hc.1 h _ a w hR fun e S' a' w' hk hR' => ?_)
      cases e with
      | normal =>
        obtain ⟨D', he, hR'⟩ := hR'
        exact ihy r D' m0 w0 K S' hry hc.2 hk Q a' w' hR' fun e S' a' w' hk hX => hK e S' a' w' hk (hX.trans he)
      | _ => exact hK _ _ _ _ hk hR'
  | cond o x y ihx ihy =>
    intro r D m0 w0 K S hr hc h Q a w hR hK
    simp only [codeOk, Bool.and_eq_true] at hc
    have hrx : r = none ∨ noRange x = true := hr.imp_right fun h => by simp only [noRange, Bool.and_eq_true] at h; exact h.1
    have hry : r = none ∨ noRange y = true := hr.imp_right fun h => by simp only [noRange, Bool.and_eq_true] at h; exact h.2
    simp only [vc_cond] at h
    obtain ⟨ψ, hR⟩ := hR
    obtain ⟨v, hv, h1⟩ := hR.ev h
    split at h1
    · rename_i b
      simp only [AV.is] at hv
      cases b with
      | true => exact wpIn_cond_true hv (ihx r D m0 w0 K S hrx hc.1 h1 Q a w ⟨ψ, hR⟩ hK)
      | false => exact wpIn_cond_false hv (ihy r D m0 w0 K S hry hc.2 h1 Q a w ⟨ψ, hR⟩ hK)
    · exact h1.elim
  | block id c ih =>
    intro r D m0 w0 K S hr hc h Q a w hR hK
    simp only [codeOk] at hc
    have hrc : r = none ∨ noRange c = true := hr
    simp only [vc_block] at h
    refine wpIn_block (ih r D m0 w0 _ S hrc hc h _ a w hR fun e S' a' w' hk hR' => ?_)
    cases e with
    | exit j =>
      simp only at hk
      simp only [Exit.inBlock]
      cases hb : Nat.beq j id with
      | true => rw [hb] at hk; rw [if_pos (Nat.eq_of_beq_eq_true hb)]; exact hK _ _ _ _ hk hR'
      | false => rw [hb] at hk; rw [if_neg (Nat.ne_of_beq_eq_false hb)]; exact hK _ _ _ _ hk hR'
    | _ => exact hK _ _ _ _ hk hR'
  | loop c ih =>
    intro r D m0 w0 K S hr hc h Q a w hR hK
    simp only [codeOk] at hc
    have hrc : r = none ∨ noRange c = true := hr
    simp only [vc_loop, LoopP] at h
    obtain ⟨σ, st, J, μ, ⟨s1, hle, hI⟩, hround⟩ := h
    let p : Act → World → Nat → Prop := fun a w n => ∃ s, J s ∧ RelX N D m0 w0 (st s) a w ∧ μ s = n
    have hp : p a w (μ s1) := ⟨s1, hI, hR.X.le hle, rfl⟩
    let least : Act → World → Nat := fun a w => open Classical in if h : ∃ n, p a w n then Classical.choose (exists_least h) else 0
    have hleast : ∀ a w, (∃ n, p a w n) → p a w (least a w) ∧ ∀ m, p a w m → least a w ≤ m := by
      intro a w h
      simp only [least, dif_pos h]
      exact Classical.choose_spec (exists_least h)
    refine wpIn_loop (fun a w => ∃ n, p a w n) least ⟨_, hp⟩ fun a w hI => ?_
    obtain ⟨⟨S2, hI2, ⟨D2, he2, hR2⟩, hμ⟩, hmin⟩ := hleast a w hI
    refine ih r D2 m0 w0 _ (st S2) hrc hc (hround S2 hI2) _ a w hR2 fun e S3 a' w' hk hR' => ?_
    have hR' := hR'.trans he2
    cases e with
    | normal =>
      obtain ⟨S4, hle4, hI4, hlt⟩ := hk
      have hp' : p a' w' (μ S4) := ⟨S4, hI4, hR'.le hle4, rfl⟩
      refine ⟨⟨_, hp'⟩, ?_⟩
      have := (hleast a' w' ⟨_, hp'⟩).2 _ hp'
      omega
    | _ => exact hK _ _ _ _ hk hR'
  | rangeFunc f ps as bd ihx ihy =>
    intro r D m0 w0 K S hr hc h Q a w hR hK
    simp only [codeOk, Bool.and_eq_true, List.all_eq_true] at hc
    obtain ⟨⟨hx, hy⟩, ⟨hnx, hny⟩, hps⟩ := hc
    rcases hr with rfl | hr
    · simp only [vc_rangeFunc] at h
      obtain ⟨ψ, hR⟩ := hR
      obtain ⟨v, hv, h1⟩ := hR.ev h
      split at h1
      · rename_i g first cap
        simp only [AV.is] at hv
        obtain ⟨h2, h3⟩ := req_spec h1
        exact range_sound hB hR hv h2 (fun p hp => blt_spec (hps p hp)) (fun l D m0 w0 K S hX => ihx (some l) D m0 w0 K S (.inr hnx) hx hX) (fun l D m0 w0 K S hY => ihy (some l) D m0 w0 K S (.inr hny) hy hY) h3 hK
      · exact h1.elim
    · simp [noRange] at hr
  | exit id => intro r D m0 w0 K S _ _ h Q a w hR hK; exact wpIn_exit (hK _ _ _ _ h hR.X)
  | scope c _ => intro r D m0 w0 K S _ _ h; exact h.elim
  | label l => intro r D m0 w0 K S _ _ h; exact h.elim
  | goto l => intro r D m0 w0 K S _ _ h; exact h.elim
  | ret => intro r D m0 w0 K S _ _ h Q a w hR hK; exact wpIn_ret (hK _ _ _ _ h hR.X)
  | refuse s => intro r D m0 w0 K S _ _ h; exact h.elim
end
end Go.Mv
