/- Mv: frames for a call of yield; contracts of the kit's shelf turned into FCalls. -/
import Derived.Test.YtoifiplefjclbaaMvIter
import Derived.Sort.Row
import Derived.Sort.Grow
namespace Go.Mv
open Go Go.Sort
theorem Frame.join {m m1 f : Mem} {w w' : World} (hF : Frame m w m1 w') (hd : m.apart f) (hwf : f.sub w) : m1.apart f ∧ Frame (m.join f) w (m1.join f) w' := by
  have hap : m1.apart f := by
    intro b
    apply Classical.byContradiction
    intro hc
    simp only [not_or] at hc
    rcases hF.dom b hc.1 with hx | hx
    · rcases hd b with h0 | h0
      · exact hx h0
      · exact hc.2 h0
    · have := Mem.sub_lt hwf (b := b) hc.2
      omega
  refine ⟨hap, hF.os, hF.tape, hF.output, hF.size, fun b o hb => ?_, fun b hb hn => ?_, fun b hb => ?_⟩
  · unfold Mem.join at hb
    cases h1 : m1 b with
    | some o' => rw [h1] at hb; simp at hb; subst hb; exact hF.sub b o' h1
    | none =>
      rw [h1] at hb
      simp at hb
      have hmb : m b = none := by
        rcases hd b with h0 | h0
        · exact h0
        · rw [h0] at hb; cases hb
      rw [hF.keep b (Mem.sub_lt hwf (by rw [hb]; simp)) hmb]
      exact hwf b o hb
  · refine hF.keep b hb ?_
    unfold Mem.join at hn
    cases hmb : m b with
    | none => rfl
    | some o => rw [hmb] at hn; simp at hn
  · unfold Mem.join at hb ⊢
    cases h1 : m1 b with
    | some o' =>
      rcases hF.dom b (by rw [h1]; simp) with hx | hx
      · left
        cases hmb : m b with
        | none => exact absurd hmb hx
        | some o => simp
      · exact .inr hx
    | none =>
      rw [h1] at hb
      left
      cases hmb : m b with
      | none => simpa using hb
      | some o => simp
def one (b : Nat) (o : Obj) : Mem := fun k => if k = b then some o else none
theorem join_one {m : Mem} {b : Nat} {o : Obj} (h : m b = none) : m.join (one b o) = m.set b o := by
  funext k
  simp only [Mem.join, Mem.set, one]
  by_cases hk : k = b
  · subst hk
    rw [h]
    simp
  · rw [if_neg hk, if_neg hk]
    cases m k <;> rfl
theorem apart_one {m : Mem} {b : Nat} {o : Obj} (h : m b = none) : m.apart (one b o) := by
  intro k
  by_cases hk : k = b
  · exact .inl (hk ▸ h)
  · exact .inr (by simp [one, hk])
theorem apart_none {m : Mem} {b : Nat} {o : Obj} (h : m.apart (one b o)) : m b = none := by
  rcases h b with h | h
  · exact h
  · simp [one] at h
/-- A block that a call of yield is not told of stays. -/
theorem YCalls.set {P : Program} {l : Nat} {args : List Value} {m : Mem} {K : Value → Mem → Prop} (h : YCalls P l args m K) {b : Nat} {o : Obj} (hb : m b = none) :
    YCalls P l args (m.set b o) fun v M => ∃ m1, M = m1.set b o ∧ m1 b = none ∧ K v m1 := by
  intro w hw
  rw [← join_one hb] at hw
  have hap := apart_one (o := o) hb
  have hwm : m.sub w := fun k o' hk => hw k o' (by simp [Mem.join, hk])
  have hwf : (one b o).sub w := fun k o' hk => hw k o' (by
    rcases hap k with h0 | h0
    · simp [Mem.join, h0, hk]
    · rw [h0] at hk; cases hk)
  obtain ⟨fn, tmps, assign, body, h1, h2⟩ := h w hwm
  refine ⟨fn, tmps, assign, body, h1, h2.mono fun e w' ⟨v, m1, he, hK, hF⟩ => ?_⟩
  obtain ⟨h3, h4⟩ := hF.join hap hwf
  have hn := apart_none h3
  exact ⟨v, _, he, ⟨m1, join_one hn, hn, hK⟩, by rw [← join_one hb]; exact h4⟩
theorem FCalls.set {P : Program} {g : FuncId} {args : List Value} {m : Mem} {K : Value → Mem → Prop} (h : FCalls P g args m K) {b : Nat} {o : Obj} (hb : m b = none) :
    FCalls P g args (m.set b o) fun v M => ∃ m1, M = m1.set b o ∧ m1 b = none ∧ K v m1 := by
  rw [← join_one hb]
  refine (h.frame _ (apart_one (o := o) hb)).mono fun v M ⟨m1, h1, h2, h3⟩ => ?_
  have hn := apart_none h2
  exact ⟨m1, by rw [h1, join_one hn], hn, h3⟩
/-- A contract of the kit's: it turns a row, and makes new blocks. -/
theorem FCalls.of_putRow {α : Type} [Inhabited α] {P : Program} {g : FuncId} {args : List Value} {m : Mem} {enc : α → Value} {blk e : Nat} {c : Array Value} {d : Array α} (hb : m blk = some (.cells c e (0, 0)))
    (h : ∀ w, m.sub w → Calls P g args.toArray w fun e w' => e = .returned (.tuple #[]) ∧ ∃ n os, w' = grow (putRow enc (Sort.ahead w n) blk 0 d) os) :
    FCalls P g args m fun v m' => v = .tuple #[] ∧ m' = m.set blk (.cells (putCells enc 0 d c) e (0, 0)) := by
  intro w hw
  refine (h w hw).mono fun e' w' ⟨he, n, os, hw'⟩ => ⟨_, _, he, ⟨rfl, rfl⟩, ?_⟩
  subst hw'
  have hget : w.heap[blk]? = some (.cells c e (0, 0)) := hw blk _ hb
  have hlt := (Array.getElem?_eq_some_iff.1 hget).1
  have hheap : ∀ k, k < w.heap.size → (grow (putRow enc (Sort.ahead w n) blk 0 d) os).heap[k]? = if k = blk then some (.cells (putCells enc 0 d c) e (0, 0)) else w.heap[k]? := by
    intro k hk
    show ((mapBlock (Sort.ahead w n) blk (putCells enc 0 d)).heap ++ os)[k]? = _
    rw [Array.getElem?_append_left (by simpa [mapBlock] using hk)]
    unfold mapBlock
    rw [Array.getElem?_modify]
    by_cases hkb : blk = k
    · subst hkb
      rw [if_pos rfl, if_pos rfl]
      show Option.map _ w.heap[blk]? = _
      rw [hget]
      rfl
    · rw [if_neg hkb, if_neg (Ne.symm hkb)]
      rfl
  refine ⟨rfl, ⟨rfl, by simp [grow, putRow, mapBlock, Sort.ahead]⟩, rfl, ?_, fun b o ho => ?_, fun b hb' hn => ?_, fun b hb' => ?_⟩
  · show _ ≤ ((mapBlock (Sort.ahead w n) blk (putCells enc 0 d)).heap ++ os).size
    rw [Array.size_append]
    simp [mapBlock]
  · simp only [Mem.set] at ho
    by_cases hbb : b = blk
    · rw [if_pos hbb] at ho
      rw [hheap b (hbb ▸ hlt), if_pos hbb]
      exact ho
    · rw [if_neg hbb] at ho
      rw [hheap b (Mem.sub_lt hw (by rw [ho]; simp)), if_neg hbb]
      exact hw b o ho
  · rw [hheap b hb', if_neg]
    rintro rfl
    rw [hb] at hn
    cases hn
  · simp only [Mem.set] at hb'
    by_cases hbb : b = blk
    · left
      rw [hbb, hb]
      simp
    · rw [if_neg hbb] at hb'
      exact .inl hb'
/-- An iterator's own contract, where what it needs is needed at first only. -/
def IterC1 (P : Program) (f : Nat) (first cap : List Value) (I : Mem → Prop) (xs : List (List Value)) : Prop :=
  ∀ (l : Nat) (J : Nat → Mem → Prop) (Q : Mem → Prop) (m : Mem), J 0 m → I m →
    (∀ i vs m', xs[i]? = some vs → J i m' → YCalls P l vs m' fun v m'' => (v = .bool true ∧ J (i + 1) m'') ∨ (v = .bool false ∧ Q m'')) →
    FCalls P f (first ++ [.func (.yield l) #[] #[]] ++ cap) m fun _ m' => J xs.length m' ∨ Q m'
theorem range_iter1 {P : Program} {f : Nat} {first cap : List Value} {ps : List Nat} {X Y : (Exit → St → Prop) → St → Prop} {K : Exit → St → Prop} {E : Env} {ls : List LC} {m : Mem} {I : Mem → Prop} {xs : List (List Value)}
    (h : IterC1 P f first cap I xs) (hI : ∀ l o, m l = none → I (m.set l o)) (hps : ∀ (i : Nat) (vs : List Value), xs[i]? = some vs → vs.length = ps.length)
    (J : Nat → Mem → Prop) (h0 : J 0 m)
    (round : ∀ (i : Nat) (vs : List Value) (m1 : Mem), xs[i]? = some vs → J i m1 → X (fun e S1 => match e with | .normal => Y (roundK fun e m2 => match e with | .normal => J (i + 1) m2 | e => K e ⟨E, ls, m2⟩) S1 | _ => False) ⟨parEnv ps vs (plainEnv E), [], m1⟩)
    (fin : ∀ m1, J xs.length m1 → K .normal ⟨E, ls, m1⟩) : RangeP P f first cap ps X Y K ⟨E, ls, m⟩ := by
  unfold RangeP
  intro l rec hl hst hpe hround
  have hrec : ({ rec with state := .ready, pending := none } : Loop) = rec := by cases rec; simp_all
  refine FCalls.mono (h l (fun i M => ∃ m3, m3 l = none ∧ M = m3.set l (.loop rec) ∧ J i m3)
    (fun M => ∃ m3 e c, m3 l = none ∧ jumpOf e = some c ∧ M = m3.set l (.loop { rec with state := .done, pending := some c }) ∧ K e ⟨E, ls, m3⟩) _ ⟨m, hl, rfl, h0⟩ (hI _ _ hl) fun i vs M hx ⟨m3, h1, h2, h3⟩ => ?_) fun v M hM => ?_
  · have hy := hround vs M (fun e m2 => match e with | .normal => J (i + 1) m2 | e => K e ⟨E, ls, m2⟩) (by rw [h2]; simp [Mem.set]) (hps i vs hx) (by rw [h2, set_del h1]; exact round i vs m3 hx h3)
    refine hy.mono fun v M' ⟨m4, k1, k2⟩ => ?_
    rcases k2 with ⟨rfl, k3, k4⟩ | ⟨rfl, e, c, k3, k4, k5⟩
    · exact .inl ⟨rfl, m4, k1, k3, k4⟩
    · refine .inr ⟨rfl, m4, e, c, k1, k3, k4, ?_⟩
      cases e <;> first | exact k5 | simp [jumpOf] at k3
  · rcases hM with ⟨m3, h1, rfl, h3⟩ | ⟨m3, e, c, h1, h2, rfl, h3⟩
    · refine ⟨.ready, none, by simp, by simp [Mem.set, hrec], ?_⟩
      rw [set_del h1]
      exact fin m3 h3
    · refine ⟨.done, some c, by simp, by simp [Mem.set], ?_⟩
      rw [set_del h1]
      cases e <;> simp only [jumpOf, Option.some.injEq, reduceCtorEq] at h2 <;> subst h2 <;> exact h3
end Go.Mv
