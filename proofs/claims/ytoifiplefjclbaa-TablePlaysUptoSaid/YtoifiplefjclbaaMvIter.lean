/- Mv: a function that goes over a row of values, and the range over it. -/
import Derived.Test.YtoifiplefjclbaaMvUse
namespace Go.Mv
open Go
/-- f goes over xs, from any memory that I holds of. -/
def IterC (P : Program) (f : Nat) (first cap : List Value) (I : Mem → Prop) (xs : List (List Value)) : Prop :=
  ∀ (l : Nat) (J : Nat → Mem → Prop) (Q : Mem → Prop) (m : Mem), J 0 m → (∀ i m', J i m' → I m') →
    (∀ i vs m', xs[i]? = some vs → J i m' → YCalls P l vs m' fun v m'' => (v = .bool true ∧ J (i + 1) m'') ∨ (v = .bool false ∧ Q m'')) →
    FCalls P f (first ++ [.func (.yield l) #[] #[]] ++ cap) m fun _ m' => J xs.length m' ∨ Q m'
theorem set_del {m : Mem} {l : Nat} {o : Obj} (h : m l = none) : (m.set l o).del l = m := by
  funext b
  simp only [Mem.del, Mem.set]
  by_cases hb : b = l
  · subst hb; simp [h]
  · simp [hb]
/-- The range over it: J tells what is so ahead of the i-th value. -/
theorem range_iter {P : Program} {f : Nat} {first cap : List Value} {ps : List Nat} {X Y : (Exit → St → Prop) → St → Prop} {K : Exit → St → Prop} {E : Env} {ls : List LC} {m : Mem} {I : Mem → Prop} {xs : List (List Value)}
    (h : IterC P f first cap I xs) (hI : ∀ m l o, m l = none → I m → I (m.set l o)) (hps : ∀ (i : Nat) (vs : List Value), xs[i]? = some vs → vs.length = ps.length)
    (J : Nat → Mem → Prop) (h0 : J 0 m) (hJ : ∀ i m, J i m → I m)
    (round : ∀ (i : Nat) (vs : List Value) (m1 : Mem), xs[i]? = some vs → J i m1 → X (fun e S1 => match e with | .normal => Y (roundK fun e m2 => match e with | .normal => J (i + 1) m2 | e => K e ⟨E, ls, m2⟩) S1 | _ => False) ⟨parEnv ps vs (plainEnv E), [], m1⟩)
    (fin : ∀ m1, J xs.length m1 → K .normal ⟨E, ls, m1⟩) : RangeP P f first cap ps X Y K ⟨E, ls, m⟩ := by
  unfold RangeP
  intro l rec hl hst hpe hround
  have hrec : ({ rec with state := .ready, pending := none } : Loop) = rec := by cases rec; simp_all
  refine FCalls.mono (h l (fun i M => ∃ m3, m3 l = none ∧ M = m3.set l (.loop rec) ∧ J i m3)
    (fun M => ∃ m3 e c, m3 l = none ∧ jumpOf e = some c ∧ M = m3.set l (.loop { rec with state := .done, pending := some c }) ∧ K e ⟨E, ls, m3⟩) _ ⟨m, hl, rfl, h0⟩ (fun i M ⟨m3, h1, h2, h3⟩ => h2 ▸ hI _ _ _ h1 (hJ _ _ h3)) fun i vs M hx ⟨m3, h1, h2, h3⟩ => ?_) fun v M hM => ?_
  · have hy := hround vs M (fun e m2 => match e with | .normal => J (i + 1) m2 | e => K e ⟨E, ls, m2⟩) (by rw [h2]; simp [Mem.set]) (hps i vs hx) (by rw [h2, set_del h1]; exact round i vs m3 hx h3)
    refine hy.mono fun v M' ⟨m4, k1, k2⟩ => ?_
    rcases k2 with ⟨rfl, k3, k4⟩ | ⟨rfl, e, c, k3, k4, k5⟩
    · exact .inl ⟨rfl, m4, k1, k3, k4⟩
    · refine .inr ⟨rfl, m4, e, c, k1, k3, k4, ?_⟩
      cases e <;> first | exact k5 | simp [jumpOf] at k3
  · rcases hM with ⟨m3, h1, rfl, h3⟩ | ⟨m3, e, c, h1, h2, rfl, h3⟩
    · refine ⟨.ready, none, by simp, by simp [Mem.set, hrec], ?_⟩
      rw [set_del h1]
      exact fin m3 h3
    · refine ⟨.done, some c, by simp, by simp [Mem.set], ?_⟩
      rw [set_del h1]
      cases e <;> simp only [jumpOf, Option.some.injEq, reduceCtorEq] at h2 <;> subst h2 <;> exact h3
end Go.Mv
