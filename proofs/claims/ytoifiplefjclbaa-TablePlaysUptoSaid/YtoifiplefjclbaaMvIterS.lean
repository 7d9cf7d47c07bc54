/- Mv: iterators, by parts of memory; the range over them. -/
import Derived.Test.YtoifiplefjclbaaMvSep
namespace Go.Mv
open Go
/-- A call of yield on the first part. -/
theorem Sep.ycalls {P : Program} {l : Nat} {args : List Value} {K : Value → Mem → Prop} {A : Asn} {R : List Asn} {m : Mem} (h : Sep (A :: R) m) (hc : ∀ m1, A m1 → YCalls P l args m1 K) :
    YCalls P l args m fun v m' => ∃ m1, K v m1 ∧ Beside R m1 m' := by
  obtain ⟨m1, m2, k1, k2, k3, k4, k5⟩ := h
  intro w hw
  have hwm : m1.sub w := fun b o hb => hw b o (k2 b o hb)
  have hwf : (m.without m1).sub w := fun b o hb => hw b o (by
    simp only [Mem.without] at hb
    split at hb
    · cases hb
    · exact hb)
  obtain ⟨fn, tmps, assign, body, h1, h2⟩ := hc m1 k4 w hwm
  refine ⟨fn, tmps, assign, body, h1, h2.mono fun e w' ⟨v, m', he, hK, hF⟩ => ?_⟩
  obtain ⟨h3, h4⟩ := hF.join (f := m.without m1) apart_without hwf
  rw [join_without k2] at h4
  exact ⟨v, _, he, ⟨m', hK, m.without m1, h3, Mem.le_join_left, Mem.le_join_right h3, k5.more (le_without k1 k3)⟩, h4⟩
/-- A loop's record. -/
def rcd (l : Nat) (rec : Loop) : Asn := fun m => m l = some (.loop rec)
theorem Sep.del {l : Nat} {rec : Loop} {L : List Asn} {m : Mem} (h : Sep (rcd l rec :: L) m) : Sep L (m.del l) ∧ m l = some (.loop rec) := by
  obtain ⟨m1, m2, k1, k2, k3, k4, k5⟩ := h
  refine ⟨k5.more fun k o hk => ?_, k2 _ _ k4⟩
  simp only [Mem.del]
  rw [if_neg]
  · exact k3 k o hk
  · rintro rfl
    rcases k1 k with hx | hx
    · rw [show m1 k = some (.loop rec) from k4] at hx; cases hx
    · rw [hx] at hk; cases hk
theorem Sep.rcd {l : Nat} {rec : Loop} {L : List Asn} {m : Mem} (h : Sep L m) (hl : m l = none) : Sep (rcd l rec :: L) (m.set l (.loop rec)) := by
  refine ⟨one l (.loop rec), m, fun k => ?_, fun k o hk => ?_, Mem.le_set hl, by simp [Mv.rcd, one], h⟩
  · by_cases hk : k = l
    · exact .inr (hk ▸ hl)
    · exact .inl (by simp [one, hk])
  · simp only [one] at hk
    split at hk
    · rename_i hkb
      subst hkb
      simpa [Mem.set] using hk
    · cases hk
theorem kp_rcd {l : Nat} {rec : Loop} {m3 mk : Mem} (hl : m3 l = none) (h : kp (m3.set l (.loop rec)) mk) : Sep [rcd l rec, kp m3] mk := by
  have h1 : mk l = some (.loop rec) := h l _ (by simp [Mem.set])
  have h2 : m3.le (mk.del l) := fun k o hk => by
    have hne : k ≠ l := by rintro rfl; rw [hl] at hk; cases hk
    simp only [Mem.del, if_neg hne]
    exact h k o (by rw [Mem.set_ne hne]; exact hk)
  have h3 : mk = (mk.del l).set l (.loop rec) := by
    funext k
    simp only [Mem.set, Mem.del]
    by_cases hk : k = l
    · subst hk; simp [h1]
    · simp [hk]
  rw [h3]
  refine Sep.rcd ?_ (by simp [Mem.del])
  exact ⟨mk.del l, Mem.empty, fun _ => .inr rfl, Mem.le_refl _, fun _ _ h => (by cases h), h2, trivial⟩
/-- f goes over N values; R i vs L: what the i-th values may be, L: new parts that come with them. A: the part that it needs; A': what it is made to ahead of the first value; I: what must stay so. -/
def IterS (P : Program) (f : Nat) (first cap : List Value) (A A' : Asn) (I : Mem → Prop) (N : Nat) (R : Nat → List Value → List Asn → Prop) : Prop :=
  ∀ (l : Nat) (J : Nat → Mem → Prop) (Q : Mem → Prop) (Rs : List Asn) (m : Mem), Sep (A :: Rs) m → (∀ M, Sep (A' :: Rs) M → J 0 M) → (∀ i m', J i m' → I m') →
    (∀ i vs L m' M, i < N → R i vs L → J i m' → Sep (L ++ [kp m']) M → YCalls P l vs M fun v m'' => (v = .bool true ∧ J (i + 1) m'') ∨ (v = .bool false ∧ Q m'')) →
    FCalls P f (first ++ [.func (.yield l) #[] #[]] ++ cap) m fun _ m' => J N m' ∨ Q m'
theorem range_iterS {P : Program} {f : Nat} {first cap : List Value} {ps : List Nat} {X Y : (Exit → St → Prop) → St → Prop} {K : Exit → St → Prop} {E : Env} {ls : List LC} {m : Mem} {A A' : Asn} {I : Mem → Prop} {N : Nat} {R : Nat → List Value → List Asn → Prop} {Rs : List Asn}
    (h : IterS P f first cap A A' I N R) (hI : ∀ m m', I m → m.le m' → I m') (hs : Sep (A :: Rs) m) (hps : ∀ i vs L, R i vs L → vs.length = ps.length)
    (J : Nat → Mem → Prop) (h0 : ∀ M, Sep (A' :: Rs) M → J 0 M) (hJ : ∀ i m, J i m → I m)
    (round : ∀ i vs L m1 M, i < N → R i vs L → J i m1 → Sep (L ++ [kp m1]) M → X (fun e S1 => match e with | .normal => Y (roundK fun e m2 => match e with | .normal => J (i + 1) m2 | e => K e ⟨E, ls, m2⟩) S1 | _ => False) ⟨parEnv ps vs (plainEnv E), [], M⟩)
    (fin : ∀ m1, J N m1 → K .normal ⟨E, ls, m1⟩) : RangeP P f first cap ps X Y K ⟨E, ls, m⟩ := by
  unfold RangeP
  intro l rec hl hst hpe hround
  have hrec : ({ rec with state := .ready, pending := none } : Loop) = rec := by cases rec; simp_all
  have hs1 : Sep (A :: rcd l rec :: Rs) (m.set l (.loop rec)) := (Sep.rcd hs hl).move 1 rfl
  refine FCalls.mono (h l (fun i M => ∃ m3, m3 l = none ∧ M = m3.set l (.loop rec) ∧ J i m3)
    (fun M => ∃ m3 e c, m3 l = none ∧ jumpOf e = some c ∧ M = m3.set l (.loop { rec with state := .done, pending := some c }) ∧ K e ⟨E, ls, m3⟩) _ _ hs1 (fun M hM => ?_) (fun i M ⟨m3, k1, k2, k3⟩ => k2 ▸ hI _ _ (hJ i m3 k3) (Mem.le_set k1)) fun i vs L m' M hi hR ⟨m3, h1, h2, h3⟩ hM => ?_) fun v M hM => ?_
  · obtain ⟨k1, k2⟩ := (show Sep (rcd l rec :: A' :: Rs) M from hM.move 1 rfl).del
    refine ⟨M.del l, by simp [Mem.del], ?_, h0 _ k1⟩
    funext k
    simp only [Mem.set, Mem.del]
    by_cases hk : k = l
    · subst hk; simp [k2]
    · simp [hk]
  · subst h2
    have hL : Sep (rcd l rec :: (L ++ [kp m3])) M := by
      have k1 : Sep (kp (m3.set l (.loop rec)) :: L) M := by
        have := hM.move (A := kp (m3.set l (.loop rec))) L.length (by simp)
        rw [List.eraseIdx_append_of_length_le (by omega)] at this
        simpa using this
      have k2 := k1.turn 0 (B := Sep [rcd l rec, kp m3]) rfl fun m1 _ hm => kp_rcd h1 hm
      have k3 : Sep (rcd l rec :: kp m3 :: L) M := Sep.split k2
      obtain ⟨a, b, q1, q2, q3, q4, q5⟩ := k3
      refine ⟨a, b, q1, q2, q3, q4, ?_⟩
      have := q5.back (j := L.length) (by omega)
      rwa [show L.insertIdx L.length (kp m3) = L ++ [kp m3] by simp] at this
    obtain ⟨k1, k2⟩ := hL.del
    have hy := hround vs M (fun e m2 => match e with | .normal => J (i + 1) m2 | e => K e ⟨E, ls, m2⟩) k2 (hps i vs L hR) (round i vs L m3 (M.del l) hi hR h3 k1)
    refine hy.mono fun v M' ⟨m4, k1, k2⟩ => ?_
    rcases k2 with ⟨rfl, k3, k4⟩ | ⟨rfl, e, c, k3, k4, k5⟩
    · exact .inl ⟨rfl, m4, k1, k3, k4⟩
    · refine .inr ⟨rfl, m4, e, c, k1, k3, k4, ?_⟩
      cases e <;> first | exact k5 | simp [jumpOf] at k3
  · rcases hM with ⟨m3, h1, rfl, h3⟩ | ⟨m3, e, c, h1, h2, rfl, h3⟩
    · refine ⟨.ready, none, by simp, by simp [Mem.set, hrec], ?_⟩
      rw [set_del h1]
      exact fin m3 h3
    · refine ⟨.done, some c, by simp, by simp [Mem.set], ?_⟩
      rw [set_del h1]
      cases e <;> simp only [jumpOf, Option.some.injEq, reduceCtorEq] at h2 <;> subst h2 <;> exact h3
theorem Sep.last {L : List Asn} {m : Mem} {A B : Asn} (h : Sep (A :: L) m) (hB : ∀ M, Sep L M → B M) : Sep [B, A] m := by
  obtain ⟨m1, m2, k1, k2, k3, k4, k5⟩ := h
  exact ⟨m2, m1, fun k => (k1 k).symm, k3, k2, hB _ k5, m1, Mem.empty, fun _ => .inr rfl, Mem.le_refl _, fun _ _ h => (by cases h), k4, trivial⟩
end Go.Mv
