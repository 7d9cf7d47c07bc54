/- Mv: a range over a function: its rounds, the statement. -/
import Derived.Test.YtoifiplefjclbaaMvDraw
namespace Go.Mv
open Go
def mark (b : Nat) : Deferred := { target := .collected b, args := #[] }
/-- More marks among the deferred calls; their blocks are kept. -/
def Ext (w0 : World) (D D' : HD) : Prop := ∃ bs : List Nat, D'.defers = bs.map mark ++ D.defers ∧ D'.hid = (bs.map fun b => (b, Obj.deferred (some []))) ++ D.hid ∧ bs.Nodup ∧ ∀ b, b ∈ bs → w0.heap.size ≤ b ∧ ∀ o, (b, o) ∉ D.hid
theorem Ext.refl {w0 : World} {D : HD} : Ext w0 D D := ⟨[], rfl, rfl, List.nodup_nil, fun b hb => by cases hb⟩
theorem Ext.trans {w0 : World} {D D' D'' : HD} (h : Ext w0 D D') (k : Ext w0 D' D'') : Ext w0 D D'' := by
  obtain ⟨bs, h1, h2, h3, h4⟩ := h
  obtain ⟨cs, k1, k2, k3, k4⟩ := k
  refine ⟨cs ++ bs, by rw [k1, h1]; simp, by rw [k2, h2]; simp, ?_, fun b hb => ?_⟩
  · rw [List.nodup_append]
    refine ⟨k3, h3, fun a ha b hb he => ?_⟩
    subst he
    refine (k4 a ha).2 (.deferred (some [])) ?_
    rw [h2]
    exact List.mem_append_left _ (List.mem_map.2 ⟨a, hb, rfl⟩)
  · rcases List.mem_append.1 hb with hb | hb
    · refine ⟨(k4 b hb).1, fun o ho => (k4 b hb).2 o ?_⟩
      rw [h2]
      exact List.mem_append_right _ ho
    · exact h4 b hb
def RelX (N : Nat) (D : HD) (m0 : Mem) (w0 : World) (S : St) (a : Act) (w : World) : Prop := ∃ D', Ext w0 D D' ∧ Relx N D' m0 w0 S a w
theorem Relx.X {N : Nat} {D : HD} {m0 : Mem} {w0 : World} {S : St} {a : Act} {w : World} (h : Relx N D m0 w0 S a w) : RelX N D m0 w0 S a w := ⟨D, Ext.refl, h⟩
def Run (P : Program) (r : Option Nat) (N : Nat) (D : HD) (m0 : Mem) (w0 : World) (c : Code) (K : Exit → St → Prop) (S : St) : Prop :=
  ∀ (Q : Exit → Act → World → Prop) (a : Act) (w : World), Relx N D m0 w0 S a w → (∀ e S' a' w', K e S' → RelX N D m0 w0 S' a' w' → Q e a' w') → c.wpIn (Fr r) 0 P Q a w
section
variable {P : Program} {r : Option Nat} {T : Tbl} {B pr : List Nat} {ψ : Nat → Nat} {N : Nat} {D : HD} {m0 : Mem} {w0 : World} {Q : Exit → Act → World → Prop} {S S' : St} {a : Act} {w w' : World} {K : Exit → St → Prop} {v : Value}

theorem plainEnvG_lk : ∀ {E : Env} {seen : List Nat} {i : Nat} {x : AV}, lk (plainEnvG seen E) i = some x → hasB seen i = false ∧ lk E i = some x ∧ ∀ j o, x ≠ .loc j o
  | [], _, _, _, h => by simp [plainEnvG, lk] at h
  | (j, y) :: r, seen, i, x, h => by
    have go : ∀ y : AV, (∀ a b, y ≠ .loc a b) → lk (bif hasB seen j then plainEnvG seen r else (j, y) :: plainEnvG seen r) i = some x → hasB seen i = false ∧ lk ((j, y) :: r) i = some x ∧ ∀ j o, x ≠ .loc j o := by
      intro y hy h
      simp only [lk]
      cases hs : hasB seen j with
      | true =>
        rw [hs] at h
        obtain ⟨h1, h2, h3⟩ := plainEnvG_lk (E := r) h
        have hne : j ≠ i := by rintro rfl; rw [hs] at h1; cases h1
        rw [if_neg hne]
        exact ⟨h1, h2, h3⟩
      | false =>
        rw [hs] at h
        simp only [cond_false, lk] at h
        by_cases hne : j = i
        · rw [if_pos hne] at h ⊢
          cases h
          exact ⟨hne ▸ hs, rfl, hy⟩
        · rw [if_neg hne] at h ⊢
          exact plainEnvG_lk (E := r) h
    cases y with
    | loc a b =>
      simp only [plainEnvG] at h
      obtain ⟨h1, h2, h3⟩ := plainEnvG_lk (E := r) h
      simp only [hasB] at h1
      cases hb : Nat.beq j i with
      | true => rw [hb] at h1; cases h1
      | false =>
        rw [hb] at h1
        simp only [lk, if_neg (Nat.ne_of_beq_eq_false hb)]
        exact ⟨h1, h2, h3⟩
    | _ => exact go _ (fun a b hh => by cases hh) h
theorem plainEnv_is {t : Array Value} {L : Nat} {E : Env} (hE : ∀ i x, lk E i = some x → x.is ψ L (t.getD i undef)) (i : Nat) (x : AV) (h : lk (plainEnv E) i = some x) : x.is ψ 0 (t.getD i undef) := by
  obtain ⟨_, h2, h3⟩ := plainEnvG_lk h
  have h4 := hE i x h2
  cases x <;> first | exact h4 | exact absurd rfl (h3 _ _)
theorem putObj_frame {m1 m : Mem} {wy w1 : World} {l : Nat} {o : Obj} (h : Frame m1 wy m w1) (hl : m1 l ≠ none) (hm : m l = none) : Frame m1 wy m (w1.putObj l o) :=
  ⟨h.os, h.tape, h.output, by rw [World.putObj_size]; exact h.size, fun b o' hb => by
    have hne : b ≠ l := by rintro rfl; rw [hm] at hb; cases hb
    rw [World.putObj_heap_other hne]
    exact h.sub b o' hb, fun b hb hn => by
    have hne : b ≠ l := by rintro rfl; exact hl hn
    rw [World.putObj_heap_other hne]
    exact h.keep b hb hn, h.dom⟩
theorem putObj_frame_in {m1 m : Mem} {wy w1 : World} {l : Nat} {o : Obj} (h : Frame m1 wy m w1) (hl : m1 l ≠ none) (hlt : l < w1.heap.size) : Frame m1 wy (m.set l o) (w1.putObj l o) :=
  ⟨h.os, h.tape, h.output, by rw [World.putObj_size]; exact h.size, fun b o' hb => by
    by_cases hne : b = l
    · subst hne
      rw [World.putObj_heap_same hlt]
      simpa [Mem.set] using hb
    · rw [World.putObj_heap_other hne]
      simp only [Mem.set, if_neg hne] at hb
      exact h.sub b o' hb, fun b hb hn => by
    have hne : b ≠ l := by rintro rfl; exact hl hn
    rw [World.putObj_heap_other hne]
    exact h.keep b hb hn, fun b hb => by
    by_cases hne : b = l
    · subst hne; exact .inl hl
    · simp only [Mem.set, if_neg hne] at hb
      exact h.dom b hb⟩
/-- A hidden block becomes another object. -/
theorem Rel.hide {D' : HD} {l : Nat} {o o' : Obj} {hs : List (Nat × Obj)} (h : Rel ψ N D m0 w0 S a w) (hD : D.hid = hs ++ [(l, o)]) (hs' : ∀ b x, (b, x) ∈ hs → b ≠ l) (hl : m0 l ≠ none) (hdef : D'.defers = D.defers) (hD' : D'.hid = hs ++ [(l, o')]) :
    Rel ψ N D' m0 w0 S a (w.putObj l o') := by
  obtain ⟨g1, g2, g3⟩ := h.marks l o (by rw [hD]; simp)
  have hlt := (Array.getElem?_eq_some_iff.1 g1).1
  refine ⟨h.size, h.defers.trans hdef.symm, h.env, fun i c hc => ?_, h.inj, putObj_frame h.frame hl g2, fun b x hb => ?_⟩
  · obtain ⟨e, h1, h2, h3⟩ := h.box i c hc
    have hi := (List.getElem?_eq_some_iff.1 hc).1
    exact ⟨e, by rw [World.putObj_heap_other (g3 i hi)]; exact h1, h2, h3⟩
  · rw [hD'] at hb
    rcases List.mem_append.1 hb with hb | hb
    · obtain ⟨h1, h2, h3⟩ := h.marks b x (by rw [hD]; exact List.mem_append_left _ hb)
      exact ⟨by rw [World.putObj_heap_other (hs' b x hb)]; exact h1, h2, h3⟩
    · rw [List.mem_singleton] at hb
      cases hb
      exact ⟨World.putObj_heap_same hlt, g2, g3⟩
theorem foldl_size (N : Nat) : ∀ (l : List (Nat × Value)) (t : Array Value), t.size = N → (l.foldl (fun t (p, v) => t.setIfInBounds p v) t).size = N
  | [], _, h => h
  | (p, v) :: r, t, h => by
    simp only [List.foldl_cons]
    exact foldl_size N r _ (by simpa using h)
theorem parEnv_is : ∀ (ps : List Nat) (vals : List Value) (E : Env) (t : Array Value), (∀ p, p ∈ ps → p < t.size) → vals.length = ps.length → (∀ i x, lk E i = some x → x.is ψ 0 (t.getD i undef)) →
    ∀ i x, lk (parEnv ps vals E) i = some x → x.is ψ 0 (((ps.zip vals).foldl (fun t (p, v) => t.setIfInBounds p v) t).getD i undef)
  | [], vals, E, t, _, hl, hE, i, x, h => by
    cases vals with
    | nil => exact hE i x h
    | cons _ _ => simp at hl
  | p :: ps, [], E, t, _, hl, _, i, x, h => by simp at hl
  | p :: ps, v :: vals, E, t, hp, hl, hE, i, x, h => by
    simp only [List.zip_cons_cons, List.foldl_cons]
    refine parEnv_is ps vals ((p, .v v) :: E) (t.setIfInBounds p v) (fun q hq => by simpa using hp q (List.mem_cons_of_mem _ hq)) (by simpa using hl) (fun j y hy => ?_) i x h
    rw [getD_put _ _ _ _ (hp p List.mem_cons_self)]
    simp only [lk] at hy
    by_cases hj : p = j
    · rw [if_pos hj] at hy ⊢
      cases hy
      rfl
    · rw [if_neg hj] at hy ⊢
      exact hE j y hy
/-- One round: the assignments, the body, the record. -/
theorem round_sound {l : Nat} {rec : Loop} {ps : List Nat} {vals : List Value} {m1 : Mem} {R : Exit → Mem → Prop} {E : Env} {X Y : (Exit → St → Prop) → St → Prop}
    (hst : rec.state = .ready) (hpe : rec.pending = none) (hps : rec.params.toList = ps) (hN : rec.tmps.size = N) (hlt : ∀ p, p ∈ ps → p < N) (hE : ∀ i x, lk E i = some x → x.is ψ 0 (rec.tmps.getD i undef))
    (ihx : ∀ D m0 w0 K S, X K S → Run P (some l) N D m0 w0 rec.assign K S) (ihy : ∀ D m0 w0 K S, Y K S → Run P (some l) N D m0 w0 rec.body K S)
    (hl : m1 l = some (.loop rec)) (hlen : vals.length = ps.length)
    (h : X (fun e S1 => match e with | .normal => Y (roundK R) S1 | _ => False) ⟨parEnv ps vals E, [], m1.del l⟩) : YCalls P l vals m1 (roundR l rec R) := by
  intro wy hsub
  have hwl := hsub l _ hl
  have hsz : vals.toArray.size = rec.params.size := by
    have : rec.params.toList.length = rec.params.size := by simp
    rw [← this, hps]
    simpa using hlen
  refine ⟨_, _, _, _, run_yield hwl hsz, roundIn_of_wpIn trivial ?_⟩
  have htm : (rec.params.zip vals.toArray).foldl (fun tmps (t, a) => tmps.setIfInBounds t a) rec.tmps = (ps.zip vals).foldl (fun t (p, v) => t.setIfInBounds p v) rec.tmps := by
    rw [← Array.foldl_toList, Array.toList_zip, hps]
  rw [htm]
  have hdel : (m1.del l) l = none := by simp [Mem.del]
  have hless : ∀ b o, (m1.del l) b = some o → m1 b = some o := fun b o hb => by
    simp only [Mem.del] at hb
    split at hb
    · cases hb
    · exact hb
  have hl0 : m1 l ≠ none := by rw [hl]; simp
  have hR : Rel ψ N ⟨[], [(l, .loop rec)]⟩ m1 wy ⟨parEnv ps vals E, [], m1.del l⟩ { tmps := (ps.zip vals).foldl (fun t (p, v) => t.setIfInBounds p v) rec.tmps, defers := [] } wy :=
    ⟨foldl_size N _ _ hN, rfl, parEnv_is ps vals E _ (by rw [hN]; exact hlt) hlen hE, fun i c hc => by simp at hc, fun i j hi => by simp at hi, (Frame.refl hsub).less hless, fun b o hb => by
      rw [List.mem_singleton] at hb
      cases hb
      exact ⟨hwl, hdel, fun i hi => by simp at hi⟩⟩
  refine (ihx ⟨[], [(l, .loop rec)]⟩ m1 wy _ _ h) _ _ wy ⟨ψ, hR⟩ fun e S1 a1 w1 hk hX => ?_
  cases e with
  | normal =>
    obtain ⟨D', ⟨bs, e1, e2, e3, e4⟩, ψ', hR1⟩ := hX
    obtain ⟨g1, g2, g3⟩ := hR1.marks l (.loop rec) (by rw [e2]; simp)
    have hbs : ∀ b x, (b, x) ∈ (bs.map fun b => (b, Obj.deferred (some []))) → b ≠ l := by
      intro b x hb he
      obtain ⟨c, hc, hce⟩ := List.mem_map.1 hb
      cases hce
      subst he
      exact (e4 b hc).2 (.loop rec) (by simp)
    refine ⟨_, run_beginRound g1 hst, ?_⟩
    have hR2 := hR1.hide (D' := ⟨D'.defers, (bs.map fun b => (b, Obj.deferred (some []))) ++ [(l, .loop { rec with state := .busy })]⟩) e2 hbs hl0 rfl rfl
    refine (ihy _ m1 wy _ _ hk) _ _ _ ⟨ψ', hR2⟩ fun e S2 a2 w3 hk2 hX2 => ?_
    obtain ⟨D3, ⟨cs, f1, f2, f3, f4⟩, ψ3, hR3⟩ := hX2
    obtain ⟨k1, k2, k3⟩ := hR3.marks l (.loop { rec with state := .busy }) (by rw [f2]; simp)
    have hlt3 := (Array.getElem?_eq_some_iff.1 k1).1
    have hrec : ({ rec with state := .ready, pending := none } : Loop) = rec := by cases rec; simp_all
    cases e with
    | normal =>
      refine ⟨_, _, run_endRound none k1, _, _, rfl, ⟨S2.m, k2, .inl ⟨rfl, rfl, hk2⟩⟩, ?_⟩
      have := putObj_frame_in (o := .loop rec) hR3.frame hl0 hlt3
      simpa [hrec] using this
    | ret => exact ⟨_, _, run_endRound (some .ret) k1, _, _, rfl, ⟨S2.m, k2, .inr ⟨rfl, .ret, .ret, rfl, rfl, hk2⟩⟩, putObj_frame_in hR3.frame hl0 hlt3⟩
    | exit id => exact ⟨_, _, run_endRound (some (.exit id)) k1, _, _, rfl, ⟨S2.m, k2, .inr ⟨rfl, .exit id, .exit id, rfl, rfl, hk2⟩⟩, putObj_frame_in hR3.frame hl0 hlt3⟩
    | _ => exact hk2.elim
  | _ => exact hk.elim
theorem del_frame {m : Mem} {l : Nat} {o : Obj} (h : Frame m0 w0 m w) (hl : w0.heap.size ≤ l) : Frame m0 w0 (m.del l) (w.putObj l o) :=
  ⟨h.os, h.tape, h.output, by rw [World.putObj_size]; exact h.size, fun b o' hb => by
    simp only [Mem.del] at hb
    split at hb
    · cases hb
    · rename_i hne
      rw [World.putObj_heap_other hne]
      exact h.sub b o' hb, fun b hb hn => by
    rw [World.putObj_heap_other (by omega)]
    exact h.keep b hb hn, fun b hb => by
    simp only [Mem.del] at hb
    split at hb
    · exact absurd rfl hb
    · exact h.dom b hb⟩
/-- The statement. -/
theorem range_sound (hB : bodiesOk P B = true) {g : Operand} {ps : Array Tmp} {x y : Code} {f : Nat} {first cap : Array Value} {X Y : (Exit → St → Prop) → St → Prop}
    (hR : Rel ψ N D m0 w0 S a w) (hev : a.eval g = .func (.func f) first cap) (hf : B.contains f = true) (hlt : ∀ p, p ∈ ps.toList → p < N)
    (ihx : ∀ l D m0 w0 K S, X K S → Run P (some l) N D m0 w0 x K S) (ihy : ∀ l D m0 w0 K S, Y K S → Run P (some l) N D m0 w0 y K S)
    (h : RangeP P f first.toList cap.toList ps.toList X Y K S)
    (hK : ∀ e S' a' w', K e S' → RelX N D m0 w0 S' a' w' → Q e a' w') : (Code.rangeFunc g ps x y).wpIn (Fr none) 0 P Q a w := by
  have hBg : bodyB P f = true := List.all_eq_true.1 hB _ (by simpa using hf)
  refine wpIn_rangeFunc fun fn _ => ?_
  let rc : Loop := { state := .ready, pending := none, fn := fn, tmps := a.tmps, params := ps, assign := x, body := y, defers := w.heap.size }
  let l := w.heap.size + 1
  let w1 := (w.alloc (.deferred (some []))).alloc (.loop rc)
  have hsz1 : w1.heap.size = w.heap.size + 2 := by simp only [w1, size_alloc]
  have hlk : ∀ k, k < w.heap.size → w1.heap[k]? = w.heap[k]? := fun k hk => by
    simp only [w1, heap_alloc, size_alloc]
    rw [if_neg (by omega), if_neg (by omega)]
  have hb1 : w1.heap[w.heap.size]? = some (.deferred (some [])) := by
    simp only [w1, heap_alloc, size_alloc]
    rw [if_neg (by omega), if_pos trivial]
  have hl1 : w1.heap[l]? = some (.loop rc) := by
    simp only [w1, heap_alloc, size_alloc, l]
    rw [if_pos trivial]
  have hmlt : ∀ b, S.m b ≠ none → b < w.heap.size := fun b hb => Mem.sub_lt hR.sub hb
  have hmn : ∀ b, w.heap.size ≤ b → S.m b = none := fun b hb => by
    cases hm : S.m b with
    | none => rfl
    | some o => exact absurd (hmlt b (by rw [hm]; simp)) (by omega)
  have hsub1 : (S.m.set l (.loop rc)).sub w1 := fun b o hb => by
    simp only [Mem.set] at hb
    split at hb
    · rename_i he; cases hb; rw [he]; exact hl1
    · rw [hlk b (hmlt b (by rw [hb]; simp))]; exact hR.sub b o hb
  have hF1 : Frame m0 w0 (S.m.set l (.loop rc)) w1 := by
    have := (hR.frame.junk (.deferred (some []))).alloc (.loop rc)
    rw [size_alloc] at this
    exact this
  unfold RangeP at h
  have hcall := h l rc (hmn l (by simp only [l]; omega)) rfl rfl (fun vals m1 R hm1 hlen hX =>
    round_sound (N := N) (ψ := ψ) (E := plainEnv S.env) rfl rfl rfl hR.size hlt (plainEnv_is hR.env) (ihx l) (ihy l) hm1 hlen hX)
  have hargs : (first ++ #[Value.func (.yield l) #[] #[]]) ++ cap = (first.toList ++ [Value.func (.yield l) #[] #[]] ++ cap.toList).toArray := by
    apply Array.ext'
    simp
  refine ⟨l, [mark w.heap.size], w1, { target := .fn (.func f) cap, args := first ++ #[.func (.yield l) #[] #[]] }, w1, f, (first.toList ++ [Value.func (.yield l) #[] #[]] ++ cap.toList).toArray, w1, run_enterLoop_outer fn a.tmps ps x y, ?_, fun _ _ => trivial, ?_, fun hh => by simp [Fr, Fence.wide] at hh, ?_⟩
  · simp only [resolve, hev, Deferred.ofValue, Sem.run_pure, List.map_toArray, List.map_cons, List.map_nil]
    rfl
  · simp only [invoke]
    rw [hargs]
    exact run_callFunc hBg _
  · refine fr_calls ((hcall w1 hsub1).mono fun e w2 hh => ?_)
    obtain ⟨v, m', rfl, ⟨st, pend, hst, hml, hpend⟩, hF⟩ := hh
    have hrec := hF.sub _ _ hml
    refine ⟨pend, _, run_endLoop hrec hst, ?_⟩
    have hlt2 : ∀ b, b < w.heap.size + 1 → S.m b = none → w2.heap[b]? = w1.heap[b]? ∧ m' b = none := fun b hb hn => by
      have hne : b ≠ l := by simp only [l]; omega
      have h0 : (S.m.set l (.loop rc)) b = none := by simp only [Mem.set, if_neg hne]; exact hn
      refine ⟨hF.keep b (by omega) h0, ?_⟩
      cases hm : m' b with
      | none => rfl
      | some o =>
        rcases hF.dom b (by rw [hm]; simp) with hd | hd
        · exact absurd h0 hd
        · omega
    have hdel : ∀ b, m' b = none → (m'.del l) b = none := fun b hb => by
      simp only [Mem.del]
      split
      · rfl
      · exact hb
    have hX : RelX N D m0 w0 ⟨S.env, S.ls, m'.del l⟩ { a with defers := [mark w.heap.size] ++ a.defers } (w2.putObj l (.loop { rc with state := .exhausted, pending := pend })) := by
      refine ⟨⟨mark w.heap.size :: D.defers, (w.heap.size, .deferred (some [])) :: D.hid⟩, ⟨[w.heap.size], rfl, rfl, by simp, fun b hb => ?_⟩, ψ, hR.size, ?_, hR.env, fun i c hc => ?_, hR.inj, del_frame (hF1.trans hF) (by have := hR.frame.size; simp only [l]; omega), fun b o hb => ?_⟩
      · rw [List.mem_singleton] at hb
        subst hb
        refine ⟨hR.frame.size, fun o ho => ?_⟩
        have := (Array.getElem?_eq_some_iff.1 (hR.marks _ o ho).1).1
        omega
      · show mark w.heap.size :: a.defers = _
        rw [hR.defers]
      · obtain ⟨e, h1, h2, h3⟩ := hR.box i c hc
        have hi := (Array.getElem?_eq_some_iff.1 h1).1
        obtain ⟨k1, k2⟩ := hlt2 (ψ i) (by omega) h2
        exact ⟨e, by rw [World.putObj_heap_other (by simp only [l]; omega), k1, hlk _ hi]; exact h1, hdel _ k2, h3⟩
      · rcases List.mem_cons.1 hb with hb | hb
        · cases hb
          obtain ⟨k1, k2⟩ := hlt2 w.heap.size (by omega) (hmn _ (Nat.le_refl _))
          refine ⟨by rw [World.putObj_heap_other (by simp only [l]; omega), k1]; exact hb1, hdel _ k2, fun i hi => ?_⟩
          have := hR.boxLt hi
          omega
        · obtain ⟨h1, h2, h3⟩ := hR.marks b o hb
          have hi := (Array.getElem?_eq_some_iff.1 h1).1
          obtain ⟨k1, k2⟩ := hlt2 b (by omega) h2
          exact ⟨by rw [World.putObj_heap_other (by simp only [l]; omega), k1, hlk _ hi]; exact h1, hdel _ k2, h3⟩
    cases pend with
    | none => exact hK _ _ _ _ hpend hX
    | some c =>
      cases c with
      | ret => exact wpIn_ret (hK _ _ _ _ hpend hX)
      | exit id => exact wpIn_exit (hK _ _ _ _ hpend hX)
      | _ => exact hpend.elim
end
end Go.Mv
