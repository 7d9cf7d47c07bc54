/- Hunt: the contracts by parts; the first example. -/
import Derived.Test.YtbcmhpannbdejaaHuN
import Derived.Test.YtbcmhpannbdejaaHuV
namespace Go.Proofs.Ytbcmhpannbdejaa
open Go Go.Mv Go.Mv.Hunt
set_option maxHeartbeats 1000000
set_option maxRecDepth 10000
set_option linter.unusedVariables false
set_option linter.unusedSimpArgs false
attribute [local irreducible] FCalls IntKind.wrap bits Mem.set Mem.setCell Mem.setCells YCalls
theorem next_find {lws : List Str} (h0 : [] ∉ lws) {y : Str} {fr a w : Int} {ok : Bool} (h : NextIs lws y fr a w ok) :
    match nextC lws y fr with
    | some (b, k) => a = b ∧ w = k ∧ ok = true
    | none => a = 0 ∧ w = 0 ∧ ok = false := by
  unfold NextIs at h
  unfold nextC
  by_cases hf : 0 ≤ fr ∧ fr ≤ (y.length : Nat)
  · rw [if_pos hf] at h ⊢
    have hA := allsC_is h0 y
    cases ok with
    | true =>
      rw [if_pos rfl] at h
      obtain ⟨b, rfl, hF, hL⟩ := h
      obtain ⟨h1, ⟨k, t, h2, h3, h4⟩, h5⟩ := hF
      rcases hL with ⟨_, h6⟩ | ⟨k', t', rfl, g1, g2, g3, g4⟩
      · exact absurd (show t.length ≤ y.length - b by omega) (h6 k t h2 h3)
      · have : (allsC lws y).find? (fun p => decide (fr ≤ (p.1 : Int))) = some (b, k') := by
          refine find_first hA.1 ((hA.2 b k').2 ⟨t', g1, g2⟩) (by simp; omega) fun z hz hP hb => ?_
          have hz1 := (hA.2 z.1 z.2).1 hz
          have hz2 := (std_stn h0).1 hz1
          have hP : fr ≤ (z.1 : Int) := by simpa using hP
          have h6 := h5 z.1 z.2 (by omega) hz2
          rcases hb with hb | ⟨hb1, hb2⟩
          · simp only at hb; omega
          · simp only at hb1 hb2
            obtain ⟨tz, e1, e2, e3⟩ := hz2
            rw [hb1] at e2 e3
            have := g4 z.2 tz e1 e2 (by omega)
            omega
        rw [this]
        exact ⟨rfl, rfl, rfl⟩
    | false =>
      rw [if_neg (by simp)] at h
      obtain ⟨rfl, rfl, hF⟩ := h
      have : (allsC lws y).find? (fun p => decide (fr ≤ (p.1 : Int))) = none := by
        rw [List.find?_eq_none]
        intro z hz hP
        have hP : fr ≤ (z.1 : Int) := by simpa using hP
        exact hF.2 z.1 z.2 (by omega) ((std_stn h0).1 ((hA.2 z.1 z.2).1 hz))
      rw [this]
      exact ⟨rfl, rfl, rfl⟩
  · rw [if_neg hf] at h ⊢
    exact h
section
variable {p : Nat} {fold : Bool} {lws : List Str} {m : Mem}
theorem hunt_w0 (h : hunt p fold lws m) : [] ∉ lws := by
  obtain ⟨d, ss, _, k, _⟩ := h
  exact k.w0
theorem hunt_more {m' : Mem} (h : hunt p fold lws m) (hm : m.le m') : hunt p fold lws m' := by
  obtain ⟨d, ss, h, k, hf⟩ := h
  exact ⟨d, ss, hu_more h hm, k, hf⟩
theorem hunt_at {L : List Asn} (h : Sep L m) (j : Nat) (hj : L[j]? = some (hunt p fold lws)) : hunt p fold lws m := by
  obtain ⟨m1, h1, h2⟩ := h.get j hj
  exact hunt_more h2 h1
/-- Next. -/
theorem next_h (h : hunt p fold lws m) {y : ByteArray} (hy : y.size < 2 ^ 62) (fr : Int) :
    FCalls Try.prog 12 [.pointer (some ⟨p, 0, none⟩), .string y, .int .i64 fr] m fun v m' => hunt p fold lws m' ∧
      v = (match nextC lws (str fold y) fr with | some (b, k) => .tuple #[.int .i64 ((b : Nat) : Int), .int .i64 ((k : Nat) : Int), .bool true] | none => .tuple #[.int .i64 0, .int .i64 0, .bool false]) := by
  obtain ⟨d, ss, h, k, rfl⟩ := h
  refine FCalls.mono (next_c k h hy fr) ?_
  rintro v m' ⟨a, w, ok, st, rfl, hN, h2⟩
  refine ⟨⟨_, ss, h2, k.turn st, rfl⟩, ?_⟩
  have := next_find k.w0 hN
  cases hc : nextC lws (str d.fold y) fr with
  | none =>
    rw [hc] at this
    obtain ⟨rfl, rfl, rfl⟩ := this
    rfl
  | some x =>
    rw [hc] at this
    obtain ⟨rfl, rfl, rfl⟩ := this
    rfl
/-- All, as an iterator over a part. -/
theorem all_iterH {b q : Nat} {y : ByteArray} (hy : y.size * lws.length < 2 ^ 42) (hy2 : y.size < 2 ^ 62) :
    IterS Try.prog 19 [] [.pointer (some ⟨b, 0, none⟩), .pointer (some ⟨q, 0, none⟩)] (Sep [pt b [.string y], pt q [.pointer (some ⟨p, 0, none⟩)], hunt p fold lws]) (Sep [pt b [.string y], pt q [.pointer (some ⟨p, 0, none⟩)], hunt p fold lws])
      (fun _ => True) (allsC lws (str fold y)).length (fun i vs L => ∃ a k, (allsC lws (str fold y))[i]? = some (a, k) ∧ vs = [.int .i64 ((a : Nat) : Int), .int .i64 ((k : Nat) : Int)] ∧ L = []) := by
  intro yl J Q Rs m h hA hJI hyl
  obtain ⟨d, ss, k, hf, h'⟩ : ∃ d ss, Lk d ss lws ∧ d.fold = fold ∧ Sep (Sep [pt b [.string y], pt q [.pointer (some ⟨p, 0, none⟩)], hu p d] :: Rs) m := by
    obtain ⟨m1, m2, k1, k2, k3, ⟨a1, a2, b1, b2, b3, b4, c1, c2, d1, d2, d3, d4, e1, e2, f1, f2, f3, ⟨d, ss, g1, g2, g3⟩, g4⟩, k5⟩ := h
    exact ⟨d, ss, g2, g3, m1, m2, k1, k2, k3, ⟨a1, a2, b1, b2, b3, b4, c1, c2, d1, d2, d3, d4, e1, e2, f1, f2, f3, g1, g4⟩, k5⟩
  subst hf
  refine all_iter k hy hy2 (allsC_is k.w0 _) yl J Q Rs m h' (fun M hM => hA M ?_) hJI hyl
  refine hM.turn 0 rfl fun m1 _ ⟨st, h1⟩ => ?_
  exact h1.turn 2 rfl fun m2 _ h2 => ⟨_, ss, h2, k.turn st, rfl⟩
/-- New, with the words. -/
theorem new_h {A : Option Addr} {ts : List ByteArray} {c : Nat} (hA : Rd m A (svs ts)) (hl : ts.length < 2 ^ 63) :
    FCalls Try.prog 9 [.slice A ts.length c, .bool fold] m fun v m' =>
      (Right ts → ∃ p, v = .tuple #[.pointer (some ⟨p, 0, none⟩), .int .i64 0] ∧ Sep [hunt p fold (lwsOf fold ts), kp m] m') ∧ (¬ Right ts → v = .tuple #[.pointer none, .int .i64 1] ∧ m.le m') := new_c hA hl
/-! ### the first example -/
def ex3 : List ByteArray := [⟨#[104, 101]⟩, ⟨#[115, 104, 101]⟩, ⟨#[104, 101, 114, 115]⟩]
def exs : ByteArray := ⟨#[117, 115, 104, 101, 114, 115]⟩
theorem ex_right : Right ex3 := ⟨by decide, by decide, fun t ht => by
  simp [ex3] at ht
  rcases ht with rfl | rfl | rfl <;> decide⟩
theorem ex_all : allsC (lwsOf false ex3) (str false exs) = [(1, 1), (2, 0), (2, 2)] := by decide +kernel
theorem ex_0 : nextC (lwsOf false ex3) (str false exs) 0 = some (1, 1) := by decide +kernel
theorem ex_2 : nextC (lwsOf false ex3) (str false exs) 2 = some (2, 0) := by decide +kernel
theorem ex_3 : nextC (lwsOf false ex3) (str false exs) 3 = none := by decide +kernel
theorem known_c : FCalls Try.prog 8 [] m fun v m' => v = .bool true ∧ m.le m' := by
  refine fcalls_of_vc (T := tbl) (B := bodies) (pr := [99999]) (DR := dr8) (args := []) tbl_ok bodies_ok mixed Try.func8 rfl (by decide +kernel) (by simp [Try.f8]) rfl ?_
  (conv => whnf)
  intro b m1 hb he
  have h := (Sep.init m).new' (l := svs ex3) hb (he.trans rfl)
  clear hb he
  have hR : Rd m1 (some ⟨b, 0, none⟩) (svs ex3) := .inr ⟨_, rfl, (h.blk 0 rfl).holds fun k v hk => by rw [Nat.zero_add]; exact hk⟩
  (conv => whnf)
  refine FCalls.mono (new_h (c := 3) hR (by decide)) ?_
  rintro v m2 ⟨h1, _⟩
  obtain ⟨p, rfl, h2⟩ := h1 ex_right
  replace h : Sep [hunt p false (lwsOf false ex3), kp m] m2 := (h.on (N := [_]) h2).drop 1
  clear h1 h2 hR
  have hw3 : (lwsOf false ex3).length = 3 := rfl
  (conv => whnf)
  refine FCalls.mono (h.call 0 rfl fun m1 h1 => next_h h1 (y := exs) (by decide) 0) ?_
  rintro v m3 ⟨m4, ⟨h1, rfl⟩, hB⟩
  replace h := hB.one h1
  clear hB h1
  rw [ex_0]
  (conv => whnf)
  refine FCalls.mono (h.call 0 rfl fun m1 h1 => next_h h1 (y := exs) (by decide) 2) ?_
  rintro v m5 ⟨m4, ⟨h1, rfl⟩, hB⟩
  replace h := hB.one h1
  clear hB h1
  rw [ex_2]
  (conv => whnf)
  refine FCalls.mono (h.call 0 rfl fun m1 h1 => next_h h1 (y := exs) (by decide) 3) ?_
  rintro v m6 ⟨m4, ⟨h1, rfl⟩, hB⟩
  replace h := hB.one h1
  clear hB h1
  rw [ex_3]
  (conv => whnf)
  intro bn m7 hb he
  replace h := h.new' (l := [.int .i64 0]) hb (he.trans rfl)
  clear hb he
  (conv => whnf)
  refine ⟨h.room 0 (i := 0) rfl rfl, fun m8 he => ?_⟩
  replace h := h.put' 0 he rfl
  clear he
  (conv => whnf)
  refine FCalls.mono (all_c (y := exs)) ?_
  rintro v m9 ⟨b1, q1, rfl, h2⟩
  replace h : Sep (Sep [pt b1 [.string exs], pt q1 [.pointer (some ⟨p, 0, none⟩)], hunt p false (lwsOf false ex3)] :: [pt bn [.int .i64 0], kp m]) m9 := Sep.group (L := [pt b1 [.string exs], pt q1 [.pointer (some ⟨p, 0, none⟩)], hunt p false (lwsOf false ex3)]) ((h.on (N := [_, _]) h2).move 3 rfl |>.move 2 rfl |>.move 2 rfl)
  clear h2
  (conv => whnf)
  refine range_iterS (all_iterH (y := exs) (by rw [hw3]; decide) (by decide)) (fun _ _ _ _ => trivial) h (fun i vs L ⟨a, k, _, hv, _⟩ => by rw [hv]; rfl)
    (fun j M => Sep [pt bn [.int .i64 (([0, 11, 1120, 112022] : List Int).getD j 0)], kp m] M) (fun M hM => hM.drop 0) (fun _ _ _ => trivial) ?_ ?_
  · rintro j vs L m1 M hj ⟨a, k, hx, rfl, rfl⟩ hM h4
    replace h := hM.more (h4.kept 0 rfl)
    clear h4 hM
    rw [ex_all] at hx hj
    have hj3 : j = 0 ∨ j = 1 ∨ j = 2 := by simp at hj; omega
    rcases hj3 with rfl | rfl | rfl
    all_goals
      cases hx
      (conv => whnf)
      refine ⟨_, h.cell 0 (i := 0) rfl rfl, ?_⟩
      (conv => whnf)
      refine ⟨h.room 0 (i := 0) rfl rfl, fun m10 he => ?_⟩
      simp only [IntKind.wrap_i64] at he
      replace h := h.put' 0 he rfl
      (conv => whnf)
      exact h
  · rintro M hM
    rw [ex_all] at hM
    (conv => whnf)
    refine ⟨_, hM.cell 0 (i := 0) rfl rfl, ?_⟩
    (conv => whnf)
    exact ⟨rfl, hM.kept 1 rfl⟩
end
end Go.Proofs.Ytbcmhpannbdejaa
