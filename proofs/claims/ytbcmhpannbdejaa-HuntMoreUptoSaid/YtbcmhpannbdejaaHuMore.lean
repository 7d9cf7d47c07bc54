/- HuntMore. -/
import Derived.Test.YtbcmhpannbdejaaHuR
namespace Go.Proofs.Ytbcmhpannbdejaa
open Go Go.Mv Go.Mv.Hunt
set_option maxHeartbeats 2000000
set_option maxRecDepth 10000
set_option linter.unusedVariables false
set_option linter.unusedSimpArgs false
attribute [local irreducible] FCalls IntKind.wrap bits Mem.set Mem.setCell Mem.setCells YCalls
def notK (n : Nat) (x : Nat × Nat) : Bool := decide (x.2 ≠ n)
theorem more_filter {lws : List Str} {w : Str} (h0 : [] ∉ lws ++ [w]) (y : Str) : (allsC (lws ++ [w]) y).filter (notK lws.length) = allsC lws y := by
  have h1 : [] ∉ lws := fun h => h0 (List.mem_append_left _ h)
  have hA := allsC_is h0 y
  refine Alls.is h1 ⟨hA.1.filter _, fun a k => ?_⟩
  rw [List.mem_filter, hA.2]
  unfold Std notK
  simp only [decide_eq_true_eq]
  constructor
  · rintro ⟨⟨t, g1, g2⟩, g3⟩
    refine ⟨t, ?_, g2⟩
    have := lt_of_get g1
    rw [List.length_append, List.length_singleton] at this
    rw [List.getElem?_append_left (by omega)] at g1
    exact g1
  · rintro ⟨t, g1, g2⟩
    have := lt_of_get g1
    exact ⟨⟨t, by rw [List.getElem?_append_left this]; exact g1, g2⟩, by omega⟩
theorem lws_snoc {fold : Bool} {ts : List ByteArray} {w : ByteArray} : lwsOf fold (ts ++ [w]) = lwsOf fold ts ++ [str fold w] := by simp [lwsOf]
theorem svs_len (ts : List ByteArray) : (svs ts).length = ts.length := by simp [svs]
theorem svs_one (ts : List ByteArray) : oneCells (svs ts) = true := by
  induction ts with
  | nil => rfl
  | cons x r ih => exact ih
theorem huntMore_c {m : Mem} {A : Option Addr} {ts : List ByteArray} {c : Nat} {fold : Bool} {w y : ByteArray} (hA : Rd m A (svs ts)) (hl : ts.length ≤ 1048576) (hy : y.size ≤ 1048576) :
    FCalls Try.prog 5 [.slice A ts.length c, .string w, .bool fold, .string y] m fun v m' => v = .bool true ∧ m.le m' := by
  refine fcalls_of_vc (T := tbl) (B := bodies) (pr := [99999]) (DR := dr5) (args := [.v (.slice A ts.length c), .v (.string w), .v (.bool fold), .v (.string y)]) tbl_ok bodies_ok mixed Try.func5 rfl (by decide +kernel) (by simp [Try.f5]) rfl ?_
  (conv => whnf)
  intro b4 m0 hb he
  have h := (Sep.init m).new' (l := [.slice A ts.length c]) hb (he.trans rfl)
  clear hb he
  (conv => whnf)
  refine FCalls.mono known_c ?_
  rintro v m1 ⟨rfl, hle1⟩
  replace h := h.more hle1
  (conv => whnf)
  refine ⟨_, _, _, h.cell 0 (i := 0) rfl rfl, ?_⟩
  (conv => whnf)
  refine FCalls.mono (new_h (fold := fold) (hA.more (h.kept 1 rfl)) (by omega)) ?_
  rintro v m2 ⟨h1, h2⟩
  by_cases hr : Right ts
  case' pos =>
    obtain ⟨p, rfl, h3⟩ := h1 hr
    replace h : Sep [pt b4 [.slice A ts.length c], kp m, hunt p fold (lwsOf fold ts)] m2 := (((h.on (N := [_]) h3).move 1 rfl).move 2 rfl).move 1 rfl
    clear h3
  case' neg =>
    obtain ⟨rfl, h3⟩ := h2 hr
    replace h := h.more h3
    clear h3
  all_goals
    clear h1 h2
    (conv => whnf)
    refine ⟨_, _, _, h.cell 0 (i := 0) rfl rfl, ?_⟩
    (conv => whnf)
    obtain ⟨ok, hR⟩ := (Sep.free (A := sl none 0 0 1 []) h sl_nil).app 0 (T := tbl) (e := 9) (news := svs ts) (k := ts.length) (B := A) rfl (by rw [svs_len]; show _ = _ * 1; omega) (((hA.more (h.kept 1 rfl)).holds (svs_len ts)).imp (fun hh => by rw [hh]; exact Nat.zero_mul _) id) (svs_one ts) rfl (by show 2 * (0 + _) * 16 ≤ 2 ^ 48; omega) rfl
    refine ⟨_, _, ok, fun A1 c1 m3 hr1 => ?_⟩
    replace h := hR _ _ _ hr1
    clear ok hR hr1
    (conv => whnf)
    intro nb m4 hb he
    replace h := h.new' (l := svs [w]) hb (he.trans rfl)
    have hBn : m4.holds ⟨nb, 0, none⟩ (svs [w]) := (h.blk 0 rfl).holds fun k v hk => by rw [Nat.zero_add]; exact hk
    clear hb he
    (conv => whnf)
    obtain ⟨ok, hR⟩ := h.app 1 (T := tbl) (e := 9) (news := svs [w]) (k := 1) (B := some ⟨nb, 0, none⟩) rfl rfl (.inr ⟨_, rfl, hBn⟩) rfl rfl (by show 2 * (_ + 1) * 16 ≤ 2 ^ 48; omega) rfl
    refine ⟨_, _, ok, fun A2 c2 m5 hr2 => ?_⟩
    replace h := (hR _ _ _ hr2).drop 0
    clear ok hR hr2 hBn
    have hRd : Rd m5 A2 (svs (ts ++ [w])) := by
      have h9 := h.rd 0 rfl
      rw [show svs (ts ++ [w]) = [] ++ svs ts ++ svs [w] by simp [svs]]
      exact h9
    replace h := h.drop 0
    have hnew := new_h (fold := fold) (c := c2) hRd (by simp; omega)
    rw [List.length_append, List.length_singleton] at hnew
    (conv => whnf)
    rw [show 0 + ts.length + 1 = ts.length + 1 by omega]
    refine FCalls.mono hnew ?_
    clear hnew
    rintro v m6 ⟨h1, h2⟩
    rcases Classical.em (Right (ts ++ [w])) with hr2 | hr2
  rotate_left 2
  · obtain ⟨q, rfl, h3⟩ := h1 hr2
    have h : Sep [hunt q fold (lwsOf fold (ts ++ [w])), pt b4 [.slice A ts.length c], kp m, hunt p fold (lwsOf fold ts)] m6 := h.on (N := [_]) h3
    clear h1 h2 h3
    have hlw : (lwsOf fold ts).length ≤ 100 := by rw [lws_len]; exact hr.2.1
    have hlw2 : (lwsOf fold (ts ++ [w])).length ≤ 100 := by rw [lws_len]; exact hr2.2.1
    have hzl : y.size * (lwsOf fold ts).length ≤ 1048576 * 100 := Nat.mul_le_mul hy hlw
    have hzl2 : y.size * (lwsOf fold (ts ++ [w])).length ≤ 1048576 * 100 := Nat.mul_le_mul hy hlw2
    have h0 := hunt_w0 (hunt_at h 0 rfl)
    have hln := alls_len (y := str fold y) h0
    rw [str_len] at hln
    have hmf := more_filter (y := str fold y) (lws := lwsOf fold ts) (w := str fold w) (by rw [← lws_snoc]; exact h0)
    rw [← lws_snoc, lws_len] at hmf
    (conv => whnf)
    intro bo m7 hb he
    replace h := h.new' (l := [.slice none 0 0]) hb (he.trans rfl)
    clear hb he
    (conv => whnf)
    refine FCalls.mono (all_c (y := y)) ?_
    rintro v m9 ⟨b1, q1, rfl, h2⟩
    replace h : Sep (Sep [pt b1 [.string y], pt q1 [.pointer (some ⟨q, 0, none⟩)], hunt q fold (lwsOf fold (ts ++ [w]))] :: [pt bo [.slice none 0 0], pt b4 [.slice A ts.length c], kp m, hunt p fold (lwsOf fold ts)]) m9 := Sep.group (L := [pt b1 [.string y], pt q1 [.pointer (some ⟨q, 0, none⟩)], hunt q fold (lwsOf fold (ts ++ [w]))]) ((h.on (N := [_, _]) h2).move 3 rfl |>.move 2 rfl |>.move 2 rfl)
    clear h2
    generalize hal : allsC (lwsOf fold (ts ++ [w])) (str fold y) = al at *
    have hiter := all_iterH (p := q) (fold := fold) (lws := lwsOf fold (ts ++ [w])) (b := b1) (q := q1) (y := y) (by omega) (by omega)
    rw [hal] at hiter
    (conv => whnf)
    refine range_iterS hiter (fun _ _ _ _ => trivial) h (fun i vs L ⟨a, k, _, hv, _⟩ => by rw [hv]; rfl)
      (fun j M => ∃ B cB, Sep [hunt p fold (lwsOf fold ts), sl B ((al.take j).filter (notK ts.length)).length cB 2 (((al.take j).filter (notK ts.length)).flatMap stc), pt bo [.slice B ((al.take j).filter (notK ts.length)).length cB], pt b4 [.slice A ts.length c], kp m] M) (fun M hM => ⟨none, 0, ?_⟩) (fun _ _ _ => trivial) ?_ ?_
    · have h1 : Sep [pt b1 [.string y], pt q1 [.pointer (some ⟨q, 0, none⟩)], hunt q fold (lwsOf fold (ts ++ [w])), pt bo [.slice none 0 0], pt b4 [.slice A ts.length c], kp m, hunt p fold (lwsOf fold ts)] M := Sep.split hM
      exact (Sep.free (((h1.drop 0).drop 0).drop 0) sl_nil).move 4 rfl
    · rintro j vs L m1 M hj ⟨a, k, hx, rfl, rfl⟩ ⟨B, cB, hM⟩ h4
      replace h := hM.more (h4.kept 0 rfl)
      clear h4 hM
      have hfl : ((al.take j).filter (notK ts.length)).length ≤ al.length := by
        have h5 := List.length_filter_le (notK ts.length) (al.take j)
        rw [List.length_take] at h5
        omega
      (conv => whnf)
      refine ⟨_, _, _, h.cell 3 (i := 0) rfl rfl, ?_⟩
      (conv => whnf)
      refine brk_intro (fun c5 => ?_) (fun c5 => ?_)
      · have c5 : ¬ (k : Int) = (ts.length : Nat) := by simpa using c5
        have e1 : (al.take (j + 1)).filter (notK ts.length) = (al.take j).filter (notK ts.length) ++ [(a, k)] := by
          rw [List.take_add_one, hx, List.filter_append]
          have : k ≠ ts.length := by omega
          simp [notK, this]
        (conv => whnf)
        refine ⟨_, _, _, h.cell 2 (i := 0) rfl rfl, ?_⟩
        (conv => whnf)
        intro nb m2 hb he
        replace h := h.new' (l := stc (a, k)) hb (he.trans rfl)
        have hBn : m2.holds ⟨nb, 0, none⟩ (stc (a, k)) := (h.blk 0 rfl).holds fun k v hk => by rw [Nat.zero_add]; exact hk
        clear hb he
        (conv => whnf)
        obtain ⟨ok, hR⟩ := h.app 2 (T := tbl) (e := 42) (news := stc (a, k)) (k := 1) (B := some ⟨nb, 0, none⟩) rfl rfl (.inr ⟨_, rfl, hBn⟩) rfl rfl (by show 2 * (_ + 1) * 16 ≤ 2 ^ 48; omega) rfl
        refine ⟨_, _, ok, fun A' c' m3 hr => ?_⟩
        replace h := (hR _ _ _ hr).drop 0
        clear ok hR hr hBn
        (conv => whnf)
        refine ⟨h.room 2 (i := 0) rfl rfl, fun m10 he => ?_⟩
        replace h := h.put' 2 he rfl
        (conv => whnf)
        refine ⟨A', c', ?_⟩
        rw [e1, List.length_append, List.length_singleton, List.flatMap_append, show [(a, k)].flatMap stc = stc (a, k) by simp]
        exact h
      · have c5 : (k : Int) = (ts.length : Nat) := by simpa using c5
        have e1 : (al.take (j + 1)).filter (notK ts.length) = (al.take j).filter (notK ts.length) := by
          rw [List.take_add_one, hx, List.filter_append]
          have : k = ts.length := by omega
          simp [notK, this]
        (conv => whnf)
        refine ⟨B, cB, ?_⟩
        rw [e1]
        exact h
    · rintro M ⟨B, cB, h⟩
      rw [List.take_length, hmf] at h
      (conv => whnf)
      have hc3 := h.cell 2 (i := 0) rfl rfl
      refine ⟨?ga, ?gb, trivial⟩
      case' gb =>
        (conv => whnf)
        refine ⟨_, _, _, hc3, ?_⟩
      all_goals
        (conv => whnf)
        refine FCalls.mono (h.call 0 rfl fun m1 h1 => all_h h1 (y := y) (by omega) (by omega)) ?_
        rintro v m3 ⟨m4, ⟨C, cC, rfl, h1⟩, hB⟩
        replace h := hB.sep h1
        clear h1 hB
        (conv => whnf)
      case' ga =>
        refine ⟨_, _, _, h.cell 3 (i := 0) rfl rfl, ?_⟩
        (conv => whnf)
      all_goals
        have hln2 := alls_len (y := str fold y) (hunt_w0 (hunt_at h 1 rfl))
        rw [str_len] at hln2
        refine FCalls.mono (same_c (h.rd 0 rfl) (h.rd 2 rfl) (by omega)) ?_
        rintro v m5 ⟨rfl, rfl⟩
        (conv => whnf)
        exact ⟨by simp; rfl, h.kept 5 rfl⟩
  all_goals
    by_cases hr3 : Right (ts ++ [w])
    · obtain ⟨q, rfl, h3⟩ := h1 hr3
      first
        | exact absurd hr3 hr2
        | ((conv => whnf)
           exact ⟨rfl, Mem.le_trans (h.kept 1 rfl) (h3.kept 1 rfl)⟩)
    · obtain ⟨rfl, h3⟩ := h2 hr3
      (conv => whnf)
      exact ⟨rfl, Mem.le_trans (h.kept 1 rfl) h3⟩
end Go.Proofs.Ytbcmhpannbdejaa
