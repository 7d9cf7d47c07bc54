/- HuntEvery. -/
import Derived.Test.YtbcmhpannbdejaaHuR
namespace Go.Proofs.Ytbcmhpannbdejaa
open Go Go.Mv Go.Mv.Hunt
set_option maxHeartbeats 2000000
set_option maxRecDepth 10000
set_option linter.unusedVariables false
set_option linter.unusedSimpArgs false
attribute [local irreducible] FCalls IntKind.wrap bits Mem.set Mem.setCell Mem.setCells YCalls
def wantP (fr : Int) (p : Nat × Nat) : Bool := decide (fr ≤ (p.1 : Int)) && decide (0 ≤ fr)
theorem want_next {lws : List Str} (h0 : [] ∉ lws) {y : Str} {fr : Int} (h1 : -1 ≤ fr) (h2 : fr ≤ (y.length : Nat) + 1) : (allsC lws y).find? (wantP fr) = nextC lws y fr := by
  unfold nextC
  by_cases h3 : 0 ≤ fr
  · have e : wantP fr = fun p => decide (fr ≤ (p.1 : Int)) := by
      funext p
      simp [wantP, h3]
    rw [e]
    by_cases h4 : fr ≤ (y.length : Nat)
    · rw [if_pos ⟨h3, h4⟩]
    · rw [if_neg (by omega), List.find?_eq_none]
      intro z hz hP
      have hP : fr ≤ (z.1 : Int) := by simpa using hP
      obtain ⟨t, e1, e2, e3⟩ := (std_stn h0).1 (((allsC_is h0 y).2 z.1 z.2).1 hz)
      omega
  · rw [if_neg (by omega), List.find?_eq_none]
    intro z hz hP
    simp [wantP, h3] at hP
theorem find_take {α : Type} {l : List α} {P : α → Bool} {i : Nat} {x : α} (h : (l.take i).find? P = none) (hx : l[i]? = some x) (hP : P x = true) : l.find? P = some x := by
  have e : l = l.take i ++ x :: l.drop (i + 1) := by
    obtain ⟨h1, h2⟩ := List.getElem?_eq_some_iff.1 hx
    rw [← h2, ← List.drop_eq_getElem_cons h1, List.take_append_drop]
  rw [e, List.find?_append, h, List.find?_cons, hP]
  rfl
theorem find_none {α : Type} {l : List α} {P : α → Bool} {i : Nat} {x : α} (h : (l.take i).find? P = none) (hx : l[i]? = some x) (hP : P x = false) : (l.take (i + 1)).find? P = none := by
  rw [List.take_add_one, hx, List.find?_append, h]
  simp [hP]
theorem huntEvery_c {m : Mem} {A : Option Addr} {ts : List ByteArray} {c : Nat} {fold : Bool} {y : ByteArray} (hA : Rd m A (svs ts)) (hl : ts.length < 2 ^ 63) :
    FCalls Try.prog 6 [.slice A ts.length c, .bool fold, .string y] m fun v m' => v = .bool true ∧ m.le m' := by
  refine fcalls_of_vc (T := tbl) (B := bodies) (pr := [99999]) (DR := dr6) (args := [.v (.slice A ts.length c), .v (.bool fold), .v (.string y)]) tbl_ok bodies_ok mixed Try.func6 rfl (by decide +kernel) (by simp [Try.f6]) rfl ?_
  (conv => whnf)
  refine FCalls.mono known_c ?_
  rintro v m1 ⟨rfl, hle1⟩
  (conv => whnf)
  refine FCalls.mono (new_h (fold := fold) (hA.more hle1) hl) ?_
  rintro v m2 ⟨h1, h2⟩
  by_cases hr : Right ts
  · obtain ⟨p, rfl, h⟩ := h1 hr
    clear h1 h2
    have hlw : (lwsOf fold ts).length ≤ 100 := by rw [lws_len]; exact hr.2.1
    (conv => whnf)
    refine ⟨Int.le_refl _, by split <;> omega, by split <;> omega, ?_⟩
    have hzs : (y.extract (Int.toNat 0) (Int.toNat (if (80 : Int) < ((y.size : Nat) : Int) then 80 else ((y.size : Nat) : Int)))).size ≤ 80 := by
      rw [ByteArray.size_extract]
      split <;> omega
    generalize y.extract (Int.toNat 0) (Int.toNat (if (80 : Int) < ((y.size : Nat) : Int) then 80 else ((y.size : Nat) : Int))) = z at *
    (conv => whnf)
    have hzl : z.size * (lwsOf fold ts).length ≤ 80 * 100 := Nat.mul_le_mul hzs hlw
    refine FCalls.mono (h.call 0 rfl fun m1 h1 => all_h h1 (y := z) (by omega) (by omega)) ?_
    rintro v m3 ⟨m4, ⟨B, cB, rfl, h1⟩, hB⟩
    replace h := (hB.sep h1).move 1 rfl
    clear h1 hB
    have h0 := hunt_w0 (hunt_at h 0 rfl)
    have hln := alls_len (y := str fold z) h0
    rw [str_len] at hln
    have hnx : ∀ fr : Int, -1 ≤ fr → fr ≤ (z.size : Nat) + 1 → (allsC (lwsOf fold ts) (str fold z)).find? (wantP fr) = nextC (lwsOf fold ts) (str fold z) fr := fun fr e1 e2 => want_next h0 e1 (by rw [str_len]; exact e2)
    (conv => whnf)
    refine loop_keep [2, 8, 10] (Int × Mem) (fun s => [(11, .v (.int .i64 s.1))]) (fun _ => []) (fun s => s.2)
      (fun s => -1 ≤ s.1 ∧ s.1 ≤ (z.size : Nat) + 2 ∧ Sep [hunt p fold (lwsOf fold ts), sl B (allsC (lwsOf fold ts) (str fold z)).length cB 2 ((allsC (lwsOf fold ts) (str fold z)).flatMap stc), kp m1] s.2) (fun s => ((z.size : Nat) + 2 - s.1).toNat)
      (-1, m3) ⟨rfl, trivial⟩ rfl rfl ⟨by simp, by simp only; omega, h⟩ ?_
    clear h
    generalize hal : allsC (lwsOf fold ts) (str fold z) = al at *
    (conv => whnf)
    refine ⟨rfl, ?_⟩
    rintro ⟨fr, M⟩ ⟨hJ1, hJ2, h⟩
    simp only at hJ1 hJ2 h
    (conv => whnf)
    rw [wrap_id (x := ((z.size : Nat) : Int) + 1) (by omega) (by omega)]
    refine brk_intro (fun c1 => ?_) (fun c1 => ?_)
    · have c1 : fr ≤ ((z.size : Nat) : Int) + 1 := by simpa using c1
      have hnx := hnx fr hJ1 c1
      (conv => whnf)
      intro nb m5 hb he
      replace h := h.new' (l := [.int .i64 0, .int .i64 0]) hb (he.trans rfl)
      clear hb he
      (conv => whnf)
      refine ⟨h.rooms 0 (i := 0) (n := 2) rfl (Nat.le_refl 2), fun m6 he => ?_⟩
      replace h : Sep [pt nb [.int .i64 0, .int .i64 0], hunt p fold (lwsOf fold ts), sl B al.length cB 2 (al.flatMap stc), kp m1] m6 := by
        rw [he]
        exact h.putAll 0 (i := 0) [.int .i64 0, .int .i64 0] rfl
      clear he
      (conv => whnf)
      refine loop_keep [2, 8, 10, 11, 12] (Nat × Bool × (Nat × Nat) × Mem) (fun s => [(14, .v (.int .i64 ((s.1 : Nat) : Int))), (13, .v (.bool s.2.1))]) (fun _ => []) (fun s => s.2.2.2)
        (fun s => s.1 ≤ al.length ∧ (s.2.1 = false → (al.take s.1).find? (wantP fr) = none ∧ s.2.2.1 = (0, 0)) ∧ (s.2.1 = true → al.find? (wantP fr) = some s.2.2.1) ∧ Sep [pt nb (stc s.2.2.1), hunt p fold (lwsOf fold ts), sl B al.length cB 2 (al.flatMap stc), kp m1] s.2.2.2) (fun s => al.length + 1 - s.1)
        (0, false, (0, 0), m6) ⟨rfl, rfl, trivial⟩ rfl rfl ⟨by simp, fun _ => ⟨by simp, rfl⟩, fun hh => (by cases hh), h⟩ ?_
      clear h
      (conv => whnf)
      refine ⟨rfl, ?_⟩
      rintro ⟨i, is, w, M2⟩ ⟨hK1, hK2, hK3, h⟩
      simp only at hK1 hK2 hK3 h
      (conv => whnf)
      by_cases c2 : (i : Int) < (al.length : Nat)
      case' pos =>
        refine brk_true (by simpa using c2) ?_
        cases is
        case' true =>
          have hfin : (match nextC (lwsOf fold ts) (str fold z) fr with | some x => true = true ∧ w = x | none => true = false ∧ w = (0, 0)) := by
            rw [← hnx, hK3 rfl]
            exact ⟨rfl, rfl⟩
          (conv => whnf)
        case' false =>
          obtain ⟨x, hx⟩ : ∃ x, al[i]? = some x := ⟨_, List.getElem?_eq_getElem (by omega)⟩
          obtain ⟨hK4, rfl⟩ := hK2 rfl
          have step1 : IntKind.i64.wrap ((i : Int) + 1) = ((i + 1 : Nat) : Int) := wrap_id (by omega) (by omega)
          obtain ⟨q1, hq, hc0⟩ := (h.rd 2 rfl).atf (k := i * 2) (off := 0) ((flat_get stc_len hx (o := 0) (by decide)).trans rfl)
          obtain ⟨q2, hq2, hc1⟩ := (h.rd 2 rfl).atf (k := i * 2) (off := 1) ((flat_get stc_len hx (o := 1) (by decide)).trans rfl)
          rw [hq] at hq2
          cases hq2
          (conv => whnf)
          refine ⟨_, hq, by omega, c2, ?_⟩
          (conv => whnf)
          refine ⟨_, hc0, ?_⟩
          (conv => whnf)
          refine brk_intro (fun c3 => ?_) (fun c3 => ?_)
          · have c3 : fr ≤ (x.1 : Int) := by simpa using c3
            (conv => whnf)
            refine brk_intro (fun c4 => ?_) (fun c4 => ?_)
            · have c4 : 0 ≤ fr := by simpa using c4
              (conv => whnf)
              refine ⟨_, hq, by omega, c2, ?_⟩
              (conv => whnf)
              refine ⟨_, hc0, ?_⟩
              (conv => whnf)
              refine ⟨_, hc1, ?_⟩
              (conv => whnf)
              refine ⟨h.rooms 0 (i := 0) (n := 2) rfl (Nat.le_refl 2), fun m7 he => ?_⟩
              replace h : Sep [pt nb (stc x), hunt p fold (lwsOf fold ts), sl B al.length cB 2 (al.flatMap stc), kp m1] m7 := by
                rw [he]
                exact h.putAll 0 (i := 0) (stc x) rfl
              (conv => whnf)
              exact ⟨(i + 1, true, x, m7), le_eq ⟨by show some (AV.v (.int .i64 (IntKind.i64.wrap ((i : Int) + 1)))) = _; rw [step1], rfl, rfl, rfl, rfl, rfl, rfl, trivial⟩ rfl rfl rfl, ⟨by simp only; omega, fun hh => (by cases hh), fun _ => find_take hK4 hx (by simp [wantP, c3, c4]), h⟩, by simp only; omega⟩
            · have c4 : ¬ 0 ≤ fr := by simpa using c4
              (conv => whnf)
              exact ⟨(i + 1, false, (0, 0), M2), le_eq ⟨by show some (AV.v (.int .i64 (IntKind.i64.wrap ((i : Int) + 1)))) = _; rw [step1], rfl, rfl, rfl, rfl, rfl, rfl, trivial⟩ rfl rfl rfl, ⟨by simp only; omega, fun _ => ⟨find_none hK4 hx (by simp [wantP, c4]), rfl⟩, fun hh => (by cases hh), h⟩, by simp only; omega⟩
          · have c3 : ¬ fr ≤ (x.1 : Int) := by simpa using c3
            (conv => whnf)
            exact ⟨(i + 1, false, (0, 0), M2), le_eq ⟨by show some (AV.v (.int .i64 (IntKind.i64.wrap ((i : Int) + 1)))) = _; rw [step1], rfl, rfl, rfl, rfl, rfl, rfl, trivial⟩ rfl rfl rfl, ⟨by simp only; omega, fun _ => ⟨find_none hK4 hx (by simp [wantP, c3]), rfl⟩, fun hh => (by cases hh), h⟩, by simp only; omega⟩
      case' neg =>
        refine brk_false (by simpa using c2) ?_
        have hfin : (match nextC (lwsOf fold ts) (str fold z) fr with | some x => is = true ∧ w = x | none => is = false ∧ w = (0, 0)) := by
          rw [← hnx]
          cases is with
          | true =>
            rw [hK3 rfl]
            exact ⟨rfl, rfl⟩
          | false =>
            obtain ⟨hK4, hw⟩ := hK2 rfl
            rw [List.take_of_length_le (by omega)] at hK4
            rw [hK4]
            exact ⟨rfl, hw⟩
        (conv => whnf)
      all_goals
        have step2 : IntKind.i64.wrap (fr + 1) = fr + 1 := wrap_id (by omega) (by omega)
        refine FCalls.mono (h.call 1 rfl fun m1 h1 => next_h h1 (y := z) (by omega) fr) ?_
        rintro v m7 ⟨m8, ⟨h1, rfl⟩, hB⟩
        have h9 := hB.one h1
        clear hB h1 h
        cases hc : nextC (lwsOf fold ts) (str fold z) fr
        case none =>
          rw [hc] at hfin
          obtain ⟨hi1, rfl⟩ := hfin
          first
            | (exfalso; exact Bool.noConfusion hi1)
            | (subst hi1
               (conv => whnf)
               refine ⟨_, h9.cell 1 (i := 0) rfl rfl, ?_⟩
               (conv => whnf)
               refine ⟨_, h9.cell 1 (i := 1) rfl rfl, ?_⟩
               (conv => whnf)
               exact ⟨(fr + 1, m7), le_eq ⟨by show some (AV.v (.int .i64 (IntKind.i64.wrap (fr + 1)))) = _; rw [step2], rfl, rfl, rfl, trivial⟩ rfl rfl rfl, ⟨by simp only; omega, by simp only; omega, (h9.drop 1)⟩, by simp only; omega⟩)
        case some x =>
          rw [hc] at hfin
          obtain ⟨hi1, rfl⟩ := hfin
          first | subst hi1 | skip
          (conv => whnf)
          refine ⟨_, h9.cell 1 (i := 0) rfl rfl, ?_⟩
          (conv => whnf)
          refine brk_intro (fun c8 => ?_) (fun c8 => ?_)
          · (conv => whnf)
            refine ⟨_, h9.cell 1 (i := 1) rfl rfl, ?_⟩
            (conv => whnf)
            refine brk_false (by simp) ?_
            (conv => whnf)
            exact ⟨(fr + 1, m7), le_eq ⟨by show some (AV.v (.int .i64 (IntKind.i64.wrap (fr + 1)))) = _; rw [step2], rfl, rfl, rfl, trivial⟩ rfl rfl rfl, ⟨by simp only; omega, by simp only; omega, (h9.drop 1)⟩, by simp only; omega⟩
          · exfalso
            simp at c8
    · (conv => whnf)
      exact ⟨rfl, Mem.le_trans hle1 (h.kept 2 rfl)⟩
  · obtain ⟨rfl, h3⟩ := h2 hr
    (conv => whnf)
    exact ⟨rfl, Mem.le_trans hle1 h3⟩
end Go.Proofs.Ytbcmhpannbdejaa
