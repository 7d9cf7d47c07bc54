/- Hunt: what the statements' helpers do. -/
import Derived.Test.YtbcmhpannbdejaaHuQ
namespace Go.Proofs.Ytbcmhpannbdejaa
open Go Go.Mv Go.Mv.Hunt
set_option maxHeartbeats 1000000
set_option maxRecDepth 10000
set_option linter.unusedVariables false
set_option linter.unusedSimpArgs false
attribute [local irreducible] FCalls IntKind.wrap bits Mem.set Mem.setCell Mem.setCells YCalls
section
variable {p : Nat} {fold : Bool} {lws : List Str} {m : Mem}
theorem alls_len {y : Str} (h0 : [] ∉ lws) : (allsC lws y).length ≤ y.length * lws.length := by
  have hA := allsC_is h0 y
  refine told_len h0 (i := y.length) (u := y.length) ⟨hA.1.imp fun {a b} hab => ?_, fun a k => ?_⟩
  · rintro rfl
    unfold before at hab
    omega
  · rw [hA.2, std_stn h0]
    exact ⟨fun ⟨t, h1, h2, h3⟩ => ⟨t, h1, h2, .inl h3⟩, fun ⟨t, h1, h2, h3⟩ => ⟨t, h1, h2, by
      have := h2.length_le
      rw [List.length_drop] at this
      have h4 : t ≠ [] := by rintro rfl; exact h0 (List.mem_of_getElem? h1)
      have := List.length_pos_iff.2 h4
      omega⟩⟩
theorem all_h (h : hunt p fold lws m) {y : ByteArray} (hy : y.size * lws.length < 2 ^ 42) (hy2 : y.size < 2 ^ 62) :
    FCalls Try.prog 15 [.pointer (some ⟨p, 0, none⟩), .string y] m fun v m' => ∃ A c, v = .slice A (allsC lws (str fold y)).length c ∧
      Sep [sl A (allsC lws (str fold y)).length c 2 ((allsC lws (str fold y)).flatMap stc), hunt p fold lws] m' := by
  have hlen := alls_len (y := str fold y) (hunt_w0 h)
  rw [str_len] at hlen
  have h := sep1 h
  refine fcalls_of_vc (T := tbl) (B := bodies) (pr := [99999]) (DR := dr15) (args := [.v (.pointer (some ⟨p, 0, none⟩)), .v (.string y)]) tbl_ok bodies_ok mixed Try.func15 rfl (by decide +kernel) (by simp [Try.f15]) rfl ?_
  (conv => whnf)
  intro bo m2 hb he
  replace h := h.new' (l := [.slice none 0 0]) hb (he.trans rfl)
  clear hb he
  (conv => whnf)
  refine FCalls.mono (all_c (y := y)) ?_
  rintro v m9 ⟨b1, q1, rfl, h2⟩
  replace h : Sep (Sep [pt b1 [.string y], pt q1 [.pointer (some ⟨p, 0, none⟩)], hunt p fold lws] :: [pt bo [.slice none 0 0]]) m9 := Sep.group (L := [pt b1 [.string y], pt q1 [.pointer (some ⟨p, 0, none⟩)], hunt p fold lws]) ((h.on (N := [_, _]) h2).move 3 rfl |>.move 2 rfl |>.move 2 rfl)
  clear h2
  (conv => whnf)
  refine range_iterS (all_iterH hy hy2) (fun _ _ _ _ => trivial) h (fun i vs L ⟨a, k, _, hv, _⟩ => by rw [hv]; rfl)
    (fun j M => ∃ A c, Sep [hunt p fold lws, sl A j c 2 (((allsC lws (str fold y)).take j).flatMap stc), pt bo [.slice A j c]] M) (fun M hM => ⟨none, 0, ?_⟩) (fun _ _ _ => trivial) ?_ ?_
  · have h1 : Sep [pt b1 [.string y], pt q1 [.pointer (some ⟨p, 0, none⟩)], hunt p fold lws, pt bo [.slice none 0 0]] M := Sep.split hM
    exact (Sep.free ((h1.drop 0).drop 0) sl_nil).move 1 rfl
  · rintro j vs L m1 M hj ⟨a, k, hx, rfl, rfl⟩ ⟨A, c, hM⟩ h4
    replace h := hM.more (h4.kept 0 rfl)
    clear h4 hM
    (conv => whnf)
    refine ⟨_, _, _, h.cell 2 (i := 0) rfl rfl, ?_⟩
    (conv => whnf)
    intro nb m2 hb he
    replace h := h.new' (l := stc (a, k)) hb (he.trans rfl)
    have hBn : m2.holds ⟨nb, 0, none⟩ (stc (a, k)) := (h.blk 0 rfl).holds fun k v hk => by rw [Nat.zero_add]; exact hk
    clear hb he
    (conv => whnf)
    obtain ⟨ok, hR⟩ := h.app 2 (T := tbl) (e := 42) (news := stc (a, k)) (k := 1) (B := some ⟨nb, 0, none⟩) rfl rfl (.inr ⟨_, rfl, hBn⟩) rfl rfl (by show 2 * (_ + 1) * 16 ≤ 2 ^ 48; omega) rfl
    refine ⟨_, _, ok, fun A' c' m3 hr => ?_⟩
    replace h := (hR _ _ _ hr).drop 0
    clear ok hR hr hBn
    (conv => whnf)
    refine ⟨h.room 2 (i := 0) rfl rfl, fun m10 he => ?_⟩
    replace h := h.put' 2 he rfl
    (conv => whnf)
    refine ⟨A', c', ?_⟩
    have e1 : ((allsC lws (str fold y)).take (j + 1)).flatMap stc = ((allsC lws (str fold y)).take j).flatMap stc ++ stc (a, k) := by
      rw [List.take_add_one, hx]
      simp
    rw [e1]
    exact h
  · rintro M ⟨A, c, hM⟩
    rw [List.take_length] at hM
    (conv => whnf)
    refine ⟨_, _, _, hM.cell 2 (i := 0) rfl rfl, ?_⟩
    (conv => whnf)
    exact ⟨A, c, rfl, (hM.drop 2).move 1 rfl⟩
theorem same_c {A B : Option Addr} {l r : List (Nat × Nat)} {c c' : Nat} (hA : Rd m A (l.flatMap stc)) (hB : Rd m B (r.flatMap stc)) (hl : l.length < 2 ^ 62) :
    FCalls Try.prog 14 [.slice A l.length c, .slice B r.length c'] m fun v m' => v = .bool (decide (l = r)) ∧ m' = m := by
  refine fcalls_of_vc (T := tbl) (B := bodies) (pr := [99999]) (DR := dr14) (args := [.v (.slice A l.length c), .v (.slice B r.length c')]) tbl_ok bodies_ok mixed Try.func14 rfl (by decide +kernel) (by simp [Try.f14]) rfl ?_
  (conv => whnf)
  refine brk_intro (fun c1 => ?_) (fun c1 => ?_)
  · have c1 : ¬ ((l.length : Nat) : Int) = (r.length : Nat) := by simpa using c1
    (conv => whnf)
    refine ⟨?_, rfl⟩
    rw [decide_eq_false fun e => c1 (by rw [e])]
    rfl
  · have c1 : ((l.length : Nat) : Int) = (r.length : Nat) := by simpa using c1
    (conv => whnf)
    refine loop_keep [0, 1] Nat (fun s => [(5, .v (.int .i64 ((s : Nat) : Int)))]) (fun _ => []) (fun _ => m) (fun s => s ≤ l.length ∧ l.take s = r.take s) (fun s => l.length - s) 0 ⟨rfl, trivial⟩ rfl rfl (by simp) ?_
    (conv => whnf)
    refine ⟨rfl, ?_⟩
    rintro i ⟨h1, h2⟩
    (conv => whnf)
    refine brk_intro (fun c2 => ?_) (fun c2 => ?_)
    · have c2 : (i : Int) < (l.length : Nat) := by simpa using c2
      have step1 : IntKind.i64.wrap ((i : Int) + 1) = ((i + 1 : Nat) : Int) := wrap_id (by omega) (by omega)
      obtain ⟨x, hx⟩ : ∃ x, l[i]? = some x := ⟨_, List.getElem?_eq_getElem (by omega)⟩
      obtain ⟨z, hz⟩ : ∃ z, r[i]? = some z := ⟨_, List.getElem?_eq_getElem (by omega)⟩
      obtain ⟨q1, hq1, hc1⟩ := hA.atf (k := i * 2) (off := 0) ((flat_get stc_len hx (o := 0) (by decide)).trans rfl)
      obtain ⟨q1', hq1', hc1'⟩ := hA.atf (k := i * 2) (off := 1) ((flat_get stc_len hx (o := 1) (by decide)).trans rfl)
      obtain ⟨q2, hq2, hc2⟩ := hB.atf (k := i * 2) (off := 0) ((flat_get stc_len hz (o := 0) (by decide)).trans rfl)
      obtain ⟨q2', hq2', hc2'⟩ := hB.atf (k := i * 2) (off := 1) ((flat_get stc_len hz (o := 1) (by decide)).trans rfl)
      rw [hq1] at hq1'
      cases hq1'
      rw [hq2] at hq2'
      cases hq2'
      (conv => whnf)
      refine ⟨_, hq1, by omega, c2, ?_⟩
      (conv => whnf)
      refine ⟨_, hc1, ?_⟩
      (conv => whnf)
      refine ⟨_, hc1', ?_⟩
      (conv => whnf)
      refine ⟨_, hq2, by omega, by omega, ?_⟩
      (conv => whnf)
      refine ⟨_, hc2, ?_⟩
      (conv => whnf)
      refine ⟨_, hc2', ?_⟩
      (conv => whnf)
      generalize hb : (!((((x.1 : Nat) : Int) == ((z.1 : Nat) : Int)) && ((((x.2 : Nat) : Int) == ((z.2 : Nat) : Int)) && true))) = bb
      have hxz : bb = false ↔ x = z := by
        rw [← hb]
        simp only [Bool.and_true, Bool.not_eq_false', Bool.and_eq_true, beq_iff_eq]
        constructor
        · rintro ⟨e1, e2⟩
          exact Prod.ext (by omega) (by omega)
        · rintro rfl
          exact ⟨rfl, rfl⟩
      cases bb with
      | true =>
        (conv => whnf)
        refine ⟨?_, rfl⟩
        rw [decide_eq_false]
        · rfl
        · rintro rfl
          rw [hx] at hz
          cases hz
          exact absurd (hxz.2 rfl) (by simp)
      | false =>
        have e := hxz.1 rfl
        subst e
        (conv => whnf)
        refine ⟨i + 1, le_eq ⟨by show some (AV.v (.int .i64 (IntKind.i64.wrap ((i : Int) + 1)))) = _; rw [step1], rfl, rfl, trivial⟩ rfl rfl rfl, ⟨by omega, ?_⟩, by omega⟩
        rw [List.take_add_one, List.take_add_one, hx, hz, h2]
    · have c2 : ¬ (i : Int) < (l.length : Nat) := by simpa using c2
      have : i = l.length := by omega
      subst this
      rw [List.take_length, List.take_of_length_le (by omega)] at h2
      (conv => whnf)
      refine ⟨?_, rfl⟩
      rw [decide_eq_true h2]
      rfl
end
end Go.Proofs.Ytbcmhpannbdejaa
