/- Table: does. -/
import Derived.Test.YtoifiplefjclbaaTbV
namespace Go.Proofs.Ytoifiplefjclbaa
open Go Go.Mv
set_option maxHeartbeats 2000000
set_option maxRecDepth 10000
set_option linter.unusedVariables false
set_option linter.unusedSimpArgs false
attribute [local irreducible] FCalls IntKind.wrap bits Mem.set Mem.setCell Mem.setCells YCalls
theorem ints_app (l r : List Int) : ints (l ++ r) = ints l ++ ints r := by simp [ints]
theorem lent_c {m : Mem} {A : Option Addr} {ks : List Int} {c : Nat} (hA : Ints m A ks) (hl : ks.length < 2 ^ 40) : FCalls Try.prog 43 [.slice A ks.length c] m fun v m' => ∃ B d, v = .slice B ks.length d ∧ Sep [sl B (ks.length + 2) d 1 (ints (ks ++ [71, 72])), kp m] m' := by
  refine fcalls_of_vc (T := tbl) (B := bodies) (pr := [99999]) (DR := dr43) (args := [.v (.slice A ks.length c)]) tbl_ok bodies_ok mixed Try.func43 rfl (by decide +kernel) (by simp [Try.f43]) rfl ?_
  (conv => whnf)
  obtain ⟨ok, hR1⟩ := (Sep.free (A := sl none 0 0 1 []) (Sep.init m) sl_nil).app 0 (T := tbl) (e := 3) (news := ints ks) (k := ks.length) (B := A) rfl (by rw [show (tbl.at 3).size = 1 from rfl]; simp [ints]) (by
    rcases hA.hold with h1 | ⟨p, h1, h2⟩
    · exact .inl h1
    · exact .inr ⟨p, h1, h2⟩) (ints_one _) rfl (by show 2 * (0 + ks.length) * 8 ≤ 2 ^ 48; omega) rfl
  refine ⟨_, _, ok, fun A3 c3 m3 hr3 => ?_⟩
  have g := hR1 _ _ _ hr3
  replace g : Sep [sl A3 (0 + ks.length) c3 1 ([] ++ ints ks), kp m] m3 := g
  rw [Nat.zero_add, List.nil_append] at g
  rw [Nat.zero_add]
  clear ok hR1
  (conv => whnf)
  intro nb m4 hb he
  have g' := g.new' (l := ints [71, 72]) hb (he.trans rfl)
  have hBn : m4.holds ⟨nb, 0, none⟩ (ints [71, 72]) := (g'.blk 0 rfl).holds fun k v hk => by rw [Nat.zero_add]; exact hk
  clear hb he g
  (conv => whnf)
  obtain ⟨ok, hR1⟩ := g'.app 1 (T := tbl) (e := 3) (news := ints [71, 72]) (k := 2) (B := some ⟨nb, 0, none⟩) rfl rfl (.inr ⟨_, rfl, hBn⟩) rfl rfl (by show 2 * (ks.length + 2) * 8 ≤ 2 ^ 48; omega) rfl
  refine ⟨_, _, ok, fun A4 c4 m5 hr4 => ?_⟩
  have g := (hR1 _ _ _ hr4).drop 0
  replace g : Sep [sl A4 (ks.length + 2) c4 1 (ints ks ++ ints [71, 72]), kp m] m5 := g
  rw [← ints_app] at g
  have hcap := (g.asn 0 rfl).2.1
  (conv => whnf)
  refine ⟨by omega, by omega, by omega, ?_⟩
  (conv => whnf)
  rw [show ((ks.length : Nat) : Int).toNat - Int.toNat 0 = ks.length from rfl, add_none (n := Int.toNat 0 * (tbl.at 3).size) (k := Int.toNat 0) rfl]
  exact ⟨A4, c4, rfl, g⟩
theorem ints_pre {m : Mem} {A : Option Addr} {n c : Nat} {xs ys : List Int} (h : sl A n c 1 (ints (xs ++ ys)) m) : Ints m A xs := by
  rcases ints_of_sl h with h1 | ⟨b, i, h1, h2⟩
  · exact .inl (by cases xs <;> simp_all)
  · exact .inr ⟨b, i, h1, fun k x hx => h2 k x (by rw [List.getElem?_append_left (List.getElem?_eq_some_iff.1 hx).1]; exact hx)⟩
theorem back_c {m : Mem} {A B : Option Addr} {ks : List Int} {c d : Nat} {R : List Asn} (h : Sep (sl B (ks.length + 2) d 1 (ints (ks ++ [71, 72])) :: R) m) (hA : Ints m A ks) (hl : ks.length < 2 ^ 40) :
    FCalls Try.prog 47 [.slice B ks.length d, .slice A ks.length c] m fun v m' => v = .bool true ∧ Sep R m' := by
  have hcap := (h.asn 0 rfl).2.1
  have hrd := h.rd 0 rfl
  refine fcalls_of_vc (T := tbl) (B := bodies) (pr := [99999]) (DR := dr47) (args := [.v (.slice B ks.length d), .v (.slice A ks.length c)]) tbl_ok bodies_ok mixed Try.func47 rfl (by decide +kernel) (by simp [Try.f47]) rfl ?_
  (conv => whnf)
  refine FCalls.mono (same_c (ints_pre (h.asn 0 rfl)) hA (by omega)) ?_
  rintro v m1 ⟨rfl, rfl⟩
  rw [decide_eq_true (rfl : ks = ks)]
  have e1 : IntKind.i64.wrap (((ks.length : Nat) : Int) + 2) = ((ks.length + 2 : Nat) : Int) := by rw [wrap_id (by omega) (by omega)]; omega
  have e2 : IntKind.i64.wrap (((ks.length : Nat) : Int) + 1) = ((ks.length + 1 : Nat) : Int) := by rw [wrap_id (by omega) (by omega)]; omega
  (conv => whnf)
  rw [e1]
  refine ⟨by omega, by omega, by omega, ?_⟩
  (conv => whnf)
  rw [show ((ks.length + 2 : Nat) : Int).toNat - Int.toNat 0 = ks.length + 2 from rfl, add_none (n := Int.toNat 0 * (tbl.at 3).size) (k := Int.toNat 0) rfl]
  obtain ⟨q, hq, hc1⟩ := hrd.at (k := ks.length) (v := .int .i64 71) (by simp [ints])
  obtain ⟨q2, hq2, hc2⟩ := hrd.at (k := ks.length + 1) (v := .int .i64 72) (by simp [ints])
  rw [hq] at hq2
  cases hq2
  refine ⟨q, hq, by omega, by omega, ?_⟩
  (conv => whnf)
  refine ⟨_, by show m1.cell (q.add (ks.length * 1)) = _; rw [Nat.mul_one]; exact hc1, ?_⟩
  (conv => whnf)
  rw [e2]
  refine ⟨q, hq, by omega, by omega, ?_⟩
  (conv => whnf)
  refine ⟨_, by show m1.cell (q.add ((ks.length + 1) * 1)) = _; rw [Nat.mul_one]; exact hc2, ?_⟩
  (conv => whnf)
  refine loop_keep [6, 7] (Nat × List Value × Mem) (fun s => [(8, .v (.int .i64 ((s.1 : Nat) : Int)))]) (fun _ => []) (fun s => s.2.2) (fun s => s.2.1.length = ks.length + 2 ∧ Sep (sl B (ks.length + 2) d 1 s.2.1 :: R) s.2.2) (fun s => ks.length + 2 - s.1) (0, ints (ks ++ [71, 72]), m1) ⟨rfl, trivial⟩ rfl rfl ⟨by simp [ints], h⟩ ?_
  clear h hrd hc1 hc2
  (conv => whnf)
  refine ⟨rfl, ?_⟩
  rintro ⟨i, vs, M⟩ ⟨hv, h⟩
  simp only at hv h
  (conv => whnf)
  refine brk_intro (fun d1 => ?_) (fun d1 => ?_)
  · have d1 : i < ks.length + 2 := by have : ((i : Nat) : Int) < ((ks.length + 2 : Nat) : Int) := of_decide_eq_true d1; omega
    obtain ⟨q3, hq3, hroom, hS⟩ := h.st 0 (k := i) (.int .i64 5) rfl (by omega)
    (conv => whnf)
    refine ⟨q3, hq3, by omega, by omega, ?_⟩
    (conv => whnf)
    have hroom' : (∃ u, M.cell (q3.add (i * 1)) = some u) ∧ M.fz (q3.add (i * 1)) = false := by rw [Nat.mul_one]; exact hroom
    refine ⟨hroom', fun m6 he => ?_⟩
    replace he : m6 = M.setCell (q3.add (i * 1)) (.int .i64 5) := he
    rw [Nat.mul_one] at he
    rw [← he] at hS
    replace hS : Sep (sl B (ks.length + 2) d 1 (vs.set i (.int .i64 5)) :: R) m6 := hS
    clear he hroom hroom'
    (conv => whnf)
    have e3 : IntKind.i64.wrap (((i : Nat) : Int) + 1) = ((i + 1 : Nat) : Int) := by rw [wrap_id (by omega) (by omega)]; omega
    rw [e3]
    exact ⟨(i + 1, _, m6), le_eq ⟨rfl, rfl, rfl, trivial⟩ rfl rfl rfl, ⟨by rw [List.length_set]; exact hv, hS⟩, by simp only; omega⟩
  · (conv => whnf)
    exact ⟨rfl, h.drop 0⟩
end Go.Proofs.Ytoifiplefjclbaa
