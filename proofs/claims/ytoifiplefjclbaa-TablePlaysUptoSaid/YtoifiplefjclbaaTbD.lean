/- The table: New, Len, Slots, find, Get. -/
import Derived.Test.YtoifiplefjclbaaTbN
namespace Go.Proofs.Ytoifiplefjclbaa
open Go Go.Mv
set_option maxHeartbeats 1000000
set_option linter.unusedVariables false
set_option linter.unusedSimpArgs false
attribute [local irreducible] FCalls IntKind.wrap bits Mem.set Mem.setCell Mem.setCells
structure TabOk (t : Tab) : Prop where
  ok : t.sl = [] ∨ Good t.sl
  many : t.many = cnt t.sl
  half : 2 * cnt t.sl ≤ t.sl.length
  wid : ∀ s, s ∈ t.sl → s.used = true → (s.ks.length : Int) = t.w
  w0 : 0 ≤ t.w
  w1 : t.w ≤ 128
  most0 : 0 ≤ t.most
  most1 : t.most ≤ 1000000
  full : t.many ≤ t.most
theorem at_any {sl : List Slt} (hg : Good sl) (ks : List Int) : ∃ (r : Nat) (s : Slt), sl[r]? = some s ∧ atGo sl ks (hashOf ks) sl.length (hashOf ks % sl.length).toNat = some r ∧
    ((s.used = true ∧ s.ks = ks) ∨ (s.used = false ∧ (∀ u, u ∈ sl → u.used = true → u.ks ≠ ks) ∧ ∀ x, x < sl.length → dist sl.length (hashOf ks % sl.length).toNat x < dist sl.length (hashOf ks % sl.length).toNat r → Used sl x)) := by
  by_cases h : ∃ u, u ∈ sl ∧ u.used = true ∧ u.ks = ks
  · obtain ⟨u, hu, huu, rfl⟩ := h
    obtain ⟨j, hj⟩ := List.mem_iff_getElem?.1 hu
    exact ⟨j, u, hj, at_found hg hj huu, .inl ⟨huu, rfl⟩⟩
  · have hno : ∀ u, u ∈ sl → u.used = true → u.ks ≠ ks := fun u h1 h2 h3 => h ⟨u, h1, h2, h3⟩
    obtain ⟨r, s, h1, h2, h3, h4⟩ := at_free hg hno
    exact ⟨r, s, h1, h3, .inr ⟨h2, hno, h4⟩⟩
theorem len_c {m : Mem} {p : Nat} {t : Tab} (ht : TabAt m p t) : FCalls Try.prog 16 [.pointer (some ⟨p, 0, none⟩)] m fun v m' => v = .int .i64 t.many ∧ m' = m := by
  refine fcalls_of_vc (T := tbl) (B := bodies) (pr := []) (DR := dr16) (args := [.v (.pointer (some ⟨p, 0, none⟩))]) tbl_ok bodies_ok mixed Try.func16 rfl (by decide +kernel) (by simp [Try.f16]) rfl ?_
  (conv => whnf)
  refine ⟨_, ht.head.cell (i := 3) rfl, ?_⟩
  (conv => whnf)
  exact ⟨rfl, rfl⟩
theorem slots_c {m : Mem} {p : Nat} {t : Tab} (ht : TabAt m p t) : FCalls Try.prog 20 [.pointer (some ⟨p, 0, none⟩)] m fun v m' => v = .int .i64 t.sl.length ∧ m' = m := by
  refine fcalls_of_vc (T := tbl) (B := bodies) (pr := []) (DR := dr20) (args := [.v (.pointer (some ⟨p, 0, none⟩))]) tbl_ok bodies_ok mixed Try.func20 rfl (by decide +kernel) (by simp [Try.f20]) rfl ?_
  (conv => whnf)
  refine ⟨_, _, _, ht.head.cell (i := 2) rfl, ?_⟩
  (conv => whnf)
  exact ⟨rfl, rfl⟩
theorem find_c {m : Mem} {p : Nat} {t : Tab} {A : Option Addr} {ks : List Int} {c : Nat} (ht : TabAt m p t) (ho : TabOk t) (hA : Ints m A ks) :
    FCalls Try.prog 28 [.pointer (some ⟨p, 0, none⟩), .slice A ks.length c] m fun v m' => ∃ (i : Nat) (b : Bool), v = .tuple #[.int .i64 i, .bool b] ∧ m' = m ∧
      ((b = true ∧ ∃ s, t.sl[i]? = some s ∧ s.used = true ∧ s.ks = ks) ∨ (b = false ∧ ∀ v, ¬ Has t.sl ks v)) := by
  refine fcalls_of_vc (T := tbl) (B := bodies) (pr := []) (DR := dr28) (args := [.v (.pointer (some ⟨p, 0, none⟩)), .v (.slice A ks.length c)]) tbl_ok bodies_ok mixed Try.func28 rfl (by decide +kernel) (by simp [Try.f28]) rfl ?_
  (conv => whnf)
  refine ⟨_, ht.head.cell (i := 0) rfl, ?_⟩
  (conv => whnf)
  refine brk_intro (fun h => ?_) (fun h => ?_)
  · have hw : (ks.length : Int) = t.w := by simpa using h
    have hks : ks.length < 2 ^ 62 := by have := ho.w1; omega
    (conv => whnf)
    refine ⟨_, _, _, ht.head.cell (i := 2) rfl, ?_⟩
    (conv => whnf)
    refine brk_intro (fun h1 => ?_) (fun h1 => ?_)
    · have h1 : t.sl = [] := by
        have : (t.sl.length : Int) = 0 := by simpa [hw] using h1
        exact List.length_eq_zero_iff.1 (by omega)
      (conv => whnf)
      refine ⟨0, false, rfl, rfl, .inr ⟨rfl, ?_⟩⟩
      rintro v ⟨s, hs, _⟩
      rw [h1] at hs
      cases hs
    · have h1 : t.sl ≠ [] := by
        rintro h2
        simp [h2] at h1
      have hg := ho.ok.resolve_left h1
      obtain ⟨k, hk, hn⟩ := hg.pow
      obtain ⟨r, s, hr, hat, hor⟩ := at_any hg ks
      obtain ⟨hq, hpq⟩ := ht.places h1
      have hsA : t.sA = some ⟨t.q, 0, none⟩ := if_neg h1
      have hhead := ht.head
      rw [hsA] at hhead
      have hrl := lt_of hr
      (conv => whnf)
      refine FCalls.mono (hash_c hA hks) ?_
      rintro v m' ⟨rfl, rfl⟩
      (conv => whnf)
      refine FCalls.mono (at_c ht hA hks hn hk hat) ?_
      rintro v m' ⟨rfl, rfl⟩
      (conv => whnf)
      refine ⟨_, _, _, hhead.cell (i := 2) rfl, ?_⟩
      (conv => whnf)
      refine ⟨_, rfl, by omega, by omega, ?_⟩
      (conv => whnf)
      refine ⟨_, slot_cell hq (i := (r : Int).toNat) hr (f := 0) (by decide) rfl rfl, ?_⟩
      (conv => whnf)
      refine ⟨r, s.used, rfl, rfl, ?_⟩
      rcases hor with ⟨hu, hk⟩ | ⟨hu, hno, _⟩
      · exact .inl ⟨hu, s, hr, hu, hk⟩
      · refine .inr ⟨hu, ?_⟩
        rintro v ⟨u, h2, h3, h4, _⟩
        exact hno u h2 h3 h4
  · have hw : (ks.length : Int) ≠ t.w := by simpa using h
    (conv => whnf)
    refine ⟨0, false, rfl, rfl, .inr ⟨rfl, ?_⟩⟩
    rintro v ⟨s, hs, hu, rfl, _⟩
    exact hw (ho.wid s hs hu)
theorem get_c {m : Mem} {p : Nat} {t : Tab} {A : Option Addr} {ks : List Int} {c : Nat} (ht : TabAt m p t) (ho : TabOk t) (hA : Ints m A ks) :
    FCalls Try.prog 14 [.pointer (some ⟨p, 0, none⟩), .slice A ks.length c] m fun v m' => ∃ (x : Int) (b : Bool), v = .tuple #[.int .i64 x, .bool b] ∧ m' = m ∧
      ((b = true ∧ Has t.sl ks x) ∨ (b = false ∧ x = 0 ∧ ∀ v, ¬ Has t.sl ks v)) := by
  refine fcalls_of_vc (T := tbl) (B := bodies) (pr := []) (DR := dr14) (args := [.v (.pointer (some ⟨p, 0, none⟩)), .v (.slice A ks.length c)]) tbl_ok bodies_ok mixed Try.func14 rfl (by decide +kernel) (by simp [Try.f14]) rfl ?_
  (conv => whnf)
  refine FCalls.mono (find_c ht ho hA) ?_
  rintro v m' ⟨i, b, rfl, rfl, hor⟩
  (conv => whnf)
  refine brk_intro (fun h => ?_) (fun h => ?_)
  · have hb : b = false := by simpa using h
    rcases hor with ⟨hb', _⟩ | ⟨_, hno⟩
    · rw [hb] at hb'; cases hb'
    · (conv => whnf)
      exact ⟨0, false, rfl, rfl, .inr ⟨rfl, rfl, hno⟩⟩
  · have hb : b = true := by simpa using h
    rcases hor with ⟨_, s, hs, hu, hk⟩ | ⟨hb', _⟩
    · have hne : t.sl ≠ [] := by rintro h1; rw [h1] at hs; cases hs
      obtain ⟨hq, hpq⟩ := ht.places hne
      have hsA : t.sA = some ⟨t.q, 0, none⟩ := if_neg hne
      have hhead := ht.head
      rw [hsA] at hhead
      have hil := lt_of hs
      (conv => whnf)
      refine ⟨_, _, _, hhead.cell (i := 2) rfl, ?_⟩
      (conv => whnf)
      refine ⟨_, rfl, by omega, by omega, ?_⟩
      (conv => whnf)
      refine ⟨_, slot_cell hq (i := (i : Int).toNat) hs (f := 3) (by decide) rfl rfl, ?_⟩
      (conv => whnf)
      exact ⟨s.v, true, rfl, rfl, .inl ⟨rfl, s, List.mem_of_getElem? hs, hu, hk, rfl⟩⟩
    · rw [hb] at hb'; cases hb'
theorem new_c {m : Mem} {w most : Int} {g : Nat → Prop} (hg : ∀ b, g b → m b ≠ none) (hw : 0 ≤ w) (hw1 : w ≤ 128) (hm : 0 ≤ most) (hm1 : most ≤ 1000000) :
    FCalls Try.prog 12 [.int .i64 w, .int .i64 most] m fun v m' => ∃ p, v = .tuple #[.pointer (some ⟨p, 0, none⟩), .int .i64 0] ∧ m p = none ∧ TabAt m' p ⟨w, most, [], p, 0, g⟩ ∧ Keep [] m m' := by
  refine fcalls_of_vc (T := tbl) (B := bodies) (pr := []) (DR := dr12) (args := [.v (.int .i64 w), .v (.int .i64 most)]) tbl_ok bodies_ok mixed Try.func12 rfl (by decide +kernel) (by simp [Try.f12]) rfl ?_
  (conv => whnf)
  refine brk_true (by simp; omega) ?_
  (conv => whnf)
  refine brk_true (by simp; omega) ?_
  (conv => whnf)
  refine brk_true (by simp; omega) ?_
  (conv => whnf)
  refine brk_false (by simp; omega) ?_
  (conv => whnf)
  intro b hb
  (conv => whnf)
  refine ⟨b, rfl, hb, ⟨Blk.new, fun h => absurd rfl h, fun s hs => (by cases hs), by simp, fun x hx => ⟨dom_set (hg x hx), by rintro rfl; exact hg _ hx hb, fun h => absurd rfl h⟩⟩, Keep.set hb⟩
end Go.Proofs.Ytoifiplefjclbaa
