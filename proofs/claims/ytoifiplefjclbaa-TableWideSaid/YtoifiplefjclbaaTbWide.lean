/- TableWide. -/
import Derived.Test.YtoifiplefjclbaaTbJ
namespace Go.Proofs.Ytoifiplefjclbaa
open Go Go.Mv
set_option maxHeartbeats 2000000
set_option maxRecDepth 10000
set_option linter.unusedVariables false
set_option linter.unusedSimpArgs false
attribute [local irreducible] FCalls IntKind.wrap bits Mem.set Mem.setCell Mem.setCells
theorem wide_c {m : Mem} {w val : Int} {A : Option Addr} {ks : List Int} {c : Nat} (h0 : -9223372036854775808 ≤ w) (h1 : w ≤ 9223372036854775807) (hA : Ints m A ks) :
    FCalls Try.prog 3 [.int .i64 w, .slice A ks.length c, .int .i64 val] m fun v m' => v = .bool true ∧ Keep [] m m' := by
  refine fcalls_of_vc (T := tbl) (B := bodies) (pr := []) (DR := dr3) (args := [.v (.int .i64 w), .v (.slice A ks.length c), .v (.int .i64 val)]) tbl_ok bodies_ok mixed Try.func3 rfl (by decide +kernel) (by simp [Try.f3]) rfl ?_
  (conv => whnf)
  refine FCalls.mono known_c ?_
  rintro v m1 ⟨rfl, hk1⟩
  (conv => whnf)
  refine FCalls.mono (pick_c h0 h1 (by omega)) ?_
  rintro v m2 ⟨⟨r, rfl, hr0, hr1⟩, rfl⟩
  obtain ⟨n, rfl⟩ := Int.eq_ofNat_of_zero_le hr0
  (conv => whnf)
  refine FCalls.mono (new_m hr0 (by omega) (by omega) (by omega)) ?_
  rintro v m3 ⟨p, rfl, hT3⟩
  (conv => whnf)
  refine ⟨by omega, by omega, by omega, ?_, ?_⟩
  · have : ((tbl.at 3).bytes : Int) = 8 := rfl
    rw [this]
    omega
  intro b hb
  obtain ⟨hT4, hf4⟩ := hT3.build (o := .cells (intCells .i64 (List.replicate n 0)).toArray 3 (0, 0)) hb
  have hA1 : Ints m2 A ks := hA.keep hk1 (by simp)
  have hA4 : Ints (m2.set b (.cells (intCells .i64 (List.replicate n 0)).toArray 3 (0, 0))) A ks := hA1.keep (bad := []) (Keep.set hf4) (by simp)
  have hO4 : Ints (m2.set b (.cells (intCells .i64 (List.replicate n 0)).toArray 3 (0, 0))) (some ⟨b, 0, none⟩) (List.replicate n 0) := Ints.built
  have hkm : Keep [] m (m2.set b (.cells (intCells .i64 (List.replicate n 0)).toArray 3 (0, 0))) := hk1.trans (Keep.set hf4)
  generalize (m2.set b (.cells (intCells .i64 (List.replicate n 0)).toArray 3 (0, 0))) = m0 at *
  have hl : (List.replicate n (0 : Int)).length = n := by simp
  (conv => whnf)
  have hc := put_m (c := n) val hT4 hO4
  rw [hl] at hc
  refine FCalls.mono hc ?_
  rintro v m5 ⟨code, a5, rfl, hT5, e1, e2, e3⟩
  simp [hl] at e1 e2 e3
  obtain ⟨rfl, e3, e4, _⟩ := e3
  (conv => whnf)
  refine brk_intro (fun h => ?_) (fun h => ?_)
  · have hne : ¬ (ks.length : Int) = n := by simpa using h
    have hno : a5.f ks = none := by
      rw [e3]
      unfold updF
      rw [if_neg]
      rintro rfl
      simp at hne
    have hown : a5.f (List.replicate n 0) = some val := by rw [e3]; simp [updF]
    (conv => whnf)
    refine FCalls.mono (put_m 7 hT5 hA4) ?_
    rintro v m6 ⟨code, a6, rfl, hT6, u1, u2, u3⟩
    rw [e1, if_pos hne] at u3
    obtain ⟨rfl, rfl⟩ := u3
    have hg1 := get_m (c := c) hT6 hA4
    rw [hno] at hg1
    (conv => whnf)
    refine FCalls.mono hg1 ?_
    rintro v m7 ⟨rfl, rfl⟩
    have hd1 := drop_m (c := c) hT6 hA4
    rw [hno] at hd1
    (conv => whnf)
    refine FCalls.mono hd1 ?_
    rintro v m8 ⟨rfl, hT8, _⟩
    have hg2 := get_m (c := n) hT8 hO4
    have hown' : updF a6.f ks none (List.replicate n 0) = some val := by
      unfold updF
      rw [if_neg]
      · exact hown
      · rintro rfl
        simp at hne
    dsimp only at hg2
    rw [hown', hl] at hg2
    (conv => whnf)
    refine FCalls.mono hg2 ?_
    rintro v m9 ⟨rfl, rfl⟩
    have hl2 := len_m hT8
    dsimp only at hl2
    rw [e4] at hl2
    (conv => whnf)
    refine FCalls.mono hl2 ?_
    rintro v m10 ⟨rfl, rfl⟩
    (conv => whnf)
    refine brk_true (by simp) ?_
    (conv => whnf)
    refine ⟨?_, hkm.trans hT8.keep⟩
    simp [single]
  · have heq : (ks.length : Int) = n := by simpa using h
    have hs := same_c (c := c) (d := n) (hA4.keep hT5.keep (by simp)) (hO4.keep hT5.keep (by simp)) (by simp; omega)
    rw [hl] at hs
    (conv => whnf)
    refine FCalls.mono hs ?_
    rintro v m6 ⟨rfl, rfl⟩
    (conv => whnf)
    refine FCalls.mono (put_m 7 hT5 hA4) ?_
    rintro v m7 ⟨code, a7, rfl, hT7, u1, u2, u3⟩
    rw [e1, if_neg (by simpa using heq)] at u3
    have hg1 := get_m (c := c) hT7 hA4
    by_cases hks : ks = List.replicate n 0
    · have hown : a5.f ks = some val := by rw [e3, hks]; simp [updF]
      rw [hown] at u3
      simp at u3
      obtain ⟨rfl, u3, u4, u5⟩ := u3
      have hf7 : a7.f ks = some 7 := by rw [u3]; simp [updF]
      rw [hf7] at hg1
      (conv => whnf)
      refine FCalls.mono hg1 ?_
      rintro v m8 ⟨rfl, rfl⟩
      have hg2 := get_m (c := n) hT7 hO4
      rw [← hks, hf7, hks, hl] at hg2
      (conv => whnf)
      refine FCalls.mono hg2 ?_
      rintro v m9 ⟨rfl, rfl⟩
      (conv => whnf)
      refine brk_true (by simp [hks]) ?_
      have hl2 := len_m hT7
      rw [u4, e4] at hl2
      (conv => whnf)
      refine FCalls.mono hl2 ?_
      rintro v m10 ⟨rfl, rfl⟩
      (conv => whnf)
      refine ⟨?_, hkm.trans hT7.keep⟩
      simp [single]
    · have hno : a5.f ks = none := by
        rw [e3]
        unfold updF
        rw [if_neg hks]
      rw [hno, e4, e2] at u3
      simp at u3
      obtain ⟨rfl, u3, u4, u5⟩ := u3
      have hf7 : a7.f ks = some 7 := by rw [u3]; simp [updF]
      have hf7' : a7.f (List.replicate n 0) = some val := by
        rw [u3, e3]
        unfold updF
        rw [if_neg (Ne.symm hks), if_pos rfl]
      rw [hf7] at hg1
      (conv => whnf)
      refine FCalls.mono hg1 ?_
      rintro v m8 ⟨rfl, rfl⟩
      have hg2 := get_m (c := n) hT7 hO4
      rw [hf7', hl] at hg2
      (conv => whnf)
      refine FCalls.mono hg2 ?_
      rintro v m9 ⟨rfl, rfl⟩
      (conv => whnf)
      refine brk_false (by simp [hks]) ?_
      (conv => whnf)
      refine brk_true (by simp) ?_
      have hl2 := len_m hT7
      rw [u4] at hl2
      (conv => whnf)
      refine FCalls.mono hl2 ?_
      rintro v m10 ⟨rfl, rfl⟩
      (conv => whnf)
      refine ⟨?_, hkm.trans hT7.keep⟩
      simp [single]
end Go.Proofs.Ytoifiplefjclbaa
