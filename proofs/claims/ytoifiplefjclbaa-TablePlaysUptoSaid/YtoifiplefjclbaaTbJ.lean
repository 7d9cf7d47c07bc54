/- known: the chapter's first example. -/
import Derived.Test.YtoifiplefjclbaaTbI
namespace Go.Proofs.Ytoifiplefjclbaa
open Go Go.Mv
set_option maxHeartbeats 1000000
set_option maxRecDepth 10000
set_option linter.unusedVariables false
set_option linter.unusedSimpArgs false
attribute [local irreducible] FCalls IntKind.wrap bits Mem.set Mem.setCell Mem.setCells
theorem known_c {m : Mem} : FCalls Try.prog 10 [] m fun v m' => v = .bool true ∧ Keep [] m m' := by
  refine fcalls_of_vc (T := tbl) (B := bodies) (pr := []) (DR := dr10) (args := []) tbl_ok bodies_ok mixed Try.func10 rfl (by decide +kernel) (by simp [Try.f10]) rfl ?_
  (conv => whnf)
  refine FCalls.mono (new_m (by omega) (by omega) (by omega) (by omega)) ?_
  rintro v m1 ⟨p, rfl, hT⟩
  (conv => whnf)
  intro b1 hb1
  (conv => whnf)
  obtain ⟨hT1, hf1⟩ := hT.build (o := .cells (intCells .i64 [1, 2]).toArray 3 (0, 0)) hb1
  refine FCalls.mono (put_m (ks := [1, 2]) 7 hT1 Ints.built) ?_
  rintro v m2 ⟨code, a2, rfl, hT2, e1, e2, e3⟩
  simp at e1 e2 e3
  obtain ⟨rfl, e3, e4, e5⟩ := e3
  (conv => whnf)
  intro b2 hb2
  (conv => whnf)
  obtain ⟨hT2', hf2⟩ := hT2.build (o := .cells (intCells .i64 [1, 2]).toArray 3 (0, 0)) hb2
  refine FCalls.mono (put_m (ks := [1, 2]) 8 hT2' Ints.built) ?_
  rintro v m3 ⟨code2, a3, rfl, hT3, u2, v2, x2⟩
  simp [e1, e2, e3, e4, updF] at u2 v2 x2
  obtain ⟨rfl, g3, g4, g5⟩ := x2
  (conv => whnf)
  intro b3 hb3
  (conv => whnf)
  obtain ⟨hT3', hf3⟩ := hT3.build (o := .cells (intCells .i64 [0, 9]).toArray 3 (0, 0)) hb3
  refine FCalls.mono (put_m (ks := [0, 9]) 1 hT3' Ints.built) ?_
  rintro v m4 ⟨code3, a4, rfl, hT4, u3, v3, x3⟩
  simp [u2, v2, g3, g4, updF] at u3 v3 x3
  obtain ⟨rfl, i3, i4, i5⟩ := x3
  (conv => whnf)
  intro b4 hb4
  (conv => whnf)
  obtain ⟨hT4', hf4⟩ := hT4.build (o := .cells (intCells .i64 [3, 3]).toArray 3 (0, 0)) hb4
  refine FCalls.mono (put_m (ks := [3, 3]) 3 hT4' Ints.built) ?_
  rintro v m5 ⟨code4, a5, rfl, hT5, u4, v4, x4⟩
  simp [u3, v3, i3, i4, updF] at u4 v4 x4
  obtain ⟨rfl, rfl⟩ := x4
  (conv => whnf)
  intro b5 hb5
  (conv => whnf)
  obtain ⟨hT5', hf5⟩ := hT5.build (o := .cells (intCells .i64 [1, 2]).toArray 3 (0, 0)) hb5
  have k1 : (a5.f [1, 2]) = some 8 := by simp [i3, updF]
  have hc1 := get_m (ks := [1, 2]) (c := 2) hT5' Ints.built
  rw [k1] at hc1
  refine FCalls.mono hc1 ?_
  rintro v m6 ⟨rfl, rfl⟩
  (conv => whnf)
  intro b6 hb6
  (conv => whnf)
  obtain ⟨hT6', hf6⟩ := hT5'.build (o := .cells (intCells .i64 [0, 9]).toArray 3 (0, 0)) hb6
  have k2 : (a5.f [0, 9]) = some 1 := by simp [i3, updF]
  have hc2 := drop_m (ks := [0, 9]) (c := 2) hT6' Ints.built
  rw [k2] at hc2
  refine FCalls.mono hc2 ?_
  rintro v m7 ⟨rfl, hT7, _⟩
  (conv => whnf)
  have hc3 := len_m hT7
  dsimp only at hc3
  rw [i4] at hc3
  refine FCalls.mono hc3 ?_
  rintro v m8 ⟨rfl, rfl⟩
  (conv => whnf)
  exact ⟨rfl, keep_unbuild (keep_unbuild (keep_unbuild (keep_unbuild (keep_unbuild (keep_unbuild hT7.keep hf6) hf5) hf4) hf3) hf2) hf1⟩
end Go.Proofs.Ytoifiplefjclbaa
