/- Chars: CharsShown. -/
import Derived.Test.YtlnekbdcbkndbaaDoorChX
namespace Go.Proofs.YtlnekbdcbkndbaaDoor
open Go Go.Mv
set_option maxHeartbeats 2000000
set_option maxRecDepth 10000
set_option linter.unusedVariables false
set_option linter.unusedSimpArgs false
attribute [local irreducible] FCalls IntKind.wrap bits Mem.set Mem.setCell Mem.setCells YCalls RunP NextP
theorem charsShown_c {m : Mem} (hG : G m) {s : ByteArray} (hs : s.size ≤ 1048576) : FCalls Tryd.prog 4 [.string s] m fun v m' => v = .bool true ∧ m.le m' := by
  obtain ⟨b0, hb0⟩ : ∃ b : Bool, b = true := ⟨_, rfl⟩
  obtain ⟨S1, hS1⟩ : ∃ S : ByteArray, S = ⟨(readR (bl s)).1.toArray⟩ := ⟨_, rfl⟩
  obtain ⟨e1, he1⟩ : ∃ e : Int, e = (((readR (bl s)).2.1 : Nat) : Int) := ⟨_, rfl⟩
  obtain ⟨a1, ha1⟩ : ∃ e : Int, e = (((readR (bl s)).2.2 : Nat) : Int) := ⟨_, rfl⟩
  obtain ⟨S2, hS2⟩ : ∃ S : ByteArray, S = S1 := ⟨_, rfl⟩
  obtain ⟨e2, he2⟩ : ∃ e : Int, e = e1 := ⟨_, rfl⟩
  obtain ⟨a2, ha2⟩ : ∃ e : Int, e = a1 := ⟨_, rfl⟩
  have hR1 : readV (bl s) = .tuple #[.string S1, .int .i64 e1, .int .i64 a1] := by unfold readV; rw [hS1, he1, ha1]
  have hR2 : readV (bl s) = .tuple #[.string S2, .int .i64 e2, .int .i64 a2] := by rw [hR1, hS2, he2, ha2]
  obtain ⟨S3, hS3⟩ : ∃ S : ByteArray, S = ⟨(shl (bl s)).toArray⟩ := ⟨_, rfl⟩
  obtain ⟨S4, hS4⟩ : ∃ S : ByteArray, S = S3 := ⟨_, rfl⟩
  refine fcalls_of_vc (T := tbl) (B := bodies) (pr := [99999]) (DR := dr4) (args := [.v (.string s)]) tbl_ok bodies_ok mixed Tryd.func4 rfl (by decide +kernel) (by simp [Tryd.f4]) rfl ?_
  (conv => whnf)
  refine FCalls.mono (examples_c hG) ?_
  rintro v m1 ⟨rfl, hk⟩
  rw [show Value.bool true = .bool b0 by rw [hb0]]
  (conv => whnf)
  refine FCalls.mono (read_c (hG.more hk) (by omega)) ?_
  rintro v m2 ⟨rfl, hk2⟩
  replace hk := Mem.le_trans hk hk2
  rw [hR1]
  (conv => whnf)
  refine FCalls.mono (refread_c (by omega)) ?_
  rintro v m3 ⟨rfl, hk3⟩
  replace hk := Mem.le_trans hk hk3
  rw [hR2]
  (conv => whnf)
  refine brk_true (by rw [hb0]; rfl) ?_
  (conv => whnf)
  refine FCalls.mono (shown_c (hG.more hk) (by omega)) ?_
  rintro v m4 ⟨rfl, hk4⟩
  replace hk := Mem.le_trans hk hk4
  rw [← hS3]
  (conv => whnf)
  refine FCalls.mono (refshown_c (by omega)) ?_
  rintro v m5 ⟨rfl, rfl⟩
  rw [← hS3, ← hS4]
  (conv => whnf)
  refine brk_true (by rw [hS4]; simp) ?_
  (conv => whnf)
  refine brk_true (by rw [hS2]; simp) ?_
  (conv => whnf)
  refine brk_true (by rw [he2]; simp) ?_
  (conv => whnf)
  exact ⟨by rw [ha2, hb0]; simp [single], hk⟩
end Go.Proofs.YtlnekbdcbkndbaaDoor
