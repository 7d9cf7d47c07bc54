/- Chars: the chapter's examples. -/
import Derived.Test.YtlnekbdcbkndbaaDoorChW
namespace Go.Proofs.YtlnekbdcbkndbaaDoor
open Go Go.Mv
set_option maxHeartbeats 2000000
set_option maxRecDepth 10000
set_option linter.unusedVariables false
set_option linter.unusedSimpArgs false
attribute [local irreducible] FCalls IntKind.wrap bits Mem.set Mem.setCell Mem.setCells YCalls RunP NextP
def tA : ByteArray := ⟨#[97, 195, 169]⟩
def tB : ByteArray := ⟨#[97, 195, 169, 98]⟩
theorem ex1 : cd tA 1 = 233 ∧ wd tA 1 = 2 ∧ cd tA 2 = -1 ∧ wd tA 2 = 1 := by decide +kernel
theorem ex2 : encs [8364] = [226, 130, 172] := by decide +kernel
theorem ex3 : readR [97, 92, 110] = ([97, 10], 0, 0) := by decide +kernel
theorem ex4 : readR [92, 113] = ([], 32, 0) := by decide +kernel
theorem ex5 : shl [97, 9, 92] = [97, 92, 120, 48, 57, 92, 92] := by decide +kernel
theorem ex6 : ((ps tB 0).filter fun x => decide (((x : Nat) : Int) < 3)).length = 2 := by decide +kernel
theorem examples_c {m : Mem} (hG : G m) : FCalls Tryd.prog 9 [] m fun v m' => v = .bool true ∧ m.le m' := by
  obtain ⟨x1, hx1⟩ : ∃ x : Int, x = 233 := ⟨_, rfl⟩
  obtain ⟨x2, hx2⟩ : ∃ x : Int, x = 2 := ⟨_, rfl⟩
  obtain ⟨x3, hx3⟩ : ∃ x : Int, x = -1 := ⟨_, rfl⟩
  obtain ⟨x4, hx4⟩ : ∃ x : Int, x = 1 := ⟨_, rfl⟩
  obtain ⟨x5, hx5⟩ : ∃ x : Int, x = 0 := ⟨_, rfl⟩
  obtain ⟨x6, hx6⟩ : ∃ x : Int, x = 20 := ⟨_, rfl⟩
  obtain ⟨x7, hx7⟩ : ∃ x : Int, x = 0 := ⟨_, rfl⟩
  obtain ⟨x8, hx8⟩ : ∃ x : Int, x = 1 := ⟨_, rfl⟩
  obtain ⟨x9, hx9⟩ : ∃ x : Int, x = 0 := ⟨_, rfl⟩
  obtain ⟨x10, hx10⟩ : ∃ x : Int, x = 0 := ⟨_, rfl⟩
  obtain ⟨x11, hx11⟩ : ∃ x : Int, x = 32 := ⟨_, rfl⟩
  obtain ⟨x12, hx12⟩ : ∃ x : Int, x = 0 := ⟨_, rfl⟩
  obtain ⟨S, hS⟩ : ∃ S : ByteArray, S = ⟨[226, 130, 172].toArray⟩ := ⟨_, rfl⟩
  obtain ⟨S3, hS3⟩ : ∃ S : ByteArray, S = ⟨[97, 10].toArray⟩ := ⟨_, rfl⟩
  obtain ⟨S4, hS4⟩ : ∃ S : ByteArray, S = ⟨[97, 92, 120, 48, 57, 92, 92].toArray⟩ := ⟨_, rfl⟩
  obtain ⟨x13, hx13⟩ : ∃ x : Int, x = 2 := ⟨_, rfl⟩
  refine fcalls_of_vc (T := tbl) (B := bodies) (pr := [99999]) (DR := dr9) (args := []) tbl_ok bodies_ok mixed Tryd.func9 rfl (by decide +kernel) (by simp [Tryd.f9]) rfl ?_
  (conv => whnf)
  refine FCalls.mono (next_c hG.1 (s := tA) (by decide)) ?_
  rintro v m1 ⟨rfl, rfl⟩
  rw [show (if 0 ≤ (1 : Int) ∧ (1 : Int) < (tA.size : Nat) then Value.tuple #[.int .i64 (cd tA (Int.toNat 1)), .int .i64 ((wd tA (Int.toNat 1) : Nat) : Int)] else .tuple #[.int .i64 0, .int .i64 0]) = .tuple #[.int .i64 x1, .int .i64 x2] by rw [if_pos (by decide), show Int.toNat 1 = 1 from rfl, ex1.1, ex1.2.1, hx1, hx2]; rfl]
  (conv => whnf)
  refine FCalls.mono (next_c hG.1 (s := tA) (by decide)) ?_
  rintro v m1 ⟨rfl, rfl⟩
  rw [show (if 0 ≤ (2 : Int) ∧ (2 : Int) < (tA.size : Nat) then Value.tuple #[.int .i64 (cd tA (Int.toNat 2)), .int .i64 ((wd tA (Int.toNat 2) : Nat) : Int)] else .tuple #[.int .i64 0, .int .i64 0]) = .tuple #[.int .i64 x3, .int .i64 x4] by rw [if_pos (by decide), show Int.toNat 2 = 2 from rfl, ex1.2.2.1, ex1.2.2.2, hx3, hx4]; rfl]
  (conv => whnf)
  intro nb m2 hb he
  have h := (Sep.init m1).new' (l := iv [8364]) hb (he.trans rfl)
  have hr : Rd m2 (some ⟨nb, 0, none⟩) (iv [8364]) := .inr ⟨_, rfl, fun k v hk => by rw [add_mk, Nat.zero_add]; exact h.cell 0 rfl hk⟩
  clear hb he
  (conv => whnf)
  refine FCalls.mono (encode_c (l := [8364]) hr (by decide) true (by simp [allC, isC])) ?_
  rintro v m3 ⟨hm3, rfl⟩
  rw [if_pos rfl, ex2, show Value.tuple #[.string ⟨[226, 130, 172].toArray⟩, .int .i64 0] = .tuple #[.string S, .int .i64 x5] by rw [hx5, hS]]
  replace h := h.more hm3
  (conv => whnf)
  intro nb2 m4 hb he
  replace h := h.new' (l := iv [55296]) hb (he.trans rfl)
  have hr : Rd m4 (some ⟨nb2, 0, none⟩) (iv [55296]) := .inr ⟨_, rfl, fun k v hk => by rw [add_mk, Nat.zero_add]; exact h.cell 0 rfl hk⟩
  clear hb he
  (conv => whnf)
  refine FCalls.mono (encode_c (l := [55296]) hr (by decide) false (by simp [allC, isC])) ?_
  rintro v m5 ⟨hm5, rfl⟩
  rw [if_neg (by simp), show Value.tuple #[.string ⟨#[]⟩, .int .i64 20] = .tuple #[.string ⟨#[]⟩, .int .i64 x6] by rw [hx6]]
  have hk := (h.more hm5).kept 2 rfl
  clear h hr hm5 hm3
  (conv => whnf)
  refine FCalls.mono (rows_c rfl rfl) ?_
  rintro v m6 ⟨A, c, rfl, hm6⟩
  obtain ⟨nn, hnn⟩ : ∃ n : Nat, n = 1 := ⟨_, rfl⟩
  rw [show Value.tuple #[.slice A 1 c, .int .i64 0] = .tuple #[.slice A nn c, .int .i64 x7] by rw [hx7, hnn]]
  replace hk := Mem.le_trans hk hm6
  (conv => whnf)
  refine FCalls.mono rowsbad_c ?_
  rintro v m7 ⟨rfl, rfl⟩
  rw [show Value.tuple #[.slice none 0 0, .int .i64 1] = .tuple #[.slice none 0 0, .int .i64 x8] by rw [hx8]]
  (conv => whnf)
  refine FCalls.mono (read_c (hG.more hk) (s := ⟨[97, 92, 110].toArray⟩) (by decide)) ?_
  rintro v m8 ⟨rfl, hm8⟩
  replace hk := Mem.le_trans hk hm8
  rw [show readV (bl ⟨[97, 92, 110].toArray⟩) = .tuple #[.string S3, .int .i64 x9, .int .i64 x10] by unfold readV; rw [bl_mk, ex3, hx9, hx10, hS3]; rfl]
  (conv => whnf)
  refine FCalls.mono (read_c (hG.more hk) (s := ⟨[92, 113].toArray⟩) (by decide)) ?_
  rintro v m9 ⟨rfl, hm9⟩
  replace hk := Mem.le_trans hk hm9
  rw [show readV (bl ⟨[92, 113].toArray⟩) = .tuple #[.string ⟨[].toArray⟩, .int .i64 x11, .int .i64 x12] by unfold readV; rw [bl_mk, ex4, hx11, hx12]; rfl]
  (conv => whnf)
  refine brk_true (by rw [hx1]; rfl) ?_
  (conv => whnf)
  refine brk_true (by rw [hx2]; rfl) ?_
  (conv => whnf)
  refine brk_true (by rw [hx3]; rfl) ?_
  (conv => whnf)
  refine brk_true (by rw [hx4]; rfl) ?_
  (conv => whnf)
  refine brk_true (by rw [hx5]; rfl) ?_
  (conv => whnf)
  refine brk_true (by rw [hS]; simp) ?_
  (conv => whnf)
  refine brk_true (by rw [hx6]; rfl) ?_
  (conv => whnf)
  refine brk_true (by rw [hx7]; rfl) ?_
  (conv => whnf)
  refine brk_true (by rw [hx8]; rfl) ?_
  (conv => whnf)
  refine brk_false (by rw [hnn]; rfl) ?_
  (conv => whnf)
  refine brk_true (by rw [hx9]; rfl) ?_
  (conv => whnf)
  refine brk_true (by rw [hx10]; rfl) ?_
  (conv => whnf)
  refine brk_true (by rw [hS3]; simp) ?_
  (conv => whnf)
  refine brk_true (by rw [hx11]; rfl) ?_
  (conv => whnf)
  refine brk_true (by rw [hx12]; rfl) ?_
  (conv => whnf)
  refine FCalls.mono (shown_c (hG.more hk) (s := ⟨[97, 9, 92].toArray⟩) (by decide)) ?_
  rintro v m10 ⟨rfl, hm10⟩
  replace hk := Mem.le_trans hk hm10
  rw [show Value.string ⟨(shl (bl ⟨[97, 9, 92].toArray⟩)).toArray⟩ = .string S4 by rw [bl_mk, ex5, hS4]]
  (conv => whnf)
  refine brk_true (by rw [hS4]; simp) ?_
  (conv => whnf)
  refine FCalls.mono (column_c (s := tB) (at' := 3) (by decide)) ?_
  rintro v m11 ⟨rfl, hm11⟩
  rw [ex6, show Value.int .i64 ((2 : Nat) : Int) = .int .i64 x13 by rw [hx13]; rfl]
  (conv => whnf)
  exact ⟨by rw [hx13]; rfl, Mem.le_trans hk hm11⟩
end Go.Proofs.YtlnekbdcbkndbaaDoor
