/- Chars: CharsUnits. -/
import Derived.Test.YtlnekbdcbkndbaaDoorChX
namespace Go.Proofs.YtlnekbdcbkndbaaDoor
open Go Go.Mv
set_option maxHeartbeats 2000000
set_option maxRecDepth 10000
set_option linter.unusedVariables false
set_option linter.unusedSimpArgs false
attribute [local irreducible] FCalls IntKind.wrap bits Mem.set Mem.setCell Mem.setCells YCalls RunP NextP
theorem charsUnits_c {m : Mem} (hG : G m) {s : ByteArray} (hs : s.size ≤ 1048576) {k : Int} : FCalls Tryd.prog 6 [.string s, .int .i64 k] m fun v m' => v = .bool true ∧ m.le m' := by
  obtain ⟨b0, hb0⟩ : ∃ b : Bool, b = true := ⟨_, rfl⟩
  obtain ⟨b1, hb1⟩ : ∃ b : Bool, b = decide (pls s = pls s) := ⟨_, rfl⟩
  obtain ⟨c1, n1, hV1⟩ : ∃ c n : Int, (if 0 ≤ k ∧ k < s.size then Value.tuple #[.int .i64 (cd s k.toNat), .int .i64 ((wd s k.toNat : Nat) : Int)] else .tuple #[.int .i64 0, .int .i64 0]) = .tuple #[.int .i64 c, .int .i64 n] := by split <;> exact ⟨_, _, rfl⟩
  obtain ⟨c2, hc2⟩ : ∃ c : Int, c = c1 := ⟨_, rfl⟩
  obtain ⟨n2, hn2⟩ : ∃ c : Int, c = n1 := ⟨_, rfl⟩
  have hV2 := hV1
  rw [← hc2, ← hn2] at hV2
  obtain ⟨B1, hB1⟩ : ∃ c : Int, c = ((bad s 0 : Nat) : Int) := ⟨_, rfl⟩
  obtain ⟨B2, hB2⟩ : ∃ c : Int, c = B1 := ⟨_, rfl⟩
  obtain ⟨F1, hF1⟩ : ∃ c : Int, c = ((((ps s 0).filter fun x => decide (((x : Nat) : Int) < k)).length : Nat) : Int) := ⟨_, rfl⟩
  obtain ⟨F2, hF2⟩ : ∃ c : Int, c = F1 := ⟨_, rfl⟩
  have hpl := pls_len (s := s)
  refine fcalls_of_vc (T := tbl) (B := bodies) (pr := [99999]) (DR := dr6) (args := [.v (.string s), .v (.int .i64 k)]) tbl_ok bodies_ok mixed Tryd.func6 rfl (by decide +kernel) (by simp [Tryd.f6]) rfl ?_
  (conv => whnf)
  refine FCalls.mono (examples_c hG) ?_
  rintro v m1 ⟨rfl, hk⟩
  rw [show Value.bool true = .bool b0 by rw [hb0]]
  (conv => whnf)
  refine FCalls.mono (next_c (hG.more hk).1 (by omega)) ?_
  rintro v m2 ⟨rfl, rfl⟩
  rw [hV1]
  (conv => whnf)
  refine FCalls.mono (refnext_c (by omega)) ?_
  rintro v m2 ⟨rfl, rfl⟩
  rw [hV2]
  (conv => whnf)
  refine FCalls.mono (refplaces_c (by omega)) ?_
  rintro v m3 ⟨A, cA, rfl, h⟩
  (conv => whnf)
  refine FCalls.mono (places_c (by omega)) ?_
  rintro v m4 ⟨A2, cA2, rfl, h2⟩
  replace h := h.on (N := [_]) h2
  clear h2
  (conv => whnf)
  refine FCalls.mono (same_c (h.rd 0 rfl) (h.rd 1 rfl) (by omega)) ?_
  rintro v m5 ⟨rfl, rfl⟩
  rw [← hb1]
  (conv => whnf)
  replace h : Sep [sl A2 (pls s).length cA2 1 (iv (pls s)), sl A (pls s).length cA 1 (iv (pls s)), kp m2] m5 := h
  refine loop_keep [0, 1, 5, 6, 7, 8, 9, 10, 11, 12] (Nat × List Value × Mem) (fun t => [(13, .v (.int .i64 ((t.1 : Nat) : Int)))]) (fun _ => []) (fun t => t.2.2) (fun t => t.2.1.length = (pls s).length ∧ Sep [sl A2 (pls s).length cA2 1 t.2.1, sl A (pls s).length cA 1 (iv (pls s)), kp m2] t.2.2) (fun t => (pls s).length - t.1) (0, iv (pls s), m5) ⟨rfl, trivial⟩ rfl rfl ⟨by simp [iv], h⟩ ?_
  clear h
  (conv => whnf)
  refine ⟨rfl, ?_⟩
  rintro ⟨i, vs, M⟩ ⟨hv, h⟩
  simp only at hv h
  (conv => whnf)
  refine brk_intro (fun d1 => ?_) (fun d1 => ?_)
  · have d1 : i < (pls s).length := by have : ((i : Nat) : Int) < (((pls s).length : Nat) : Int) := of_decide_eq_true d1; omega
    obtain ⟨q, hq, hroom, hS⟩ := h.st 0 (k := i) (.int .i64 (-5)) rfl (by omega)
    (conv => whnf)
    refine ⟨q, hq, by omega, by omega, ?_⟩
    (conv => whnf)
    have hroom' : (∃ u, M.cell (q.add (i * 1)) = some u) ∧ M.fz (q.add (i * 1)) = false := by rw [Nat.mul_one]; exact hroom
    refine ⟨hroom', fun m6 he => ?_⟩
    replace he : m6 = M.setCell (q.add (i * 1)) (.int .i64 (-5)) := he
    rw [Nat.mul_one] at he
    rw [← he] at hS
    replace hS : Sep [sl A2 (pls s).length cA2 1 (vs.set i (.int .i64 (-5))), sl A (pls s).length cA 1 (iv (pls s)), kp m2] m6 := hS
    clear he hroom hroom'
    (conv => whnf)
    have e2 : IntKind.i64.wrap (((i : Nat) : Int) + 1) = ((i + 1 : Nat) : Int) := by rw [wrap_id (by omega) (by omega)]; omega
    rw [e2]
    exact ⟨(i + 1, _, m6), le_eq ⟨rfl, rfl, rfl, rfl, rfl, rfl, rfl, rfl, rfl, rfl, rfl, trivial⟩ rfl rfl rfl, ⟨by rw [List.length_set]; exact hv, hS⟩, by simp only; omega⟩
  · (conv => whnf)
    refine FCalls.mono (places_c (by omega)) ?_
    rintro v m6 ⟨A3, cA3, rfl, h2⟩
    replace h := h.on (N := [_]) h2
    clear h2
    (conv => whnf)
    refine FCalls.mono (same_c (h.rd 0 rfl) (h.rd 2 rfl) (by omega)) ?_
    rintro v m7 ⟨rfl, rfl⟩
    rw [← hb1]
    have hk1 := Mem.le_trans hk (h.kept 3 rfl)
    have hb1 : b1 = true := by rw [hb1]; simp
    (conv => whnf)
    refine brk_true (by rw [hb0]; rfl) ?_
    (conv => whnf)
    refine brk_true (by rw [hb1]; rfl) ?_
    (conv => whnf)
    refine brk_true (by rw [hb1]; rfl) ?_
    (conv => whnf)
    refine brk_true (by rw [hc2]; simp) ?_
    (conv => whnf)
    refine brk_true (by rw [hn2]; simp) ?_
    (conv => whnf)
    refine FCalls.mono (valids_c (hG.more hk1).1 (by omega)) ?_
    rintro v m8 ⟨rfl, hm8⟩
    rw [← hB1]
    replace hk1 := Mem.le_trans hk1 hm8
    (conv => whnf)
    refine FCalls.mono (refvalid_c (by omega)) ?_
    rintro v m9 ⟨rfl, rfl⟩
    rw [← hB1, ← hB2]
    (conv => whnf)
    refine brk_true (by rw [hB2]; simp) ?_
    (conv => whnf)
    refine FCalls.mono (column_c (by omega)) ?_
    rintro v m10 ⟨rfl, hm10⟩
    rw [← hF1]
    replace hk1 := Mem.le_trans hk1 hm10
    (conv => whnf)
    refine FCalls.mono (refcolumn_c (by omega)) ?_
    rintro v m11 ⟨rfl, hm11⟩
    rw [← hF1, ← hF2]
    (conv => whnf)
    exact ⟨by rw [hF2, hb0]; simp [single], Mem.le_trans hk1 hm11⟩
end Go.Proofs.YtlnekbdcbkndbaaDoor
