/- Sets: the document's Fold, Range, Of, Next, List, Count. -/
import Derived.Test.YtegeeofjebpgbaaDoorSsJ
namespace Go.Proofs.YtegeeofjebpgbaaDoor
open Go Go.Mv
set_option maxHeartbeats 1000000
set_option maxRecDepth 10000
set_option linter.unusedVariables false
set_option linter.unusedSimpArgs false
attribute [local irreducible] FCalls IntKind.wrap bits Mem.set Mem.setCell Mem.setCells YCalls
theorem other_c {m : Mem} {b : Nat} (hb : b < 256) : FCalls Tryd.prog 50 [.int .i64 (b : Int)] m fun v m' => v = .int .i64 ((otherB b : Nat) : Int) ∧ m' = m := by
  refine fcalls_of_vc (T := tbl) (B := bodies) (pr := []) (DR := dr50) (args := [.v (.int .i64 (b : Int))]) tbl_ok bodies_ok mixed Tryd.func50 rfl (by decide +kernel) (by simp [Tryd.f50]) rfl ?_
  have third : ¬ (65 ≤ b ∧ b ≤ 90) → ¬ (97 ≤ b ∧ b ≤ 122) → otherB b = b := fun h1 h2 => by unfold otherB; rw [if_neg h1, if_neg h2]
  by_cases c1 : 65 ≤ b
  · have e1 : decide ((b : Int) ≥ 65) = true := decide_eq_true (by omega)
    by_cases c2 : b ≤ 90
    · have e2 : decide ((b : Int) ≤ 90) = true := decide_eq_true (by omega)
      (conv => whnf)
      refine brk_true (by rw [e1]; rfl) ?_
      (conv => whnf)
      refine brk_true (by rw [e2]; rfl) ?_
      (conv => whnf)
      refine ⟨?_, rfl⟩
      show Value.int .i64 (IntKind.i64.wrap ((b : Int) + 32)) = _
      rw [wrap_id (by omega) (by omega)]
      unfold otherB
      rw [if_pos ⟨c1, c2⟩]
      rfl
    · have e2 : decide ((b : Int) ≤ 90) = false := decide_eq_false (by omega)
      by_cases c3 : 97 ≤ b
      · have e3 : decide ((b : Int) ≥ 97) = true := decide_eq_true (by omega)
        by_cases c4 : b ≤ 122
        · have e4 : decide ((b : Int) ≤ 122) = true := decide_eq_true (by omega)
          (conv => whnf)
          refine brk_true (by rw [e1]; rfl) ?_
          (conv => whnf)
          refine brk_false (by rw [e2]; rfl) ?_
          (conv => whnf)
          refine brk_true (by rw [e3]; rfl) ?_
          (conv => whnf)
          refine brk_true (by rw [e4]; rfl) ?_
          (conv => whnf)
          refine ⟨?_, rfl⟩
          show Value.int .i64 (IntKind.i64.wrap ((b : Int) - 32)) = _
          rw [wrap_id (by omega) (by omega)]
          unfold otherB
          rw [if_neg (by omega), if_pos ⟨c3, c4⟩]
          congr 1
          omega
        · have e4 : decide ((b : Int) ≤ 122) = false := decide_eq_false (by omega)
          (conv => whnf)
          refine brk_true (by rw [e1]; rfl) ?_
          (conv => whnf)
          refine brk_false (by rw [e2]; rfl) ?_
          (conv => whnf)
          refine brk_true (by rw [e3]; rfl) ?_
          (conv => whnf)
          refine brk_false (by rw [e4]; rfl) ?_
          (conv => whnf)
          exact ⟨by rw [third (by omega) (by omega)]; rfl, rfl⟩
      · have e3 : decide ((b : Int) ≥ 97) = false := decide_eq_false (by omega)
        (conv => whnf)
        refine brk_true (by rw [e1]; rfl) ?_
        (conv => whnf)
        refine brk_false (by rw [e2]; rfl) ?_
        (conv => whnf)
        refine brk_false (by rw [e3]; rfl) ?_
        (conv => whnf)
        exact ⟨by rw [third (by omega) (by omega)]; rfl, rfl⟩
  · have e1 : decide ((b : Int) ≥ 65) = false := decide_eq_false (by omega)
    have e3 : decide ((b : Int) ≥ 97) = false := decide_eq_false (by omega)
    (conv => whnf)
    refine brk_false (by rw [e1]; rfl) ?_
    (conv => whnf)
    refine brk_false (by rw [e3]; rfl) ?_
    (conv => whnf)
    exact ⟨by rw [third (by omega) (by omega)]; rfl, rfl⟩
theorem otherB_lt {b : Nat} (h : b < 256) : otherB b < 256 := by unfold otherB; split <;> (try split) <;> omega
def foldF (f : Nat → Bool) (b : Nat) : Bool := f b || f (otherB b)
theorem rfold_c {m : Mem} {G : Nat → Nat} (h : WOk G) : FCalls Tryd.prog 28 [wv G] m fun v m' => m' = m ∧ Is v (foldF (has G)) := by
  refine fcalls_of_vc (T := tbl) (B := bodies) (pr := [1, 2, 3, 4]) (DR := dr28) (args := [.ints .u64 (W G)]) tbl_ok bodies_ok mixed Tryd.func28 rfl (by decide +kernel) (by simp [Tryd.f28]) rfl ?_
  (conv => whnf)
  refine ⟨rfl, W_len.symm, ?_⟩
  (conv => whnf)
  refine FCalls.mono (bytes_c h) fun v m' ⟨h2, h3⟩ => ?_
  subst h2 h3
  (conv => whnf)
  refine ⟨_, B2_len, rfl, ?_⟩
  (conv => whnf)
  refine ⟨rfl, B2_len.symm, by rw [B2_len]; simp, ?_⟩
  (conv => whnf)
  refine loop_keep [1, 2, 3, 4] Nat (fun i => [(5, .v (.int .i64 i))]) (fun i => [.ints .u64 (W G), .ints .u64 [0, 0, 0, 0], .bools (B2 (has G)), .bools (UB (fun _ => false) (foldF (has G)) i)]) (fun _ => m') (fun i => i ≤ 256) (fun i => 256 - i) 0 ⟨rfl, trivial⟩ ?_ rfl (by omega) ?_
  · exact congrArg (fun x => [LC.ints .u64 (W G), .ints .u64 [0, 0, 0, 0], .bools (B2 (has G)), .bools x]) (by rw [UB, upd_zero, List.map_const', List.length_range])
  (conv => whnf)
  refine ⟨rfl, fun i hi => ?_⟩
  (conv => whnf)
  refine brk_intro (fun h1 => ?_) (fun h1 => ?_)
  · have h1 : (i : Int) < 256 := by simpa using h1
    have hi' : i < 256 := by omega
    have ho := otherB_lt hi'
    have eG : (B2 (has G)).getD (0 + ((i : Int)).toNat * (tbl.at 4).size) false = has G i := by rw [ix4, B2_at hi']
    have eO : (B2 (has G)).getD (0 + (((otherB i : Nat) : Int)).toNat * (tbl.at 4).size) false = has G (otherB i) := by rw [ix4, B2_at ho]
    have fin : ∀ b, foldF (has G) i = b → [LC.ints .u64 (W G), .ints .u64 [0, 0, 0, 0], .bools (B2 (has G)), .bools ((UB (fun _ => false) (foldF (has G)) i).set (0 + ((i : Int)).toNat * (tbl.at 4).size) b)] = [LC.ints .u64 (W G), .ints .u64 [0, 0, 0, 0], .bools (B2 (has G)), .bools (UB (fun _ => false) (foldF (has G)) (i + 1))] := by
      intro b hb
      rw [ix4]
      exact congrArg (fun x => [LC.ints .u64 (W G), .ints .u64 [0, 0, 0, 0], .bools (B2 (has G)), .bools x]) (upd_set hb.symm)
    (conv => whnf)
    refine ⟨by omega, h1, ?_⟩
    (conv => whnf)
    refine ⟨by rw [ix4, B2_len]; omega, ?_⟩
    (conv => whnf)
    rw [eG]
    cases hg : has G i with
    | true =>
      (conv => whnf)
      refine ⟨by omega, h1, ?_⟩
      (conv => whnf)
      refine ⟨by rw [ix4, UB_len]; omega, ?_⟩
      (conv => whnf)
      refine ⟨i + 1, le_eq ⟨by show some (AV.v (.int .i64 (IntKind.i64.wrap ((i : Int) + 1)))) = _; rw [step256 i hi'], rfl, rfl, rfl, rfl, trivial⟩ rfl (fin _ (by simp [foldF, hg])) rfl, by omega, by omega⟩
    | false =>
      (conv => whnf)
      refine FCalls.mono (other_c hi') fun v m' ⟨h2, h3⟩ => ?_
      subst h2 h3
      (conv => whnf)
      refine ⟨by omega, by show _ < (256 : Int); omega, ?_⟩
      (conv => whnf)
      refine ⟨by rw [ix4, B2_len]; omega, ?_⟩
      (conv => whnf)
      refine ⟨by omega, h1, ?_⟩
      (conv => whnf)
      refine ⟨by rw [ix4, UB_len]; omega, ?_⟩
      (conv => whnf)
      refine ⟨i + 1, le_eq ⟨by show some (AV.v (.int .i64 (IntKind.i64.wrap ((i : Int) + 1)))) = _; rw [step256 i hi'], rfl, rfl, rfl, rfl, trivial⟩ rfl (fin _ (by rw [eO]; simp [foldF, hg])) rfl, by omega, by omega⟩
  · have h1 : ¬ ((i : Int) < 256) := by simpa using h1
    have h1 : i = 256 := by omega
    subst h1
    (conv => whnf)
    refine ⟨rfl, by rw [UB_len]; rfl, ?_⟩
    (conv => whnf)
    have e1 : UB (fun _ => false) (foldF (has G)) 256 = B2 (foldF (has G)) := upd_all
    rw [e1]
    refine FCalls.mono laid_c fun v m' ⟨h2, R, hv, hR, hb⟩ => ?_
    subst h2 hv
    (conv => whnf)
    refine ⟨_, W_len, rfl, ?_⟩
    (conv => whnf)
    refine ⟨rfl, W_len.symm, W_len.symm, ?_⟩
    (conv => whnf)
    refine ⟨rfl, W_len.symm, ?_⟩
    (conv => whnf)
    exact ⟨rfl, R, rfl, hR, hb⟩
theorem rnext_c {m : Mem} {G : Nat → Nat} {s : Int} (h : WOk G) (hs : s ≤ 9223372036854775807) : FCalls Tryd.prog 31 [wv G, .int .i64 s] m fun v m' => m' = m ∧ ∃ r, NextIs (has G) s r ∧ v = nextV r := by
  refine fcalls_of_vc (T := tbl) (B := bodies) (pr := [2]) (DR := dr31) (args := [.ints .u64 (W G), .v (.int .i64 s)]) tbl_ok bodies_ok mixed Tryd.func31 rfl (by decide +kernel) (by simp [Tryd.f31]) rfl ?_
  obtain ⟨s', hs', h0⟩ : ∃ s' : Int, (if (0 : Int) > s then 0 else s) = s' ∧ 0 ≤ s' := ⟨_, rfl, by split <;> omega⟩
  have hiff : ∀ c : Nat, s ≤ c ↔ s' ≤ c := fun c => by rw [← hs']; split <;> omega
  have hle : s' ≤ 9223372036854775807 := by rw [← hs']; split <;> omega
  (conv => whnf)
  rw [hs']
  refine loop_keep [2] Int (fun i => [(6, .v (.int .i64 i))]) (fun _ => [.ints .u64 (W G)]) (fun _ => m) (fun i => s' ≤ i ∧ i ≤ 9223372036854775807 ∧ ∀ c : Nat, s' ≤ c → (c : Int) < i → c < 256 → has G c = false) (fun i => (256 - i).toNat) s' ⟨rfl, trivial⟩ rfl rfl ⟨by omega, hle, by omega⟩ ?_
  (conv => whnf)
  refine ⟨rfl, fun i hi => ?_⟩
  obtain ⟨hi1, hi2, hi3⟩ := hi
  (conv => whnf)
  refine brk_intro (fun h1 => ?_) (fun h1 => ?_)
  · have h1 : i < 256 := by simpa using h1
    (conv => whnf)
    refine ⟨rfl, W_len.symm, ?_⟩
    (conv => whnf)
    refine FCalls.mono (in_c h (by omega) h1) fun v m' ⟨h2, h3⟩ => ?_
    subst h2 h3
    (conv => whnf)
    refine brk_intro (fun h4 => ?_) (fun h4 => ?_)
    · (conv => whnf)
      refine ⟨rfl, some i.toNat, .some _ ((hiff _).2 (by omega)) (by omega) h4 fun c k1 k2 => hi3 c ((hiff c).1 k1) (by omega) (by omega), ?_⟩
      show Value.tuple #[.int .i64 i, .bool true] = .tuple #[.int .i64 ((i.toNat : Nat) : Int), .bool true]
      rw [show ((i.toNat : Nat) : Int) = i by omega]
    · (conv => whnf)
      have e1 : IntKind.i64.wrap (i + 1) = i + 1 := wrap_id (by omega) (by omega)
      refine ⟨i + 1, le_eq ⟨by show some (AV.v (.int .i64 (IntKind.i64.wrap (i + 1)))) = _; rw [e1], rfl, trivial⟩ rfl rfl rfl, ⟨by omega, by omega, fun c k1 k2 k3 => ?_⟩, by omega⟩
      by_cases hc : (c : Int) < i
      · exact hi3 c k1 hc k3
      · rw [show c = i.toNat by omega]
        exact h4
  · have h1 : ¬ (i < 256) := by simpa using h1
    (conv => whnf)
    exact ⟨rfl, none, .none fun c k1 k2 => hi3 c ((hiff c).1 k1) (by omega) k2, rfl⟩
end Go.Proofs.YtegeeofjebpgbaaDoor
