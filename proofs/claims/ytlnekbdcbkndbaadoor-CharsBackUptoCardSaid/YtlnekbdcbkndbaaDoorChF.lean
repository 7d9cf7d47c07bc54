/- Chars: the document's Next. -/
import Derived.Test.YtlnekbdcbkndbaaDoorChE
namespace Go.Proofs.YtlnekbdcbkndbaaDoor
open Go Go.Mv
set_option maxHeartbeats 2000000
set_option maxRecDepth 10000
set_option linter.unusedVariables false
set_option linter.unusedSimpArgs false
attribute [local irreducible] FCalls IntKind.wrap bits Mem.set Mem.setCell Mem.setCells YCalls RunP NextP fb acc hdN
theorem hdN_le {b : Nat} (hb : b < 256) : (hdN b).1 = 0 ∨ (2 ≤ (hdN b).1 ∧ (hdN b).1 ≤ 4 ∧ (hdN b).2 < 32) := by
  unfold hdN
  by_cases h1 : 192 ≤ b ∧ b < 224
  · rw [if_pos h1]; exact .inr ⟨by omega, by omega, by simp only; omega⟩
  · rw [if_neg h1]
    by_cases h2 : 224 ≤ b ∧ b < 240
    · rw [if_pos h2]; exact .inr ⟨by omega, by omega, by simp only; omega⟩
    · rw [if_neg h2]
      by_cases h3 : 240 ≤ b ∧ b < 248
      · rw [if_pos h3]; exact .inr ⟨by omega, by omega, by simp only; omega⟩
      · rw [if_neg h3]; exact .inl rfl
theorem acc_lt {c0 : Nat} {f : Nat → Nat} (hc : c0 < 32) (hf : ∀ j, f j < 256) : ∀ i, i ≤ 3 → acc c0 f i < 33000000 := by
  intro i hi
  have h0 : acc c0 f 0 = c0 := by unfold acc; rfl
  have h1 : acc c0 f 1 = 64 * acc c0 f 0 + f 1 - 128 := by conv => lhs; unfold acc
  have h2 : acc c0 f 2 = 64 * acc c0 f 1 + f 2 - 128 := by conv => lhs; unfold acc
  have h3 : acc c0 f 3 = 64 * acc c0 f 2 + f 3 - 128 := by conv => lhs; unfold acc
  have f1 := hf 1
  have f2 := hf 2
  have f3 := hf 3
  have : i = 0 ∨ i = 1 ∨ i = 2 ∨ i = 3 := by omega
  rcases this with rfl | rfl | rfl | rfl <;> omega
theorem toList_mk (l : List UInt8) : (⟨l.toArray⟩ : ByteArray).toList = l := by rw [Lib.toList_data]
theorem dec_all {s : ByteArray} {a n : Nat} (hn : (hdN (fb s a 0)).1 = n) (h2 : 2 ≤ n) (h4 : n ≤ 4) (hk : a + n ≤ s.size) (hc : ∀ k, 1 ≤ k → k < n → cont (fb s a k)) :
    Utf8.decode s a = if isC ((acc (hdN (fb s a 0)).2 (fb s a) (n - 1) : Nat) : Int) ∧ enc (acc (hdN (fb s a 0)).2 (fb s a) (n - 1)) = (s.extract a (a + n)).toList then (acc (hdN (fb s a 0)).2 (fb s a) (n - 1), n) else (65533, 1) := by
  rw [cut_list n hk]
  have f0 : fb s a 0 = (s.get! (a + 0)).toNat := by unfold fb; rfl
  have f1 : fb s a 1 = (s.get! (a + 1)).toNat := by unfold fb; rfl
  have f2 : fb s a 2 = (s.get! (a + 2)).toNat := by unfold fb; rfl
  have f3 : fb s a 3 = (s.get! (a + 3)).toNat := by unfold fb; rfl
  have : n = 2 ∨ n = 3 ∨ n = 4 := by omega
  rcases this with rfl | rfl | rfl
  · obtain ⟨g1, g2, g3, g4⟩ := dec_two hn (by omega) (hc 1 (by omega) (by omega))
    rw [show 2 - 1 = 1 from rfl, g4]
    generalize acc (hdN (fb s a 0)).2 (fb s a) 1 = c at *
    have e : (List.range 2).map (fun j => s.get! (a + j)) = [UInt8.ofNat (192 + c / 64), UInt8.ofNat (128 + c % 64)] := by
      rw [u8_of (u := s.get! (a + 0)) (by omega), u8_of (u := s.get! (a + 1)) (by omega)]
      rfl
    rw [e]
    by_cases h : 128 ≤ c
    · rw [if_pos h, if_pos ⟨by unfold isC; omega, by unfold enc; rw [if_neg (by omega), if_pos (by omega)]⟩]
    · rw [if_neg h, if_neg (fun q => by have := congrArg List.length q.2; rw [enc_len, if_pos (by omega)] at this; exact absurd this (by simp))]
  · obtain ⟨g1, g2, g3, g4, g5⟩ := dec_three hn (by omega) (hc 1 (by omega) (by omega)) (hc 2 (by omega) (by omega))
    rw [show 3 - 1 = 2 from rfl, g5]
    generalize acc (hdN (fb s a 0)).2 (fb s a) 2 = c at *
    have e : (List.range 3).map (fun j => s.get! (a + j)) = [UInt8.ofNat (224 + c / 4096), UInt8.ofNat (128 + c / 64 % 64), UInt8.ofNat (128 + c % 64)] := by
      rw [u8_of (u := s.get! (a + 0)) (by omega), u8_of (u := s.get! (a + 1)) (by omega), u8_of (u := s.get! (a + 2)) (by omega)]
      rfl
    rw [e]
    by_cases h : 2048 ≤ c ∧ isC (c : Nat)
    · rw [if_pos h, if_pos ⟨h.2, by unfold enc; rw [if_neg (by omega), if_neg (by omega), if_pos (by omega)]⟩]
    · rw [if_neg h, if_neg (fun q => by
        have h3 : ¬ 2048 ≤ c := fun x => h ⟨x, q.1⟩
        have := congrArg List.length q.2
        rw [enc_len] at this
        by_cases hx : c < 128
        · rw [if_pos hx] at this; exact absurd this (by simp)
        · rw [if_neg hx, if_pos (by omega)] at this; exact absurd this (by simp))]
  · obtain ⟨g1, g2, g3, g4, g5, g6⟩ := dec_four hn (by omega) (hc 1 (by omega) (by omega)) (hc 2 (by omega) (by omega)) (hc 3 (by omega) (by omega))
    rw [show 4 - 1 = 3 from rfl, g6]
    generalize acc (hdN (fb s a 0)).2 (fb s a) 3 = c at *
    have e : (List.range 4).map (fun j => s.get! (a + j)) = [UInt8.ofNat (240 + c / 262144), UInt8.ofNat (128 + c / 4096 % 64), UInt8.ofNat (128 + c / 64 % 64), UInt8.ofNat (128 + c % 64)] := by
      rw [u8_of (u := s.get! (a + 0)) (by omega), u8_of (u := s.get! (a + 1)) (by omega), u8_of (u := s.get! (a + 2)) (by omega), u8_of (u := s.get! (a + 3)) (by omega)]
      rfl
    rw [e]
    by_cases h : 65536 ≤ c ∧ isC (c : Nat)
    · rw [if_pos h, if_pos ⟨h.2, by unfold enc; rw [if_neg (by omega), if_neg (by omega), if_neg (by omega)]⟩]
    · rw [if_neg h, if_neg (fun q => by
        have h3 : ¬ 65536 ≤ c := fun x => h ⟨x, q.1⟩
        have := congrArg List.length q.2
        rw [enc_len] at this
        by_cases hx : c < 128
        · rw [if_pos hx] at this; exact absurd this (by simp)
        · rw [if_neg hx] at this
          by_cases hy : c < 2048
          · rw [if_pos hy] at this; exact absurd this (by simp)
          · rw [if_neg hy, if_pos (by omega)] at this; exact absurd this (by simp))]
theorem cd_of {s : ByteArray} {a c n : Nat} (h : Utf8.decode s a = (c, n)) (hn : 2 ≤ n) : cd s a = (c : Nat) ∧ wd s a = n := by
  unfold cd wd
  rw [h]
  exact ⟨if_neg (fun q => by have := q.2; simp only at this; omega), rfl⟩
theorem cd_no {s : ByteArray} {a : Nat} (h : Utf8.decode s a = (65533, 1)) : cd s a = -1 ∧ wd s a = 1 := by
  unfold cd wd
  rw [h]
  exact ⟨if_pos ⟨rfl, by simp⟩, rfl⟩
theorem refnext_c {m : Mem} {s : ByteArray} (hs : s.size < 2 ^ 62) {at' : Int} : FCalls Tryd.prog 22 [.string s, .int .i64 at'] m fun v m' => m' = m ∧
    v = (if 0 ≤ at' ∧ at' < s.size then .tuple #[.int .i64 (cd s at'.toNat), .int .i64 ((wd s at'.toNat : Nat) : Int)] else .tuple #[.int .i64 0, .int .i64 0]) := by
  refine fcalls_of_vc (T := tbl) (B := bodies) (pr := [99999]) (DR := (100006, 0) :: dr22) (args := [.v (.string s), .v (.int .i64 at')]) tbl_ok bodies_ok mixed Tryd.func22 rfl (by decide +kernel) (by simp [Tryd.f22]) rfl ?_
  (conv => whnf)
  by_cases h : 0 ≤ at' ∧ at' < s.size
  · rw [if_pos h]
    obtain ⟨a, rfl⟩ : ∃ a : Nat, at' = a := ⟨at'.toNat, by omega⟩
    have ha : a < s.size := by omega
    rw [show ((a : Nat) : Int).toNat = a from rfl]
    have g0 : bt s ((a : Nat) : Int) = ((fb s a 0 : Nat) : Int) := by unfold fb; exact bt_get s a
    have l0 := fb_lt s a 0
    refine brk_false (by simp; omega) ?_
    (conv => whnf)
    refine ⟨by omega, by omega, ?_⟩
    (conv => whnf)
    rw [g0, wrap_id (x := ((fb s a 0 : Nat) : Int)) (by omega) (by omega)]
    obtain ⟨C, hC⟩ : ∃ C : Int, C = ((fb s a 0 : Nat) : Int) := ⟨_, rfl⟩
    rw [← hC]
    have post : ∀ (c : Int) (n : Nat), cd s a = c → wd s a = n → m = m ∧ Value.tuple #[.int .i64 c, .int .i64 ((n : Nat) : Int)] = .tuple #[.int .i64 (cd s a), .int .i64 ((wd s a : Nat) : Int)] := fun c n h1 h2 => ⟨rfl, by rw [h1, h2]⟩
    refine join_keep [0, 1] (Nat × Nat) (fun t => [(6, .v (.int .i64 ((t.1 : Nat) : Int))), (7, .v (.int .i64 ((t.2 : Nat) : Int)))]) (fun _ => m) (fun t => t = hdN (fb s a 0) ∧ ¬ fb s a 0 < 128) ?_
    (conv => whnf)
    refine ⟨?_, ?_⟩
    · refine brk_intro (fun c1 => ?_) (fun c1 => ?_)
      · have c1 : fb s a 0 < 128 := by have : C < 128 := (by simpa using c1); omega
        (conv => whnf)
        refine ⟨rfl, ?_⟩
        unfold cd wd
        rw [dec_small c1, if_neg (by simp only; omega), hC]
        rfl
      · have c1 : ¬ fb s a 0 < 128 := by have : ¬ C < 128 := (by simpa using c1); omega
        have w2 : IntKind.i64.wrap (C - 192) = C - 192 := wrap_id (by omega) (by omega)
        have w3 : IntKind.i64.wrap (C - 224) = C - 224 := wrap_id (by omega) (by omega)
        have w4 : IntKind.i64.wrap (C - 240) = C - 240 := wrap_id (by omega) (by omega)
        (conv => whnf)
        by_cases g1 : 192 ≤ C ∧ C < 224
        · have hd : hdN (fb s a 0) = (2, fb s a 0 - 192) := by unfold hdN; rw [if_pos (by omega)]
          refine brk_true (by simpa using g1.1) ?_
          (conv => whnf)
          refine brk_true (by simpa using g1.2) ?_
          (conv => whnf)
          rw [w2, show C - 192 = ((fb s a 0 - 192 : Nat) : Int) by omega]
          exact ⟨(2, fb s a 0 - 192), le_eq ⟨rfl, rfl, rfl, rfl, trivial⟩ rfl rfl rfl, hd.symm, c1⟩
        · have step : ∀ Q : Prop, ((¬ (192 ≤ C ∧ C < 224)) → Q) → Q := fun Q h => h g1
          by_cases g0 : 192 ≤ C
          · refine brk_true (by simpa using g0) ?_
            (conv => whnf)
            refine brk_false (by simp; omega) ?_
            (conv => whnf)
            refine brk_true (by simp; omega) ?_
            (conv => whnf)
            by_cases g2 : C < 240
            · have hd : hdN (fb s a 0) = (3, fb s a 0 - 224) := by unfold hdN; rw [if_neg (by omega), if_pos (by omega)]
              refine brk_true (by simpa using g2) ?_
              (conv => whnf)
              rw [w3, show C - 224 = ((fb s a 0 - 224 : Nat) : Int) by omega]
              exact ⟨(3, fb s a 0 - 224), le_eq ⟨rfl, rfl, rfl, rfl, trivial⟩ rfl rfl rfl, hd.symm, c1⟩
            · refine brk_false (by simpa using g2) ?_
              (conv => whnf)
              refine brk_true (by simp; omega) ?_
              (conv => whnf)
              by_cases g3 : C < 248
              · have hd : hdN (fb s a 0) = (4, fb s a 0 - 240) := by unfold hdN; rw [if_neg (by omega), if_neg (by omega), if_pos (by omega)]
                refine brk_true (by simpa using g3) ?_
                (conv => whnf)
                rw [w4, show C - 240 = ((fb s a 0 - 240 : Nat) : Int) by omega]
                exact ⟨(4, fb s a 0 - 240), le_eq ⟨rfl, rfl, rfl, rfl, trivial⟩ rfl rfl rfl, hd.symm, c1⟩
              · have hd : hdN (fb s a 0) = (0, fb s a 0) := by unfold hdN; rw [if_neg (by omega), if_neg (by omega), if_neg (by omega)]
                refine brk_false (by simpa using g3) ?_
                (conv => whnf)
                rw [hC]
                exact ⟨(0, fb s a 0), le_eq ⟨rfl, rfl, rfl, rfl, trivial⟩ rfl rfl rfl, hd.symm, c1⟩
          · have hd : hdN (fb s a 0) = (0, fb s a 0) := by unfold hdN; rw [if_neg (by omega), if_neg (by omega), if_neg (by omega)]
            refine brk_false (by simpa using g0) ?_
            (conv => whnf)
            refine brk_false (by simp; omega) ?_
            (conv => whnf)
            refine brk_false (by simp; omega) ?_
            (conv => whnf)
            rw [hC]
            exact ⟨(0, fb s a 0), le_eq ⟨rfl, rfl, rfl, rfl, trivial⟩ rfl rfl rfl, hd.symm, c1⟩
    · rintro ⟨n, c⟩ ⟨hh, c1⟩
      have hN : (hdN (fb s a 0)).1 = n := by rw [← hh]
      have hC0 : (hdN (fb s a 0)).2 = c := by rw [← hh]
      have hle := hdN_le l0
      rw [hN, hC0] at hle
      have bad' : (n = 0 ∨ s.size - a < n ∨ ∃ j, 1 ≤ j ∧ j < n ∧ ¬ cont (fb s a j)) → cd s a = -1 ∧ wd s a = 1 := fun hb => cd_no (dec_bad c1 (by rw [hN]; exact hb))
      by_cases hn0 : n = 0
      · obtain ⟨b1, b2⟩ := bad' (.inl hn0)
        (conv => whnf)
        refine brk_false (by simp [hn0]) ?_
        (conv => whnf)
        exact post (-1) 1 b1 b2
      · (conv => whnf)
        refine brk_true (by simp; omega) ?_
        (conv => whnf)
        have w5 : IntKind.i64.wrap (((s.size : Nat) : Int) - ((a : Nat) : Int)) = ((s.size : Nat) : Int) - ((a : Nat) : Int) := wrap_id (by omega) (by omega)
        refine brk_intro (fun c2 => ?_) (fun c2 => ?_)
        · have c2 : s.size - a < n := by rw [w5] at c2; have := of_decide_eq_true (by simpa using c2); omega
          obtain ⟨b1, b2⟩ := bad' (.inr (.inl c2))
          (conv => whnf)
          exact post (-1) 1 b1 b2
        · have c2 : ¬ s.size - a < n := by rw [w5] at c2; have c2 : ((n : Nat) : Int) ≤ ((s.size : Nat) : Int) - ((a : Nat) : Int) := (by simpa using c2); omega
          (conv => whnf)
          refine loop_keep [0, 1, 6] Nat (fun j => [(8, .v (.int .i64 ((j + 1 : Nat) : Int))), (7, .v (.int .i64 ((acc c (fb s a) j : Nat) : Int)))]) (fun _ => []) (fun _ => m) (fun j => j < n ∧ ∀ k, 1 ≤ k → k ≤ j → cont (fb s a k)) (fun j => n - j) 0 (by rw [show acc c (fb s a) 0 = c by unfold acc; rfl]; exact ⟨rfl, rfl, trivial⟩) rfl rfl ⟨by omega, fun k h1 h2 => by omega⟩ ?_
          (conv => whnf)
          refine ⟨rfl, ?_⟩
          intro j hj
          (conv => whnf)
          refine brk_intro (fun c3 => ?_) (fun c3 => ?_)
          · have c3 : j + 1 < n := by have : ((j + 1 : Nat) : Int) < ((n : Nat) : Int) := (by simpa using c3); omega
            (conv => whnf)
            have w6 : IntKind.i64.wrap (((a : Nat) : Int) + ((j + 1 : Nat) : Int)) = ((a + (j + 1) : Nat) : Int) := by rw [wrap_id (by omega) (by omega)]; omega
            rw [w6]
            refine ⟨by omega, by omega, ?_⟩
            (conv => whnf)
            have gj : bt s ((a + (j + 1) : Nat) : Int) = ((fb s a (j + 1) : Nat) : Int) := by unfold fb; exact bt_get s (a + (j + 1))
            have lj := fb_lt s a (j + 1)
            rw [gj, wrap_id (x := ((fb s a (j + 1) : Nat) : Int)) (by omega) (by omega)]
            obtain ⟨D, hD⟩ : ∃ D : Int, D = ((fb s a (j + 1) : Nat) : Int) := ⟨_, rfl⟩
            rw [← hD]
            by_cases c4 : D < 128
            · obtain ⟨b1, b2⟩ := bad' (.inr (.inr ⟨j + 1, by omega, c3, fun h => by have := h.1; omega⟩))
              refine brk_false (by simpa using c4) ?_
              (conv => whnf)
              exact post (-1) 1 b1 b2
            · refine brk_true (by simpa using c4) ?_
              (conv => whnf)
              refine brk_intro (fun c5 => ?_) (fun c5 => ?_)
              · have c5 : 191 < D := by simpa using c5
                obtain ⟨b1, b2⟩ := bad' (.inr (.inr ⟨j + 1, by omega, c3, fun h => by have := h.2; omega⟩))
                (conv => whnf)
                exact post (-1) 1 b1 b2
              · have c5 : D ≤ 191 := by simpa using c5
                (conv => whnf)
                have ha3 := acc_lt (f := fb s a) (by rcases hle with h | h; (exact absurd h hn0); exact h.2.2) (fb_lt s a) j (by omega)
                have has : acc c (fb s a) (j + 1) = 64 * acc c (fb s a) j + fb s a (j + 1) - 128 := by conv => lhs; unfold acc
                have e1 : IntKind.i64.wrap (IntKind.i64.wrap (IntKind.i64.wrap (64 * ((acc c (fb s a) j : Nat) : Int)) + D) - 128) = ((acc c (fb s a) (j + 1) : Nat) : Int) := by
                  rw [wrap_id (x := 64 * ((acc c (fb s a) j : Nat) : Int)) (by omega) (by omega), wrap_id (x := 64 * ((acc c (fb s a) j : Nat) : Int) + D) (by omega) (by omega), wrap_id (by omega) (by omega), has, hD]
                  omega
                have e2 : IntKind.i64.wrap (((j + 1 : Nat) : Int) + 1) = ((j + 1 + 1 : Nat) : Int) := by rw [wrap_id (by omega) (by omega)]; omega
                rw [e1, e2]
                exact ⟨j + 1, le_eq ⟨rfl, rfl, rfl, rfl, rfl, trivial⟩ rfl rfl rfl, ⟨c3, fun k h1 h2 => by
                  by_cases hk : k = j + 1
                  · subst hk; exact ⟨by omega, by omega⟩
                  · exact hj.2 k h1 (by omega)⟩, by omega⟩
          · have c3 : ¬ j + 1 < n := by have : ¬ ((j + 1 : Nat) : Int) < ((n : Nat) : Int) := of_decide_eq_false c3; omega
            have hjn : j = n - 1 := by omega
            have hall := dec_all (n := n) hN (by omega) (by omega) (by omega) (fun k h1 h2 => hj.2 k h1 (by omega))
            rw [hC0, ← hjn] at hall
            (conv => whnf)
            refine FCalls.mono is_c ?_
            rintro v m1 ⟨rfl, rfl⟩
            (conv => whnf)
            by_cases c4 : isC ((acc c (fb s a) j : Nat) : Int)
            · refine brk_true (by rw [decide_eq_true c4]; rfl) ?_
              (conv => whnf)
              refine ⟨_, text_c (by have := c4.2.1; omega), ?_⟩
              (conv => whnf)
              have w7 : IntKind.i64.wrap (((a : Nat) : Int) + ((n : Nat) : Int)) = ((a + n : Nat) : Int) := by rw [wrap_id (by omega) (by omega)]; omega
              rw [w7]
              refine ⟨by omega, by omega, by omega, ?_⟩
              (conv => whnf)
              rw [toList_mk, show Int.toNat ((a + n : Nat) : Int) = a + n from rfl, show Int.toNat ((a : Nat) : Int) = a from rfl]
              by_cases c6 : enc (acc c (fb s a) j) = (s.extract a (a + n)).toList
              · have hok := cd_of (hall.trans (if_pos ⟨c4, c6⟩)) (by omega)
                refine brk_false (by simp [c6]) ?_
                (conv => whnf)
                exact post _ n hok.1 hok.2
              · have hbad := cd_no (hall.trans (if_neg fun q => c6 q.2))
                refine brk_true (by simp [c6]) ?_
                (conv => whnf)
                exact post (-1) 1 hbad.1 hbad.2
            · have hbad := cd_no (hall.trans (if_neg fun q => c4 q.1))
              refine brk_false (by rw [decide_eq_false c4]; rfl) ?_
              (conv => whnf)
              exact post (-1) 1 hbad.1 hbad.2
  · rw [if_neg h]
    by_cases h0 : at' < 0
    · refine brk_false (by simp; omega) ?_
      (conv => whnf)
      exact ⟨rfl, rfl⟩
    · refine brk_true (by simp; omega) ?_
      (conv => whnf)
      refine brk_true (by simp; omega) ?_
      (conv => whnf)
      exact ⟨rfl, rfl⟩
end Go.Proofs.YtlnekbdcbkndbaaDoor
