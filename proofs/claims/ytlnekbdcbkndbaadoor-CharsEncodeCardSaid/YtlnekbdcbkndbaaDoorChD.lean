/- Chars: the document's Is, text; laws of its Next. -/
import Derived.Test.YtlnekbdcbkndbaaDoorChC
namespace Go.Proofs.YtlnekbdcbkndbaaDoor
open Go Go.Mv
set_option maxHeartbeats 2000000
set_option maxRecDepth 10000
set_option linter.unusedVariables false
set_option linter.unusedSimpArgs false
attribute [local irreducible] FCalls IntKind.wrap bits Mem.set Mem.setCell Mem.setCells YCalls RunP NextP
def isC (c : Int) : Prop := 0 ≤ c ∧ c ≤ 1114111 ∧ (c < 55296 ∨ 57343 < c)
instance (c : Int) : Decidable (isC c) := by unfold isC; infer_instance
theorem is_c {m : Mem} {c : Int} : FCalls Tryd.prog 31 [.int .i64 c] m fun v m' => v = .bool (decide (isC c)) ∧ m' = m := by
  refine fcalls_of_vc (T := tbl) (B := bodies) (pr := [99999]) (DR := dr31) (args := [.v (.int .i64 c)]) tbl_ok bodies_ok mixed Tryd.func31 rfl (by decide +kernel) (by simp [Tryd.f31]) rfl ?_
  (conv => whnf)
  have no : ¬ isC c → (Value.bool false = Value.bool (decide (isC c)) ∧ m = m) := fun h => ⟨by rw [decide_eq_false h], rfl⟩
  by_cases h0 : 0 ≤ c
  · refine brk_true (by simpa using h0) ?_
    (conv => whnf)
    by_cases h1 : c ≤ 1114111
    · refine brk_true (by simpa using h1) ?_
      (conv => whnf)
      by_cases h2 : c < 55296
      · refine brk_false (by simp; omega) ?_
        (conv => whnf)
        refine ⟨?_, rfl⟩
        rw [decide_eq_true (show isC c from ⟨h0, h1, .inl h2⟩)]
        first | rfl | (show Value.bool _ = _; congr 1; simp [h0, h1, h2])
      · refine brk_true (by simp; omega) ?_
        (conv => whnf)
        refine ⟨?_, rfl⟩
        show Value.bool _ = _
        congr 1
        unfold isC
        simp [h0, h1, h2]
    · refine brk_false (by simpa using h1) ?_
      (conv => whnf)
      refine ⟨?_, rfl⟩
      rw [decide_eq_false (show ¬ isC c from fun h => h1 h.2.1)]
      first | rfl | (show Value.bool _ = _; congr 1; simp [h1])
  · refine brk_false (by simpa using h0) ?_
    (conv => whnf)
    refine ⟨?_, rfl⟩
    rw [decide_eq_false (show ¬ isC c from fun h => h0 h.1)]
    first | rfl | (show Value.bool _ = _; congr 1; simp [h0])
/-- A character's bytes. -/
def enc (c : Nat) : List UInt8 :=
  if c < 128 then [UInt8.ofNat c]
  else if c < 2048 then [UInt8.ofNat (192 + c / 64), UInt8.ofNat (128 + c % 64)]
  else if c < 65536 then [UInt8.ofNat (224 + c / 4096), UInt8.ofNat (128 + c / 64 % 64), UInt8.ofNat (128 + c % 64)]
  else [UInt8.ofNat (240 + c / 262144), UInt8.ofNat (128 + c / 4096 % 64), UInt8.ofNat (128 + c / 64 % 64), UInt8.ofNat (128 + c % 64)]
theorem u8n (n : Nat) (h : n < 256) : (UInt8.ofNat n).toNat = n := UInt8.toNat_ofNat_of_lt' (by exact h)
theorem td (c k : Nat) : ((c : Nat) : Int).tdiv ((k : Nat) : Int) = ((c / k : Nat) : Int) := by
  rw [Int.tdiv_eq_ediv_of_nonneg (Int.natCast_nonneg _)]
  exact (Int.natCast_ediv c k).symm
theorem tm' (c k : Nat) : ((c : Nat) : Int).tmod ((k : Nat) : Int) = ((c % k : Nat) : Int) := by
  rw [Int.tmod_eq_emod_of_nonneg (Int.natCast_nonneg _)]
  exact (Int.natCast_emod c k).symm
theorem text_c {m : Mem} {c : Nat} (hc : c ≤ 1114111) : FCalls Tryd.prog 32 [.int .i64 ((c : Nat) : Int)] m fun v m' => v = .string ⟨(enc c).toArray⟩ ∧ m' = m := by
  refine FCalls.less ?_
  have w8 : ∀ n : Nat, n < 256 → IntKind.u8.wrap ((n : Nat) : Int) = (((UInt8.ofNat n).toNat : Nat) : Int) := fun n h => by rw [wraps_u8 _ (by omega) (by omega), u8n n h]
  have w64 : ∀ n : Nat, n < 1000 → IntKind.i64.wrap ((n : Nat) : Int) = ((n : Nat) : Int) := fun n h => wrap_id (by omega) (by omega)
  obtain ⟨C, hC⟩ : ∃ C : Int, C = ((c : Nat) : Int) := ⟨_, rfl⟩
  have q1 : C.tdiv 64 = ((c / 64 : Nat) : Int) := by rw [hC]; exact td c 64
  have q2 : C.tdiv 4096 = ((c / 4096 : Nat) : Int) := by rw [hC]; exact td c 4096
  have q3 : C.tdiv 262144 = ((c / 262144 : Nat) : Int) := by rw [hC]; exact td c 262144
  have s1 : IntKind.i64.wrap ((c / 64 : Nat) : Int) = ((c / 64 : Nat) : Int) := wrap_id (by omega) (by omega)
  have s2 : IntKind.i64.wrap ((c / 4096 : Nat) : Int) = ((c / 4096 : Nat) : Int) := wrap_id (by omega) (by omega)
  have s3 : IntKind.i64.wrap ((c / 262144 : Nat) : Int) = ((c / 262144 : Nat) : Int) := wrap_id (by omega) (by omega)
  have r1 : C.tmod 64 = ((c % 64 : Nat) : Int) := by rw [hC]; exact tm' c 64
  have r2 : ((c / 64 : Nat) : Int).tmod 64 = ((c / 64 % 64 : Nat) : Int) := tm' (c / 64) 64
  have r3 : ((c / 4096 : Nat) : Int).tmod 64 = ((c / 4096 % 64 : Nat) : Int) := tm' (c / 4096) 64
  have by' : ∀ a n : Nat, a + n < 256 → IntKind.u8.wrap (IntKind.i64.wrap (((a : Nat) : Int) + ((n : Nat) : Int))) = (((UInt8.ofNat (a + n)).toNat : Nat) : Int) := fun a n h => by
    rw [show ((a : Nat) : Int) + ((n : Nat) : Int) = ((a + n : Nat) : Int) by omega, w64 _ (by omega), w8 _ h]
  rw [← hC]
  refine fcalls_of_vc (T := tbl) (B := bodies) (pr := [99999]) (DR := dr32) (args := [.v (.int .i64 C)]) tbl_ok bodies_ok mixed Tryd.func32 rfl (by decide +kernel) (by simp [Tryd.f32]) rfl ?_
  (conv => whnf)
  refine brk_intro (fun c1 => ?_) (fun c1 => ?_)
  · have c1 : c < 128 := by have : C < 128 := (by simpa using c1); omega
    have he : enc c = [UInt8.ofNat c] := by unfold enc; rw [if_pos c1]
    (conv => whnf)
    intro nb m1 hb h1
    rw [hC, w8 c (by omega)] at h1
    have h := (Sep.init m).new' (l := byteVals (enc c)) hb (h1.trans (by rw [he]; rfl))
    have hB : m1.holds ⟨nb, 0, none⟩ (byteVals (enc c)) := (h.blk 0 rfl).holds fun k v hk => by rw [Nat.zero_add]; exact hk
    (conv => whnf)
    refine ⟨enc c, by rw [he]; rfl, .inr ⟨_, rfl, hB⟩, ?_⟩
    (conv => whnf)
    exact ⟨m, fun k o hk => h.kept 1 rfl k o hk, rfl, rfl⟩
  · have c1 : ¬ c < 128 := by have : ¬ C < 128 := (by simpa using c1); omega
    (conv => whnf)
    refine brk_intro (fun c2 => ?_) (fun c2 => ?_)
    · have c2 : c < 2048 := by have : C < 2048 := (by simpa using c2); omega
      have he : enc c = [UInt8.ofNat (192 + c / 64), UInt8.ofNat (128 + c % 64)] := by unfold enc; rw [if_neg c1, if_pos c2]
      (conv => whnf)
      refine ⟨by decide, ?_⟩
      (conv => whnf)
      refine ⟨by decide, ?_⟩
      (conv => whnf)
      intro nb m1 hb h1
      simp only [q1, q2, q3, s1, s2, s3, r1, r2, r3] at h1
      have e0 : IntKind.u8.wrap (IntKind.i64.wrap (192 + ((c / 64 : Nat) : Int))) = (((UInt8.ofNat (192 + c / 64)).toNat : Nat) : Int) := by' 192 (c / 64) (by omega)
      have e1 : IntKind.u8.wrap (IntKind.i64.wrap (128 + ((c % 64 : Nat) : Int))) = (((UInt8.ofNat (128 + c % 64)).toNat : Nat) : Int) := by' 128 (c % 64) (by omega)
      rw [e0, e1] at h1
      have h := (Sep.init m).new' (l := byteVals (enc c)) hb (h1.trans (by rw [he]; rfl))
      have hB : m1.holds ⟨nb, 0, none⟩ (byteVals (enc c)) := (h.blk 0 rfl).holds fun k v hk => by rw [Nat.zero_add]; exact hk
      (conv => whnf)
      refine ⟨enc c, by rw [he]; rfl, .inr ⟨_, rfl, hB⟩, ?_⟩
      (conv => whnf)
      exact ⟨m, fun k o hk => h.kept 1 rfl k o hk, rfl, rfl⟩
    · have c2 : ¬ c < 2048 := by have : ¬ C < 2048 := (by simpa using c2); omega
      (conv => whnf)
      refine brk_intro (fun c3 => ?_) (fun c3 => ?_)
      · have c3 : c < 65536 := by have : C < 65536 := (by simpa using c3); omega
        have he : enc c = [UInt8.ofNat (224 + c / 4096), UInt8.ofNat (128 + c / 64 % 64), UInt8.ofNat (128 + c % 64)] := by unfold enc; rw [if_neg c1, if_neg c2, if_pos c3]
        (conv => whnf)
        refine ⟨by decide, ?_⟩
        (conv => whnf)
        refine ⟨by decide, ?_⟩
        (conv => whnf)
        refine ⟨by decide, ?_⟩
        (conv => whnf)
        refine ⟨by decide, ?_⟩
        (conv => whnf)
        intro nb m1 hb h1
        simp only [q1, q2, q3, s1, s2, s3, r1, r2, r3] at h1
        have e0 : IntKind.u8.wrap (IntKind.i64.wrap (224 + ((c / 4096 : Nat) : Int))) = (((UInt8.ofNat (224 + c / 4096)).toNat : Nat) : Int) := by' 224 (c / 4096) (by omega)
        have e1 : IntKind.u8.wrap (IntKind.i64.wrap (128 + ((c / 64 % 64 : Nat) : Int))) = (((UInt8.ofNat (128 + c / 64 % 64)).toNat : Nat) : Int) := by' 128 (c / 64 % 64) (by omega)
        have e2 : IntKind.u8.wrap (IntKind.i64.wrap (128 + ((c % 64 : Nat) : Int))) = (((UInt8.ofNat (128 + c % 64)).toNat : Nat) : Int) := by' 128 (c % 64) (by omega)
        rw [e0, e1, e2] at h1
        have h := (Sep.init m).new' (l := byteVals (enc c)) hb (h1.trans (by rw [he]; rfl))
        have hB : m1.holds ⟨nb, 0, none⟩ (byteVals (enc c)) := (h.blk 0 rfl).holds fun k v hk => by rw [Nat.zero_add]; exact hk
        (conv => whnf)
        refine ⟨enc c, by rw [he]; rfl, .inr ⟨_, rfl, hB⟩, ?_⟩
        (conv => whnf)
        exact ⟨m, fun k o hk => h.kept 1 rfl k o hk, rfl, rfl⟩
      · have c3 : ¬ c < 65536 := by have : ¬ C < 65536 := (by simpa using c3); omega
        have he : enc c = [UInt8.ofNat (240 + c / 262144), UInt8.ofNat (128 + c / 4096 % 64), UInt8.ofNat (128 + c / 64 % 64), UInt8.ofNat (128 + c % 64)] := by unfold enc; rw [if_neg c1, if_neg c2, if_neg c3]
        (conv => whnf)
        refine ⟨by decide, ?_⟩
        (conv => whnf)
        refine ⟨by decide, ?_⟩
        (conv => whnf)
        refine ⟨by decide, ?_⟩
        (conv => whnf)
        refine ⟨by decide, ?_⟩
        (conv => whnf)
        refine ⟨by decide, ?_⟩
        (conv => whnf)
        refine ⟨by decide, ?_⟩
        (conv => whnf)
        intro nb m1 hb h1
        simp only [q1, q2, q3, s1, s2, s3, r1, r2, r3] at h1
        have e0 : IntKind.u8.wrap (IntKind.i64.wrap (240 + ((c / 262144 : Nat) : Int))) = (((UInt8.ofNat (240 + c / 262144)).toNat : Nat) : Int) := by' 240 (c / 262144) (by omega)
        have e1 : IntKind.u8.wrap (IntKind.i64.wrap (128 + ((c / 4096 % 64 : Nat) : Int))) = (((UInt8.ofNat (128 + c / 4096 % 64)).toNat : Nat) : Int) := by' 128 (c / 4096 % 64) (by omega)
        have e2 : IntKind.u8.wrap (IntKind.i64.wrap (128 + ((c / 64 % 64 : Nat) : Int))) = (((UInt8.ofNat (128 + c / 64 % 64)).toNat : Nat) : Int) := by' 128 (c / 64 % 64) (by omega)
        have e3 : IntKind.u8.wrap (IntKind.i64.wrap (128 + ((c % 64 : Nat) : Int))) = (((UInt8.ofNat (128 + c % 64)).toNat : Nat) : Int) := by' 128 (c % 64) (by omega)
        rw [e0, e1, e2, e3] at h1
        have h := (Sep.init m).new' (l := byteVals (enc c)) hb (h1.trans (by rw [he]; rfl))
        have hB : m1.holds ⟨nb, 0, none⟩ (byteVals (enc c)) := (h.blk 0 rfl).holds fun k v hk => by rw [Nat.zero_add]; exact hk
        (conv => whnf)
        refine ⟨enc c, by rw [he]; rfl, .inr ⟨_, rfl, hB⟩, ?_⟩
        (conv => whnf)
        exact ⟨m, fun k o hk => h.kept 1 rfl k o hk, rfl, rfl⟩
end Go.Proofs.YtlnekbdcbkndbaaDoor
