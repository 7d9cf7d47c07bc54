/- Chars: Next, Column, Valid. -/
import Derived.Test.YtlnekbdcbkndbaaDoorChA
import Derived.Test.YtlnekbdcbkndbaaDoorChV
namespace Go.Proofs.YtlnekbdcbkndbaaDoor
open Go Go.Mv
set_option maxHeartbeats 2000000
set_option maxRecDepth 10000
set_option linter.unusedVariables false
set_option linter.unusedSimpArgs false
attribute [local irreducible] FCalls IntKind.wrap bits Mem.set Mem.setCell Mem.setCells YCalls RunP NextP
theorem ne_empty {s : ByteArray} (h : 1 ≤ s.size) : (s.toList == []) = false := by
  rw [Lib.toList_data]
  cases h2 : s.data.toList with
  | nil =>
    have : s.size = 0 := by
      show s.data.toList.length = 0
      rw [h2]
      rfl
    omega
  | cons _ _ => rfl
theorem empty_list : (⟨#[]⟩ : ByteArray).toList = [] := by rw [Lib.toList_data]
theorem dec_c {m : Mem} (hU : U8 m) {s : ByteArray} (hn : 1 ≤ s.size) (hs : s.size < 2 ^ 62) : FCalls Tryd.prog 33 [.string s] m fun v m' => v = .tuple #[.int .i32 (((Utf8.decode s 0).1 : Nat) : Int), .int .i64 (((Utf8.decode s 0).2 : Nat) : Int)] ∧ m' = m := by
  have g0 : bt s 0 = _ := bt_get s 0
  refine fcalls_of_vc (T := tbl) (B := bodies) (pr := [99999]) (DR := dr33) (args := [.v (.string s)]) tbl_ok bodies_ok mixed Tryd.func33 rfl (by decide +kernel) (by simp [Tryd.f33]) rfl ?_
  (conv => whnf)
  refine brk_true (by rw [empty_list, ne_empty hn]; rfl) ?_
  (conv => whnf)
  refine ⟨by omega, by omega, ?_⟩
  (conv => whnf)
  rw [g0]
  have l0 := (s.get! 0).toNat_lt
  refine brk_intro (fun c1 => ?_) (fun c1 => ?_)
  · have c1 : (((s.get! 0).toNat : Nat) : Int) < 128 := by simpa using c1
    (conv => whnf)
    refine ⟨by omega, by omega, ?_⟩
    (conv => whnf)
    rw [g0]
    refine ⟨?_, rfl⟩
    rw [Lib.decode_at]
    unfold Lib.decodeN
    rw [if_pos (by omega), wraps_i32 _ (by omega) (by omega)]
    rfl
  · (conv => whnf)
    refine FCalls.mono (slow_c hU hn hs) ?_
    rintro v m' ⟨rfl, rfl⟩
    (conv => whnf)
    exact ⟨rfl, rfl⟩
theorem valid_c {m : Mem} {r n : Nat} : FCalls Tryd.prog 34 [.int .i32 ((r : Nat) : Int), .int .i64 ((n : Nat) : Int)] m fun v m' => v = .bool (!decide (r = 65533 ∧ n ≤ 1)) ∧ m' = m := by
  refine fcalls_of_vc (T := tbl) (B := bodies) (pr := [99999]) (DR := dr34) (args := [.v (.int .i32 ((r : Nat) : Int)), .v (.int .i64 ((n : Nat) : Int))]) tbl_ok bodies_ok mixed Tryd.func34 rfl (by decide +kernel) (by simp [Tryd.f34]) rfl ?_
  (conv => whnf)
  by_cases h : r = 65533
  · refine brk_true (by simp [h]) ?_
    (conv => whnf)
    refine ⟨?_, rfl⟩
    subst h
    by_cases h2 : n ≤ 1
    · simp [h2]
      show Value.bool _ = _
      congr 1
      simp
      omega
    · simp [h2]
      show Value.bool _ = _
      congr 1
      simp
      omega
  · refine brk_false (by simp; omega) ?_
    (conv => whnf)
    refine ⟨?_, rfl⟩
    show Value.bool _ = _
    congr 1
    simp
    omega
theorem next_c {m : Mem} (hU : U8 m) {s : ByteArray} (hs : s.size < 2 ^ 62) {at' : Int} : FCalls Tryd.prog 18 [.string s, .int .i64 at'] m fun v m' => m' = m ∧
    v = (if 0 ≤ at' ∧ at' < s.size then .tuple #[.int .i64 (cd s at'.toNat), .int .i64 ((wd s at'.toNat : Nat) : Int)] else .tuple #[.int .i64 0, .int .i64 0]) := by
  refine fcalls_of_vc (T := tbl) (B := bodies) (pr := [99999]) (DR := dr18) (args := [.v (.string s), .v (.int .i64 at')]) tbl_ok bodies_ok mixed Tryd.func18 rfl (by decide +kernel) (by simp [Tryd.f18]) rfl ?_
  (conv => whnf)
  by_cases h : 0 ≤ at' ∧ at' < s.size
  · rw [if_pos h]
    obtain ⟨a, rfl⟩ : ∃ a : Nat, at' = a := ⟨at'.toNat, by omega⟩
    have ha : a < s.size := by omega
    rw [show ((a : Nat) : Int).toNat = a from rfl]
    refine brk_false (by simp; omega) ?_
    (conv => whnf)
    refine ⟨Int.natCast_nonneg _, by omega, by omega, ?_⟩
    (conv => whnf)
    have hc : (s.extract (Int.toNat ((a : Nat) : Int)) (Int.toNat ((s.size : Nat) : Int))) = s.extract a s.size := rfl
    rw [hc]
    have hsz : (s.extract a s.size).size = s.size - a := by rw [ByteArray.size_extract]; omega
    refine FCalls.mono (dec_c hU (by rw [hsz]; omega) (by rw [hsz]; omega)) ?_
    rintro v m' ⟨rfl, rfl⟩
    rw [dec_cut (by omega)]
    have hf := dec_facts ha
    (conv => whnf)
    refine FCalls.mono valid_c ?_
    rintro v m' ⟨rfl, rfl⟩
    unfold cd wd
    by_cases hb : (Utf8.decode s a).1 = 65533 ∧ (Utf8.decode s a).2 ≤ 1
    · rw [if_pos hb, decide_eq_true hb]
      (conv => whnf)
      refine ⟨rfl, ?_⟩
      rw [show (Utf8.decode s a).2 = 1 by omega]
      rfl
    · rw [if_neg hb, decide_eq_false hb]
      (conv => whnf)
      refine ⟨rfl, ?_⟩
      rw [wrap_id (by omega) (by omega)]
      rfl
  · rw [if_neg h]
    by_cases h0 : at' < 0
    · refine brk_false (by simp; omega) ?_
      (conv => whnf)
      exact ⟨rfl, rfl⟩
    · refine brk_true (by simp; omega) ?_
      (conv => whnf)
      refine brk_true (by simp; omega) ?_
      (conv => whnf)
      exact ⟨rfl, rfl⟩
/-- A text being gone over. -/
def it (b : Nat) (s : ByteArray) (pos : Nat) : Asn := fun m => m b = some (.stringIter s pos)
theorem it_new {L : List Asn} {m m2 : Mem} (h : Sep L m) {b : Nat} {s : ByteArray} {pos : Nat} (hb : m b = none) (he : m2 = m.set b (.stringIter s pos)) : Sep (it b s pos :: L) m2 := by
  subst he
  refine ⟨Go.Mv.one b (.stringIter s pos), m, fun k => ?_, fun k o hk => ?_, Mem.le_set hb, by simp [it, Go.Mv.one], h⟩
  · by_cases hk : k = b
    · exact .inr (hk ▸ hb)
    · exact .inl (by simp [Go.Mv.one, hk])
  · simp only [Go.Mv.one] at hk
    split at hk
    · rename_i hkb
      subst hkb
      simpa [Mem.set] using hk
    · cases hk
theorem it_get {L : List Asn} {m : Mem} (h : Sep L m) (j : Nat) {b : Nat} {s : ByteArray} {pos : Nat} (hj : L[j]? = some (it b s pos)) : m b = some (.stringIter s pos) := by
  obtain ⟨m1, h1, h2⟩ := h.get j hj
  exact h1 _ _ h2
theorem it_put {L : List Asn} {m m2 : Mem} (h : Sep L m) (j : Nat) {b : Nat} {s : ByteArray} {pos p2 : Nat} (hj : L[j]? = some (it b s pos)) (he : m2 = m.set b (.stringIter s p2)) : Sep (L.set j (it b s p2)) m2 := by
  subst he
  refine h.step j hj fun m1 hm hA => ⟨m1.set b (.stringIter s p2), by simp [it, Mem.set], fun k o hk => ?_, fun k hk => .inl fun hn => ?_, fun k o hk hn => ?_⟩
  · by_cases hkb : k = b
    · subst hkb
      simpa [Mem.set] using hk
    · rw [Mem.set_ne hkb] at hk ⊢
      exact hm k o hk
  · by_cases hkb : k = b
    · subst hkb
      rw [show m1 k = _ from hA] at hn
      cases hn
    · rw [Mem.set_ne hkb] at hk
      exact hk hn
  · by_cases hkb : k = b
    · subst hkb
      rw [show m1 k = _ from hA] at hn
      cases hn
    · rw [Mem.set_ne hkb]
      exact hk
theorem column_c {m : Mem} {s : ByteArray} (hs : s.size < 2 ^ 62) {at' : Int} : FCalls Tryd.prog 19 [.string s, .int .i64 at'] m fun v m' => v = .int .i64 (((ps s 0).filter fun x => decide (((x : Nat) : Int) < at')).length : Nat) ∧ m.le m' := by
  refine fcalls_of_vc (T := tbl) (B := bodies) (pr := [99999]) (DR := dr19) (args := [.v (.string s), .v (.int .i64 at')]) tbl_ok bodies_ok mixed Tryd.func19 rfl (by decide +kernel) (by simp [Tryd.f19]) rfl ?_
  (conv => whnf)
  refine range_str Tryd.underlying9 fun b m2 hb he => ?_
  have h := it_new (Sep.init m) hb he
  clear hb he
  have hbd := ps_len (s := s) (i := 0)
  (conv => whnf)
  refine loop_keep [0, 1, 8] (Nat × Nat × Mem) (fun t => [(5, .v (.int .i64 ((t.2.1 : Nat) : Int)))]) (fun _ => []) (fun t => t.2.2)
    (fun t => t.2.1 + ((ps s t.1).filter fun x => decide (((x : Nat) : Int) < at')).length = ((ps s 0).filter fun x => decide (((x : Nat) : Int) < at')).length ∧ Sep [it b s t.1, kp m] t.2.2) (fun t => s.size - t.1)
    (0, 0, m2) ⟨rfl, trivial⟩ rfl rfl ⟨Nat.zero_add _, h⟩ ?_
  clear h
  (conv => whnf)
  refine ⟨rfl, ?_⟩
  rintro ⟨i, n, M⟩ ⟨hJ, h⟩
  simp only at hJ h
  have hall := List.length_filter_le (fun x => decide (((x : Nat) : Int) < at')) (ps s 0)
  (conv => whnf)
  refine next_str (ty := 0) (it_get h 0 rfl) (fun hp m3 he => ?_) (fun hp => ?_)
  · replace h := it_put h 0 rfl he
    rw [ps_step hp] at hJ
    have hw := wd_pos hp
    (conv => whnf)
    refine brk_intro (fun c1 => ?_) (fun c1 => ?_)
    · have c1 : at' ≤ (i : Int) := by simpa using c1
      have h0 : ((i :: ps s (i + wd s i)).filter fun x => decide (((x : Nat) : Int) < at')) = [] := by
        rw [List.filter_eq_nil_iff]
        intro x hx
        have := ps_ge (s := s) (i := i) x (by rw [ps_step hp]; exact hx)
        simp
        omega
      rw [h0] at hJ
      (conv => whnf)
      refine ⟨?_, h.kept 1 rfl⟩
      rw [← hJ]
      rfl
    · have c1 : ¬ at' ≤ (i : Int) := by simpa using c1
      rw [List.filter_cons, if_pos (by simp; omega), List.length_cons] at hJ
      (conv => whnf)
      refine ⟨(i + wd s i, n + 1, m3), le_eq ⟨by show some (AV.v (.int .i64 (IntKind.i64.wrap ((n : Int) + 1)))) = _; rw [wrap_id (by omega) (by omega)]; rfl, rfl, rfl, rfl, trivial⟩ rfl rfl rfl, ⟨by simp only; omega, h⟩, by simp only; omega⟩
  · rw [ps_end hp] at hJ
    (conv => whnf)
    refine ⟨?_, h.kept 1 rfl⟩
    rw [← hJ]
    rfl
end Go.Proofs.YtlnekbdcbkndbaaDoor
