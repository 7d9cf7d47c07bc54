/- Chars: plain, Shown. -/
import Derived.Test.YtlnekbdcbkndbaaDoorChM
namespace Go.Proofs.YtlnekbdcbkndbaaDoor
open Go Go.Mv
set_option maxHeartbeats 2000000
set_option maxRecDepth 10000
set_option linter.unusedVariables false
set_option linter.unusedSimpArgs false
attribute [local irreducible] FCalls IntKind.wrap bits Mem.set Mem.setCell Mem.setCells YCalls RunP NextP
theorem plain_c {m : Mem} {c : Int} : FCalls Tryd.prog 35 [.int .i32 c] m fun v m' => v = .bool (decide (plainC c)) ∧ m' = m := by
  refine fcalls_of_vc (T := tbl) (B := bodies) (pr := [99999]) (DR := dr35) (args := [.v (.int .i32 c)]) tbl_ok bodies_ok mixed Tryd.func35 rfl (by decide +kernel) (by simp [Tryd.f35]) rfl ?_
  (conv => whnf)
  have fin : ∀ b : Bool, b = decide (plainC c) → (Value.bool b = Value.bool (decide (plainC c)) ∧ m = m) := fun b h => ⟨by rw [h], rfl⟩
  by_cases h0 : 32 ≤ c
  · refine brk_true (by simpa using h0) ?_
    (conv => whnf)
    by_cases h1 : c < 127
    · refine brk_false (by simpa using h1) ?_
      (conv => whnf)
      refine fin _ ?_
      unfold plainC
      simp [h1, h0]
      first | done | omega
    · refine brk_true (by simpa using h1) ?_
      (conv => whnf)
      refine fin _ ?_
      unfold plainC
      simp [h1, h0]
      first | done | omega
  · refine brk_false (by simpa using h0) ?_
    (conv => whnf)
    refine fin _ ?_
    unfold plainC
    simp [h0]
    first | done | omega
theorem refplain_c {m : Mem} {c : Int} : FCalls Tryd.prog 37 [.int .i64 c] m fun v m' => v = .bool (decide (plainC c)) ∧ m' = m := by
  refine fcalls_of_vc (T := tbl) (B := bodies) (pr := [99999]) (DR := dr37) (args := [.v (.int .i64 c)]) tbl_ok bodies_ok mixed Tryd.func37 rfl (by decide +kernel) (by simp [Tryd.f37]) rfl ?_
  (conv => whnf)
  have fin : ∀ b : Bool, b = decide (plainC c) → (Value.bool b = Value.bool (decide (plainC c)) ∧ m = m) := fun b h => ⟨by rw [h], rfl⟩
  by_cases h0 : 32 ≤ c
  · refine brk_true (by simpa using h0) ?_
    (conv => whnf)
    by_cases h1 : c ≤ 126
    · refine brk_false (by simpa using h1) ?_
      (conv => whnf)
      refine fin _ ?_
      unfold plainC
      simp [h1, h0]
      first | done | omega
    · refine brk_true (by simpa using h1) ?_
      (conv => whnf)
      refine fin _ ?_
      unfold plainC
      simp [h1, h0]
      first | done | omega
  · refine brk_false (by simpa using h0) ?_
    (conv => whnf)
    refine fin _ ?_
    unfold plainC
    simp [h0]
    first | done | omega
/-- What is known of the laid tables. -/
def G (m : Mem) : Prop := U8 m ∧ Z4 m
theorem G.more {m m' : Mem} (h : G m) (hm : m.le m') : G m' := ⟨h.1.more hm, Mem.le_cell hm h.2⟩
theorem unitl_len {l : List UInt8} (h : l ≠ []) : (unitl l).length ≤ 4 * wdl l := by
  have hw := wdl_pos h
  have hfl : ∀ x : List UInt8, (x.flatMap esc).length = 4 * x.length := by
    intro x
    induction x with
    | nil => rfl
    | cons b r ih => show (esc b ++ r.flatMap esc).length = _; rw [List.length_append, ih]; simp [esc]; omega
  unfold unitl
  repeat' split
  · simp; omega
  · simp; omega
  · rw [wdl_enc_le h]; omega
  · rw [hfl, wdl_enc_le h]; omega
theorem bytes_cell {m : Mem} {b e cap j : Nat} {t : ByteArray} {x : UInt8} (h : m b = some (bytesObj t cap e)) (hx : (bl t)[j]? = some x) : m.cell ⟨b, j, none⟩ = some (.int .u8 ((x.toNat : Nat) : Int)) := by
  have hl := (List.getElem?_eq_some_iff.1 hx).1
  unfold Mem.cell
  rw [h]
  unfold bytesObj byteRow
  simp only [Option.isSome_none, Bool.false_eq_true, if_false, List.getElem?_toArray]
  have h2 : (byteVals t.data.toList)[j]? = some (.int .u8 ((x.toNat : Nat) : Int)) := by
    unfold byteVals
    rw [List.getElem?_map]
    show Option.map _ (bl t)[j]? = _
    rw [hx]
    rfl
  rw [List.getElem?_append_left (List.getElem?_eq_some_iff.1 h2).1]
  exact h2
theorem flat_esc (x : List UInt8) : (x.flatMap esc).length = 4 * x.length := by
  induction x with
  | nil => rfl
  | cons b r ih => show (esc b ++ r.flatMap esc).length = _; rw [List.length_append, ih]; simp [esc]; omega
theorem take_esc {l : List UInt8} {j : Nat} {x : UInt8} (h : l[j]? = some x) : (l.take (j + 1)).flatMap esc = (l.take j).flatMap esc ++ esc x := by
  rw [List.take_add_one, h, List.flatMap_append]
  simp
theorem esc_str (x : UInt8) : ((⟨#[92, 120]⟩ : ByteArray) ++ (⟨(hex3 x.toNat).toArray⟩ : ByteArray).extract 1 3).data.toList = esc x := by
  rw [ByteArray.data_append, Array.toList_append]
  show [92, 120] ++ bl (ByteArray.extract _ 1 3) = _
  rw [bl_cut (by rw [size_mk]; exact Nat.le_refl _), bl_mk]
  rfl
theorem bld_new {L : List Asn} {p : Nat} {m : Mem} (h : Sep (ob p (Obj.cells (tbl.at 66).zero.list.toArray 66) :: L) m) : Sep (bld p [] :: L) m :=
  (Sep.group (L := [_, _]) ((Sep.free (A := br none 0 0 []) h br_nil).move 1 rfl)).turn 0 rfl fun m1 _ h => ⟨none, none, 0, .inl rfl, h⟩
theorem shown_c {m : Mem} (hG : G m) {s : ByteArray} (hs : s.size < 2 ^ 40) : FCalls Tryd.prog 15 [.string s] m fun v m' => v = .string ⟨(shl (bl s)).toArray⟩ ∧ m.le m' := by
  refine fcalls_of_vc (T := tbl) (B := bodies) (pr := [99999]) (DR := dr15) (args := [.v (.string s)]) tbl_ok bodies_ok mixed Tryd.func15 rfl (by decide +kernel) (by simp [Tryd.f15]) rfl ?_
  (conv => whnf)
  intro p m2 hb he
  have h := bld_new (ob_new (Sep.init m) hb he)
  clear hb he
  (conv => whnf)
  refine range_str Tryd.underlying9 fun b m3 hb he => ?_
  replace h := it_new h hb he
  clear hb he
  (conv => whnf)
  refine loop_keep [0, 3, 11] (Nat × List UInt8 × Mem) (fun _ => []) (fun _ => []) (fun t => t.2.2) (fun t => t.1 ≤ s.size ∧ t.2.1 ++ shl ((bl s).drop t.1) = shl (bl s) ∧ t.2.1.length ≤ 4 * t.1 ∧ Sep [it b s t.1, bld p t.2.1, kp m] t.2.2) (fun t => s.size - t.1) (0, [], m3) trivial rfl rfl ⟨Nat.zero_le _, by simp, by simp, h⟩ ?_
  clear h
  (conv => whnf)
  refine ⟨rfl, ?_⟩
  rintro ⟨i, bs, M⟩ ⟨hi, hJ, hbl, h⟩
  simp only at hi hJ hbl h
  (conv => whnf)
  refine next_str (ty := 0) (it_get h 0 rfl) (fun hp m4 he => ?_) (fun hp => ?_)
  · replace h := it_put h 0 rfl he
    clear he
    have hw := wd_pos hp
    have hwl := wd_le hp
    have hcd : cdl ((bl s).drop i) = cd s i := (cdl_eq hi).symm
    have hwd : wdl ((bl s).drop i) = wd s i := (wdl_eq hi).symm
    have hne : (bl s).drop i ≠ [] := by
      intro hn
      have := congrArg List.length hn
      rw [List.length_drop, bl_len] at this
      simp at this
      omega
    have hul := unitl_len hne
    rw [hwd] at hul
    have fin : (bs ++ unitl ((bl s).drop i)) ++ shl ((bl s).drop (i + wd s i)) = shl (bl s) := by
      rw [← hJ, shl_step hne, hwd, List.drop_drop, List.append_assoc]
    have fin2 : (bs ++ unitl ((bl s).drop i)).length ≤ 4 * (i + wd s i) := by rw [List.length_append]; omega
    have hdc := dec_cut (s := s) (a := i) hi
    have hr0 := (dec_facts hp).2.2.2
    have hcdr : cd s i = if (Utf8.decode s i).1 = 65533 ∧ (Utf8.decode s i).2 ≤ 1 then (-1 : Int) else (((Utf8.decode s i).1 : Nat) : Int) := rfl
    (conv => whnf)
    refine ⟨by omega, by omega, by omega, ?_⟩
    (conv => whnf)
    have hexs : (s.extract i s.size).size = s.size - i := by rw [ByteArray.size_extract]; omega
    refine FCalls.mono (dec_c (hG.more (h.kept 2 rfl)).1 (s := s.extract i s.size) (by omega) (by omega)) ?_
    rintro v M2 ⟨rfl, rfl⟩
    rw [hdc]
    (conv => whnf)
    refine brk_intro (fun c1 => ?_) (fun c1 => ?_)
    · have c1 : (((Utf8.decode s i).1 : Nat) : Int) = 92 := by simpa using c1
      have hce : cd s i = 92 := by rw [hcdr, if_neg (by omega), c1]
      have hu : unitl ((bl s).drop i) = [92, 92] := by unfold unitl; rw [hcd, hce]; rfl
      (conv => whnf)
      refine FCalls.mono (h.call 1 rfl fun m1 hm => write_c hm (by show bs.length + 2 < 2 ^ 44; omega)) ?_
      rintro v M3 ⟨m1, h1, hB⟩
      have h' : Sep [bld p (bs ++ [92, 92]), it b s (i + wd s i), kp m] M3 := hB.one h1
      rw [← hu] at h'
      (conv => whnf)
      exact ⟨(i + wd s i, bs ++ unitl ((bl s).drop i), M3), le_eq ⟨rfl, rfl, rfl, trivial⟩ rfl rfl rfl, ⟨hwl, fin, fin2, h'.move 1 rfl⟩, by simp only; omega⟩
    · have c1 : ¬ (((Utf8.decode s i).1 : Nat) : Int) = 92 := by simpa using c1
      (conv => whnf)
      refine brk_intro (fun c2 => ?_) (fun c2 => ?_)
      · have c2 : (((Utf8.decode s i).1 : Nat) : Int) = 10 := by simpa using c2
        have hce : cd s i = 10 := by rw [hcdr, if_neg (by omega), c2]
        have hu : unitl ((bl s).drop i) = [92, 110] := by unfold unitl; rw [hcd, hce]; rfl
        (conv => whnf)
        refine FCalls.mono (h.call 1 rfl fun m1 hm => write_c hm (by show bs.length + 2 < 2 ^ 44; omega)) ?_
        rintro v M3 ⟨m1, h1, hB⟩
        have h' : Sep [bld p (bs ++ [92, 110]), it b s (i + wd s i), kp m] M3 := hB.one h1
        rw [← hu] at h'
        (conv => whnf)
        exact ⟨(i + wd s i, bs ++ unitl ((bl s).drop i), M3), le_eq ⟨rfl, rfl, rfl, trivial⟩ rfl rfl rfl, ⟨hwl, fin, fin2, h'.move 1 rfl⟩, by simp only; omega⟩
      · have c2 : ¬ (((Utf8.decode s i).1 : Nat) : Int) = 10 := by simpa using c2
        have c92 : cd s i ≠ 92 := by rw [hcdr]; split <;> omega
        have c10 : cd s i ≠ 10 := by rw [hcdr]; split <;> omega
        have hwi : IntKind.i64.wrap (((i : Nat) : Int) + (((Utf8.decode s i).2 : Nat) : Int)) = ((i + wd s i : Nat) : Int) := by
          show IntKind.i64.wrap (((i : Nat) : Int) + ((wd s i : Nat) : Int)) = _
          rw [wrap_id (by omega) (by omega)]
          omega
        have np : ¬ plainC (cd s i) → unitl ((bl s).drop i) = (((bl s).drop i).take (wd s i)).flatMap esc := fun h => by
          unfold unitl
          rw [hcd, if_neg c92, if_neg c10, if_neg h, hwd]
        (conv => whnf)
        refine FCalls.mono valid_c ?_
        rintro v M3 ⟨rfl, rfl⟩
        (conv => whnf)
        by_cases hv : (Utf8.decode s i).1 = 65533 ∧ (Utf8.decode s i).2 ≤ 1
        · have hnp : ¬ plainC (cd s i) := by rw [hcdr, if_pos hv]; unfold plainC; omega
          replace np := np hnp
          refine brk_false (by rw [decide_eq_true hv]; rfl) ?_
          (conv => whnf)
          rw [hwi]
          refine ⟨by omega, by omega, by omega, ?_⟩
          have hbt : bl (s.extract (Int.toNat ((i : Nat) : Int)) (Int.toNat ((i + wd s i : Nat) : Int))) = ((bl s).drop i).take (wd s i) := (bl_cut (s := s) (i := i) hwl).trans (by rw [Nat.add_sub_cancel_left])
          have hts : (s.extract (Int.toNat ((i : Nat) : Int)) (Int.toNat ((i + wd s i : Nat) : Int))).size = wd s i := by show (s.extract i (i + wd s i)).size = _; rw [ByteArray.size_extract]; omega
          generalize s.extract (Int.toNat ((i : Nat) : Int)) (Int.toNat ((i + wd s i : Nat) : Int)) = t at hbt hts ⊢
          (conv => whnf)
          intro cap b2 m5 hcap hb he
          replace h := ob_new h hb he
          clear hb he hcap
          (conv => whnf)
          rw [← hbt] at np
          refine loop_keep [0, 3, 11, 29, 30] (Nat × Mem) (fun t1 => [(31, .v (.int .i64 ((t1.1 : Nat) : Int)))]) (fun _ => []) (fun t1 => t1.2) (fun t1 => t1.1 ≤ t.size ∧ Sep [ob b2 (bytesObj t cap 5), it b s (i + wd s i), bld p (bs ++ ((bl t).take t1.1).flatMap esc), kp m] t1.2) (fun t1 => t.size - t1.1) (0, m5) ⟨rfl, trivial⟩ rfl rfl ⟨Nat.zero_le _, by rw [List.take_zero, List.flatMap_nil, List.append_nil]; exact h⟩ ?_
          clear h
          (conv => whnf)
          refine ⟨rfl, ?_⟩
          rintro ⟨j, M6⟩ ⟨hj, h⟩
          simp only at hj h
          (conv => whnf)
          refine brk_intro (fun d1 => ?_) (fun d1 => ?_)
          · have d1 : j < t.size := by have : ((j : Nat) : Int) < ((t.size : Nat) : Int) := of_decide_eq_true d1; omega
            obtain ⟨x, hx⟩ : ∃ x, (bl t)[j]? = some x := ⟨_, List.getElem?_eq_getElem (show j < (bl t).length from d1)⟩
            have hcl := bytes_cell (ob_get h 0 rfl) hx
            have lx := x.toNat_lt
            (conv => whnf)
            refine ⟨_, rfl, by omega, by omega, ?_⟩
            (conv => whnf)
            refine ⟨_, by show M6.cell (Addr.add ⟨b2, 0, none⟩ (j * 1)) = _; rw [Nat.mul_one, add_mk, Nat.zero_add]; exact hcl, ?_⟩
            (conv => whnf)
            have e1 : IntKind.i64.wrap (IntKind.i64.wrap ((x.toNat : Nat) : Int) + 256) = ((256 + x.toNat : Nat) : Int) := by
              rw [wrap_id (x := ((x.toNat : Nat) : Int)) (by omega) (by omega), wrap_id (by omega) (by omega)]; omega
            rw [e1]
            refine FCalls.mono (strformat_c (hG.more (h.kept 3 rfl)).2 lx) ?_
            rintro v M7 ⟨rfl, hm7⟩
            replace h := h.more hm7
            (conv => whnf)
            refine ⟨by omega, by show (1 : Int) ≤ ((3 : Nat) : Int); omega, by show ((3 : Nat) : Int) ≤ ((3 : Nat) : Int); omega, ?_⟩
            (conv => whnf)
            refine ⟨by show ((4 : Nat) : Int) ≤ 9223372036854775807; omega, ?_⟩
            (conv => whnf)
            have hlen : (bs ++ ((bl t).take j).flatMap esc).length < 2 ^ 43 := by
              rw [List.length_append, flat_esc, List.length_take]
              have : (bl t).length = t.size := rfl
              omega
            refine FCalls.mono (h.call 2 rfl fun m1 hm => write_c hm (by show _ + 4 < 2 ^ 44; omega)) ?_
            rintro v M8 ⟨m1, h1, hB⟩
            have h' := hB.one h1
            have es : ((⟨#[92, 120]⟩ : ByteArray) ++ (⟨(hex3 x.toNat).toArray⟩ : ByteArray).extract (Int.toNat 1) (Int.toNat ((⟨(hex3 x.toNat).toArray⟩ : ByteArray).size : Nat))).data.toList = esc x := esc_str x
            rw [es, List.append_assoc, ← take_esc hx] at h'
            (conv => whnf)
            have e2 : IntKind.i64.wrap (((j : Nat) : Int) + 1) = ((j + 1 : Nat) : Int) := by rw [wrap_id (by omega) (by omega)]; omega
            rw [e2]
            exact ⟨(j + 1, M8), le_eq ⟨rfl, rfl, rfl, rfl, rfl, rfl, trivial⟩ rfl rfl rfl, ⟨d1, (h'.move 2 rfl).move 2 rfl⟩, by simp only; omega⟩
          · have d1 : j = t.size := by have : ¬ ((j : Nat) : Int) < ((t.size : Nat) : Int) := of_decide_eq_false d1; omega
            subst d1
            have h' := h.drop 0
            rw [show (bl t).take t.size = bl t from List.take_of_length_le (Nat.le_refl _), ← np] at h'
            (conv => whnf)
            exact ⟨(i + wd s i, bs ++ unitl ((bl s).drop i), M6), le_eq ⟨rfl, rfl, rfl, trivial⟩ rfl rfl rfl, ⟨hwl, fin, fin2, h'⟩, by simp only; omega⟩
        · have hce : cd s i = (((Utf8.decode s i).1 : Nat) : Int) := by rw [hcdr, if_neg hv]
          refine brk_true (by rw [decide_eq_false hv]; rfl) ?_
          (conv => whnf)
          refine FCalls.mono plain_c ?_
          rintro v M4 ⟨rfl, rfl⟩
          rw [← hce]
          (conv => whnf)
          by_cases hpl : plainC (cd s i)
          · refine brk_true (by rw [decide_eq_true hpl]; rfl) ?_
            have h0 : 0 ≤ cdl ((bl s).drop i) := by rw [hcd]; unfold plainC at hpl; omega
            obtain ⟨g1, g2⟩ := enc_take hne h0
            rw [hcd] at g1 g2
            have hu : unitl ((bl s).drop i) = enc (cd s i).toNat := by
              unfold unitl
              rw [hcd, if_neg c92, if_neg c10, if_pos hpl, g2]
            have e : (((cd s i).toNat : Nat) : Int) = cd s i := by rw [hcd] at h0; omega
            (conv => whnf)
            rw [show (Value.int .i32 (cd s i)) = .int .i32 (((cd s i).toNat : Nat) : Int) by rw [e]]
            refine FCalls.mono (h.call 1 rfl fun m1 hm => wrune_c (by rw [e]; exact g1) hm (by omega)) ?_
            rintro v M5 ⟨m1, h1, hB⟩
            have h' := hB.one h1
            rw [← hu] at h'
            (conv => whnf)
            exact ⟨(i + wd s i, bs ++ unitl ((bl s).drop i), M5), le_eq ⟨rfl, rfl, rfl, trivial⟩ rfl rfl rfl, ⟨hwl, fin, fin2, h'.move 1 rfl⟩, by simp only; omega⟩
          · replace np := np hpl
            refine brk_false (by rw [decide_eq_false hpl]; rfl) ?_
            (conv => whnf)
            rw [hwi]
            refine ⟨by omega, by omega, by omega, ?_⟩
            have hbt : bl (s.extract (Int.toNat ((i : Nat) : Int)) (Int.toNat ((i + wd s i : Nat) : Int))) = ((bl s).drop i).take (wd s i) := (bl_cut (s := s) (i := i) hwl).trans (by rw [Nat.add_sub_cancel_left])
            have hts : (s.extract (Int.toNat ((i : Nat) : Int)) (Int.toNat ((i + wd s i : Nat) : Int))).size = wd s i := by show (s.extract i (i + wd s i)).size = _; rw [ByteArray.size_extract]; omega
            generalize s.extract (Int.toNat ((i : Nat) : Int)) (Int.toNat ((i + wd s i : Nat) : Int)) = t at hbt hts ⊢
            (conv => whnf)
            intro cap b2 m5 hcap hb he
            replace h := ob_new h hb he
            clear hb he hcap
            (conv => whnf)
            rw [← hbt] at np
            refine loop_keep [0, 3, 11, 29, 30] (Nat × Mem) (fun t1 => [(31, .v (.int .i64 ((t1.1 : Nat) : Int)))]) (fun _ => []) (fun t1 => t1.2) (fun t1 => t1.1 ≤ t.size ∧ Sep [ob b2 (bytesObj t cap 5), it b s (i + wd s i), bld p (bs ++ ((bl t).take t1.1).flatMap esc), kp m] t1.2) (fun t1 => t.size - t1.1) (0, m5) ⟨rfl, trivial⟩ rfl rfl ⟨Nat.zero_le _, by rw [List.take_zero, List.flatMap_nil, List.append_nil]; exact h⟩ ?_
            clear h
            (conv => whnf)
            refine ⟨rfl, ?_⟩
            rintro ⟨j, M6⟩ ⟨hj, h⟩
            simp only at hj h
            (conv => whnf)
            refine brk_intro (fun d1 => ?_) (fun d1 => ?_)
            · have d1 : j < t.size := by have : ((j : Nat) : Int) < ((t.size : Nat) : Int) := of_decide_eq_true d1; omega
              obtain ⟨x, hx⟩ : ∃ x, (bl t)[j]? = some x := ⟨_, List.getElem?_eq_getElem (show j < (bl t).length from d1)⟩
              have hcl := bytes_cell (ob_get h 0 rfl) hx
              have lx := x.toNat_lt
              (conv => whnf)
              refine ⟨_, rfl, by omega, by omega, ?_⟩
              (conv => whnf)
              refine ⟨_, by show M6.cell (Addr.add ⟨b2, 0, none⟩ (j * 1)) = _; rw [Nat.mul_one, add_mk, Nat.zero_add]; exact hcl, ?_⟩
              (conv => whnf)
              have e1 : IntKind.i64.wrap (IntKind.i64.wrap ((x.toNat : Nat) : Int) + 256) = ((256 + x.toNat : Nat) : Int) := by
                rw [wrap_id (x := ((x.toNat : Nat) : Int)) (by omega) (by omega), wrap_id (by omega) (by omega)]; omega
              rw [e1]
              refine FCalls.mono (strformat_c (hG.more (h.kept 3 rfl)).2 lx) ?_
              rintro v M7 ⟨rfl, hm7⟩
              replace h := h.more hm7
              (conv => whnf)
              refine ⟨by omega, by show (1 : Int) ≤ ((3 : Nat) : Int); omega, by show ((3 : Nat) : Int) ≤ ((3 : Nat) : Int); omega, ?_⟩
              (conv => whnf)
              refine ⟨by show ((4 : Nat) : Int) ≤ 9223372036854775807; omega, ?_⟩
              (conv => whnf)
              have hlen : (bs ++ ((bl t).take j).flatMap esc).length < 2 ^ 43 := by
                rw [List.length_append, flat_esc, List.length_take]
                have : (bl t).length = t.size := rfl
                omega
              refine FCalls.mono (h.call 2 rfl fun m1 hm => write_c hm (by show _ + 4 < 2 ^ 44; omega)) ?_
              rintro v M8 ⟨m1, h1, hB⟩
              have h' := hB.one h1
              have es : ((⟨#[92, 120]⟩ : ByteArray) ++ (⟨(hex3 x.toNat).toArray⟩ : ByteArray).extract (Int.toNat 1) (Int.toNat ((⟨(hex3 x.toNat).toArray⟩ : ByteArray).size : Nat))).data.toList = esc x := esc_str x
              rw [es, List.append_assoc, ← take_esc hx] at h'
              (conv => whnf)
              have e2 : IntKind.i64.wrap (((j : Nat) : Int) + 1) = ((j + 1 : Nat) : Int) := by rw [wrap_id (by omega) (by omega)]; omega
              rw [e2]
              exact ⟨(j + 1, M8), le_eq ⟨rfl, rfl, rfl, rfl, rfl, rfl, trivial⟩ rfl rfl rfl, ⟨d1, (h'.move 2 rfl).move 2 rfl⟩, by simp only; omega⟩
            · have d1 : j = t.size := by have : ¬ ((j : Nat) : Int) < ((t.size : Nat) : Int) := of_decide_eq_false d1; omega
              subst d1
              have h' := h.drop 0
              rw [show (bl t).take t.size = bl t from List.take_of_length_le (Nat.le_refl _), ← np] at h'
              (conv => whnf)
              exact ⟨(i + wd s i, bs ++ unitl ((bl s).drop i), M6), le_eq ⟨rfl, rfl, rfl, trivial⟩ rfl rfl rfl, ⟨hwl, fin, fin2, h'⟩, by simp only; omega⟩
  · have hi2 : i = s.size := by omega
    subst hi2
    rw [show (bl s).drop s.size = [] by rw [List.drop_eq_nil_iff, bl_len]; exact Nat.le_refl _, shl_nil, List.append_nil] at hJ
    (conv => whnf)
    refine FCalls.mono (h.call 1 rfl fun m1 hm => bstr_c hm (by omega)) ?_
    rintro v M2 ⟨m1, rfl, hB⟩
    (conv => whnf)
    rw [hJ]
    exact ⟨rfl, (hB.sep (L := []) trivial).kept 1 rfl⟩
end Go.Proofs.YtlnekbdcbkndbaaDoor
