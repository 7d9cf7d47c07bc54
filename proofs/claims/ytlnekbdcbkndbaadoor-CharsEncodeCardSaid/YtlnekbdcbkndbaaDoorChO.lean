/- Chars: the document's Shown. -/
import Derived.Test.YtlnekbdcbkndbaaDoorChN
namespace Go.Proofs.YtlnekbdcbkndbaaDoor
open Go Go.Mv
set_option maxHeartbeats 2000000
set_option maxRecDepth 10000
set_option linter.unusedVariables false
set_option linter.unusedSimpArgs false
attribute [local irreducible] FCalls IntKind.wrap bits Mem.set Mem.setCell Mem.setCells YCalls RunP NextP
def digs : ByteArray := ⟨#[48, 49, 50, 51, 52, 53, 54, 55, 56, 57, 97, 98, 99, 100, 101, 102]⟩
theorem digs_fin : ∀ k : Fin 16, (digs.extract k.val (k.val + 1)).data = #[hexD k.val] := by decide
theorem digs_cut {k : Nat} (h : k < 16) : digs.extract k (k + 1) = ⟨[hexD k].toArray⟩ := ByteArray.ext (digs_fin ⟨k, h⟩)
theorem refshown_c {m : Mem} {s : ByteArray} (hs : s.size < 2 ^ 40) : FCalls Tryd.prog 16 [.string s] m fun v m' => v = .string ⟨(shl (bl s)).toArray⟩ ∧ m' = m := by
  refine fcalls_of_vc (T := tbl) (B := bodies) (pr := [99999]) (DR := (100011, 0) :: dr16) (args := [.v (.string s)]) tbl_ok bodies_ok mixed Tryd.func16 rfl (by decide +kernel) (by simp [Tryd.f16]) rfl ?_
  (conv => whnf)
  refine loop_keep [0] (Nat × List UInt8) (fun t => [(4, .v (.int .i64 ((t.1 : Nat) : Int))), (3, .v (.string ⟨t.2.toArray⟩))]) (fun _ => []) (fun t => m) (fun t => t.1 ≤ s.size ∧ t.2 ++ shl ((bl s).drop t.1) = shl (bl s) ∧ t.2.length ≤ 4 * t.1) (fun t => s.size - t.1) (0, []) ⟨rfl, rfl, trivial⟩ rfl rfl ⟨Nat.zero_le _, by simp, by simp⟩ ?_
  (conv => whnf)
  refine ⟨rfl, ?_⟩
  rintro ⟨i, bs⟩ ⟨hi, hJ, hbl⟩
  simp only at hi hJ hbl
  (conv => whnf)
  refine brk_intro (fun c0 => ?_) (fun c0 => ?_)
  · have hp : i < s.size := by have : ((i : Nat) : Int) < ((s.size : Nat) : Int) := of_decide_eq_true c0; omega
    have hw := wd_pos hp
    have hwl := wd_le hp
    have hcd : cdl ((bl s).drop i) = cd s i := (cdl_eq hi).symm
    have hwd : wdl ((bl s).drop i) = wd s i := (wdl_eq hi).symm
    have hne : (bl s).drop i ≠ [] := by
      intro hn
      have := congrArg List.length hn
      rw [List.length_drop, bl_len] at this
      simp at this
      omega
    have hul := unitl_len hne
    rw [hwd] at hul
    have fin : (bs ++ unitl ((bl s).drop i)) ++ shl ((bl s).drop (i + wd s i)) = shl (bl s) := by
      rw [← hJ, shl_step hne, hwd, List.drop_drop, List.append_assoc]
    have fin2 : (bs ++ unitl ((bl s).drop i)).length ≤ 4 * (i + wd s i) := by rw [List.length_append]; omega
    (conv => whnf)
    refine FCalls.mono (refnext_c (by omega)) ?_
    rintro v M1 ⟨rfl, rfl⟩
    rw [if_pos ⟨by omega, by omega⟩, Int.toNat_natCast]
    (conv => whnf)
    refine FCalls.mono refplain_c ?_
    rintro v M1 ⟨rfl, rfl⟩
    (conv => whnf)
    refine join_keep [0, 4, 6] (List UInt8) (fun t => [(3, .v (.string ⟨t.toArray⟩))]) (fun _ => M1) (fun t => t = bs ++ unitl ((bl s).drop i)) ?_
    (conv => whnf)
    refine ⟨?_, ?_⟩
    · (conv => whnf)
      refine brk_intro (fun c1 => ?_) (fun c1 => ?_)
      · have c1 : cd s i = 92 := by simpa using c1
        have hu : unitl ((bl s).drop i) = [92, 92] := by unfold unitl; rw [hcd, c1]; rfl
        (conv => whnf)
        refine ⟨by show ((bs.length + 2 : Nat) : Int) ≤ 9223372036854775807; omega, ?_⟩
        (conv => whnf)
        exact ⟨bs ++ unitl ((bl s).drop i), le_eq ⟨by rw [hu]; exact congrArg (fun z => some (AV.v (.string z))) (mk_app bs [92, 92]), rfl, rfl, rfl, trivial⟩ rfl rfl rfl, rfl⟩
      · have c1 : cd s i ≠ 92 := by simpa using c1
        (conv => whnf)
        refine brk_intro (fun c2 => ?_) (fun c2 => ?_)
        · have c2 : cd s i = 10 := by simpa using c2
          have hu : unitl ((bl s).drop i) = [92, 110] := by unfold unitl; rw [hcd, c2]; rfl
          (conv => whnf)
          refine ⟨by show ((bs.length + 2 : Nat) : Int) ≤ 9223372036854775807; omega, ?_⟩
          (conv => whnf)
          exact ⟨bs ++ unitl ((bl s).drop i), le_eq ⟨by rw [hu]; exact congrArg (fun z => some (AV.v (.string z))) (mk_app bs [92, 110]), rfl, rfl, rfl, trivial⟩ rfl rfl rfl, rfl⟩
        · have c2 : cd s i ≠ 10 := by simpa using c2
          have hwi : IntKind.i64.wrap (((i : Nat) : Int) + ((wd s i : Nat) : Int)) = ((i + wd s i : Nat) : Int) := by
            rw [wrap_id (by omega) (by omega)]
            omega
          (conv => whnf)
          refine brk_intro (fun c3 => ?_) (fun c3 => ?_)
          · have c3 : plainC (cd s i) := of_decide_eq_true c3
            have hu : unitl ((bl s).drop i) = ((bl s).drop i).take (wd s i) := by
              unfold unitl
              rw [hcd, if_neg c1, if_neg c2, if_pos c3, hwd]
            (conv => whnf)
            rw [hwi]
            refine ⟨by omega, by omega, by omega, ?_⟩
            (conv => whnf)
            have hbt : s.extract (Int.toNat ((i : Nat) : Int)) (Int.toNat ((i + wd s i : Nat) : Int)) = ⟨(unitl ((bl s).drop i)).toArray⟩ := by
              rw [hu, ← mk_bl (s.extract (Int.toNat ((i : Nat) : Int)) (Int.toNat ((i + wd s i : Nat) : Int)))]
              rw [show bl (s.extract (Int.toNat ((i : Nat) : Int)) (Int.toNat ((i + wd s i : Nat) : Int))) = _ from bl_cut (s := s) (i := i) hwl, show Int.toNat ((i + wd s i : Nat) : Int) = i + wd s i from rfl, Nat.add_sub_cancel_left]
            rw [hbt]
            refine ⟨by show ((bs.length + (unitl ((bl s).drop i)).length : Nat) : Int) ≤ 9223372036854775807; omega, ?_⟩
            (conv => whnf)
            exact ⟨bs ++ unitl ((bl s).drop i), le_eq ⟨congrArg (fun z => some (AV.v (.string z))) (mk_app bs _), rfl, rfl, rfl, trivial⟩ rfl rfl rfl, rfl⟩
          · have c3 : ¬ plainC (cd s i) := of_decide_eq_false c3
            obtain ⟨X, hX⟩ : ∃ X, X = ((bl s).drop i).take (wd s i) := ⟨_, rfl⟩
            have hXl : X.length = wd s i := by rw [hX, ← hwd]; exact wdl_enc_le hne
            have hu : unitl ((bl s).drop i) = X.flatMap esc := by
              unfold unitl
              rw [hcd, if_neg c1, if_neg c2, if_neg c3, hwd, hX]
            (conv => whnf)
            refine loop_keep [0, 4, 6] Nat (fun j => [(8, .v (.int .i64 ((i + j : Nat) : Int))), (3, .v (.string ⟨(bs ++ (X.take j).flatMap esc).toArray⟩))]) (fun _ => []) (fun _ => M1) (fun j => j ≤ wd s i) (fun j => wd s i - j) 0 ⟨rfl, by rw [List.take_zero, List.flatMap_nil, List.append_nil]; rfl, trivial⟩ rfl rfl (Nat.zero_le _) ?_
            (conv => whnf)
            refine ⟨rfl, ?_⟩
            intro j hj
            (conv => whnf)
            rw [hwi]
            refine brk_intro (fun d1 => ?_) (fun d1 => ?_)
            · have d1 : j < wd s i := by have : ((i + j : Nat) : Int) < ((i + wd s i : Nat) : Int) := of_decide_eq_true d1; omega
              obtain ⟨x, hx⟩ : ∃ x, X[j]? = some x := ⟨_, List.getElem?_eq_getElem (by omega)⟩
              have lx := x.toNat_lt
              have hbx : bt s ((i + j : Nat) : Int) = ((x.toNat : Nat) : Int) := by
                rw [bt_get, ← bN_drop]
                unfold bN
                rw [hX, List.getElem?_take, if_pos d1] at hx
                rw [List.getD_eq_getElem?_getD, hx]
                rfl
              have hlen : (bs ++ (X.take j).flatMap esc).length < 2 ^ 43 := by
                rw [List.length_append, flat_esc, List.length_take]
                omega
              (conv => whnf)
              refine ⟨by show (((bs ++ (X.take j).flatMap esc).length + 2 : Nat) : Int) ≤ 9223372036854775807; omega, ?_⟩
              (conv => whnf)
              refine ⟨by omega, by omega, ?_⟩
              (conv => whnf)
              refine ⟨by decide, ?_⟩
              (conv => whnf)
              refine ⟨by omega, by omega, ?_⟩
              (conv => whnf)
              refine ⟨by decide, ?_⟩
              (conv => whnf)
              have q1 : IntKind.u8.wrap (((x.toNat : Nat) : Int).tdiv 16) = ((x.toNat / 16 : Nat) : Int) := by
                rw [show ((x.toNat : Nat) : Int).tdiv 16 = ((x.toNat / 16 : Nat) : Int) from td x.toNat 16, wraps_u8 _ (by omega) (by omega)]
              have q2 : ((x.toNat : Nat) : Int).tmod 16 = ((x.toNat % 16 : Nat) : Int) := tm' x.toNat 16
              have q3 : IntKind.u8.wrap (((x.toNat / 16 : Nat) : Int) + 1) = ((x.toNat / 16 + 1 : Nat) : Int) := by rw [wraps_u8 _ (by omega) (by omega)]; omega
              have q4 : IntKind.u8.wrap (((x.toNat % 16 : Nat) : Int) + 1) = ((x.toNat % 16 + 1 : Nat) : Int) := by rw [wraps_u8 _ (by omega) (by omega)]; omega
              rw [hbx, q1, q3]
              refine ⟨by omega, by omega, by show _ ≤ ((16 : Nat) : Int); omega, ?_⟩
              (conv => whnf)
              rw [show (⟨#[48, 49, 50, 51, 52, 53, 54, 55, 56, 57, 97, 98, 99, 100, 101, 102]⟩ : ByteArray).extract (Int.toNat ((x.toNat / 16 : Nat) : Int)) (Int.toNat ((x.toNat / 16 + 1 : Nat) : Int)) = ⟨[hexD (x.toNat / 16)].toArray⟩ from digs_cut (by omega)]
              rw [mk_app _ [92, 120]]
              refine ⟨by rw [size_mk, size_mk, List.length_append]; show (((bs ++ (X.take j).flatMap esc).length + 2 + 1 : Nat) : Int) ≤ 9223372036854775807; omega, ?_⟩
              (conv => whnf)
              refine ⟨by omega, by omega, ?_⟩
              (conv => whnf)
              refine ⟨by decide, ?_⟩
              (conv => whnf)
              refine ⟨by omega, by omega, ?_⟩
              (conv => whnf)
              refine ⟨by decide, ?_⟩
              (conv => whnf)
              rw [hbx, q2, q4]
              refine ⟨by omega, by omega, by show _ ≤ ((16 : Nat) : Int); omega, ?_⟩
              (conv => whnf)
              rw [show (⟨#[48, 49, 50, 51, 52, 53, 54, 55, 56, 57, 97, 98, 99, 100, 101, 102]⟩ : ByteArray).extract (Int.toNat ((x.toNat % 16 : Nat) : Int)) (Int.toNat ((x.toNat % 16 + 1 : Nat) : Int)) = ⟨[hexD (x.toNat % 16)].toArray⟩ from digs_cut (by omega)]
              rw [mk_app _ [hexD (x.toNat / 16)]]
              refine ⟨by rw [size_mk, size_mk, List.length_append, List.length_append]; show (((bs ++ (X.take j).flatMap esc).length + 2 + 1 + 1 : Nat) : Int) ≤ 9223372036854775807; omega, ?_⟩
              (conv => whnf)
              rw [mk_app _ [hexD (x.toNat % 16)]]
              have es : (bs ++ (X.take (j + 1)).flatMap esc) = bs ++ (X.take j).flatMap esc ++ [92, 120] ++ [hexD (x.toNat / 16)] ++ [hexD (x.toNat % 16)] := by
                rw [take_esc hx]
                simp [esc]
              have e2 : IntKind.i64.wrap (((i + j : Nat) : Int) + 1) = ((i + (j + 1) : Nat) : Int) := by rw [wrap_id (by omega) (by omega)]; omega
              rw [e2, ← es]
              exact ⟨j + 1, le_eq ⟨rfl, rfl, rfl, rfl, rfl, trivial⟩ rfl rfl rfl, d1, by omega⟩
            · have d1 : j = wd s i := by have : ¬ ((i + j : Nat) : Int) < ((i + wd s i : Nat) : Int) := of_decide_eq_false d1; omega
              subst d1
              (conv => whnf)
              rw [show X.take (wd s i) = X from List.take_of_length_le (by omega), ← hu]
              exact ⟨bs ++ unitl ((bl s).drop i), le_eq ⟨rfl, rfl, rfl, rfl, trivial⟩ rfl rfl rfl, rfl⟩
    · rintro t rfl
      (conv => whnf)
      have hwi : IntKind.i64.wrap (((i : Nat) : Int) + ((wd s i : Nat) : Int)) = ((i + wd s i : Nat) : Int) := by
        rw [wrap_id (by omega) (by omega)]
        omega
      rw [hwi]
      exact ⟨(i + wd s i, bs ++ unitl ((bl s).drop i)), le_eq ⟨rfl, rfl, rfl, trivial⟩ rfl rfl rfl, ⟨hwl, fin, fin2⟩, by simp only; omega⟩
  · have hi2 : i = s.size := by have : ¬ ((i : Nat) : Int) < ((s.size : Nat) : Int) := of_decide_eq_false c0; omega
    subst hi2
    rw [show (bl s).drop s.size = [] by rw [List.drop_eq_nil_iff, bl_len]; exact Nat.le_refl _, shl_nil, List.append_nil] at hJ
    (conv => whnf)
    rw [hJ]
    exact ⟨rfl, rfl⟩
end Go.Proofs.YtlnekbdcbkndbaaDoor
