/- Chars: numbers of two sixteenths. -/
import Derived.Test.YtlnekbdcbkndbaaDoorChI
namespace Go.Proofs.YtlnekbdcbkndbaaDoor
open Go Go.Mv
set_option maxHeartbeats 2000000
set_option maxRecDepth 10000
set_option linter.unusedVariables false
set_option linter.unusedSimpArgs false
/-- A sixteenth. -/
def hexD (n : Nat) : UInt8 := if n < 10 then UInt8.ofNat (48 + n) else UInt8.ofNat (87 + n)
def alpha : ByteArray := ⟨#[48, 49, 50, 51, 52, 53, 54, 55, 56, 57, 97, 98, 99, 100, 101, 102, 103, 104, 105, 106, 107, 108, 109, 110, 111, 112, 113, 114, 115, 116, 117, 118, 119, 120, 121, 122]⟩
theorem alpha_get : ∀ n : Fin 16, bt alpha ((n.val : Nat) : Int) = (((hexD n.val).toNat : Nat) : Int) := by decide
theorem and15 : ∀ n : Fin 512, bits .and .u64 ((n.val : Nat) : Int) 15 = ((n.val % 16 : Nat) : Int) := by decide +kernel
theorem p16 : bits .and .i64 16 ((16 - 1 + 2 ^ 63) % 2 ^ 64 - 2 ^ 63) = 0 := by decide
theorem tz15 : (IntKind.u64.wrap (bits .and .u64 16 (IntKind.u64.wrap (0 - 16)) * 285870213051353865)).fdiv (2 ^ min (Int.toNat 58) IntKind.u64.bits) = 15 := by decide +kernel
attribute [local irreducible] FCalls IntKind.wrap bits Mem.set Mem.setCell Mem.setCells YCalls RunP NextP
def Z4 (m : Mem) : Prop := m.cell ⟨5, 15, none⟩ = some (.int .u8 4)
theorem pow_c {m : Mem} : FCalls Tryd.prog 62 [.int .i64 16] m fun v m' => v = .bool true ∧ m' = m := by
  refine fcalls_of_vc (T := tbl) (B := bodies) (pr := [99999]) (DR := dr62) (args := [.v (.int .i64 16)]) tbl_ok bodies_ok mixed Tryd.func62 rfl (by decide +kernel) (by simp [Tryd.f62]) rfl ?_
  (conv => whnf)
  refine ⟨?_, rfl⟩
  have e : bits .and .i64 16 (IntKind.i64.wrap (16 - 1)) = 0 := by rw [IntKind.wrap_i64]; exact p16
  rw [e]
  rfl
theorem tz_c {m : Mem} (hz : Z4 m) : FCalls Tryd.prog 65 [.int .u64 16] m fun v m' => v = .int .i64 4 ∧ m' = m := by
  refine fcalls_of_vc (T := tbl) (B := bodies) (pr := [99999]) (DR := dr65) (args := [.v (.int .u64 16)]) tbl_ok bodies_ok mixed Tryd.func65 rfl (by decide +kernel) (by simp [Tryd.f65]) rfl ?_
  (conv => whnf)
  refine ⟨by decide, ?_⟩
  (conv => whnf)
  rw [tz15]
  refine ⟨by decide, by decide, ?_⟩
  (conv => whnf)
  refine ⟨_, hz, ?_⟩
  (conv => whnf)
  exact ⟨by rw [wrap_id (x := 4) (by omega) (by omega)]; rfl, rfl⟩
theorem tz0_c {m : Mem} (hz : Z4 m) : FCalls Tryd.prog 63 [.int .u64 16] m fun v m' => v = .int .i64 4 ∧ m' = m := by
  refine fcalls_of_vc (T := tbl) (B := bodies) (pr := [99999]) (DR := dr63) (args := [.v (.int .u64 16)]) tbl_ok bodies_ok mixed Tryd.func63 rfl (by decide +kernel) (by simp [Tryd.f63]) rfl ?_
  (conv => whnf)
  refine FCalls.mono (tz_c hz) ?_
  rintro v m' ⟨rfl, rfl⟩
  (conv => whnf)
  exact ⟨rfl, rfl⟩
/-- The bytes of 256 + c, told by sixteenths. -/
def hex3 (c : Nat) : List UInt8 := [49, hexD (c / 16), hexD (c % 16)]
def dg (c : Nat) : Nat → List Value
  | 0 => intCells .u8 (List.replicate 65 0)
  | k + 1 => (dg c k).set (64 - k) (.int .u8 (((hexD ((256 + c) / 16 ^ k % 16)).toNat : Nat) : Int))
theorem dg_len {c : Nat} : ∀ {k : Nat}, (dg c k).length = 65
  | 0 => by simp [dg, intCells]
  | k + 1 => by simp [dg, dg_len (c := c) (k := k)]
theorem dg_last {c : Nat} (hc : c < 256) {k : Nat} {v : Value} (hk : (byteVals (hex3 c))[k]? = some v) : ((dg c 2).set 62 (.int .u8 49))[62 + k]? = some v := by
  have e0 : (256 + c) / 16 ^ 0 % 16 = c % 16 := by rw [Nat.pow_zero, Nat.div_one]; omega
  have e1 : (256 + c) / 16 ^ 1 % 16 = c / 16 := by rw [Nat.pow_one]; omega
  have hd : dg c 2 = ((intCells .u8 (List.replicate 65 0)).set 64 (.int .u8 (((hexD (c % 16)).toNat : Nat) : Int))).set 63 (.int .u8 (((hexD (c / 16)).toNat : Nat) : Int)) := by
    rw [← e0, ← e1]; rfl
  have hl : (intCells .u8 (List.replicate 65 0)).length = 65 := by simp [intCells]
  rw [hd]
  generalize intCells .u8 (List.replicate 65 0) = Z at hl
  match k, hk with
  | 0, hk => rw [← hk, List.getElem?_set_self (by simp [hl])]; rfl
  | 1, hk =>
    rw [← hk, List.getElem?_set_ne (by omega), List.getElem?_set_self (by simp [hl])]; rfl
  | 2, hk =>
    rw [← hk, List.getElem?_set_ne (by omega), List.getElem?_set_ne (by omega), List.getElem?_set_self (by simp [hl])]; rfl
  | k + 3, hk => simp [byteVals, hex3] at hk
theorem bits_c {m : Mem} (hz : Z4 m) {c : Nat} (hc : c < 256) : FCalls Tryd.prog 57 [.slice none 0 0, .int .u64 ((256 + c : Nat) : Int), .int .i64 16, .bool false, .bool false] m fun v m' =>
    v = .tuple #[.slice none 0 0, .string ⟨(hex3 c).toArray⟩] ∧ m.le m' := by
  refine fcalls_of_vc (T := tbl) (B := bodies) (pr := [99999]) (DR := dr57) (args := [.v (.slice none 0 0), .v (.int .u64 ((256 + c : Nat) : Int)), .v (.int .i64 16), .v (.bool false), .v (.bool false)]) tbl_ok bodies_ok mixed Tryd.func57 rfl (by decide +kernel) (by simp [Tryd.f57]) rfl ?_
  (conv => whnf)
  intro b m2 hb he
  have h := (Sep.init m).new' (l := dg c 0) hb (he.trans rfl)
  clear hb he
  have w16 : IntKind.u64.wrap 16 = 16 := by rw [IntKind.wrap_u64]; rfl
  have w4 : IntKind.u64.wrap 4 = 4 := by rw [IntKind.wrap_u64]; rfl
  have w15 : IntKind.u64.wrap (16 - 1) = 15 := by rw [IntKind.wrap_u64]; rfl
  (conv => whnf)
  refine FCalls.mono pow_c ?_
  rintro v m3 ⟨rfl, rfl⟩
  (conv => whnf)
  rw [w16]
  refine FCalls.mono (tz0_c (Mem.le_cell (h.kept 1 rfl) hz)) ?_
  rintro v m4 ⟨rfl, rfl⟩
  (conv => whnf)
  rw [w4, w16, w15]
  refine loop_keep [3, 4, 10, 12, 14, 15, 16] (Nat × Mem) (fun t => [(13, .v (.int .i64 ((65 - t.1 : Nat) : Int))), (1, .v (.int .u64 (((256 + c) / 16 ^ t.1 : Nat) : Int)))]) (fun _ => []) (fun t => t.2) (fun t => t.1 ≤ 2 ∧ Sep [pt b (dg c t.1), kp m] t.2) (fun t => 2 - t.1) (0, m4) ⟨rfl, by rw [show (256 + c) / 16 ^ 0 = 256 + c by simp]; rfl, trivial⟩ rfl rfl ⟨by omega, h⟩ ?_
  clear h
  (conv => whnf)
  refine ⟨rfl, ?_⟩
  rintro ⟨k, M⟩ ⟨hk, h⟩
  simp only at hk h
  have hv : (256 + c) / 16 ^ k < 512 := by
    have : (256 + c) / 16 ^ k ≤ 256 + c := Nat.div_le_self _ _
    omega
  have hlen : (dg c k).length = 65 := dg_len
  (conv => whnf)
  refine brk_intro (fun c1 => ?_) (fun c1 => ?_)
  · have c1 : 16 ≤ (256 + c) / 16 ^ k := by have : (16 : Int) ≤ (((256 + c) / 16 ^ k : Nat) : Int) := of_decide_eq_true c1; omega
    have hk2 : k < 2 := by
      have : k = 0 ∨ k = 1 ∨ k = 2 := by omega
      rcases this with rfl | rfl | rfl
      · omega
      · omega
      · exfalso
        have : (256 + c) / 16 ^ 2 = 1 := by rw [show 16 ^ 2 = 256 from rfl]; omega
        omega
    (conv => whnf)
    have ha : bits .and .u64 (((256 + c) / 16 ^ k : Nat) : Int) 15 = (((256 + c) / 16 ^ k % 16 : Nat) : Int) := and15 ⟨_, hv⟩
    have hal := alpha_get ⟨(256 + c) / 16 ^ k % 16, by omega⟩
    have hw : IntKind.i64.wrap (((65 - k : Nat) : Int) - 1) = ((64 - k : Nat) : Int) := by rw [wrap_id (by omega) (by omega)]; omega
    rw [ha, hw]
    refine ⟨by omega, by show _ < ((36 : Nat) : Int); omega, ?_⟩
    (conv => whnf)
    refine ⟨by omega, by show _ < ((65 : Nat) : Int); omega, ?_⟩
    (conv => whnf)
    have ea : (⟨b, 0, none⟩ : Addr).add (((64 - k : Nat) : Int).toNat * 1) = ⟨b, 64 - k, none⟩ := by rw [Nat.mul_one, add_mk, Nat.zero_add]; rfl
    have hget : (dg c k)[64 - k]? = some ((dg c k)[64 - k]'(by omega)) := List.getElem?_eq_getElem (by omega)
    refine ⟨by show (∃ u, M.cell ((⟨b, 0, none⟩ : Addr).add (((64 - k : Nat) : Int).toNat * 1)) = some u) ∧ M.fz ((⟨b, 0, none⟩ : Addr).add (((64 - k : Nat) : Int).toNat * 1)) = false; rw [ea]; exact h.room 0 rfl hget, ?_⟩
    (conv => whnf)
    intro M2 he
    replace he : M2 = M.setCell ⟨b, 64 - k, none⟩ (.int .u8 (((hexD ((256 + c) / 16 ^ k % 16)).toNat : Nat) : Int)) := by
      refine he.trans ?_
      show M.setCell ((⟨b, 0, none⟩ : Addr).add (((64 - k : Nat) : Int).toNat * 1)) _ = _
      rw [ea]
      exact congrArg (fun z => M.setCell ⟨b, 64 - k, none⟩ (.int .u8 z)) hal
    have h2 := h.put' 0 he rfl
    (conv => whnf)
    refine ⟨by decide, ?_⟩
    (conv => whnf)
    have hd : ((((256 + c) / 16 ^ k : Nat) : Int)).fdiv (2 ^ (min (Int.toNat 4) IntKind.u64.bits)) = (((256 + c) / 16 ^ (k + 1) : Nat) : Int) := by
      rw [Nat.pow_succ, ← Nat.div_div_eq_div_mul]
      exact fd _ 16
    exact ⟨(k + 1, M2), le_eq ⟨congrArg (fun z : Nat => some (AV.v (.int .i64 ((z : Nat) : Int)))) (show 64 - k = 65 - (k + 1) by omega), congrArg (fun z : Int => some (AV.v (.int .u64 z))) hd, rfl, rfl, rfl, rfl, rfl, rfl, rfl, trivial⟩ rfl rfl rfl, ⟨by simp only; omega, h2⟩, by simp only; omega⟩
  · have c1 : ¬ 16 ≤ (256 + c) / 16 ^ k := by have : ¬ (16 : Int) ≤ (((256 + c) / 16 ^ k : Nat) : Int) := of_decide_eq_false c1; omega
    have hk2 : k = 2 := by
      have : k = 0 ∨ k = 1 ∨ k = 2 := by omega
      rcases this with rfl | rfl | rfl
      · exfalso; rw [show (256 + c) / 16 ^ 0 = 256 + c by simp] at c1; omega
      · exfalso; rw [show 16 ^ 1 = 16 from rfl] at c1; omega
      · rfl
    subst hk2
    have h1 : (256 + c) / 16 ^ 2 = 1 := by rw [show 16 ^ 2 = 256 from rfl]; omega
    (conv => whnf)
    rw [h1]
    have hw : IntKind.i64.wrap (((65 - 2 : Nat) : Int) - 1) = ((62 : Nat) : Int) := by rw [wrap_id (by omega) (by omega)]; rfl
    rw [hw]
    refine ⟨by omega, by show _ < ((36 : Nat) : Int); omega, ?_⟩
    (conv => whnf)
    refine ⟨by omega, by show _ < ((65 : Nat) : Int); omega, ?_⟩
    (conv => whnf)
    have hget : (dg c 2)[62]? = some ((dg c 2)[62]'(by omega)) := List.getElem?_eq_getElem (by omega)
    refine ⟨h.room 0 (i := 62) rfl hget, ?_⟩
    (conv => whnf)
    intro M2 he
    have h2 := h.put' (i := 62) (v := .int .u8 49) 0 (he.trans rfl) rfl
    (conv => whnf)
    refine ⟨by omega, by omega, by omega, ?_⟩
    (conv => whnf)
    refine ⟨hex3 c, rfl, .inr ⟨_, rfl, (h2.blk 0 rfl).holds (i := 62) fun k v hk => dg_last hc hk⟩, ?_⟩
    (conv => whnf)
    exact ⟨rfl, h2.kept 1 rfl⟩
theorem format_c {m : Mem} (hz : Z4 m) {c : Nat} (hc : c < 256) : FCalls Tryd.prog 50 [.int .i64 ((256 + c : Nat) : Int), .int .i64 16] m fun v m' => v = .string ⟨(hex3 c).toArray⟩ ∧ m.le m' := by
  refine fcalls_of_vc (T := tbl) (B := bodies) (pr := [99999]) (DR := dr50) (args := [.v (.int .i64 ((256 + c : Nat) : Int)), .v (.int .i64 16)]) tbl_ok bodies_ok mixed Tryd.func50 rfl (by decide +kernel) (by simp [Tryd.f50]) rfl ?_
  (conv => whnf)
  have w1 : IntKind.u64.wrap ((256 + c : Nat) : Int) = ((256 + c : Nat) : Int) := by rw [IntKind.wrap_u64]; omega
  have w2 : decide (((256 + c : Nat) : Int) < 0) = false := decide_eq_false (by omega)
  rw [w1, w2]
  refine FCalls.mono (bits_c hz hc) ?_
  rintro v m2 ⟨rfl, hm⟩
  (conv => whnf)
  exact ⟨rfl, hm⟩
theorem strformat_c {m : Mem} (hz : Z4 m) {c : Nat} (hc : c < 256) : FCalls Tryd.prog 41 [.int .i64 ((256 + c : Nat) : Int), .int .i64 16] m fun v m' => v = .string ⟨(hex3 c).toArray⟩ ∧ m.le m' := by
  refine fcalls_of_vc (T := tbl) (B := bodies) (pr := [99999]) (DR := dr41) (args := [.v (.int .i64 ((256 + c : Nat) : Int)), .v (.int .i64 16)]) tbl_ok bodies_ok mixed Tryd.func41 rfl (by decide +kernel) (by simp [Tryd.f41]) rfl ?_
  (conv => whnf)
  refine FCalls.mono (format_c hz hc) ?_
  rintro v m2 ⟨rfl, hm⟩
  (conv => whnf)
  exact ⟨rfl, hm⟩
end Go.Proofs.YtlnekbdcbkndbaaDoor
