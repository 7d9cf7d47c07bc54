/- Chars: escapes read. -/
import Derived.Test.YtlnekbdcbkndbaaDoorChP
namespace Go.Proofs.YtlnekbdcbkndbaaDoor
open Go Go.Mv
set_option maxHeartbeats 2000000
set_option maxRecDepth 10000
set_option linter.unusedVariables false
set_option linter.unusedSimpArgs false
attribute [local irreducible] FCalls IntKind.wrap bits Mem.set Mem.setCell Mem.setCells YCalls RunP NextP
def itB : Item → UInt8
  | .bs => 92
  | .nl => 10
  | .hx b => b
  | .pl _ => 0
theorem bt_list {L : List UInt8} {j : Nat} {x : UInt8} (h : L[j]? = some x) : bt ⟨L.toArray⟩ ((j : Nat) : Int) = ((x.toNat : Nat) : Int) := by
  rw [bt_get]
  have := bN_drop (s := ⟨L.toArray⟩) (i := 0) (j := j)
  rw [Nat.zero_add, List.drop_zero, bl_mk] at this
  rw [← this]
  unfold bN
  rw [List.getD_eq_getElem?_getD, h]
  rfl
def escV : (Item × Nat) ⊕ (Nat × Nat) → Value
  | .inl (it, k) => .tuple #[.int .u8 (((itB it).toNat : Nat) : Int), .int .i64 ((k : Nat) : Int), .int .i64 0, .int .i64 0]
  | .inr (e, o) => .tuple #[.int .u8 0, .int .i64 0, .int .i64 ((e : Nat) : Int), .int .i64 ((o : Nat) : Int)]
theorem escaped_c {m : Mem} {L : List UInt8} (hL : L.length < 2 ^ 60) : FCalls Tryd.prog 36 [.string ⟨L.toArray⟩] m fun v m' => v = escV (escl L) ∧ m' = m := by
  refine fcalls_of_vc (T := tbl) (B := bodies) (pr := [99999]) (DR := dr36) (args := [.v (.string ⟨L.toArray⟩)]) tbl_ok bodies_ok mixed Tryd.func36 rfl (by decide +kernel) (by simp [Tryd.f36]) rfl ?_
  (conv => whnf)
  refine brk_intro (fun c0 => ?_) (fun c0 => ?_)
  · have c0 : L.length < 2 := by have : ((L.length : Nat) : Int) < 2 := of_decide_eq_true c0; omega
    (conv => whnf)
    refine ⟨?_, rfl⟩
    match L, c0 with
    | [], _ => rfl
    | [a], _ => rfl
  have c0 : 2 ≤ L.length := by have : ¬ ((L.length : Nat) : Int) < 2 := of_decide_eq_false c0; omega
  (conv => whnf)
  match L, hL, c0 with
  | a :: b :: r, hL, c0 =>
    refine ⟨by omega, by rw [size_mk]; simp; omega, ?_⟩
    (conv => whnf)
    rw [show bt ⟨(a :: b :: r).toArray⟩ 1 = ((b.toNat : Nat) : Int) from bt_list (j := 1) rfl]
    have lb := b.toNat_lt
    have nb : ∀ (c : UInt8), ((((b.toNat : Nat) : Int) == ((c.toNat : Nat) : Int)) = true) → b = c := fun c h => UInt8.toNat_inj.1 (by have : ((b.toNat : Nat) : Int) = ((c.toNat : Nat) : Int) := (by simpa using h); omega)
    have nb' : ∀ (c : UInt8), ((((b.toNat : Nat) : Int) == ((c.toNat : Nat) : Int)) = false) → b ≠ c := fun c h => by rintro rfl; simp at h
    refine brk_intro (fun c1 => ?_) (fun c1 => ?_)
    · obtain rfl := nb 92 c1
      (conv => whnf)
      exact ⟨rfl, rfl⟩
    · have c1 := nb' 92 c1
      (conv => whnf)
      refine brk_intro (fun c2 => ?_) (fun c2 => ?_)
      · obtain rfl := nb 110 c2
        (conv => whnf)
        exact ⟨rfl, rfl⟩
      · have c2 := nb' 110 c2
        (conv => whnf)
        refine brk_intro (fun c3 => ?_) (fun c3 => ?_)
        · obtain rfl := nb 120 c3
          (conv => whnf)
          refine loop_keep [0] (Nat × Nat) (fun t => [(7, .v (.int .i64 ((t.1 : Nat) : Int))), (6, .v (.int .i64 ((t.2 : Nat) : Int)))]) (fun _ => []) (fun _ => m)
            (fun t => (t.1 = 2 ∧ t.2 = 0) ∨ ∃ x r2 d, r = x :: r2 ∧ dig x = some d ∧ ((t.1 = 3 ∧ t.2 = d) ∨ ∃ y r3 e, r2 = y :: r3 ∧ dig y = some e ∧ t.1 = 4 ∧ t.2 = 16 * d + e)) (fun t => 4 - t.1) (2, 0) ⟨rfl, rfl, trivial⟩ rfl rfl (.inl ⟨rfl, rfl⟩) ?_
          (conv => whnf)
          refine ⟨rfl, ?_⟩
          rintro ⟨i, n⟩ hJ
          simp only at hJ
          (conv => whnf)
          rcases hJ with ⟨rfl, rfl⟩ | ⟨x, r2, d, rfl, hx, ⟨rfl, rfl⟩ | ⟨y, r3, e, rfl, hy, rfl, rfl⟩⟩
          · refine brk_intro (fun c4 => ?_) (fun c4 => ?_)
            · have c4 : ((2 : Nat) : Int) = ((a :: 120 :: r).length : Nat) := eq_of_beq c4
              obtain rfl : r = [] := List.length_eq_zero_iff.1 (by simp at c4; omega)
              (conv => whnf)
              exact ⟨rfl, rfl⟩
            have c4 : ¬ ((2 : Nat) : Int) = ((a :: 120 :: r).length : Nat) := ne_of_beq_false c4
            (conv => whnf)
            match r, hL, c4 with
            | [], hL, c4 => exact absurd rfl c4
            | x :: r2, hL, c4 =>
              refine ⟨by omega, by rw [size_mk]; simp; omega, ?_⟩
              (conv => whnf)
              rw [show bt ⟨(a :: 120 :: x :: r2).toArray⟩ ((2 : Nat) : Int) = ((x.toNat : Nat) : Int) from bt_list (j := 2) rfl]
              refine FCalls.mono sib_c ?_
              rintro v m1 ⟨rfl, rfl⟩
              (conv => whnf)
              cases hx : dig x with
              | none =>
                rw [digI_none hx]
                (conv => whnf)
                exact ⟨by unfold escl; simp [hx]; rfl, rfl⟩
              | some d =>
                have hd := (dig_lt hx).1
                rw [digI_some hx]
                (conv => whnf)
                have e1 : IntKind.i64.wrap (IntKind.i64.wrap (16 * ((0 : Nat) : Int)) + ((d : Nat) : Int)) = ((d : Nat) : Int) := by
                  rw [wrap_id (x := 16 * ((0 : Nat) : Int)) (by omega) (by omega), wrap_id (by omega) (by omega)]; omega
                have e2 : IntKind.i64.wrap (((2 : Nat) : Int) + 1) = ((3 : Nat) : Int) := by rw [wrap_id (by omega) (by omega)]; omega
                rw [e1, e2]
                exact ⟨(3, d), le_eq ⟨rfl, rfl, rfl, trivial⟩ rfl rfl rfl, .inr ⟨x, r2, d, rfl, hx, .inl ⟨rfl, rfl⟩⟩, by simp only; omega⟩
          · refine brk_intro (fun c4 => ?_) (fun c4 => ?_)
            · have c4 : ((3 : Nat) : Int) = ((a :: 120 :: x :: r2).length : Nat) := eq_of_beq c4
              obtain rfl : r2 = [] := List.length_eq_zero_iff.1 (by simp at c4; omega)
              (conv => whnf)
              exact ⟨by unfold escl; simp [hx]; rfl, rfl⟩
            have c4 : ¬ ((3 : Nat) : Int) = ((a :: 120 :: x :: r2).length : Nat) := ne_of_beq_false c4
            (conv => whnf)
            match r2, hL, c4 with
            | [], hL, c4 => exact absurd rfl c4
            | y :: r3, hL, c4 =>
              refine ⟨by omega, by rw [size_mk]; simp; omega, ?_⟩
              (conv => whnf)
              rw [show bt ⟨(a :: 120 :: x :: y :: r3).toArray⟩ ((3 : Nat) : Int) = ((y.toNat : Nat) : Int) from bt_list (j := 3) rfl]
              refine FCalls.mono sib_c ?_
              rintro v m1 ⟨rfl, rfl⟩
              (conv => whnf)
              cases hy : dig y with
              | none =>
                rw [digI_none hy]
                (conv => whnf)
                exact ⟨by unfold escl; simp [hx, hy]; rfl, rfl⟩
              | some e =>
                have he := (dig_lt hy).1
                have hd := (dig_lt hx).1
                rw [digI_some hy]
                (conv => whnf)
                have e1 : IntKind.i64.wrap (IntKind.i64.wrap (16 * ((n : Nat) : Int)) + ((e : Nat) : Int)) = ((16 * n + e : Nat) : Int) := by
                  rw [wrap_id (x := 16 * ((n : Nat) : Int)) (by omega) (by omega), wrap_id (by omega) (by omega)]; omega
                have e2 : IntKind.i64.wrap (((3 : Nat) : Int) + 1) = ((4 : Nat) : Int) := by rw [wrap_id (by omega) (by omega)]; omega
                rw [e1, e2]
                exact ⟨(4, 16 * n + e), le_eq ⟨rfl, rfl, rfl, trivial⟩ rfl rfl rfl, .inr ⟨x, y :: r3, n, rfl, hx, .inr ⟨y, r3, e, rfl, hy, rfl, rfl⟩⟩, by simp only; omega⟩
          · have he := (dig_lt hy).1
            have hd := (dig_lt hx).1
            (conv => whnf)
            rw [wraps_u8 _ (by omega) (by omega)]
            refine ⟨?_, rfl⟩
            have hes : escl (a :: 120 :: x :: y :: r3) = .inl (.hx (UInt8.ofNat (16 * d + e)), 4) := by unfold escl; simp [hx, hy]
            rw [hes]
            show _ = Value.tuple #[.int .u8 (((UInt8.ofNat (16 * d + e)).toNat : Nat) : Int), _, _, _]
            rw [u8n _ (by omega)]
            rfl
        · have c3 := nb' 120 c3
          (conv => whnf)
          exact ⟨by unfold escl; simp [c1, c2, c3]; rfl, rfl⟩
def hexV (a : Nat) : (Item × Nat) ⊕ (Nat × Nat) → Value
  | .inl (it, k) => .tuple #[.int .u8 (((itB it).toNat : Nat) : Int), .int .i64 0, .int .i64 0]
  | .inr (e, o) => .tuple #[.int .u8 0, .int .i64 ((e : Nat) : Int), .int .i64 ((a + o : Nat) : Int)]
theorem bt_drop {s : ByteArray} {a j : Nat} {L : List UInt8} {x : UInt8} (hL : (bl s).drop a = L) (h : L[j]? = some x) : bt s ((a + j : Nat) : Int) = ((x.toNat : Nat) : Int) := by
  rw [bt_get, ← bN_drop, hL]
  unfold bN
  rw [List.getD_eq_getElem?_getD, h]
  rfl
theorem hex_c {m : Mem} {s : ByteArray} (hs : s.size < 2 ^ 60) {a : Nat} {b : UInt8} {r : List UInt8} (hL : (bl s).drop a = b :: 120 :: r) : FCalls Tryd.prog 38 [.string s, .int .i64 ((a : Nat) : Int)] m fun v m' => v = hexV a (escl (b :: 120 :: r)) ∧ m' = m := by
  have hlen : s.size = a + (2 + r.length) := by
    have := congrArg List.length hL
    rw [List.length_drop, bl_len] at this
    simp at this
    omega
  have e0 : IntKind.i64.wrap (((a : Nat) : Int) + 2) = ((a + 2 : Nat) : Int) := by rw [wrap_id (by omega) (by omega)]; omega
  have e4 : IntKind.i64.wrap (((a : Nat) : Int) + 4) = ((a + 4 : Nat) : Int) := by rw [wrap_id (by omega) (by omega)]; omega
  refine fcalls_of_vc (T := tbl) (B := bodies) (pr := [99999]) (DR := dr38) (args := [.v (.string s), .v (.int .i64 ((a : Nat) : Int))]) tbl_ok bodies_ok mixed Tryd.func38 rfl (by decide +kernel) (by simp [Tryd.f38]) rfl ?_
  (conv => whnf)
  rw [e0]
  refine loop_keep [0, 1] (Nat × Nat) (fun t => [(8, .v (.int .i64 ((a + t.1 : Nat) : Int))), (7, .v (.int .i64 ((t.2 : Nat) : Int)))]) (fun _ => []) (fun _ => m)
    (fun t => (t.1 = 2 ∧ t.2 = 0) ∨ ∃ x r2 d, r = x :: r2 ∧ dig x = some d ∧ ((t.1 = 3 ∧ t.2 = d) ∨ ∃ y r3 e, r2 = y :: r3 ∧ dig y = some e ∧ t.1 = 4 ∧ t.2 = 16 * d + e)) (fun t => 4 - t.1) (2, 0) ⟨rfl, rfl, trivial⟩ rfl rfl (.inl ⟨rfl, rfl⟩) ?_
  (conv => whnf)
  refine ⟨rfl, ?_⟩
  rintro ⟨i, n⟩ hJ
  simp only at hJ
  (conv => whnf)
  rw [e4]
  refine brk_intro (fun c1 => ?_) (fun c1 => ?_)
  · have c1 : i < 4 := by have : ((a + i : Nat) : Int) < ((a + 4 : Nat) : Int) := of_decide_eq_true c1; omega
    (conv => whnf)
    refine brk_intro (fun c2 => ?_) (fun c2 => ?_)
    · have c2 : s.size ≤ a + i := by have : ((s.size : Nat) : Int) ≤ ((a + i : Nat) : Int) := of_decide_eq_true c2; omega
      (conv => whnf)
      refine ⟨?_, rfl⟩
      rcases hJ with ⟨rfl, rfl⟩ | ⟨x, r2, d, rfl, hx, ⟨rfl, rfl⟩ | ⟨y, r3, e, rfl, hy, rfl, rfl⟩⟩
      · obtain rfl : r = [] := List.length_eq_zero_iff.1 (by omega)
        rw [hlen]
        rfl
      · obtain rfl : r2 = [] := List.length_eq_zero_iff.1 (by simp at hlen; omega)
        have hes : escl [b, 120, x] = .inr (31, 3) := by unfold escl; simp [hx]
        rw [hlen, hes]
        rfl
      · exfalso; omega
    · have c2 : a + i < s.size := by have : ¬ ((s.size : Nat) : Int) ≤ ((a + i : Nat) : Int) := of_decide_eq_false c2; omega
      (conv => whnf)
      refine ⟨by omega, by omega, ?_⟩
      (conv => whnf)
      rcases hJ with ⟨rfl, rfl⟩ | ⟨x, r2, d, rfl, hx, ⟨rfl, rfl⟩ | ⟨y, r3, e, rfl, hy, rfl, rfl⟩⟩
      · match r, hL, hlen with
        | [], hL, hlen => exfalso; simp at hlen; omega
        | x :: r2, hL, hlen =>
          rw [show bt s ((a + 2 : Nat) : Int) = ((x.toNat : Nat) : Int) from bt_drop hL rfl]
          refine FCalls.mono digit_c ?_
          rintro v m1 ⟨rfl, rfl⟩
          (conv => whnf)
          cases hx : dig x with
          | none =>
            have hes : escl (b :: 120 :: x :: r2) = .inr (32, 0) := by unfold escl; simp [hx]
            rw [digI_none hx, hes]
            (conv => whnf)
            exact ⟨rfl, rfl⟩
          | some d =>
            have hd := (dig_lt hx).1
            rw [digI_some hx]
            (conv => whnf)
            have e1 : IntKind.i64.wrap (IntKind.i64.wrap (16 * ((0 : Nat) : Int)) + ((d : Nat) : Int)) = ((d : Nat) : Int) := by
              rw [wrap_id (x := 16 * ((0 : Nat) : Int)) (by omega) (by omega), wrap_id (by omega) (by omega)]; omega
            have e2 : IntKind.i64.wrap (((a + 2 : Nat) : Int) + 1) = ((a + 3 : Nat) : Int) := by rw [wrap_id (by omega) (by omega)]; omega
            rw [e1, e2]
            exact ⟨(3, d), le_eq ⟨rfl, rfl, rfl, rfl, trivial⟩ rfl rfl rfl, .inr ⟨x, r2, d, rfl, hx, .inl ⟨rfl, rfl⟩⟩, by simp only; omega⟩
      · match r2, hL, hlen with
        | [], hL, hlen => exfalso; simp at hlen; omega
        | y :: r3, hL, hlen =>
          rw [show bt s ((a + 3 : Nat) : Int) = ((y.toNat : Nat) : Int) from bt_drop hL rfl]
          refine FCalls.mono digit_c ?_
          rintro v m1 ⟨rfl, rfl⟩
          (conv => whnf)
          cases hy : dig y with
          | none =>
            have hes : escl (b :: 120 :: x :: y :: r3) = .inr (32, 0) := by unfold escl; simp [hx, hy]
            rw [digI_none hy, hes]
            (conv => whnf)
            exact ⟨rfl, rfl⟩
          | some e =>
            have he := (dig_lt hy).1
            have hd := (dig_lt hx).1
            rw [digI_some hy]
            (conv => whnf)
            have e1 : IntKind.i64.wrap (IntKind.i64.wrap (16 * ((n : Nat) : Int)) + ((e : Nat) : Int)) = ((16 * n + e : Nat) : Int) := by
              rw [wrap_id (x := 16 * ((n : Nat) : Int)) (by omega) (by omega), wrap_id (by omega) (by omega)]; omega
            have e2 : IntKind.i64.wrap (((a + 3 : Nat) : Int) + 1) = ((a + 4 : Nat) : Int) := by rw [wrap_id (by omega) (by omega)]; omega
            rw [e1, e2]
            exact ⟨(4, 16 * n + e), le_eq ⟨rfl, rfl, rfl, rfl, trivial⟩ rfl rfl rfl, .inr ⟨x, y :: r3, n, rfl, hx, .inr ⟨y, r3, e, rfl, hy, rfl, rfl⟩⟩, by simp only; omega⟩
      · exfalso; omega
  · have c1 : 4 ≤ i := by have : ¬ ((a + i : Nat) : Int) < ((a + 4 : Nat) : Int) := of_decide_eq_false c1; omega
    (conv => whnf)
    rcases hJ with ⟨rfl, rfl⟩ | ⟨x, r2, d, rfl, hx, ⟨rfl, rfl⟩ | ⟨y, r3, e, rfl, hy, rfl, rfl⟩⟩
    · exfalso; omega
    · exfalso; omega
    · have he := (dig_lt hy).1
      have hd := (dig_lt hx).1
      have hes : escl (b :: 120 :: x :: y :: r3) = .inl (.hx (UInt8.ofNat (16 * d + e)), 4) := by unfold escl; simp [hx, hy]
      rw [hes, wraps_u8 _ (by omega) (by omega)]
      refine ⟨?_, rfl⟩
      show _ = Value.tuple #[.int .u8 (((UInt8.ofNat (16 * d + e)).toNat : Nat) : Int), _, _]
      rw [u8n _ (by omega)]
      rfl
end Go.Proofs.YtlnekbdcbkndbaaDoor
