/- Chars: Encode, the program's and the document's. -/
import Derived.Test.YtlnekbdcbkndbaaDoorChG
namespace Go.Proofs.YtlnekbdcbkndbaaDoor
open Go Go.Mv
set_option maxHeartbeats 2000000
set_option maxRecDepth 10000
set_option linter.unusedVariables false
set_option linter.unusedSimpArgs false
attribute [local irreducible] FCalls IntKind.wrap bits Mem.set Mem.setCell Mem.setCells YCalls RunP NextP
def encs (l : List Int) : List UInt8 := l.flatMap fun x => enc x.toNat
theorem encs_app {l r : List Int} : encs (l ++ r) = encs l ++ encs r := by unfold encs; rw [List.flatMap_append]
theorem encs_len {l : List Int} : (encs l).length ≤ 4 * l.length := by
  induction l with
  | nil => simp [encs]
  | cons x r ih =>
    have : (encs (x :: r)) = enc x.toNat ++ encs r := rfl
    rw [this, List.length_append, enc_len]
    simp only [List.length_cons]
    repeat' split
    all_goals omega
theorem take_snoc {l : List Int} {i : Nat} {x : Int} (h : l[i]? = some x) : l.take (i + 1) = l.take i ++ [x] := by
  rw [List.take_add_one, h]; rfl
def allC (l : List Int) : Prop := ∀ x, x ∈ l → isC x
theorem encode_c {m : Mem} {A : Option Addr} {cA : Nat} {l : List Int} (hA : Rd m A (iv l)) (hl : l.length < 2 ^ 44) (ok : Bool) (hok : ok = true ↔ allC l) : FCalls Tryd.prog 10 [.slice A l.length cA] m fun v m' =>
    m.le m' ∧ v = (if ok then .tuple #[.string ⟨(encs l).toArray⟩, .int .i64 0] else .tuple #[.string ⟨#[]⟩, .int .i64 20]) := by
  refine fcalls_of_vc (T := tbl) (B := bodies) (pr := [99999]) (DR := dr10) (args := [.v (.slice A l.length cA)]) tbl_ok bodies_ok mixed Tryd.func10 rfl (by decide +kernel) (by simp [Tryd.f10]) rfl ?_
  (conv => whnf)
  refine loop_keep [7, 8] (Nat × Option Addr × Nat × Mem) (fun t => [(9, .v (.int .i64 ((t.1 : Nat) : Int))), (4, .v (.slice t.2.1 (encs (l.take t.1)).length t.2.2.1))]) (fun _ => []) (fun t => t.2.2.2) (fun t => t.1 ≤ l.length ∧ allC (l.take t.1) ∧ Sep [br t.2.1 (encs (l.take t.1)).length t.2.2.1 (encs (l.take t.1)), kp m] t.2.2.2) (fun t => l.length - t.1) (0, none, 0, m) ⟨rfl, rfl, trivial⟩ rfl rfl ⟨Nat.zero_le _, fun x h => (by simp at h), Sep.free (A := br none 0 0 []) (Sep.init m) br_nil⟩ ?_
  (conv => whnf)
  refine ⟨rfl, ?_⟩
  rintro ⟨i, B, cB, M⟩ ⟨hi, hall, h⟩
  simp only at hi hall h
  (conv => whnf)
  refine brk_intro (fun c1 => ?_) (fun c1 => ?_)
  · have c1 : i < l.length := by have : ((i : Nat) : Int) < ((l.length : Nat) : Int) := of_decide_eq_true c1; omega
    have hi3 : i + 1 ≤ l.length := c1
    obtain ⟨x, hx⟩ : ∃ x, l[i]? = some x := ⟨_, List.getElem?_eq_getElem c1⟩
    have hAM := hA.more (h.kept 1 rfl)
    obtain ⟨p, hp, hc⟩ := hAM.at (iv_get hx)
    have hmem : x ∈ l := List.mem_of_getElem? hx
    (conv => whnf)
    refine ⟨p, hp, by omega, by omega, ?_⟩
    (conv => whnf)
    refine ⟨_, by show M.cell (p.add (i * 1)) = _; rw [Nat.mul_one]; exact hc, ?_⟩
    (conv => whnf)
    have hbad : ¬ isC x → ok = false := fun h => by
      cases ok with
      | false => rfl
      | true => exact absurd (hok.1 rfl x hmem) h
    by_cases g1 : x < 0
    · refine brk_false (by simpa using g1) ?_
      (conv => whnf)
      exact ⟨h.kept 1 rfl, by rw [hbad fun q => by have := q.1; omega]; rfl⟩
    · refine brk_true (by simpa using g1) ?_
      (conv => whnf)
      by_cases g2 : x > 1114111
      · refine brk_false (by simp; omega) ?_
        (conv => whnf)
        exact ⟨h.kept 1 rfl, by rw [hbad fun q => by have := q.2.1; omega]; rfl⟩
      · obtain ⟨r, rfl⟩ : ∃ r : Nat, x = (r : Int) := ⟨x.toNat, by omega⟩
        have hw : IntKind.i32.wrap ((r : Nat) : Int) = ((r : Nat) : Int) := wraps_i32 _ (by omega) (by omega)
        refine brk_true (by simp; omega) ?_
        (conv => whnf)
        rw [hw]
        refine FCalls.mono vrune_c ?_
        rintro v M1 ⟨rfl, rfl⟩
        (conv => whnf)
        by_cases g3 : isC ((r : Nat) : Int)
        · refine brk_false (by rw [decide_eq_true g3]; rfl) ?_
          (conv => whnf)
          have hbl := encs_len (l := l.take i)
          have hbl2 : (l.take i).length ≤ l.length := by rw [List.length_take]; omega
          refine FCalls.mono (h.call 0 rfl fun m1 hm => by rw [hw]; exact put_c (bs := encs (l.take i)) g3 (by omega) hm) ?_
          rintro v M2 ⟨m2, ⟨B2, c2, rfl, h2⟩, hB⟩
          have h' := hB.one h2
          have es : encs (l.take (i + 1)) = encs (l.take i) ++ enc r := by
            rw [take_snoc hx, encs_app]
            simp [encs]
          rw [← es] at h'
          (conv => whnf)
          have e2 : IntKind.i64.wrap (((i : Nat) : Int) + 1) = ((i + 1 : Nat) : Int) := by rw [wrap_id (by omega) (by omega)]; omega
          rw [e2, ← es]
          exact ⟨(i + 1, B2, c2, M2), le_eq ⟨rfl, rfl, rfl, rfl, trivial⟩ rfl rfl rfl, ⟨hi3, fun y hy => by
            rw [take_snoc hx] at hy
            rcases List.mem_append.1 hy with hy | hy
            · exact hall y hy
            · rw [List.mem_singleton.1 hy]; exact g3, h'⟩, by simp only; omega⟩
        · refine brk_true (by rw [decide_eq_false g3]; rfl) ?_
          (conv => whnf)
          exact ⟨h.kept 1 rfl, by rw [hbad g3]; rfl⟩
  · have c1 : ¬ i < l.length := by have : ¬ ((i : Nat) : Int) < ((l.length : Nat) : Int) := of_decide_eq_false c1; omega
    have hi2 : i = l.length := by omega
    rw [hi2, List.take_length] at hall h
    have hok2 : ok = true := hok.2 hall
    (conv => whnf)
    refine ⟨encs l, by rw [hi2, List.take_length], ?_, ?_⟩
    · have h2 := sl_olds ((h.turn 0 rfl fun _ _ h => h.1 : Sep [sl B (encs l).length cB 1 (byteVals (encs l)), kp m] M).asn 0 rfl)
      rcases h2 with ⟨h2, h3⟩ | h2
      · refine .inl ⟨h3, ?_⟩
        exact List.length_eq_zero_iff.1 (by omega)
      · exact .inr h2
    · (conv => whnf)
      rw [hok2]
      exact ⟨h.kept 1 rfl, rfl⟩
theorem size_mk (l : List UInt8) : (⟨l.toArray⟩ : ByteArray).size = l.length := rfl
theorem mk_app (l r : List UInt8) : (⟨l.toArray⟩ : ByteArray) ++ (⟨r.toArray⟩ : ByteArray) = ⟨(l ++ r).toArray⟩ := by
  apply ByteArray.ext
  rw [ByteArray.data_append]
  simp
theorem refencode_c {m : Mem} {A : Option Addr} {cA : Nat} {l : List Int} (hA : Rd m A (iv l)) (hl : l.length < 2 ^ 44) (ok : Bool) (hok : ok = true ↔ allC l) : FCalls Tryd.prog 11 [.slice A l.length cA] m fun v m' =>
    m' = m ∧ v = (if ok then .tuple #[.string ⟨(encs l).toArray⟩, .bool true] else .tuple #[.string ⟨#[]⟩, .bool false]) := by
  refine fcalls_of_vc (T := tbl) (B := bodies) (pr := [99999]) (DR := dr11) (args := [.v (.slice A l.length cA)]) tbl_ok bodies_ok mixed Tryd.func11 rfl (by decide +kernel) (by simp [Tryd.f11]) rfl ?_
  (conv => whnf)
  refine loop_keep [0] Nat (fun i => [(5, .v (.int .i64 ((i : Nat) : Int))), (4, .v (.string ⟨(encs (l.take i)).toArray⟩))]) (fun _ => []) (fun _ => m) (fun i => i ≤ l.length ∧ allC (l.take i)) (fun i => l.length - i) 0 ⟨rfl, rfl, trivial⟩ rfl rfl ⟨Nat.zero_le _, fun x h => (by simp at h)⟩ ?_
  (conv => whnf)
  refine ⟨rfl, ?_⟩
  rintro i ⟨hi, hall⟩
  (conv => whnf)
  refine brk_intro (fun c1 => ?_) (fun c1 => ?_)
  · have c1 : i < l.length := by have : ((i : Nat) : Int) < ((l.length : Nat) : Int) := of_decide_eq_true c1; omega
    have hi3 : i + 1 ≤ l.length := c1
    obtain ⟨x, hx⟩ : ∃ x, l[i]? = some x := ⟨_, List.getElem?_eq_getElem c1⟩
    obtain ⟨p, hp, hc⟩ := hA.at (iv_get hx)
    have hmem : x ∈ l := List.mem_of_getElem? hx
    have hbad : ¬ isC x → ok = false := fun h => by
      cases ok with
      | false => rfl
      | true => exact absurd (hok.1 rfl x hmem) h
    (conv => whnf)
    refine ⟨p, hp, by omega, by omega, ?_⟩
    (conv => whnf)
    refine ⟨_, by show m.cell (p.add (i * 1)) = _; rw [Nat.mul_one]; exact hc, ?_⟩
    (conv => whnf)
    refine FCalls.mono is_c ?_
    rintro v M1 ⟨rfl, rfl⟩
    (conv => whnf)
    by_cases g3 : isC x
    · refine brk_false (by rw [decide_eq_true g3]; rfl) ?_
      have g31 := g3.1
      have g32 := g3.2.1
      obtain ⟨r, rfl⟩ : ∃ r : Nat, x = (r : Int) := ⟨x.toNat, by omega⟩
      (conv => whnf)
      refine ⟨p, hp, by omega, by omega, ?_⟩
      (conv => whnf)
      refine ⟨_, by show M1.cell (p.add (i * 1)) = _; rw [Nat.mul_one]; exact hc, ?_⟩
      (conv => whnf)
      refine FCalls.mono (text_c (by omega)) ?_
      rintro v M2 ⟨rfl, rfl⟩
      (conv => whnf)
      have hbl := encs_len (l := l.take i)
      have hbl2 : (l.take i).length ≤ l.length := by rw [List.length_take]; omega
      have hbl3 : (enc r).length ≤ 4 := by rw [enc_len]; repeat' split
                                           all_goals omega
      refine ⟨by rw [size_mk, size_mk, show IntKind.i64.max = 9223372036854775807 from rfl]; omega, ?_⟩
      (conv => whnf)
      have es : encs (l.take (i + 1)) = encs (l.take i) ++ enc r := by
        rw [take_snoc hx, encs_app]
        simp [encs]
      have e2 : IntKind.i64.wrap (((i : Nat) : Int) + 1) = ((i + 1 : Nat) : Int) := by rw [wrap_id (by omega) (by omega)]; omega
      rw [e2, mk_app, ← es]
      exact ⟨i + 1, le_eq ⟨rfl, rfl, rfl, trivial⟩ rfl rfl rfl, ⟨hi3, fun y hy => by
        rw [take_snoc hx] at hy
        rcases List.mem_append.1 hy with hy | hy
        · exact hall y hy
        · rw [List.mem_singleton.1 hy]; exact g3⟩, by omega⟩
    · refine brk_true (by rw [decide_eq_false g3]; rfl) ?_
      (conv => whnf)
      exact ⟨rfl, by rw [hbad g3]; rfl⟩
  · have c1 : ¬ i < l.length := by have : ¬ ((i : Nat) : Int) < ((l.length : Nat) : Int) := of_decide_eq_false c1; omega
    have hi2 : i = l.length := by omega
    rw [hi2, List.take_length] at hall
    have hok2 : ok = true := hok.2 hall
    (conv => whnf)
    rw [hok2, hi2, List.take_length]
    exact ⟨rfl, rfl⟩
end Go.Proofs.YtlnekbdcbkndbaaDoor
