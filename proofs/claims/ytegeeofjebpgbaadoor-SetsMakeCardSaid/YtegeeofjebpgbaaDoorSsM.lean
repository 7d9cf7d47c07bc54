/- Sets: From; SetsBack. -/
import Derived.Test.YtegeeofjebpgbaaDoorSsL
namespace Go.Proofs.YtegeeofjebpgbaaDoor
open Go Go.Mv
set_option maxHeartbeats 1000000
set_option maxRecDepth 10000
set_option linter.unusedVariables false
set_option linter.unusedSimpArgs false
attribute [local irreducible] FCalls IntKind.wrap bits Mem.set Mem.setCell Mem.setCells YCalls
/-- Ranges in memory. -/
def RowR (m : Mem) (A : Option Addr) (rs : List (Int × Int)) : Prop := rs = [] ∨ ∃ b o, A = some ⟨b, o, none⟩ ∧ ∀ (k : Nat) r, rs[k]? = some r → m.cell ⟨b, o + k * 2, none⟩ = some (.int .i64 r.1) ∧ m.cell ⟨b, o + k * 2 + 1, none⟩ = some (.int .i64 r.2)
theorem RowR.of_sl {m : Mem} {F : Nat → Prop} {A : Option Addr} {c : Nat} {rs : List (Nat × Nat)} (h : Sl m F A rs.length c 2 (cellsR rs)) : RowR m A (rs.map fun r => (((r.1 : Nat) : Int), ((r.2 : Nat) : Int))) := by
  cases rs with
  | nil => exact .inl rfl
  | cons r0 rest =>
    have hget : ∀ (rs : List (Nat × Nat)) (k : Nat) r, rs[k]? = some r → (cellsR rs)[k * 2]? = some (.int .i64 (r.1 : Int)) ∧ (cellsR rs)[k * 2 + 1]? = some (.int .i64 (r.2 : Int)) := by
      intro rs
      induction rs with
      | nil => intro k r hk; simp at hk
      | cons a l ih =>
        intro k r hk
        cases k with
        | zero => simp at hk; subst hk; exact ⟨rfl, rfl⟩
        | succ k =>
          have := ih k r (by simpa using hk)
          simp only [cellsR]
          rw [show (k + 1) * 2 = k * 2 + 1 + 1 by omega]
          exact ⟨by simpa using this.1, by simpa using this.2⟩
    obtain ⟨b, hA, _⟩ := h.cell (k := 0) (v := .int .i64 (r0.1 : Int)) rfl
    refine .inr ⟨b, 0, hA, fun k r hk => ?_⟩
    rw [List.getElem?_map] at hk
    obtain ⟨r', hk', rfl⟩ := Option.map_eq_some_iff.1 hk
    obtain ⟨g1, g2⟩ := hget _ k r' hk'
    obtain ⟨b1, hA1, _, c1, _⟩ := h.cell g1
    obtain ⟨b2, hA2, _, c2, _⟩ := h.cell g2
    rw [hA] at hA1 hA2
    cases hA1
    cases hA2
    rw [Nat.zero_add]
    exact ⟨c1, c2⟩
def badR (r : Int × Int) : Bool := decide (r.1 < 0 ∨ r.1 > r.2 ∨ r.2 > 255)
def inR (r : Int × Int) (b : Nat) : Bool := decide (r.1 ≤ (b : Int) ∧ (b : Int) ≤ r.2)
def fromF (rs : List (Int × Int)) (b : Nat) : Bool := rs.any fun r => inR r b
theorem from_c {m : Mem} {A : Option Addr} {c : Nat} {rs : List (Int × Int)} (hr : RowR m A rs) (hn : rs.length < 2 ^ 62) : FCalls Tryd.prog 38 [.slice A rs.length c] m fun v m' => m' = m ∧ ∃ G, WOk G ∧
    (rs.any badR = true ∧ v = .tuple #[wv G, .int .i64 1] ∧ (∀ b, b < 256 → has G b = false) ∨ rs.any badR = false ∧ v = .tuple #[wv G, .int .i64 0] ∧ ∀ b, b < 256 → has G b = fromF rs b) := by
  refine fcalls_of_vc (T := tbl) (B := bodies) (pr := [2, 4, 6, 7]) (DR := dr38) (args := [.v (.slice A rs.length c)]) tbl_ok bodies_ok mixed Tryd.func38 rfl (by decide +kernel) (by simp [Tryd.f38]) rfl ?_
  (conv => whnf)
  refine loop_keep [2, 4, 9, 10] (Nat × (Nat → Nat)) (fun s => [(11, .v (.int .i64 s.1))]) (fun s => [.ints .u64 [0, 0, 0, 0], .ints .u64 (W s.2)]) (fun _ => m) (fun s => s.1 ≤ rs.length ∧ WOk s.2 ∧ (rs.take s.1).any badR = false ∧ ∀ b, b < 256 → has s.2 b = fromF (rs.take s.1) b) (fun s => rs.length - s.1) (0, fun _ => 0) ⟨rfl, trivial⟩ rfl rfl ⟨by simp only; omega, fun k hk => Nat.two_pow_pos 64, rfl, fun b hb => Nat.zero_testBit _⟩ ?_
  (conv => whnf)
  refine ⟨rfl, fun s hs => ?_⟩
  obtain ⟨i, G⟩ := s
  obtain ⟨hi, hG, hbad, hb⟩ := hs
  simp only at hi hG hbad hb
  (conv => whnf)
  refine brk_intro (fun h1 => ?_) (fun h1 => ?_)
  · have h1 : (i : Int) < rs.length := by simpa using h1
    have hil : i < rs.length := by omega
    obtain ⟨r, hir⟩ : ∃ r, rs[i]? = some r := ⟨_, List.getElem?_eq_getElem hil⟩
    have htake : rs.take (i + 1) = rs.take i ++ [r] := by rw [List.take_add_one, hir]; rfl
    obtain ⟨b0, o0, hA, hcell⟩ : ∃ b o, A = some ⟨b, o, none⟩ ∧ ∀ (k : Nat) r, rs[k]? = some r → m.cell ⟨b, o + k * 2, none⟩ = some (.int .i64 r.1) ∧ m.cell ⟨b, o + k * 2 + 1, none⟩ = some (.int .i64 r.2) := by
      rcases hr with rfl | h
      · simp at hil
      · exact h
    obtain ⟨hc1, hc2⟩ := hcell i r hir
    (conv => whnf)
    refine ⟨_, hA, by omega, h1, ?_⟩
    (conv => whnf)
    have ea : (((⟨b0, o0, none⟩ : Addr).add ((i : Int).toNat * (tbl.at 40).size)).add 0) = ⟨b0, o0 + i * 2, none⟩ := by
      rw [add_mk, add_mk]
      show (⟨b0, o0 + (i : Int).toNat * 2 + 0, none⟩ : Addr) = _
      rw [show (i : Int).toNat = i by omega]
      rfl
    have ea1 : (((⟨b0, o0, none⟩ : Addr).add ((i : Int).toNat * (tbl.at 40).size)).add (0 + 1)) = ⟨b0, o0 + i * 2 + 1, none⟩ := by
      rw [add_mk, add_mk]
      show (⟨b0, o0 + (i : Int).toNat * 2 + 1, none⟩ : Addr) = _
      rw [show (i : Int).toNat = i by omega]
    refine ⟨r.1, by rw [ea]; exact hc1, ?_⟩
    (conv => whnf)
    refine ⟨r.2, by rw [ea1]; exact hc2, ?_⟩
    (conv => whnf)
    refine FCalls.mono range_c fun v m' ⟨h2, R, hR, h3⟩ => ?_
    subst h2
    rcases h3 with ⟨k1, rfl, k3⟩ | ⟨k1, rfl, k3⟩
    · (conv => whnf)
      refine ⟨_, W_len, rfl, ?_⟩
      (conv => whnf)
      refine ⟨rfl, W_len.symm, W_len.symm, ?_⟩
      (conv => whnf)
      refine ⟨rfl, rfl, rfl, ?_⟩
      (conv => whnf)
      refine ⟨rfl, rfl, ?_⟩
      (conv => whnf)
      refine ⟨rfl, fun _ => 0, fun k hk => Nat.two_pow_pos 64, .inl ⟨?_, rfl, fun b hb => Nat.zero_testBit _⟩⟩
      rw [List.any_eq_true]
      exact ⟨r, List.mem_of_getElem? hir, decide_eq_true k1⟩
    · (conv => whnf)
      refine ⟨_, W_len, rfl, ?_⟩
      (conv => whnf)
      refine ⟨rfl, W_len.symm, W_len.symm, ?_⟩
      (conv => whnf)
      refine ⟨rfl, W_len.symm, ?_⟩
      (conv => whnf)
      refine ⟨rfl, W_len.symm, ?_⟩
      (conv => whnf)
      refine FCalls.mono (or_c hG hR) fun v m' ⟨h2, h3⟩ => ?_
      subst h2 h3
      (conv => whnf)
      refine ⟨_, W_len, rfl, ?_⟩
      (conv => whnf)
      refine ⟨rfl, W_len.symm, by rw [W_len]; exact W_len.symm, ?_⟩
      (conv => whnf)
      have hstep : IntKind.i64.wrap ((i : Int) + 1) = ((i + 1 : Nat) : Int) := by rw [wrap_id (by omega) (by omega)]; omega
      refine ⟨(i + 1, orG G R), le_more (l := _) ⟨by show some (AV.v (.int .i64 (IntKind.i64.wrap ((i : Int) + 1)))) = _; rw [hstep], rfl, rfl, rfl, rfl, trivial⟩ rfl rfl rfl, ⟨by simp only; omega, or_ok hG, ?_, fun b hb' => ?_⟩, by simp only; omega⟩
      · show (rs.take (i + 1)).any badR = false
        rw [htake, List.any_append, hbad]
        simp only [List.any_cons, List.any_nil, Bool.or_false, Bool.false_or]
        exact decide_eq_false k1
      · show has (orG G R) b = fromF (rs.take (i + 1)) b
        rw [or_bit hG hR, hb b hb', k3 b hb', htake]
        unfold fromF
        rw [List.any_append]
        simp [inR]
  · have h1 : ¬ ((i : Int) < rs.length) := by simpa using h1
    have h1 : i = rs.length := by omega
    subst h1
    rw [List.take_length] at hbad hb
    (conv => whnf)
    refine ⟨rfl, W_len.symm, ?_⟩
    (conv => whnf)
    refine ⟨rfl, W_len.symm, W_len.symm, ?_⟩
    (conv => whnf)
    refine ⟨rfl, W_len.symm, ?_⟩
    (conv => whnf)
    exact ⟨rfl, G, hG, .inr ⟨hbad, rfl, hb⟩⟩
end Go.Proofs.YtegeeofjebpgbaaDoor
