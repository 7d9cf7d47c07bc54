/- Sets: the document's Ranges; same. -/
import Derived.Test.YtegeeofjebpgbaaDoorSsM
namespace Go.Proofs.YtegeeofjebpgbaaDoor
open Go Go.Mv
set_option maxHeartbeats 1000000
set_option maxRecDepth 10000
set_option linter.unusedVariables false
set_option linter.unusedSimpArgs false
attribute [local irreducible] FCalls IntKind.wrap bits Mem.set Mem.setCell Mem.setCells YCalls
theorem Tz.more {m m' : Mem} (h : Tz m) (hm : ∀ k o, m k = some o → m' k = some o) : Tz m' := by
  refine h.same ?_
  cases h0 : m 0 with
  | some o => rw [hm 0 o h0]
  | none => exact absurd rfl (h.ne h0)
theorem SetIn.of {m : Mem} {b : Nat} {G : Nat → Nat} (h : Blk m b (intCells .u64 (W G))) : SetIn m b G := by
  intro i hi
  refine h.cell ?_
  simp [intCells, List.getD, hi]
theorem same_c {m : Mem} {A B : Option Addr} {xs ys : List (Int × Int)} {c d : Nat} (hA : RowR m A xs) (hB : RowR m B ys) (hn : xs.length < 2 ^ 62) :
    FCalls Tryd.prog 18 [.slice A xs.length c, .slice B ys.length d] m fun v m' => v = .bool (decide (xs = ys)) ∧ m' = m := by
  refine fcalls_of_vc (T := tbl) (B := bodies) (pr := []) (DR := dr18) (args := [.v (.slice A xs.length c), .v (.slice B ys.length d)]) tbl_ok bodies_ok mixed Tryd.func18 rfl (by decide +kernel) (by simp [Tryd.f18]) rfl ?_
  (conv => whnf)
  refine brk_intro (fun h => ?_) (fun h => ?_)
  · (conv => whnf)
    refine ⟨?_, rfl⟩
    have : xs ≠ ys := by rintro rfl; simp at h
    simp [single, this]
  · have hlen : xs.length = ys.length := by
      have : (xs.length : Int) = ys.length := by simpa using h
      omega
    (conv => whnf)
    refine loop_keep [0, 1] Nat (fun i => [(5, .v (.int .i64 i))]) (fun _ => []) (fun _ => m) (fun i => i ≤ xs.length ∧ ∀ k : Nat, k < i → xs[k]? = ys[k]?) (fun i => xs.length - i) 0 ⟨rfl, trivial⟩ rfl rfl ⟨by omega, by omega⟩ ?_
    (conv => whnf)
    refine ⟨rfl, fun i hJ => ?_⟩
    obtain ⟨hJ1, hJ2⟩ := hJ
    (conv => whnf)
    refine brk_intro (fun h1 => ?_) (fun h1 => ?_)
    · have h1 : (i : Int) < xs.length := by simpa using h1
      have hi : i < xs.length := by omega
      obtain ⟨x, hx⟩ : ∃ x, xs[i]? = some x := ⟨_, List.getElem?_eq_getElem hi⟩
      obtain ⟨y, hy⟩ : ∃ y, ys[i]? = some y := ⟨_, List.getElem?_eq_getElem (by omega)⟩
      obtain ⟨b, o, rfl, hAc⟩ : ∃ b o, A = some ⟨b, o, none⟩ ∧ ∀ (k : Nat) r, xs[k]? = some r → m.cell ⟨b, o + k * 2, none⟩ = some (.int .i64 r.1) ∧ m.cell ⟨b, o + k * 2 + 1, none⟩ = some (.int .i64 r.2) := by
        rcases hA with rfl | h
        · simp at hi
        · exact h
      obtain ⟨b', o', rfl, hBc⟩ : ∃ b o, B = some ⟨b, o, none⟩ ∧ ∀ (k : Nat) r, ys[k]? = some r → m.cell ⟨b, o + k * 2, none⟩ = some (.int .i64 r.1) ∧ m.cell ⟨b, o + k * 2 + 1, none⟩ = some (.int .i64 r.2) := by
        rcases hB with rfl | h
        · simp at hy
        · exact h
      obtain ⟨x1, x2⟩ := hAc i x hx
      obtain ⟨y1, y2⟩ := hBc i y hy
      have ea : ∀ b o, (((⟨b, o, none⟩ : Addr).add ((i : Int).toNat * (tbl.at 40).size)).add 0) = ⟨b, o + i * 2, none⟩ := by
        intro b o
        rw [add_mk, add_mk]
        show (⟨b, o + (i : Int).toNat * 2 + 0, none⟩ : Addr) = _
        rw [show (i : Int).toNat = i by omega]
        rfl
      have ea1 : ∀ b o, (((⟨b, o, none⟩ : Addr).add ((i : Int).toNat * (tbl.at 40).size)).add (0 + 1)) = ⟨b, o + i * 2 + 1, none⟩ := by
        intro b o
        rw [add_mk, add_mk]
        show (⟨b, o + (i : Int).toNat * 2 + 1, none⟩ : Addr) = _
        rw [show (i : Int).toNat = i by omega]
      (conv => whnf)
      refine ⟨_, rfl, by omega, h1, ?_⟩
      (conv => whnf)
      refine ⟨x.1, by rw [ea]; exact x1, ?_⟩
      (conv => whnf)
      refine ⟨x.2, by rw [ea1]; exact x2, ?_⟩
      (conv => whnf)
      refine ⟨_, rfl, by omega, by omega, ?_⟩
      (conv => whnf)
      refine ⟨y.1, by rw [ea]; exact y1, ?_⟩
      (conv => whnf)
      refine ⟨y.2, by rw [ea1]; exact y2, ?_⟩
      (conv => whnf)
      refine brk_intro (fun h2 => ?_) (fun h2 => ?_)
      · (conv => whnf)
        refine ⟨?_, rfl⟩
        have : xs ≠ ys := by
          rintro rfl
          rw [hx] at hy
          cases hy
          simp at h2
        simp [single, this]
      · have hxy : x = y := by
          have h3 : (x.1 == y.1 && (x.2 == y.2 && true)) = true := by simpa using h2
          simp only [Bool.and_true, Bool.and_eq_true, beq_iff_eq] at h3
          exact Prod.ext h3.1 h3.2
        (conv => whnf)
        have hstep : IntKind.i64.wrap ((i : Int) + 1) = ((i + 1 : Nat) : Int) := by rw [wrap_id (by omega) (by omega)]; omega
        refine ⟨i + 1, le_eq ⟨by show some (AV.v (.int .i64 (IntKind.i64.wrap ((i : Int) + 1)))) = _; rw [hstep], rfl, rfl, trivial⟩ rfl rfl rfl, ⟨by omega, fun k hk => ?_⟩, by omega⟩
        rcases Nat.lt_or_eq_of_le (Nat.le_of_lt_succ hk) with hk | rfl
        · exact hJ2 k hk
        · rw [hx, hy, hxy]
    · have h1 : ¬ ((i : Int) < xs.length) := by simpa using h1
      have h1 : i = xs.length := by omega
      subst h1
      (conv => whnf)
      refine ⟨?_, rfl⟩
      have : xs = ys := by
        apply List.ext_getElem?
        intro k
        by_cases hk : k < xs.length
        · exact hJ2 k hk
        · rw [List.getElem?_eq_none (by omega), List.getElem?_eq_none (by omega)]
      simp [single, this]
end Go.Proofs.YtegeeofjebpgbaaDoor
