/- Hunt: comparing stands. -/
import Derived.Test.YtbcmhpannbdejaaHuC
import Derived.Test.YtbcmhpannbdejaaMvIterS
namespace Go.Proofs.Ytbcmhpannbdejaa
open Go Go.Mv Go.Mv.Hunt
set_option maxHeartbeats 1000000
set_option maxRecDepth 10000
set_option linter.unusedVariables false
set_option linter.unusedSimpArgs false
attribute [local irreducible] FCalls IntKind.wrap bits Mem.set Mem.setCell Mem.setCells YCalls
def cmpI (x y : Int) : Int := if x < y then -1 else if y < x then 1 else 0
theorem cmpI_cases (x y : Int) : (x < y ∧ cmpI x y = -1) ∨ (x = y ∧ cmpI x y = 0) ∨ (y < x ∧ cmpI x y = 1) := by
  unfold cmpI
  by_cases h1 : x < y
  · exact .inl ⟨h1, if_pos h1⟩
  · by_cases h2 : y < x
    · exact .inr (.inr ⟨h2, by rw [if_neg h1, if_pos h2]⟩)
    · exact .inr (.inl ⟨by omega, by rw [if_neg h1, if_neg h2]⟩)
theorem cmp_c {m : Mem} {x y : Int} : FCalls Try.prog 25 [.int .i64 x, .int .i64 y] m fun v m' => v = .int .i64 (cmpI x y) ∧ m' = m := by
  have nan : ∀ z : Int, FCalls Try.prog 31 [.int .i64 z] m fun v m' => v = .bool false ∧ m' = m := by
    intro z
    refine fcalls_of_vc (T := tbl) (B := bodies) (pr := []) (DR := dr31) (args := [.v (.int .i64 z)]) tbl_ok bodies_ok mixed Try.func31 rfl (by decide +kernel) (by simp [Try.f31]) rfl ?_
    (conv => whnf)
    exact ⟨by show Value.bool (z != z) = _; simp, rfl⟩
  refine fcalls_of_vc (T := tbl) (B := bodies) (pr := []) (DR := dr25) (args := [.v (.int .i64 x), .v (.int .i64 y)]) tbl_ok bodies_ok mixed Try.func25 rfl (by decide +kernel) (by simp [Try.f25]) rfl ?_
  (conv => whnf)
  refine FCalls.mono (nan x) ?_
  rintro v m' ⟨rfl, rfl⟩
  (conv => whnf)
  refine FCalls.mono (nan y) ?_
  rintro v m' ⟨rfl, rfl⟩
  (conv => whnf)
  refine brk_intro (fun c1 => ?_) (fun c1 => ?_)
  · have c1 : x < y := by simpa using c1
    (conv => whnf)
    exact ⟨by unfold cmpI; rw [if_pos c1]; rfl, rfl⟩
  · have c1 : ¬ x < y := by simpa using c1
    (conv => whnf)
    refine brk_intro (fun c2 => ?_) (fun c2 => ?_)
    · have c2 : x > y := by simpa using c2
      (conv => whnf)
      exact ⟨by unfold cmpI; rw [if_neg c1, if_pos c2]; rfl, rfl⟩
    · have c2 : ¬ x > y := by simpa using c2
      (conv => whnf)
      exact ⟨by unfold cmpI; rw [if_neg c1, if_neg c2]; rfl, rfl⟩

theorem or_c {m : Mem} {b c : Nat} {x y : Int} (h : Blk m b [.int .i64 x, .int .i64 y]) : FCalls Try.prog 24 [.slice (some ⟨b, 0, none⟩) 2 c] m fun v m' => v = .int .i64 (if x ≠ 0 then x else y) ∧ m' = m := by
  refine fcalls_of_vc (T := tbl) (B := bodies) (pr := [99999]) (DR := dr24) (args := [.v (.slice (some ⟨b, 0, none⟩) 2 c)]) tbl_ok bodies_ok mixed Try.func24 rfl (by decide +kernel) (by simp [Try.f24]) rfl ?_
  (conv => whnf)
  refine loop_keep [3, 6, 7] Nat (fun s => [(8, .v (.int .i64 ((s : Nat) : Int)))]) (fun _ => []) (fun s => m) (fun s => s ≤ 2 ∧ (1 ≤ s → x = 0) ∧ (2 ≤ s → y = 0)) (fun s => 2 - s) 0 ⟨rfl, trivial⟩ rfl rfl (by simp) ?_
  (conv => whnf)
  refine ⟨rfl, ?_⟩
  rintro i ⟨h1, h2, h3⟩
  have hi : i = 0 ∨ i = 1 ∨ i = 2 := by omega
  rcases hi with rfl | rfl | rfl
  · (conv => whnf)
    refine ⟨_, rfl, by omega, by omega, ?_⟩
    (conv => whnf)
    refine ⟨_, h.cell (i := 0) rfl, ?_⟩
    (conv => whnf)
    refine brk_intro (fun c1 => ?_) (fun c1 => ?_)
    · have c1 : x ≠ 0 := by simpa using c1
      rw [if_pos c1]
      (conv => whnf)
      exact ⟨rfl, rfl⟩
    · have c1 : x = 0 := by simpa using c1
      (conv => whnf)
      exact ⟨1, le_eq ⟨by show some (AV.v (.int .i64 (IntKind.i64.wrap (((0 : Nat) : Int) + 1)))) = _; rw [wrap_id (by omega) (by omega)]; rfl, rfl, rfl, rfl, trivial⟩ rfl rfl rfl, ⟨by omega, fun _ => c1, fun hh => by omega⟩, by omega⟩
  · have c0 := h2 (Nat.le_refl _)
    rw [if_neg (by simp [c0])]
    (conv => whnf)
    refine ⟨_, rfl, by omega, by omega, ?_⟩
    (conv => whnf)
    refine ⟨_, h.cell (i := 1) rfl, ?_⟩
    (conv => whnf)
    refine brk_intro (fun c1 => ?_) (fun c1 => ?_)
    · (conv => whnf)
      exact ⟨rfl, rfl⟩
    · have c1 : y = 0 := by simpa using c1
      (conv => whnf)
      exact ⟨2, le_eq ⟨by show some (AV.v (.int .i64 (IntKind.i64.wrap (((1 : Nat) : Int) + 1)))) = _; rw [wrap_id (by omega) (by omega)]; rfl, rfl, rfl, rfl, trivial⟩ rfl rfl rfl, ⟨by omega, fun _ => c0, fun _ => c1⟩, by omega⟩
  · have c0 := h2 (by omega)
    have c1 := h3 (by omega)
    rw [if_neg (by simp [c0]), c1]
    (conv => whnf)
    exact ⟨rfl, rfl⟩
/-- The order of stands. -/
def cmpS (p q : Nat × Nat) : Int := if cmpI p.1 q.1 ≠ 0 then cmpI p.1 q.1 else cmpI p.2 q.2
def stc (p : Nat × Nat) : List Value := [.int .i64 ((p.1 : Nat) : Int), .int .i64 ((p.2 : Nat) : Int)]
theorem standCmp_c {m : Mem} {p q : Nat × Nat} :
    FCalls Try.prog 23 [.agg (stc p).toArray, .agg (stc q).toArray] m fun v m' => v = .int .i64 (cmpS p q) ∧ m.le m' := by
  refine fcalls_of_vc (T := tbl) (B := bodies) (pr := [99999, 2, 3]) (DR := dr23) (args := [.v (.agg (stc p).toArray), .v (.agg (stc q).toArray)]) tbl_ok bodies_ok mixed Try.func23 rfl (by decide +kernel) (by simp [Try.f23]) rfl ?_
  (conv => whnf)
  refine ⟨_, cmp_c, ?_⟩
  (conv => whnf)
  refine ⟨_, cmp_c, ?_⟩
  (conv => whnf)
  intro b m2 hb he
  have hB : Blk m2 b [.int .i64 (cmpI p.1 q.1), .int .i64 (cmpI p.2 q.2)] := by
    rw [he]
    exact (Blk.new (e := 3) (l := [.int .i64 (cmpI p.1 q.1), .int .i64 (cmpI p.2 q.2)]))
  have hle : m.le m2 := he ▸ Mem.le_set hb
  (conv => whnf)
  refine FCalls.mono (or_c hB) ?_
  rintro v m3 ⟨rfl, rfl⟩
  (conv => whnf)
  exact ⟨rfl, hle⟩
end Go.Proofs.Ytbcmhpannbdejaa
