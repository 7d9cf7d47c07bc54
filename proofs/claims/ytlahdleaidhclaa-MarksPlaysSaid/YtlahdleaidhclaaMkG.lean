/- Marks: pick, same, filled, Copy, Same. -/
import Derived.Test.YtlahdleaidhclaaMkF
namespace Go.Proofs.Ytlahdleaidhclaa
open Go Go.Mv
set_option maxHeartbeats 1000000
set_option maxRecDepth 10000
set_option linter.unusedVariables false
set_option linter.unusedSimpArgs false
attribute [local irreducible] FCalls IntKind.wrap bits Mem.set Mem.setCell Mem.setCells YCalls
def Ints (m : Mem) (A : Option Addr) (xs : List Int) : Prop := xs = [] ∨ ∃ b i, A = some ⟨b, i, none⟩ ∧ ∀ k x, xs[k]? = some x → m.cell ⟨b, i + k, none⟩ = some (.int .i64 x)
theorem cell_more {m m' : Mem} (h : ∀ k o, m k = some o → m' k = some o) {a : Addr} {v : Value} (hc : m.cell a = some v) : m'.cell a = some v := by
  unfold Mem.cell at hc ⊢
  cases hm : m a.block with
  | none => rw [hm] at hc; cases hc
  | some o => rw [h _ _ hm]; rw [hm] at hc; exact hc
theorem Ints.more {m m' : Mem} {A : Option Addr} {xs : List Int} (h : Ints m A xs) (hm : ∀ k o, m k = some o → m' k = some o) : Ints m' A xs :=
  h.imp_right fun ⟨b, i, h1, h2⟩ => ⟨b, i, h1, fun k x hx => cell_more hm (h2 k x hx)⟩
theorem Ints.at {m : Mem} {A : Option Addr} {xs : List Int} {k : Nat} {x : Int} (h : Ints m A xs) (hx : xs[k]? = some x) : ∃ p, A = some p ∧ m.cell (p.add (k * (tbl.at 3).size)) = some (.int .i64 x) := by
  rcases h with rfl | ⟨b, j, rfl, h⟩
  · simp at hx
  · refine ⟨_, rfl, ?_⟩
    rw [add_mk]
    show m.cell ⟨b, j + k * 1, none⟩ = _
    rw [Nat.mul_one]
    exact h k x hx
theorem Ints.of_sl {m : Mem} {F : Nat → Prop} {A : Option Addr} {n c : Nat} {xs : List Int} (h : Sl m F A n c 1 (ints xs)) : Ints m A xs := by
  rcases hx : xs with _ | ⟨x, r⟩
  · exact .inl rfl
  · rw [← hx]
    obtain ⟨b, hA, _, _⟩ := h.cell (k := 0) (v := .int .i64 x) (by rw [hx]; rfl)
    refine .inr ⟨b, 0, hA, fun k y hk => ?_⟩
    obtain ⟨b', hA', _, hc, _⟩ := h.cell (ints_get hk)
    rw [hA] at hA'
    cases hA'
    rw [Nat.zero_add]
    exact hc
def pickI (c n : Int) : Int := (if c < 0 then -(c + 1) else c).tmod n
theorem pickI_in {c n : Int} (hn : 0 < n) : 0 ≤ pickI c n ∧ pickI c n < n := by
  have h0 : 0 ≤ (if c < 0 then -(c + 1) else c) := by split <;> omega
  exact ⟨Int.tmod_nonneg _ h0, Int.tmod_lt_of_pos _ hn⟩
theorem pick_c {m : Mem} {c n : Int} (h0 : -9223372036854775808 ≤ c) (h1 : c ≤ 9223372036854775807) (hn : 0 < n) : FCalls Try.prog 14 [.int .i64 c, .int .i64 n] m fun v m' => v = .int .i64 (pickI c n) ∧ m' = m := by
  refine fcalls_of_vc (T := tbl) (B := bodies) (pr := []) (DR := dr14) (args := [.v (.int .i64 c), .v (.int .i64 n)]) tbl_ok bodies_ok mixed Try.func14 rfl (by decide +kernel) (by simp [Try.f14]) rfl ?_
  (conv => whnf)
  refine brk_intro (fun h => ?_) (fun h => ?_)
  · have h : c < 0 := by simpa using h
    (conv => whnf)
    refine ⟨by omega, ?_⟩
    (conv => whnf)
    refine ⟨?_, rfl⟩
    rw [wrap_id (x := c + 1) (by omega) (by omega), wrap_id (x := 0 - (c + 1)) (by omega) (by omega), show 0 - (c + 1) = -(c + 1) by omega]
    unfold pickI
    rw [if_pos h]
    rfl
  · have h : ¬ c < 0 := by simpa using h
    (conv => whnf)
    refine ⟨by omega, ?_⟩
    (conv => whnf)
    refine ⟨?_, rfl⟩
    unfold pickI
    rw [if_neg h]
    rfl
theorem ixI {p : Addr} {k : Nat} : p.add ((k : Int).toNat * (tbl.at 3).size) = p.add (k * (tbl.at 3).size) := by
  rw [show (k : Int).toNat = k by omega]
theorem same_c {m : Mem} {A B : Option Addr} {xs ys : List Int} {c d : Nat} (hA : Ints m A xs) (hB : Ints m B ys) (hn : xs.length < 2 ^ 62) : FCalls Try.prog 22 [.slice A xs.length c, .slice B ys.length d] m fun v m' => v = .bool (decide (xs = ys)) ∧ m' = m := by
  refine fcalls_of_vc (T := tbl) (B := bodies) (pr := []) (DR := dr22) (args := [.v (.slice A xs.length c), .v (.slice B ys.length d)]) tbl_ok bodies_ok mixed Try.func22 rfl (by decide +kernel) (by simp [Try.f22]) rfl ?_
  (conv => whnf)
  refine brk_intro (fun h => ?_) (fun h => ?_)
  · (conv => whnf)
    refine ⟨?_, rfl⟩
    rw [decide_eq_false (fun h1 => by rw [h1] at h; simp at h)]
    rfl
  · have hlen : xs.length = ys.length := by
      have : (xs.length : Int) = ys.length := by simpa using h
      omega
    (conv => whnf)
    refine loop_keep [0, 1] Nat (fun i => [(5, .v (.int .i64 ((i : Nat) : Int)))]) (fun _ => []) (fun _ => m) (fun i => i ≤ xs.length ∧ ∀ k, k < i → xs[k]? = ys[k]?) (fun i => xs.length - i) 0 ⟨rfl, trivial⟩ rfl rfl ⟨by omega, fun k hk => by omega⟩ ?_
    (conv => whnf)
    refine ⟨rfl, fun i hJ => ?_⟩
    obtain ⟨hJ1, hJ2⟩ := hJ
    (conv => whnf)
    refine brk_intro (fun h1 => ?_) (fun h1 => ?_)
    · have h1 : (i : Int) < (xs.length : Nat) := by simpa using h1
      obtain ⟨x, hx⟩ : ∃ x, xs[i]? = some x := ⟨_, List.getElem?_eq_getElem (by omega)⟩
      obtain ⟨y, hy⟩ : ∃ y, ys[i]? = some y := ⟨_, List.getElem?_eq_getElem (by omega)⟩
      obtain ⟨p, hp, hcx⟩ := hA.at hx
      obtain ⟨q, hq, hcy⟩ := hB.at hy
      (conv => whnf)
      refine ⟨_, hp, by omega, by omega, ?_⟩
      (conv => whnf)
      refine ⟨x, by rw [ixI]; exact hcx, ?_⟩
      (conv => whnf)
      refine ⟨_, hq, by omega, by omega, ?_⟩
      (conv => whnf)
      refine ⟨y, by rw [ixI]; exact hcy, ?_⟩
      (conv => whnf)
      refine brk_intro (fun h2 => ?_) (fun h2 => ?_)
      · (conv => whnf)
        refine ⟨?_, rfl⟩
        rw [decide_eq_false (fun h3 => by rw [h3, hy] at hx; cases hx; simp at h2)]
        rfl
      · have h2 : x = y := by simpa using h2
        (conv => whnf)
        refine ⟨i + 1, le_eq ⟨by show some (AV.v (.int .i64 (IntKind.i64.wrap ((i : Int) + 1)))) = _; rw [wrap_id (by omega) (by omega)]; rfl, rfl, rfl, trivial⟩ rfl rfl rfl, ⟨by omega, fun k hk => ?_⟩, by omega⟩
        by_cases hki : k = i
        · rw [hki, hx, hy, h2]
        · exact hJ2 k (by omega)
    · have h1 : ¬ (i : Int) < (xs.length : Nat) := by simpa using h1
      (conv => whnf)
      refine ⟨?_, rfl⟩
      rw [decide_eq_true (List.ext_getElem? fun k => ?_)]
      · rfl
      · by_cases hk : k < i
        · exact hJ2 k hk
        · rw [List.getElem?_eq_none (by omega), List.getElem?_eq_none (by omega)]
def fillL (room : Nat) (zs : List Int) : List Nat := zs.foldl (putL room) []
theorem filled_c {m : Mem} {A : Option Addr} {zs : List Int} {c : Nat} {room : Int} (hA : Ints m A zs) (h0 : 0 ≤ room) (h1 : room ≤ 100000) : FCalls Try.prog 15 [.int .i64 room, .slice A zs.length c] m fun v m' =>
    ∃ p, v = .pointer (some ⟨p, 0, none⟩) ∧ MkS (fun _ => False) m m' p room.toNat (fillL room.toNat (zs.take 300)) := by
  refine fcalls_of_vc (T := tbl) (B := bodies) (pr := []) (DR := dr15) (args := [.v (.int .i64 room), .v (.slice A zs.length c)]) tbl_ok bodies_ok mixed Try.func15 rfl (by decide +kernel) (by simp [Try.f15]) rfl ?_
  (conv => whnf)
  refine FCalls.mono (new_c (room := room)) fun v m1 ⟨h3, _⟩ => ?_
  obtain ⟨p, hv, h⟩ := h3 ⟨h0, h1⟩
  subst hv
  (conv => whnf)
  refine loop_keep [1, 5] (Nat × Mem) (fun s => [(7, .v (.int .i64 ((s.1 : Nat) : Int)))]) (fun _ => []) (fun s => s.2) (fun s => s.1 ≤ zs.length ∧ s.1 ≤ 300 ∧ MkS (fun _ => False) m s.2 p room.toNat (fillL room.toNat (zs.take s.1))) (fun s => zs.length - s.1) (0, m1) ⟨rfl, trivial⟩ rfl rfl ⟨by simp, by simp, h⟩ ?_
  (conv => whnf)
  refine ⟨rfl, fun s hJ => ?_⟩
  obtain ⟨i, M⟩ := s
  obtain ⟨hJ1, hJ2, hJ3⟩ := hJ
  simp only at hJ1 hJ2 hJ3
  by_cases c1 : i < zs.length
  · have e1 : decide ((i : Int) < (zs.length : Nat)) = true := decide_eq_true (by omega)
    by_cases c2 : i < 300
    · have e2 : decide ((i : Int) < 300) = true := decide_eq_true (by omega)
      obtain ⟨x, hx⟩ : ∃ x, zs[i]? = some x := ⟨_, List.getElem?_eq_getElem c1⟩
      obtain ⟨q, hq, hcx⟩ := (hA.more hJ3.low).at hx
      (conv => whnf)
      refine brk_true (by rw [e1]; rfl) ?_
      (conv => whnf)
      refine brk_true (by rw [e2]; rfl) ?_
      (conv => whnf)
      refine ⟨_, hq, by omega, by omega, ?_⟩
      (conv => whnf)
      refine ⟨x, by rw [ixI]; exact hcx, ?_⟩
      (conv => whnf)
      refine FCalls.mono (put_m hJ3 x) fun v m2 ⟨hv, h4⟩ => ?_
      subst hv
      (conv => whnf)
      refine ⟨(i + 1, m2), le_eq ⟨by show some (AV.v (.int .i64 (IntKind.i64.wrap ((i : Int) + 1)))) = _; rw [wrap_id (by omega) (by omega)]; rfl, rfl, rfl, trivial⟩ rfl rfl rfl, ⟨by simp only; omega, by simp only; omega, ?_⟩, by simp only; omega⟩
      rw [List.take_add_one, hx]
      unfold fillL
      rw [List.foldl_append]
      exact h4
    · have e2 : decide ((i : Int) < 300) = false := decide_eq_false (by omega)
      (conv => whnf)
      refine brk_true (by rw [e1]; rfl) ?_
      (conv => whnf)
      refine brk_false (by rw [e2]; rfl) ?_
      (conv => whnf)
      refine ⟨p, rfl, ?_⟩
      rw [show 300 = i by omega]
      exact hJ3
  · have e1 : decide ((i : Int) < (zs.length : Nat)) = false := decide_eq_false (by omega)
    (conv => whnf)
    refine brk_false (by rw [e1]; rfl) ?_
    (conv => whnf)
    refine ⟨p, rfl, ?_⟩
    rw [List.take_of_length_le (by omega)]
    rw [show i = zs.length by omega, List.take_length] at hJ3
    exact hJ3
end Go.Proofs.Ytlahdleaidhclaa
