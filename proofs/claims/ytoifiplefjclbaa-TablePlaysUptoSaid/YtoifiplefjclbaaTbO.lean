/- Table: the order of keys; slices.Compare, slices.Clone. -/
import Derived.Test.YtoifiplefjclbaaTbJ
import Derived.Test.YtoifiplefjclbaaMvIterS
import Derived.Test.YtoifiplefjclbaaMvSort
namespace Go.Proofs.Ytoifiplefjclbaa
open Go Go.Mv
set_option maxHeartbeats 1000000
set_option maxRecDepth 10000
set_option linter.unusedVariables false
set_option linter.unusedSimpArgs false
attribute [local irreducible] FCalls IntKind.wrap bits Mem.set Mem.setCell Mem.setCells YCalls
def cmpI (x y : Int) : Int := if x < y then -1 else if y < x then 1 else 0
def lexC : List Int → List Int → Int
  | [], [] => 0
  | [], _ :: _ => -1
  | _ :: _, [] => 1
  | x :: xs, y :: ys => if cmpI x y = 0 then lexC xs ys else cmpI x y
theorem cmpI_cases (x y : Int) : (x < y ∧ cmpI x y = -1) ∨ (x = y ∧ cmpI x y = 0) ∨ (y < x ∧ cmpI x y = 1) := by
  unfold cmpI
  by_cases h1 : x < y
  · exact .inl ⟨h1, if_pos h1⟩
  · by_cases h2 : y < x
    · exact .inr (.inr ⟨h2, by rw [if_neg h1, if_pos h2]⟩)
    · exact .inr (.inl ⟨by omega, by rw [if_neg h1, if_neg h2]⟩)
theorem lexC_self : ∀ xs : List Int, lexC xs xs = 0
  | [] => rfl
  | x :: xs => by
    have : cmpI x x = 0 := by unfold cmpI; simp
    simp only [lexC, this, if_true]
    exact lexC_self xs
theorem lexC_neg : ∀ xs ys : List Int, lexC ys xs = - lexC xs ys
  | [], [] => rfl
  | [], _ :: _ => rfl
  | _ :: _, [] => rfl
  | x :: xs, y :: ys => by
    simp only [lexC]
    rcases cmpI_cases x y with ⟨h, e⟩ | ⟨h, e⟩ | ⟨h, e⟩ <;> rcases cmpI_cases y x with ⟨h', e'⟩ | ⟨h', e'⟩ | ⟨h', e'⟩ <;> first | omega | (rw [e, e']; simp) 
    exact lexC_neg xs ys
theorem lexC_zero : ∀ {xs ys : List Int}, lexC xs ys = 0 → xs = ys
  | [], [], _ => rfl
  | [], _ :: _, h => by simp [lexC] at h
  | _ :: _, [], h => by simp [lexC] at h
  | x :: xs, y :: ys, h => by
    simp only [lexC] at h
    rcases cmpI_cases x y with ⟨h1, e⟩ | ⟨h1, e⟩ | ⟨h1, e⟩ <;> rw [e] at h
    · simp at h
    · rw [if_pos rfl] at h
      rw [h1, lexC_zero h]
    · simp at h
theorem lexC_le_trans : ∀ {xs ys zs : List Int}, lexC xs ys ≤ 0 → lexC ys zs ≤ 0 → lexC xs zs ≤ 0 ∧ (lexC xs ys < 0 ∨ lexC ys zs < 0 → lexC xs zs < 0)
  | [], ys, [], h1, h2 => by
    cases ys with
    | nil => simp [lexC]
    | cons y ys => simp [lexC] at h2
  | [], _, _ :: _, _, _ => by simp [lexC]
  | _ :: _, [], _, h1, _ => by simp [lexC] at h1
  | _ :: _, _ :: _, [], _, h2 => by simp [lexC] at h2
  | x :: xs, y :: ys, z :: zs, h1, h2 => by
    simp only [lexC] at h1 h2 ⊢
    rcases cmpI_cases x y with ⟨a, e⟩ | ⟨a, e⟩ | ⟨a, e⟩ <;> rcases cmpI_cases y z with ⟨b, e'⟩ | ⟨b, e'⟩ | ⟨b, e'⟩ <;> rcases cmpI_cases x z with ⟨c, e''⟩ | ⟨c, e''⟩ | ⟨c, e''⟩ <;> rw [e] at h1 ⊢ <;> rw [e'] at h2 ⊢ <;> rw [e''] <;> first | omega | (simp at h1 h2 ⊢; try omega)
    exact lexC_le_trans h1 h2
theorem cmp_c {m : Mem} {x y : Int} : FCalls Try.prog 41 [.int .i64 x, .int .i64 y] m fun v m' => v = .int .i64 (cmpI x y) ∧ m' = m := by
  have nan : ∀ z : Int, FCalls Try.prog 58 [.int .i64 z] m fun v m' => v = .bool false ∧ m' = m := by
    intro z
    refine fcalls_of_vc (T := tbl) (B := bodies) (pr := []) (DR := dr58) (args := [.v (.int .i64 z)]) tbl_ok bodies_ok mixed Try.func58 rfl (by decide +kernel) (by simp [Try.f58]) rfl ?_
    (conv => whnf)
    exact ⟨by show Value.bool (z != z) = _; simp, rfl⟩
  refine fcalls_of_vc (T := tbl) (B := bodies) (pr := []) (DR := dr41) (args := [.v (.int .i64 x), .v (.int .i64 y)]) tbl_ok bodies_ok mixed Try.func41 rfl (by decide +kernel) (by simp [Try.f41]) rfl ?_
  (conv => whnf)
  refine FCalls.mono (nan x) ?_
  rintro v m' ⟨rfl, rfl⟩
  (conv => whnf)
  refine FCalls.mono (nan y) ?_
  rintro v m' ⟨rfl, rfl⟩
  (conv => whnf)
  refine brk_intro (fun c1 => ?_) (fun c1 => ?_)
  · have c1 : x < y := by simpa using c1
    (conv => whnf)
    exact ⟨by unfold cmpI; rw [if_pos c1]; rfl, rfl⟩
  · have c1 : ¬ x < y := by simpa using c1
    (conv => whnf)
    refine brk_intro (fun c2 => ?_) (fun c2 => ?_)
    · have c2 : x > y := by simpa using c2
      (conv => whnf)
      exact ⟨by unfold cmpI; rw [if_neg c1, if_pos c2]; rfl, rfl⟩
    · have c2 : ¬ x > y := by simpa using c2
      (conv => whnf)
      exact ⟨by unfold cmpI; rw [if_neg c1, if_neg c2]; rfl, rfl⟩
theorem lexC_drop {xs ys : List Int} {i : Nat} (hx : i < xs.length) (hy : i < ys.length) : lexC (xs.drop i) (ys.drop i) = if cmpI (xs.getD i 0) (ys.getD i 0) = 0 then lexC (xs.drop (i + 1)) (ys.drop (i + 1)) else cmpI (xs.getD i 0) (ys.getD i 0) := by
  rw [drop_getD hx, drop_getD hy]
  rfl
theorem lex_c {m : Mem} {A B : Option Addr} {xs ys : List Int} {c d : Nat} (hA : Ints m A xs) (hB : Ints m B ys) (hn : xs.length < 2 ^ 62) (hk : ys.length < 2 ^ 62) :
    FCalls Try.prog 34 [.slice A xs.length c, .slice B ys.length d] m fun v m' => v = .int .i64 (lexC xs ys) ∧ m' = m := by
  refine fcalls_of_vc (T := tbl) (B := bodies) (pr := [99999]) (DR := dr34) (args := [.v (.slice A xs.length c), .v (.slice B ys.length d)]) tbl_ok bodies_ok mixed Try.func34 rfl (by decide +kernel) (by simp [Try.f34]) rfl ?_
  (conv => whnf)
  refine loop_keep [0, 1, 9, 10] Nat (fun i => [(11, .v (.int .i64 ((i : Nat) : Int)))]) (fun _ => []) (fun _ => m) (fun i => i ≤ xs.length ∧ i ≤ ys.length ∧ lexC xs ys = lexC (xs.drop i) (ys.drop i)) (fun i => xs.length - i) 0 ⟨rfl, trivial⟩ rfl rfl ⟨by simp, by simp, rfl⟩ ?_
  (conv => whnf)
  refine ⟨rfl, ?_⟩
  rintro i ⟨hJ1, hJ2, hJ3⟩
  (conv => whnf)
  refine brk_intro (fun c1 => ?_) (fun c1 => ?_)
  · have c1 : (i : Int) < (xs.length : Nat) := by simpa using c1
    obtain ⟨p, hp, hcx⟩ := hA.at (i := (i : Int)) (by omega) c1
    (conv => whnf)
    refine ⟨p, hp, by omega, by omega, ?_⟩
    (conv => whnf)
    refine ⟨_, hcx, ?_⟩
    (conv => whnf)
    refine brk_intro (fun c2 => ?_) (fun c2 => ?_)
    · have c2 : (i : Int) ≥ (ys.length : Nat) := by simpa using c2
      (conv => whnf)
      refine ⟨?_, rfl⟩
      rw [hJ3, List.drop_eq_nil_of_le (show ys.length ≤ i by omega), drop_getD (show i < xs.length by omega)]
      rfl
    · have c2 : ¬ (i : Int) ≥ (ys.length : Nat) := by simpa using c2
      obtain ⟨q, hq, hcy⟩ := hB.at (i := (i : Int)) (by omega) (by omega)
      (conv => whnf)
      refine ⟨q, hq, by omega, by omega, ?_⟩
      (conv => whnf)
      refine ⟨_, hcy, ?_⟩
      (conv => whnf)
      rw [show ((i : Nat) : Int).toNat = i by omega]
      refine FCalls.mono cmp_c ?_
      rintro v m' ⟨rfl, rfl⟩
      have hd := lexC_drop (show i < xs.length by omega) (show i < ys.length by omega)
      (conv => whnf)
      refine brk_intro (fun c3 => ?_) (fun c3 => ?_)
      · have c3 : cmpI (xs.getD i 0) (ys.getD i 0) ≠ 0 := by simpa using c3
        (conv => whnf)
        exact ⟨by rw [hJ3, hd, if_neg c3]; rfl, rfl⟩
      · have c3 : cmpI (xs.getD i 0) (ys.getD i 0) = 0 := by simpa using c3
        (conv => whnf)
        exact ⟨i + 1, le_eq ⟨by show some (AV.v (.int .i64 (IntKind.i64.wrap ((i : Int) + 1)))) = _; rw [wrap_id (by omega) (by omega)]; rfl, rfl, rfl, rfl, rfl, trivial⟩ rfl rfl rfl, ⟨by omega, by omega, by rw [hJ3, hd, if_pos c3]⟩, by omega⟩
  · have c1 : ¬ (i : Int) < (xs.length : Nat) := by simpa using c1
    have hx0 : xs.drop i = [] := List.drop_eq_nil_of_le (by omega)
    (conv => whnf)
    refine brk_intro (fun c2 => ?_) (fun c2 => ?_)
    · have c2 : (xs.length : Int) < (ys.length : Nat) := by simpa using c2
      (conv => whnf)
      refine ⟨?_, rfl⟩
      rw [hJ3, hx0, drop_getD (show i < ys.length by omega)]
      rfl
    · have c2 : ¬ (xs.length : Int) < (ys.length : Nat) := by simpa using c2
      (conv => whnf)
      refine ⟨?_, rfl⟩
      rw [hJ3, hx0, List.drop_eq_nil_of_le (show ys.length ≤ i by omega)]
      rfl
def ints (xs : List Int) : List Value := xs.map (.int .i64)
theorem ints_len (zs : List Int) : (ints zs).length = zs.length * 1 := by simp [ints]
theorem ints_get {zs : List Int} {k : Nat} {x : Int} (h : zs[k]? = some x) : (ints zs)[k]? = some (.int .i64 x) := by simp [ints, h]
theorem ints_one (xs : List Int) : oneCells (ints xs) = true := by
  induction xs with
  | nil => rfl
  | cons x r ih => exact ih
theorem ints_of_sl {m : Mem} {A : Option Addr} {n c : Nat} {xs : List Int} (h : sl A n c 1 (ints xs) m) : Ints m A xs := by
  obtain ⟨h1, h2, h3⟩ := h
  rcases h3 with ⟨rfl, rfl⟩ | ⟨b, o, l, e, rfl, k2, k3, k4⟩
  · refine .inl (List.length_eq_zero_iff.1 ?_)
    rw [ints_len] at h1
    omega
  · exact .inr ⟨b, o, rfl, fun k x hk => Blk.cell ⟨e, k2⟩ (k4 k _ (ints_get hk))⟩
theorem Ints.hold {m : Mem} {A : Option Addr} {xs : List Int} (h : Ints m A xs) : xs.length * 1 = 0 ∨ ∃ p, A = some p ∧ m.holds p (ints xs) := by
  rcases h with rfl | ⟨b, i, rfl, h⟩
  · exact .inl rfl
  · refine .inr ⟨_, rfl, fun k v hk => ?_⟩
    rw [add_mk]
    simp only [ints, List.getElem?_map] at hk
    cases hx : xs[k]? with
    | none => rw [hx] at hk; cases hk
    | some x => rw [hx] at hk; cases hk; exact h k x hx
theorem Ints.up {m m' : Mem} {A : Option Addr} {xs : List Int} (h : Ints m A xs) (hm : m.le m') : Ints m' A xs :=
  h.imp_right fun ⟨b, i, h1, h2⟩ => ⟨b, i, h1, fun k x hk => Mem.le_cell hm (h2 k x hk)⟩
theorem clone_c {m : Mem} {A : Option Addr} {xs : List Int} {c : Nat} (hA : Ints m A xs) (hn : xs.length < 2 ^ 40) : FCalls Try.prog 35 [.slice A xs.length c] m fun v m' =>
    ∃ A' c', v = .slice A' xs.length c' ∧ Sep [sl A' xs.length c' 1 (ints xs), kp m] m' := by
  have h := Sep.init m
  refine fcalls_of_vc (T := tbl) (B := bodies) (pr := [99999]) (DR := dr35) (args := [.v (.slice A xs.length c)]) tbl_ok bodies_ok mixed Try.func35 rfl (by decide +kernel) (by simp [Try.f35]) rfl ?_
  (conv => whnf)
  refine brk_intro (fun c1 => ?_) (fun c1 => ?_)
  · have hA0 : A = none := by cases A <;> simp_all
    subst hA0
    have hx : xs = [] := by
      rcases hA with h | ⟨b, i, h, _⟩
      · exact h
      · cases h
    subst hx
    (conv => whnf)
    exact ⟨none, 0, rfl, Mem.empty, m, fun _ => .inl rfl, fun _ _ h => (by cases h), Mem.le_refl _, sl_nil, h⟩
  · (conv => whnf)
    intro b m2 hb he
    replace h : Sep [pt b [], kp m] m2 := h.new' hb he
    replace h := h.slOf 0 (n := 0) (c := 0) (sz := (tbl.at 3).size) (vs := []) rfl rfl (Nat.le_refl _) (by simp) (by simp)
    (conv => whnf)
    obtain ⟨ok, hR⟩ := h.app 0 (T := tbl) (e := 3) (news := ints xs) (k := xs.length) (B := A) rfl (ints_len xs) (Ints.hold (hA.up (h.kept 1 rfl))) (ints_one xs) rfl (by show 2 * (0 + xs.length) * 8 ≤ 2 ^ 48; omega) rfl
    refine ⟨_, _, ok, fun A' c' m3 hr => ?_⟩
    have h2 := hR _ _ _ hr
    (conv => whnf)
    refine ⟨A', c', by show Value.slice A' (0 + xs.length) c' = _; rw [Nat.zero_add], ?_⟩
    rw [Nat.zero_add] at h2
    exact h2
end Go.Proofs.Ytoifiplefjclbaa
