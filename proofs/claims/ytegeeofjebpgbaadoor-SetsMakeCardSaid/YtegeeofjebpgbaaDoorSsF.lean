/- Sets: All. -/
import Derived.Test.YtegeeofjebpgbaaDoorSsE
import Derived.Test.YtegeeofjebpgbaaDoorMvIter
namespace Go.Proofs.YtegeeofjebpgbaaDoor
open Go Go.Mv
set_option maxHeartbeats 400000
set_option maxRecDepth 10000
set_option linter.unusedVariables false
set_option linter.unusedSimpArgs false
attribute [local irreducible] FCalls IntKind.wrap bits Mem.set Mem.setCell Mem.setCells YCalls
/-- A set's bytes, rising. -/
def elems (f : Nat → Bool) : List Nat := (List.range 256).filter f
theorem elems_mem {f : Nat → Bool} {x : Nat} : x ∈ elems f ↔ x < 256 ∧ f x = true := by simp [elems]
theorem elems_lt {f : Nat → Bool} {i j x y : Nat} (h : (elems f)[i]? = some x) (k : (elems f)[j]? = some y) (hij : i < j) : x < y := by
  have hp : (elems f).Pairwise (· < ·) := List.Pairwise.filter _ List.pairwise_lt_range
  obtain ⟨h1, h2⟩ := List.getElem?_eq_some_iff.1 h
  obtain ⟨k1, k2⟩ := List.getElem?_eq_some_iff.1 k
  have := List.pairwise_iff_getElem.1 hp i j h1 k1 hij
  rwa [h2, k2] at this
theorem next_at {f : Nat → Bool} {s : Int} {i : Nat} (h : ∀ (j x : Nat), (elems f)[j]? = some x → ((x : Int) < s ↔ j < i)) : NextIs f s (elems f)[i]? := by
  have idx : ∀ c : Nat, c < 256 → f c = true → ∃ j, (elems f)[j]? = some c := fun c h1 h2 => List.mem_iff_getElem?.1 (elems_mem.2 ⟨h1, h2⟩)
  cases hr : (elems f)[i]? with
  | some b =>
    have hm := elems_mem.1 (List.mem_of_getElem? hr)
    refine .some b ?_ hm.1 hm.2 fun c h1 h2 => ?_
    · have := h i b hr
      omega
    · cases hf : f c with
      | false => rfl
      | true =>
        obtain ⟨j, hj⟩ := idx c (by omega) hf
        have h3 := h j c hj
        have h4 : i ≤ j := by omega
        rcases Nat.lt_or_eq_of_le h4 with h5 | rfl
        · have := elems_lt hr hj h5
          omega
        · rw [hr] at hj
          cases hj
          omega
  | none =>
    refine .none fun c h1 h2 => ?_
    cases hf : f c with
    | false => rfl
    | true =>
      obtain ⟨j, hj⟩ := idx c h2 hf
      have h3 := h j c hj
      have h4 := (List.getElem?_eq_some_iff.1 hj).1
      have h5 := List.getElem?_eq_none_iff.1 hr
      omega
theorem next_first (f : Nat → Bool) : NextIs f 0 (elems f)[0]? := next_at fun j x _ => by omega
theorem next_behind {f : Nat → Bool} {i b : Nat} (h : (elems f)[i]? = some b) : NextIs f ((b : Int) + 1) (elems f)[i + 1]? := next_at fun j x hx => by
  constructor
  · intro h1
    rcases Nat.lt_or_ge i j with h2 | h2
    · have := elems_lt h hx h2
      omega
    · omega
  · intro h1
    rcases Nat.lt_or_eq_of_le (Nat.le_of_lt_succ h1) with h2 | rfl
    · have := elems_lt hx h h2
      omega
    · rw [h] at hx
      cases hx
      omega
def curV : Option Nat → Int
  | some b => b
  | none => 0
def SetIn (m : Mem) (b : Nat) (G : Nat → Nat) : Prop := ∀ i, i < 4 → m.cell ⟨b, i, none⟩ = some (.int .u64 ((W G).getD i 0))
theorem SetIn.set {m : Mem} {b c : Nat} {G : Nat → Nat} {o : Obj} (h : SetIn m b G) (hc : m c = none) : SetIn (m.set c o) b G := by
  intro i hi
  have := h i hi
  unfold Mem.cell at this ⊢
  simp only at this ⊢
  rw [Mem.set_ne (by rintro rfl; rw [hc] at this; cases this)]
  exact this
theorem SetIn.ld {m : Mem} {b : Nat} {G : Nat → Nat} (h : SetIn m b G) : ∀ i, i < 4 → m.cell ((⟨b, 0, none⟩ : Addr).add i) = some (.int .u64 ((W G).getD i 0)) := by
  intro i hi
  rw [add_mk, Nat.zero_add]
  exact h i hi
theorem all_iter {G : Nat → Nat} (h : WOk G) (b : Nat) : IterC Tryd.prog 42 [] [.pointer (some ⟨b, 0, none⟩)] (fun m => Tz m ∧ SetIn m b G) ((elems (has G)).map fun x => [.int .i64 ((x : Nat) : Int)]) := by
  intro l J Q m h0 hI hy
  show FCalls Tryd.prog 42 [.func (.yield l) #[] #[], .pointer (some ⟨b, 0, none⟩)] m _
  refine fcalls_of_vc (T := tbl) (B := bodies) (pr := []) (DR := dr42) (args := [.v (.func (.yield l) #[] #[]), .v (.pointer (some ⟨b, 0, none⟩))]) tbl_ok bodies_ok mixed Tryd.func42 rfl (by decide +kernel) (by simp [Tryd.f42]) rfl ?_
  have hnext : ∀ (i : Nat) (m' : Mem), J i m' → Tz m' ∧ SetIn m' b G := hI
  (conv => whnf)
  refine ⟨W G, W_len, (hI _ _ h0).2.ld, ?_⟩
  (conv => whnf)
  refine FCalls.mono (next_c (hI _ _ h0).1 h (by omega)) fun v m' ⟨h1, r, h2, h3⟩ => ?_
  subst h1 h3
  have hr := h2.eq (next_first _)
  subst hr
  obtain ⟨q, hq⟩ : ∃ q, q = (elems (has G))[0]? := ⟨_, rfl⟩
  rw [← hq]
  have hmax : ∀ (i x : Nat), (elems (has G))[i]? = some x → x < 256 := fun i x hx => (elems_mem.1 (List.mem_of_getElem? hx)).1
  rcases q with _ | x0
  all_goals
    (conv => whnf)
    refine loop_keep [0, 1] (Nat × Mem) (fun s => [(3, .v (.int .i64 (curV (elems (has G))[s.1]?))), (4, .v (.bool (elems (has G))[s.1]?.isSome))]) (fun _ => []) (fun s => s.2) (fun s => J s.1 s.2 ∧ s.1 ≤ (elems (has G)).length) (fun s => (elems (has G)).length - s.1) (0, _)
      ⟨by rw [← hq]; rfl, by rw [← hq]; rfl, trivial⟩ rfl rfl ⟨h0, by omega⟩ ?_
    (conv => whnf)
    refine ⟨rfl, fun s hs => ?_⟩
    obtain ⟨i, m1⟩ := s
    obtain ⟨hJ, hle⟩ := hs
    simp only at hJ hle
    (conv => whnf)
    refine brk_intro (fun h1 => ?_) (fun h1 => ?_)
    · obtain ⟨x, hx⟩ := Option.isSome_iff_exists.1 h1
      have hx256 := hmax i x hx
      have hlt := (List.getElem?_eq_some_iff.1 hx).1
      (conv => whnf)
      rw [hx]
      refine YCalls.mono (hy i _ m1 (by rw [List.getElem?_map, hx]; rfl) hJ) fun v m2 hv => ?_
      rcases hv with ⟨rfl, hJ2⟩ | ⟨rfl, hQ⟩
      · (conv => whnf)
        refine ⟨W G, W_len, (hI _ _ hJ2).2.ld, ?_⟩
        (conv => whnf)
        have e1 : IntKind.i64.wrap (curV (some x) + 1) = (x : Int) + 1 := by show IntKind.i64.wrap ((x : Int) + 1) = _; exact wrap_id (by omega) (by omega)
        rw [e1]
        refine FCalls.mono (next_c (hI _ _ hJ2).1 h (by omega)) fun v m' ⟨h5, r, h6, h7⟩ => ?_
        subst h5 h7
        have hr := h6.eq (next_behind hx)
        subst hr
        obtain ⟨q, hq2⟩ : ∃ q, q = (elems (has G))[i + 1]? := ⟨_, rfl⟩
        rw [← hq2]
        rcases q with _ | x1
        · (conv => whnf)
          refine ⟨(i + 1, _), le_eq ⟨by rw [← hq2]; rfl, by rw [← hq2]; rfl, rfl, rfl, trivial⟩ rfl rfl rfl, ⟨hJ2, by simp only; omega⟩, by simp only; omega⟩
        · (conv => whnf)
          refine ⟨(i + 1, _), le_eq ⟨by rw [← hq2]; rfl, by rw [← hq2]; rfl, rfl, rfl, trivial⟩ rfl rfl rfl, ⟨hJ2, by simp only; omega⟩, by simp only; omega⟩
      · (conv => whnf)
        exact .inr hQ
    · have h2 : (elems (has G))[i]? = none := by
        cases hx : (elems (has G))[i]? with
        | none => rfl
        | some x => simp only [hx] at h1; cases h1
      have h3 := List.getElem?_eq_none_iff.1 h2
      have h4 : i = (elems (has G)).length := by omega
      (conv => whnf)
      refine .inl ?_
      rw [List.length_map, ← h4]
      exact hJ
theorem all_c {m : Mem} {G : Nat → Nat} : FCalls Tryd.prog 11 [wv G] m fun v m' => ∃ b e, m b = none ∧ v = .func (.func 42) #[] #[.pointer (some ⟨b, 0, none⟩)] ∧ m' = m.set b (.cells (intCells .u64 (W G)).toArray e (0, 0)) := by
  refine fcalls_of_vc (T := tbl) (B := bodies) (pr := []) (DR := dr11) (args := [.ints .u64 (W G)]) tbl_ok bodies_ok mixed Tryd.func11 rfl (by decide +kernel) (by simp [Tryd.f11]) rfl ?_
  (conv => whnf)
  intro b hb
  (conv => whnf)
  exact ⟨b, _, hb, rfl, rfl⟩
theorem SetIn.new {m : Mem} {b e : Nat} {G : Nat → Nat} : SetIn (m.set b (.cells (intCells .u64 (W G)).toArray e (0, 0))) b G := by
  intro i hi
  simp only [Mem.cell, Mem.set, if_true, Option.isSome_none, Bool.false_eq_true, if_false, List.getElem?_toArray, intCells, List.getElem?_map]
  rw [List.getElem?_eq_getElem (by simpa using hi)]
  simp [List.getD, hi]
end Go.Proofs.YtegeeofjebpgbaaDoor
