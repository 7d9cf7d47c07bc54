/- The table: places; where a key stands. -/
import Derived.Test.YtoifiplefjclbaaTbB
namespace Go.Proofs.Ytoifiplefjclbaa
open Go Go.Mv
set_option maxHeartbeats 400000
set_option linter.unusedVariables false
set_option linter.unusedSimpArgs false
attribute [local irreducible] FCalls IntKind.wrap bits Mem.set Mem.setCell Mem.setCells
/-- A place. -/
structure Slt where
  used : Bool
  h : Int
  kA : Option Addr
  ks : List Int
  kc : Nat
  v : Int
def Slt.zero : Slt := ⟨false, 0, none, [], 0, 0⟩
def Slt.cells (s : Slt) : List Value := [.bool s.used, .int .u64 s.h, .slice s.kA s.ks.length s.kc, .int .i64 s.v]
def cellsOf (l : List Slt) : List Value := l.flatMap Slt.cells
theorem cellsOf_at : ∀ {l : List Slt} {i f : Nat} {s : Slt}, l[i]? = some s → f < 4 → (cellsOf l)[i * 4 + f]? = s.cells[f]?
  | [], _, _, _, h, _ => by simp at h
  | t :: r, 0, f, s, h, hf => by
    simp at h
    subst h
    show (t.cells ++ cellsOf r)[0 * 4 + f]? = _
    rw [List.getElem?_append_left (by simp [Slt.cells]; omega)]
    simp
  | t :: r, i + 1, f, s, h, hf => by
    simp at h
    show (t.cells ++ cellsOf r)[(i + 1) * 4 + f]? = _
    rw [List.getElem?_append_right (by simp [Slt.cells]; omega)]
    rw [← cellsOf_at (l := r) h hf]
    congr 1
    simp [Slt.cells]
    omega
theorem cellsOf_length : ∀ {l : List Slt}, (cellsOf l).length = l.length * 4
  | [] => rfl
  | t :: r => by
    show (t.cells ++ cellsOf r).length = _
    simp [cellsOf_length (l := r), Slt.cells]
    omega
theorem slot_cell {m : Mem} {q : Nat} {l : List Slt} {i f z : Nat} {s : Slt} {v : Value} (h : Blk m q (cellsOf l)) (hs : l[i]? = some s) (hf : f < 4) (hz : z = 4) (hv : s.cells[f]? = some v) : m.cell (((⟨q, 0, none⟩ : Addr).add (i * z)).add f) = some v := by
  rw [hz, add_mk, add_mk, Nat.zero_add]
  exact h.cell ((cellsOf_at hs hf).trans hv)
/-- The block of a row is not this one. -/
def Off (A : Option Addr) (xs : List Int) (b : Nat) : Prop := xs = [] ∨ ∀ p, A = some p → p.block ≠ b
/-- Memory is as it was but for some blocks. -/
def Keep (bad : List Nat) (m m' : Mem) : Prop := ∀ b o, m b = some o → b ∉ bad → m' b = some o
theorem Keep.refl {bad : List Nat} {m : Mem} : Keep bad m m := fun _ _ h _ => h
theorem Keep.trans {bad : List Nat} {m m' m'' : Mem} (h : Keep bad m m') (k : Keep bad m' m'') : Keep bad m m'' := fun b o h1 h2 => k b o (h b o h1 h2) h2
theorem Keep.more {bad bad' : List Nat} {m m' : Mem} (h : Keep bad m m') (hs : ∀ b, b ∈ bad → b ∈ bad') : Keep bad' m m' := fun b o h1 h2 => h b o h1 fun h3 => h2 (hs b h3)
theorem Keep.blk {bad : List Nat} {m m' : Mem} (h : Keep bad m m') {b : Nat} {l : List Value} (hb : Blk m b l) (hn : b ∉ bad) : Blk m' b l := by
  obtain ⟨e, hb⟩ := hb
  exact ⟨e, h b _ hb hn⟩
theorem Keep.set {bad : List Nat} {m : Mem} {b : Nat} {o : Obj} (hb : m b = none) : Keep bad m (m.set b o) := fun c o' h1 _ => by
  rw [Mem.set_ne]
  · exact h1
  · rintro rfl
    rw [h1] at hb
    cases hb
theorem Keep.cell {bad : List Nat} {m : Mem} {b i : Nat} {v : Value} (hb : b ∈ bad) : Keep bad m (m.setCell ⟨b, i, none⟩ v) := fun c o h1 h2 => by
  rw [Mem.setCell_ne]
  · exact h1
  · rintro rfl
    exact h2 hb
theorem Keep.cells {bad : List Nat} {m : Mem} {b i j : Nat} {vs : List Value} (hb : b ∈ bad) : Keep bad m (m.setCells ⟨b, i, none⟩ j vs) := fun c o h1 h2 => by
  rw [Mem.setCells_ne]
  · exact h1
  · rintro rfl
    exact h2 hb
theorem Ints.keep {bad : List Nat} {m m' : Mem} {A : Option Addr} {xs : List Int} (h : Ints m A xs) (hk : Keep bad m m') (ho : ∀ b, b ∈ bad → Off A xs b) : Ints m' A xs := by
  rcases h with rfl | ⟨b, i, rfl, h⟩
  · exact .inl rfl
  · by_cases hx : xs = []
    · exact .inl hx
    · have hb : b ∉ bad := by
        intro hb
        rcases ho b hb with h1 | h1
        · exact hx h1
        · exact h1 _ rfl rfl
      refine .inr ⟨b, i, rfl, fun k x hxk => ?_⟩
      have hc := h k x hxk
      rw [← hc]
      unfold Mem.cell
      cases hm : m b with
      | none =>
        unfold Mem.cell at hc
        simp [hm] at hc
      | some o => simp only [hm, hk b o hm hb]
theorem Ints.off_new {m : Mem} {A : Option Addr} {xs : List Int} {b : Nat} (h : Ints m A xs) (hb : m b = none) : Off A xs b := by
  rcases h with rfl | ⟨c, i, rfl, h⟩
  · exact .inl rfl
  · cases xs with
    | nil => exact .inl rfl
    | cons x r =>
      refine .inr fun p hp => ?_
      cases hp
      rintro rfl
      have := h 0 x rfl
      simp [Mem.cell, hb] at this
/-- A table at p: its numbers, its places in q. -/
structure Tab where
  w : Int
  most : Int
  sl : List Slt
  q : Nat
  many : Int
  /-- Blocks in which no key stands. -/
  g : Nat → Prop
def Tab.sA (t : Tab) : Option Addr := if t.sl = [] then none else some ⟨t.q, 0, none⟩
structure TabAt (m : Mem) (p : Nat) (t : Tab) : Prop where
  head : Blk m p [.int .i64 t.w, .int .i64 t.most, .slice t.sA t.sl.length t.sl.length, .int .i64 t.many]
  places : t.sl ≠ [] → Blk m t.q (cellsOf t.sl) ∧ p ≠ t.q
  keys : ∀ s, s ∈ t.sl → Ints m s.kA s.ks ∧ Off s.kA s.ks p ∧ Off s.kA s.ks t.q ∧ s.ks.length < 2 ^ 62 ∧ ∀ b, t.g b → Off s.kA s.ks b
  size : t.sl.length < 2 ^ 40
  far : ∀ b, t.g b → m b ≠ none ∧ b ≠ p ∧ (t.sl ≠ [] → b ≠ t.q)
theorem dom_set {m : Mem} {b c : Nat} {o : Obj} (h : m b ≠ none) : (m.set c o) b ≠ none := by
  unfold Mem.set
  split
  · simp
  · exact h
theorem dom_setCell {m : Mem} {b : Nat} {a : Addr} {v : Value} (h : m b ≠ none) : (m.setCell a v) b ≠ none := by
  unfold Mem.setCell
  split
  · rename_i hb
    cases hm : m b with
    | none => exact absurd hm h
    | some o => cases o <;> simp
  · exact h
theorem dom_setCells {b : Nat} : ∀ (vs : List Value) {m : Mem} {a : Addr} {j : Nat}, m b ≠ none → (m.setCells a j vs) b ≠ none
  | [], _, _, _, h => by simp only [Mem.setCells]; exact h
  | v :: r, m, a, j, h => by simp only [Mem.setCells]; exact dom_setCells r (dom_setCell h)
theorem dom_keep {bad : List Nat} {m m' : Mem} (h : Keep bad m m') {b : Nat} (hb : m b ≠ none) (hn : b ∉ bad) : m' b ≠ none := by
  cases hm : m b with
  | none => exact absurd hm hb
  | some o => rw [h b o hm hn]; simp
/-- Where the search for a key ends: at a place that is free or holds it. -/
def stopAt (ks : List Int) (h : Int) (s : Slt) : Bool := !s.used || (s.h == h && decide (s.ks = ks))
def atGo (sl : List Slt) (ks : List Int) (h : Int) : Nat → Nat → Option Nat
  | 0, _ => none
  | f + 1, i => if stopAt ks h (sl.getD i .zero) then some i else atGo sl ks h f ((i + 1) % sl.length)
theorem mask_spec {n k : Nat} (hn : n = 2 ^ k) (hk : k < 40) (x : Int) : bits .and .i64 x (IntKind.i64.wrap ((n : Int) - 1)) = x % n := by
  have h1 : (n : Int) = 2 ^ k := by simp [hn]
  have h2 : 2 ^ k < 2 ^ 40 := Nat.pow_lt_pow_right (by omega) hk
  have h3 : 0 < 2 ^ k := Nat.two_pow_pos k
  rw [wrap_id (by omega) (by omega), h1]
  exact and_mask (by omega) x
theorem wrap_mod {n k : Nat} (hn : n = 2 ^ k) (hk : k < 40) (x : Int) : IntKind.i64.wrap x % n = x % n := by
  rw [IntKind.wrap_i64]
  have hd : (n : Int) ∣ 18446744073709551616 := ⟨((2 ^ (64 - k) : Nat) : Int), by rw [hn, ← Int.natCast_mul, ← Nat.pow_add, show k + (64 - k) = 64 by omega]; rfl⟩
  rw [Int.sub_emod, Int.emod_emod_of_dvd _ hd, ← Int.sub_emod]
  congr 1
  omega
theorem at_c {m : Mem} {p : Nat} {t : Tab} {A : Option Addr} {ks : List Int} {c k r : Nat} {h : Int} (ht : TabAt m p t) (hA : Ints m A ks) (hks : ks.length < 2 ^ 62) (hn : t.sl.length = 2 ^ k) (hk : k < 40)
    (hr : atGo t.sl ks h t.sl.length (h % t.sl.length).toNat = some r) : FCalls Try.prog 26 [.pointer (some ⟨p, 0, none⟩), .slice A ks.length c, .int .u64 h] m fun v m' => v = .int .i64 r ∧ m' = m := by
  have hpos : 0 < t.sl.length := by rw [hn]; exact Nat.two_pow_pos k
  have hne : t.sl ≠ [] := by intro e; rw [e] at hpos; simp at hpos
  obtain ⟨hq, hpq⟩ := ht.places hne
  have hsA : t.sA = some ⟨t.q, 0, none⟩ := if_neg hne
  have hhead := ht.head
  rw [hsA] at hhead
  have hsz := ht.size
  refine fcalls_of_vc (T := tbl) (B := bodies) (pr := []) (DR := dr26) (args := [.v (.pointer (some ⟨p, 0, none⟩)), .v (.slice A ks.length c), .v (.int .u64 h)]) tbl_ok bodies_ok mixed Try.func26 rfl (by decide +kernel) (by simp [Try.f26]) rfl ?_
  (conv => whnf)
  refine ⟨_, _, _, hhead.cell (i := 2) rfl, ?_⟩
  (conv => whnf)
  have hmask := fun x => mask_spec hn hk x
  refine loop_keep [0, 1, 2, 7] (Int × Nat) (fun s => [(8, .v (.int .i64 s.1))]) (fun _ => []) (fun _ => m) (fun s => 0 ≤ s.1 ∧ s.1 < t.sl.length ∧ atGo t.sl ks h s.2 s.1.toNat = some r) (fun s => s.2) (_, t.sl.length) ⟨rfl, trivial⟩ rfl rfl ?_ ?_
  · dsimp only
    rw [hmask, wrap_mod hn hk]
    exact ⟨Int.emod_nonneg _ (by omega), Int.emod_lt_of_pos _ (by omega), hr⟩
  (conv => whnf)
  refine ⟨rfl, fun s hJ => ?_⟩
  obtain ⟨i, f⟩ := s
  obtain ⟨hJ1, hJ2, hJ3⟩ := hJ
  dsimp only at hJ1 hJ2 hJ3
  obtain ⟨s, hs⟩ : ∃ s, t.sl[i.toNat]? = some s := ⟨t.sl[i.toNat]'(by omega), List.getElem?_eq_getElem (by omega)⟩
  have hsD : t.sl.getD i.toNat .zero = s := by simp [List.getD, hs]
  have hmem : s ∈ t.sl := List.mem_of_getElem? hs
  obtain ⟨f, rfl⟩ : ∃ f', f = f' + 1 := by
    cases f with
    | zero => simp [atGo] at hJ3
    | succ f => exact ⟨f, rfl⟩
  rw [atGo, hsD] at hJ3
  have hi1 : IntKind.i64.wrap (i + 1) = i + 1 := wrap_id (by omega) (by omega)
  have hnext : ∀ x, x = bits .and .i64 (IntKind.i64.wrap (i + 1)) (IntKind.i64.wrap ((t.sl.length : Int) - 1)) → x.toNat = (i.toNat + 1) % t.sl.length ∧ 0 ≤ x ∧ x < t.sl.length := by
    intro x hx
    rw [hmask, hi1] at hx
    have h2 : x = (((i.toNat + 1) % t.sl.length : Nat) : Int) := by
      rw [hx, Int.natCast_emod]
      congr 1
      omega
    have h3 := Nat.mod_lt (i.toNat + 1) hpos
    omega
  (conv => whnf)
  refine ⟨_, _, _, hhead.cell (i := 2) rfl, ?_⟩
  (conv => whnf)
  refine ⟨_, rfl, hJ1, hJ2, ?_⟩
  (conv => whnf)
  refine ⟨_, slot_cell hq hs (f := 0) (by decide) rfl rfl, ?_⟩
  (conv => whnf)
  refine brk_intro (fun h1 => ?_) (fun h1 => ?_)
  · have hu : s.used = true := by simpa using h1
    (conv => whnf)
    refine ⟨_, slot_cell hq hs (f := 1) (by decide) rfl rfl, ?_⟩
    (conv => whnf)
    refine brk_intro (fun h2 => ?_) (fun h2 => ?_)
    · (conv => whnf)
      refine ⟨_, _, _, slot_cell hq hs (f := 2) (by decide) rfl rfl, ?_⟩
      (conv => whnf)
      refine FCalls.mono (equal_c (ht.keys s hmem).1 hA (ht.keys s hmem).2.2.2.1) ?_
      rintro v m' ⟨rfl, rfl⟩
      (conv => whnf)
      refine brk_intro (fun h3 => ?_) (fun h3 => ?_)
      · have hstop : stopAt ks h s = true := by
          simp at h2 h3
          simp [stopAt, h2, h3, hu]
        rw [if_pos hstop] at hJ3
        (conv => whnf)
        have : i = (r : Int) := by simp at hJ3; omega
        subst this
        exact ⟨rfl, rfl⟩
      · have hstop : stopAt ks h s = false := by
          simp at h2 h3
          simp [stopAt, h2, h3, hu]
        rw [hstop] at hJ3
        (conv => whnf)
        refine ⟨(_, f), le_of ⟨rfl, rfl, rfl, rfl, rfl, trivial⟩ rfl, ?_⟩
        have hx := hnext _ rfl
        refine ⟨⟨hx.2.1, hx.2.2, ?_⟩, Nat.lt_succ_self f⟩
        dsimp only
        rw [hx.1]
        simpa using hJ3
    · have hstop : stopAt ks h s = false := by
        simp at h2
        simp [stopAt, h2, hu]
      rw [hstop] at hJ3
      (conv => whnf)
      refine ⟨(_, f), le_of ⟨rfl, rfl, rfl, rfl, rfl, trivial⟩ rfl, ?_⟩
      have hx := hnext _ rfl
      refine ⟨⟨hx.2.1, hx.2.2, ?_⟩, Nat.lt_succ_self f⟩
      dsimp only
      rw [hx.1]
      simpa using hJ3
  · have hu : s.used = false := by simpa using h1
    have hstop : stopAt ks h s = true := by simp [stopAt, hu]
    rw [if_pos hstop] at hJ3
    (conv => whnf)
    have : i = (r : Int) := by simp at hJ3; omega
    subst this
    exact ⟨rfl, rfl⟩
end Go.Proofs.Ytoifiplefjclbaa
