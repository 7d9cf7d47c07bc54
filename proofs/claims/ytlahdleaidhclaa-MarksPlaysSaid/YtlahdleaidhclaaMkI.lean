/- Marks: Copy, Same. -/
import Derived.Test.YtlahdleaidhclaaMkH
namespace Go.Proofs.Ytlahdleaidhclaa
open Go Go.Mv
set_option maxHeartbeats 1000000
set_option maxRecDepth 10000
set_option linter.unusedVariables false
set_option linter.unusedSimpArgs false
attribute [local irreducible] FCalls IntKind.wrap bits Mem.set Mem.setCell Mem.setCells YCalls
def subB (l : List Nat) (r : List Nat) : Bool := l.all fun x => decide (x ∈ r)
/-- Same: two sets at p, q that may be one. -/
theorem msame_c {F G : Nat → Prop} {m : Mem} {p q room room2 : Nat} {l r : List Nat} (h : Mk F m p room l) (k : Mk G m q room2 r) : FCalls Try.prog 23 [.pointer (some ⟨p, 0, none⟩), .pointer (some ⟨q, 0, none⟩)] m fun v m' => v = .bool (subB l r && (l.length == r.length)) ∧ m' = m := by
  refine FCalls.less ?_
  refine fcalls_of_vc (T := tbl) (B := bodies) (pr := []) (DR := dr23) (args := [.v (.pointer (some ⟨p, 0, none⟩)), .v (.pointer (some ⟨q, 0, none⟩))]) tbl_ok bodies_ok mixed Try.func23 rfl (by decide +kernel) (by simp [Try.f23]) rfl ?_
  (conv => whnf)
  intro b3 hb3
  (conv => whnf)
  intro b4 hb4
  have h34 : b3 ≠ b4 := by rintro rfl; simp [Mem.set] at hb4
  have hm4 : m b4 = none := by rwa [Mem.set_ne h34.symm] at hb4
  (conv => whnf)
  refine FCalls.mono all_c fun v m' ⟨bA, hbA, hv, hm⟩ => ?_
  subst hv hm
  have hO1 : ∀ k o, m k = some o → (((m.set b3 (.cells [.pointer (some ⟨q, 0, none⟩)].toArray 23 (0, 0))).set b4 (.cells (tbl.at 4).zero.list.toArray 4 (0, 0))).set bA (.cells [.pointer (some ⟨p, 0, none⟩)].toArray 23 (0, 0))) k = some o :=
    fun k o hk => (Stp.set (F := fun _ => False) hbA).old k o ((Stp.set (F := fun _ => False) hb4).old k o ((Stp.set (F := fun _ => False) hb3).old k o hk))
  have hA3 : b3 ≠ bA := by rintro rfl; simp [Mem.set] at hbA; exact absurd hbA (by split <;> simp)
  have hA4 : b4 ≠ bA := by rintro rfl; simp [Mem.set] at hbA
  have hc3 : (((m.set b3 (.cells [.pointer (some ⟨q, 0, none⟩)].toArray 23 (0, 0))).set b4 (.cells (tbl.at 4).zero.list.toArray 4 (0, 0))).set bA (.cells [.pointer (some ⟨p, 0, none⟩)].toArray 23 (0, 0))) b3 = some (.cells [.pointer (some ⟨q, 0, none⟩)].toArray 23 (0, 0)) := by
    rw [Mem.set_ne hA3, Mem.set_ne h34]
    simp [Mem.set]
  have hc4 : (((m.set b3 (.cells [.pointer (some ⟨q, 0, none⟩)].toArray 23 (0, 0))).set b4 (.cells (tbl.at 4).zero.list.toArray 4 (0, 0))).set bA (.cells [.pointer (some ⟨p, 0, none⟩)].toArray 23 (0, 0))) b4 = some (.cells [.bool false].toArray 4 (0, 0)) := by
    rw [Mem.set_ne hA4]
    simp [Mem.set]
    rfl
  have hcA : (((m.set b3 (.cells [.pointer (some ⟨q, 0, none⟩)].toArray 23 (0, 0))).set b4 (.cells (tbl.at 4).zero.list.toArray 4 (0, 0))).set bA (.cells [.pointer (some ⟨p, 0, none⟩)].toArray 23 (0, 0))) bA = some (.cells [.pointer (some ⟨p, 0, none⟩)].toArray 23 (0, 0)) := by
    simp [Mem.set]
  (conv => whnf)
  refine range_iter1 (all_iter bA p room l) (fun y o hy => ?_) (fun i vs hx => ?_) (fun j M' => (∀ x, x ∈ l.take j → x ∈ r) ∧ M' b3 = some (.cells [.pointer (some ⟨q, 0, none⟩)].toArray 23 (0, 0)) ∧ M' b4 = some (.cells [.bool false].toArray 4 (0, 0)) ∧ ∀ k o, m k = some o → M' k = some o)
    ⟨by simp, hc3, hc4, hO1⟩ (fun j vs M' hx ⟨hs, g3, g4, hold⟩ => ?_) (fun M' ⟨hs, g3, g4, hold⟩ => ?_)
  · exact ⟨Blk.cell (l := [.pointer (some ⟨p, 0, none⟩)]) (Blk.set ⟨23, hcA⟩ hy) rfl, F, (h.stay (F2 := fun _ => False) (Stp.of hO1) fun _ _ h => h).stay (F2 := fun _ => False) (Stp.set hy) fun _ _ h => h⟩
  · obtain ⟨x, _, rfl⟩ := List.mem_map.1 (List.mem_of_getElem? hx)
    rfl
  · obtain ⟨x, hx2, rfl⟩ : ∃ x, l[j]? = some x ∧ [.int .i64 ((x : Nat) : Int)] = vs := by
      rw [List.getElem?_map] at hx
      cases hl : l[j]? with
      | none => rw [hl] at hx; cases hx
      | some x => rw [hl] at hx; cases hx; exact ⟨x, rfl, rfl⟩
    (conv => whnf)
    refine ⟨_, Blk.cell (l := [.pointer (some ⟨q, 0, none⟩)]) (i := 0) ⟨23, g3⟩ rfl, ?_⟩
    (conv => whnf)
    have hk := has_c (k.stay (F2 := fun _ => False) (Stp.of hold) fun _ _ h => h) (n := (x : Int))
    rw [show ((x : Int)).toNat = x by omega] at hk
    by_cases hin : x ∈ r
    · rw [decide_eq_true (p := 0 ≤ (x : Int) ∧ x ∈ r) ⟨by omega, hin⟩] at hk
      refine FCalls.mono hk fun v m' ⟨hv, hm⟩ => ?_
      subst hv hm
      (conv => whnf)
      refine ⟨fun y hy => ?_, g3, g4, hold⟩
      rw [List.take_add_one, hx2] at hy
      rcases List.mem_append.1 hy with h1 | h1
      · exact hs y h1
      · rw [Option.toList_some, List.mem_singleton] at h1
        rw [h1]
        exact hin
    · rw [decide_eq_false (p := 0 ≤ (x : Int) ∧ x ∈ r) fun h => hin h.2] at hk
      refine FCalls.mono hk fun v m' ⟨hv, hm⟩ => ?_
      subst hv hm
      have hsub : subB l r = false := by
        unfold subB
        rw [List.all_eq_false]
        exact ⟨x, List.mem_of_getElem? hx2, by simpa using hin⟩
      (conv => whnf)
      refine ⟨⟨⟨_, Blk.cell (l := [.bool false]) (i := 0) ⟨4, g4⟩ rfl⟩, Blk.fz (l := [.bool false]) ⟨4, g4⟩⟩, ?_⟩
      (conv => whnf)
      refine ⟨false, Blk.cell (l := [.bool false]) (i := 0) ⟨4, setCell_at (i := 0) g4⟩ rfl, ?_⟩
      (conv => whnf)
      refine ⟨m, fun k o hk => (Mem.setCell_ne (by rintro rfl; rw [hm4] at hk; cases hk)).trans (hold k o hk), by rw [hsub]; rfl, rfl⟩
  · rw [List.length_map, List.take_length] at hs
    have hsub : subB l r = true := by
      unfold subB
      rw [List.all_eq_true]
      exact fun x hx => by simpa using hs x hx
    (conv => whnf)
    refine ⟨_, len_c (h.stay (F2 := fun _ => False) (Stp.of hold) fun _ _ h => h), ?_⟩
    (conv => whnf)
    refine ⟨_, Blk.cell (l := [.pointer (some ⟨q, 0, none⟩)]) (i := 0) ⟨23, g3⟩ rfl, ?_⟩
    (conv => whnf)
    refine ⟨_, len_c (k.stay (F2 := fun _ => False) (Stp.of hold) fun _ _ h => h), ?_⟩
    (conv => whnf)
    refine ⟨⟨⟨_, Blk.cell (l := [.bool false]) (i := 0) ⟨4, g4⟩ rfl⟩, Blk.fz (l := [.bool false]) ⟨4, g4⟩⟩, ?_⟩
    (conv => whnf)
    refine ⟨_, Blk.cell (l := [.bool (((l.length : Nat) : Int) == ((r.length : Nat) : Int))]) (i := 0) ⟨4, setCell_at (i := 0) g4⟩ rfl, ?_⟩
    (conv => whnf)
    refine ⟨m, fun k o hk => (Mem.setCell_ne (by rintro rfl; rw [hm4] at hk; cases hk)).trans (hold k o hk), ?_, rfl⟩
    rw [hsub]
    show Value.bool (((l.length : Nat) : Int) == ((r.length : Nat) : Int)) = _
    congr 1
    by_cases he : l.length = r.length
    · rw [he]; simp
    · rw [beq_eq_false_iff_ne.2 (by omega), beq_eq_false_iff_ne.2 he]
      rfl
theorem c32_one (l : List Nat) : oneCells (c32 l) = true := by
  induction l with
  | nil => rfl
  | cons x r ih => exact ih
theorem writeAt_full : ∀ (vs l : List Value), l.length = vs.length → writeAt l 0 vs = vs
  | [], [], _ => rfl
  | [], _ :: _, h => by simp at h
  | v :: r, [], h => by simp at h
  | v :: r, x :: l, h => by
    have go : ∀ (r l : List Value) (y : Value) (i : Nat), writeAt (y :: l) (i + 1) r = y :: writeAt l i r := by
      intro r
      induction r with
      | nil => intro l y i; rfl
      | cons v r ih => intro l y i; simp only [writeAt]; exact ih _ _ _
    show writeAt (v :: l) 1 r = _
    rw [go, writeAt_full r l (by simpa using h)]
theorem holds_more {m m' : Mem} (h : ∀ k o, m k = some o → m' k = some o) {p : Addr} {vs : List Value} (hc : m.holds p vs) : m'.holds p vs := fun k v hk => cell_more h (hc k v hk)
theorem copied {F : Nat → Prop} {m0 m M : Mem} {p q bW bL room cA cB : Nat} {l ws : List Nat} {A B : Option Addr} (h : MkD F m0 p room l A B cA cB ws) (hW : Blk M bW (c32 ws)) (hL : Blk M bL (c32 l))
    (hq : Blk M q [.slice (some ⟨bW, 0, none⟩) room room, .slice (some ⟨bL, 0, none⟩) l.length l.length]) (h1 : m bW = none) (h2 : m bL = none) (h3 : m q = none) (h4 : bW ≠ bL) (h5 : bW ≠ q) (h6 : bL ≠ q)
    (hold : ∀ k o, m k = some o → M k = some o) : MkS (fun _ => False) m M q room l := by
  obtain ⟨e1, hW⟩ := hW
  obtain ⟨e2, hL⟩ := hL
  obtain ⟨e3, hq⟩ := hq
  refine ⟨fun k => k = q ∨ k = bW ∨ k = bL, ⟨some ⟨bL, 0, none⟩, some ⟨bW, 0, none⟩, l.length, room, ws, .inl rfl, ⟨e3, hq⟩, ?_, ?_, h.lt, h.at', h.wlt, h.small, ?_⟩, ?_, Stp.of hold⟩
  · exact ⟨h.wh.1, Nat.le_refl _, .inr ⟨bW, c32 ws, e1, rfl, ⟨.inr (.inl rfl), h5⟩, hW, h.wh.1, fun _ _ h => h⟩⟩
  · exact ⟨c32_len _, Nat.le_refl _, .inr ⟨bL, c32 l, e2, rfl, ⟨.inr (.inr rfl), h6, by simp [h4]⟩, hL, c32_len _, fun _ _ h => h⟩⟩
  · rintro k (rfl | rfl | rfl)
    · rw [hq]; simp
    · rw [hW]; simp
    · rw [hL]; simp
  · rintro k (rfl | rfl | rfl)
    · exact .inr h3
    · exact .inr h1
    · exact .inr h2
/-- Copy. -/
theorem copy_c {F : Nat → Prop} {m : Mem} {p room : Nat} {l : List Nat} (h : Mk F m p room l) : FCalls Try.prog 21 [.pointer (some ⟨p, 0, none⟩)] m fun v m' =>
    ∃ q, v = .pointer (some ⟨q, 0, none⟩) ∧ MkS (fun _ => False) m m' q room l := by
  have hll := h.llen
  have hsm := h.small
  have h0 := h
  obtain ⟨A, B, cA, cB, ws, h⟩ := h
  refine fcalls_of_vc (T := tbl) (B := bodies) (pr := []) (DR := dr21) (args := [.v (.pointer (some ⟨p, 0, none⟩))]) tbl_ok bodies_ok mixed Try.func21 rfl (by decide +kernel) (by simp [Try.f21]) rfl ?_
  (conv => whnf)
  refine ⟨_, _, _, h.hd.cell (i := 0) rfl, ?_⟩
  (conv => whnf)
  refine ⟨_, _, _, h.hd.cell (i := 1) rfl, ?_⟩
  (conv => whnf)
  refine ⟨?_, ?_, trivial⟩
  all_goals
    (conv => whnf)
    refine ⟨by omega, by omega, by omega, ?_, fun b1 hb1 => ?_⟩
    · show ((4 : Nat) : Int) * ((_ : Nat) : Int) ≤ 2 ^ 48
      omega
    (conv => whnf)
    refine ⟨by omega, by omega, by omega, ?_, fun b2 hb2 => ?_⟩
    · show ((4 : Nat) : Int) * ((_ : Nat) : Int) ≤ 2 ^ 48
      omega
    (conv => whnf)
    intro q hq
    have h12 : b1 ≠ b2 := by rintro rfl; simp [Mem.set] at hb2
    have hb2m : m b2 = none := by rwa [Mem.set_ne h12.symm] at hb2
    have h2q : b2 ≠ q := by rintro rfl; simp [Mem.set] at hq
    have h1q : b1 ≠ q := by rintro rfl; rw [Mem.set_ne h12] at hq; simp [Mem.set] at hq
    have hqm : m q = none := by rwa [Mem.set_ne h2q.symm, Mem.set_ne h1q.symm] at hq
  · -- one order: the places in b1, the list in b2
    have hq' : (((m.set b1 (.cells (zerosOf tbl 21 room).list.toArray 21 (0, 0))).set b2 (.cells (zerosOf tbl 21 l.length).list.toArray 21 (0, 0))).set q (.cells [.slice (some ⟨b1, 0, none⟩) room room, .slice (some ⟨b2, 0, none⟩) l.length l.length].toArray 61 (0, 0))) q = some (.cells [.slice (some ⟨b1, 0, none⟩) room room, .slice (some ⟨b2, 0, none⟩) l.length l.length].toArray 61 (0, 0)) := by simp [Mem.set]
    have hW' : (((m.set b1 (.cells (zerosOf tbl 21 room).list.toArray 21 (0, 0))).set b2 (.cells (zerosOf tbl 21 l.length).list.toArray 21 (0, 0))).set q (.cells [.slice (some ⟨b1, 0, none⟩) room room, .slice (some ⟨b2, 0, none⟩) l.length l.length].toArray 61 (0, 0))) b1 = some (.cells (zerosOf tbl 21 room).list.toArray 21 (0, 0)) := by
      simp [Mem.set, h1q, h2q, h12, h12.symm]
    have hL' : (((m.set b1 (.cells (zerosOf tbl 21 room).list.toArray 21 (0, 0))).set b2 (.cells (zerosOf tbl 21 l.length).list.toArray 21 (0, 0))).set q (.cells [.slice (some ⟨b1, 0, none⟩) room room, .slice (some ⟨b2, 0, none⟩) l.length l.length].toArray 61 (0, 0))) b2 = some (.cells (zerosOf tbl 21 l.length).list.toArray 21 (0, 0)) := by
      simp [Mem.set, h1q, h2q, h12, h12.symm]
    have hold : ∀ k o, m k = some o → (((m.set b1 (.cells (zerosOf tbl 21 room).list.toArray 21 (0, 0))).set b2 (.cells (zerosOf tbl 21 l.length).list.toArray 21 (0, 0))).set q (.cells [.slice (some ⟨b1, 0, none⟩) room room, .slice (some ⟨b2, 0, none⟩) l.length l.length].toArray 61 (0, 0))) k = some o :=
      fun k o hk => (Stp.set (F := fun _ => False) hq).old k o ((Stp.set (F := fun _ => False) hb2).old k o ((Stp.set (F := fun _ => False) hb1).old k o hk))
    clear hb2 hq
    generalize hM2 : (((m.set b1 (.cells (zerosOf tbl 21 room).list.toArray 21 (0, 0))).set b2 (.cells (zerosOf tbl 21 l.length).list.toArray 21 (0, 0))).set q (.cells [.slice (some ⟨b1, 0, none⟩) room room, .slice (some ⟨b2, 0, none⟩) l.length l.length].toArray 61 (0, 0))) = M2 at hq' hW' hL' hold
    obtain ⟨e, hhd⟩ := h.hd
    have hpq : ∀ {M : Mem}, (∀ k o, m k = some o → M k = some o) → Blk M p [.slice B room cB, .slice A l.length cA] := fun hM => ⟨e, hM _ _ hhd⟩
    (conv => whnf)
    refine ⟨_, _, _, Blk.cell (l := [.slice (some ⟨b1, 0, none⟩) room room, .slice (some ⟨b2, 0, none⟩) l.length l.length]) (i := 0) ⟨61, hM2 ▸ hq'⟩ rfl, ?_⟩
    (conv => whnf)
    refine ⟨_, _, _, (hpq (hM2 ▸ hold)).cell (i := 0) rfl, ?_⟩
    (conv => whnf)
    have hwr : ws.length = room := h.wlen
    refine ⟨c32 ws, by rw [c32_len, hwr, Nat.min_self]; rfl, ?_, ?_⟩
    · rcases h.wh.olds with ⟨h4, _⟩ | ⟨p0, h4, h5⟩
      · left
        rw [Nat.min_self]
        exact h4
      · refine .inr ⟨_, p0, rfl, h4, hM2 ▸ holds_more hold h5, ?_, c32_one _⟩
        exact hM2 ▸ Blk.room (l := (zerosOf tbl 21 room).list) ⟨21, hW'⟩ (by rw [zeros21n, Nat.min_self]; show 0 + room * 1 ≤ _; omega)
    have hWne : ∀ {k : Nat}, k ≠ b1 → (M2.setCells ⟨b1, 0, none⟩ 0 (c32 ws)) k = M2 k := fun hk => Mem.setCells_ne hk _
    have hW3 : Blk (M2.setCells ⟨b1, 0, none⟩ 0 (c32 ws)) b1 (c32 ws) := by
      have := Blk.puts (b := b1) (i := 0) (j := 0) (c32 ws) (m := M2) (l := (zerosOf tbl 21 room).list) ⟨21, hW'⟩
      rwa [Nat.zero_add, writeAt_full _ _ (by rw [zeros21n, c32_len, hwr])] at this
    have hold3 : ∀ k o, m k = some o → (M2.setCells ⟨b1, 0, none⟩ 0 (c32 ws)) k = some o := fun k o hk => (hWne (by rintro rfl; first | (rw [hb1] at hk; cases hk) | (rw [hb2m] at hk; cases hk))).trans (hold k o hk)
    have hq3 := (hWne (k := q) (by first | exact h1q.symm | exact h2q.symm)).trans hq'
    have hL3 := (hWne (k := b2) (by first | exact h12.symm | exact h12)).trans hL'
    (conv => whnf)
    refine ⟨_, _, _, Blk.cell (l := [.slice (some ⟨b1, 0, none⟩) room room, .slice (some ⟨b2, 0, none⟩) l.length l.length]) (i := 1) ⟨61, hM2 ▸ hq3⟩ rfl, ?_⟩
    (conv => whnf)
    refine ⟨_, _, _, (hpq (hM2 ▸ hold3)).cell (i := 1) rfl, ?_⟩
    (conv => whnf)
    refine ⟨c32 l, by rw [c32_len, Nat.min_self]; rfl, ?_, ?_⟩
    · rcases h.ls.olds with ⟨h4, _⟩ | ⟨p0, h4, h5⟩
      · left
        rw [Nat.min_self]
        exact h4
      · refine .inr ⟨_, p0, rfl, h4, hM2 ▸ holds_more hold3 h5, ?_, c32_one _⟩
        exact hM2 ▸ Blk.room (l := (zerosOf tbl 21 l.length).list) ⟨21, hL3⟩ (by rw [zeros21n, Nat.min_self]; show 0 + l.length * 1 ≤ _; omega)
    have hLne : ∀ {k : Nat}, k ≠ b2 → ((M2.setCells ⟨b1, 0, none⟩ 0 (c32 ws)).setCells ⟨b2, 0, none⟩ 0 (c32 l)) k = (M2.setCells ⟨b1, 0, none⟩ 0 (c32 ws)) k := fun hk => Mem.setCells_ne hk _
    have hL4 : Blk ((M2.setCells ⟨b1, 0, none⟩ 0 (c32 ws)).setCells ⟨b2, 0, none⟩ 0 (c32 l)) b2 (c32 l) := by
      have := Blk.puts (b := b2) (i := 0) (j := 0) (c32 l) (m := M2.setCells ⟨b1, 0, none⟩ 0 (c32 ws)) (l := (zerosOf tbl 21 l.length).list) ⟨21, hL3⟩
      rwa [Nat.zero_add, writeAt_full _ _ (by rw [zeros21n, c32_len])] at this
    obtain ⟨e4, hW3⟩ := hW3
    have hW4 := (hLne (k := b1) (by first | exact h12.symm | exact h12)).trans hW3
    have hq4 := (hLne (k := q) (by first | exact h1q.symm | exact h2q.symm)).trans hq3
    (conv => whnf)
    refine ⟨q, rfl, hM2 ▸ copied h ⟨e4, hW4⟩ hL4 ⟨61, hq4⟩ (by assumption) (by assumption) hqm (by first | exact h12.symm | exact h12) (by first | exact h1q | exact h2q) (by first | exact h1q | exact h2q) fun k o hk => (hLne (by rintro rfl; first | (rw [hb1] at hk; cases hk) | (rw [hb2m] at hk; cases hk))).trans (hold3 k o hk)⟩
  · -- one order: the places in b2, the list in b1
    have hq' : (((m.set b1 (.cells (zerosOf tbl 21 l.length).list.toArray 21 (0, 0))).set b2 (.cells (zerosOf tbl 21 room).list.toArray 21 (0, 0))).set q (.cells [.slice (some ⟨b2, 0, none⟩) room room, .slice (some ⟨b1, 0, none⟩) l.length l.length].toArray 61 (0, 0))) q = some (.cells [.slice (some ⟨b2, 0, none⟩) room room, .slice (some ⟨b1, 0, none⟩) l.length l.length].toArray 61 (0, 0)) := by simp [Mem.set]
    have hW' : (((m.set b1 (.cells (zerosOf tbl 21 l.length).list.toArray 21 (0, 0))).set b2 (.cells (zerosOf tbl 21 room).list.toArray 21 (0, 0))).set q (.cells [.slice (some ⟨b2, 0, none⟩) room room, .slice (some ⟨b1, 0, none⟩) l.length l.length].toArray 61 (0, 0))) b2 = some (.cells (zerosOf tbl 21 room).list.toArray 21 (0, 0)) := by
      simp [Mem.set, h1q, h2q, h12, h12.symm]
    have hL' : (((m.set b1 (.cells (zerosOf tbl 21 l.length).list.toArray 21 (0, 0))).set b2 (.cells (zerosOf tbl 21 room).list.toArray 21 (0, 0))).set q (.cells [.slice (some ⟨b2, 0, none⟩) room room, .slice (some ⟨b1, 0, none⟩) l.length l.length].toArray 61 (0, 0))) b1 = some (.cells (zerosOf tbl 21 l.length).list.toArray 21 (0, 0)) := by
      simp [Mem.set, h1q, h2q, h12, h12.symm]
    have hold : ∀ k o, m k = some o → (((m.set b1 (.cells (zerosOf tbl 21 l.length).list.toArray 21 (0, 0))).set b2 (.cells (zerosOf tbl 21 room).list.toArray 21 (0, 0))).set q (.cells [.slice (some ⟨b2, 0, none⟩) room room, .slice (some ⟨b1, 0, none⟩) l.length l.length].toArray 61 (0, 0))) k = some o :=
      fun k o hk => (Stp.set (F := fun _ => False) hq).old k o ((Stp.set (F := fun _ => False) hb2).old k o ((Stp.set (F := fun _ => False) hb1).old k o hk))
    clear hb2 hq
    generalize hM2 : (((m.set b1 (.cells (zerosOf tbl 21 l.length).list.toArray 21 (0, 0))).set b2 (.cells (zerosOf tbl 21 room).list.toArray 21 (0, 0))).set q (.cells [.slice (some ⟨b2, 0, none⟩) room room, .slice (some ⟨b1, 0, none⟩) l.length l.length].toArray 61 (0, 0))) = M2 at hq' hW' hL' hold
    obtain ⟨e, hhd⟩ := h.hd
    have hpq : ∀ {M : Mem}, (∀ k o, m k = some o → M k = some o) → Blk M p [.slice B room cB, .slice A l.length cA] := fun hM => ⟨e, hM _ _ hhd⟩
    (conv => whnf)
    refine ⟨_, _, _, Blk.cell (l := [.slice (some ⟨b2, 0, none⟩) room room, .slice (some ⟨b1, 0, none⟩) l.length l.length]) (i := 0) ⟨61, hM2 ▸ hq'⟩ rfl, ?_⟩
    (conv => whnf)
    refine ⟨_, _, _, (hpq (hM2 ▸ hold)).cell (i := 0) rfl, ?_⟩
    (conv => whnf)
    have hwr : ws.length = room := h.wlen
    refine ⟨c32 ws, by rw [c32_len, hwr, Nat.min_self]; rfl, ?_, ?_⟩
    · rcases h.wh.olds with ⟨h4, _⟩ | ⟨p0, h4, h5⟩
      · left
        rw [Nat.min_self]
        exact h4
      · refine .inr ⟨_, p0, rfl, h4, hM2 ▸ holds_more hold h5, ?_, c32_one _⟩
        exact hM2 ▸ Blk.room (l := (zerosOf tbl 21 room).list) ⟨21, hW'⟩ (by rw [zeros21n, Nat.min_self]; show 0 + room * 1 ≤ _; omega)
    have hWne : ∀ {k : Nat}, k ≠ b2 → (M2.setCells ⟨b2, 0, none⟩ 0 (c32 ws)) k = M2 k := fun hk => Mem.setCells_ne hk _
    have hW3 : Blk (M2.setCells ⟨b2, 0, none⟩ 0 (c32 ws)) b2 (c32 ws) := by
      have := Blk.puts (b := b2) (i := 0) (j := 0) (c32 ws) (m := M2) (l := (zerosOf tbl 21 room).list) ⟨21, hW'⟩
      rwa [Nat.zero_add, writeAt_full _ _ (by rw [zeros21n, c32_len, hwr])] at this
    have hold3 : ∀ k o, m k = some o → (M2.setCells ⟨b2, 0, none⟩ 0 (c32 ws)) k = some o := fun k o hk => (hWne (by rintro rfl; first | (rw [hb1] at hk; cases hk) | (rw [hb2m] at hk; cases hk))).trans (hold k o hk)
    have hq3 := (hWne (k := q) (by first | exact h1q.symm | exact h2q.symm)).trans hq'
    have hL3 := (hWne (k := b1) (by first | exact h12.symm | exact h12)).trans hL'
    (conv => whnf)
    refine ⟨_, _, _, Blk.cell (l := [.slice (some ⟨b2, 0, none⟩) room room, .slice (some ⟨b1, 0, none⟩) l.length l.length]) (i := 1) ⟨61, hM2 ▸ hq3⟩ rfl, ?_⟩
    (conv => whnf)
    refine ⟨_, _, _, (hpq (hM2 ▸ hold3)).cell (i := 1) rfl, ?_⟩
    (conv => whnf)
    refine ⟨c32 l, by rw [c32_len, Nat.min_self]; rfl, ?_, ?_⟩
    · rcases h.ls.olds with ⟨h4, _⟩ | ⟨p0, h4, h5⟩
      · left
        rw [Nat.min_self]
        exact h4
      · refine .inr ⟨_, p0, rfl, h4, hM2 ▸ holds_more hold3 h5, ?_, c32_one _⟩
        exact hM2 ▸ Blk.room (l := (zerosOf tbl 21 l.length).list) ⟨21, hL3⟩ (by rw [zeros21n, Nat.min_self]; show 0 + l.length * 1 ≤ _; omega)
    have hLne : ∀ {k : Nat}, k ≠ b1 → ((M2.setCells ⟨b2, 0, none⟩ 0 (c32 ws)).setCells ⟨b1, 0, none⟩ 0 (c32 l)) k = (M2.setCells ⟨b2, 0, none⟩ 0 (c32 ws)) k := fun hk => Mem.setCells_ne hk _
    have hL4 : Blk ((M2.setCells ⟨b2, 0, none⟩ 0 (c32 ws)).setCells ⟨b1, 0, none⟩ 0 (c32 l)) b1 (c32 l) := by
      have := Blk.puts (b := b1) (i := 0) (j := 0) (c32 l) (m := M2.setCells ⟨b2, 0, none⟩ 0 (c32 ws)) (l := (zerosOf tbl 21 l.length).list) ⟨21, hL3⟩
      rwa [Nat.zero_add, writeAt_full _ _ (by rw [zeros21n, c32_len])] at this
    obtain ⟨e4, hW3⟩ := hW3
    have hW4 := (hLne (k := b2) (by first | exact h12.symm | exact h12)).trans hW3
    have hq4 := (hLne (k := q) (by first | exact h1q.symm | exact h2q.symm)).trans hq3
    (conv => whnf)
    refine ⟨q, rfl, hM2 ▸ copied h ⟨e4, hW4⟩ hL4 ⟨61, hq4⟩ (by assumption) (by assumption) hqm (by first | exact h12.symm | exact h12) (by first | exact h1q | exact h2q) (by first | exact h1q | exact h2q) fun k o hk => (hLne (by rintro rfl; first | (rw [hb1] at hk; cases hk) | (rw [hb2m] at hk; cases hk))).trans (hold3 k o hk)⟩
end Go.Proofs.Ytlahdleaidhclaa
