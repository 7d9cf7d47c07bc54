/- Marks: New, Has, Put, Clear. -/
import Derived.Test.YtlahdleaidhclaaMkA
namespace Go.Proofs.Ytlahdleaidhclaa
open Go Go.Mv
set_option maxHeartbeats 1000000
set_option maxRecDepth 10000
set_option linter.unusedVariables false
set_option linter.unusedSimpArgs false
attribute [local irreducible] FCalls IntKind.wrap bits Mem.set Mem.setCell Mem.setCells YCalls
/-- What is not F's own stays; nothing goes. -/
structure Stp (F : Nat → Prop) (m m' : Mem) : Prop where
  keep : ∀ k o, m k = some o → ¬ F k → m' k = some o
  all : ∀ k, m k ≠ none → m' k ≠ none
theorem Stp.refl {F : Nat → Prop} {m : Mem} : Stp F m m := ⟨fun _ _ h _ => h, fun _ h => h⟩
theorem Stp.less {F F' : Nat → Prop} {m m' : Mem} (h : Stp F m m') (hf : ∀ k, F k → F' k) : Stp F' m m' := ⟨fun k o h1 h2 => h.keep k o h1 fun h3 => h2 (hf k h3), h.all⟩
theorem Stp.trans {F F' : Nat → Prop} {m m1 m2 : Mem} (h : Stp F m m1) (h2 : Stp F' m1 m2) (hf : ∀ k, F' k → F k ∨ m k = none) : Stp F m m2 :=
  ⟨fun k o h3 h4 => h2.keep k o (h.keep k o h3 h4) fun h5 => (hf k h5).elim h4 fun h6 => (by rw [h3] at h6; cases h6), fun k h3 => h2.all k (h.all k h3)⟩
theorem Stp.set {F : Nat → Prop} {m : Mem} {b : Nat} {o : Obj} (h : m b = none) : Stp F m (m.set b o) :=
  ⟨fun k o' h1 _ => by rw [Mem.set_ne (by rintro rfl; rw [h] at h1; cases h1)]; exact h1, fun k h1 => by rw [Mem.set_ne (by rintro rfl; exact h1 h)]; exact h1⟩
theorem Stp.of_ne {F : Nat → Prop} {m m' : Mem} {b : Nat} (hb : F b) (h : ∀ k, k ≠ b → m' k = m k) (h2 : m' b ≠ none) : Stp F m m' :=
  ⟨fun k o h1 h3 => by rw [h k (by rintro rfl; exact h3 hb)]; exact h1, fun k h1 => by
    by_cases hk : k = b
    · rw [hk]; exact h2
    · rw [h k hk]; exact h1⟩
theorem Mem.setCell_some {m : Mem} {a : Addr} {v : Value} {k : Nat} (h : m k ≠ none) : (m.setCell a v) k ≠ none := by
  unfold Mem.setCell
  intro h1
  repeat' split at h1
  all_goals first | exact h h1 | cases h1
theorem Mem.setCells_some {a : Addr} {k : Nat} : ∀ (vs : List Value) {m : Mem} {j : Nat}, m k ≠ none → (m.setCells a j vs) k ≠ none
  | [], _, _, h => by simpa only [Mem.setCells] using h
  | v :: r, m, j, h => by
    simp only [Mem.setCells]
    exact Mem.setCells_some r (Mem.setCell_some h)
theorem Stp.put {F : Nat → Prop} {m : Mem} {b i : Nat} {v : Value} (hb : F b) (h : m b ≠ none) : Stp F m (m.setCell ⟨b, i, none⟩ v) := Stp.of_ne hb (fun k hk => Mem.setCell_ne hk) (Mem.setCell_some h)
theorem Stp.puts {F : Nat → Prop} {m : Mem} {b i : Nat} {vs : List Value} (hb : F b) (h : m b ≠ none) : Stp F m (m.setCells ⟨b, i, none⟩ 0 vs) := Stp.of_ne hb (fun k hk => Mem.setCells_ne hk _) (Mem.setCells_some _ h)
theorem Stp.old {m m' : Mem} (h : Stp (fun _ => False) m m') : ∀ k o, m k = some o → m' k = some o := fun k o h1 => h.keep k o h1 id
theorem Stp.of {m m' : Mem} (h : ∀ k o, m k = some o → m' k = some o) : Stp (fun _ => False) m m' :=
  ⟨fun k o h1 _ => h k o h1, fun k h1 => by
    cases hm : m k with
    | none => exact absurd hm h1
    | some o => rw [h k o hm]; simp⟩
/-- The set at p, after a call on it; F: what was its own ahead. -/
def MkS (F : Nat → Prop) (m m' : Mem) (p room : Nat) (l : List Nat) : Prop := ∃ F', Mk F' m' p room l ∧ (∀ k, F' k → F k ∨ m k = none) ∧ Stp F m m'
theorem MkS.refl {F : Nat → Prop} {m : Mem} {p room : Nat} {l : List Nat} (h : Mk F m p room l) : MkS F m m p room l := ⟨F, h, fun _ h => .inl h, Stp.refl⟩
theorem Mk.own {F : Nat → Prop} {m : Mem} {p room : Nat} {l : List Nat} (h : Mk F m p room l) : ∀ k, F k → m k ≠ none := by
  obtain ⟨A, B, cA, cB, ws, h⟩ := h
  exact h.own
theorem Mk.fp {F : Nat → Prop} {m : Mem} {p room : Nat} {l : List Nat} (h : Mk F m p room l) : F p := by
  obtain ⟨A, B, cA, cB, ws, h⟩ := h
  exact h.fp
theorem Mk.nodup {F : Nat → Prop} {m : Mem} {p room : Nat} {l : List Nat} (h : Mk F m p room l) : l.Nodup := by
  obtain ⟨A, B, cA, cB, ws, h⟩ := h
  exact h.nodup
theorem Mk.lt {F : Nat → Prop} {m : Mem} {p room : Nat} {l : List Nat} (h : Mk F m p room l) : ∀ n, n ∈ l → n < room := by
  obtain ⟨A, B, cA, cB, ws, h⟩ := h
  exact h.lt
theorem Mk.small {F : Nat → Prop} {m : Mem} {p room : Nat} {l : List Nat} (h : Mk F m p room l) : room ≤ 100000 := by
  obtain ⟨A, B, cA, cB, ws, h⟩ := h
  exact h.small
theorem Mk.llen {F : Nat → Prop} {m : Mem} {p room : Nat} {l : List Nat} (h : Mk F m p room l) : l.length ≤ room := by
  obtain ⟨A, B, cA, cB, ws, h⟩ := h
  exact h.llen
theorem MkS.trans {F : Nat → Prop} {m m1 m2 : Mem} {p room : Nat} {l l2 : List Nat} (h : MkS F m m1 p room l) (h2 : ∀ F', Mk F' m1 p room l → MkS F' m1 m2 p room l2) : MkS F m m2 p room l2 := by
  obtain ⟨F', h1, hf, hs⟩ := h
  obtain ⟨F2, h3, hf2, hs2⟩ := h2 F' h1
  refine ⟨F2, h3, fun k hk => ?_, hs.trans hs2 hf⟩
  rcases hf2 k hk with h4 | h4
  · exact hf k h4
  · right
    cases hm : m k with
    | none => rfl
    | some o => exact absurd h4 (hs.all k (by rw [hm]; simp))
/-- Another set stays. -/
theorem Mk.stay {F F2 : Nat → Prop} {m m' : Mem} {p room : Nat} {l : List Nat} (h : Mk F m p room l) (hs : Stp F2 m m') (hd : ∀ k, F k → ¬ F2 k) : Mk F m' p room l := by
  obtain ⟨A, B, cA, cB, ws, h⟩ := h
  have hk : ∀ b, F b → m b ≠ none → m' b = m b := fun b hb hne => by
    cases hm : m b with
    | none => exact absurd hm hne
    | some o => exact hs.keep b o hm (hd b hb)
  obtain ⟨e, he⟩ := h.hd
  exact ⟨A, B, cA, cB, ws, h.fp, ⟨e, by rw [hk p h.fp (by rw [he]; simp), he]⟩, h.wh.keep fun b hb => hk b hb.1, h.ls.keep fun b hb => hk b hb.1, h.lt, h.at', h.wlt, h.small, fun k hF => hs.all k (h.own k hF)⟩
theorem zeros21 (n : Nat) : (zerosOf tbl 21 n).list = c32 (List.replicate n 0) := by
  show intCells .i32 (List.replicate n 0) = _
  simp [intCells, c32]
theorem new_mk {m : Mem} {b p n : Nat} (hn : n ≤ 100000) (hb : m b = none) (hp : (m.set b (.cells (zerosOf tbl 21 n).list.toArray 21 (0, 0))) p = none) :
    MkS (fun _ => False) m ((m.set b (.cells (zerosOf tbl 21 n).list.toArray 21 (0, 0))).set p (.cells [.slice (some ⟨b, 0, none⟩) n n, .slice none 0 0].toArray 61 (0, 0))) p n [] := by
  have hpb : p ≠ b := by
    rintro rfl
    simp [Mem.set] at hp
  refine ⟨fun k => k = p ∨ k = b, ?_, ?_, ?_⟩
  · refine ⟨none, some ⟨b, 0, none⟩, 0, n, List.replicate n 0, .inl rfl, Blk.new, ?_, Sl.nil, fun n hn => absurd hn List.not_mem_nil, fun k n h => by simp at h, fun k hk => ?_, by omega, fun k hk => ?_⟩
    · refine ⟨by simp [c32], Nat.le_refl _, .inr ⟨b, (zerosOf tbl 21 n).list, 21, rfl, ⟨.inr rfl, fun h => hpb h.symm⟩, ?_, by rw [zeros21, c32_len]; simp, fun k v h => by rw [zeros21]; exact h⟩⟩
      rw [Mem.set_ne (fun h => hpb h.symm)]
      simp [Mem.set]
    · rw [List.mem_replicate] at hk
      omega
    · rcases hk with rfl | rfl
      · simp [Mem.set]
      · rw [Mem.set_ne (fun h => hpb h.symm)]
        simp [Mem.set]
  · rintro k (rfl | rfl)
    · right
      cases hm : m k with
      | none => rfl
      | some o => exact absurd hp ((Stp.set (F := fun _ => False) hb).all k (by rw [hm]; simp))
    · exact .inr hb
  · exact (Stp.set hb).trans (Stp.set hp) fun k h => .inl h
theorem new_c {m : Mem} {room : Int} : FCalls Try.prog 10 [.int .i64 room] m fun v m' =>
    (0 ≤ room ∧ room ≤ 100000 → ∃ p, v = .tuple #[.pointer (some ⟨p, 0, none⟩), .int .i64 0] ∧ MkS (fun _ => False) m m' p room.toNat []) ∧ (¬ (0 ≤ room ∧ room ≤ 100000) → v = .tuple #[.pointer none, .int .i64 1] ∧ m' = m) := by
  refine fcalls_of_vc (T := tbl) (B := bodies) (pr := []) (DR := dr10) (args := [.v (.int .i64 room)]) tbl_ok bodies_ok mixed Try.func10 rfl (by decide +kernel) (by simp [Try.f10]) rfl ?_
  by_cases c1 : room < 0
  · have e1 := decide_eq_true c1
    (conv => whnf)
    refine brk_false (by rw [e1]; rfl) ?_
    (conv => whnf)
    exact ⟨fun h => by omega, fun _ => ⟨rfl, rfl⟩⟩
  · have e1 := decide_eq_false c1
    by_cases c2 : room > 100000
    · have e2 := decide_eq_true c2
      (conv => whnf)
      refine brk_true (by rw [e1]; rfl) ?_
      (conv => whnf)
      refine brk_true (by rw [e2]; rfl) ?_
      (conv => whnf)
      exact ⟨fun h => by omega, fun _ => ⟨rfl, rfl⟩⟩
    · have e2 := decide_eq_false c2
      (conv => whnf)
      refine brk_true (by rw [e1]; rfl) ?_
      (conv => whnf)
      refine brk_false (by rw [e2]; rfl) ?_
      (conv => whnf)
      refine ⟨by omega, by omega, by omega, ?_, fun b hb => ?_⟩
      · show ((4 : Nat) : Int) * room ≤ 2 ^ 48
        omega
      · (conv => whnf)
        intro p hp
        (conv => whnf)
        exact ⟨fun _ => ⟨p, rfl, new_mk (by omega) hb hp⟩, fun h => by omega⟩
theorem has_c {F : Nat → Prop} {m : Mem} {p room : Nat} {l : List Nat} (h : Mk F m p room l) {n : Int} : FCalls Try.prog 17 [.pointer (some ⟨p, 0, none⟩), .int .i64 n] m fun v m' => v = .bool (decide (0 ≤ n ∧ n.toNat ∈ l)) ∧ m' = m := by
  obtain ⟨A, B, cA, cB, ws, h⟩ := h
  refine fcalls_of_vc (T := tbl) (B := bodies) (pr := []) (DR := dr17) (args := [.v (.pointer (some ⟨p, 0, none⟩)), .v (.int .i64 n)]) tbl_ok bodies_ok mixed Try.func17 rfl (by decide +kernel) (by simp [Try.f17]) rfl ?_
  by_cases c1 : n < 0
  · have e1 := decide_eq_true c1
    (conv => whnf)
    refine brk_false (by rw [e1]; rfl) ?_
    (conv => whnf)
    exact ⟨by rw [decide_eq_false (by omega)]; rfl, rfl⟩
  · have e1 := decide_eq_false c1
    by_cases c2 : n ≥ (room : Nat)
    · have e2 := decide_eq_true c2
      (conv => whnf)
      refine brk_true (by rw [e1]; rfl) ?_
      (conv => whnf)
      refine ⟨_, _, _, h.hd.cell (i := 0) rfl, ?_⟩
      (conv => whnf)
      refine brk_true (by rw [e2]; rfl) ?_
      (conv => whnf)
      exact ⟨by rw [decide_eq_false (fun h1 => by have := h.lt _ h1.2; omega)]; rfl, rfl⟩
    · have e2 := decide_eq_false c2
      have hkl : n.toNat < ws.length := by rw [h.wlen]; omega
      obtain ⟨w, hw⟩ : ∃ w, ws[n.toNat]? = some w := ⟨_, List.getElem?_eq_getElem hkl⟩
      obtain ⟨b, hB, _, hc, _⟩ := h.wh.cell (c32_get hw)
      have hwr := h.wlt w (List.mem_of_getElem? hw)
      have hsm := h.small
      have hk : n = ((n.toNat : Nat) : Int) := by omega
      generalize n.toNat = j at *
      subst hk
      (conv => whnf)
      refine ⟨_, _, _, h.hd.cell (i := 0) rfl, ?_⟩
      (conv => whnf)
      refine brk_false (by rw [e2]; rfl) ?_
      (conv => whnf)
      refine ⟨_, _, _, h.hd.cell (i := 0) rfl, ?_⟩
      (conv => whnf)
      refine ⟨_, hB, by omega, by omega, ?_⟩
      (conv => whnf)
      refine ⟨_, by rw [ix21]; exact hc, ?_⟩
      (conv => whnf)
      refine ⟨_, _, _, h.hd.cell (i := 1) rfl, ?_⟩
      (conv => whnf)
      have hwi : IntKind.i64.wrap ((w : Nat) : Int) = w := wrap_id (by omega) (by omega)
      refine brk_intro (fun h5 => ?_) (fun h5 => ?_)
      · have h5 : w < l.length := by
          have h6 : IntKind.i64.wrap (w : Int) < (l.length : Int) := by simpa using h5
          rw [hwi] at h6
          omega
        obtain ⟨x, hx⟩ : ∃ x, l[w]? = some x := ⟨_, List.getElem?_eq_getElem h5⟩
        obtain ⟨b2, hA, _, hc2, _⟩ := h.ls.cell (c32_get hx)
        have hxr := h.lt x (List.mem_of_getElem? hx)
        (conv => whnf)
        refine ⟨_, _, _, h.hd.cell (i := 1) rfl, ?_⟩
        (conv => whnf)
        refine ⟨_, hA, by omega, by omega, ?_⟩
        (conv => whnf)
        refine ⟨_, by rw [hwi, ix21]; exact hc2, ?_⟩
        (conv => whnf)
        refine ⟨?_, rfl⟩
        have hxi : IntKind.i64.wrap ((x : Nat) : Int) = x := wrap_id (by omega) (by omega)
        show Value.bool (IntKind.i64.wrap ((x : Nat) : Int) == (j : Int)) = _
        rw [hxi]
        congr 1
        by_cases he : x = j
        · subst he
          rw [decide_eq_true ⟨by omega, List.mem_of_getElem? hx⟩]
          exact beq_self_eq_true _
        · rw [decide_eq_false (fun h1 => ?_)]
          · exact beq_eq_false_iff_ne.2 (by omega)
          · obtain ⟨k, hk⟩ := List.getElem?_of_mem h1.2
            have := h.at' k j hk
            rw [hw] at this
            cases this
            rw [hx] at hk
            cases hk
            exact he rfl
      · have h5 : ¬ w < l.length := by
          have h6 : ¬ IntKind.i64.wrap (w : Int) < (l.length : Int) := by simpa using h5
          rw [hwi] at h6
          omega
        (conv => whnf)
        refine ⟨?_, rfl⟩
        show Value.bool false = _
        rw [decide_eq_false (fun h1 => ?_)]
        obtain ⟨k, hk⟩ := List.getElem?_of_mem h1.2
        have := h.at' k j hk
        rw [hw] at this
        cases this
        exact h5 (List.getElem?_eq_some_iff.1 hk).1
def putL (room : Nat) (l : List Nat) (n : Int) : List Nat := if 0 ≤ n ∧ n < room ∧ n.toNat ∉ l then l ++ [n.toNat] else l
theorem MkD.less {F : Nat → Prop} {m : Mem} {p room : Nat} {l : List Nat} {A B : Option Addr} {cA cB : Nat} {ws : List Nat} (h : MkD F m p room l A B cA cB ws) (l' : List Nat) (m' : Mem) (hl : l' <+: l) (hd : Blk m' p [.slice B room cB, .slice A l'.length cA]) (hm : ∀ k, k ≠ p → m' k = m k) : MkD F m' p room l' A B cA cB ws := by
  obtain ⟨t, rfl⟩ := hl
  refine ⟨h.fp, hd, h.wh.keep fun b hb _ => hm b hb.2, ?_, fun n hn => h.lt n (List.mem_append.2 (.inl hn)), fun k n hk => h.at' k n ?_, h.wlt, h.small, fun k hF hn => ?_⟩
  · obtain ⟨h1, h2, h3⟩ := h.ls.keep (m' := m') fun b hb _ => hm b hb.2.1
    rw [List.length_append] at h2
    refine ⟨c32_len _, by omega, h3.imp_right fun ⟨b, r, e, k1, k2, k3, k4, k5⟩ => ⟨b, r, e, k1, k2, k3, k4, fun k v hv => k5 k v ?_⟩⟩
    unfold c32
    rw [List.map_append]
    have := (List.getElem?_eq_some_iff.1 hv).1
    rw [List.getElem?_append_left (by simpa [c32] using this)]
    exact hv
  · have := (List.getElem?_eq_some_iff.1 hk).1
    rw [List.getElem?_append_left this]
    exact hk
  · by_cases hp : k = p
    · subst hp
      obtain ⟨e, he⟩ := hd
      rw [he] at hn
      cases hn
    · rw [hm k hp] at hn
      exact h.own k hF hn
theorem clear_c {F : Nat → Prop} {m : Mem} {p room : Nat} {l : List Nat} (h : Mk F m p room l) : FCalls Try.prog 20 [.pointer (some ⟨p, 0, none⟩)] m fun v m' => v = .tuple #[] ∧ MkS F m m' p room [] := by
  obtain ⟨A, B, cA, cB, ws, h⟩ := h
  refine fcalls_of_vc (T := tbl) (B := bodies) (pr := []) (DR := dr20) (args := [.v (.pointer (some ⟨p, 0, none⟩))]) tbl_ok bodies_ok mixed Try.func20 rfl (by decide +kernel) (by simp [Try.f20]) rfl ?_
  (conv => whnf)
  refine ⟨_, _, _, h.hd.cell (i := 1) rfl, ?_⟩
  (conv => whnf)
  refine ⟨by omega, by omega, by omega, ?_⟩
  (conv => whnf)
  refine ⟨⟨⟨_, h.hd.cell (i := 1) rfl⟩, h.hd.fz⟩, ?_⟩
  (conv => whnf)
  refine ⟨rfl, ?_⟩
  have e : (if cA = Int.toNat 0 then A else Option.map (fun p => p.add (Int.toNat 0 * (tbl.at 21).size)) A) = A := by
    split
    · rfl
    · obtain ⟨_, _, h3⟩ := h.ls
      rcases h3 with ⟨rfl, rfl⟩ | ⟨b, r, e, rfl, _⟩
      · rfl
      · show some (Addr.add ⟨b, 0, none⟩ (0 * 1)) = _
        rw [add_mk]
  show MkS F m (m.setCell ⟨p, 1, none⟩ (.slice (if cA = Int.toNat 0 then A else Option.map (fun p => p.add (Int.toNat 0 * (tbl.at 21).size)) A) 0 cA)) p room []
  rw [e]
  exact ⟨F, ⟨A, B, cA, cB, ws, h.less [] _ List.nil_prefix (h.hd.put (i := 1) _) fun k hk => Mem.setCell_ne hk⟩, fun _ h => .inl h, Stp.put h.fp (h.own p h.fp)⟩
end Go.Proofs.Ytlahdleaidhclaa
