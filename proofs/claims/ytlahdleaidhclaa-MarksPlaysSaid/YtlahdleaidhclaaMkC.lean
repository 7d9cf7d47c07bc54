/- Marks: Put. -/
import Derived.Test.YtlahdleaidhclaaMkB
namespace Go.Proofs.Ytlahdleaidhclaa
open Go Go.Mv
set_option maxHeartbeats 1000000
set_option maxRecDepth 10000
set_option linter.unusedVariables false
set_option linter.unusedSimpArgs false
attribute [local irreducible] FCalls IntKind.wrap bits Mem.set Mem.setCell Mem.setCells YCalls
section
variable {F : Nat → Prop} {m : Mem} {p room : Nat} {l : List Nat} {A B : Option Addr} {cA cB : Nat} {ws : List Nat}
theorem c32_set {ws : List Nat} {j x : Nat} : c32 (ws.set j x) = (c32 ws).set j (.int .i32 ((x : Nat) : Int)) := by simp [c32, List.map_set]
theorem MkD.mid (h : MkD F m p room l A B cA cB ws) {j b : Nat} (hj : j < room) (hl : j ∉ l) (hB : B = some ⟨b, 0, none⟩) (hn : l.length ≤ room) :
    MkD F (m.setCell ⟨b, j, none⟩ (.int .i32 ((l.length : Nat) : Int))) p room l A B cA cB (ws.set j l.length) ∧ Stp F m (m.setCell ⟨b, j, none⟩ (.int .i32 ((l.length : Nat) : Int))) ∧
      (∃ u, m.cell ⟨b, j, none⟩ = some u) ∧ m.fz ⟨b, j, none⟩ = false ∧ (ws.set j l.length)[j]? = some l.length := by
  have hj2 : j < (c32 ws).length := by rw [c32_len, h.wlen]; omega
  obtain ⟨b', hB', hF, hu, hz, hS, hoth⟩ := h.wh.over (.int .i32 ((l.length : Nat) : Int)) hj2
  rw [hB] at hB'
  cases hB'
  refine ⟨⟨h.fp, h.hd.setCell_ne (fun h => hF.2 h.symm), c32_set ▸ hS, h.ls.keep fun k hk _ => hoth k fun h => hk.2.2 (by rw [hB, h]), h.lt, fun k n hk => ?_, fun k hk => ?_, h.small, fun k hk => Mem.setCell_some (h.own k hk)⟩, Stp.put hF.1 (h.own _ hF.1), hu, hz, ?_⟩
  · have hne : n ≠ j := by rintro rfl; exact hl (List.mem_of_getElem? hk)
    rw [List.getElem?_set_ne (Ne.symm hne)]
    exact h.at' k n hk
  · rcases List.mem_or_eq_of_mem_set hk with h1 | rfl
    · exact h.wlt k h1
    · exact hn
  · rw [List.getElem?_set_self (by rw [h.wlen]; exact hj)]
theorem c32_app {l : List Nat} {j : Nat} : c32 (l ++ [j]) = c32 l ++ [Value.int .i32 ((j : Nat) : Int)] := by simp [c32]
theorem MkD.app (h : MkD F m p room l A B cA cB ws) {j cA' : Nat} {A' : Option Addr} {F' : Nat → Prop} {m' : Mem} (hj : j < room) (hw : ws[j]? = some l.length) (hF : ∀ k, F k → F' k)
    (hd : Blk m' p [.slice B room cB, .slice A' (l.length + 1) cA']) (hs : Sl m' (fun k => F' k ∧ k ≠ p ∧ B ≠ some ⟨k, 0, none⟩) A' (l.length + 1) cA' 1 (c32 l ++ [Value.int .i32 ((j : Nat) : Int)]))
    (hB : ∀ k, B = some ⟨k, 0, none⟩ → m k ≠ none → m' k = m k) (ho : ∀ k, F' k → m' k ≠ none) : MkD F' m' p room (l ++ [j]) A' B cA' cB ws := by
  refine ⟨hF _ h.fp, by simpa using hd, ?_, by rw [c32_app]; simpa using hs, fun n hn => ?_, fun k n hk => ?_, h.wlt, h.small, ho⟩
  · have hw := h.wh
    obtain ⟨h1, h2, h3⟩ := hw
    exact ⟨h1, h2, h3.imp_right fun ⟨b, l, e, k1, k2, k3, k4⟩ => ⟨b, l, e, k1, ⟨hF _ k2.1, k2.2⟩, by rw [hB b k1 (by rw [k3]; simp), k3], k4⟩⟩
  · rcases List.mem_append.1 hn with h1 | h1
    · exact h.lt n h1
    · rw [List.mem_singleton] at h1
      omega
  · by_cases hkl : k < l.length
    · rw [List.getElem?_append_left hkl] at hk
      exact h.at' k n hk
    · rw [List.getElem?_append_right (by omega)] at hk
      have hk0 : k = l.length := by
        have := (List.getElem?_eq_some_iff.1 hk).1
        simp at this
        omega
      subst hk0
      simp at hk
      subst hk
      exact hw
end
theorem cap21 {n c : Nat} (h : c < n + 1) (hn : n ≤ 100000) : Builtin.nextslicecap (n + 1) c * (tbl.at 21).bytes ≤ 2 ^ 48 := by
  have := nextslicecap_le h
  show _ * 4 ≤ 2 ^ 48
  omega
theorem zeros21n (n : Nat) : (zerosOf tbl 21 n).list.length = n * 1 := by rw [zeros21, c32_len]; simp
theorem ext21 (bk n : Nat) : (⟨bk, 0, none⟩ : Addr).add (n * (tbl.at 21).size) = ⟨bk, n * 1, none⟩ := by
  rw [add_mk, Nat.zero_add]
  rfl
theorem put_c {F : Nat → Prop} {m : Mem} {p room : Nat} {l : List Nat} (h : Mk F m p room l) {n : Int} : FCalls Try.prog 13 [.pointer (some ⟨p, 0, none⟩), .int .i64 n] m fun v m' => v = .bool (decide (0 ≤ n ∧ n < room ∧ n.toNat ∉ l)) ∧ MkS F m m' p room (putL room l n) := by
  have h' := h
  obtain ⟨A, B, cA, cB, ws, h⟩ := h'
  rename_i h0
  refine fcalls_of_vc (T := tbl) (B := bodies) (pr := []) (DR := dr13) (args := [.v (.pointer (some ⟨p, 0, none⟩)), .v (.int .i64 n)]) tbl_ok bodies_ok mixed Try.func13 rfl (by decide +kernel) (by simp [Try.f13]) rfl ?_
  by_cases c1 : n < 0
  · have e1 := decide_eq_true c1
    (conv => whnf)
    refine brk_false (by rw [e1]; rfl) ?_
    (conv => whnf)
    exact ⟨by rw [decide_eq_false (by omega)]; rfl, by unfold putL; rw [if_neg (by omega)]; exact MkS.refl h0⟩
  · have e1 := decide_eq_false c1
    by_cases c2 : n ≥ (room : Nat)
    · have e2 := decide_eq_true c2
      (conv => whnf)
      refine brk_true (by rw [e1]; rfl) ?_
      (conv => whnf)
      refine ⟨_, _, _, h.hd.cell (i := 0) rfl, ?_⟩
      (conv => whnf)
      refine brk_false (by rw [e2]; rfl) ?_
      (conv => whnf)
      exact ⟨by rw [decide_eq_false (by omega)]; rfl, by unfold putL; rw [if_neg (by omega)]; exact MkS.refl h0⟩
    · have e2 := decide_eq_false c2
      have hkl : n.toNat < ws.length := by rw [h.wlen]; omega
      have hsm := h.small
      have hll := h0.llen
      have hk : n = ((n.toNat : Nat) : Int) := by omega
      generalize n.toNat = j at *
      subst hk
      (conv => whnf)
      refine ⟨_, _, _, h.hd.cell (i := 0) rfl, ?_⟩
      (conv => whnf)
      refine brk_true (by rw [e2]; rfl) ?_
      (conv => whnf)
      have hc := has_c h0 (n := (j : Int))
      rw [show ((j : Int)).toNat = j by omega] at hc
      by_cases hin : j ∈ l
      · rw [decide_eq_true (p := 0 ≤ (j : Int) ∧ j ∈ l) ⟨by omega, hin⟩] at hc
        refine FCalls.mono hc fun v m' ⟨h3, h4⟩ => ?_
        subst h3 h4
        (conv => whnf)
        exact ⟨by rw [decide_eq_false (by simp [hin])]; rfl, by unfold putL; rw [if_neg (by simp [hin])]; exact MkS.refl h0⟩
      · rw [decide_eq_false (p := 0 ≤ (j : Int) ∧ j ∈ l) fun h => hin h.2] at hc
        refine FCalls.mono hc fun v m' ⟨h3, h4⟩ => ?_
        subst h3 h4
        (conv => whnf)
        refine ⟨_, _, _, h.hd.cell (i := 0) rfl, ?_⟩
        (conv => whnf)
        refine ⟨_, _, _, h.hd.cell (i := 1) rfl, ?_⟩
        (conv => whnf)
        obtain ⟨b, hB, _⟩ := h.wh.cell (c32_get (List.getElem?_eq_getElem hkl))
        obtain ⟨hm, hst, hu, hz, hwj⟩ := h.mid (j := j) (by omega) hin hB hll
        refine ⟨_, hB, by omega, by omega, ?_⟩
        (conv => whnf)
        rw [wrap32 (x := ((l.length : Nat) : Int)) (by omega) (by omega), ix21]
        refine ⟨⟨hu, hz⟩, ?_⟩
        (conv => whnf)
        refine ⟨_, _, _, hm.hd.cell (i := 1) rfl, ?_⟩
        (conv => whnf)
        generalize m'.setCell ⟨b, j, none⟩ (.int .i32 ((l.length : Nat) : Int)) = m1 at *
        generalize ws.set j l.length = ws1 at *
        clear h
        intro nb hnb
        rw [wrap32 (x := ((j : Nat) : Int)) (by omega) (by omega)]
        have hst2 := hst.trans (F' := F) (Stp.set (o := .cells [.int .i32 ((j : Nat) : Int)].toArray 21 (0, 0)) hnb) fun k hk => .inl hk
        have hm2 : MkD F (m1.set nb (.cells [.int .i32 ((j : Nat) : Int)].toArray 21 (0, 0))) p room l A B cA cB ws1 := by
          have hne : ∀ k, F k → k ≠ nb := by
            rintro k hk rfl
            exact hm.own k hk hnb
          exact ⟨hm.fp, hm.hd.set hnb, hm.wh.keep fun k hk _ => Mem.set_ne (hne k hk.1), hm.ls.keep fun k hk _ => Mem.set_ne (hne k hk.1), hm.lt, hm.at', hm.wlt, hm.small, fun k hk => by rw [Mem.set_ne (hne k hk)]; exact hm.own k hk⟩
        have hM : (m1.set nb (.cells [.int .i32 ((j : Nat) : Int)].toArray 21 (0, 0))) nb = some (.cells [.int .i32 ((j : Nat) : Int)].toArray 21 (0, 0)) := by simp [Mem.set]
        clear hm
        (conv => whnf)
        refine ⟨[.int .i32 ((j : Nat) : Int)], rfl, .inr ⟨_, rfl, fun k v hv => ?_⟩, fun hle => ?_, fun hlt => ?_⟩
        · rw [add_mk, Nat.zero_add]
          exact Blk.cell (l := [.int .i32 ((j : Nat) : Int)]) ⟨21, hM⟩ hv
        · obtain ⟨bk, hA, hFk, hroom, hsl, hoth⟩ := hm2.ls.put (news := [.int .i32 ((j : Nat) : Int)]) (j := 1) rfl hle (by omega)
          refine .inl ⟨_, hA, ?_, rfl, ?_⟩
          · rw [ext21]
            exact hroom
          · rw [ext21]
            have hhd : Blk ((m1.set nb (.cells [.int .i32 ((j : Nat) : Int)].toArray 21 (0, 0))).setCells ⟨bk, l.length * 1, none⟩ 0 [.int .i32 ((j : Nat) : Int)]) p [.slice B room cB, .slice A l.length cA] := hm2.hd.setCells_ne (fun h => hFk.2.1 h.symm)
            (conv => whnf)
            refine ⟨⟨⟨_, hhd.cell (i := 1) rfl⟩, hhd.fz⟩, ?_⟩
            (conv => whnf)
            have hst3 := hst2.trans (F' := F) (Stp.puts (i := l.length * 1) (vs := [.int .i32 ((j : Nat) : Int)]) hFk.1 (hm2.own _ hFk.1)) fun k hk => .inl hk
            have ho3 : ∀ k, F k → ((m1.set nb (.cells [.int .i32 ((j : Nat) : Int)].toArray 21 (0, 0))).setCells ⟨bk, l.length * 1, none⟩ 0 [.int .i32 ((j : Nat) : Int)]) k ≠ none := fun k hk => Mem.setCells_some _ (hm2.own k hk)
            refine ⟨by rw [decide_eq_true ⟨by omega, by omega, by simpa using hin⟩]; rfl, F, ⟨A, B, cA, cB, ws1, ?_⟩, fun k hk => .inl hk, hst3.trans (F' := F) (Stp.put hm2.fp (ho3 _ hm2.fp)) fun k hk => .inl hk⟩
            unfold putL
            rw [if_pos ⟨by omega, by omega, by simpa using hin⟩]
            refine hm2.app (by omega) hwj (fun k hk => hk) (hhd.put (i := 1) _) (hsl.keep fun k hk _ => Mem.setCell_ne hk.2.1) (fun k hk hne => ?_) (fun k hk => Mem.setCell_some (ho3 k hk))
            have hkp : k ≠ p := by
              obtain ⟨_, _, h3⟩ := hm2.wh
              rcases h3 with ⟨rfl, _⟩ | ⟨b', l, e, rfl, k2, _⟩
              · cases hk
              · cases hk
                exact k2.2
            exact (Mem.setCell_ne hkp).trans (hoth k fun h => hFk.2.2 (h ▸ hk))
        · refine ⟨cap21 (n := l.length) hlt (by omega), c32 l, c32_len _, hm2.ls.olds, fun cap nb2 hcap hnb2 => ?_⟩
          have hne2 : ∀ k, F k → k ≠ nb2 := by
            rintro k hk rfl
            exact hm2.own k hk hnb2
          have hpnb : p ≠ nb2 := hne2 p hm2.fp
          have hsl := (hm2.ls.mono (F' := fun k => (F k ∨ k = nb2) ∧ k ≠ p ∧ B ≠ some ⟨k, 0, none⟩) fun k hk => ⟨.inl hk.1, hk.2⟩).grow (b := nb2) (news := [.int .i32 ((j : Nat) : Int)]) (j := 1) (e := 21) (zs := (zerosOf tbl 21 (cap - (l.length + 1))).list) rfl hcap ⟨.inr rfl, fun h => hpnb h.symm, fun h => ?_⟩ (zeros21n _)
          · have hhd := hm2.hd.set (o := .cells (c32 l ++ [Value.int .i32 ((j : Nat) : Int)] ++ (zerosOf tbl 21 (cap - (l.length + 1))).list).toArray 21 (0, 0)) hnb2
            (conv => whnf)
            refine ⟨⟨⟨_, hhd.cell (i := 1) rfl⟩, hhd.fz⟩, ?_⟩
            (conv => whnf)
            have hst3 := hst2.trans (F' := F) (Stp.set (o := .cells (c32 l ++ [Value.int .i32 ((j : Nat) : Int)] ++ (zerosOf tbl 21 (cap - (l.length + 1))).list).toArray 21 (0, 0)) hnb2) fun k hk => .inl hk
            have hown : ∀ k, F k ∨ k = nb2 → ((m1.set nb (.cells [.int .i32 ((j : Nat) : Int)].toArray 21 (0, 0))).set nb2 (.cells (c32 l ++ [Value.int .i32 ((j : Nat) : Int)] ++ (zerosOf tbl 21 (cap - (l.length + 1))).list).toArray 21 (0, 0))) k ≠ none := by
              rintro k (hk | rfl)
              · rw [Mem.set_ne (hne2 k hk)]
                exact hm2.own k hk
              · simp [Mem.set]
            refine ⟨by rw [decide_eq_true ⟨by omega, by omega, by simpa using hin⟩]; rfl, fun k => F k ∨ k = nb2, ⟨some ⟨nb2, 0, none⟩, B, cap, cB, ws1, ?_⟩, fun k hk => ?_, hst3.trans (F' := F) (Stp.put hm2.fp (hown _ (.inl hm2.fp))) fun k hk => .inl hk⟩
            · unfold putL
              rw [if_pos ⟨by omega, by omega, by simpa using hin⟩]
              refine hm2.app (by omega) hwj (fun k hk => .inl hk) (hhd.put (i := 1) _) (hsl.keep fun k hk _ => Mem.setCell_ne hk.2.1) (fun k hk hne => ?_) (fun k hk => Mem.setCell_some (hown k hk))
              have hkF : F k ∧ k ≠ p := by
                obtain ⟨_, _, h3⟩ := hm2.wh
                rcases h3 with ⟨rfl, _⟩ | ⟨b', l, e, rfl, k2, _⟩
                · cases hk
                · cases hk
                  exact k2
              exact (Mem.setCell_ne hkF.2).trans (Mem.set_ne (hne2 k hkF.1))
            · rcases hk with hk | rfl
              · exact .inl hk
              · right
                cases hm : m' k with
                | none => rfl
                | some o => exact absurd hnb2 (hst2.all k (by rw [hm]; simp))
          · obtain ⟨_, _, h3⟩ := hm2.wh
            rw [h] at h3
            rcases h3 with ⟨h3, _⟩ | ⟨b', l, e, h3, k2, _⟩
            · cases h3
            · cases h3
              exact hne2 _ k2.1 rfl
end Go.Proofs.Ytlahdleaidhclaa
