/- Marks: Clone, All. -/
import Derived.Test.YtlahdleaidhclaaMkC
import Derived.Test.YtlahdleaidhclaaMvSeq
namespace Go.Proofs.Ytlahdleaidhclaa
open Go Go.Mv
set_option maxHeartbeats 1000000
set_option maxRecDepth 10000
set_option linter.unusedVariables false
set_option linter.unusedSimpArgs false
attribute [local irreducible] FCalls IntKind.wrap bits Mem.set Mem.setCell Mem.setCells YCalls
theorem clone_c {F : Nat → Prop} {m : Mem} {A : Option Addr} {n c : Nat} {l : List Nat} (h : Sl m F A n c 1 (c32 l)) (hn : n ≤ 100000) : FCalls Try.prog 27 [.slice A n c] m fun v m' =>
    (n = 0 ∧ m' = m ∧ ∃ A' c', v = .slice A' 0 c') ∨ ∃ b c' zs, m b = none ∧ v = .slice (some ⟨b, 0, none⟩) n c' ∧ m' = m.set b (.cells (c32 l ++ zs).toArray 21 (0, 0)) := by
  refine FCalls.less ?_
  have h0 := h
  obtain ⟨h1, h2, h3⟩ := h0
  rcases h3 with ⟨rfl, rfl⟩ | ⟨b, r, e, rfl, hF, hb, hr, hk⟩
  · have hn0 : n = 0 := by omega
    subst hn0
    refine fcalls_of_vc (T := tbl) (B := bodies) (pr := []) (DR := dr27) (args := [.v (.slice none 0 0)]) tbl_ok bodies_ok mixed Try.func27 rfl (by decide +kernel) (by simp [Try.f27]) rfl ?_
    (conv => whnf)
    exact ⟨m, fun _ _ h => h, .inl ⟨rfl, rfl, _, _, rfl⟩⟩
  · refine fcalls_of_vc (T := tbl) (B := bodies) (pr := []) (DR := dr27) (args := [.v (.slice (some ⟨b, 0, none⟩) n c)]) tbl_ok bodies_ok mixed Try.func27 rfl (by decide +kernel) (by simp [Try.f27]) rfl ?_
    (conv => whnf)
    intro nb hnb
    (conv => whnf)
    have hS := h.keep (m' := m.set nb (.cells (zerosOf tbl 21 0).list.toArray 21 (0, 0))) fun k _ hne => Mem.set_ne (by rintro rfl; exact hne hnb)
    refine ⟨c32 l, h1, hS.olds.imp_left And.left, fun hle => ?_, fun hlt => ?_⟩
    · have hn0 : n = 0 := by omega
      subst hn0
      have hl0 : c32 l = [] := List.length_eq_zero_iff.1 (by omega)
      rw [hl0]
      refine .inl ⟨_, rfl, fun k hk => by simp at hk, rfl, ?_⟩
      (conv => whnf)
      refine ⟨m, fun k o hk => ?_, .inl ⟨rfl, rfl, _, _, rfl⟩⟩
      show (Mem.setCells _ _ _ []) k = _
      simp only [Mem.setCells]
      exact (Stp.set (F := fun _ => False) hnb).old k o hk
    · refine ⟨?_, [], rfl, .inr ⟨_, rfl, fun k v hv => by simp at hv⟩, fun cap nb2 hcap hnb2 => ?_⟩
      · have h6 : Builtin.nextslicecap (0 + n) 0 = n := by
          unfold Builtin.nextslicecap
          simp
          omega
        rw [h6]
        show n * 4 ≤ 2 ^ 48
        omega
      · (conv => whnf)
        have hne : nb2 ≠ nb := by
          rintro rfl
          simp [Mem.set] at hnb2
        have hnb3 : m nb2 = none := by rwa [Mem.set_ne hne] at hnb2
        refine ⟨m.set nb2 (.cells (c32 l ++ (zerosOf tbl 21 (cap - (0 + n))).list).toArray 21 (0, 0)), fun k o hk => ?_, .inr ⟨nb2, cap, _, hnb3, ?_, rfl⟩⟩
        · show ((m.set nb _).set nb2 (.cells (c32 l ++ (zerosOf tbl 21 (cap - (0 + n))).list).toArray 21 (0, 0))) k = some o
          by_cases hk2 : k = nb2
          · subst hk2
            simp only [Mem.set, if_true] at hk ⊢
            exact hk
          · rw [Mem.set_ne hk2] at hk ⊢
            exact (Stp.set (F := fun _ => False) hnb).old k o hk
        · show Value.slice _ (0 + n) cap = _
          rw [Nat.zero_add]
theorem all_c {m : Mem} {p : Nat} : FCalls Try.prog 16 [.pointer (some ⟨p, 0, none⟩)] m fun v m' => ∃ b, m b = none ∧ v = .func (.func 26) #[] #[.pointer (some ⟨b, 0, none⟩)] ∧ m' = m.set b (.cells [.pointer (some ⟨p, 0, none⟩)].toArray 23 (0, 0)) := by
  refine fcalls_of_vc (T := tbl) (B := bodies) (pr := []) (DR := dr16) (args := [.v (.pointer (some ⟨p, 0, none⟩))]) tbl_ok bodies_ok mixed Try.func16 rfl (by decide +kernel) (by simp [Try.f16]) rfl ?_
  (conv => whnf)
  intro b hb
  (conv => whnf)
  exact ⟨b, hb, rfl, rfl⟩
theorem all_iter (b p room : Nat) (l : List Nat) : IterC1 Try.prog 26 [] [.pointer (some ⟨b, 0, none⟩)] (fun m => m.cell ⟨b, 0, none⟩ = some (.pointer (some ⟨p, 0, none⟩)) ∧ ∃ F, Mk F m p room l) (l.map fun x => [.int .i64 ((x : Nat) : Int)]) := by
  intro y J Q m h0 ⟨hI, F, hM⟩ hy
  show FCalls Try.prog 26 [.func (.yield y) #[] #[], .pointer (some ⟨b, 0, none⟩)] m _
  have hll := hM.llen
  have hsm := hM.small
  obtain ⟨A, B, cA, cB, ws, h⟩ := hM
  refine FCalls.less ?_
  refine fcalls_of_vc (T := tbl) (B := bodies) (pr := []) (DR := dr26) (args := [.v (.func (.yield y) #[] #[]), .v (.pointer (some ⟨b, 0, none⟩))]) tbl_ok bodies_ok mixed Try.func26 rfl (by decide +kernel) (by simp [Try.f26]) rfl ?_
  (conv => whnf)
  refine ⟨_, hI, ?_⟩
  (conv => whnf)
  refine ⟨_, _, _, h.hd.cell (i := 1) rfl, ?_⟩
  (conv => whnf)
  refine FCalls.mono (clone_c h.ls (by omega)) fun v m' hv => ?_
  rcases hv with ⟨hn, hm, A', c', hv⟩ | ⟨nb, c', zs, hnb, hv, hm⟩
  · subst hv hm
    have hl : l = [] := List.length_eq_zero_iff.1 hn
    subst hl
    (conv => whnf)
    refine loop_keep [] Unit (fun s => [(10, .v (.int .i64 0)), (11, .v (.int .i64 0))]) (fun _ => []) (fun s => m') (fun _ => True) (fun _ => 0) () ⟨rfl, rfl, trivial⟩ rfl rfl trivial ?_
    (conv => whnf)
    refine ⟨rfl, fun s _ => ?_⟩
    (conv => whnf)
    exact ⟨m', fun _ _ h => h, .inl h0⟩
  · subst hv hm
    (conv => whnf)
    refine loop_keep [0, 9, 10] (Nat × Mem) (fun s => [(11, .v (.int .i64 s.1))]) (fun _ => []) (fun s => s.2.set nb (.cells (c32 l ++ zs).toArray 21 (0, 0))) (fun s => J s.1 s.2 ∧ s.2 nb = none ∧ s.1 ≤ l.length) (fun s => l.length - s.1) (0, m)
      ⟨rfl, trivial⟩ rfl rfl ⟨h0, hnb, by simp⟩ ?_
    (conv => whnf)
    refine ⟨rfl, fun s hs => ?_⟩
    obtain ⟨i, m1⟩ := s
    obtain ⟨hJ, hn1, hle⟩ := hs
    simp only at hJ hn1 hle
    (conv => whnf)
    refine brk_intro (fun h1 => ?_) (fun h1 => ?_)
    · have h1 : (i : Int) < (l.length : Nat) := by simpa using h1
      have hi : i < l.length := by omega
      obtain ⟨x, hx⟩ : ∃ x, l[i]? = some x := ⟨_, List.getElem?_eq_getElem hi⟩
      have hxr := h.lt x (List.mem_of_getElem? hx)
      (conv => whnf)
      refine ⟨_, rfl, by omega, by omega, ?_⟩
      (conv => whnf)
      refine ⟨((x : Nat) : Int), by
        rw [ix21]
        refine Blk.cell (l := c32 l ++ zs) ⟨21, by simp [Mem.set]⟩ ?_
        rw [List.getElem?_append_left (by rw [c32_len]; omega)]
        exact c32_get hx, ?_⟩
      (conv => whnf)
      rw [wrap_id (x := ((x : Nat) : Int)) (by omega) (by omega)]
      refine YCalls.mono ((hy i _ m1 (by rw [List.getElem?_map, hx]; rfl) hJ).set hn1) fun v m2 ⟨m3, hm3, hn3, hv⟩ => ?_
      subst hm3
      rcases hv with ⟨rfl, hJ2⟩ | ⟨rfl, hQ⟩
      · (conv => whnf)
        refine ⟨(i + 1, m3), le_eq ⟨by show some (AV.v (.int .i64 (IntKind.i64.wrap ((i : Int) + 1)))) = _; rw [wrap_id (by omega) (by omega)]; rfl, rfl, rfl, rfl, trivial⟩ rfl rfl rfl, ⟨hJ2, hn3, by simp only; omega⟩, by simp only; omega⟩
      · (conv => whnf)
        exact ⟨m3, fun k o hk => (Stp.set (F := fun _ => False) hn3).old k o hk, .inr hQ⟩
    · have h1 : ¬ (i : Int) < (l.length : Nat) := by simpa using h1
      have hi : i = l.length := by omega
      subst hi
      (conv => whnf)
      refine ⟨m1, fun k o hk => (Stp.set (F := fun _ => False) hn1).old k o hk, .inl ?_⟩
      rw [List.length_map]
      exact hJ
end Go.Proofs.Ytlahdleaidhclaa
