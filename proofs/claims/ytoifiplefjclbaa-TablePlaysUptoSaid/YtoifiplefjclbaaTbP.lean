/- Table: SortFunc of places. -/
import Derived.Test.YtoifiplefjclbaaTbSortN
import Derived.Test.YtoifiplefjclbaaTbSort
namespace Go.Proofs.Ytoifiplefjclbaa
open Go Go.Mv
set_option maxHeartbeats 1000000
set_option maxRecDepth 10000
set_option linter.unusedVariables false
set_option linter.unusedSimpArgs false
attribute [local irreducible] FCalls IntKind.wrap bits Mem.set Mem.setCell Mem.setCells YCalls
/-- The comparing of two places, by their keys. -/
theorem slotCmp_c {m : Mem} {s t : Slt} (hs : Ints m s.kA s.ks) (ht : Ints m t.kA t.ks) (hn : s.ks.length < 2 ^ 62) (hk : t.ks.length < 2 ^ 62) :
    FCalls Try.prog 33 [.agg s.cells.toArray, .agg t.cells.toArray] m fun v m' => v = .int .i64 (lexC s.ks t.ks) ∧ m.le m' := by
  refine fcalls_of_vc (T := tbl) (B := bodies) (pr := [99999, 2, 3]) (DR := dr33) (args := [.v (.agg s.cells.toArray), .v (.agg t.cells.toArray)]) tbl_ok bodies_ok mixed Try.func33 rfl (by decide +kernel) (by simp [Try.f33]) rfl ?_
  (conv => whnf)
  refine FCalls.mono (lex_c hs ht hn hk) ?_
  rintro v m' ⟨rfl, rfl⟩
  (conv => whnf)
  exact ⟨rfl, Mem.le_refl _⟩
theorem slt_len (s : Slt) : s.cells.length = 4 := rfl
open Go.Proofs Go.Sort in
theorem lex_swo {α : Type} (k : α → List Int) : SWO (ltOf fun x y : α => lexC (k x) (k y)) where
  irrefl x := by
    have := lexC_self (k x)
    simp only [ltOf, decide_eq_false_iff_not]
    omega
  trans x y z h1 h2 := by
    simp only [ltOf, decide_eq_true_eq] at *
    exact (lexC_le_trans (by omega) (by omega)).2 (.inl h1)
  ntrans x y z h1 h2 := by
    simp only [ltOf, decide_eq_false_iff_not] at *
    have e1 := lexC_neg (k x) (k y)
    have e2 := lexC_neg (k y) (k z)
    have e3 := lexC_neg (k x) (k z)
    have := (lexC_le_trans (xs := k z) (ys := k y) (zs := k x) (by omega) (by omega)).1
    omega
open Go.Proofs Go.Sort in
/-- SortFunc of places whose keys can be read. -/
theorem sortSlots_c {m0 m : Mem} {A : Option Addr} {n c : Nat} {xs : List Slt} (h : Sep [sl A n c 4 (cellsOf xs), kp m0] m) (hne : xs = [] → A = none ∧ n = 0 ∧ c = 0) (hsz : n < 4611686018427387904) (hks : ∀ s, s ∈ xs → Ints m0 s.kA s.ks ∧ s.ks.length < 2 ^ 62) :
    FCalls Try.prog 32 [.slice A n c, .func (.func 33) #[] #[]] m fun v m' =>
      v = .tuple #[] ∧ ∃ ys : List Slt, ys.Perm xs ∧ ys.Pairwise (fun x y => lexC x.ks y.ks ≤ 0) ∧ Sep [sl A n c 4 (cellsOf ys), kp m0] m' := by
  cases xs with
  | nil =>
    obtain ⟨rfl, rfl, rfl⟩ := hne rfl
    exact sort_nil.mono fun v m' ⟨h1, h2⟩ => ⟨h1, [], List.Perm.refl _, List.Pairwise.nil, h2 ▸ h⟩
  | cons x0 r =>
    generalize hxs : x0 :: r = xs at *
    let α := { s : Slt // Ints m0 s.kA s.ks ∧ s.ks.length < 2 ^ 62 }
    have : Inhabited α := ⟨⟨x0, hks x0 (by rw [← hxs]; simp)⟩⟩
    let zs : List α := xs.pmap Subtype.mk hks
    have hz : zs.map Subtype.val = xs := by simp [zs, List.map_pmap]
    have hfl : ∀ l : List α, l.flatMap (fun x => x.1.cells) = cellsOf (l.map Subtype.val) := by
      intro l
      induction l with
      | nil => rfl
      | cons a r ih =>
        rw [List.flatMap_cons, ih]
        rfl
    have hlen : zs.length = n := by
      have h1 := (h.asn 0 rfl).1
      rw [cellsOf_length] at h1
      have h2 : zs.length = xs.length := by rw [← hz]; simp
      omega
    have hA : ∃ b o, A = some ⟨b, o, none⟩ := by
      obtain ⟨h1, h2, h3⟩ := h.asn 0 rfl
      rcases h3 with ⟨_, h4⟩ | ⟨b, o, l, e, h4, _⟩
      · rw [cellsOf_length] at h1
        have : xs.length = r.length + 1 := by rw [← hxs]; simp
        omega
      · exact ⟨b, o, h4⟩
    obtain ⟨b, o, rfl⟩ := hA
    have h' : Sep [sl (some ⟨b, o, none⟩) n c 4 (zs.flatMap fun x => x.1.cells), kp m0] m := by rw [hfl, hz]; exact h
    have eg : ∀ args w, (callFunc 33 args).run Try.prog w = .ok (.enter 33 args) w := enters_of Try.func33 (by kernel_rfl) rfl
    refine FCalls.mono (sortFunc_c Try.sortSlot 4 Try.isAgg69 Try.sizeOf69 (fun x : α => x.1.cells) (fun x => rfl) (fun x v hv => ?_) (fun x y => lexC x.1.ks y.1.ks) (lex_swo fun x : α => x.1.ks) 33 [] eg h' hlen hsz fun x y => slotCmp_c x.2.1 y.2.1 x.2.2 y.2.2) ?_
    · simp [Slt.cells] at hv
      rcases hv with rfl | rfl | rfl | rfl <;> rfl
    · rintro v m' ⟨rfl, ys, h1, h2, h3⟩
      refine ⟨rfl, ys.map Subtype.val, ?_, ?_, ?_⟩
      · rw [← hz]
        exact h1.map _
      · rw [List.pairwise_map]
        refine h2.imp fun {a b} hab => ?_
        simp only [ltOf, decide_eq_false_iff_not] at hab
        have := lexC_neg a.1.ks b.1.ks
        omega
      · rw [← hfl]
        exact h3
end Go.Proofs.Ytoifiplefjclbaa
