/- SetsMake: told of the program. -/
import Derived.Test.YtegeeofjebpgbaaDoorSsQ
namespace Go.Proofs.YtegeeofjebpgbaaDoor
open Go Go.Mv
set_option maxHeartbeats 2000000
set_option maxRecDepth 10000
set_option linter.unusedVariables false
set_option linter.unusedSimpArgs false
attribute [local irreducible] FCalls IntKind.wrap bits Mem.set Mem.setCell Mem.setCells YCalls
def cellsI : List (Int × Int) → List Value
  | [] => []
  | r :: l => .int .i64 r.1 :: .int .i64 r.2 :: cellsI l
theorem cellsI_len : ∀ l, (cellsI l).length = l.length * 2
  | [] => rfl
  | r :: l => by simp only [cellsI, List.length_cons, cellsI_len l]; omega
theorem cellsI_get : ∀ (rs : List (Int × Int)) (k : Nat) r, rs[k]? = some r → (cellsI rs)[k * 2]? = some (.int .i64 r.1) ∧ (cellsI rs)[k * 2 + 1]? = some (.int .i64 r.2)
  | [], k, r, hk => by simp at hk
  | a :: l, 0, r, hk => by simp at hk; subst hk; exact ⟨rfl, rfl⟩
  | a :: l, k + 1, r, hk => by
    have := cellsI_get l k r (by simpa using hk)
    simp only [cellsI]
    rw [show (k + 1) * 2 = k * 2 + 1 + 1 by omega]
    exact ⟨by simpa using this.1, by simpa using this.2⟩
theorem cellsI_one : ∀ l, oneCells (cellsI l) = true
  | [] => rfl
  | r :: l => by simp only [cellsI, oneCells, cellsI_one l]; rfl
/-- What a row holds, cell by cell. -/
theorem RowR.holds {m : Mem} {b o : Nat} {rs : List (Int × Int)} (h : ∀ (k : Nat) r, rs[k]? = some r → m.cell ⟨b, o + k * 2, none⟩ = some (.int .i64 r.1) ∧ m.cell ⟨b, o + k * 2 + 1, none⟩ = some (.int .i64 r.2)) : m.holds ⟨b, o, none⟩ (cellsI rs) := by
  intro i v hv
  rw [add_mk]
  have hil := (List.getElem?_eq_some_iff.1 hv).1
  rw [cellsI_len] at hil
  obtain ⟨r, hr⟩ : ∃ r, rs[i / 2]? = some r := ⟨_, List.getElem?_eq_getElem (by omega)⟩
  obtain ⟨g1, g2⟩ := cellsI_get rs _ r hr
  obtain ⟨k1, k2⟩ := h _ r hr
  rcases Nat.mod_two_eq_zero_or_one i with hm | hm
  · rw [show i / 2 * 2 = i by omega] at g1 k1
    rw [g1] at hv
    cases hv
    exact k1
  · rw [show i / 2 * 2 + 1 = i by omega] at g2
    rw [show o + i / 2 * 2 + 1 = o + i by omega] at k2
    rw [g2] at hv
    cases hv
    exact k2
theorem make_c {m : Mem} {t : ByteArray} {lo hi : Int} {A : Option Addr} {c : Nat} {rs : List (Int × Int)} (hT : Tz m) (ht : t.size < 2 ^ 62) (hr : RowR m A rs) (hn : rs.length < 2 ^ 43) :
    FCalls Tryd.prog 8 [.string t, .int .i64 lo, .int .i64 hi, .slice A rs.length c] m fun v m' => v = .bool true ∧ ∀ b o, m b = some o → m' b = some o := by
  refine fcalls_of_vc (T := tbl) (B := bodies) (pr := [10, 12, 15, 17]) (DR := dr8) (args := [.v (.string t), .v (.int .i64 lo), .v (.int .i64 hi), .v (.slice A rs.length c)]) tbl_ok bodies_ok mixed Tryd.func8 rfl (by decide +kernel) (by simp [Tryd.f8]) rfl ?_
  have hOf : (W (ofG t.data.toList) == W (ofG t.data.toList)) = true := beq_self_eq_true _
  (conv => whnf)
  refine FCalls.mono (examples_c hT) fun v m' ⟨h1, h2⟩ => ?_
  subst h1 h2
  (conv => whnf)
  refine FCalls.mono range_c fun v m2 ⟨h1, R, hR, h2⟩ => ?_
  subst h1
  have key : ∃ e : Int, v = .tuple #[wv R, .int .i64 e] ∧ ((e = 1 ∧ (lo < 0 ∨ lo > hi ∨ hi > 255) ∧ ∀ b, b < 256 → has R b = false) ∨ (e = 0 ∧ ¬ (lo < 0 ∨ lo > hi ∨ hi > 255) ∧ ∀ b, b < 256 → has R b = decide (lo ≤ (b : Nat) ∧ (b : Nat) ≤ hi))) := by
    rcases h2 with ⟨k1, k2, k3⟩ | ⟨k1, k2, k3⟩
    · exact ⟨1, k2, .inl ⟨rfl, k1, k3⟩⟩
    · exact ⟨0, k2, .inr ⟨rfl, k1, k3⟩⟩
  clear h2
  obtain ⟨e, rfl, hRe⟩ := key
  (conv => whnf)
  refine ⟨_, W_len, rfl, ?_⟩
  (conv => whnf)
  refine ⟨rfl, W_len.symm, W_len.symm, ?_⟩
  (conv => whnf)
  refine FCalls.mono rrange_c fun v m2 ⟨h1, R', hR', h2⟩ => ?_
  subst h1
  have key : ∃ ok : Bool, v = .tuple #[wv R', .bool ok] ∧ ((e = 1 ∧ ok = false) ∨ (e = 0 ∧ ok = true)) ∧ ∀ b, b < 256 → has R b = has R' b := by
    rcases h2 with ⟨k1, k2, k3⟩ | ⟨k1, k2, k3⟩ <;> rcases hRe with ⟨q1, q2, q3⟩ | ⟨q1, q2, q3⟩
    · exact ⟨false, k2, .inl ⟨q1, rfl⟩, fun b hb => by rw [k3 b hb, q3 b hb]⟩
    · exact absurd k1 q2
    · exact absurd q2 k1
    · exact ⟨true, k2, .inr ⟨q1, rfl⟩, fun b hb => by rw [k3 b hb, q3 b hb]⟩
  clear h2 hRe
  obtain ⟨ok, rfl, hok, hRR⟩ := key
  have eR : (W R == W R') = true := eqW hR hR' hRR
  (conv => whnf)
  refine ⟨_, W_len, rfl, ?_⟩
  (conv => whnf)
  refine ⟨rfl, W_len.symm, W_len.symm, ?_⟩
  (conv => whnf)
  have en : IntKind.i64.wrap (((rs.length : Nat) : Int) + 1) = ((rs.length + 1 : Nat) : Int) := by rw [wrap_id (by omega) (by omega)]; omega
  rw [en]
  refine ⟨by omega, by omega, by omega, by show 16 * _ ≤ (2 : Int) ^ 48; omega, ?_⟩
  intro b hb
  (conv => whnf)
  have hA : rs.length = 0 ∨ ∃ b o, A = some ⟨b, o, none⟩ ∧ ∀ (k : Nat) r, rs[k]? = some r → m2.cell ⟨b, o + k * 2, none⟩ = some (.int .i64 r.1) ∧ m2.cell ⟨b, o + k * 2 + 1, none⟩ = some (.int .i64 r.2) := hr.imp (fun h => by rw [h]; rfl) id
  have o1 := (Own.nil (m := m2)).new (l := (zerosOf tbl 40 (rs.length + 1)).list) (e := 40) hb
  have hzl := zeros40 (rs.length + 1)
  generalize hzs : (zerosOf tbl 40 (rs.length + 1)).list = zs at o1 hzl
  have hmin : min rs.length (((rs.length + 1 : Nat) : Int)).toNat = rs.length := by omega
  have hrM : ∀ M, (∀ k o, m2 k = some o → M k = some o) → RowR M A rs := fun M hM => hr.imp id fun ⟨b0, o0, h1, h2⟩ => ⟨b0, o0, h1, fun k r hk => by
    obtain ⟨g1, g2⟩ := h2 k r hk
    have cell : ∀ a v, m2.cell a = some v → M.cell a = some v := fun a v hc => by
      unfold Mem.cell at hc ⊢
      cases hm : m2 a.block with
      | none => rw [hm] at hc; cases hc
      | some o => rw [hM _ _ hm]; rw [hm] at hc; exact hc
    exact ⟨cell _ _ g1, cell _ _ g2⟩⟩
  refine ⟨cellsI rs, by rw [cellsI_len, hmin]; rfl, ?_, ?_⟩
  · rw [hmin]
    rcases hrM _ o1.old with h0 | ⟨b0, o0, h1, h2⟩
    · left
      rw [h0]
      exact Nat.zero_mul _
    · refine .inr ⟨_, _, rfl, h1, ?_, ?_, cellsI_one rs⟩
      · have := RowR.holds h2
        rw [← hzs] at this
        exact this
      · have : Mem.room (Mem.set m2 b (.cells zs.toArray 40 (0, 0))) ⟨b, 0, none⟩ (rs.length * 2) := (o1.at 0 rfl).room (by omega)
        rw [← hzs] at this
        exact this
  have o2 := o1.puts 0 (i := 0) (cellsI rs) rfl
  have o3 := o2.puts 0 (i := rs.length * 2) [.int .i64 (-7), .int .i64 7] rfl
  have hL3 : writeAt (writeAt zs 0 (cellsI rs)) (rs.length * 2) [.int .i64 (-7), .int .i64 7] = cellsI rs ++ [.int .i64 (-7), .int .i64 7] := by
    have hc := cellsI_len rs
    apply List.ext_getElem?
    intro k
    rw [writeAt_get _ _ _ _ (by rw [writeAt_len]; simp; omega), writeAt_get _ _ _ _ (by omega)]
    simp only [List.length_cons, List.length_nil]
    by_cases h1 : rs.length * 2 ≤ k ∧ k < rs.length * 2 + (0 + 1 + 1)
    · rw [if_pos h1, List.getElem?_append_right (by omega), hc]
    · rw [if_neg h1]
      by_cases h2 : k < rs.length * 2
      · rw [if_pos (by omega), List.getElem?_append_left (by omega), Nat.sub_zero]
      · rw [if_neg (by omega), List.getElem?_eq_none (by omega), List.getElem?_eq_none (by simp; omega)]
  have hL3' : [(b, zs)].set 0 (b, writeAt zs 0 (cellsI rs)) = [(b, writeAt zs 0 (cellsI rs))] := rfl
  subst hzs
  (conv => whnf)
  refine ⟨_, rfl, by omega, by omega, ?_⟩
  (conv => whnf)
  have ea : ((⟨b, 0, none⟩ : Addr).add ((((rs.length : Nat) : Int)).toNat * (tbl.at 40).size)) = ⟨b, rs.length * 2, none⟩ := by
    rw [add_mk, Nat.zero_add]
    rfl
  refine ⟨by rw [ea]; exact (o2.at 0 rfl).room (by rw [writeAt_len]; show _ + 2 ≤ _; omega), ?_⟩
  have o4 : Own m2 _ [(b, cellsI rs ++ [.int .i64 (-7), .int .i64 7])] := hL3 ▸ o3
  have hslice : (if (((rs.length + 1 : Nat) : Int)).toNat = (0 : Int).toNat then (some ⟨b, 0, none⟩ : Option Addr) else (some (⟨b, 0, none⟩ : Addr)).map fun p => p.add ((0 : Int).toNat * (tbl.at 40).size)) = some ⟨b, 0, none⟩ := by
    rw [if_neg (by simp)]
    show some ((⟨b, 0, none⟩ : Addr).add (0 * 2)) = _
    rw [add_mk]
  have hx : ∀ M, Blk M b (cellsI rs ++ [.int .i64 (-7), .int .i64 7]) → RowR M (some ⟨b, 0, none⟩) rs := fun M hM => .inr ⟨b, 0, rfl, fun k r hk => by
    have hkl := (List.getElem?_eq_some_iff.1 hk).1
    obtain ⟨g1, g2⟩ := cellsI_get rs k r hk
    have hc := cellsI_len rs
    rw [Nat.zero_add]
    exact ⟨hM.cell (by rw [List.getElem?_append_left (by omega)]; exact g1), hM.cell (by rw [List.getElem?_append_left (by omega)]; exact g2)⟩⟩
  (conv => whnf)
  refine ⟨by omega, by omega, by omega, ?_⟩
  (conv => whnf)
  rw [ea]
  have hB4 := o4.at 0 rfl
  have hold4 := o4.old
  have hT4 := hT
  refine FCalls.mono (from_c (rs := rs) (by rw [hslice]; exact hx _ hB4) (by omega)) fun v m5 ⟨h1, F, hF, h2⟩ => ?_
  subst h1
  have key : ∃ e2 : Int, v = .tuple #[wv F, .int .i64 e2] ∧ ((e2 = 1 ∧ rs.any badR = true ∧ ∀ b, b < 256 → has F b = false) ∨ (e2 = 0 ∧ rs.any badR = false ∧ ∀ b, b < 256 → has F b = fromF rs b)) := by
    rcases h2 with ⟨k1, k2, k3⟩ | ⟨k1, k2, k3⟩
    · exact ⟨1, k2, .inl ⟨rfl, k1, k3⟩⟩
    · exact ⟨0, k2, .inr ⟨rfl, k1, k3⟩⟩
  clear h2
  obtain ⟨e2, rfl, hFe⟩ := key
  (conv => whnf)
  refine ⟨_, W_len, rfl, ?_⟩
  (conv => whnf)
  refine ⟨rfl, W_len.symm, W_len.symm, ?_⟩
  (conv => whnf)
  refine FCalls.mono (rfrom_c (rs := rs) (hrM _ hold4) (by omega)) fun v m5 ⟨h1, F', hF', h2⟩ => ?_
  subst h1
  have key : ∃ ok2 : Bool, v = .tuple #[wv F', .bool ok2] ∧ ((e2 = 1 ∧ ok2 = false) ∨ (e2 = 0 ∧ ok2 = true)) ∧ ∀ b, b < 256 → has F b = has F' b := by
    rcases h2 with ⟨k1, k2, k3⟩ | ⟨k1, k2, k3⟩ <;> rcases hFe with ⟨q1, q2, q3⟩ | ⟨q1, q2, q3⟩
    · exact ⟨false, k2, .inl ⟨q1, rfl⟩, fun b hb => by rw [k3 b hb, q3 b hb]⟩
    · rw [k1] at q2; cases q2
    · rw [k1] at q2; cases q2
    · exact ⟨true, k2, .inr ⟨q1, rfl⟩, fun b hb => by rw [k3 b hb, q3 b hb]⟩
  clear h2 hFe
  obtain ⟨ok2, rfl, hok2, hFF⟩ := key
  have eF : (W F == W F') = true := eqW hF hF' hFF
  (conv => whnf)
  refine ⟨_, W_len, rfl, ?_⟩
  (conv => whnf)
  refine ⟨rfl, W_len.symm, W_len.symm, ?_⟩
  (conv => whnf)
  refine ⟨by omega, by omega, by omega, ?_⟩
  (conv => whnf)
  refine FCalls.mono (same_c (xs := rs) (ys := rs) (by rw [hslice]; exact hx _ hB4) (hrM _ hold4) (by omega)) fun v m6 ⟨h1, h2⟩ => ?_
  rw [decide_eq_true (rfl : rs = rs)] at h1
  subst h1 h2
  have hc := cellsI_len rs
  have eb : ∀ k, ((⟨b, 0, none⟩ : Addr).add ((((rs.length : Nat) : Int)).toNat * (tbl.at 40).size)).add k = ⟨b, rs.length * 2 + k, none⟩ := fun k => by
    rw [ea, add_mk]
  have l0 : (cellsI rs ++ [Value.int .i64 (-7), .int .i64 7])[rs.length * 2 + 0]? = some (.int .i64 (-7)) := by rw [List.getElem?_append_right (by omega), hc]; simp
  have l1 : (cellsI rs ++ [Value.int .i64 (-7), .int .i64 7])[rs.length * 2 + (0 + 1)]? = some (.int .i64 7) := by rw [List.getElem?_append_right (by omega), hc]; simp
  rcases hok with ⟨rfl, rfl⟩ | ⟨rfl, rfl⟩ <;> rcases hok2 with ⟨rfl, rfl⟩ | ⟨rfl, rfl⟩
  all_goals
    (conv => whnf)
    refine ⟨rfl, W_len.symm, ?_⟩
    (conv => whnf)
    refine ⟨rfl, W_len.symm, ?_⟩
    (conv => whnf)
    refine ⟨W_len, W_len, ?_⟩
    (conv => whnf)
    refine brk_true (by rw [eR]; rfl) ?_
    (conv => whnf)
    refine ⟨rfl, W_len.symm, ?_⟩
    (conv => whnf)
    refine ⟨rfl, W_len.symm, ?_⟩
    (conv => whnf)
    refine ⟨W_len, W_len, ?_⟩
    (conv => whnf)
    refine brk_true (by rw [eF]; rfl) ?_
    (conv => whnf)
    refine ⟨_, rfl, by omega, by omega, ?_⟩
    (conv => whnf)
    refine ⟨-7, by rw [eb 0]; exact hB4.cell l0, ?_⟩
    (conv => whnf)
    refine ⟨7, by rw [eb (0 + 1)]; exact hB4.cell l1, ?_⟩
    (conv => whnf)
    refine FCalls.mono (of_c ht) fun v m7 ⟨h1, h2⟩ => ?_
    subst h1 h2
    (conv => whnf)
    refine ⟨_, W_len, rfl, ?_⟩
    (conv => whnf)
    refine FCalls.mono (rof_c ht) fun v m8 ⟨h1, O, hv, hO, hOb⟩ => ?_
    subst h1 hv
    have eO : (W (ofG t.data.toList) == W O) = true := eqW (ofG_ok _) hO fun c hc => by rw [ofG_bit, hOb c hc]
    (conv => whnf)
    refine ⟨_, W_len, rfl, ?_⟩
    (conv => whnf)
    refine ⟨W_len, W_len, ?_⟩
    (conv => whnf)
    exact ⟨congrArg Value.bool eO, hold4⟩
end Go.Proofs.YtegeeofjebpgbaaDoor
