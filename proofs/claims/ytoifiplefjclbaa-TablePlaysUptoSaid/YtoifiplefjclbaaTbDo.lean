/- Table: does. -/
import Derived.Test.YtoifiplefjclbaaTbZ
namespace Go.Proofs.Ytoifiplefjclbaa
open Go Go.Mv
set_option maxHeartbeats 2000000
set_option maxRecDepth 10000
set_option linter.unusedVariables false
set_option linter.unusedSimpArgs false
attribute [local irreducible] FCalls IntKind.wrap bits Mem.set Mem.setCell Mem.setCells YCalls
abbrev dj (B : Option Addr) (n d : Nat) (ks : List Int) (K m0 : Mem) (p r w N : Nat) (cs : List Value) (a : Abs) (top : Nat) (l : List RE) : List Asn :=
  [sl B (n + 2) d 1 (ints (ks ++ [71, 72])), tb K p a, kp K, rt K r a.w a.most top l, kp m0, wo w cs N]
theorem does_c {m m0 Ks : Mem} {w N p r c k : Nat} {cs : List Value} {kind val : Int} {A : Option Addr} {ks : List Int} (h : Sep [wo w cs N, tw Ks p r, kp m0] m) (hc : cs.length = 6) (hk : k < 2)
    (hp : cs[k]? = some (.pointer (some ⟨p, 0, none⟩))) (hr : cs[2 + k]? = some (.pointer (some ⟨r, 0, none⟩))) (hA : Ints m0 A ks) (hks : ks.length < 2 ^ 40) :
    FCalls Try.prog 37 [.pointer (some ⟨w, 0, none⟩), .int .i64 ((k : Nat) : Int), .int .i64 kind, .slice A ks.length c, .int .i64 val] m fun v m' => v = .bool true ∧ Sep [wo w cs N, tw Ks p r, kp m0] m' := by
  have hcp : m.cell (((⟨w, 0, none⟩ : Addr).add 0).add (k * 1)) = some (.pointer (some ⟨p, 0, none⟩)) := by
    obtain ⟨m1, h1, h2⟩ := h.get 0 rfl
    rw [add_mk, add_mk, Nat.zero_add, Nat.mul_one]
    exact Mem.le_cell h1 (wo_cell h2 hp)
  have hcr : m.cell (((⟨w, 0, none⟩ : Addr).add 2).add (k * 1)) = some (.pointer (some ⟨r, 0, none⟩)) := by
    obtain ⟨m1, h1, h2⟩ := h.get 0 rfl
    rw [add_mk, add_mk, Nat.zero_add, Nat.mul_one]
    exact Mem.le_cell h1 (wo_cell h2 hr)
  refine fcalls_of_vc (T := tbl) (B := bodies) (pr := [99999]) (DR := (100007, 0) :: dr37) (args := [.v (.pointer (some ⟨w, 0, none⟩)), .v (.int .i64 ((k : Nat) : Int)), .v (.int .i64 kind), .v (.slice A ks.length c), .v (.int .i64 val)]) tbl_ok bodies_ok mixed Try.func37 rfl (by decide +kernel) (by simp [Try.f37]) rfl ?_
  (conv => whnf)
  refine ⟨Int.natCast_nonneg _, by omega, ?_⟩
  (conv => whnf)
  refine ⟨_, hcp, ?_⟩
  (conv => whnf)
  refine ⟨Int.natCast_nonneg _, by omega, ?_⟩
  (conv => whnf)
  refine ⟨_, hcr, ?_⟩
  clear hcp hcr
  (conv => whnf)
  refine FCalls.mono (lent_c (hA.up (h.kept 2 rfl)) hks) ?_
  rintro v m1 ⟨B, d, rfl, h2⟩
  replace h := h.on (N := [_]) h2
  clear h2
  obtain ⟨K, a, top, l, hKs, hT, hF, h⟩ := tw_open (h.move 2 rfl)
  replace h : Sep (dj B ks.length d ks K m0 p r w N cs a top l) m1 := ((((h.move 5 rfl).move 3 rfl).move 3 rfl).move 3 rfl).move 4 rfl
  (conv => whnf)
  refine join_keep [3, 11, 12, 13] (Mem × Mem × Abs × Nat × List RE) (fun _ => [(14, .v (.bool true))]) (fun s => s.1) (fun s => Ks.le s.2.1 ∧ TWr s.2.2.1 s.2.2.2.1 s.2.2.2.2 ∧ AbF s.2.2.1 ∧ Sep (dj B ks.length d ks s.2.1 m0 p r w N cs s.2.2.1 s.2.2.2.1 s.2.2.2.2) s.1) ?_
  (conv => whnf)
  refine ⟨?_, ?_⟩
  · have fin : ∀ {M K a top l}, Ks.le K → TWr a top l → AbF a → Sep (dj B ks.length d ks K m0 p r w N cs a top l) M → Ks.le K ∧ TWr a top l ∧ AbF a ∧ Sep (dj B ks.length d ks K m0 p r w N cs a top l) M := fun h1 h2 h3 h4 => ⟨h1, h2, h3, h4⟩
    have hn := hT.hn
    have hfull := hF.full
    have hmost := hF.most
    have hw1 := hF.w1
    have htm := hT.tm
    refine brk_intro (fun c1 => ?_) (fun c1 => ?_)
    · -- Put
      clear c1
      have g := ((h.move 4 rfl).move 3 rfl).move 4 rfl
      (conv => whnf)
      refine FCalls.mono (rput_c g hA (by omega) (by omega) (by omega) hw1) ?_
      rintro v m2 ⟨code, K1, top1, l1, rfl, hR, hK1, g1⟩
      replace g1 : Sep [rt K1 r a.w a.most top1 l1, kp K1, kp m0, sl B (ks.length + 2) d 1 (ints (ks ++ [71, 72])), tb K p a, wo w cs N] m2 := g1
      have g2 := tb_up (((g1.move 4 rfl).move 2 rfl).move 1 rfl) hK1
      clear g g1
      (conv => whnf)
      refine FCalls.mono (put_t val g2 fun mr hmr => ints_pre (hmr.asn 2 rfl)) ?_
      rintro v m3 ⟨code2, a2, K2, rfl, hP, hK2, g3⟩
      obtain ⟨rfl, hT2, ew, em⟩ := twr_put hT hF hP hR
      replace g3 : Sep [tb K2 p a2, kp K2, rt K1 r a.w a.most top1 l1, kp m0, sl B (ks.length + 2) d 1 (ints (ks ++ [71, 72])), wo w cs N] m3 := g3
      have g4 := (rt_upp g3 2 rfl hK2).move 4 rfl
      rw [← ew, ← em] at g4
      have hF2 := tb_facts g3
      (conv => whnf)
      exact ⟨(m3, K2, a2, top1, l1), le_eq ⟨congrArg (fun z => some (AV.v (.bool z))) (by simp : (code2 == code2) = true), rfl, rfl, rfl, rfl, trivial⟩ rfl rfl rfl, fin (Mem.le_trans hKs (Mem.le_trans hK1 hK2)) hT2 hF2 g4⟩
    · (conv => whnf)
      refine brk_intro (fun c2 => ?_) (fun c2 => ?_)
      · -- Get
        clear c1 c2
        (conv => whnf)
        refine FCalls.mono (rget_c (rt_at h 3 rfl) (h.kept 2 rfl) (hA.up (h.kept 4 rfl)) (by omega) hw1 hT.ents) ?_
        rintro v m2 ⟨rfl, rfl⟩
        have e1 : (if (ks.length : Int) = a.w then a.f ks else none) = a.f ks := by
          split
          · rfl
          · rename_i hne
            cases hf : a.f ks with
            | none => rfl
            | some v => exact absurd (hF.wid ks v hf) hne
        rw [e1]
        obtain ⟨x1, hx1⟩ : ∃ x, x = (a.f ks).getD 0 := ⟨_, rfl⟩
        obtain ⟨x2, hx2⟩ : ∃ x, x = x1 := ⟨_, rfl⟩
        obtain ⟨y1, hy1⟩ : ∃ x, x = (a.f ks).isSome := ⟨_, rfl⟩
        obtain ⟨y2, hy2⟩ : ∃ x, x = y1 := ⟨_, rfl⟩
        rw [← hx1, ← hy1]
        (conv => whnf)
        refine FCalls.mono (get_t ((h.move 2 rfl).move 2 rfl) (ints_pre (h.asn 0 rfl))) ?_
        rintro v m3 ⟨rfl, rfl⟩
        rw [← hx1, ← hy1, ← hx2, ← hy2]
        (conv => whnf)
        refine brk_true (by simp) ?_
        (conv => whnf)
        exact ⟨(m3, K, a, top, l), le_eq ⟨congrArg (fun z => some (AV.v (.bool z))) (by simp : (bif true then (y2 == y2) else false) = true), rfl, rfl, rfl, rfl, trivial⟩ rfl rfl rfl, fin hKs hT hF h⟩
      · (conv => whnf)
        refine brk_intro (fun c3 => ?_) (fun c3 => ?_)
        · -- Drop
          clear c1 c2 c3
          have g := ((h.move 4 rfl).move 3 rfl).move 4 rfl
          (conv => whnf)
          refine FCalls.mono (rdrop_c g hA (by omega) hw1) ?_
          rintro v m2 ⟨bb, l1, rfl, hb1, hb2, g1⟩
          obtain ⟨hb3, hT2⟩ := twr_drop hT hF hb1 hb2
          obtain ⟨bb2, hbb2⟩ : ∃ x, x = bb := ⟨_, rfl⟩
          replace g1 : Sep [rt K r a.w a.most top l1, kp K, kp m0, sl B (ks.length + 2) d 1 (ints (ks ++ [71, 72])), tb K p a, wo w cs N] m2 := g1
          have g2 := ((g1.move 4 rfl).move 2 rfl).move 1 rfl
          have hI := ints_pre (g1.asn 3 rfl)
          clear g g1
          (conv => whnf)
          refine FCalls.mono (drop_t g2 hI) ?_
          rintro v m3 ⟨rfl, hpos, K2, hK2, g3⟩
          rw [← hb3, ← hbb2]
          replace g3 : Sep [tb K2 p { a with f := updF a.f ks none, n := a.n - (if (a.f ks).isSome then 1 else 0) }, kp K2, rt K r a.w a.most top l1, kp m0, sl B (ks.length + 2) d 1 (ints (ks ++ [71, 72])), wo w cs N] m3 := g3
          have hF2 := tb_facts g3
          have g4 := (rt_upp g3 2 rfl hK2).move 4 rfl
          (conv => whnf)
          exact ⟨(m3, K2, _, top, l1), le_eq ⟨congrArg (fun z => some (AV.v (.bool z))) (by simp : (bb2 == bb2) = true), rfl, rfl, rfl, rfl, trivial⟩ rfl rfl rfl, fin (Mem.le_trans hKs hK2) hT2 hF2 g4⟩
        · (conv => whnf)
          refine brk_intro (fun c4 => ?_) (fun c4 => ?_)
          · -- Clear
            clear c1 c2 c3 c4
            have g := (h.move 2 rfl).move 2 rfl
            (conv => whnf)
            refine FCalls.mono (clear_t g) ?_
            rintro v m2 ⟨rfl, K2, hK2, g1⟩
            replace g1 : Sep [tb K2 p { a with f := fun _ => none, n := 0, len := if a.len > 16 then 0 else a.len }, kp K2, sl B (ks.length + 2) d 1 (ints (ks ++ [71, 72])), rt K r a.w a.most top l, kp m0, wo w cs N] m2 := g1
            have hF2 := tb_facts g1
            have g2 := (rt_upp g1 3 rfl hK2).move 3 rfl
            (conv => whnf)
            refine FCalls.mono (rclear_c g2) ?_
            intro v m3 g3
            have g4 := ((g3.move 2 rfl).move 2 rfl).move 3 rfl
            have hT2 : TWr { a with f := fun _ => none, n := 0, len := if a.len > 16 then 0 else a.len } 0 [] := ⟨⟨List.Pairwise.nil, fun k v => ⟨fun h => (by cases h), fun h => by cases h⟩⟩, rfl, Nat.le_refl _, by show ((0 : Nat) : Int) ≤ a.most; omega, by show (if a.len > 16 then 0 else a.len) ≤ 16 + 8 * 0; split <;> omega⟩
            (conv => whnf)
            exact ⟨(m3, K2, _, 0, []), le_eq ⟨rfl, rfl, rfl, rfl, rfl, trivial⟩ rfl rfl rfl, fin (Mem.le_trans hKs hK2) hT2 hF2 g4⟩
          · (conv => whnf)
            exact ⟨(m1, K, a, top, l), le_eq ⟨rfl, rfl, rfl, rfl, rfl, trivial⟩ rfl rfl rfl, fin hKs hT hF h⟩
  · rintro ⟨M, K, a, top, l⟩ ⟨hKs, hT, hF, h⟩
    simp only at hKs hT hF h
    have hn := hT.hn
    have hfull := hF.full
    have hmost := hF.most
    have hhalf := hF.half
    have htm := hT.tm
    (conv => whnf)
    refine FCalls.mono (back_c h (hA.up (h.kept 4 rfl)) hks) ?_
    rintro v m2 ⟨rfl, g⟩
    (conv => whnf)
    refine FCalls.mono (slots_t g) ?_
    rintro v m3 ⟨rfl, rfl⟩
    obtain ⟨⟨BB, cB, hS⟩, _⟩ := rt_at g 2 rfl
    (conv => whnf)
    refine FCalls.mono (refSlots_c (hS.blk 0 rfl) (by omega) (by omega) ?_) ?_
    · rcases hF.pow with h1 | ⟨k, h1, h2⟩
      · exact .inl ⟨h1, by omega⟩
      · exact .inr ⟨k, h1, h2, by omega, hT.hl⟩
    rintro v m4 ⟨rfl, rfl⟩
    have hfin : Sep [wo w cs N, tw Ks p r, kp m0] m4 := by
      exact (tw_shut g hKs hT).move 2 rfl
    (conv => whnf)
    refine ⟨_, len_t g, ?_⟩
    (conv => whnf)
    refine ⟨_, _, _, hS.cell 0 (i := 2) rfl rfl, ?_⟩
    (conv => whnf)
    exact ⟨by simp [single, hn], hfin⟩
end Go.Proofs.Ytoifiplefjclbaa
