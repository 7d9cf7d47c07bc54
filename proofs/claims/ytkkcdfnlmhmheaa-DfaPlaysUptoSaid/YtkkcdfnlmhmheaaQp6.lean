/- Texts that the claim leans on, joined: DfRf, DfRg, DfRh, DfRi, DfRj. -/
import Derived.Test.YtkkcdfnlmhmheaaQp5
/- Dfa: the document's rows. -/
namespace Go.Proofs.Ytkkcdfnlmhmheaa
open Go Go.Mv
set_option maxHeartbeats 8000000
set_option maxRecDepth 10000
set_option linter.unusedVariables false
set_option linter.unusedSimpArgs false
attribute [local irreducible] FCalls IntKind.wrap bits Mem.set Mem.setCell Mem.setCells YCalls RunP NextP RunU
def iv (V : List Int) : List Value := V.map fun v => Value.int .i64 v
theorem iv_get {V : List Int} {k : Nat} (hk : k < V.length) : (iv V)[k]? = some (.int .i64 (V.getD k 0)) := by simp [iv, hk]
theorem iv_set {V : List Int} {k : Nat} {b : Int} : (iv V).set k (.int .i64 b) = iv (V.set k b) := by simp [iv, List.map_set]
theorem ax {b x : Nat} : (⟨b, 0, none⟩ : Addr).add (((x : Nat) : Int).toNat * 1) = ⟨b, x, none⟩ := by
  rw [Int.toNat_natCast, Nat.mul_one, add_mk, Nat.zero_add]
theorem better_c {m : Mem} {a b : Int} : FCalls Try.prog 52 [.int .i64 a, .int .i64 b] m fun v m' => v = .int .i64 (max a b) ∧ m' = m := by
  refine fcalls_of_vc (T := tbl) (B := bodies) (pr := []) (DR := dr52) (args := [.v (.int .i64 a), .v (.int .i64 b)]) tbl_ok bodies_ok mixed Try.func52 rfl (by decide +kernel) (by simp [Try.f52]) rfl ?_
  (conv => whnf)
  refine brk_intro (fun c => ?_) (fun c => ?_)
  · have c : b < a := of_decide_eq_true c
    (conv => whnf)
    exact ⟨by rw [show max a b = a by omega]; rfl, rfl⟩
  · have c : ¬ b < a := of_decide_eq_false c
    (conv => whnf)
    exact ⟨by rw [show max a b = b by omega]; rfl, rfl⟩
/-- A row that is done. -/
noncomputable def rowV (q : Prg) (line : ByteArray) (i : Nat) : List Value := (List.range q.ins.length).map fun k => Value.int .i64 (Gr0 (auOf q) line i k)
def Hd (q : Prg) (line : ByteArray) (K : Mem) (hs : List Value) (j : Nat) : Prop := ∃ b, hs[j]? = some (.slice (some ⟨b, 0, none⟩) q.ins.length q.ins.length) ∧ Rd K (some ⟨b, 0, none⟩) (rowV q line j)
theorem rows_c {m : Mem} {R : List Asn} {q : Prg} {line : ByteArray} (hS : Sep R m) (hq : ∀ M, Sep R M → q.at M) (hg : GoodP q) (hf : freeF q = true) (hU : ∀ i, i ∈ q.ins → ∀ j, 0 ≤ [i.s0, i.s1, i.s2, i.s3].getD j 0) (hls : line.size < 1099511627776) :
    FCalls Try.prog 41 [q.val, .string line] m fun v m' => ∃ rb hs K, v = .slice (some ⟨rb, 0, none⟩) (line.size + 1) (line.size + 1) ∧ Sep (pt rb hs :: kp K :: R) m' ∧ hs.length = line.size + 1 ∧ ∀ j, j ≤ line.size → Hd q line K hs j := by
  have hn1 := hg.n1
  have hn0 := hg.n0
  refine fcalls_of_vc (T := tbl) (B := bodies) (pr := [99999]) (DR := dr41) (args := [.v q.val, .v (.string line)]) tbl_ok bodies_ok mixed Try.func41 rfl (by decide +kernel) (by simp [Try.f41]) rfl ?_
  (conv => whnf)
  intro b2 m1 hb he
  replace hS := hS.new' (l := q.cells) hb he
  clear hb he
  (conv => whnf)
  have w1 : IntKind.i64.wrap (((line.size : Nat) : Int) + 1) = ((line.size + 1 : Nat) : Int) := wrap_id (by omega) (by omega)
  rw [w1]
  refine ⟨by omega, by omega, by show ((line.size + 1 : Nat) : Int) ≤ 9223372036854775807; omega, by show 24 * ((line.size + 1 : Nat) : Int) ≤ 2 ^ 48; omega, fun rb m2 hb he => ?_⟩
  replace hS := hS.new' hb he
  have hz : (zerosOf tbl 86 ((line.size + 1 : Nat) : Int).toNat).list.length = line.size + 1 := by rw [zeros_len (by decide), Int.toNat_natCast]; show (line.size + 1) * 1 = _; omega
  clear hb he
  generalize (zerosOf tbl 86 ((line.size + 1 : Nat) : Int).toNat).list = hs0 at hS hz
  replace hS : Sep (pt rb hs0 :: pt b2 q.cells :: kp Mem.empty :: R) m2 := (Sep.free (A := kp Mem.empty) hS (Mem.le_refl _)).move 1 rfl |>.move 2 rfl |>.move 1 rfl
  (conv => whnf)
  refine loop_keep [1, 2, 5] (Nat × List Value × Mem × Mem) (fun s => [(6, .v (.int .i64 (((s.1 : Nat) : Int) - 1)))]) (fun _ => []) (fun s => s.2.2.2)
    (fun s => Sep (pt rb s.2.1 :: pt b2 q.cells :: kp s.2.2.1 :: R) s.2.2.2 ∧ s.1 ≤ line.size + 1 ∧ s.2.1.length = line.size + 1 ∧ ∀ j, s.1 ≤ j → j ≤ line.size → Hd q line s.2.2.1 s.2.1 j)
    (fun s => s.1) (line.size + 1, hs0, Mem.empty, m2) ⟨by show some (AV.v (.int .i64 ((line.size : Nat) : Int))) = some (.v (.int .i64 (((line.size + 1 : Nat) : Int) - 1))); congr 3; omega, trivial⟩ rfl rfl ⟨hS, Nat.le_refl _, hz, fun j h1 h2 => by simp only at h1; omega⟩ ?_
  clear hS hz
  (conv => whnf)
  refine ⟨rfl, ?_⟩
  rintro ⟨a, hs, K, M⟩ ⟨hS, ha, hz, hH⟩
  simp only at hS ha hz hH
  (conv => whnf)
  refine brk_intro (fun c1 => ?_) (fun c1 => ?_)
  rotate_left
  · have c1 : ¬ (0 : Int) ≤ ((a : Nat) : Int) - 1 := of_decide_eq_false c1
    (conv => whnf)
    exact ⟨rb, hs, K, rfl, hS.drop 1, hz, fun j hj => hH j (by omega) hj⟩
  have c1 : (0 : Int) ≤ ((a : Nat) : Int) - 1 := of_decide_eq_true c1
  obtain ⟨i, rfl⟩ : ∃ i, a = i + 1 := ⟨a - 1, by omega⟩
  have hi : i ≤ line.size := by omega
  have e0 : (((i + 1 : Nat) : Int) - 1) = ((i : Nat) : Int) := by omega
  have w0 : IntKind.i64.wrap (((i : Nat) : Int) - 1) = ((i : Nat) : Int) - 1 := wrap_id (by omega) (by omega)
  clear c1 ha
  rw [e0]
  (conv => whnf)
  refine ⟨_, _, _, hS.cell 1 (i := 0) rfl rfl, ?_⟩
  (conv => whnf)
  refine ⟨by omega, by omega, by show ((q.ins.length : Nat) : Int) ≤ 9223372036854775807; omega, by show 8 * ((q.ins.length : Nat) : Int) ≤ 2 ^ 48; omega, fun vb m3 hb he => ?_⟩
  replace hS := hS.new' (l := iv (List.replicate q.ins.length 0)) hb (he.trans (by rw [show (zerosOf tbl 3 ((q.ins.length : Nat) : Int).toNat).list = iv (List.replicate q.ins.length 0) from by rw [Int.toNat_natCast]; unfold iv; rfl]))
  clear hb he
  (conv => whnf)
  refine loop_keep [1, 2, 5, 6, 7] (Nat × List Int × Mem) (fun s => [(8, .v (.int .i64 ((s.1 : Nat) : Int)))]) (fun _ => []) (fun s => s.2.2)
    (fun s => Sep (pt vb (iv s.2.1) :: pt rb hs :: pt b2 q.cells :: kp K :: R) s.2.2 ∧ s.1 ≤ q.ins.length ∧ s.2.1.length = q.ins.length ∧ ∀ k, k < s.1 → s.2.1.getD k 0 = -1)
    (fun s => q.ins.length - s.1) (0, List.replicate q.ins.length 0, m3) ⟨rfl, trivial⟩ rfl rfl ⟨hS, by omega, by simp, fun k hk => by simp only at hk; omega⟩ ?_
  clear hS
  (conv => whnf)
  refine ⟨rfl, ?_⟩
  rintro ⟨j, V, M⟩ ⟨hS, hj, hVl, hV⟩
  simp only at hS hj hVl hV
  (conv => whnf)
  refine brk_intro (fun c2 => ?_) (fun c2 => ?_)
  · have c2 : ((j : Nat) : Int) < ((q.ins.length : Nat) : Int) := of_decide_eq_true c2
    have wj : IntKind.i64.wrap ((j : Int) + 1) = ((j + 1 : Nat) : Int) := wrap_id (by omega) (by omega)
    (conv => whnf)
    refine ⟨_, rfl, by omega, by show ((j : Nat) : Int) < ((q.ins.length : Nat) : Int); omega, ?_⟩
    (conv => whnf)
    refine ⟨by show (∃ u, M.cell ((⟨vb, 0, none⟩ : Addr).add (((j : Nat) : Int).toNat * 1)) = some u) ∧ M.fz ((⟨vb, 0, none⟩ : Addr).add (((j : Nat) : Int).toNat * 1)) = false; rw [ax]; exact hS.room 0 (i := j) rfl (iv_get (by omega)), fun m5 he => ?_⟩
    replace he : m5 = M.setCell ⟨vb, j, none⟩ (.int .i64 (-1)) := he.trans (congrArg (fun a => M.setCell a (.int .i64 (-1))) ax)
    replace hS := hS.put' 0 (i := j) he rfl
    rw [iv_set] at hS
    clear he
    (conv => whnf)
    exact ⟨(j + 1, V.set j (-1), m5), le_eq ⟨by show some (AV.v (.int .i64 (IntKind.i64.wrap ((j : Int) + 1)))) = _; rw [wj], rfl, rfl, rfl, rfl, rfl, trivial⟩ rfl rfl rfl, ⟨hS, by simp only; omega, by rw [List.length_set]; exact hVl, fun k hk => by
      simp only at hk ⊢
      rw [getD_set (by omega)]
      split
      · rfl
      · exact hV k (by omega)⟩, by simp only; omega⟩
  have c2 : ¬ ((j : Nat) : Int) < ((q.ins.length : Nat) : Int) := of_decide_eq_false c2
  obtain rfl : j = q.ins.length := by omega
  have hR0 : Rw q line i V := ⟨hVl, fun k hk => by rw [hV k hk]; omega, fun k hk => by rw [hV k hk]; exact gmax_ge _⟩
  clear hV hVl hj c2
  (conv => whnf)
  refine loop_keep [1, 2, 5, 6, 7] (List Int × Bool × Mem) (fun s => [(9, .v (.bool s.2.1))]) (fun _ => []) (fun s => s.2.2)
    (fun s => Sep (pt vb (iv s.1) :: pt rb hs :: pt b2 q.cells :: kp K :: R) s.2.2 ∧ Rw q line i s.1 ∧ (s.2.1 = false → ∀ k, k < q.ins.length → ∃ b, Bs q line i k s.1 b ∧ b ≤ s.1.getD k 0))
    (fun s => 2 * rest line s.1 + s.2.1.toNat) (V, true, M) ⟨rfl, trivial⟩ rfl rfl ⟨hS, hR0, fun h => by cases h⟩ ?_
  clear hS hR0
  (conv => whnf)
  refine ⟨rfl, ?_⟩
  rintro ⟨V, gw, M⟩ ⟨hS, hV, hfull⟩
  simp only at hS hV hfull
  (conv => whnf)
  refine brk_intro (fun c2 => ?_) (fun c2 => ?_)
  rotate_left
  · replace c2 : gw = false := c2
    subst c2
    have hG := hV.full hg hi (hfull rfl)
    have hiv : iv V = rowV q line i := by
      unfold iv rowV
      apply List.ext_getElem?
      intro k
      rcases Nat.lt_or_ge k q.ins.length with h | h
      · have h1 := hG k h
        rw [← hV.len] at h
        have h2 : V.getD k 0 = V[k] := by simp [List.getD, h]
        rw [h2] at h1
        have h3 : k < q.ins.length := by rw [← hV.len]; exact h
        simp [h, h3, h1]
      · rw [List.getElem?_eq_none (by rw [List.length_map, hV.len]; exact h), List.getElem?_eq_none (by simpa using h)]
    obtain ⟨ov, hov⟩ : ∃ v, hs[i]? = some v := ⟨_, List.getElem?_eq_getElem (by omega)⟩
    (conv => whnf)
    refine ⟨_, rfl, by omega, by show ((i : Nat) : Int) < ((line.size + 1 : Nat) : Int); omega, ?_⟩
    (conv => whnf)
    refine ⟨by show (∃ u, M.cell ((⟨rb, 0, none⟩ : Addr).add (((i : Nat) : Int).toNat * 1)) = some u) ∧ M.fz ((⟨rb, 0, none⟩ : Addr).add (((i : Nat) : Int).toNat * 1)) = false; rw [ax]; exact hS.room 1 (i := i) rfl hov, fun m5 he => ?_⟩
    replace he : m5 = M.setCell ⟨rb, i, none⟩ (.slice (some ⟨vb, 0, none⟩) q.ins.length q.ins.length) := he.trans (congrArg (fun a => M.setCell a (.slice (some ⟨vb, 0, none⟩) q.ins.length q.ins.length)) ax)
    replace hS := hS.put' 1 (i := i) he rfl
    clear he
    obtain ⟨K', hK', hr, h1⟩ := freeze_pt (((hS.move 3 rfl).move 1 rfl : Sep (pt vb (iv V) :: kp K :: pt rb (hs.set i (.slice (some ⟨vb, 0, none⟩) q.ins.length q.ins.length)) :: pt b2 q.cells :: R) m5))
    replace hS : Sep (pt rb (hs.set i (.slice (some ⟨vb, 0, none⟩) q.ins.length q.ins.length)) :: pt b2 q.cells :: kp K' :: R) m5 := (h1.move 2 rfl).move 2 rfl
    clear h1
    rw [hiv] at hr
    (conv => whnf)
    refine ⟨(i, hs.set i (.slice (some ⟨vb, 0, none⟩) q.ins.length q.ins.length), K', m5), le_eq ⟨by show some (AV.v (.int .i64 (IntKind.i64.wrap ((i : Int) - 1)))) = _; rw [w0], rfl, rfl, rfl, trivial⟩ rfl rfl rfl, ⟨hS, by simp only; omega, by rw [List.length_set]; exact hz, fun j h1 h2 => ?_⟩, by simp only; omega⟩
    simp only at h1 h2 ⊢
    by_cases hj : j = i
    · subst hj
      exact ⟨vb, by rw [List.getElem?_set_self (by omega)], hr⟩
    · obtain ⟨b, h3, h4⟩ := hH j (by omega) h2
      exact ⟨b, by rw [List.getElem?_set_ne (Ne.symm hj)]; exact h3, h4.more hK'⟩
  replace c2 : gw = true := c2
  subst c2
  (conv => whnf)
  have wn : IntKind.i64.wrap (((q.ins.length : Nat) : Int) - 1) = ((q.ins.length : Nat) : Int) - 1 := wrap_id (by omega) (by omega)
  refine loop_keep [1, 2, 5, 6, 7] (Nat × List Int × Bool × Mem) (fun s => [(10, .v (.int .i64 (((s.1 : Nat) : Int) - 1))), (9, .v (.bool s.2.2.1))]) (fun _ => []) (fun s => s.2.2.2)
    (fun s => Sep (pt vb (iv s.2.1) :: pt rb hs :: pt b2 q.cells :: kp K :: R) s.2.2.2 ∧ s.1 ≤ q.ins.length ∧ Rw q line i s.2.1 ∧ (s.2.2.1 = false → s.2.1 = V ∧ ∀ k, s.1 ≤ k → k < q.ins.length → ∃ b, Bs q line i k V b ∧ b ≤ V.getD k 0) ∧ (s.2.2.1 = true → rest line s.2.1 < rest line V))
    (fun s => s.1) (q.ins.length, V, false, M) ⟨by show some (AV.v (.int .i64 (IntKind.i64.wrap (((q.ins.length : Nat) : Int) - 1)))) = _; rw [wn], rfl, trivial⟩ rfl rfl ⟨hS, Nat.le_refl _, hV, fun _ => ⟨rfl, fun k h1 h2 => by simp only at h1; omega⟩, fun h => by cases h⟩ ?_
  clear hS
  (conv => whnf)
  refine ⟨rfl, ?_⟩
  rintro ⟨c, V', gw, M⟩ ⟨hS, hc, hV', hF, hT⟩
  simp only at hS hc hV' hF hT
  (conv => whnf)
  refine brk_intro (fun c3 => ?_) (fun c3 => ?_)
  rotate_left
  · have c3 : ¬ (0 : Int) ≤ ((c : Nat) : Int) - 1 := of_decide_eq_false c3
    obtain rfl : c = 0 := by omega
    (conv => whnf)
    refine ⟨(V', gw, M), le_eq ⟨rfl, rfl, rfl, rfl, rfl, rfl, trivial⟩ rfl rfl rfl, ⟨hS, hV', fun h => ?_⟩, ?_⟩
    · obtain ⟨rfl, h2⟩ := hF h
      exact fun k hk => h2 k (Nat.zero_le _) hk
    · show 2 * rest line V' + gw.toNat < 2 * rest line V + 1
      cases gw with
      | false => rw [(hF rfl).1]; simp
      | true =>
        have := hT rfl
        simp only [Bool.toNat_true]
        omega
  have c3 : (0 : Int) ≤ ((c : Nat) : Int) - 1 := of_decide_eq_true c3
  obtain ⟨k, rfl⟩ : ∃ k, c = k + 1 := ⟨c - 1, by omega⟩
  have hk : k < q.ins.length := by omega
  have ek : (((k + 1 : Nat) : Int) - 1) = ((k : Nat) : Int) := by omega
  have wk : IntKind.i64.wrap (((k : Nat) : Int) - 1) = ((k : Nat) : Int) - 1 := wrap_id (by omega) (by omega)
  clear c3
  rw [ek]
  obtain ⟨⟨op, ix, iy, i_n, mn, mx, s0, s1, s2, s3⟩, hi2⟩ : ∃ i, q.ins[k]? = some i := ⟨_, List.getElem?_eq_getElem hk⟩
  obtain ⟨pi, hpi, hci⟩ := ins_at (hq _ ((((hS.drop 0).drop 0).drop 0).drop 0)) hi2
  (conv => whnf)
  refine ⟨_, _, _, hS.cell 2 (i := 0) rfl rfl, ?_⟩
  (conv => whnf)
  refine ⟨pi, hpi, by omega, by show ((k : Nat) : Int) < ((q.ins.length : Nat) : Int); omega, ?_⟩
  (conv => whnf)
  refine ⟨_, hci 0 _ rfl, ?_⟩
  (conv => whnf)
  refine ⟨_, hci 1 _ rfl, ?_⟩
  (conv => whnf)
  refine ⟨_, hci 2 _ rfl, ?_⟩
  (conv => whnf)
  refine ⟨_, hci 3 _ rfl, ?_⟩
  (conv => whnf)
  refine ⟨_, hci 4 _ rfl, ?_⟩
  (conv => whnf)
  refine ⟨_, hci 5 _ rfl, ?_⟩
  (conv => whnf)
  refine ⟨_, hci 6 _ rfl, ?_⟩
  (conv => whnf)
  refine ⟨_, hci 7 _ rfl, ?_⟩
  (conv => whnf)
  refine ⟨_, hci 8 _ rfl, ?_⟩
  (conv => whnf)
  refine ⟨_, hci 9 _ rfl, ?_⟩
  clear hci hpi
  (conv => whnf)
  intro bi m9 hb he
  replace hS := hS.new' (l := (tbl.at 46).zero.list) hb he
  clear hb he
  (conv => whnf)
  refine ⟨hS.rooms 0 (i := 0) rfl (by decide), fun m10 he => ?_⟩
  replace hS : Sep (pt bi (Ins.cells ⟨op, ix, iy, i_n, mn, mx, s0, s1, s2, s3⟩) :: pt vb (iv V') :: pt rb hs :: pt b2 q.cells :: kp K :: R) m10 := he ▸ hS.putAll 0 (i := 0) (Ins.cells ⟨op, ix, iy, i_n, mn, mx, s0, s1, s2, s3⟩) rfl
  clear he
  have hVl := hV'.len
  obtain ⟨f1, f2, f3⟩ := fine_x (hg.ok k hk) hi2
  have hsc0 : (auOf q).sc (decide (i = 0)) (decide (i = line.size)) k = if op = 2 then [ix.toNat, iy.toNat] else if op = 3 then [ix.toNat] else if op = 4 then (if decide (i = 0) then [k + 1] else []) else if op = 5 then (if decide (i = line.size) then [k + 1] else []) else if op = 6 ∨ op = 7 then [k + 1] else [] := by
    unfold auOf
    simp only [hi2]
  have hM : (auOf q).isM k = decide (op = 11) := by unfold auOf; simp only [hi2]
  have hB : (auOf q).isB k = decide (op = 1) := by unfold auOf; simp only [hi2]
  have hH2 : ∀ z, (auOf q).hs k z = bitOf ⟨op, ix, iy, i_n, mn, mx, s0, s1, s2, s3⟩ z := fun z => by unfold auOf; simp only [hi2]
  have hUx := hU _ (List.mem_of_getElem? hi2)
  have hLo : Lo (auOf q) line i k = if op = 11 then (i : Int) else if op = 1 ∧ i < line.size ∧ bitOf ⟨op, ix, iy, i_n, mn, mx, s0, s1, s2, s3⟩ (line.data.toList.getD i 0).toNat = true then Gr0 (auOf q) line (i + 1) (k + 1) else -1 := by
    unfold Lo
    rw [hM, hB, hH2]
    simp only [decide_eq_true_eq, Bool.and_eq_true]
  have wk1 : IntKind.i64.wrap ((k : Int) + 1) = ((k + 1 : Nat) : Int) := wrap_id (by omega) (by omega)
  have wi1 : IntKind.i64.wrap ((i : Int) + 1) = ((i + 1 : Nat) : Int) := wrap_id (by omega) (by omega)
  have hfo := free_ops hg hf hi2
  have hstep : ∀ b : Int, Bs q line i k V' b → (V'.getD k 0 < b → Rw q line i (V'.set k b) ∧ rest line (V'.set k b) < rest line V') := fun b hb hlt => by
    have := hb.le hg hk hi hV'
    exact ⟨hV'.set hk hlt this, rest_set (by omega) hlt (Int.le_trans this (gr_top hi))⟩
  have hge : ∀ j, j ∈ (auOf q).sc (decide (i = 0)) (decide (i = line.size)) k → -1 ≤ V'.getD j 0 := fun j hj => hV'.ge j (sc_lt hg hj)
  simp only at f1 f2 f3 hfo
  clear hi2
  (conv => whnf)
  have k0 := hS.cell 0 (i := 0) rfl rfl
  refine ⟨_, k0, ?_⟩
  (conv => whnf)
  rcases hfo with rfl | rfl | rfl | rfl | rfl | rfl | rfl | rfl
  · (conv => whnf)
    by_cases hl : i < line.size
    · refine brk_true (by simp; omega) ?_
      (conv => whnf)
      refine ⟨[s0, s1, s2, s3], rfl, fun k hk => ?_, ?_⟩
      · rcases (show k = 0 ∨ k = 1 ∨ k = 2 ∨ k = 3 by omega) with rfl | rfl | rfl | rfl
        · exact hS.cell 0 (i := 6) rfl rfl
        · exact hS.cell 0 (i := 7) rfl rfl
        · exact hS.cell 0 (i := 8) rfl rfl
        · exact hS.cell 0 (i := 9) rfl rfl
      (conv => whnf)
      refine ⟨by show (0 : Int) ≤ ((i : Nat) : Int); omega, by show ((i : Nat) : Int) < ((line.size : Nat) : Int); omega, ?_⟩
      (conv => whnf)
      rw [show IntKind.i64.wrap (bt line ((i : Nat) : Int)) = (((line.data.toList.getD i 0).toNat : Nat) : Int) from bt_wrap]
      refine ⟨_, in_c (i := ⟨1, ix, iy, i_n, mn, mx, s0, s1, s2, s3⟩) (c := (line.data.toList.getD i 0).toNat) (UInt8.toNat_lt _) hUx, ?_⟩
      (conv => whnf)
      refine brk_intro (fun c4 => ?_) (fun c4 => ?_)
      · replace c4 : bitOf ⟨1, ix, iy, i_n, mn, mx, s0, s1, s2, s3⟩ (line.data.toList.getD i 0).toNat = true := c4
        have hk1 : k + 1 < q.ins.length := f3 (by simp)
        obtain ⟨b6, hb6, hr6⟩ := hH (i + 1) (by omega) (by omega)
        obtain ⟨p6, hp6, hc6⟩ := (hr6.more (hS.kept 4 rfl)).at (k := k + 1) (v := .int .i64 (Gr0 (auOf q) line (i + 1) (k + 1))) (by unfold rowV; simp [hk1])
        (conv => whnf)
        rw [wi1]
        refine ⟨_, rfl, by omega, by show ((i + 1 : Nat) : Int) < ((line.size + 1 : Nat) : Int); omega, ?_⟩
        (conv => whnf)
        refine ⟨_, _, _, by show Mem.cell _ ((⟨rb, 0, none⟩ : Addr).add (((i + 1 : Nat) : Int).toNat * 1)) = _; rw [ax]; exact hS.cell 2 (i := i + 1) rfl hb6, ?_⟩
        (conv => whnf)
        rw [wk1]
        refine ⟨_, hp6, by omega, by show ((k + 1 : Nat) : Int) < ((q.ins.length : Nat) : Int); omega, ?_⟩
        (conv => whnf)
        refine ⟨_, by show Mem.cell _ (p6.add (((k + 1 : Nat) : Int).toNat * 1)) = _; rw [Int.toNat_natCast, Nat.mul_one]; exact hc6, ?_⟩
        have hsc : (auOf q).sc (decide (i = 0)) (decide (i = line.size)) k = [] := hsc0.trans (by simp)
        have hb : Bs q line i k V' (Gr0 (auOf q) line (i + 1) (k + 1)) := by
          have h1 := hLo.trans ((if_neg (by decide)).trans (if_pos ⟨rfl, hl, c4⟩))
          refine ⟨.inr (.inl h1.symm), by rw [h1]; exact Int.le_refl _, fun y hy => ?_⟩
          rw [hsc] at hy
          cases hy
        (conv => whnf)
        refine ⟨_, rfl, by omega, by show ((k : Nat) : Int) < ((q.ins.length : Nat) : Int); omega, ?_⟩
        (conv => whnf)
        refine ⟨_, by show Mem.cell _ ((⟨vb, 0, none⟩ : Addr).add (((k : Nat) : Int).toNat * 1)) = _; rw [ax]; exact hS.cell 1 (i := k) rfl (iv_get (by omega)), ?_⟩
        (conv => whnf)
        refine brk_intro (fun c4 => ?_) (fun c4 => ?_)
        · have c4 : V'.getD k 0 < Gr0 (auOf q) line (i + 1) (k + 1) := of_decide_eq_true c4
          obtain ⟨h1, h2⟩ := hstep _ hb c4
          (conv => whnf)
          refine ⟨_, rfl, by omega, by show ((k : Nat) : Int) < ((q.ins.length : Nat) : Int); omega, ?_⟩
          (conv => whnf)
          refine ⟨by show (∃ u, Mem.cell _ ((⟨vb, 0, none⟩ : Addr).add (((k : Nat) : Int).toNat * 1)) = some u) ∧ Mem.fz _ ((⟨vb, 0, none⟩ : Addr).add (((k : Nat) : Int).toNat * 1)) = false; rw [ax]; exact hS.room 1 (i := k) rfl (iv_get (by omega)), fun m15 he => ?_⟩
          replace he := he.trans (congrArg (fun a => Mem.setCell _ a (.int .i64 (Gr0 (auOf q) line (i + 1) (k + 1)))) ax)
          replace hS := hS.put' 1 (i := k) he rfl
          rw [iv_set] at hS
          clear he
          (conv => whnf)
          exact ⟨(k, V'.set k (Gr0 (auOf q) line (i + 1) (k + 1)), true, m15), le_eq ⟨by show some (AV.v (.int .i64 (IntKind.i64.wrap ((k : Int) - 1)))) = _; rw [wk], rfl, rfl, rfl, rfl, rfl, rfl, trivial⟩ rfl rfl rfl, ⟨hS.drop 0, by simp only; omega, h1, fun h => (by cases h), fun _ => by
            cases gw with
            | false =>
              have h3 := (hF rfl).1
              rw [h3] at h2
              rw [← h3] at h2 ⊢
              rw [h3] at h2 ⊢
              exact h2
            | true => exact Nat.lt_trans h2 (hT rfl)⟩, by simp only; omega⟩
        · have c4 : ¬ V'.getD k 0 < Gr0 (auOf q) line (i + 1) (k + 1) := of_decide_eq_false c4
          (conv => whnf)
          exact ⟨(k, V', gw, m10), le_eq ⟨by show some (AV.v (.int .i64 (IntKind.i64.wrap ((k : Int) - 1)))) = _; rw [wk], rfl, rfl, rfl, rfl, rfl, rfl, trivial⟩ rfl rfl rfl, ⟨hS.drop 0, by simp only; omega, hV', fun h => by
            obtain ⟨h1, h2⟩ := hF h
            refine ⟨h1, fun j h3 h4 => ?_⟩
            simp only at h3
            by_cases hj : j = k
            · subst hj
              rw [← h1]
              exact ⟨_, hb, by omega⟩
            · exact h2 j (by omega) h4, hT⟩, by simp only; omega⟩
      · replace c4 : bitOf ⟨1, ix, iy, i_n, mn, mx, s0, s1, s2, s3⟩ (line.data.toList.getD i 0).toNat = false := c4
        (conv => whnf)
        have hsc : (auOf q).sc (decide (i = 0)) (decide (i = line.size)) k = [] := hsc0.trans (by simp)
        have hb : Bs q line i k V' (-1) := by
          refine ⟨.inl rfl, ?_, fun y hy => ?_⟩
          · rw [show Lo (auOf q) line i k = -1 from hLo.trans ((if_neg (by decide)).trans (if_neg (by rintro ⟨_, _, h⟩; rw [c4] at h; cases h)))]
            exact Int.le_refl _
          · rw [hsc] at hy
            cases hy
        (conv => whnf)
        refine ⟨_, rfl, by omega, by show ((k : Nat) : Int) < ((q.ins.length : Nat) : Int); omega, ?_⟩
        (conv => whnf)
        refine ⟨_, by show Mem.cell _ ((⟨vb, 0, none⟩ : Addr).add (((k : Nat) : Int).toNat * 1)) = _; rw [ax]; exact hS.cell 1 (i := k) rfl (iv_get (by omega)), ?_⟩
        (conv => whnf)
        refine brk_intro (fun c4 => ?_) (fun c4 => ?_)
        · have c4 : V'.getD k 0 < -1 := of_decide_eq_true c4
          obtain ⟨h1, h2⟩ := hstep _ hb c4
          (conv => whnf)
          refine ⟨_, rfl, by omega, by show ((k : Nat) : Int) < ((q.ins.length : Nat) : Int); omega, ?_⟩
          (conv => whnf)
          refine ⟨by show (∃ u, Mem.cell _ ((⟨vb, 0, none⟩ : Addr).add (((k : Nat) : Int).toNat * 1)) = some u) ∧ Mem.fz _ ((⟨vb, 0, none⟩ : Addr).add (((k : Nat) : Int).toNat * 1)) = false; rw [ax]; exact hS.room 1 (i := k) rfl (iv_get (by omega)), fun m15 he => ?_⟩
          replace he := he.trans (congrArg (fun a => Mem.setCell _ a (.int .i64 (-1))) ax)
          replace hS := hS.put' 1 (i := k) he rfl
          rw [iv_set] at hS
          clear he
          (conv => whnf)
          exact ⟨(k, V'.set k (-1), true, m15), le_eq ⟨by show some (AV.v (.int .i64 (IntKind.i64.wrap ((k : Int) - 1)))) = _; rw [wk], rfl, rfl, rfl, rfl, rfl, rfl, trivial⟩ rfl rfl rfl, ⟨hS.drop 0, by simp only; omega, h1, fun h => (by cases h), fun _ => by
            cases gw with
            | false =>
              have h3 := (hF rfl).1
              rw [h3] at h2
              rw [← h3] at h2 ⊢
              rw [h3] at h2 ⊢
              exact h2
            | true => exact Nat.lt_trans h2 (hT rfl)⟩, by simp only; omega⟩
        · have c4 : ¬ V'.getD k 0 < -1 := of_decide_eq_false c4
          (conv => whnf)
          exact ⟨(k, V', gw, m10), le_eq ⟨by show some (AV.v (.int .i64 (IntKind.i64.wrap ((k : Int) - 1)))) = _; rw [wk], rfl, rfl, rfl, rfl, rfl, rfl, trivial⟩ rfl rfl rfl, ⟨hS.drop 0, by simp only; omega, hV', fun h => by
            obtain ⟨h1, h2⟩ := hF h
            refine ⟨h1, fun j h3 h4 => ?_⟩
            simp only at h3
            by_cases hj : j = k
            · subst hj
              rw [← h1]
              exact ⟨_, hb, by omega⟩
            · exact h2 j (by omega) h4, hT⟩, by simp only; omega⟩
    · refine brk_false (by simp; omega) ?_
      (conv => whnf)
      have hsc : (auOf q).sc (decide (i = 0)) (decide (i = line.size)) k = [] := hsc0.trans (by simp)
      have hb : Bs q line i k V' (-1) := by
        refine ⟨.inl rfl, ?_, fun y hy => ?_⟩
        · rw [show Lo (auOf q) line i k = -1 from hLo.trans ((if_neg (by decide)).trans (if_neg (by rintro ⟨_, h, _⟩; exact hl h)))]
          exact Int.le_refl _
        · rw [hsc] at hy
          cases hy
      (conv => whnf)
      refine ⟨_, rfl, by omega, by show ((k : Nat) : Int) < ((q.ins.length : Nat) : Int); omega, ?_⟩
      (conv => whnf)
      refine ⟨_, by show Mem.cell _ ((⟨vb, 0, none⟩ : Addr).add (((k : Nat) : Int).toNat * 1)) = _; rw [ax]; exact hS.cell 1 (i := k) rfl (iv_get (by omega)), ?_⟩
      (conv => whnf)
      refine brk_intro (fun c4 => ?_) (fun c4 => ?_)
      · have c4 : V'.getD k 0 < -1 := of_decide_eq_true c4
        obtain ⟨h1, h2⟩ := hstep _ hb c4
        (conv => whnf)
        refine ⟨_, rfl, by omega, by show ((k : Nat) : Int) < ((q.ins.length : Nat) : Int); omega, ?_⟩
        (conv => whnf)
        refine ⟨by show (∃ u, Mem.cell _ ((⟨vb, 0, none⟩ : Addr).add (((k : Nat) : Int).toNat * 1)) = some u) ∧ Mem.fz _ ((⟨vb, 0, none⟩ : Addr).add (((k : Nat) : Int).toNat * 1)) = false; rw [ax]; exact hS.room 1 (i := k) rfl (iv_get (by omega)), fun m15 he => ?_⟩
        replace he := he.trans (congrArg (fun a => Mem.setCell _ a (.int .i64 (-1))) ax)
        replace hS := hS.put' 1 (i := k) he rfl
        rw [iv_set] at hS
        clear he
        (conv => whnf)
        exact ⟨(k, V'.set k (-1), true, m15), le_eq ⟨by show some (AV.v (.int .i64 (IntKind.i64.wrap ((k : Int) - 1)))) = _; rw [wk], rfl, rfl, rfl, rfl, rfl, rfl, trivial⟩ rfl rfl rfl, ⟨hS.drop 0, by simp only; omega, h1, fun h => (by cases h), fun _ => by
          cases gw with
          | false =>
            have h3 := (hF rfl).1
            rw [h3] at h2
            rw [← h3] at h2 ⊢
            rw [h3] at h2 ⊢
            exact h2
          | true => exact Nat.lt_trans h2 (hT rfl)⟩, by simp only; omega⟩
      · have c4 : ¬ V'.getD k 0 < -1 := of_decide_eq_false c4
        (conv => whnf)
        exact ⟨(k, V', gw, m10), le_eq ⟨by show some (AV.v (.int .i64 (IntKind.i64.wrap ((k : Int) - 1)))) = _; rw [wk], rfl, rfl, rfl, rfl, rfl, rfl, trivial⟩ rfl rfl rfl, ⟨hS.drop 0, by simp only; omega, hV', fun h => by
          obtain ⟨h1, h2⟩ := hF h
          refine ⟨h1, fun j h3 h4 => ?_⟩
          simp only at h3
          by_cases hj : j = k
          · subst hj
            rw [← h1]
            exact ⟨_, hb, by omega⟩
          · exact h2 j (by omega) h4, hT⟩, by simp only; omega⟩
  · obtain ⟨g1, g2, g3, g4⟩ := f1 rfl
    obtain ⟨nx, rfl⟩ : ∃ n : Nat, ix = (n : Int) := ⟨ix.toNat, by omega⟩
    obtain ⟨ny, rfl⟩ : ∃ n : Nat, iy = (n : Int) := ⟨iy.toNat, by omega⟩
    (conv => whnf)
    refine ⟨_, hS.cell 0 (i := 1) rfl rfl, ?_⟩
    (conv => whnf)
    refine ⟨_, rfl, by omega, by show ((nx : Nat) : Int) < ((q.ins.length : Nat) : Int); omega, ?_⟩
    (conv => whnf)
    refine ⟨_, by show Mem.cell _ ((⟨vb, 0, none⟩ : Addr).add (((nx : Nat) : Int).toNat * 1)) = _; rw [ax]; exact hS.cell 1 (i := nx) rfl (iv_get (by omega)), ?_⟩
    (conv => whnf)
    refine ⟨_, hS.cell 0 (i := 2) rfl rfl, ?_⟩
    (conv => whnf)
    refine ⟨_, rfl, by omega, by show ((ny : Nat) : Int) < ((q.ins.length : Nat) : Int); omega, ?_⟩
    (conv => whnf)
    refine ⟨_, by show Mem.cell _ ((⟨vb, 0, none⟩ : Addr).add (((ny : Nat) : Int).toNat * 1)) = _; rw [ax]; exact hS.cell 1 (i := ny) rfl (iv_get (by omega)), ?_⟩
    (conv => whnf)
    refine ⟨_, better_c, ?_⟩
    have hsc : (auOf q).sc (decide (i = 0)) (decide (i = line.size)) k = [nx, ny] := hsc0.trans (by simp)
    have hb : Bs q line i k V' (max (V'.getD nx 0) (V'.getD ny 0)) := by
      have hj := hge nx (by rw [hsc]; simp)
      refine ⟨.inr (.inr ?_), ?_, fun y hy => ?_⟩
      · rcases Int.le_total (V'.getD nx 0) (V'.getD ny 0) with h | h
        · exact ⟨ny, by rw [hsc]; simp, by omega⟩
        · exact ⟨nx, by rw [hsc]; simp, by omega⟩
      · rw [show Lo (auOf q) line i k = -1 from hLo.trans (by rw [if_neg (by decide), if_neg (by rintro ⟨h, _⟩; exact absurd h (by decide))])]
        omega
      · rw [hsc] at hy
        simp only [List.mem_cons, List.not_mem_nil, or_false] at hy
        rcases hy with rfl | rfl <;> omega
    (conv => whnf)
    refine ⟨_, rfl, by omega, by show ((k : Nat) : Int) < ((q.ins.length : Nat) : Int); omega, ?_⟩
    (conv => whnf)
    refine ⟨_, by show Mem.cell _ ((⟨vb, 0, none⟩ : Addr).add (((k : Nat) : Int).toNat * 1)) = _; rw [ax]; exact hS.cell 1 (i := k) rfl (iv_get (by omega)), ?_⟩
    (conv => whnf)
    refine brk_intro (fun c4 => ?_) (fun c4 => ?_)
    · have c4 : V'.getD k 0 < max (V'.getD nx 0) (V'.getD ny 0) := of_decide_eq_true c4
      obtain ⟨h1, h2⟩ := hstep _ hb c4
      (conv => whnf)
      refine ⟨_, rfl, by omega, by show ((k : Nat) : Int) < ((q.ins.length : Nat) : Int); omega, ?_⟩
      (conv => whnf)
      refine ⟨by show (∃ u, Mem.cell _ ((⟨vb, 0, none⟩ : Addr).add (((k : Nat) : Int).toNat * 1)) = some u) ∧ Mem.fz _ ((⟨vb, 0, none⟩ : Addr).add (((k : Nat) : Int).toNat * 1)) = false; rw [ax]; exact hS.room 1 (i := k) rfl (iv_get (by omega)), fun m15 he => ?_⟩
      replace he := he.trans (congrArg (fun a => Mem.setCell _ a (.int .i64 (max (V'.getD nx 0) (V'.getD ny 0)))) ax)
      replace hS := hS.put' 1 (i := k) he rfl
      rw [iv_set] at hS
      clear he
      (conv => whnf)
      exact ⟨(k, V'.set k (max (V'.getD nx 0) (V'.getD ny 0)), true, m15), le_eq ⟨by show some (AV.v (.int .i64 (IntKind.i64.wrap ((k : Int) - 1)))) = _; rw [wk], rfl, rfl, rfl, rfl, rfl, rfl, trivial⟩ rfl rfl rfl, ⟨hS.drop 0, by simp only; omega, h1, fun h => (by cases h), fun _ => by
        cases gw with
        | false =>
          have h3 := (hF rfl).1
          rw [h3] at h2
          rw [← h3] at h2 ⊢
          rw [h3] at h2 ⊢
          exact h2
        | true => exact Nat.lt_trans h2 (hT rfl)⟩, by simp only; omega⟩
    · have c4 : ¬ V'.getD k 0 < max (V'.getD nx 0) (V'.getD ny 0) := of_decide_eq_false c4
      (conv => whnf)
      exact ⟨(k, V', gw, m10), le_eq ⟨by show some (AV.v (.int .i64 (IntKind.i64.wrap ((k : Int) - 1)))) = _; rw [wk], rfl, rfl, rfl, rfl, rfl, rfl, trivial⟩ rfl rfl rfl, ⟨hS.drop 0, by simp only; omega, hV', fun h => by
        obtain ⟨h1, h2⟩ := hF h
        refine ⟨h1, fun j h3 h4 => ?_⟩
        simp only at h3
        by_cases hj : j = k
        · subst hj
          rw [← h1]
          exact ⟨_, hb, by omega⟩
        · exact h2 j (by omega) h4, hT⟩, by simp only; omega⟩
  · obtain ⟨g1, g2⟩ := f2 rfl
    obtain ⟨nx, rfl⟩ : ∃ n : Nat, ix = (n : Int) := ⟨ix.toNat, by omega⟩
    (conv => whnf)
    refine ⟨_, hS.cell 0 (i := 1) rfl rfl, ?_⟩
    (conv => whnf)
    refine ⟨_, rfl, by omega, by show ((nx : Nat) : Int) < ((q.ins.length : Nat) : Int); omega, ?_⟩
    (conv => whnf)
    refine ⟨_, by show Mem.cell _ ((⟨vb, 0, none⟩ : Addr).add (((nx : Nat) : Int).toNat * 1)) = _; rw [ax]; exact hS.cell 1 (i := nx) rfl (iv_get (by omega)), ?_⟩
    (conv => whnf)
    have hsc : (auOf q).sc (decide (i = 0)) (decide (i = line.size)) k = [nx] := hsc0.trans (by simp)
    have hb : Bs q line i k V' (V'.getD (nx) 0) := by
      have hj := hge (nx) (by rw [hsc]; simp)
      refine ⟨.inr (.inr ⟨_, by rw [hsc]; simp, rfl⟩), ?_, fun y hy => ?_⟩
      · rw [show Lo (auOf q) line i k = -1 from hLo.trans (by rw [if_neg (by decide), if_neg (by rintro ⟨h, _⟩; exact absurd h (by decide))])]
        exact hj
      · rw [hsc, List.mem_singleton] at hy
        rw [hy]
        exact Int.le_refl _
    (conv => whnf)
    refine ⟨_, rfl, by omega, by show ((k : Nat) : Int) < ((q.ins.length : Nat) : Int); omega, ?_⟩
    (conv => whnf)
    refine ⟨_, by show Mem.cell _ ((⟨vb, 0, none⟩ : Addr).add (((k : Nat) : Int).toNat * 1)) = _; rw [ax]; exact hS.cell 1 (i := k) rfl (iv_get (by omega)), ?_⟩
    (conv => whnf)
    refine brk_intro (fun c4 => ?_) (fun c4 => ?_)
    · have c4 : V'.getD k 0 < V'.getD nx 0 := of_decide_eq_true c4
      obtain ⟨h1, h2⟩ := hstep _ hb c4
      (conv => whnf)
      refine ⟨_, rfl, by omega, by show ((k : Nat) : Int) < ((q.ins.length : Nat) : Int); omega, ?_⟩
      (conv => whnf)
      refine ⟨by show (∃ u, Mem.cell _ ((⟨vb, 0, none⟩ : Addr).add (((k : Nat) : Int).toNat * 1)) = some u) ∧ Mem.fz _ ((⟨vb, 0, none⟩ : Addr).add (((k : Nat) : Int).toNat * 1)) = false; rw [ax]; exact hS.room 1 (i := k) rfl (iv_get (by omega)), fun m15 he => ?_⟩
      replace he := he.trans (congrArg (fun a => Mem.setCell _ a (.int .i64 (V'.getD nx 0))) ax)
      replace hS := hS.put' 1 (i := k) he rfl
      rw [iv_set] at hS
      clear he
      (conv => whnf)
      exact ⟨(k, V'.set k (V'.getD nx 0), true, m15), le_eq ⟨by show some (AV.v (.int .i64 (IntKind.i64.wrap ((k : Int) - 1)))) = _; rw [wk], rfl, rfl, rfl, rfl, rfl, rfl, trivial⟩ rfl rfl rfl, ⟨hS.drop 0, by simp only; omega, h1, fun h => (by cases h), fun _ => by
        cases gw with
        | false =>
          have h3 := (hF rfl).1
          rw [h3] at h2
          rw [← h3] at h2 ⊢
          rw [h3] at h2 ⊢
          exact h2
        | true => exact Nat.lt_trans h2 (hT rfl)⟩, by simp only; omega⟩
    · have c4 : ¬ V'.getD k 0 < V'.getD nx 0 := of_decide_eq_false c4
      (conv => whnf)
      exact ⟨(k, V', gw, m10), le_eq ⟨by show some (AV.v (.int .i64 (IntKind.i64.wrap ((k : Int) - 1)))) = _; rw [wk], rfl, rfl, rfl, rfl, rfl, rfl, trivial⟩ rfl rfl rfl, ⟨hS.drop 0, by simp only; omega, hV', fun h => by
        obtain ⟨h1, h2⟩ := hF h
        refine ⟨h1, fun j h3 h4 => ?_⟩
        simp only at h3
        by_cases hj : j = k
        · subst hj
          rw [← h1]
          exact ⟨_, hb, by omega⟩
        · exact h2 j (by omega) h4, hT⟩, by simp only; omega⟩
  · by_cases hz : i = 0
    · (conv => whnf)
      refine brk_true (by simp [hz]) ?_
      have hk1 : k + 1 < q.ins.length := f3 (by simp)
      (conv => whnf)
      rw [wk1]
      refine ⟨_, rfl, by omega, by show ((k + 1 : Nat) : Int) < ((q.ins.length : Nat) : Int); omega, ?_⟩
      (conv => whnf)
      refine ⟨_, by show Mem.cell _ ((⟨vb, 0, none⟩ : Addr).add (((k + 1 : Nat) : Int).toNat * 1)) = _; rw [ax]; exact hS.cell 1 (i := k + 1) rfl (iv_get (by omega)), ?_⟩
      (conv => whnf)
      have hsc : (auOf q).sc (decide (i = 0)) (decide (i = line.size)) k = [k + 1] := hsc0.trans (by simp [hz])
      have hb : Bs q line i k V' (V'.getD (k + 1) 0) := by
        have hj := hge (k + 1) (by rw [hsc]; simp)
        refine ⟨.inr (.inr ⟨_, by rw [hsc]; simp, rfl⟩), ?_, fun y hy => ?_⟩
        · rw [show Lo (auOf q) line i k = -1 from hLo.trans (by rw [if_neg (by decide), if_neg (by rintro ⟨h, _⟩; exact absurd h (by decide))])]
          exact hj
        · rw [hsc, List.mem_singleton] at hy
          rw [hy]
          exact Int.le_refl _
      (conv => whnf)
      refine ⟨_, rfl, by omega, by show ((k : Nat) : Int) < ((q.ins.length : Nat) : Int); omega, ?_⟩
      (conv => whnf)
      refine ⟨_, by show Mem.cell _ ((⟨vb, 0, none⟩ : Addr).add (((k : Nat) : Int).toNat * 1)) = _; rw [ax]; exact hS.cell 1 (i := k) rfl (iv_get (by omega)), ?_⟩
      (conv => whnf)
      refine brk_intro (fun c4 => ?_) (fun c4 => ?_)
      · have c4 : V'.getD k 0 < V'.getD (k + 1) 0 := of_decide_eq_true c4
        obtain ⟨h1, h2⟩ := hstep _ hb c4
        (conv => whnf)
        refine ⟨_, rfl, by omega, by show ((k : Nat) : Int) < ((q.ins.length : Nat) : Int); omega, ?_⟩
        (conv => whnf)
        refine ⟨by show (∃ u, Mem.cell _ ((⟨vb, 0, none⟩ : Addr).add (((k : Nat) : Int).toNat * 1)) = some u) ∧ Mem.fz _ ((⟨vb, 0, none⟩ : Addr).add (((k : Nat) : Int).toNat * 1)) = false; rw [ax]; exact hS.room 1 (i := k) rfl (iv_get (by omega)), fun m15 he => ?_⟩
        replace he := he.trans (congrArg (fun a => Mem.setCell _ a (.int .i64 (V'.getD (k + 1) 0))) ax)
        replace hS := hS.put' 1 (i := k) he rfl
        rw [iv_set] at hS
        clear he
        (conv => whnf)
        exact ⟨(k, V'.set k (V'.getD (k + 1) 0), true, m15), le_eq ⟨by show some (AV.v (.int .i64 (IntKind.i64.wrap ((k : Int) - 1)))) = _; rw [wk], rfl, rfl, rfl, rfl, rfl, rfl, trivial⟩ rfl rfl rfl, ⟨hS.drop 0, by simp only; omega, h1, fun h => (by cases h), fun _ => by
          cases gw with
          | false =>
            have h3 := (hF rfl).1
            rw [h3] at h2
            rw [← h3] at h2 ⊢
            rw [h3] at h2 ⊢
            exact h2
          | true => exact Nat.lt_trans h2 (hT rfl)⟩, by simp only; omega⟩
      · have c4 : ¬ V'.getD k 0 < V'.getD (k + 1) 0 := of_decide_eq_false c4
        (conv => whnf)
        exact ⟨(k, V', gw, m10), le_eq ⟨by show some (AV.v (.int .i64 (IntKind.i64.wrap ((k : Int) - 1)))) = _; rw [wk], rfl, rfl, rfl, rfl, rfl, rfl, trivial⟩ rfl rfl rfl, ⟨hS.drop 0, by simp only; omega, hV', fun h => by
          obtain ⟨h1, h2⟩ := hF h
          refine ⟨h1, fun j h3 h4 => ?_⟩
          simp only at h3
          by_cases hj : j = k
          · subst hj
            rw [← h1]
            exact ⟨_, hb, by omega⟩
          · exact h2 j (by omega) h4, hT⟩, by simp only; omega⟩
    · (conv => whnf)
      refine brk_false (by simp; omega) ?_
      (conv => whnf)
      have hsc : (auOf q).sc (decide (i = 0)) (decide (i = line.size)) k = [] := hsc0.trans (by simp [hz])
      have hb : Bs q line i k V' (-1) := by
        refine ⟨.inl rfl, ?_, fun y hy => ?_⟩
        · rw [show Lo (auOf q) line i k = -1 from hLo.trans (by rw [if_neg (by decide), if_neg (by rintro ⟨h, _⟩; exact absurd h (by decide))])]
          exact Int.le_refl _
        · rw [hsc] at hy
          cases hy
      (conv => whnf)
      refine ⟨_, rfl, by omega, by show ((k : Nat) : Int) < ((q.ins.length : Nat) : Int); omega, ?_⟩
      (conv => whnf)
      refine ⟨_, by show Mem.cell _ ((⟨vb, 0, none⟩ : Addr).add (((k : Nat) : Int).toNat * 1)) = _; rw [ax]; exact hS.cell 1 (i := k) rfl (iv_get (by omega)), ?_⟩
      (conv => whnf)
      refine brk_intro (fun c4 => ?_) (fun c4 => ?_)
      · have c4 : V'.getD k 0 < -1 := of_decide_eq_true c4
        obtain ⟨h1, h2⟩ := hstep _ hb c4
        (conv => whnf)
        refine ⟨_, rfl, by omega, by show ((k : Nat) : Int) < ((q.ins.length : Nat) : Int); omega, ?_⟩
        (conv => whnf)
        refine ⟨by show (∃ u, Mem.cell _ ((⟨vb, 0, none⟩ : Addr).add (((k : Nat) : Int).toNat * 1)) = some u) ∧ Mem.fz _ ((⟨vb, 0, none⟩ : Addr).add (((k : Nat) : Int).toNat * 1)) = false; rw [ax]; exact hS.room 1 (i := k) rfl (iv_get (by omega)), fun m15 he => ?_⟩
        replace he := he.trans (congrArg (fun a => Mem.setCell _ a (.int .i64 (-1))) ax)
        replace hS := hS.put' 1 (i := k) he rfl
        rw [iv_set] at hS
        clear he
        (conv => whnf)
        exact ⟨(k, V'.set k (-1), true, m15), le_eq ⟨by show some (AV.v (.int .i64 (IntKind.i64.wrap ((k : Int) - 1)))) = _; rw [wk], rfl, rfl, rfl, rfl, rfl, rfl, trivial⟩ rfl rfl rfl, ⟨hS.drop 0, by simp only; omega, h1, fun h => (by cases h), fun _ => by
          cases gw with
          | false =>
            have h3 := (hF rfl).1
            rw [h3] at h2
            rw [← h3] at h2 ⊢
            rw [h3] at h2 ⊢
            exact h2
          | true => exact Nat.lt_trans h2 (hT rfl)⟩, by simp only; omega⟩
      · have c4 : ¬ V'.getD k 0 < -1 := of_decide_eq_false c4
        (conv => whnf)
        exact ⟨(k, V', gw, m10), le_eq ⟨by show some (AV.v (.int .i64 (IntKind.i64.wrap ((k : Int) - 1)))) = _; rw [wk], rfl, rfl, rfl, rfl, rfl, rfl, trivial⟩ rfl rfl rfl, ⟨hS.drop 0, by simp only; omega, hV', fun h => by
          obtain ⟨h1, h2⟩ := hF h
          refine ⟨h1, fun j h3 h4 => ?_⟩
          simp only at h3
          by_cases hj : j = k
          · subst hj
            rw [← h1]
            exact ⟨_, hb, by omega⟩
          · exact h2 j (by omega) h4, hT⟩, by simp only; omega⟩
  · by_cases hz : i = line.size
    · (conv => whnf)
      refine brk_true (by simp [hz]) ?_
      have hk1 : k + 1 < q.ins.length := f3 (by simp)
      (conv => whnf)
      rw [wk1]
      refine ⟨_, rfl, by omega, by show ((k + 1 : Nat) : Int) < ((q.ins.length : Nat) : Int); omega, ?_⟩
      (conv => whnf)
      refine ⟨_, by show Mem.cell _ ((⟨vb, 0, none⟩ : Addr).add (((k + 1 : Nat) : Int).toNat * 1)) = _; rw [ax]; exact hS.cell 1 (i := k + 1) rfl (iv_get (by omega)), ?_⟩
      (conv => whnf)
      have hsc : (auOf q).sc (decide (i = 0)) (decide (i = line.size)) k = [k + 1] := hsc0.trans (by simp [hz])
      have hb : Bs q line i k V' (V'.getD (k + 1) 0) := by
        have hj := hge (k + 1) (by rw [hsc]; simp)
        refine ⟨.inr (.inr ⟨_, by rw [hsc]; simp, rfl⟩), ?_, fun y hy => ?_⟩
        · rw [show Lo (auOf q) line i k = -1 from hLo.trans (by rw [if_neg (by decide), if_neg (by rintro ⟨h, _⟩; exact absurd h (by decide))])]
          exact hj
        · rw [hsc, List.mem_singleton] at hy
          rw [hy]
          exact Int.le_refl _
      (conv => whnf)
      refine ⟨_, rfl, by omega, by show ((k : Nat) : Int) < ((q.ins.length : Nat) : Int); omega, ?_⟩
      (conv => whnf)
      refine ⟨_, by show Mem.cell _ ((⟨vb, 0, none⟩ : Addr).add (((k : Nat) : Int).toNat * 1)) = _; rw [ax]; exact hS.cell 1 (i := k) rfl (iv_get (by omega)), ?_⟩
      (conv => whnf)
      refine brk_intro (fun c4 => ?_) (fun c4 => ?_)
      · have c4 : V'.getD k 0 < V'.getD (k + 1) 0 := of_decide_eq_true c4
        obtain ⟨h1, h2⟩ := hstep _ hb c4
        (conv => whnf)
        refine ⟨_, rfl, by omega, by show ((k : Nat) : Int) < ((q.ins.length : Nat) : Int); omega, ?_⟩
        (conv => whnf)
        refine ⟨by show (∃ u, Mem.cell _ ((⟨vb, 0, none⟩ : Addr).add (((k : Nat) : Int).toNat * 1)) = some u) ∧ Mem.fz _ ((⟨vb, 0, none⟩ : Addr).add (((k : Nat) : Int).toNat * 1)) = false; rw [ax]; exact hS.room 1 (i := k) rfl (iv_get (by omega)), fun m15 he => ?_⟩
        replace he := he.trans (congrArg (fun a => Mem.setCell _ a (.int .i64 (V'.getD (k + 1) 0))) ax)
        replace hS := hS.put' 1 (i := k) he rfl
        rw [iv_set] at hS
        clear he
        (conv => whnf)
        exact ⟨(k, V'.set k (V'.getD (k + 1) 0), true, m15), le_eq ⟨by show some (AV.v (.int .i64 (IntKind.i64.wrap ((k : Int) - 1)))) = _; rw [wk], rfl, rfl, rfl, rfl, rfl, rfl, trivial⟩ rfl rfl rfl, ⟨hS.drop 0, by simp only; omega, h1, fun h => (by cases h), fun _ => by
          cases gw with
          | false =>
            have h3 := (hF rfl).1
            rw [h3] at h2
            rw [← h3] at h2 ⊢
            rw [h3] at h2 ⊢
            exact h2
          | true => exact Nat.lt_trans h2 (hT rfl)⟩, by simp only; omega⟩
      · have c4 : ¬ V'.getD k 0 < V'.getD (k + 1) 0 := of_decide_eq_false c4
        (conv => whnf)
        exact ⟨(k, V', gw, m10), le_eq ⟨by show some (AV.v (.int .i64 (IntKind.i64.wrap ((k : Int) - 1)))) = _; rw [wk], rfl, rfl, rfl, rfl, rfl, rfl, trivial⟩ rfl rfl rfl, ⟨hS.drop 0, by simp only; omega, hV', fun h => by
          obtain ⟨h1, h2⟩ := hF h
          refine ⟨h1, fun j h3 h4 => ?_⟩
          simp only at h3
          by_cases hj : j = k
          · subst hj
            rw [← h1]
            exact ⟨_, hb, by omega⟩
          · exact h2 j (by omega) h4, hT⟩, by simp only; omega⟩
    · (conv => whnf)
      refine brk_false (by simp; omega) ?_
      (conv => whnf)
      have hsc : (auOf q).sc (decide (i = 0)) (decide (i = line.size)) k = [] := hsc0.trans (by simp [hz])
      have hb : Bs q line i k V' (-1) := by
        refine ⟨.inl rfl, ?_, fun y hy => ?_⟩
        · rw [show Lo (auOf q) line i k = -1 from hLo.trans (by rw [if_neg (by decide), if_neg (by rintro ⟨h, _⟩; exact absurd h (by decide))])]
          exact Int.le_refl _
        · rw [hsc] at hy
          cases hy
      (conv => whnf)
      refine ⟨_, rfl, by omega, by show ((k : Nat) : Int) < ((q.ins.length : Nat) : Int); omega, ?_⟩
      (conv => whnf)
      refine ⟨_, by show Mem.cell _ ((⟨vb, 0, none⟩ : Addr).add (((k : Nat) : Int).toNat * 1)) = _; rw [ax]; exact hS.cell 1 (i := k) rfl (iv_get (by omega)), ?_⟩
      (conv => whnf)
      refine brk_intro (fun c4 => ?_) (fun c4 => ?_)
      · have c4 : V'.getD k 0 < -1 := of_decide_eq_true c4
        obtain ⟨h1, h2⟩ := hstep _ hb c4
        (conv => whnf)
        refine ⟨_, rfl, by omega, by show ((k : Nat) : Int) < ((q.ins.length : Nat) : Int); omega, ?_⟩
        (conv => whnf)
        refine ⟨by show (∃ u, Mem.cell _ ((⟨vb, 0, none⟩ : Addr).add (((k : Nat) : Int).toNat * 1)) = some u) ∧ Mem.fz _ ((⟨vb, 0, none⟩ : Addr).add (((k : Nat) : Int).toNat * 1)) = false; rw [ax]; exact hS.room 1 (i := k) rfl (iv_get (by omega)), fun m15 he => ?_⟩
        replace he := he.trans (congrArg (fun a => Mem.setCell _ a (.int .i64 (-1))) ax)
        replace hS := hS.put' 1 (i := k) he rfl
        rw [iv_set] at hS
        clear he
        (conv => whnf)
        exact ⟨(k, V'.set k (-1), true, m15), le_eq ⟨by show some (AV.v (.int .i64 (IntKind.i64.wrap ((k : Int) - 1)))) = _; rw [wk], rfl, rfl, rfl, rfl, rfl, rfl, trivial⟩ rfl rfl rfl, ⟨hS.drop 0, by simp only; omega, h1, fun h => (by cases h), fun _ => by
          cases gw with
          | false =>
            have h3 := (hF rfl).1
            rw [h3] at h2
            rw [← h3] at h2 ⊢
            rw [h3] at h2 ⊢
            exact h2
          | true => exact Nat.lt_trans h2 (hT rfl)⟩, by simp only; omega⟩
      · have c4 : ¬ V'.getD k 0 < -1 := of_decide_eq_false c4
        (conv => whnf)
        exact ⟨(k, V', gw, m10), le_eq ⟨by show some (AV.v (.int .i64 (IntKind.i64.wrap ((k : Int) - 1)))) = _; rw [wk], rfl, rfl, rfl, rfl, rfl, rfl, trivial⟩ rfl rfl rfl, ⟨hS.drop 0, by simp only; omega, hV', fun h => by
          obtain ⟨h1, h2⟩ := hF h
          refine ⟨h1, fun j h3 h4 => ?_⟩
          simp only at h3
          by_cases hj : j = k
          · subst hj
            rw [← h1]
            exact ⟨_, hb, by omega⟩
          · exact h2 j (by omega) h4, hT⟩, by simp only; omega⟩
  · have hk1 : k + 1 < q.ins.length := f3 (by simp)
    (conv => whnf)
    rw [wk1]
    refine ⟨_, rfl, by omega, by show ((k + 1 : Nat) : Int) < ((q.ins.length : Nat) : Int); omega, ?_⟩
    (conv => whnf)
    refine ⟨_, by show Mem.cell _ ((⟨vb, 0, none⟩ : Addr).add (((k + 1 : Nat) : Int).toNat * 1)) = _; rw [ax]; exact hS.cell 1 (i := k + 1) rfl (iv_get (by omega)), ?_⟩
    (conv => whnf)
    have hsc : (auOf q).sc (decide (i = 0)) (decide (i = line.size)) k = [k + 1] := hsc0.trans (by simp)
    have hb : Bs q line i k V' (V'.getD (k + 1) 0) := by
      have hj := hge (k + 1) (by rw [hsc]; simp)
      refine ⟨.inr (.inr ⟨_, by rw [hsc]; simp, rfl⟩), ?_, fun y hy => ?_⟩
      · rw [show Lo (auOf q) line i k = -1 from hLo.trans (by rw [if_neg (by decide), if_neg (by rintro ⟨h, _⟩; exact absurd h (by decide))])]
        exact hj
      · rw [hsc, List.mem_singleton] at hy
        rw [hy]
        exact Int.le_refl _
    (conv => whnf)
    refine ⟨_, rfl, by omega, by show ((k : Nat) : Int) < ((q.ins.length : Nat) : Int); omega, ?_⟩
    (conv => whnf)
    refine ⟨_, by show Mem.cell _ ((⟨vb, 0, none⟩ : Addr).add (((k : Nat) : Int).toNat * 1)) = _; rw [ax]; exact hS.cell 1 (i := k) rfl (iv_get (by omega)), ?_⟩
    (conv => whnf)
    refine brk_intro (fun c4 => ?_) (fun c4 => ?_)
    · have c4 : V'.getD k 0 < V'.getD (k + 1) 0 := of_decide_eq_true c4
      obtain ⟨h1, h2⟩ := hstep _ hb c4
      (conv => whnf)
      refine ⟨_, rfl, by omega, by show ((k : Nat) : Int) < ((q.ins.length : Nat) : Int); omega, ?_⟩
      (conv => whnf)
      refine ⟨by show (∃ u, Mem.cell _ ((⟨vb, 0, none⟩ : Addr).add (((k : Nat) : Int).toNat * 1)) = some u) ∧ Mem.fz _ ((⟨vb, 0, none⟩ : Addr).add (((k : Nat) : Int).toNat * 1)) = false; rw [ax]; exact hS.room 1 (i := k) rfl (iv_get (by omega)), fun m15 he => ?_⟩
      replace he := he.trans (congrArg (fun a => Mem.setCell _ a (.int .i64 (V'.getD (k + 1) 0))) ax)
      replace hS := hS.put' 1 (i := k) he rfl
      rw [iv_set] at hS
      clear he
      (conv => whnf)
      exact ⟨(k, V'.set k (V'.getD (k + 1) 0), true, m15), le_eq ⟨by show some (AV.v (.int .i64 (IntKind.i64.wrap ((k : Int) - 1)))) = _; rw [wk], rfl, rfl, rfl, rfl, rfl, rfl, trivial⟩ rfl rfl rfl, ⟨hS.drop 0, by simp only; omega, h1, fun h => (by cases h), fun _ => by
        cases gw with
        | false =>
          have h3 := (hF rfl).1
          rw [h3] at h2
          rw [← h3] at h2 ⊢
          rw [h3] at h2 ⊢
          exact h2
        | true => exact Nat.lt_trans h2 (hT rfl)⟩, by simp only; omega⟩
    · have c4 : ¬ V'.getD k 0 < V'.getD (k + 1) 0 := of_decide_eq_false c4
      (conv => whnf)
      exact ⟨(k, V', gw, m10), le_eq ⟨by show some (AV.v (.int .i64 (IntKind.i64.wrap ((k : Int) - 1)))) = _; rw [wk], rfl, rfl, rfl, rfl, rfl, rfl, trivial⟩ rfl rfl rfl, ⟨hS.drop 0, by simp only; omega, hV', fun h => by
        obtain ⟨h1, h2⟩ := hF h
        refine ⟨h1, fun j h3 h4 => ?_⟩
        simp only at h3
        by_cases hj : j = k
        · subst hj
          rw [← h1]
          exact ⟨_, hb, by omega⟩
        · exact h2 j (by omega) h4, hT⟩, by simp only; omega⟩
  · have hk1 : k + 1 < q.ins.length := f3 (by simp)
    (conv => whnf)
    rw [wk1]
    refine ⟨_, rfl, by omega, by show ((k + 1 : Nat) : Int) < ((q.ins.length : Nat) : Int); omega, ?_⟩
    (conv => whnf)
    refine ⟨_, by show Mem.cell _ ((⟨vb, 0, none⟩ : Addr).add (((k + 1 : Nat) : Int).toNat * 1)) = _; rw [ax]; exact hS.cell 1 (i := k + 1) rfl (iv_get (by omega)), ?_⟩
    (conv => whnf)
    have hsc : (auOf q).sc (decide (i = 0)) (decide (i = line.size)) k = [k + 1] := hsc0.trans (by simp)
    have hb : Bs q line i k V' (V'.getD (k + 1) 0) := by
      have hj := hge (k + 1) (by rw [hsc]; simp)
      refine ⟨.inr (.inr ⟨_, by rw [hsc]; simp, rfl⟩), ?_, fun y hy => ?_⟩
      · rw [show Lo (auOf q) line i k = -1 from hLo.trans (by rw [if_neg (by decide), if_neg (by rintro ⟨h, _⟩; exact absurd h (by decide))])]
        exact hj
      · rw [hsc, List.mem_singleton] at hy
        rw [hy]
        exact Int.le_refl _
    (conv => whnf)
    refine ⟨_, rfl, by omega, by show ((k : Nat) : Int) < ((q.ins.length : Nat) : Int); omega, ?_⟩
    (conv => whnf)
    refine ⟨_, by show Mem.cell _ ((⟨vb, 0, none⟩ : Addr).add (((k : Nat) : Int).toNat * 1)) = _; rw [ax]; exact hS.cell 1 (i := k) rfl (iv_get (by omega)), ?_⟩
    (conv => whnf)
    refine brk_intro (fun c4 => ?_) (fun c4 => ?_)
    · have c4 : V'.getD k 0 < V'.getD (k + 1) 0 := of_decide_eq_true c4
      obtain ⟨h1, h2⟩ := hstep _ hb c4
      (conv => whnf)
      refine ⟨_, rfl, by omega, by show ((k : Nat) : Int) < ((q.ins.length : Nat) : Int); omega, ?_⟩
      (conv => whnf)
      refine ⟨by show (∃ u, Mem.cell _ ((⟨vb, 0, none⟩ : Addr).add (((k : Nat) : Int).toNat * 1)) = some u) ∧ Mem.fz _ ((⟨vb, 0, none⟩ : Addr).add (((k : Nat) : Int).toNat * 1)) = false; rw [ax]; exact hS.room 1 (i := k) rfl (iv_get (by omega)), fun m15 he => ?_⟩
      replace he := he.trans (congrArg (fun a => Mem.setCell _ a (.int .i64 (V'.getD (k + 1) 0))) ax)
      replace hS := hS.put' 1 (i := k) he rfl
      rw [iv_set] at hS
      clear he
      (conv => whnf)
      exact ⟨(k, V'.set k (V'.getD (k + 1) 0), true, m15), le_eq ⟨by show some (AV.v (.int .i64 (IntKind.i64.wrap ((k : Int) - 1)))) = _; rw [wk], rfl, rfl, rfl, rfl, rfl, rfl, trivial⟩ rfl rfl rfl, ⟨hS.drop 0, by simp only; omega, h1, fun h => (by cases h), fun _ => by
        cases gw with
        | false =>
          have h3 := (hF rfl).1
          rw [h3] at h2
          rw [← h3] at h2 ⊢
          rw [h3] at h2 ⊢
          exact h2
        | true => exact Nat.lt_trans h2 (hT rfl)⟩, by simp only; omega⟩
    · have c4 : ¬ V'.getD k 0 < V'.getD (k + 1) 0 := of_decide_eq_false c4
      (conv => whnf)
      exact ⟨(k, V', gw, m10), le_eq ⟨by show some (AV.v (.int .i64 (IntKind.i64.wrap ((k : Int) - 1)))) = _; rw [wk], rfl, rfl, rfl, rfl, rfl, rfl, trivial⟩ rfl rfl rfl, ⟨hS.drop 0, by simp only; omega, hV', fun h => by
        obtain ⟨h1, h2⟩ := hF h
        refine ⟨h1, fun j h3 h4 => ?_⟩
        simp only at h3
        by_cases hj : j = k
        · subst hj
          rw [← h1]
          exact ⟨_, hb, by omega⟩
        · exact h2 j (by omega) h4, hT⟩, by simp only; omega⟩
  · (conv => whnf)
    have hsc : (auOf q).sc (decide (i = 0)) (decide (i = line.size)) k = [] := hsc0.trans (by simp)
    have hb : Bs q line i k V' ((i : Int)) := by
      refine ⟨.inr (.inl (hLo.trans (if_pos rfl)).symm), by rw [hLo, if_pos rfl]; exact Int.le_refl _, fun y hy => ?_⟩
      rw [hsc] at hy
      cases hy
    (conv => whnf)
    refine ⟨_, rfl, by omega, by show ((k : Nat) : Int) < ((q.ins.length : Nat) : Int); omega, ?_⟩
    (conv => whnf)
    refine ⟨_, by show Mem.cell _ ((⟨vb, 0, none⟩ : Addr).add (((k : Nat) : Int).toNat * 1)) = _; rw [ax]; exact hS.cell 1 (i := k) rfl (iv_get (by omega)), ?_⟩
    (conv => whnf)
    refine brk_intro (fun c4 => ?_) (fun c4 => ?_)
    · have c4 : V'.getD k 0 < ((i : Nat) : Int) := of_decide_eq_true c4
      obtain ⟨h1, h2⟩ := hstep _ hb c4
      (conv => whnf)
      refine ⟨_, rfl, by omega, by show ((k : Nat) : Int) < ((q.ins.length : Nat) : Int); omega, ?_⟩
      (conv => whnf)
      refine ⟨by show (∃ u, Mem.cell _ ((⟨vb, 0, none⟩ : Addr).add (((k : Nat) : Int).toNat * 1)) = some u) ∧ Mem.fz _ ((⟨vb, 0, none⟩ : Addr).add (((k : Nat) : Int).toNat * 1)) = false; rw [ax]; exact hS.room 1 (i := k) rfl (iv_get (by omega)), fun m15 he => ?_⟩
      replace he := he.trans (congrArg (fun a => Mem.setCell _ a (.int .i64 (((i : Nat) : Int)))) ax)
      replace hS := hS.put' 1 (i := k) he rfl
      rw [iv_set] at hS
      clear he
      (conv => whnf)
      exact ⟨(k, V'.set k (((i : Nat) : Int)), true, m15), le_eq ⟨by show some (AV.v (.int .i64 (IntKind.i64.wrap ((k : Int) - 1)))) = _; rw [wk], rfl, rfl, rfl, rfl, rfl, rfl, trivial⟩ rfl rfl rfl, ⟨hS.drop 0, by simp only; omega, h1, fun h => (by cases h), fun _ => by
        cases gw with
        | false =>
          have h3 := (hF rfl).1
          rw [h3] at h2
          rw [← h3] at h2 ⊢
          rw [h3] at h2 ⊢
          exact h2
        | true => exact Nat.lt_trans h2 (hT rfl)⟩, by simp only; omega⟩
    · have c4 : ¬ V'.getD k 0 < ((i : Nat) : Int) := of_decide_eq_false c4
      (conv => whnf)
      exact ⟨(k, V', gw, m10), le_eq ⟨by show some (AV.v (.int .i64 (IntKind.i64.wrap ((k : Int) - 1)))) = _; rw [wk], rfl, rfl, rfl, rfl, rfl, rfl, trivial⟩ rfl rfl rfl, ⟨hS.drop 0, by simp only; omega, hV', fun h => by
        obtain ⟨h1, h2⟩ := hF h
        refine ⟨h1, fun j h3 h4 => ?_⟩
        simp only at h3
        by_cases hj : j = k
        · subst hj
          rw [← h1]
          exact ⟨_, hb, by omega⟩
        · exact h2 j (by omega) h4, hT⟩, by simp only; omega⟩
end Go.Proofs.Ytkkcdfnlmhmheaa
/- Dfa: the document's Longest. -/
namespace Go.Proofs.Ytkkcdfnlmhmheaa
open Go Go.Mv
set_option maxHeartbeats 4000000
set_option maxRecDepth 10000
set_option linter.unusedVariables false
set_option linter.unusedSimpArgs false
attribute [local irreducible] FCalls IntKind.wrap bits Mem.set Mem.setCell Mem.setCells YCalls RunP NextP RunU
/-- What the document's Longest tells. -/
noncomputable def lonV (q : Prg) (line : ByteArray) : List Value := (List.range (line.size + 1)).map fun j => Value.int .i64 (Gr0 (auOf q) line j 0)
theorem longest_c {m : Mem} {R : List Asn} {q : Prg} {line : ByteArray} (hS : Sep R m) (hq : ∀ M, Sep R M → q.at M) (hg : GoodP q) (hf : freeF q = true) (hU : ∀ i, i ∈ q.ins → ∀ j, 0 ≤ [i.s0, i.s1, i.s2, i.s3].getD j 0) (hls : line.size < 1099511627776) :
    FCalls Try.prog 34 [q.val, .string line] m fun v m' => ∃ ob, v = .slice (some ⟨ob, 0, none⟩) (line.size + 1) (line.size + 1) ∧ Sep (pt ob (lonV q line) :: R) m' := by
  have hn1 := hg.n1
  have hn0 := hg.n0
  refine fcalls_of_vc (T := tbl) (B := bodies) (pr := [99999]) (DR := dr34) (args := [.v q.val, .v (.string line)]) tbl_ok bodies_ok mixed Try.func34 rfl (by decide +kernel) (by simp [Try.f34]) rfl ?_
  (conv => whnf)
  intro b2 m1 hb he
  replace hS := hS.new' (l := q.cells) hb he
  clear hb he
  (conv => whnf)
  refine ⟨_, _, _, hS.cell 0 (i := 0) rfl rfl, ?_⟩
  (conv => whnf)
  refine ⟨_, hS.cell 0 (i := 1) rfl rfl, ?_⟩
  (conv => whnf)
  refine ⟨_, hS.cell 0 (i := 2) rfl rfl, ?_⟩
  (conv => whnf)
  refine ⟨_, hS.cell 0 (i := 3) rfl rfl, ?_⟩
  (conv => whnf)
  refine FCalls.mono (rows_c (R := pt b2 q.cells :: R) hS (fun M h => hq M (h.drop 0)) hg hf hU hls) ?_
  clear hS
  rintro v m2 ⟨rb, hs, K, rfl, hS, hz, hH⟩
  (conv => whnf)
  have w1 : IntKind.i64.wrap (((line.size : Nat) : Int) + 1) = ((line.size + 1 : Nat) : Int) := wrap_id (by omega) (by omega)
  rw [w1]
  refine ⟨by omega, by omega, by show ((line.size + 1 : Nat) : Int) ≤ 9223372036854775807; omega, by show 8 * ((line.size + 1 : Nat) : Int) ≤ 2 ^ 48; omega, fun ob m3 hb he => ?_⟩
  replace hS := hS.new' (l := iv (List.replicate (line.size + 1) 0)) hb (he.trans (by rw [show (zerosOf tbl 3 ((line.size + 1 : Nat) : Int).toNat).list = iv (List.replicate (line.size + 1) 0) from by rw [Int.toNat_natCast]; unfold iv; rfl]))
  clear hb he
  (conv => whnf)
  refine loop_keep [1, 2, 5, 6] (Nat × List Int × Mem) (fun s => [(7, .v (.int .i64 ((s.1 : Nat) : Int)))]) (fun _ => []) (fun s => s.2.2)
    (fun s => Sep (pt ob (iv s.2.1) :: pt rb hs :: kp K :: pt b2 q.cells :: R) s.2.2 ∧ s.1 ≤ line.size + 1 ∧ s.2.1.length = line.size + 1 ∧ ∀ k, k < s.1 → s.2.1.getD k 0 = Gr0 (auOf q) line k 0)
    (fun s => line.size + 1 - s.1) (0, List.replicate (line.size + 1) 0, m3) ⟨rfl, trivial⟩ rfl rfl ⟨hS, by omega, by simp, fun k hk => by simp only at hk; omega⟩ ?_
  clear hS
  (conv => whnf)
  refine ⟨rfl, ?_⟩
  rintro ⟨j, V, M⟩ ⟨hS, hj, hVl, hV⟩
  simp only at hS hj hVl hV
  (conv => whnf)
  refine brk_intro (fun c2 => ?_) (fun c2 => ?_)
  · have c2 : ((j : Nat) : Int) < ((line.size + 1 : Nat) : Int) := of_decide_eq_true c2
    have wj : IntKind.i64.wrap ((j : Int) + 1) = ((j + 1 : Nat) : Int) := wrap_id (by omega) (by omega)
    obtain ⟨b6, hb6, hr6⟩ := hH j (by omega)
    obtain ⟨p6, hp6, hc6⟩ := (hr6.more (hS.kept 2 rfl)).at (k := 0) (v := .int .i64 (Gr0 (auOf q) line j 0)) (by unfold rowV; simp [hn0])
    (conv => whnf)
    refine ⟨_, rfl, by omega, by show ((j : Nat) : Int) < ((line.size + 1 : Nat) : Int); omega, ?_⟩
    (conv => whnf)
    refine ⟨_, _, _, by show Mem.cell _ ((⟨rb, 0, none⟩ : Addr).add (((j : Nat) : Int).toNat * 1)) = _; rw [ax]; exact hS.cell 1 (i := j) rfl hb6, ?_⟩
    (conv => whnf)
    refine ⟨_, hp6, by omega, by show (0 : Int) < ((q.ins.length : Nat) : Int); omega, ?_⟩
    (conv => whnf)
    refine ⟨_, hc6, ?_⟩
    (conv => whnf)
    refine ⟨_, rfl, by omega, by show ((j : Nat) : Int) < ((line.size + 1 : Nat) : Int); omega, ?_⟩
    (conv => whnf)
    refine ⟨by show (∃ u, M.cell ((⟨ob, 0, none⟩ : Addr).add (((j : Nat) : Int).toNat * 1)) = some u) ∧ M.fz ((⟨ob, 0, none⟩ : Addr).add (((j : Nat) : Int).toNat * 1)) = false; rw [ax]; exact hS.room 0 (i := j) rfl (iv_get (by omega)), fun m5 he => ?_⟩
    replace he := he.trans (congrArg (fun a => Mem.setCell _ a (.int .i64 (Gr0 (auOf q) line j 0))) ax)
    replace hS := hS.put' 0 (i := j) he rfl
    rw [iv_set] at hS
    clear he
    (conv => whnf)
    exact ⟨(j + 1, V.set j (Gr0 (auOf q) line j 0), m5), le_eq ⟨by show some (AV.v (.int .i64 (IntKind.i64.wrap ((j : Int) + 1)))) = _; rw [wj], rfl, rfl, rfl, rfl, trivial⟩ rfl rfl rfl, ⟨hS, by simp only; omega, by rw [List.length_set]; exact hVl, fun k hk => by
      simp only at hk ⊢
      rw [getD_set (by omega)]
      split
      · rename_i h
        rw [h]
      · exact hV k (by omega)⟩, by simp only; omega⟩
  have c2 : ¬ ((j : Nat) : Int) < ((line.size + 1 : Nat) : Int) := of_decide_eq_false c2
  obtain rfl : j = line.size + 1 := by omega
  have hiv : iv V = lonV q line := by
    unfold iv lonV
    apply List.ext_getElem?
    intro k
    rcases Nat.lt_or_ge k (line.size + 1) with h | h
    · have h1 := hV k h
      rw [← hVl] at h
      have h2 : V.getD k 0 = V[k] := by simp [List.getD, h]
      rw [h2] at h1
      have h3 : k < line.size + 1 := by rw [← hVl]; exact h
      simp [h, h3, h1]
    · rw [List.getElem?_eq_none (by rw [List.length_map, hVl]; exact h), List.getElem?_eq_none (by simpa using h)]
  rw [hiv] at hS
  (conv => whnf)
  exact ⟨ob, rfl, ((hS.drop 1).drop 1).drop 1⟩
end Go.Proofs.Ytkkcdfnlmhmheaa
/- Dfa: asked. -/
namespace Go.Proofs.Ytkkcdfnlmhmheaa
open Go Go.Mv
set_option maxHeartbeats 4000000
set_option maxRecDepth 10000
set_option linter.unusedVariables false
set_option linter.unusedSimpArgs false
attribute [local irreducible] FCalls IntKind.wrap bits Mem.set Mem.setCell Mem.setCells YCalls RunP NextP RunU
theorem nat_eq0 {a : Nat} : (((a : Nat) : Int) == 0) = decide (a = 0) := by
  by_cases h : a = 0
  · subst h; rfl
  · rw [decide_eq_false h]
    simpa using h
theorem gr_lst {A : Au} {line : ByteArray} {a : Nat} : Gr0 A line a 0 = gmax (lst A false line a) := by
  unfold Gr0 lst
  rw [nat_eq0]
theorem lon_get {q : Prg} {line : ByteArray} {a : Nat} (h : a ≤ line.size) : (lonV q line)[a]? = some (.int .i64 (gmax (lst (auOf q) false line a))) := by
  have h2 : a < line.size + 1 := by omega
  rw [← gr_lst]
  unfold lonV
  simp [h2]
def knC (c : Int) (x : Df) (line : ByteArray) (a : Nat) : Prop := if pickI c 3 = 0 then Known false (((a : Nat) : Int) == 0) false x (bytesOf line a) else if pickI c 3 = 1 then Known true (((a : Nat) : Int) == 0) true x (bytesOf line a) else Known false (((a : Nat) : Int) == 0) true x (bytesOf line a)
def Cl.val (z : Cl) : Value := .agg z.cells.toArray
theorem anywhere_n {m : Mem} {R : List Asn} {q : Prg} {line : ByteArray} {at0 : Nat} (hS : Sep R m) (hq : ∀ M, Sep R M → q.at M) (hg : GoodP q) (hf : freeF q = true) (hU : ∀ i, i ∈ q.ins → ∀ j, 0 ≤ [i.s0, i.s1, i.s2, i.s3].getD j 0) (hat : at0 ≤ line.size) (hls : line.size < 1099511627776) :
    FCalls Try.prog 35 [q.val, .string line, .int .i64 ((at0 : Nat) : Int)] m fun v m' => ∃ A' c', v = .slice A' (lst (auOf q) true line at0).length c' ∧ Sep (sl A' (lst (auOf q) true line at0).length c' 1 (nv (lst (auOf q) true line at0)) :: R) m' := by
  have h := anywhere_c hS hq hg hf hU hat hls
  unfold lst
  rw [nat_eq0]
  exact h
theorem asked_bad {m : Mem} {R : List Asn} {q : Prg} {d : Nat} {z : Cl} (hS : Sep R m) (hb : z.at' < 0 ∨ ((z.line.size : Nat) : Int) < z.at') :
    FCalls Try.prog 20 [.pointer (some ⟨d, 0, none⟩), q.val, z.val] m fun v m' => v = .bool true ∧ Sep R m' := by
  refine fcalls_of_vc (T := tbl) (B := bodies) (pr := [99999]) (DR := dr20) (args := [.v (.pointer (some ⟨d, 0, none⟩)), .v q.val, .v z.val]) tbl_ok bodies_ok mixed Try.func20 rfl (by decide +kernel) (by simp [Try.f20]) rfl ?_
  (conv => whnf)
  intro b4 m1 hb4 he
  replace hS := hS.new' (l := q.cells) hb4 he
  clear hb4 he
  (conv => whnf)
  intro b5 m2 hb5 he
  replace hS := hS.new' (l := z.cells) hb5 he
  clear hb5 he
  (conv => whnf)
  have k1 := hS.cell 0 (i := 1) rfl rfl
  have k2 := hS.cell 0 (i := 2) rfl rfl
  refine ⟨_, k2, ?_⟩
  (conv => whnf)
  refine brk_intro (fun c => ?_) (fun c => ?_)
  · have c : ¬ z.at' < 0 := by simpa using c
    (conv => whnf)
    refine ⟨_, k2, ?_⟩
    (conv => whnf)
    refine ⟨_, k1, ?_⟩
    (conv => whnf)
    refine brk_true (by simp; omega) ?_
    (conv => whnf)
    refine ⟨_, k1, ?_⟩
    (conv => whnf)
    refine ⟨_, k2, ?_⟩
    (conv => whnf)
    refine FCalls.mono (bad_l hb) ?_
    rintro v m3 ⟨rfl, rfl⟩
    (conv => whnf)
    refine ⟨_, k1, ?_⟩
    (conv => whnf)
    refine ⟨_, k2, ?_⟩
    (conv => whnf)
    refine FCalls.mono (bad_a hb) ?_
    rintro v m3 ⟨rfl, rfl⟩
    (conv => whnf)
    refine ⟨_, k1, ?_⟩
    (conv => whnf)
    refine ⟨_, k2, ?_⟩
    (conv => whnf)
    refine FCalls.mono (bad_e hb) ?_
    rintro v m3 ⟨rfl, rfl⟩
    (conv => whnf)
    exact ⟨rfl, (hS.drop 0).drop 0⟩
  · (conv => whnf)
    refine ⟨_, k1, ?_⟩
    (conv => whnf)
    refine ⟨_, k2, ?_⟩
    (conv => whnf)
    refine FCalls.mono (bad_l hb) ?_
    rintro v m3 ⟨rfl, rfl⟩
    (conv => whnf)
    refine ⟨_, k1, ?_⟩
    (conv => whnf)
    refine ⟨_, k2, ?_⟩
    (conv => whnf)
    refine FCalls.mono (bad_a hb) ?_
    rintro v m3 ⟨rfl, rfl⟩
    (conv => whnf)
    refine ⟨_, k1, ?_⟩
    (conv => whnf)
    refine ⟨_, k2, ?_⟩
    (conv => whnf)
    refine FCalls.mono (bad_e hb) ?_
    rintro v m3 ⟨rfl, rfl⟩
    (conv => whnf)
    exact ⟨rfl, (hS.drop 0).drop 0⟩
theorem asked_ok {m : Mem} {R : List Asn} {q : Prg} {d S F a : Nat} {room : Int} {Kn : Df → Prop} {kind : Int} {line : ByteArray} {again : Bool} (hS : Sep (dk q d S F (fun x => x.room = room ∧ Kn x) :: R) m) (hq : ∀ M, Sep R M → q.at M) (hg : GoodP q) (hf : freeF q = true) (hU : ∀ i, i ∈ q.ins → ∀ j, 0 ≤ [i.s0, i.s1, i.s2, i.s3].getD j 0) (hat : a ≤ line.size) (hls : line.size < 1099511627776) (hkd : In64 kind) :
    FCalls Try.prog 20 [.pointer (some ⟨d, 0, none⟩), q.val, Cl.val ⟨kind, line, ((a : Nat) : Int), again⟩] m fun v m' => v = .bool true ∧ ∃ S' F', Sep (dk q d S' F' (fun x => x.room = room ∧ (F' = F → knC kind x line a)) :: R) m' ∧ Ran q.ins.length S F S' F' (line.size - a) (∀ x, (x.room = room ∧ Kn x) → knC kind x line a) := by
  refine fcalls_of_vc (T := tbl) (B := bodies) (pr := [99999]) (DR := dr20) (args := [.v (.pointer (some ⟨d, 0, none⟩)), .v q.val, .v (Cl.val ⟨kind, line, ((a : Nat) : Int), again⟩)]) tbl_ok bodies_ok mixed Try.func20 rfl (by decide +kernel) (by simp [Try.f20]) rfl ?_
  (conv => whnf)
  intro b4 m1 hb4 he
  replace hS := hS.new' (l := q.cells) hb4 he
  clear hb4 he
  (conv => whnf)
  intro b5 m2 hb5 he
  replace hS := hS.new' (l := Cl.cells ⟨kind, line, ((a : Nat) : Int), again⟩) hb5 he
  clear hb5 he
  (conv => whnf)
  have k0 := hS.cell 0 (i := 0) rfl rfl
  have k1 := hS.cell 0 (i := 1) rfl rfl
  have k2 := hS.cell 0 (i := 2) rfl rfl
  refine ⟨_, k2, ?_⟩
  (conv => whnf)
  refine ⟨_, k2, ?_⟩
  (conv => whnf)
  refine ⟨_, k1, ?_⟩
  (conv => whnf)
  refine brk_false (by simp; omega) ?_
  (conv => whnf)
  refine ⟨_, k0, ?_⟩
  (conv => whnf)
  refine FCalls.mono (pick_c hkd.1 hkd.2 (by omega)) ?_
  rintro v mB ⟨rfl, rfl⟩
  have hpk := pickI_range (c := kind) (n := 3) (by omega)
  unfold knC
  generalize pickI kind 3 = pk at hpk ⊢
  rcases (show pk = 0 ∨ pk = 1 ∨ pk = 2 by omega) with rfl | rfl | rfl
  · simp only [if_true]
    (conv => whnf)
    refine ⟨_, k1, ?_⟩
    (conv => whnf)
    refine ⟨_, k2, ?_⟩
    (conv => whnf)
    refine FCalls.mono (hS.call 2 rfl fun m1 h1 => run_l h1 hat hls) ?_
    clear hS k0 k1 k2
    rintro v m6 ⟨m7, ⟨S', F', rfl, h1, hRn⟩, h2⟩
    have hS := (h2.one h1).back (j := 2) (by simp)
    clear h1 h2
    replace hS : Sep (pt b5 (Cl.cells ⟨kind, line, ((a : Nat) : Int), again⟩) :: pt b4 q.cells :: dk q d S' F' (fun x => x.room = room ∧ (F' = F → Known false (((a : Nat) : Int) == 0) false x (bytesOf line a))) :: R) m6 := hS.turn 2 rfl fun _ _ g => dk_weak g fun x ⟨⟨x0, ⟨h3, _⟩, h4⟩, h5⟩ => ⟨h4.trans h3, h5⟩
    have hgm := gmax_last (T := lst (auOf q) false line a) plays_sort
    generalize hLi : lastI (lst (auOf q) false line a) = LI at hgm ⊢
    generalize hLe : (lst (auOf q) false line a).isEmpty = LE at hgm ⊢
    have k1 := hS.cell 0 (i := 1) rfl rfl
    have k2 := hS.cell 0 (i := 2) rfl rfl
    (conv => whnf)
    refine ⟨_, _, _, hS.cell 1 (i := 0) rfl rfl, ?_⟩
    (conv => whnf)
    refine ⟨_, hS.cell 1 (i := 1) rfl rfl, ?_⟩
    (conv => whnf)
    refine ⟨_, hS.cell 1 (i := 2) rfl rfl, ?_⟩
    (conv => whnf)
    refine ⟨_, hS.cell 1 (i := 3) rfl rfl, ?_⟩
    (conv => whnf)
    refine ⟨_, k1, ?_⟩
    (conv => whnf)
    refine ⟨?_, ?_⟩
    rotate_left
    · refine ⟨?_, True.intro⟩
      (conv => whnf)
      refine ⟨_, k2, ?_⟩
      (conv => whnf)
      refine FCalls.mono (longest_c (q := q) hS (fun M h => hq M (((h.drop 0).drop 0).drop 0)) hg hf hU hls) ?_
      clear hS k1 k2
      rintro v m8 ⟨ob, rfl, hS⟩
      (conv => whnf)
      refine ⟨_, rfl, by show (0 : Int) ≤ ((a : Nat) : Int); omega, by show ((a : Nat) : Int) < ((line.size + 1 : Nat) : Int); omega, ?_⟩
      (conv => whnf)
      refine ⟨_, by show Mem.cell _ ((⟨ob, 0, none⟩ : Addr).add (((a : Nat) : Int).toNat * 1)) = _; rw [ax]; exact hS.cell 0 (i := a) rfl (lon_get hat), ?_⟩
      generalize gmax (lst (auOf q) false line a) = G at hgm ⊢
      (conv => whnf)
      have hle : ((!LE) == decide (G ≥ 0)) = true := by
        have h := hgm.2
        cases LE with
        | false => rw [decide_eq_true (h.1 rfl)]; rfl
        | true => rw [decide_eq_false (fun hh => by cases h.2 hh)]; rfl
      refine brk_true (by rw [hle]; rfl) ?_
      (conv => whnf)
      refine ⟨?_, S', F', (hS.drop 0 |>.drop 0).drop 0, hRn⟩
      show Value.bool (LI == if 0 > G then 0 else G) = _
      rw [hgm.1]
      congr 1
      by_cases hg0 : 0 > G
      · rw [if_pos hg0, Int.max_eq_right (by omega)]
        rfl
      · rw [if_neg hg0, Int.max_eq_left (by omega)]
        simp
    · (conv => whnf)
      refine FCalls.mono (longest_c (q := q) hS (fun M h => hq M (((h.drop 0).drop 0).drop 0)) hg hf hU hls) ?_
      clear hS k1 k2
      rintro v m8 ⟨ob, rfl, hS⟩
      have k2 := hS.cell 1 (i := 2) rfl rfl
      (conv => whnf)
      refine ⟨_, k2, ?_⟩
      (conv => whnf)
      refine ⟨_, rfl, by show (0 : Int) ≤ ((a : Nat) : Int); omega, by show ((a : Nat) : Int) < ((line.size + 1 : Nat) : Int); omega, ?_⟩
      (conv => whnf)
      refine ⟨_, by show Mem.cell _ ((⟨ob, 0, none⟩ : Addr).add (((a : Nat) : Int).toNat * 1)) = _; rw [ax]; exact hS.cell 0 (i := a) rfl (lon_get hat), ?_⟩
      generalize gmax (lst (auOf q) false line a) = G at hgm ⊢
      (conv => whnf)
      have hle : ((!LE) == decide (G ≥ 0)) = true := by
        have h := hgm.2
        cases LE with
        | false => rw [decide_eq_true (h.1 rfl)]; rfl
        | true => rw [decide_eq_false (fun hh => by cases h.2 hh)]; rfl
      refine brk_true (by rw [hle]; rfl) ?_
      (conv => whnf)
      refine ⟨?_, S', F', (hS.drop 0 |>.drop 0).drop 0, hRn⟩
      show Value.bool (LI == if 0 > G then 0 else G) = _
      rw [hgm.1]
      congr 1
      by_cases hg0 : 0 > G
      · rw [if_pos hg0, Int.max_eq_right (by omega)]
        rfl
      · rw [if_neg hg0, Int.max_eq_left (by omega)]
        simp
  · simp only [if_neg (show ¬ (1 : Int) = 0 by decide), if_true]
    (conv => whnf)
    refine ⟨_, k1, ?_⟩
    (conv => whnf)
    refine ⟨_, k2, ?_⟩
    (conv => whnf)
    refine FCalls.mono (hS.call 2 rfl fun m1 h1 => run_a h1 hat hls) ?_
    clear hS k0 k1 k2
    rintro v m6 ⟨m7, ⟨S', F', rfl, h1, hRn⟩, h2⟩
    have hS := (h2.one h1).back (j := 2) (by simp)
    clear h1 h2
    replace hS : Sep (pt b5 (Cl.cells ⟨kind, line, ((a : Nat) : Int), again⟩) :: pt b4 q.cells :: dk q d S' F' (fun x => x.room = room ∧ (F' = F → Known true (((a : Nat) : Int) == 0) true x (bytesOf line a))) :: R) m6 := hS.turn 2 rfl fun _ _ g => dk_weak g fun x ⟨⟨x0, ⟨h3, _⟩, h4⟩, h5⟩ => ⟨h4.trans h3, h5⟩
    have k1 := hS.cell 0 (i := 1) rfl rfl
    have k2 := hS.cell 0 (i := 2) rfl rfl
    (conv => whnf)
    refine ⟨_, _, _, hS.cell 1 (i := 0) rfl rfl, ?_⟩
    (conv => whnf)
    refine ⟨_, hS.cell 1 (i := 1) rfl rfl, ?_⟩
    (conv => whnf)
    refine ⟨_, hS.cell 1 (i := 2) rfl rfl, ?_⟩
    (conv => whnf)
    refine ⟨_, hS.cell 1 (i := 3) rfl rfl, ?_⟩
    (conv => whnf)
    refine ⟨_, k1, ?_⟩
    (conv => whnf)
    refine ⟨_, k2, ?_⟩
    (conv => whnf)
    refine FCalls.mono (anywhere_n hS (fun M h => hq M (((h.drop 0).drop 0).drop 0)) hg hf hU hat hls) ?_
    clear hS k1 k2
    rintro v m8 ⟨A', c', rfl, hS⟩
    generalize lst (auOf q) true line a = T at hS ⊢
    cases T with
    | nil =>
      (conv => whnf)
      exact ⟨rfl, S', F', ((hS.drop 0).drop 0).drop 0, hRn⟩
    | cons t T =>
      obtain ⟨p, hp, hc⟩ := (hS.rd 0 rfl).at (k := 0) (v := .int .i64 ((t : Nat) : Int)) rfl
      (conv => whnf)
      refine ⟨p, hp, by omega, by show (0 : Int) < ((T.length + 1 : Nat) : Int); omega, ?_⟩
      (conv => whnf)
      refine ⟨_, hc, ?_⟩
      (conv => whnf)
      refine ⟨?_, S', F', ((hS.drop 0).drop 0).drop 0, hRn⟩
      show Value.bool (((t : Nat) : Int) == ((t : Nat) : Int)) = _
      simp
  · simp only [if_neg (show ¬ (2 : Int) = 0 by decide), if_neg (show ¬ (2 : Int) = 1 by decide)]
    (conv => whnf)
    refine ⟨_, k1, ?_⟩
    (conv => whnf)
    refine ⟨_, k2, ?_⟩
    (conv => whnf)
    refine FCalls.mono (hS.call 2 rfl fun m1 h1 => run_e h1 hat hls) ?_
    clear hS k0 k1 k2
    rintro v m6 ⟨m7, ⟨S', F', B, c, rfl, h1, hRn⟩, h2⟩
    have hS := h2.sep h1
    clear h1 h2
    replace hS : Sep (sl B (lst (auOf q) true line a).length c 1 (nv (lst (auOf q) true line a)) :: dk q d S' F' (fun x => x.room = room ∧ (F' = F → Known false (((a : Nat) : Int) == 0) true x (bytesOf line a))) :: pt b5 (Cl.cells ⟨kind, line, ((a : Nat) : Int), again⟩) :: pt b4 q.cells :: R) m6 := hS.turn 1 rfl fun _ _ g => dk_weak g fun x ⟨⟨x0, ⟨h3, _⟩, h4⟩, h5⟩ => ⟨h4.trans h3, h5⟩
    have k1 := hS.cell 2 (i := 1) rfl rfl
    have k2 := hS.cell 2 (i := 2) rfl rfl
    (conv => whnf)
    refine ⟨_, _, _, hS.cell 3 (i := 0) rfl rfl, ?_⟩
    (conv => whnf)
    refine ⟨_, hS.cell 3 (i := 1) rfl rfl, ?_⟩
    (conv => whnf)
    refine ⟨_, hS.cell 3 (i := 2) rfl rfl, ?_⟩
    (conv => whnf)
    refine ⟨_, hS.cell 3 (i := 3) rfl rfl, ?_⟩
    (conv => whnf)
    refine ⟨_, k1, ?_⟩
    (conv => whnf)
    refine ⟨_, k2, ?_⟩
    (conv => whnf)
    refine FCalls.mono (anywhere_n hS (fun M h => hq M ((((h.drop 0).drop 0).drop 0).drop 0)) hg hf hU hat hls) ?_
    clear hS k1 k2
    rintro v m8 ⟨A', c', rfl, hS⟩
    have hTl : (lst (auOf q) true line a).length ≤ line.size + 1 := lst_len hat
    generalize lst (auOf q) true line a = T at hS hTl ⊢
    (conv => whnf)
    refine FCalls.mono (places_c (hS.rd 1 rfl) (hS.rd 0 rfl) (by omega)) ?_
    rintro v mP ⟨rfl, rfl⟩
    rw [decide_eq_true rfl]
    replace hS : Sep (sl B T.length c 1 (nv T) :: dk q d S' F' (fun x => x.room = room ∧ (F' = F → Known false (((a : Nat) : Int) == 0) true x (bytesOf line a))) :: R) mP := ((hS.drop 0).drop 2).drop 2
    (conv => whnf)
    refine loop_keep [24, 25] (Nat × List Value × Mem) (fun s => [(26, .v (.int .i64 ((s.1 : Nat) : Int))), (23, .v (.slice B T.length c))]) (fun _ => []) (fun s => s.2.2)
      (fun s => Sep (sl B T.length c 1 s.2.1 :: dk q d S' F' (fun x => x.room = room ∧ (F' = F → Known false (((a : Nat) : Int) == 0) true x (bytesOf line a))) :: R) s.2.2 ∧ s.1 ≤ T.length)
      (fun s => T.length - s.1) (0, nv T, mP) ⟨rfl, rfl, trivial⟩ rfl rfl ⟨hS, Nat.zero_le _⟩ ?_
    clear hS
    (conv => whnf)
    refine ⟨rfl, ?_⟩
    rintro ⟨j, W, M⟩ ⟨hS, hj⟩
    simp only at hS hj
    have hW : W.length = T.length := by have := (hS.asn 0 rfl).1; omega
    (conv => whnf)
    refine brk_intro (fun c2 => ?_) (fun c2 => ?_)
    · have c2 : ((j : Nat) : Int) < ((T.length : Nat) : Int) := of_decide_eq_true c2
      have wj : IntKind.i64.wrap ((j : Int) + 1) = ((j + 1 : Nat) : Int) := wrap_id (by omega) (by omega)
      obtain ⟨p, hp, hroom, hS2⟩ := hS.st 0 (k := j) (.int .i64 (-5)) rfl (by omega)
      (conv => whnf)
      refine ⟨p, hp, by omega, by show ((j : Nat) : Int) < ((T.length : Nat) : Int); omega, ?_⟩
      (conv => whnf)
      refine ⟨by show (∃ u, M.cell (p.add (((j : Nat) : Int).toNat * 1)) = some u) ∧ M.fz (p.add (((j : Nat) : Int).toNat * 1)) = false; rw [Int.toNat_natCast, Nat.mul_one]; exact hroom, fun m5 he => ?_⟩
      replace he : m5 = M.setCell (p.add j) (.int .i64 (-5)) := he.trans (by show M.setCell (p.add (((j : Nat) : Int).toNat * 1)) _ = _; rw [Int.toNat_natCast, Nat.mul_one])
      rw [← he] at hS2
      (conv => whnf)
      exact ⟨(j + 1, W.set j (.int .i64 (-5)), m5), le_eq ⟨by show some (AV.v (.int .i64 (IntKind.i64.wrap ((j : Int) + 1)))) = _; rw [wj], rfl, rfl, rfl, trivial⟩ rfl rfl rfl, ⟨hS2, by simp only; omega⟩, by simp only; omega⟩
    (conv => whnf)
    intro nb m6 hb he
    replace hS := hS.new' (l := [.int .i64 (-5), .int .i64 (-5)]) hb he
    have hBn : m6.holds ⟨nb, 0, none⟩ [.int .i64 (-5), .int .i64 (-5)] := (hS.blk 0 rfl).holds fun k v hk => by rw [Nat.zero_add]; exact hk
    clear hb he
    (conv => whnf)
    obtain ⟨ok, hR⟩ := hS.app 1 (T := tbl) (e := 3) (news := [.int .i64 (-5), .int .i64 (-5)]) (k := 2) (B := some ⟨nb, 0, none⟩) rfl rfl (.inr ⟨_, rfl, hBn⟩) rfl rfl (by show 2 * (T.length + _) * 8 ≤ 2 ^ 48; omega) rfl
    refine ⟨_, _, ok, fun B' e' m7 hr => ?_⟩
    replace hS := (hR _ _ _ hr).drop 0
    clear ok hR hr hBn
    (conv => whnf)
    refine ⟨?_, S', F', hS.drop 0, hRn⟩
    show Value.bool (decide (((T.length + 2 : Nat) : Int) ≥ 2)) = _
    rw [decide_eq_true (by omega)]
end Go.Proofs.Ytkkcdfnlmhmheaa
/- Dfa: DfaPlays. -/
namespace Go.Proofs.Ytkkcdfnlmhmheaa
open Go Go.Mv
set_option maxHeartbeats 8000000
set_option maxRecDepth 10000
set_option linter.unusedVariables false
set_option linter.unusedSimpArgs false
attribute [local irreducible] FCalls IntKind.wrap bits Mem.set Mem.setCell Mem.setCells YCalls RunP NextP RunU
def bigB : Nat := 1000000000000
theorem dfaPlays_c {m : Mem} {q : Prg} {room : Int} {A : Option Addr} {c : Nat} {zs : List Cl} (hq : q.at m) (hU : ∀ i, i ∈ q.ins → ∀ j, 0 ≤ [i.s0, i.s1, i.s2, i.s3].getD j 0) (h1 : In64 room) (hA : Rd m A (zs.flatMap Cl.cells)) (hz : ∀ z, z ∈ zs → z.line.size ≤ 1048576 ∧ In64 z.kind ∧ In64 z.at') (hn : zs.length ≤ 1048576) :
    FCalls Try.prog 8 [q.val, .int .i64 room, .slice A zs.length c] m fun v m' => v = .bool true ∧ m' = m := by
  refine FCalls.less ?_
  have hp1 := pickI_range (c := room) (n := 99999) (by omega)
  have hw1 : IntKind.i64.wrap (2 + pickI room 99999) = 2 + pickI room 99999 := wrap_id (by omega) (by omega)
  refine fcalls_of_vc (T := tbl) (B := bodies) (pr := [99999, 3, 8]) (DR := dr8) (args := [.v q.val, .v (.int .i64 room), .v (.slice A zs.length c)]) tbl_ok bodies_ok mixed Try.func8 rfl (by decide +kernel) (by simp [Try.f8]) rfl ?_
  (conv => whnf)
  refine FCalls.mono known_c ?_
  rintro v m' ⟨rfl, rfl⟩
  (conv => whnf)
  refine FCalls.mono (pick_c h1.1 h1.2 (by omega)) ?_
  rintro v mB ⟨rfl, rfl⟩
  (conv => whnf)
  rw [hw1]
  generalize hrm : 2 + pickI room 99999 = rm at hw1 ⊢
  refine FCalls.mono (refused_c (q := q) hq) ?_
  rintro v mC ⟨rfl, rfl⟩
  rcases Classical.em (refusedF q rm = 0) with hr | hr
  rotate_left
  · obtain ⟨rf, hrf⟩ : ∃ rf, rf = refusedF q rm := ⟨_, rfl⟩
    rw [← hrf] at hr ⊢
    (conv => whnf)
    refine brk_true (by simpa using hr) ?_
    (conv => whnf)
    exact ⟨_, Mem.le_refl _, rfl, rfl⟩
  obtain ⟨hg, hf, hr2, hr3⟩ := refused_good hr
  have hn0 := hg.n0
  have hn1 := hg.n1
  rw [hr]
  (conv => whnf)
  have hS : Sep [sl none 0 0 10 [], kp mC] mC := Sep.free (A := sl none 0 0 10 []) (Sep.init _) sl_nil
  obtain ⟨ok, hR⟩ := hS.app 0 (T := tbl) (e := 46) (news := icells q.ins) (k := q.ins.length) (B := q.A) rfl (icells_len _) (Rd.holds hq (icells_len _)) (icells_one _) rfl (by show 2 * (0 + q.ins.length) * 80 ≤ 2 ^ 48; omega) rfl
  refine ⟨_, _, ok, fun A' c' m3 hr4 => ?_⟩
  replace hS := hR _ _ _ hr4
  rw [Nat.zero_add, List.nil_append] at hS
  clear ok hR hr4
  rw [show 0 + q.ins.length = q.ins.length from Nat.zero_add _]
  (conv => whnf)
  have hS : Sep [sl A' q.ins.length c' 10 (icells q.ins), kp mC] m3 := hS
  refine FCalls.mono (new_k (q := { q with A := A', c := c' }) hS (hS.rd 0 rfl) hr) ?_
  rintro v m4 ⟨da, rfl, hS⟩
  replace hS : Sep [dk q da 0 0 (fun x => x.room = rm ∧ True), sl A' q.ins.length c' 10 (icells q.ins), kp mC] m4 := hS.turn 0 rfl fun _ _ g => dk_weak (q := q) g fun x h => ⟨h.1, trivial⟩
  (conv => whnf)
  refine loop_keep [1, 2, 3, 8, 9] (Nat × List Value × Mem) (fun s => [(11, .v (.int .i64 ((s.1 : Nat) : Int)))]) (fun _ => [.cells q.cells, .cells [.slice A' q.ins.length c', .int .i64 q.groups, .int .i64 q.counters, .bool q.fold]]) (fun s => s.2.2)
    (fun s => Sep [dk q da 0 0 (fun x => x.room = rm ∧ True), sl A' q.ins.length c' 10 s.2.1, kp mC] s.2.2 ∧ s.1 ≤ q.ins.length)
    (fun s => q.ins.length - s.1) (0, icells q.ins, m4) ⟨rfl, trivial⟩ rfl rfl ⟨hS, Nat.zero_le _⟩ ?_
  clear hS
  (conv => whnf)
  refine ⟨rfl, ?_⟩
  rintro ⟨j, W, M⟩ ⟨hS, hj⟩
  simp only at hS hj
  have hW : W.length = q.ins.length * 10 := (hS.asn 1 rfl).1
  (conv => whnf)
  refine brk_intro (fun c2 => ?_) (fun c2 => ?_)
  · have c2 : ((j : Nat) : Int) < ((q.ins.length : Nat) : Int) := of_decide_eq_true c2
    have wj : IntKind.i64.wrap ((j : Int) + 1) = ((j + 1 : Nat) : Int) := wrap_id (by omega) (by omega)
    obtain ⟨p, hp, hroom, hS2⟩ := hS.sts 1 (k := j * 10) [.int .i64 11, .int .i64 0, .int .i64 0, .int .i64 0, .int .i64 0, .int .i64 0, .int .u64 0, .int .u64 0, .int .u64 0, .int .u64 0] rfl (by simp; omega) (by simp)
    (conv => whnf)
    refine ⟨p, hp, by omega, by show ((j : Nat) : Int) < ((q.ins.length : Nat) : Int); omega, ?_⟩
    (conv => whnf)
    refine ⟨hroom, fun m5 he => ?_⟩
    replace he : m5 = M.setCells (p.add (j * 10)) 0 [.int .i64 11, .int .i64 0, .int .i64 0, .int .i64 0, .int .i64 0, .int .i64 0, .int .u64 0, .int .u64 0, .int .u64 0, .int .u64 0] := he
    rw [← he] at hS2
    (conv => whnf)
    exact ⟨(j + 1, _, m5), le_eq ⟨by show some (AV.v (.int .i64 (IntKind.i64.wrap ((j : Int) + 1)))) = _; rw [wj], rfl, rfl, rfl, rfl, rfl, trivial⟩ rfl rfl rfl, ⟨hS2, by simp only; omega⟩, by simp only; omega⟩
  replace hS : Sep [dk q da 0 0 (fun x => x.room = rm ∧ True), kp mC] M := hS.drop 1
  clear c2 hW hj
  (conv => whnf)
  refine loop_keep [1, 2, 3, 9] (Nat × Nat × Nat × Mem) (fun s => [(12, .v (.int .i64 ((s.1 : Nat) : Int)))]) (fun _ => [.cells q.cells, .cells [.slice A' q.ins.length c', .int .i64 q.groups, .int .i64 q.counters, .bool q.fold]]) (fun s => s.2.2.2)
    (fun s => Sep [dk q da s.2.1 s.2.2.1 (fun x => x.room = rm ∧ True), kp mC] s.2.2.2 ∧ s.1 ≤ zs.length ∧ s.1 ≤ 60 ∧ s.2.1 ≤ s.1 * 1000000000000 ∧ s.2.2.1 ≤ s.1 * 1000000000000)
    (fun s => zs.length - s.1) (0, 0, 0, M) ⟨rfl, trivial⟩ rfl rfl ⟨hS, Nat.zero_le _, Nat.zero_le _, Nat.zero_le _, Nat.zero_le _⟩ ?_
  clear hS
  (conv => whnf)
  refine ⟨rfl, ?_⟩
  rintro ⟨i, S, F, M⟩ ⟨hS, hi, hi6, hSb, hFb⟩
  simp only at hS hi hi6 hSb hFb
  have fin : ∃ m'', (∀ b o, m'' b = some o → M b = some o) ∧ Value.bool true = .bool true ∧ m'' = mC := ⟨_, hS.kept 1 rfl, rfl, rfl⟩
  (conv => whnf)
  refine brk_intro (fun c1 => ?_) (fun c1 => ?_)
  rotate_left
  · (conv => whnf)
    exact fin
  have c1 : ((i : Nat) : Int) < ((zs.length : Nat) : Int) := of_decide_eq_true (beqT c1)
  (conv => whnf)
  refine brk_intro (fun c2 => ?_) (fun c2 => ?_)
  rotate_left
  · (conv => whnf)
    exact fin
  have c2 : ((i : Nat) : Int) < 60 := of_decide_eq_true c2
  clear fin
  have step1 : IntKind.i64.wrap ((i : Int) + 1) = ((i + 1 : Nat) : Int) := wrap_id (by omega) (by omega)
  obtain ⟨⟨kind, line, at', again⟩, hzi⟩ : ∃ z, zs[i]? = some z := ⟨_, List.getElem?_eq_getElem (by omega)⟩
  obtain ⟨hzl, hzk, hza⟩ := hz _ (List.mem_of_getElem? hzi)
  have hBS : ∀ y, y ≤ i * 1000000000000 + 1000000000000 → y ≤ (i + 1) * 1000000000000 := fun y hy => by rw [Nat.add_mul, Nat.one_mul]; exact hy
  have hSn : S ≤ (i + 1) * 1000000000000 := hBS S (Nat.le_trans hSb (Nat.le_add_right _ _))
  have hFn : F ≤ (i + 1) * 1000000000000 := hBS F (Nat.le_trans hFb (Nat.le_add_right _ _))
  obtain ⟨p, hp, hcp⟩ := cl_at (hA.more (hS.kept 1 rfl)) hzi
  (conv => whnf)
  refine ⟨p, hp, by omega, by omega, ?_⟩
  (conv => whnf)
  refine ⟨_, hcp 0 _ rfl, ?_⟩
  (conv => whnf)
  refine ⟨_, hcp 1 _ rfl, ?_⟩
  (conv => whnf)
  refine ⟨_, hcp 2 _ rfl, ?_⟩
  (conv => whnf)
  refine ⟨_, hcp 3 _ rfl, ?_⟩
  clear hcp hp
  simp only at hzl hzk hza
  (conv => whnf)
  intro b13 m5 hb he
  replace hS := hS.new' (l := [.int .i64 0, .string ⟨#[]⟩, .int .i64 0, .bool false]) hb he
  clear hb he
  (conv => whnf)
  refine ⟨hS.rooms 0 (i := 0) rfl (by decide), fun m6 he => ?_⟩
  replace hS : Sep [pt b13 (Cl.cells ⟨kind, line, at', again⟩), dk q da S F (fun x => x.room = rm ∧ True), kp mC] m6 := he ▸ hS.putAll 0 (i := 0) (Cl.cells ⟨kind, line, at', again⟩) rfl
  clear he
  replace hS : Sep [dk q da S F (fun x => x.room = rm ∧ True), pt b13 (Cl.cells ⟨kind, line, at', again⟩), kp mC] m6 := hS.move 1 rfl
  (conv => whnf)
  refine FCalls.mono (steps_c (dk_at hS 0 rfl)) ?_
  rintro v m7 ⟨rfl, rfl⟩
  rw [w64_eq (show S < 9223372036854775808 by omega)]
  (conv => whnf)
  refine FCalls.mono (flushes_c (dk_at hS 0 rfl)) ?_
  rintro v m8 ⟨rfl, rfl⟩
  rw [w64_eq (show F < 9223372036854775808 by omega)]
  (conv => whnf)
  refine ⟨_, hS.cell 1 (i := 0) rfl rfl, ?_⟩
  (conv => whnf)
  refine ⟨_, hS.cell 1 (i := 1) rfl rfl, ?_⟩
  (conv => whnf)
  refine ⟨_, hS.cell 1 (i := 2) rfl rfl, ?_⟩
  (conv => whnf)
  refine ⟨_, hS.cell 1 (i := 3) rfl rfl, ?_⟩
  (conv => whnf)
  rcases Classical.em (at' < 0 ∨ ((line.size : Nat) : Int) < at') with hb | hb
  · refine FCalls.mono (asked_bad (q := q) (z := ⟨kind, line, at', again⟩) hS hb) ?_
    clear hS
    rintro v m9 ⟨rfl, hS⟩
    (conv => whnf)
    refine ⟨_, hS.cell 1 (i := 2) rfl rfl, ?_⟩
    (conv => whnf)
    refine brk_intro (fun c3 => ?_) (fun c3 => ?_)
    · have c3 : 0 ≤ at' := by simpa using c3
      (conv => whnf)
      refine ⟨_, hS.cell 1 (i := 2) rfl rfl, ?_⟩
      (conv => whnf)
      refine ⟨_, hS.cell 1 (i := 1) rfl rfl, ?_⟩
      (conv => whnf)
      refine brk_false (by simp; omega) ?_
      (conv => whnf)
      refine FCalls.mono (steps_c (dk_at hS 0 rfl)) ?_
      rintro v m11 ⟨rfl, rfl⟩
      rw [w64_eq (show S < 9223372036854775808 by omega)]
      (conv => whnf)
      refine brk_true (by first | (simp; done) | (simp; omega)) ?_
      (conv => whnf)
      rw [show IntKind.i64.wrap (((S : Nat) : Int) - ((S : Nat) : Int)) = ((S - S : Nat) : Int) by rw [wrap_id (by omega) (by omega)]; omega]
      refine brk_true (by rw [decide_eq_false (by show ¬ ((0 : Int) < ((S - S : Nat) : Int)); omega)]; rfl) ?_
      (conv => whnf)
      refine FCalls.mono (flushes_c (dk_at hS 0 rfl)) ?_
      rintro v m12 ⟨rfl, rfl⟩
      rw [w64_eq (show F < 9223372036854775808 by omega)]
      (conv => whnf)
      refine brk_true (by first | (simp; done) | (simp; omega)) ?_
      (conv => whnf)
      refine FCalls.mono (states_c (dk_at hS 0 rfl)) ?_
      rintro v m13 ⟨⟨n1, rfl, _⟩, rfl⟩
      (conv => whnf)
      refine FCalls.mono (states_c (dk_at hS 0 rfl)) ?_
      rintro v m14 ⟨⟨n2, rfl, x2, ⟨hx2, _⟩, hn2, _⟩, rfl⟩
      rw [hx2] at hn2
      (conv => whnf)
      refine brk_false (by simp; omega) ?_
      (conv => whnf)
      refine ⟨_, hS.cell 1 (i := 3) rfl rfl, ?_⟩
      (conv => whnf)
      refine brk_intro (fun c5 => ?_) (fun c5 => ?_)
      · (conv => whnf)
        refine ⟨(i + 1, S, F, _), le_eq ⟨by show some (AV.v (.int .i64 (IntKind.i64.wrap ((i : Int) + 1)))) = _; rw [step1], rfl, rfl, rfl, rfl, trivial⟩ rfl rfl rfl, ⟨?_, by simp only; omega, by simp only; omega, hSn, hFn⟩, by simp only; omega⟩
        exact (hS.drop 1).turn 0 rfl fun _ _ g => dk_weak g fun x h => ⟨h.1, trivial⟩
      · (conv => whnf)
        refine ⟨_, hS.cell 1 (i := 0) rfl rfl, ?_⟩
        (conv => whnf)
        refine ⟨_, hS.cell 1 (i := 1) rfl rfl, ?_⟩
        (conv => whnf)
        refine ⟨_, hS.cell 1 (i := 2) rfl rfl, ?_⟩
        (conv => whnf)
        refine ⟨_, hS.cell 1 (i := 3) rfl rfl, ?_⟩
        (conv => whnf)
        refine FCalls.mono (asked_bad (q := q) (z := ⟨kind, line, at', again⟩) hS hb) ?_
        clear hS
        rintro v m15 ⟨rfl, hS⟩
        (conv => whnf)
        refine FCalls.mono (steps_c (dk_at hS 0 rfl)) ?_
        rintro v m16 ⟨rfl, rfl⟩
        rw [w64_eq (show S < 9223372036854775808 by omega)]
        (conv => whnf)
        refine brk_true (by simp) ?_
        (conv => whnf)
        refine FCalls.mono (flushes_c (dk_at hS 0 rfl)) ?_
        rintro v m17 ⟨rfl, rfl⟩
        rw [w64_eq (show F < 9223372036854775808 by omega)]
        (conv => whnf)
        refine brk_true (by simp) ?_
        (conv => whnf)
        refine FCalls.mono (steps_c (dk_at hS 0 rfl)) ?_
        rintro v m18 ⟨rfl, rfl⟩
        rw [w64_eq (show S < 9223372036854775808 by omega)]
        (conv => whnf)
        refine brk_false (by rw [show IntKind.i64.wrap (((S : Nat) : Int) - ((S : Nat) : Int)) = 0 by rw [wrap_id (by omega) (by omega)]; omega, show IntKind.i64.wrap ((0 : Int) + 1) = 1 from wrap_id (by omega) (by omega), show IntKind.i64.wrap (4 * (1 : Int)) = 4 from wrap_id (by omega) (by omega)]; rfl) ?_
        (conv => whnf)
        refine ⟨(i + 1, S, F, _), le_eq ⟨by show some (AV.v (.int .i64 (IntKind.i64.wrap ((i : Int) + 1)))) = _; rw [step1], rfl, rfl, rfl, rfl, trivial⟩ rfl rfl rfl, ⟨?_, by simp only; omega, by simp only; omega, hSn, hFn⟩, by simp only; omega⟩
        exact (hS.drop 1).turn 0 rfl fun _ _ g => dk_weak g fun x h => ⟨h.1, trivial⟩
    · have c3 : at' < 0 := by simpa using c3
      (conv => whnf)
      refine FCalls.mono (steps_c (dk_at hS 0 rfl)) ?_
      rintro v m11 ⟨rfl, rfl⟩
      rw [w64_eq (show S < 9223372036854775808 by omega)]
      (conv => whnf)
      refine brk_true (by first | (simp; done) | (simp; omega)) ?_
      (conv => whnf)
      rw [show IntKind.i64.wrap (((S : Nat) : Int) - ((S : Nat) : Int)) = ((S - S : Nat) : Int) by rw [wrap_id (by omega) (by omega)]; omega]
      refine brk_true (by rw [decide_eq_false (by show ¬ ((0 : Int) < ((S - S : Nat) : Int)); omega)]; rfl) ?_
      (conv => whnf)
      refine FCalls.mono (flushes_c (dk_at hS 0 rfl)) ?_
      rintro v m12 ⟨rfl, rfl⟩
      rw [w64_eq (show F < 9223372036854775808 by omega)]
      (conv => whnf)
      refine brk_true (by first | (simp; done) | (simp; omega)) ?_
      (conv => whnf)
      refine FCalls.mono (states_c (dk_at hS 0 rfl)) ?_
      rintro v m13 ⟨⟨n1, rfl, _⟩, rfl⟩
      (conv => whnf)
      refine FCalls.mono (states_c (dk_at hS 0 rfl)) ?_
      rintro v m14 ⟨⟨n2, rfl, x2, ⟨hx2, _⟩, hn2, _⟩, rfl⟩
      rw [hx2] at hn2
      (conv => whnf)
      refine brk_false (by simp; omega) ?_
      (conv => whnf)
      refine ⟨_, hS.cell 1 (i := 3) rfl rfl, ?_⟩
      (conv => whnf)
      refine brk_intro (fun c5 => ?_) (fun c5 => ?_)
      · (conv => whnf)
        refine ⟨(i + 1, S, F, _), le_eq ⟨by show some (AV.v (.int .i64 (IntKind.i64.wrap ((i : Int) + 1)))) = _; rw [step1], rfl, rfl, rfl, rfl, trivial⟩ rfl rfl rfl, ⟨?_, by simp only; omega, by simp only; omega, hSn, hFn⟩, by simp only; omega⟩
        exact (hS.drop 1).turn 0 rfl fun _ _ g => dk_weak g fun x h => ⟨h.1, trivial⟩
      · (conv => whnf)
        refine ⟨_, hS.cell 1 (i := 0) rfl rfl, ?_⟩
        (conv => whnf)
        refine ⟨_, hS.cell 1 (i := 1) rfl rfl, ?_⟩
        (conv => whnf)
        refine ⟨_, hS.cell 1 (i := 2) rfl rfl, ?_⟩
        (conv => whnf)
        refine ⟨_, hS.cell 1 (i := 3) rfl rfl, ?_⟩
        (conv => whnf)
        refine FCalls.mono (asked_bad (q := q) (z := ⟨kind, line, at', again⟩) hS hb) ?_
        clear hS
        rintro v m15 ⟨rfl, hS⟩
        (conv => whnf)
        refine FCalls.mono (steps_c (dk_at hS 0 rfl)) ?_
        rintro v m16 ⟨rfl, rfl⟩
        rw [w64_eq (show S < 9223372036854775808 by omega)]
        (conv => whnf)
        refine brk_true (by simp) ?_
        (conv => whnf)
        refine FCalls.mono (flushes_c (dk_at hS 0 rfl)) ?_
        rintro v m17 ⟨rfl, rfl⟩
        rw [w64_eq (show F < 9223372036854775808 by omega)]
        (conv => whnf)
        refine brk_true (by simp) ?_
        (conv => whnf)
        refine FCalls.mono (steps_c (dk_at hS 0 rfl)) ?_
        rintro v m18 ⟨rfl, rfl⟩
        rw [w64_eq (show S < 9223372036854775808 by omega)]
        (conv => whnf)
        refine brk_false (by rw [show IntKind.i64.wrap (((S : Nat) : Int) - ((S : Nat) : Int)) = 0 by rw [wrap_id (by omega) (by omega)]; omega, show IntKind.i64.wrap ((0 : Int) + 1) = 1 from wrap_id (by omega) (by omega), show IntKind.i64.wrap (4 * (1 : Int)) = 4 from wrap_id (by omega) (by omega)]; rfl) ?_
        (conv => whnf)
        refine ⟨(i + 1, S, F, _), le_eq ⟨by show some (AV.v (.int .i64 (IntKind.i64.wrap ((i : Int) + 1)))) = _; rw [step1], rfl, rfl, rfl, rfl, trivial⟩ rfl rfl rfl, ⟨?_, by simp only; omega, by simp only; omega, hSn, hFn⟩, by simp only; omega⟩
        exact (hS.drop 1).turn 0 rfl fun _ _ g => dk_weak g fun x h => ⟨h.1, trivial⟩
  · obtain ⟨a, rfl, hal⟩ := nat_at hb
    refine FCalls.mono (asked_ok (R := [pt b13 (Cl.cells ⟨kind, line, ((a : Nat) : Int), again⟩), kp mC]) hS (fun M h => hq.more (h.kept 1 rfl)) hg hf hU hal (by omega) hzk) ?_
    clear hS
    rintro v m9 ⟨rfl, S', F', hS, hRn⟩
    have hs0 := hRn.s0
    have hs1 := hRn.all hn0
    have hf0 := hRn.f0
    have hf1 := hRn.f1
    have hT : 8 * q.ins.length * (line.size - a + 1) ≤ 8 * 40000 * 1048577 := Nat.mul_le_mul (Nat.mul_le_mul_left _ hn1) (by omega)
    (conv => whnf)
    refine ⟨_, hS.cell 1 (i := 2) rfl rfl, ?_⟩
    (conv => whnf)
    refine ⟨_, hS.cell 1 (i := 2) rfl rfl, ?_⟩
    (conv => whnf)
    refine ⟨_, hS.cell 1 (i := 1) rfl rfl, ?_⟩
    (conv => whnf)
    refine brk_true (by simp; omega) ?_
    (conv => whnf)
    refine ⟨_, hS.cell 1 (i := 1) rfl rfl, ?_⟩
    (conv => whnf)
    refine ⟨_, hS.cell 1 (i := 2) rfl rfl, ?_⟩
    (conv => whnf)
    rw [show IntKind.i64.wrap (((line.size : Nat) : Int) - ((a : Nat) : Int)) = ((line.size - a : Nat) : Int) by rw [wrap_id (by omega) (by omega)]; omega]
    refine FCalls.mono (dfaSteps_c (q := q) (n := line.size - a) hn1 (by omega)) ?_
    rintro v m10 ⟨rfl, rfl⟩
    (conv => whnf)
    refine FCalls.mono (steps_c (dk_at hS 0 rfl)) ?_
    rintro v m11 ⟨rfl, rfl⟩
    rw [w64_eq (show S' < 9223372036854775808 by omega)]
    (conv => whnf)
    refine brk_true (by first | (simp; done) | (simp; omega)) ?_
    (conv => whnf)
    rw [show IntKind.i64.wrap (((S' : Nat) : Int) - ((S : Nat) : Int)) = ((S' - S : Nat) : Int) by rw [wrap_id (by omega) (by omega)]; omega]
    refine brk_true (by rw [decide_eq_false (by show ¬ (((8 * q.ins.length * (line.size - a + 1) : Nat) : Int) < ((S' - S : Nat) : Int)); omega)]; rfl) ?_
    (conv => whnf)
    refine FCalls.mono (flushes_c (dk_at hS 0 rfl)) ?_
    rintro v m12 ⟨rfl, rfl⟩
    rw [w64_eq (show F' < 9223372036854775808 by omega)]
    (conv => whnf)
    refine brk_true (by first | (simp; done) | (simp; omega)) ?_
    (conv => whnf)
    refine FCalls.mono (states_c (dk_at hS 0 rfl)) ?_
    rintro v m13 ⟨⟨n1, rfl, _⟩, rfl⟩
    (conv => whnf)
    refine FCalls.mono (states_c (dk_at hS 0 rfl)) ?_
    rintro v m14 ⟨⟨n2, rfl, x2, ⟨hx2, _⟩, hn2, _⟩, rfl⟩
    rw [hx2] at hn2
    (conv => whnf)
    refine brk_false (by simp; omega) ?_
    (conv => whnf)
    refine ⟨_, hS.cell 1 (i := 3) rfl rfl, ?_⟩
    (conv => whnf)
    refine brk_intro (fun c5 => ?_) (fun c5 => ?_)
    · (conv => whnf)
      refine ⟨(i + 1, S', F', _), le_eq ⟨by show some (AV.v (.int .i64 (IntKind.i64.wrap ((i : Int) + 1)))) = _; rw [step1], rfl, rfl, rfl, rfl, trivial⟩ rfl rfl rfl, ⟨?_, by simp only; omega, by simp only; omega, hBS S' (by omega), hBS F' (by omega)⟩, by simp only; omega⟩
      exact (hS.drop 1).turn 0 rfl fun _ _ g => dk_weak g fun x h => ⟨h.1, trivial⟩
    · (conv => whnf)
      refine ⟨_, hS.cell 1 (i := 0) rfl rfl, ?_⟩
      (conv => whnf)
      refine ⟨_, hS.cell 1 (i := 1) rfl rfl, ?_⟩
      (conv => whnf)
      refine ⟨_, hS.cell 1 (i := 2) rfl rfl, ?_⟩
      (conv => whnf)
      refine ⟨_, hS.cell 1 (i := 3) rfl rfl, ?_⟩
      (conv => whnf)
      refine FCalls.mono (asked_ok (R := [pt b13 (Cl.cells ⟨kind, line, ((a : Nat) : Int), again⟩), kp mC]) hS (fun M h => hq.more (h.kept 1 rfl)) hg hf hU hal (by omega) hzk) ?_
      clear hS
      rintro v m15 ⟨rfl, S2, F2, hS, hR2⟩
      have hs2 := hR2.s0
      have hs3 := hR2.all hn0
      have hf2 := hR2.f0
      have hf3 := hR2.f1
      have hhit : F2 = F → S2 ≤ S' + (line.size - a) := fun h => (hR2.hit fun x hx => hx.2 (by omega)).2
      (conv => whnf)
      refine FCalls.mono (steps_c (dk_at hS 0 rfl)) ?_
      rintro v m16 ⟨rfl, rfl⟩
      rw [w64_eq (show S2 < 9223372036854775808 by omega)]
      (conv => whnf)
      refine brk_true (by simp; omega) ?_
      (conv => whnf)
      refine FCalls.mono (flushes_c (dk_at hS 0 rfl)) ?_
      rintro v m17 ⟨rfl, rfl⟩
      rw [w64_eq (show F2 < 9223372036854775808 by omega)]
      (conv => whnf)
      by_cases hFF : F2 = F
      · have hhit := hhit hFF
        refine brk_true (by simp [hFF]) ?_
        (conv => whnf)
        refine FCalls.mono (steps_c (dk_at hS 0 rfl)) ?_
        rintro v m18 ⟨rfl, rfl⟩
        rw [w64_eq (show S2 < 9223372036854775808 by omega)]
        (conv => whnf)
        refine brk_false (by rw [show IntKind.i64.wrap (((S2 : Nat) : Int) - ((S' : Nat) : Int)) = ((S2 - S' : Nat) : Int) by rw [wrap_id (by omega) (by omega)]; omega, show IntKind.i64.wrap (((line.size - a : Nat) : Int) + 1) = ((line.size - a + 1 : Nat) : Int) from wrap_id (by omega) (by omega), show IntKind.i64.wrap (4 * ((line.size - a + 1 : Nat) : Int)) = ((4 * (line.size - a + 1) : Nat) : Int) by rw [wrap_id (by omega) (by omega)]; omega, decide_eq_false (by omega)]; rfl) ?_
        (conv => whnf)
        refine ⟨(i + 1, S2, F2, _), le_eq ⟨by show some (AV.v (.int .i64 (IntKind.i64.wrap ((i : Int) + 1)))) = _; rw [step1], rfl, rfl, rfl, rfl, trivial⟩ rfl rfl rfl, ⟨?_, by simp only; omega, by simp only; omega, hBS S2 (by omega), hBS F2 (by omega)⟩, by simp only; omega⟩
        exact (hS.drop 1).turn 0 rfl fun _ _ g => dk_weak g fun x h => ⟨h.1, trivial⟩
      · refine brk_false (by simp; omega) ?_
        (conv => whnf)
        refine ⟨(i + 1, S2, F2, _), le_eq ⟨by show some (AV.v (.int .i64 (IntKind.i64.wrap ((i : Int) + 1)))) = _; rw [step1], rfl, rfl, rfl, rfl, trivial⟩ rfl rfl rfl, ⟨?_, by simp only; omega, by simp only; omega, hBS S2 (by omega), hBS F2 (by omega)⟩, by simp only; omega⟩
        exact (hS.drop 1).turn 0 rfl fun _ _ g => dk_weak g fun x h => ⟨h.1, trivial⟩
end Go.Proofs.Ytkkcdfnlmhmheaa
/- Dfa: programs as they come in: the sets' words. -/
namespace Go.Proofs.Ytkkcdfnlmhmheaa
open Go Go.Mv
set_option maxHeartbeats 2000000
set_option linter.unusedVariables false
theorem u64_nn {a : Int} (h : (Lit.int .u64 a).wf = true) : 0 ≤ a := by
  unfold Lit.wf at h
  simp [IntKind.min, IntKind.max, IntKind.signed, IntKind.bits] at h
  omega
theorem u_ok {y : InsT} (hl : y.2.2.2.2.2.2.1.length = 4) (hw : ∀ x, x ∈ y.2.2.2.2.2.2.1 → (Lit.int .u64 x).wf = true) (j : Nat) : 0 ≤ [(toIns y).s0, (toIns y).s1, (toIns y).s2, (toIns y).s3].getD j 0 := by
  obtain ⟨a, b, c, d, e, f, l, u⟩ := y
  match l, hl, hw with
  | [p, q, r, s], _, hw =>
    have h0 := u64_nn (hw p (by simp))
    have h1 := u64_nn (hw q (by simp))
    have h2 := u64_nn (hw r (by simp))
    have h3 := u64_nn (hw s (by simp))
    match j with
    | 0 => exact h0
    | 1 => exact h1
    | 2 => exact h2
    | 3 => exact h3
    | n + 4 => exact Int.le_refl 0
end Go.Proofs.Ytkkcdfnlmhmheaa
