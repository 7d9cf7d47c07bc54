/- Table: over. -/
import Derived.Test.YtoifiplefjclbaaTbDo
namespace Go.Proofs.Ytoifiplefjclbaa
open Go Go.Mv
set_option maxHeartbeats 4000000
set_option maxRecDepth 10000
set_option linter.unusedVariables false
set_option linter.unusedSimpArgs false
attribute [local irreducible] FCalls IntKind.wrap bits Mem.set Mem.setCell Mem.setCells YCalls RunP NextP
structure Stp where
  kind : Int
  on : Int
  v : Int
  leave : Int
  A : Option Addr
  k : List Int
  c : Nat
  turn : Int
  inn : Int
  A2 : Option Addr
  k2 : List Int
  c2 : Nat
def Stp.cells (s : Stp) : List Value := [.int .i64 s.kind, .int .i64 s.on, .int .i64 s.v, .int .i64 s.leave, .slice s.A s.k.length s.c, .int .i64 s.turn, .int .i64 s.inn, .slice s.A2 s.k2.length s.c2]
def allF (b : Nat) : Value := .func (.func 31) #[] #[.pointer (some ⟨b, 0, none⟩)]
def pkI (k n : Int) : Int := (if k < 0 then -(k + 1) else k).tmod n
theorem pkI_lt {k n : Int} (hn : 0 < n) : 0 ≤ pkI k n ∧ pkI k n < n := by
  unfold pkI
  have h0 : 0 ≤ (if k < 0 then -(k + 1) else k) := by split <;> omega
  exact ⟨Int.tmod_nonneg _ h0, Int.tmod_lt_of_pos _ hn⟩
theorem pickx_c {m : Mem} {k n : Int} (hk : -9223372036854775808 ≤ k ∧ k ≤ 9223372036854775807) (hn : 0 < n) : FCalls Try.prog 11 [.int .i64 k, .int .i64 n] m fun v m' => v = .int .i64 (pkI k n) ∧ m' = m := by
  refine fcalls_of_vc (T := tbl) (B := bodies) (pr := [99999]) (DR := dr11) (args := [.v (.int .i64 k), .v (.int .i64 n)]) tbl_ok bodies_ok mixed Try.func11 rfl (by decide +kernel) (by simp [Try.f11]) rfl ?_
  (conv => whnf)
  refine brk_intro (fun c1 => ?_) (fun c1 => ?_)
  · have c1 : k < 0 := of_decide_eq_true c1
    (conv => whnf)
    rw [wrap_id (x := k + 1) (by omega) (by omega), wrap_id (by omega) (by omega)]
    refine ⟨by omega, ?_⟩
    (conv => whnf)
    refine ⟨?_, rfl⟩
    unfold pkI
    rw [if_pos c1, show -(k + 1) = 0 - (k + 1) by omega]
    rfl
  · have c1 : ¬ k < 0 := of_decide_eq_false c1
    (conv => whnf)
    refine ⟨by omega, ?_⟩
    (conv => whnf)
    refine ⟨?_, rfl⟩
    unfold pkI
    rw [if_neg c1]
    rfl
theorem tb_ex {K m : Mem} {p : Nat} {a : Abs} {R : List Asn} (h : Sep (tb K p a :: R) m) : ∃ t, Sep ((fun M => TabIn K M p a t) :: R) m := by
  obtain ⟨m1, m2, k1, k2, k3, ⟨t, hT⟩, k5⟩ := h
  exact ⟨t, m1, m2, k1, k2, k3, hT, k5⟩
theorem tw_le {Ks m : Mem} {p r : Nat} {L : List Asn} (h : Sep L m) (j : Nat) (hj : L[j]? = some (tw Ks p r)) : Ks.le m := by
  obtain ⟨m1, h1, K, a, top, l, h2, _, h3⟩ := h.get j hj
  exact Mem.le_trans h2 (Mem.le_trans (h3.kept 1 rfl) h1)
theorem all_x {K : Mem} {p b : Nat} {a : Abs} {t : Tab} {es : List (List Int × Int)} {it : Asn} (hit : ∀ m1 m, it m1 → m1.le m → m.cell ⟨b, 0, none⟩ = some (.pointer (some ⟨p, 0, none⟩))) (hes : Entries a.f es) :
    IterS Try.prog 31 [] [.pointer (some ⟨b, 0, none⟩)] (Sep [it, fun M => TabIn K M p a t, kp K]) (Sep [it, fun M => TabIn K M p a t, kp K])
      (fun M => K.le M ∧ ∀ s, s ∈ t.sl → Ints K s.kA s.ks) es.length
      (fun i vs L => ∃ k v A c, es[i]? = some (k, v) ∧ vs = [.slice A k.length c, .int .i64 v] ∧ L = [sl A k.length c 1 (ints k)]) :=
  IterS.sub (all_iterG (m0 := Mem.empty) (t := { t with g := fun _ => False }) hes fun m1 m h hm => by
    obtain ⟨ma, hma, hi⟩ := h.get 0 rfl
    obtain ⟨mb, hmb, hT0⟩ := h.get 1 rfl
    have hK := Mem.le_trans (h.kept 2 rfl) hm
    refine ⟨hit ma m hi (Mem.le_trans hma hm), hT0.at (Mem.le_trans hmb hm) hK (fun b hb => hb.elim), (hT0.ab.withg _).ok, hT0.ab.qp, rfl, rfl, fun b o hb _ => (by cases hb), hT0.ab.ew, hT0.ab.em, hT0.ab.en, hT0.ab.el, hT0.ab.map, fun b => ⟨fun hb => hb.elim, fun hb => absurd rfl hb⟩⟩)
    fun m ⟨h1, h2⟩ s hs => (h2 s hs).up h1
abbrev oj (K m0 : Mem) (p r w N : Nat) (cs : List Value) (it : Asn) (s : Stp) (W : Option Addr) (c9 : Nat) (l : List RE) (b4 b5 b7 b8 b9 b10 : Nat) (k : Nat) (i : Nat) : List Asn :=
  [wo w cs N, tw K p r, kp m0, it, pt b10 [.int .i64 ((i : Nat) : Int)], sl W l.length c9 2 (rcs l), pt b9 [.slice W l.length c9], pt b8 [.bool false], pt b7 s.cells, pt b5 [.int .i64 ((k : Nat) : Int)], pt b4 [.pointer (some ⟨w, 0, none⟩)]]
theorem over_gen {m m0 Ks : Mem} {w N X p r b : Nat} {it : Asn} {cs : List Value} {k : Nat} {s : Stp} (hX : X ≤ 2 ^ 38 + 1000001) (hN : N < X) (hc : cs.length = 6) (hk : k < 2) (hp : cs[k]? = some (.pointer (some ⟨p, 0, none⟩))) (hr : cs[2 + k]? = some (.pointer (some ⟨r, 0, none⟩)))
    (ht : -9223372036854775808 ≤ s.turn ∧ s.turn ≤ 9223372036854775807) (hlv : -9223372036854775808 ≤ s.leave ∧ s.leave ≤ 9223372036854775807)
    (hA2 : Ints m0 s.A2 s.k2) (hk2 : s.k2.length < 2 ^ 40)
    (hit : ∀ m1 m, it m1 → m1.le m → m.cell ⟨b, 0, none⟩ = some (.pointer (some ⟨p, 0, none⟩)))
    (inner : s.inn = 5 → ∀ (m K : Mem) (N b : Nat) (it : Asn), N < X + 1000001 → (∀ m1 m, it m1 → m1.le m → m.cell ⟨b, 0, none⟩ = some (.pointer (some ⟨p, 0, none⟩))) → Sep [wo w cs N, tw K p r, kp m0, it] m → FCalls Try.prog 36 [.pointer (some ⟨w, 0, none⟩), .int .i64 ((k : Nat) : Int), allF b, .agg (Stp.cells ⟨0, 0, 0, s.leave, none, [], 0, 0, 0, none, [], 0⟩).toArray] m fun v m' => v = .bool true ∧ ∃ N', N' ≤ N + 1000000 ∧ Sep [wo w cs N', tw K p r, kp m0, it] m')
    (h : Sep [wo w cs N, tw Ks p r, kp m0, it] m) :
    FCalls Try.prog 36 [.pointer (some ⟨w, 0, none⟩), .int .i64 ((k : Nat) : Int), allF b, .agg s.cells.toArray] m fun v m' => v = .bool true ∧ ∃ N', N' ≤ N + 1000000 + (if s.inn = 5 then 1000000 else 0) ∧ Sep [wo w cs N', tw Ks p r, kp m0, it] m' := by
  have hcr : ∀ {L : List Asn} {M : Mem} {N : Nat} (j : Nat), Sep L M → L[j]? = some (wo w cs N) → M.cell (((⟨w, 0, none⟩ : Addr).add 2).add (k * 1)) = some (.pointer (some ⟨r, 0, none⟩)) := fun j h hj => by
    obtain ⟨m1, h1, h2⟩ := h.get j hj
    rw [add_mk, add_mk, Nat.zero_add, Nat.mul_one]
    exact Mem.le_cell h1 (wo_cell h2 hr)
  have hcp : ∀ {L : List Asn} {M : Mem} {N : Nat} (j : Nat), Sep L M → L[j]? = some (wo w cs N) → M.cell (((⟨w, 0, none⟩ : Addr).add 0).add (k * 1)) = some (.pointer (some ⟨p, 0, none⟩)) := fun j h hj => by
    obtain ⟨m1, h1, h2⟩ := h.get j hj
    rw [add_mk, add_mk, Nat.zero_add, Nat.mul_one]
    exact Mem.le_cell h1 (wo_cell h2 hp)
  obtain ⟨K, a, top, l, hKs, hT, hF, h⟩ := tw_open (h.move 1 rfl)
  replace h : Sep [it, tb K p a, kp K, rt K r a.w a.most top l, wo w cs N, kp m0] m := h.move 5 rfl
  have hn := hT.hn
  have hfull := hF.full
  have hmost := hF.most
  refine fcalls_of_vc (T := tbl) (B := bodies) (pr := [99999]) (DR := (100016, 0) :: dr36) (args := [.v (.pointer (some ⟨w, 0, none⟩)), .v (.int .i64 ((k : Nat) : Int)), .v (allF b), .v (.agg s.cells.toArray)]) tbl_ok bodies_ok mixed Try.func36 rfl (by decide +kernel) (by simp [Try.f36]) rfl ?_
  (conv => whnf)
  intro b4 m1 hb he
  replace h := h.new' (l := [.pointer (some ⟨w, 0, none⟩)]) hb (he.trans rfl)
  clear hb he
  (conv => whnf)
  intro b5 m2 hb he
  replace h := h.new' (l := [.int .i64 ((k : Nat) : Int)]) hb (he.trans rfl)
  clear hb he
  (conv => whnf)
  intro b7 m3 hb he
  replace h := h.new' (l := s.cells) hb (he.trans rfl)
  clear hb he
  (conv => whnf)
  intro b8 m4 hb he
  replace h := h.new' (l := [.bool false]) hb (he.trans rfl)
  clear hb he
  obtain ⟨⟨B, cB, hS⟩, hks⟩ := rt_at h 7 rfl
  have hRd := hS.rd 1 rfl
  have hc2 := hS.cell 0 (i := 2) rfl rfl
  clear hS
  have hlenc : (rcs l).length = l.length * (tbl.at 73).size := by rw [rcs_len]; rfl
  (conv => whnf)
  intro b9 m5 hb he
  replace h := h.new' (l := [.slice none 0 0]) hb (he.trans rfl)
  replace hRd := hRd.more (Mem.le_trans (Mem.le_set hb) (by rw [← he]; exact Mem.le_refl _))
  replace hc2 := Mem.le_cell (Mem.le_trans (Mem.le_set hb) (by rw [← he]; exact Mem.le_refl _)) hc2
  clear hb he
  replace h : Sep [pt b9 [.slice none 0 0], pt b8 [.bool false], pt b7 s.cells, pt b5 [.int .i64 ((k : Nat) : Int)], pt b4 [.pointer (some ⟨w, 0, none⟩)], it, tb K p a, kp K, rt K r a.w a.most top l, wo w cs N, kp m0] m5 := h
  (conv => whnf)
  refine ⟨_, _, _, h.cell 0 (i := 0) rfl rfl, ?_⟩
  (conv => whnf)
  refine ⟨_, h.cell 4 (i := 0) rfl rfl, ?_⟩
  (conv => whnf)
  refine ⟨_, h.cell 3 (i := 0) rfl rfl, ?_⟩
  (conv => whnf)
  refine ⟨Int.natCast_nonneg _, by omega, ?_⟩
  (conv => whnf)
  refine ⟨_, hcr 9 h rfl, ?_⟩
  (conv => whnf)
  refine ⟨_, _, _, hc2, ?_⟩
  (conv => whnf)
  obtain ⟨ok, hR⟩ := (Sep.free (A := sl none 0 0 2 []) h sl_nil).app 0 (T := tbl) (e := 73) (news := rcs l) (k := l.length) (B := B) rfl hlenc (hRd.holds hlenc) (oneRcs _) rfl (by show 2 * (0 + l.length) * 32 ≤ 2 ^ 48; omega) rfl
  refine ⟨_, _, ok, fun W c9 m6 hr1 => ?_⟩
  replace h := hR _ _ _ hr1
  clear ok hR hr1 hRd hc2
  rw [Nat.zero_add]
  rw [Nat.zero_add] at h
  replace h : Sep [sl W l.length c9 2 (rcs l), pt b9 [.slice none 0 0], pt b8 [.bool false], pt b7 s.cells, pt b5 [.int .i64 ((k : Nat) : Int)], pt b4 [.pointer (some ⟨w, 0, none⟩)], it, tb K p a, kp K, rt K r a.w a.most top l, wo w cs N, kp m0] m6 := h
  (conv => whnf)
  refine ⟨h.room 1 (i := 0) rfl rfl, fun m7 he => ?_⟩
  replace h := h.put' 1 he rfl
  clear he
  (conv => whnf)
  intro b10 m8 hb he
  replace h := h.new' (l := [.int .i64 0]) hb (he.trans rfl)
  clear hb he
  (conv => whnf)
  refine ⟨h.room 0 (i := 0) rfl rfl, fun m9 he => ?_⟩
  replace h := h.put' 0 he rfl
  clear he
  replace h : Sep [it, tb K p a, kp K, rt K r a.w a.most top l, wo w cs N, kp m0, pt b10 [.int .i64 ((0 : Nat) : Int)], sl W l.length c9 2 (rcs l), pt b9 [.slice W l.length c9], pt b8 [.bool false], pt b7 s.cells, pt b5 [.int .i64 ((k : Nat) : Int)], pt b4 [.pointer (some ⟨w, 0, none⟩)]] m9 :=
    (((((h.move 12 rfl).move 12 rfl).move 12 rfl).move 12 rfl).move 12 rfl).move 12 rfl
  obtain ⟨t, h⟩ := tb_ex (h.move 1 rfl)
  have hkeys : ∀ x, x ∈ t.sl → Ints K x.kA x.ks := fun x hx => by
    obtain ⟨m1, h1, h2⟩ := h.get 0 rfl
    exact (h2.keys x hx).1
  replace h := Sep.group (L := [it, fun M => TabIn K M p a t, kp K]) (h.move 1 rfl)
  have hlen : l.length ≤ 1000000 := by omega
  obtain ⟨D, hD⟩ : ∃ D, D = (if s.inn = 5 then 1000000 else 0) := ⟨_, rfl⟩
  rw [← hD]
  have hD1 : D ≤ 1000000 := by rw [hD]; split <;> omega
  (conv => whnf)
  refine range_iterS (all_x hit hT.ents) (fun m m' hI hm => ⟨Mem.le_trans hI.1 hm, hI.2⟩) h (fun i vs L ⟨k, v, A, c, _, hv, _⟩ => by rw [hv]; rfl)
    (fun i M => ∃ N1, N1 ≤ N + i + (if pkI s.turn 4 < i then D else 0) ∧ Sep (oj K m0 p r w N1 cs it s W c9 l b4 b5 b7 b8 b9 b10 k i) M) ?_ ?_ ?_ ?_
  · intro M g
    refine ⟨N, by omega, ?_⟩
    have g := (Sep.split g).turn 1 (B := tb K p a) rfl fun m1 _ hm => ⟨t, hm⟩
    have g := g.back (j := 5) (by exact (by decide : 5 ≤ 12))
    exact (tw_shut g (Mem.le_refl _) hT).move 1 rfl
  · rintro i M ⟨N1, _, g⟩
    exact ⟨tw_le g 1 rfl, hkeys⟩
  · clear h
    rintro i vs L m1 M hi ⟨key, v, Ak, ck, hek, rfl, rfl⟩ ⟨N1, hN1, h⟩ h2
    replace h := h.on (N := [_]) h2
    clear h2
    obtain ⟨e, he, rfl, rfl⟩ : ∃ e, l[i]? = some e ∧ e.k = key ∧ e.v = v := by
      unfold ent at hek
      rw [List.getElem?_map] at hek
      cases hl : l[i]? with
      | none => rw [hl] at hek; cases hek
      | some e => rw [hl] at hek; simp at hek; exact ⟨e, rfl, hek.1, hek.2⟩
    clear hek
    have hi1 : i < l.length := (List.getElem?_eq_some_iff.1 he).1
    obtain ⟨hke, hkw⟩ := hks e (List.mem_of_getElem? he)
    have hw1 := hF.w1
    obtain ⟨q, hq, hc1, hc2⟩ := re_at (h.rd 6 rfl) he
    have step1 : IntKind.i64.wrap ((i : Int) + 1) = ((i + 1 : Nat) : Int) := wrap_id (by omega) (by omega)
    have hkM : Ints M e.A e.k := hke.up (tw_le h 2 rfl)
    have hkA : Ints M Ak e.k := ints_of_sl (h.asn 0 rfl)
    (conv => whnf)
    refine ⟨_, h.cell 5 (i := 0) rfl rfl, ?_⟩
    (conv => whnf)
    refine ⟨_, _, _, h.cell 7 (i := 0) rfl rfl, ?_⟩
    (conv => whnf)
    refine brk_true (by simp; omega) ?_
    (conv => whnf)
    refine ⟨_, _, _, h.cell 7 (i := 0) rfl rfl, ?_⟩
    (conv => whnf)
    refine ⟨_, h.cell 5 (i := 0) rfl rfl, ?_⟩
    (conv => whnf)
    refine ⟨_, hq, by omega, by omega, ?_⟩
    (conv => whnf)
    refine ⟨_, hc2, ?_⟩
    (conv => whnf)
    refine brk_false (by simp) ?_
    (conv => whnf)
    refine ⟨_, _, _, h.cell 7 (i := 0) rfl rfl, ?_⟩
    (conv => whnf)
    refine ⟨_, h.cell 5 (i := 0) rfl rfl, ?_⟩
    (conv => whnf)
    refine ⟨_, hq, by omega, by omega, ?_⟩
    (conv => whnf)
    refine ⟨_, _, _, hc1, ?_⟩
    (conv => whnf)
    refine FCalls.mono (same_c hkA hkM (by omega)) ?_
    rintro v m1 ⟨rfl, rfl⟩
    (conv => whnf)
    refine brk_false (by simp) ?_
    clear hq hc1 hc2 hkM hkA
    (conv => whnf)
    refine ⟨_, h.cell 11 (i := 0) rfl rfl, ?_⟩
    (conv => whnf)
    refine FCalls.mono (owns_c ((h.move 1 rfl).move 1 rfl) hc (by split at hN1 <;> omega) (by omega)) ?_
    rintro v m2 h2
    replace h : Sep (oj K m0 p r w (N1 + 1) cs it s W c9 l b4 b5 b7 b8 b9 b10 k i) m2 := h2
    clear h2
    (conv => whnf)
    refine join_keep [7, 8, 10] (Nat × Mem) (fun _ => []) (fun s => s.2) (fun z => z.1 ≤ N + (i + 1) + (if pkI s.turn 4 < ((i + 1 : Nat) : Int) then D else 0) ∧ Sep (oj K m0 p r w z.1 cs it s W c9 l b4 b5 b7 b8 b9 b10 k i) z.2) ?_
    have hN1' : N1 + 1 ≤ N + (i + 1) + (if pkI s.turn 4 < ((i + 1 : Nat) : Int) then D else 0) := by
      by_cases hp : pkI s.turn 4 < i
      · rw [if_pos hp] at hN1
        rw [if_pos (by omega)]
        omega
      · rw [if_neg hp] at hN1
        split <;> omega
    (conv => whnf)
    refine ⟨?_, ?_⟩
    · (conv => whnf)
      refine ⟨_, h.cell 8 (i := 6) rfl rfl, ?_⟩
      (conv => whnf)
      refine brk_intro (fun c1 => ?_) (fun c1 => ?_)
      · (conv => whnf)
        refine ⟨_, h.cell 4 (i := 0) rfl rfl, ?_⟩
        (conv => whnf)
        refine ⟨_, h.cell 8 (i := 5) rfl rfl, ?_⟩
        (conv => whnf)
        refine ⟨_, pickx_c ht (by omega), ?_⟩
        (conv => whnf)
        refine brk_intro (fun c2 => ?_) (fun c2 => ?_)
        · have c2 : (i : Int) = pkI s.turn 4 := by simpa using c2
          rw [if_neg (by omega)] at hN1
          rw [if_pos (by omega)] at hN1'
          (conv => whnf)
          refine ⟨_, h.cell 8 (i := 6) rfl rfl, ?_⟩
          (conv => whnf)
          refine brk_intro (fun c3 => ?_) (fun c3 => ?_)
          · have c3 : s.inn = 5 := by simpa using c3
            have k4 := h.cell 10 (i := 0) rfl rfl
            have k5 := h.cell 9 (i := 0) rfl rfl
            have k7 := h.cell 8 (i := 3) rfl rfl
            (conv => whnf)
            refine ⟨_, k4, ?_⟩
            (conv => whnf)
            refine ⟨_, k5, ?_⟩
            (conv => whnf)
            refine ⟨Int.natCast_nonneg _, by omega, ?_⟩
            (conv => whnf)
            refine ⟨_, hcp 0 h rfl, ?_⟩
            (conv => whnf)
            repeat' (first
              | (refine ⟨_, k4, ?_⟩; (conv => whnf))
              | (refine ⟨_, k5, ?_⟩; (conv => whnf))
              | (refine ⟨_, k7, ?_⟩; (conv => whnf))
              | (refine FCalls.mono all_c ?_; rintro v m9 ⟨b2, rfl, hS⟩; replace k4 := Mem.le_cell (hS.kept 1 rfl) k4; replace k5 := Mem.le_cell (hS.kept 1 rfl) k5; replace k7 := Mem.le_cell (hS.kept 1 rfl) k7; replace h := h.on (N := [_]) hS; clear hS; (conv => whnf))
              | exact True.intro
              | (apply And.intro <;> (conv => whnf)))
            all_goals
              refine FCalls.mono ((h.back (j := 3) (by exact (by decide : 3 ≤ 11))).calln 4 fun m1 h1 => inner c3 m1 K (N1 + 1) b2 (pt b2 [.pointer (some ⟨p, 0, none⟩)]) (by omega) (fun m1 m h h1 => by
                have h : Sep [pt b2 [.pointer (some ⟨p, 0, none⟩)]] m1 := ⟨m1, Mem.empty, fun _ => .inr rfl, Mem.le_refl _, fun _ _ hh => (by cases hh), h, trivial⟩
                exact Mem.le_cell h1 (h.cell 0 (i := 0) rfl rfl)) h1) ?_
              rintro v m11 ⟨m12, ⟨rfl, N2, hN2, h1⟩, hB⟩
              replace h : Sep (oj K m0 p r w N2 cs it s W c9 l b4 b5 b7 b8 b9 b10 k i) m11 := (hB.sep h1).drop 3
              clear hB h1
              (conv => whnf)
              refine ⟨(N2, m11), le_eq ⟨rfl, rfl, rfl, trivial⟩ rfl rfl rfl, ?_, h⟩
              simp only
              rw [if_pos (by omega)]
              rw [if_pos c3] at hD
              omega
          · (conv => whnf)
            refine ⟨_, h.cell 10 (i := 0) rfl rfl, ?_⟩
            (conv => whnf)
            refine ⟨_, h.cell 9 (i := 0) rfl rfl, ?_⟩
            (conv => whnf)
            refine ⟨_, h.cell 8 (i := 6) rfl rfl, ?_⟩
            (conv => whnf)
            refine ⟨_, _, _, h.cell 8 (i := 7) rfl rfl, ?_⟩
            (conv => whnf)
            refine ⟨_, h.cell 8 (i := 2) rfl rfl, ?_⟩
            (conv => whnf)
            refine FCalls.mono (h.calln 3 fun m1 h1 => does_c h1 hc (by omega) hp hr hA2 hk2) ?_
            rintro v m11 ⟨m12, ⟨rfl, h1⟩, hB⟩
            replace h : Sep (oj K m0 p r w (N1 + 1) cs it s W c9 l b4 b5 b7 b8 b9 b10 k i) m11 := hB.sep h1
            clear hB h1
            (conv => whnf)
            exact ⟨(N1 + 1, m11), le_eq ⟨rfl, rfl, rfl, trivial⟩ rfl rfl rfl, (by simp only; rw [if_pos (by omega)]; omega), h⟩
        · (conv => whnf)
          exact ⟨(N1 + 1, _), le_eq ⟨rfl, rfl, rfl, trivial⟩ rfl rfl rfl, hN1', h⟩
      · (conv => whnf)
        exact ⟨(N1 + 1, _), le_eq ⟨rfl, rfl, rfl, trivial⟩ rfl rfl rfl, hN1', h⟩
    · clear h hN1 hN1'
      rintro ⟨N2, M2⟩ ⟨hN2, h⟩
      simp only at hN2 h
      (conv => whnf)
      refine ⟨_, h.cell 4 (i := 0) rfl rfl, ?_⟩
      (conv => whnf)
      refine ⟨h.room 4 (i := 0) rfl rfl, fun m13 he => ?_⟩
      rw [step1] at he
      replace h := h.put' 4 he rfl
      replace h : Sep (oj K m0 p r w N2 cs it s W c9 l b4 b5 b7 b8 b9 b10 k (i + 1)) m13 := h
      clear he
      (conv => whnf)
      refine ⟨_, h.cell 4 (i := 0) rfl rfl, ?_⟩
      (conv => whnf)
      refine ⟨_, h.cell 8 (i := 3) rfl rfl, ?_⟩
      (conv => whnf)
      refine ⟨_, pickx_c hlv (by omega), ?_⟩
      (conv => whnf)
      refine brk_intro (fun c2 => ?_) (fun c2 => ?_)
      · (conv => whnf)
        refine ⟨h.room 7 (i := 0) rfl rfl, fun m10 he => ?_⟩
        replace h := h.put' 7 he rfl
        (conv => whnf)
        refine ⟨_, h.cell 7 (i := 0) rfl rfl, ?_⟩
        (conv => whnf)
        refine ⟨by first | rfl | (simp; rfl), N2, (by split at hN2 <;> omega), ?_⟩
        exact (((((((h.drop 4).drop 4).drop 4).drop 4).drop 4).drop 4).drop 4).turn 1 (B := tw Ks p r) rfl fun m1 _ ⟨K1, a1, t1, l1, g1, g2, g3⟩ => ⟨K1, a1, t1, l1, Mem.le_trans hKs g1, g2, g3⟩
      · (conv => whnf)
        exact ⟨N2, hN2, h⟩
  · rintro M ⟨N1, hN1, h⟩
    (conv => whnf)
    refine ⟨_, h.cell 4 (i := 0) rfl rfl, ?_⟩
    (conv => whnf)
    refine ⟨_, _, _, h.cell 6 (i := 0) rfl rfl, ?_⟩
    (conv => whnf)
    refine ⟨h.room 7 (i := 0) rfl rfl, fun m10 he => ?_⟩
    replace h := h.put' 7 he rfl
    (conv => whnf)
    refine ⟨_, h.cell 7 (i := 0) rfl rfl, ?_⟩
    (conv => whnf)
    rw [ent_length] at hN1 h
    refine ⟨by rw [ent_length]; simp; rfl, N1, (by split at hN1 <;> omega), ?_⟩
    exact (((((((h.drop 4).drop 4).drop 4).drop 4).drop 4).drop 4).drop 4).turn 1 (B := tw Ks p r) rfl fun m1 _ ⟨K1, a1, t1, l1, g1, g2, g3⟩ => ⟨K1, a1, t1, l1, Mem.le_trans hKs g1, g2, g3⟩
end Go.Proofs.Ytoifiplefjclbaa
