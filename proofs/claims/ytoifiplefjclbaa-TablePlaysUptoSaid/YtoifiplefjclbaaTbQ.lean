/- Table: All. -/
import Derived.Test.YtoifiplefjclbaaTbP
namespace Go.Proofs.Ytoifiplefjclbaa
open Go Go.Mv
set_option maxHeartbeats 1000000
set_option maxRecDepth 10000
set_option linter.unusedVariables false
set_option linter.unusedSimpArgs false
attribute [local irreducible] FCalls IntKind.wrap bits Mem.set Mem.setCell Mem.setCells YCalls
/-- Keys and values, by the keys. -/
def Entries (f : List Int → Option Int) (es : List (List Int × Int)) : Prop := es.Pairwise (fun a b => lexC a.1 b.1 < 0) ∧ ∀ k v, (k, v) ∈ es ↔ f k = some v
theorem lex_irr {a b : List Int} (h : lexC a b < 0) (k : lexC b a < 0) : False := by
  have := lexC_neg a b
  omega
theorem sorted_unique : ∀ {es fs : List (List Int × Int)}, es.Pairwise (fun a b => lexC a.1 b.1 < 0) → fs.Pairwise (fun a b => lexC a.1 b.1 < 0) → (∀ x, x ∈ es ↔ x ∈ fs) → es = fs
  | [], [], _, _, _ => rfl
  | [], y :: q, _, _, h => absurd ((h y).2 (by simp)) (by simp)
  | x :: r, [], _, _, h => absurd ((h x).1 (by simp)) (by simp)
  | x :: r, y :: q, h1, h2, h => by
    rw [List.pairwise_cons] at h1 h2
    have hirr : ∀ a : List Int × Int, ¬ lexC a.1 a.1 < 0 := fun a => by rw [lexC_self]; omega
    have hxy : x = y := by
      rcases List.mem_cons.1 ((h x).1 (by simp)) with e | hx
      · exact e
      · rcases List.mem_cons.1 ((h y).2 (by simp)) with e | hy
        · exact e.symm
        · exact (lex_irr (h2.1 x hx) (h1.1 y hy)).elim
    subst hxy
    congr 1
    refine sorted_unique h1.2 h2.2 fun z => ⟨fun hz => ?_, fun hz => ?_⟩
    · rcases List.mem_cons.1 ((h z).1 (by simp [hz])) with e | hq
      · subst e; exact absurd (h1.1 z hz) (hirr z)
      · exact hq
    · rcases List.mem_cons.1 ((h z).2 (by simp [hz])) with e | hq
      · subst e; exact absurd (h2.1 z hz) (hirr z)
      · exact hq
theorem Entries.unique {f : List Int → Option Int} {es fs : List (List Int × Int)} (h : Entries f es) (k : Entries f fs) : es = fs :=
  sorted_unique h.1 k.1 fun x => by rw [show x = (x.1, x.2) from rfl, h.2, k.2]
def usedL (sl : List Slt) : List Slt := sl.filter (·.used)
def entsOf (zs : List Slt) : List (List Int × Int) := zs.map fun s => (s.ks, s.v)
theorem nodup_keys {sl : List Slt} (h : ∀ (i j : Nat) (s t : Slt), sl[i]? = some s → sl[j]? = some t → s.used = true → t.used = true → s.ks = t.ks → i = j) : (usedL sl).Pairwise fun s t => s.ks ≠ t.ks := by
  unfold usedL
  rw [List.pairwise_filter, List.pairwise_iff_getElem]
  intro i j hi hj hij hu hv he
  have := h i j _ _ (List.getElem?_eq_getElem hi) (List.getElem?_eq_getElem hj) hu hv he
  omega
theorem ents_of {m0 m : Mem} {p : Nat} {a : Abs} {t : Tab} (h : TM' m0 m p a t) {zs : List Slt} (hp : zs.Perm (usedL t.sl)) (hs : zs.Pairwise fun x y => lexC x.ks y.ks ≤ 0) : Entries a.f (entsOf zs) := by
  have hnd : (usedL t.sl).Pairwise fun s u => s.ks ≠ u.ks := by
    rcases h.ok.ok with h1 | h1
    · rw [h1]; exact List.Pairwise.nil
    · exact nodup_keys h1.one
  have hnz : zs.Pairwise fun s u => s.ks ≠ u.ks := hp.symm.pairwise hnd fun h => Ne.symm h
  refine ⟨?_, fun k v => ?_⟩
  · unfold entsOf
    rw [List.pairwise_map]
    refine (hs.and hnz).imp fun {x y} h => ?_
    rcases Int.lt_or_eq_of_le h.1 with h1 | h1
    · exact h1
    · exact absurd (lexC_zero h1) h.2
  · rw [← h.map]
    unfold entsOf
    rw [List.mem_map]
    constructor
    · rintro ⟨s, hs, he⟩
      cases he
      have := hp.mem_iff.1 hs
      unfold usedL at this
      rw [List.mem_filter] at this
      exact ⟨s, this.1, this.2, rfl, rfl⟩
    · rintro ⟨s, h1, h2, rfl, rfl⟩
      exact ⟨s, hp.mem_iff.2 (List.mem_filter.2 ⟨h1, h2⟩), rfl⟩
theorem ents_ex {m0 m : Mem} {p : Nat} {a : Abs} (h : TM m0 m p a) : ∃ es, Entries a.f es := by
  obtain ⟨t, h⟩ := h
  refine ⟨entsOf ((usedL t.sl).mergeSort fun x y => decide (lexC x.ks y.ks ≤ 0)), ents_of h (List.mergeSort_perm _ _) ?_⟩
  refine (List.pairwise_mergeSort (fun a b c h1 h2 => ?_) (fun a b => ?_) _).imp fun {x y} h => by simpa using h
  · simp only [decide_eq_true_eq] at *
    exact (lexC_le_trans h1 h2).1
  · have := lexC_neg a.ks b.ks
    simp only [Bool.or_eq_true, decide_eq_true_eq]
    omega
theorem blk_up {m m' : Mem} {b : Nat} {l : List Value} (h : Blk m b l) (hm : m.le m') : Blk m' b l := by
  obtain ⟨e, h⟩ := h
  exact ⟨e, hm _ _ h⟩
theorem TM'.up {m0 m m' : Mem} {p : Nat} {a : Abs} {t : Tab} (h : TM' m0 m p a t) (hk : m.le m') : TM' m0 m' p a t :=
  have hk : Keep [] m m' := fun b o h _ => hk b o h
  ⟨h.tab.mono hk, h.ok, h.qp, h.fp, h.fq, h.keep.trans hk, h.ew, h.em, h.en, h.el, h.map, h.eg⟩
theorem all_c {m : Mem} {p : Nat} : FCalls Try.prog 22 [.pointer (some ⟨p, 0, none⟩)] m fun v m' => ∃ b, v = .func (.func 31) #[] #[.pointer (some ⟨b, 0, none⟩)] ∧ Sep [pt b [.pointer (some ⟨p, 0, none⟩)], kp m] m' := by
  refine fcalls_of_vc (T := tbl) (B := bodies) (pr := [99999]) (DR := dr22) (args := [.v (.pointer (some ⟨p, 0, none⟩))]) tbl_ok bodies_ok mixed Try.func22 rfl (by decide +kernel) (by simp [Try.f22]) rfl ?_
  (conv => whnf)
  intro b m2 hb he
  (conv => whnf)
  exact ⟨b, rfl, (Sep.init m).new' hb he⟩
theorem used_take {sl : List Slt} {i : Nat} {s : Slt} (h : sl[i]? = some s) : usedL (sl.take (i + 1)) = usedL (sl.take i) ++ (if s.used then [s] else []) := by
  unfold usedL
  rw [List.take_add_one, h, List.filter_append]
  simp only [Option.toList_some, List.filter_cons, List.filter_nil]
theorem all_iterG {m0 : Mem} {p b : Nat} {a : Abs} {t : Tab} {es : List (List Int × Int)} (hes : Entries a.f es) {X : Asn}
    (hX : ∀ m1 m, X m1 → m1.le m → m.cell ⟨b, 0, none⟩ = some (.pointer (some ⟨p, 0, none⟩)) ∧ TM' m0 m p a t) :
    IterS Try.prog 31 [] [.pointer (some ⟨b, 0, none⟩)] X X
      (fun M => ∀ s, s ∈ t.sl → Ints M s.kA s.ks) es.length
      (fun i vs L => ∃ k v A c, es[i]? = some (k, v) ∧ vs = [.slice A k.length c, .int .i64 v] ∧ L = [sl A k.length c 1 (ints k)]) := by
  intro y J Q Rs m h hA hJI hy
  show FCalls Try.prog 31 [.func (.yield y) #[] #[], .pointer (some ⟨b, 0, none⟩)] m _
  obtain ⟨ma, hma, hAB⟩ := h.get 0 rfl
  obtain ⟨hcell, hT⟩ := hX ma m hAB hma
  have hhead := hT.tab.head
  have hsize := hT.tab.size
  have hhalf := hT.ok.half
  have hmost := hT.ok.most1
  have hfull := hT.ok.full
  have hmany := hT.ok.many
  refine FCalls.less ?_
  refine fcalls_of_vc (T := tbl) (B := bodies) (pr := [99999, 5, 7]) (DR := dr31) (args := [.v (.func (.yield y) #[] #[]), .v (.pointer (some ⟨b, 0, none⟩))]) tbl_ok bodies_ok mixed Try.func31 rfl (by decide +kernel) (by simp [Try.f31]) rfl ?_
  (conv => whnf)
  refine ⟨_, hcell, ?_⟩
  (conv => whnf)
  refine ⟨_, _, _, hhead.cell (i := 2) rfl, ?_⟩
  (conv => whnf)
  refine loop_keep [0, 11, 12] (Nat × Option Addr × Nat × Mem) (fun s => [(13, .v (.int .i64 ((s.1 : Nat) : Int))), (3, .v (.slice s.2.1 (usedL (t.sl.take s.1)).length s.2.2.1))]) (fun _ => []) (fun s => s.2.2.2)
    (fun s => s.1 ≤ t.sl.length ∧ (usedL (t.sl.take s.1) = [] → s.2.1 = none ∧ s.2.2.1 = 0) ∧ Sep [sl s.2.1 (usedL (t.sl.take s.1)).length s.2.2.1 4 (cellsOf (usedL (t.sl.take s.1))), kp m] s.2.2.2)
    (fun s => t.sl.length - s.1) (0, none, 0, m) ⟨rfl, rfl, trivial⟩ rfl rfl ⟨by simp, fun _ => ⟨rfl, rfl⟩, Mem.empty, m, fun _ => .inl rfl, fun _ _ h => (by cases h), Mem.le_refl _, sl_nil, Sep.init m⟩ ?_
  (conv => whnf)
  refine ⟨rfl, ?_⟩
  rintro ⟨i, lA, lc, M⟩ ⟨hJ1, hJ2, hS⟩
  simp only at hJ1 hJ2 hS
  (conv => whnf)
  refine brk_intro (fun c1 => ?_) (fun c1 => ?_)
  · have c1 : (i : Int) < (t.sl.length : Nat) := by simpa using c1
    have hne : t.sl ≠ [] := by rintro e; rw [e] at c1; simp at c1; omega
    have hsA0 : t.sA = some ⟨t.q, 0, none⟩ := if_neg hne
    have hqM := blk_up (hT.tab.places hne).1 (hS.kept 1 rfl)
    obtain ⟨s, hs⟩ : ∃ s, t.sl[((i : Nat) : Int).toNat]? = some s := ⟨_, List.getElem?_eq_getElem (by omega)⟩
    have hs' : t.sl[i]? = some s := by rwa [show ((i : Nat) : Int).toNat = i by omega] at hs
    have hus := used_take hs'
    have hcnt : (usedL (t.sl.take i)).length ≤ cnt t.sl := by
      unfold usedL
      rw [← List.countP_eq_length_filter]
      exact cnt_take_le
    have step1 : IntKind.i64.wrap ((i : Int) + 1) = ((i + 1 : Nat) : Int) := wrap_id (by omega) (by omega)
    (conv => whnf)
    refine ⟨_, hsA0, by omega, c1, ?_⟩
    (conv => whnf)
    refine ⟨_, slot_cell hqM hs (f := 0) (by decide) rfl rfl, ?_⟩
    (conv => whnf)
    refine ⟨_, slot_cell hqM hs (f := 1) (by decide) rfl rfl, ?_⟩
    (conv => whnf)
    refine ⟨_, _, _, slot_cell hqM hs (f := 2) (by decide) rfl rfl, ?_⟩
    (conv => whnf)
    refine ⟨_, slot_cell hqM hs (f := 3) (by decide) rfl rfl, ?_⟩
    (conv => whnf)
    refine brk_intro (fun c2 => ?_) (fun c2 => ?_)
    · have c2 : s.used = true := by simpa using c2
      rw [c2, if_pos rfl] at hus
      (conv => whnf)
      intro nb m2 hb he
      replace hS := hS.new' (l := s.cells) hb he
      have hB : m2.holds ⟨nb, 0, none⟩ s.cells := (hS.blk 0 rfl).holds fun k v hk => by rw [Nat.zero_add]; exact hk
      clear hb he
      (conv => whnf)
      obtain ⟨ok, hR⟩ := hS.app 1 (T := tbl) (e := 69) (news := s.cells) (k := 1) (B := some ⟨nb, 0, none⟩) rfl rfl (.inr ⟨_, rfl, hB⟩) rfl rfl (by show 2 * (_ + 1) * 48 ≤ 2 ^ 48; omega) rfl
      refine ⟨_, _, ok, fun A' c' m3 hr => ?_⟩
      replace hS := (hR _ _ _ hr).drop 0
      (conv => whnf)
      refine ⟨(i + 1, A', c', m3), le_more (l := [_]) ⟨by show some (AV.v (.int .i64 (IntKind.i64.wrap ((i : Int) + 1)))) = _; rw [step1], by show some (AV.v (.slice A' ((usedL (t.sl.take i)).length + 1) c')) = some (AV.v (.slice A' (usedL (t.sl.take (i + 1))).length c')); rw [hus, List.length_append]; rfl, rfl, rfl, rfl, trivial⟩ rfl rfl rfl, ⟨by simp only; omega, fun hh => (by simp only at hh; rw [hus] at hh; simp at hh), ?_⟩, by simp only; omega⟩
      simp only
      rw [hus, List.length_append, show cellsOf (usedL (t.sl.take i) ++ [s]) = cellsOf (usedL (t.sl.take i)) ++ s.cells by simp [cellsOf]]
      exact hS
    · have c2 : s.used = false := by simpa using c2
      rw [c2, if_neg (by simp), List.append_nil] at hus
      (conv => whnf)
      refine ⟨(i + 1, lA, lc, M), le_more (l := [_]) ⟨by show some (AV.v (.int .i64 (IntKind.i64.wrap ((i : Int) + 1)))) = _; rw [step1], by show _ = some (AV.v (.slice lA (usedL (t.sl.take (i + 1))).length lc)); rw [hus]; rfl, rfl, rfl, rfl, trivial⟩ rfl rfl rfl, ⟨by simp only; omega, by simp only; rw [hus]; exact hJ2, by simp only; rw [hus]; exact hS⟩, by simp only; omega⟩
  · have c1 : ¬ (i : Int) < (t.sl.length : Nat) := by simpa using c1
    have hi : i = t.sl.length := by omega
    subst hi
    rw [List.take_length] at hS hJ2
    rw [List.take_length]
    have hcnt : (usedL t.sl).length = cnt t.sl := by
      unfold usedL
      rw [← List.countP_eq_length_filter]
      rfl
    have hkm : ∀ s, s ∈ usedL t.sl → Ints m s.kA s.ks ∧ s.ks.length < 2 ^ 62 := fun s hs => by
      have := hT.tab.keys s (List.mem_filter.1 hs).1
      exact ⟨this.1, this.2.2.2.1⟩
    (conv => whnf)
    refine FCalls.mono (sortSlots_c hS (fun hh => ⟨(hJ2 hh).1, by rw [hh]; rfl, (hJ2 hh).2⟩) (by omega) hkm) ?_
    rintro v M2 ⟨rfl, zs, hp, hso, hS2⟩
    have hent := ents_of hT hp hso
    have hEE := hes.unique hent
    subst hEE
    have hzl : zs.length = (usedL t.sl).length := hp.length_eq
    have hzm : ∀ s, s ∈ zs → s ∈ t.sl ∧ s.used = true := fun s hs => by
      have := hp.mem_iff.1 hs
      exact List.mem_filter.1 this
    have hrest : Sep [J 0, sl lA (usedL t.sl).length lc 4 (cellsOf zs)] M2 := (h.on (N := [_]) hS2).last hA
    clear hS2 hS
    (conv => whnf)
    refine loop_keep [0, 26, 27] (Nat × Mem) (fun s => [(28, .v (.int .i64 ((s.1 : Nat) : Int)))]) (fun _ => []) (fun s => s.2)
      (fun s => s.1 ≤ zs.length ∧ Sep [J s.1, sl lA (usedL t.sl).length lc 4 (cellsOf zs)] s.2) (fun s => zs.length - s.1) (0, M2) ⟨rfl, trivial⟩ rfl rfl ⟨by simp, hrest⟩ ?_
    clear hrest
    (conv => whnf)
    refine ⟨rfl, ?_⟩
    rintro ⟨i, M3⟩ ⟨hK1, hS3⟩
    simp only at hK1 hS3
    (conv => whnf)
    refine brk_intro (fun c2 => ?_) (fun c2 => ?_)
    · have c2 : (i : Int) < ((usedL t.sl).length : Nat) := by simpa using c2
      obtain ⟨s, hs⟩ : ∃ s, zs[i]? = some s := ⟨_, List.getElem?_eq_getElem (by omega)⟩
      have hsm := hzm s (List.mem_of_getElem? hs)
      have hrd := hS3.rd 1 rfl
      obtain ⟨q, hq, hc0⟩ := hrd.atf (k := i * 4) (off := 0) ((cellsOf_at hs (f := 0) (by decide)).trans rfl)
      obtain ⟨q1, hq1, hc1⟩ := hrd.atf (k := i * 4) (off := 1) ((cellsOf_at hs (f := 1) (by decide)).trans rfl)
      obtain ⟨q2, hq2, hc2⟩ := hrd.atf (k := i * 4) (off := 2) ((cellsOf_at hs (f := 2) (by decide)).trans rfl)
      obtain ⟨q3, hq3, hc3⟩ := hrd.atf (k := i * 4) (off := 3) ((cellsOf_at hs (f := 3) (by decide)).trans rfl)
      rw [hq] at hq1 hq2 hq3
      cases hq1
      cases hq2
      cases hq3
      have hwid := hT.ok.wid s hsm.1 hsm.2
      have hw1 := hT.ok.w1
      have hgetE : (entsOf zs)[i]? = some (s.ks, s.v) := by unfold entsOf; rw [List.getElem?_map, hs]; rfl
      have hilt : i < (entsOf zs).length := by unfold entsOf; rw [List.length_map]; omega
      have step1 : IntKind.i64.wrap ((i : Int) + 1) = ((i + 1 : Nat) : Int) := wrap_id (by omega) (by omega)
      (conv => whnf)
      refine ⟨q, hq, by omega, by omega, ?_⟩
      rw [show ((i : Nat) : Int).toNat = i by omega]
      (conv => whnf)
      refine ⟨_, hc0, ?_⟩
      (conv => whnf)
      refine ⟨_, hc1, ?_⟩
      (conv => whnf)
      refine ⟨_, _, _, hc2, ?_⟩
      (conv => whnf)
      refine ⟨_, hc3, ?_⟩
      (conv => whnf)
      obtain ⟨mj, hmj, hJm⟩ := hS3.get 0 rfl
      have hkI := (hJI i mj hJm s hsm.1).up hmj
      refine ⟨?_, ?_, trivial⟩
      all_goals
        (conv => whnf)
        refine FCalls.mono (clone_c hkI (by omega)) ?_
        rintro v M4 ⟨A', c', rfl, h4⟩
        have h5 := Sep.group (L := [sl A' s.ks.length c' 1 (ints s.ks), J i]) (hS3.on (N := [_]) h4)
        (conv => whnf)
        refine YCalls.mono (Sep.ycalls h5 (K := fun v m'' => (v = .bool true ∧ J (i + 1) m'') ∨ (v = .bool false ∧ Q m'')) fun m1 h6 => ?_) ?_
        · obtain ⟨ma, mb, k1, k2, k3, k4, mc, md, g1, g2, g3, g4, _⟩ := h6
          exact hy i _ [sl A' s.ks.length c' 1 (ints s.ks)] mc m1 hilt ⟨s.ks, s.v, A', c', hgetE, rfl, rfl⟩ g4 ⟨ma, mb, k1, k2, k3, k4, mc, md, g1, g2, g3, Mem.le_refl mc, trivial⟩
        · rintro v M5 ⟨m1, hv, hB⟩
          rcases hv with ⟨rfl, hJ1⟩ | ⟨rfl, hQ⟩
          · (conv => whnf)
            exact ⟨(i + 1, M5), le_more (l := [_]) ⟨by show some (AV.v (.int .i64 (IntKind.i64.wrap ((i : Int) + 1)))) = _; rw [step1], rfl, rfl, rfl, trivial⟩ rfl rfl rfl, ⟨by simp only; omega, hB.one hJ1⟩, by simp only; omega⟩
          · (conv => whnf)
            obtain ⟨m2, _, h7, _⟩ := hB
            exact ⟨m1, h7, .inr hQ⟩
    · have c2 : ¬ (i : Int) < ((usedL t.sl).length : Nat) := by simpa using c2
      have hi : i = zs.length := by omega
      subst hi
      (conv => whnf)
      obtain ⟨mj, hmj, hJm⟩ := hS3.get 0 rfl
      refine ⟨mj, hmj, .inl ?_⟩
      rw [show (entsOf zs).length = zs.length by simp [entsOf]]
      exact hJm
theorem all_iter {m0 : Mem} {p b : Nat} {a : Abs} {t : Tab} {es : List (List Int × Int)} (hes : Entries a.f es) :
    IterS Try.prog 31 [] [.pointer (some ⟨b, 0, none⟩)] (Sep [pt b [.pointer (some ⟨p, 0, none⟩)], fun M => TM' m0 M p a t]) (Sep [pt b [.pointer (some ⟨p, 0, none⟩)], fun M => TM' m0 M p a t])
      (fun M => ∀ s, s ∈ t.sl → Ints M s.kA s.ks) es.length
      (fun i vs L => ∃ k v A c, es[i]? = some (k, v) ∧ vs = [.slice A k.length c, .int .i64 v] ∧ L = [sl A k.length c 1 (ints k)]) :=
  all_iterG hes fun m1 m h hm => by
    have hcell := Mem.le_cell hm (h.cell 0 (i := 0) rfl rfl)
    obtain ⟨mb, hmb, hT0⟩ := h.get 1 rfl
    exact ⟨hcell, TM'.up hT0 (Mem.le_trans hmb hm)⟩
end Go.Proofs.Ytoifiplefjclbaa
