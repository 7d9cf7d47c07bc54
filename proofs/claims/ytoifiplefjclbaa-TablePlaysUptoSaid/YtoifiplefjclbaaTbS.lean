/- Table: a part of its own: the heads and places at p, the keys in memory that never changes. -/
import Derived.Test.YtoifiplefjclbaaTbR
import Derived.Test.YtoifiplefjclbaaTbK
namespace Go.Proofs.Ytoifiplefjclbaa
open Go Go.Mv
set_option maxHeartbeats 1000000
set_option maxRecDepth 10000
set_option linter.unusedVariables false
set_option linter.unusedSimpArgs false
attribute [local irreducible] FCalls IntKind.wrap bits Mem.set Mem.setCell Mem.setCells YCalls
/-- What a table is, but for memory. -/
structure Ab (p : Nat) (t : Tab) (a : Abs) : Prop where
  ok : TabOk t
  qp : t.sl = [] → t.q = p
  ew : t.w = a.w
  em : t.most = a.most
  en : t.many = a.n
  el : t.sl.length = a.len
  map : ∀ k x, Has t.sl k x ↔ a.f k = some x
theorem Ab.withg {p : Nat} {t : Tab} {a : Abs} (h : Ab p t a) (g : Nat → Prop) : Ab p { t with g := g } a :=
  ⟨⟨h.ok.ok, h.ok.many, h.ok.half, h.ok.wid, h.ok.w0, h.ok.w1, h.ok.most0, h.ok.most1, h.ok.full⟩, h.qp, h.ew, h.em, h.en, h.el, h.map⟩
/-- K holds the keys. -/
structure TabIn (K M : Mem) (p : Nat) (a : Abs) (t : Tab) : Prop where
  head : Blk M p [.int .i64 t.w, .int .i64 t.most, .slice t.sA t.sl.length t.sl.length, .int .i64 t.many]
  places : t.sl ≠ [] → Blk M t.q (cellsOf t.sl) ∧ p ≠ t.q
  keys : ∀ s, s ∈ t.sl → Ints K s.kA s.ks ∧ s.ks.length < 2 ^ 62
  size : t.sl.length < 2 ^ 40
  kp0 : K p = none
  kq0 : K t.q = none
  ab : Ab p t a
def tb (K : Mem) (p : Nat) (a : Abs) : Asn := fun M => ∃ t, TabIn K M p a t
theorem TabIn.at {K M m : Mem} {p : Nat} {a : Abs} {t : Tab} (h : TabIn K M p a t) (hM : M.le m) (hK : K.le m) {g : Nat → Prop} (hg : ∀ b, g b → m b ≠ none ∧ M b = none ∧ K b = none) : TabAt m p { t with g := g } := by
  refine ⟨?_, fun hs => ?_, fun s hs => ⟨(h.keys s hs).1.up hK, (h.keys s hs).1.off_new h.kp0, (h.keys s hs).1.off_new h.kq0, (h.keys s hs).2, fun b hb => (h.keys s hs).1.off_new (hg b hb).2.2⟩, h.size, fun b hb => ⟨(hg b hb).1, ?_, fun hs => ?_⟩⟩
  · obtain ⟨e, he⟩ := h.head
    exact ⟨e, hM _ _ he⟩
  · obtain ⟨⟨e, he⟩, h2⟩ := h.places hs
    exact ⟨⟨e, hM _ _ he⟩, h2⟩
  · exact Ne.symm (h.head.ne (hg b hb).2.1)
  · exact Ne.symm ((h.places hs).1.ne (hg b hb).2.1)
/-- A table with what stands beside it. -/
structure TabBy (m mr K : Mem) (p : Nat) (t : Tab) : Prop where
  tab : TabAt m p t
  eg : ∀ b, t.g b ↔ mr b ≠ none
  le : K.le m
  rle : mr.le m
  ap : K.apart mr
  kp0 : K p = none
  kq0 : K t.q = none
  rp0 : mr p = none
  rq0 : mr t.q = none
theorem tb_open {K m : Mem} {p : Nat} {a : Abs} {R : List Asn} (h : Sep (tb K p a :: kp K :: R) m) : ∃ mr t, TabBy m mr K p t ∧ Ab p t a ∧ Sep R mr := by
  obtain ⟨m1, m2, k1, k2, k3, ⟨t, hT⟩, m3, mr, g1, g2, g3, g4, g5⟩ := h
  have hK3 : K.le m3 := g4
  have hK : K.le m := Mem.le_trans hK3 (Mem.le_trans g2 k3)
  have hr : mr.le m := Mem.le_trans g3 k3
  have hap1 : ∀ b, mr b ≠ none → m1 b = none := fun b hb => by
    rcases k1 b with h | h
    · exact h
    · exact absurd (Mem.le_none g3 h) hb
  have hap2 : ∀ b, mr b ≠ none → K b = none := fun b hb => by
    rcases g1 b with h | h
    · exact Mem.le_none hK3 h
    · exact absurd h hb
  refine ⟨mr, { t with g := fun b => mr b ≠ none }, ⟨hT.at k2 hK fun b hb => ⟨Mem.le_dom hr hb, hap1 b hb, hap2 b hb⟩, fun _ => Iff.rfl, hK, hr, fun b => ?_, hT.kp0, hT.kq0, ?_, ?_⟩, hT.ab.withg _, g5⟩
  · by_cases hb : mr b = none
    · exact .inr hb
    · exact .inl (hap2 b hb)
  · apply Classical.byContradiction
    intro hb
    exact hT.head.ne (hap1 p hb) rfl
  · by_cases hs : t.sl = []
    · show mr t.q = none
      rw [hT.ab.qp hs]
      apply Classical.byContradiction
      intro hb
      exact hT.head.ne (hap1 p hb) rfl
    · apply Classical.byContradiction
      intro hb
      exact (hT.places hs).1.ne (hap1 t.q hb) rfl
theorem tb_close {K m mr : Mem} {p : Nat} {a : Abs} {t : Tab} {R : List Asn} (h : TabBy m mr K p t) (ha : Ab p t a) (hR : Sep R mr) : ∃ K', K.le K' ∧ Sep (tb K' p a :: kp K' :: R) m := by
  obtain ⟨o1, ho1⟩ : ∃ m1 : Mem, m1 = fun b => if b = p ∨ b = t.q then m b else none := ⟨_, rfl⟩
  obtain ⟨K', hK'⟩ : ∃ K' : Mem, K' = fun b => if b = p ∨ b = t.q ∨ mr b ≠ none then none else m b := ⟨_, rfl⟩
  have hKK : K.le K' := fun b o hb => by
    rw [hK']
    have h1 : ¬ (b = p ∨ b = t.q ∨ mr b ≠ none) := by
      rintro (rfl | rfl | h1)
      · rw [h.kp0] at hb; cases hb
      · rw [h.kq0] at hb; cases hb
      · rcases h.ap b with h2 | h2
        · rw [h2] at hb; cases hb
        · exact h1 h2
    simp only [if_neg h1]
    exact h.le b o hb
  have hap : K'.apart mr := fun b => by
    by_cases hb : mr b = none
    · exact .inr hb
    · left
      rw [hK']
      simp only
      rw [if_pos (.inr (.inr hb))]
  have hKm : ∀ b o, K' b = some o → m b = some o := fun b o hk => by
    rw [hK'] at hk
    simp only at hk
    split at hk
    · cases hk
    · exact hk
  have hoff : ∀ b, ¬ (b = p ∨ b = t.q ∨ mr b ≠ none) → K' b = m b := fun b hb => by rw [hK']; simp only; rw [if_neg hb]
  refine ⟨K', hKK, o1, K'.join mr, fun b => ?_, fun b o hb => ?_, fun b o hb => ?_, ⟨{ t with g := fun _ => False }, ?_⟩, K', mr, hap, Mem.le_join_left, Mem.le_join_right hap, Mem.le_refl _, hR⟩
  · by_cases hb : b = p ∨ b = t.q
    · right
      have : K' b = none := by rw [hK']; simp only; rw [if_pos (by rcases hb with hb | hb <;> simp [hb])]
      simp only [Mem.join, this]
      rcases hb with rfl | rfl
      · rw [h.rp0]; rfl
      · rw [h.rq0]; rfl
    · left
      rw [ho1]
      simp only [if_neg hb]
  · rw [ho1] at hb
    simp only at hb
    split at hb
    · exact hb
    · cases hb
  · simp only [Mem.join] at hb
    cases hk : K' b with
    | none =>
      rw [hk] at hb
      exact h.rle b o (by simpa using hb)
    | some o' =>
      rw [hk] at hb
      have : o' = o := by simpa using hb
      exact hKm b o (by rw [hk, this])
  · refine ⟨?_, fun hs => ?_, fun s hs => ?_, h.tab.size, ?_, ?_, ha.withg _⟩
    · obtain ⟨e, he⟩ := h.tab.head
      exact ⟨e, by rw [ho1]; simp only; rw [if_pos (.inl trivial)]; exact he⟩
    · obtain ⟨⟨e, he⟩, h2⟩ := h.tab.places hs
      exact ⟨⟨e, by rw [ho1]; simp only; rw [if_pos (.inr trivial)]; exact he⟩, h2⟩
    · obtain ⟨g1, g2, g3, g4, g5⟩ := h.tab.keys s hs
      refine ⟨?_, g4⟩
      rcases g1 with g1 | ⟨b, i, g6, g7⟩
      · exact .inl g1
      by_cases hne : s.ks = []
      · exact .inl hne
      refine .inr ⟨b, i, g6, fun k x hx => ?_⟩
      have hb : K' b = m b := hoff b (by
        rintro (rfl | rfl | h1)
        · rcases g2 with g2 | g2
          · exact hne g2
          · exact g2 _ g6 rfl
        · rcases g3 with g3 | g3
          · exact hne g3
          · exact g3 _ g6 rfl
        · rcases g5 b ((h.eg b).2 h1) with g5 | g5
          · exact hne g5
          · exact g5 _ g6 rfl)
      have := g7 k x hx
      unfold Mem.cell at this ⊢
      simp only [hb] at this ⊢
      exact this
    · rw [hK']; simp only; rw [if_pos (.inl trivial)]
    · rw [hK']; simp only; rw [if_pos (.inr (.inl trivial))]
theorem TabBy.step {m m' mr K : Mem} {p : Nat} {t t' : Tab} (h : TabBy m mr K p t) (ht : TabAt m' p t') (hg : t'.g = t.g) (hk : Keep [p, t.q] m m') (hq : t'.q = t.q ∨ t'.q = p ∨ m t'.q = none) : TabBy m' mr K p t' := by
  have le : ∀ X : Mem, X p = none → X t.q = none → X.le m → X.le m' := fun X h1 h2 h3 b o hb => hk b o (h3 b o hb) (by
    simp only [List.mem_cons, List.not_mem_nil, or_false, not_or]
    exact ⟨fun e => (by rw [e, h1] at hb; cases hb), fun e => (by rw [e, h2] at hb; cases hb)⟩)
  have q0 : ∀ X : Mem, X p = none → X t.q = none → X.le m → X t'.q = none := fun X h0 h1 h2 => by
    rcases hq with hq | hq | hq
    · rw [hq]; exact h1
    · rw [hq]; exact h0
    · exact Mem.le_none h2 hq
  exact ⟨ht, by rw [hg]; exact h.eg, le K h.kp0 h.kq0 h.le, le mr h.rp0 h.rq0 h.rle, h.ap, h.kp0, q0 K h.kp0 h.kq0 h.le, h.rp0, q0 mr h.rp0 h.rq0 h.rle⟩
theorem Ab.some_iff {p : Nat} {a : Abs} {t : Tab} (h : Ab p t a) {ks : List Int} : (a.f ks).isSome = true ↔ ∃ v, Has t.sl ks v := by
  constructor
  · intro hc
    cases hf : a.f ks with
    | none => rw [hf] at hc; cases hc
    | some v => exact ⟨v, (h.map ks v).2 hf⟩
  · rintro ⟨v, hv⟩
    rw [(h.map ks v).1 hv]
    rfl
theorem put_ab {p : Nat} {t t' : Tab} {a : Abs} {ks : List Int} {val code : Int} (h : Ab p t a) (ho : TabOk t') (hw : t'.w = t.w) (hm : t'.most = t.most) (hr : PutR t ks val code t') : ∃ a', Ab p t' a' ∧ putA a ks val code a' := by
  have hsome := h.some_iff (ks := ks)
  have hmany := h.ok.many
  have hcnt : cnt t.sl = a.n := by have := h.en; omega
  have hlen := h.el
  rcases hr with ⟨h1, rfl, rfl⟩ | ⟨h1, h2, rfl, h4, h5, h6⟩ | ⟨h1, h2, h3, rfl, rfl⟩ | ⟨h1, h2, h3, rfl, h5, h6, h7⟩
  · refine ⟨a, h, rfl, rfl, ?_⟩
    rw [if_pos (by rw [← h.ew]; exact h1)]
    exact ⟨rfl, rfl⟩
  · refine ⟨{ a with f := updF a.f ks (some val) }, ⟨ho, ?_, hw.trans h.ew, hm.trans h.em, h4.trans h.en, h5.trans h.el, map_upd h.map h6⟩, rfl, rfl, ?_⟩
    · intro he
      rw [he] at h5
      obtain ⟨v0, s, hs, _⟩ := h2
      rw [List.length_eq_zero_iff.1 h5.symm] at hs
      cases hs
    · rw [if_neg (by rw [← h.ew]; simpa using h1), if_pos (hsome.2 h2)]
      exact ⟨rfl, rfl, rfl, rfl⟩
  · refine ⟨a, h, rfl, rfl, ?_⟩
    rw [if_neg (by rw [← h.ew]; simpa using h1), if_neg (fun hc => by obtain ⟨v, hv⟩ := hsome.1 hc; exact h2 v hv), if_pos (by rw [← h.em, ← h.en]; exact h3)]
    exact ⟨rfl, rfl⟩
  · refine ⟨{ a with f := updF a.f ks (some val), n := a.n + 1, len := t'.sl.length }, ⟨ho, ?_, hw.trans h.ew, hm.trans h.em, by rw [h5, h.en]; simp, rfl, map_upd h.map h6⟩, rfl, rfl, ?_⟩
    · intro he
      have := (h6 ks val).2 (.inl ⟨rfl, rfl⟩)
      obtain ⟨s, hs, _⟩ := this
      rw [he] at hs
      cases hs
    · rw [if_neg (by rw [← h.ew]; simpa using h1), if_neg (fun hc => by obtain ⟨v, hv⟩ := hsome.1 hc; exact h2 v hv), if_neg (by rw [← h.em, ← h.en]; omega)]
      refine ⟨rfl, rfl, rfl, ?_⟩
      unfold lenR
      dsimp only
      rw [← hcnt, ← hlen]
      exact h7
theorem put_t {K m : Mem} {p : Nat} {a : Abs} {R : List Asn} {A : Option Addr} {ks : List Int} {c : Nat} (val : Int) (h : Sep (tb K p a :: kp K :: R) m) (hI : ∀ mr, Sep R mr → Ints mr A ks) :
    FCalls Try.prog 13 [.pointer (some ⟨p, 0, none⟩), .slice A ks.length c, .int .i64 val] m fun v m' => ∃ code a' K', v = .int .i64 code ∧ putA a ks val code a' ∧ K.le K' ∧ Sep (tb K' p a' :: kp K' :: R) m' := by
  obtain ⟨mr, t, hT, ha, hR⟩ := tb_open h
  have hA := hI mr hR
  refine FCalls.mono (put_c val hT.tab ha.ok (hA.up hT.rle) (hA.off_new hT.rp0) (hA.off_new hT.rq0)) ?_
  rintro v m' ⟨code, t', rfl, ht, ho, hw, ⟨hm, hg⟩, hk, hq, hr⟩
  obtain ⟨a', ha', hp⟩ := put_ab ha ho hw hm hr
  obtain ⟨K', h1, h2⟩ := tb_close (hT.step ht hg hk (hq.imp_right .inr)) ha' hR
  exact ⟨code, a', K', rfl, hp, h1, h2⟩
theorem get_t {K m : Mem} {p : Nat} {a : Abs} {R : List Asn} {A : Option Addr} {ks : List Int} {c : Nat} (h : Sep (tb K p a :: kp K :: R) m) (hI : Ints m A ks) :
    FCalls Try.prog 14 [.pointer (some ⟨p, 0, none⟩), .slice A ks.length c] m fun v m' => v = .tuple #[.int .i64 ((a.f ks).getD 0), .bool (a.f ks).isSome] ∧ m' = m := by
  obtain ⟨mr, t, hT, ha, hR⟩ := tb_open h
  refine FCalls.mono (get_c hT.tab ha.ok hI) ?_
  rintro v m' ⟨x, b, rfl, rfl, ⟨rfl, h1⟩ | ⟨rfl, rfl, h1⟩⟩
  · rw [(ha.map ks x).1 h1]
    exact ⟨rfl, rfl⟩
  · have : a.f ks = none := by
      cases hf : a.f ks with
      | none => rfl
      | some v => exact absurd ((ha.map ks v).2 hf) (h1 v)
    rw [this]
    exact ⟨rfl, rfl⟩
theorem len_t {K m : Mem} {p : Nat} {a : Abs} {R : List Asn} (h : Sep (tb K p a :: kp K :: R) m) : FCalls Try.prog 16 [.pointer (some ⟨p, 0, none⟩)] m fun v m' => v = .int .i64 a.n ∧ m' = m := by
  obtain ⟨mr, t, hT, ha, hR⟩ := tb_open h
  refine FCalls.mono (len_c hT.tab) ?_
  rintro v m' ⟨rfl, rfl⟩
  exact ⟨by rw [ha.en], rfl⟩
theorem slots_t {K m : Mem} {p : Nat} {a : Abs} {R : List Asn} (h : Sep (tb K p a :: kp K :: R) m) : FCalls Try.prog 20 [.pointer (some ⟨p, 0, none⟩)] m fun v m' => v = .int .i64 a.len ∧ m' = m := by
  obtain ⟨mr, t, hT, ha, hR⟩ := tb_open h
  refine FCalls.mono (slots_c hT.tab) ?_
  rintro v m' ⟨rfl, rfl⟩
  exact ⟨by rw [ha.el], rfl⟩
theorem drop_ab {p : Nat} {t t' : Tab} {a : Abs} {ks : List Int} {b : Bool} (h : Ab p t a) (ho : TabOk t') (hw : t'.w = t.w) (hm : t'.most = t.most) (hq : t'.q = t.q) (hl : t'.sl.length = t.sl.length)
    (hr : (b = true ∧ (∃ v0, Has t.sl ks v0) ∧ t'.many = t.many - 1 ∧ ∀ k x, Has t'.sl k x ↔ k ≠ ks ∧ Has t.sl k x) ∨ (b = false ∧ (∀ v0, ¬ Has t.sl ks v0) ∧ t' = t)) :
    b = (a.f ks).isSome ∧ Ab p t' { a with f := updF a.f ks none, n := a.n - (if (a.f ks).isSome then 1 else 0) } ∧ ((a.f ks).isSome = true → 0 < a.n) := by
  have hsome := h.some_iff (ks := ks)
  have hmany := h.ok.many
  have hmany' := ho.many
  have hen := h.en
  rcases hr with ⟨rfl, h1, h2, h3⟩ | ⟨rfl, h1, rfl⟩
  · have h4 := hsome.2 h1
    obtain ⟨v0, s, hs, hsu, hsk, hsv⟩ := h1
    have hpos : 0 < cnt t.sl := List.countP_pos_iff.2 ⟨s, hs, hsu⟩
    rw [h4]
    refine ⟨rfl, ⟨ho, ?_, hw.trans h.ew, hm.trans h.em, ?_, hl.trans h.el, fun k x => ?_⟩, fun _ => by omega⟩
    · intro he
      rw [he] at hl
      rw [List.length_eq_zero_iff.1 hl.symm] at hs
      cases hs
    · dsimp only
      rw [if_pos rfl]
      omega
    · rw [h3, h.map]
      dsimp only [updF]
      by_cases hk' : k = ks
      · rw [if_pos hk']
        constructor
        · exact fun hh => absurd hk' hh.1
        · exact fun hh => by cases hh
      · rw [if_neg hk']
        exact ⟨fun hh => hh.2, fun hh => ⟨hk', hh⟩⟩
  · have h4 : (a.f ks).isSome = false := by
      cases hc : (a.f ks).isSome with
      | false => rfl
      | true => obtain ⟨v, hv⟩ := hsome.1 hc; exact absurd hv (h1 v)
    have h5 : a.f ks = none := by simpa using h4
    rw [h4]
    refine ⟨rfl, ⟨ho, h.qp, h.ew, h.em, by simpa using h.en, h.el, fun k x => ?_⟩, fun hc => by cases hc⟩
    rw [h.map]
    dsimp only [updF]
    by_cases hk' : k = ks
    · rw [if_pos hk', hk', h5]
    · rw [if_neg hk']
theorem drop_t {K m : Mem} {p : Nat} {a : Abs} {R : List Asn} {A : Option Addr} {ks : List Int} {c : Nat} (h : Sep (tb K p a :: kp K :: R) m) (hI : Ints m A ks) :
    FCalls Try.prog 15 [.pointer (some ⟨p, 0, none⟩), .slice A ks.length c] m fun v m' => v = .bool (a.f ks).isSome ∧ ((a.f ks).isSome = true → 0 < a.n) ∧ ∃ K', K.le K' ∧ Sep (tb K' p { a with f := updF a.f ks none, n := a.n - (if (a.f ks).isSome then 1 else 0) } :: kp K' :: R) m' := by
  obtain ⟨mr, t, hT, ha, hR⟩ := tb_open h
  refine FCalls.mono (drop_c hT.tab ha.ok hI) ?_
  rintro v m' ⟨b, t', rfl, ht, ho, hw, ⟨hm, hg⟩, hq, hl, hk, hr⟩
  obtain ⟨rfl, ha', hpos⟩ := drop_ab ha ho hw hm hq hl hr
  obtain ⟨K', h1, h2⟩ := tb_close (hT.step ht hg hk (.inl hq)) ha' hR
  exact ⟨rfl, hpos, K', h1, h2⟩
theorem clear_t {K m : Mem} {p : Nat} {a : Abs} {R : List Asn} (h : Sep (tb K p a :: kp K :: R) m) :
    FCalls Try.prog 21 [.pointer (some ⟨p, 0, none⟩)] m fun v m' => v = .tuple #[] ∧ ∃ K', K.le K' ∧ Sep (tb K' p { a with f := fun _ => none, n := 0, len := if a.len > 16 then 0 else a.len } :: kp K' :: R) m' := by
  obtain ⟨mr, t, hT, h, hR⟩ := tb_open h
  have ht := hT.tab
  have ho := h.ok
  have hel := h.el
  have fin : ∀ {m' : Mem} {t' : Tab}, TabAt m' p t' → t'.g = t.g → Keep [p, t.q] m m' → (t'.q = t.q ∨ t'.q = p ∨ m t'.q = none) → Ab p t' { a with f := fun _ => none, n := 0, len := if a.len > 16 then 0 else a.len } →
      Value.tuple #[] = Value.tuple #[] ∧ ∃ K', K.le K' ∧ Sep (tb K' p { a with f := fun _ => none, n := 0, len := if a.len > 16 then 0 else a.len } :: kp K' :: R) m' := fun h1 h2 h3 h4 h5 => by
    obtain ⟨K', g1, g2⟩ := tb_close (hT.step h1 h2 h3 h4) h5 hR
    exact ⟨rfl, K', g1, g2⟩
  refine fcalls_of_vc (T := tbl) (B := bodies) (pr := []) (DR := dr21) (args := [.v (.pointer (some ⟨p, 0, none⟩))]) tbl_ok bodies_ok mixed Try.func21 rfl (by decide +kernel) (by simp [Try.f21]) rfl ?_
  (conv => whnf)
  refine ⟨_, _, _, ht.head.cell (i := 2) rfl, ?_⟩
  (conv => whnf)
  refine ⟨fun h1 => ?_, fun q h1 h2 => ?_⟩
  · have hs : t.sl = [] := by
      rcases h1 with h1 | h1
      · exact Classical.byContradiction fun hne => by rw [Tab.sA, if_neg hne] at h1; cases h1
      · exact List.length_eq_zero_iff.1 h1
    (conv => whnf)
    refine ⟨_, _, _, ht.head.cell (i := 2) rfl, ?_⟩
    (conv => whnf)
    refine brk_false (by simp [hs]) ?_
    (conv => whnf)
    refine ⟨⟨⟨_, ht.head.cell (i := 3) rfl⟩, ht.head.fz⟩, ?_⟩
    (conv => whnf)
    obtain ⟨h3, h4⟩ := many_at (n := 0) ht
    have ha : a.len = 0 := by rw [← hel, hs]; rfl
    refine fin (t' := { t with many := 0 }) h3 rfl (h4.more (by simp)) (.inl rfl) ⟨⟨.inl hs, by simp [hs, cnt], by simp [hs, cnt], fun s hs' => (by rw [hs] at hs'; cases hs'), ho.w0, ho.w1, ho.most0, ho.most1, ho.most0⟩, h.qp, h.ew, h.em, rfl, by dsimp only; rw [hs, ha]; rfl, fun k x => ?_⟩
    rw [hs]
    constructor
    · rintro ⟨s, hs', _⟩
      cases hs'
    · exact fun hh => by cases hh
  · have hne : t.sl ≠ [] := by rintro hs; rw [hs] at h2; simp at h2
    obtain ⟨hq, hpq⟩ := ht.places hne
    have hsA : t.sA = some ⟨t.q, 0, none⟩ := if_neg hne
    rw [hsA] at h1
    cases h1
    obtain ⟨hz1, hz2, hz3⟩ := zero_tab ht ho hne
    have hz := hz1.head
    have hhead := ht.head
    rw [hsA] at hhead
    refine ⟨hq.room (by rw [cellsOf_length, show (tbl.at 69).size = 4 from rfl]; omega), ?_⟩
    (conv => whnf)
    refine ⟨_, _, _, hz.cell (i := 2) rfl, ?_⟩
    (conv => whnf)
    refine brk_intro (fun h3 => ?_) (fun h3 => ?_)
    · have h3 : t.sl.length > 16 := by
        have : (16 : Int) < t.sl.length := by simpa using h3
        omega
      have hz' := hz.put (i := 2) (.slice none 0 0)
      (conv => whnf)
      refine ⟨⟨⟨_, hz.cell (i := 2) rfl⟩, hz.fz⟩, ?_⟩
      (conv => whnf)
      refine ⟨⟨⟨_, hz'.cell (i := 3) rfl⟩, hz'.fz⟩, ?_⟩
      (conv => whnf)
      refine fin (t' := ⟨t.w, t.most, [], p, 0, t.g⟩) ⟨hz'.put (i := 3) (.int .i64 0), fun hh => absurd rfl hh, fun s hs => (by cases hs), by simp, fun x hx => ⟨dom_setCell (dom_setCell (hz1.far x hx).1), (hz1.far x hx).2.1, fun h => absurd rfl h⟩⟩ rfl ?_ (.inr (.inl rfl)) ⟨⟨.inl rfl, rfl, by simp [cnt], fun s hs => (by cases hs), ho.w0, ho.w1, ho.most0, ho.most1, ho.most0⟩, fun _ => rfl, h.ew, h.em, rfl, by dsimp only; rw [← hel, if_pos h3]; rfl, fun k x => ?_⟩
      · exact (hz2.more (by simp)).trans ((Keep.cell (by simp)).trans (Keep.cell (by simp)))
      · constructor
        · rintro ⟨s, hs', _⟩
          cases hs'
        · exact fun hh => by cases hh
    · have h3 : ¬ t.sl.length > 16 := by
        have : ¬ (16 : Int) < t.sl.length := by simpa using h3
        omega
      obtain ⟨hm1, hm2⟩ := many_at (n := 0) hz1
      (conv => whnf)
      refine ⟨⟨⟨_, hz.cell (i := 3) rfl⟩, hz.fz⟩, ?_⟩
      (conv => whnf)
      refine fin hm1 rfl ?_ (.inl rfl) ⟨⟨.inr hz3, by dsimp only; rw [cnt_zero]; rfl, by dsimp only; rw [cnt_zero]; omega, fun s hs hu => ?_, ho.w0, ho.w1, ho.most0, ho.most1, ho.most0⟩, ?_, h.ew, h.em, rfl, by dsimp only; rw [← hel, if_neg h3, List.length_replicate], fun k x => ?_⟩
      · exact (hz2.more (by simp)).trans (hm2.more (by simp))
      · rw [List.mem_replicate] at hs
        rw [hs.2] at hu
        cases hu
      · intro hh
        have := congrArg List.length hh
        simp at this
        exact absurd this hne
      · constructor
        · exact fun hh => absurd hh (noHas0 k x)
        · exact fun hh => by cases hh
theorem new_t {K m : Mem} {w most : Int} {R : List Asn} (h : Sep R m) (hK : K.le m) (hw : 0 ≤ w) (hw1 : w ≤ 128) (hm : 0 ≤ most) (hm1 : most ≤ 1000000) :
    FCalls Try.prog 12 [.int .i64 w, .int .i64 most] m fun v m' => ∃ p, v = .tuple #[.pointer (some ⟨p, 0, none⟩), .int .i64 0] ∧ Sep (tb K p ⟨w, most, fun _ => none, 0, 0⟩ :: R) m' := by
  refine FCalls.mono (new_c (g := fun _ => False) (fun b h => h.elim) hw hw1 hm hm1) ?_
  rintro v m' ⟨p, rfl, hp, ht, hk⟩
  obtain ⟨e, he⟩ := ht.head
  have hle : m.le m' := fun b o hb => hk b o hb (by simp)
  refine ⟨p, rfl, fun b => if b = p then m' b else none, m, fun b => ?_, fun b o hb => ?_, hle, ⟨⟨w, most, [], p, 0, fun _ => False⟩, ⟨⟨e, by simp only [if_true]; exact he⟩, fun hh => absurd rfl hh, fun s hs => (by cases hs), by simp, Mem.le_none hK hp, Mem.le_none hK hp,
    ⟨⟨.inl rfl, rfl, by simp [cnt], fun s hs => (by cases hs), hw, hw1, hm, hm1, hm⟩, fun _ => rfl, rfl, rfl, rfl, rfl, fun k x => ⟨fun ⟨s, hs, _⟩ => (by cases hs), fun hh => by cases hh⟩⟩⟩⟩, h⟩
  · by_cases hb : b = p
    · exact .inr (hb ▸ hp)
    · exact .inl (if_neg hb)
  · simp only at hb
    split at hb
    · exact hb
    · cases hb
theorem IterS.sub {P : Program} {f : Nat} {first cap : List Value} {A A' : Asn} {I I2 : Mem → Prop} {N : Nat} {R : Nat → List Value → List Asn → Prop} (h : IterS P f first cap A A' I N R) (hI : ∀ m, I2 m → I m) : IterS P f first cap A A' I2 N R :=
  fun l J Q Rs m h1 h2 h3 h4 => h l J Q Rs m h1 h2 (fun i m' hJ => hI m' (h3 i m' hJ)) h4
theorem all_t {K : Mem} {p b : Nat} {a : Abs} {t : Tab} {es : List (List Int × Int)} (hes : Entries a.f es) :
    IterS Try.prog 31 [] [.pointer (some ⟨b, 0, none⟩)] (Sep [pt b [.pointer (some ⟨p, 0, none⟩)], fun M => TabIn K M p a t, kp K]) (Sep [pt b [.pointer (some ⟨p, 0, none⟩)], fun M => TabIn K M p a t, kp K])
      (fun M => K.le M ∧ ∀ s, s ∈ t.sl → Ints K s.kA s.ks) es.length
      (fun i vs L => ∃ k v A c, es[i]? = some (k, v) ∧ vs = [.slice A k.length c, .int .i64 v] ∧ L = [sl A k.length c 1 (ints k)]) :=
  IterS.sub (all_iterG (m0 := Mem.empty) (t := { t with g := fun _ => False }) hes fun m1 m h hm => by
    have hcell := Mem.le_cell hm (h.cell 0 (i := 0) rfl rfl)
    obtain ⟨mb, hmb, hT0⟩ := h.get 1 rfl
    have hK := Mem.le_trans (h.kept 2 rfl) hm
    refine ⟨hcell, hT0.at (Mem.le_trans hmb hm) hK (fun b hb => hb.elim), (hT0.ab.withg _).ok, hT0.ab.qp, rfl, rfl, fun b o hb _ => (by cases hb), hT0.ab.ew, hT0.ab.em, hT0.ab.en, hT0.ab.el, hT0.ab.map, fun b => ⟨fun hb => hb.elim, fun hb => absurd rfl hb⟩⟩)
    fun m ⟨h1, h2⟩ s hs => (h2 s hs).up h1
end Go.Proofs.Ytoifiplefjclbaa
