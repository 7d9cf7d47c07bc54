/- The table as a map. -/
import Derived.Test.YtoifiplefjclbaaTbH
namespace Go.Proofs.Ytoifiplefjclbaa
open Go Go.Mv
set_option maxHeartbeats 1000000
set_option linter.unusedVariables false
set_option linter.unusedSimpArgs false
attribute [local irreducible] FCalls IntKind.wrap bits Mem.set Mem.setCell Mem.setCells
structure Abs where
  w : Int
  most : Int
  f : List Int → Option Int
  n : Nat
  len : Nat
/-- At p stands a table that is the map a; since m0 nothing else has changed, and p is new since then. -/
structure TM' (m0 m : Mem) (p : Nat) (a : Abs) (t : Tab) : Prop where
  tab : TabAt m p t
  ok : TabOk t
  qp : t.sl = [] → t.q = p
  fp : m0 p = none
  fq : m0 t.q = none
  keep : Keep [] m0 m
  ew : t.w = a.w
  em : t.most = a.most
  en : t.many = a.n
  el : t.sl.length = a.len
  map : ∀ k x, Has t.sl k x ↔ a.f k = some x
  eg : ∀ b, t.g b ↔ m0 b ≠ none
def TM (m0 m : Mem) (p : Nat) (a : Abs) : Prop := ∃ t, TM' m0 m p a t
theorem Keep.bads {m0 m m' : Mem} {bad : List Nat} (h : Keep [] m0 m) (k : Keep bad m m') (hb : ∀ b, b ∈ bad → m0 b = none) : Keep [] m0 m' := fun c o hc _ => by
  refine k c o (h c o hc (by simp)) fun hm => ?_
  rw [hb c hm] at hc
  cases hc
theorem TM.mono {m0 m m' : Mem} {p : Nat} {a : Abs} (h : TM m0 m p a) (hk : Keep [] m m') : TM m0 m' p a := by
  obtain ⟨t, h⟩ := h
  exact ⟨t, h.tab.mono hk, h.ok, h.qp, h.fp, h.fq, h.keep.trans hk, h.ew, h.em, h.en, h.el, h.map, h.eg⟩
theorem TM.keep {m0 m : Mem} {p : Nat} {a : Abs} (h : TM m0 m p a) : Keep [] m0 m := h.choose_spec.keep
/-- A block that the table does not have becomes one of those that are kept. -/
theorem TM'.take {m0 mb m1 : Mem} {p b : Nat} {a : Abs} {t : Tab} {o : Obj} (h : TM' m0 mb p a t) (hb : mb b = none) (hm : Keep [] mb m1) (ho : m1 b = some o) : TM' (m0.set b o) m1 p a { t with g := fun x => (m0.set b o) x ≠ none } := by
  have hbp : p ≠ b := h.tab.head.ne hb
  have hbq : t.q ≠ b := by
    by_cases hs : t.sl = []
    · rw [h.qp hs]; exact hbp
    · exact (h.tab.places hs).1.ne hb
  have hT := h.tab.mono hm
  have hset : ∀ x, (m0.set b o) x ≠ none → m0 x ≠ none ∨ x = b := fun x hx => by
    by_cases hxb : x = b
    · exact .inr hxb
    · rw [Mem.set_ne hxb] at hx; exact .inl hx
  refine ⟨⟨hT.head, hT.places, fun s hs => ⟨(hT.keys s hs).1, (hT.keys s hs).2.1, (hT.keys s hs).2.2.1, (hT.keys s hs).2.2.2.1, fun x hx => ?_⟩, hT.size, fun x hx => ?_⟩, ⟨h.ok.ok, h.ok.many, h.ok.half, h.ok.wid, h.ok.w0, h.ok.w1, h.ok.most0, h.ok.most1, h.ok.full⟩, h.qp, by rw [Mem.set_ne hbp]; exact h.fp, by rw [Mem.set_ne hbq]; exact h.fq, fun c o' hc _ => ?_, h.ew, h.em, h.en, h.el, h.map, fun _ => Iff.rfl⟩
  · rcases hset x hx with hx | rfl
    · exact (h.tab.keys s hs).2.2.2.2 x ((h.eg x).2 hx)
    · exact (h.tab.keys s hs).1.off_new hb
  · rcases hset x hx with hx | rfl
    · exact hT.far x ((h.eg x).2 hx)
    · exact ⟨by rw [ho]; simp, Ne.symm hbp, fun _ => Ne.symm hbq⟩
  · by_cases hcb : c = b
    · subst hcb
      have e1 : (m0.set c o) c = some o := by simp [Mem.set]
      rw [e1] at hc
      cases hc
      exact ho
    · rw [Mem.set_ne hcb] at hc
      exact hm c o' (h.keep c o' hc (by simp)) (by simp)
theorem TM.build {m0 m : Mem} {p b : Nat} {a : Abs} {o : Obj} (h : TM m0 m p a) (hb : m b = none) : TM (m0.set b o) (m.set b o) p a ∧ m0 b = none := by
  obtain ⟨t, h⟩ := h
  have h0 : m0 b = none := by
    cases hm : m0 b with
    | none => rfl
    | some o' => rw [h.keep b o' hm (by simp)] at hb; cases hb
  exact ⟨⟨_, h.take hb (Keep.set hb) (by simp [Mem.set])⟩, h0⟩
theorem keep_unbuild {m0 m : Mem} {b : Nat} {o : Obj} (h : Keep [] (m0.set b o) m) (hb : m0 b = none) : Keep [] m0 m := fun c o' hc _ => by
  refine h c o' ?_ (by simp)
  rw [Mem.set_ne]
  · exact hc
  · rintro rfl
    rw [hc] at hb
    cases hb
theorem Ints.built {m : Mem} {b e : Nat} {xs : List Int} : Ints (m.set b (.cells (intCells .i64 xs).toArray e (0, 0))) (some ⟨b, 0, none⟩) xs := Blk.ints_ Blk.new
def updF (f : List Int → Option Int) (ks : List Int) (v : Option Int) : List Int → Option Int := fun k => if k = ks then v else f k
def lenR (a : Abs) (len' : Nat) : Prop := len' = a.len ∨ (2 * (a.n + 1) > a.len ∧ len' = max 8 (2 * a.len))
def putA (a : Abs) (ks : List Int) (v : Int) (code : Int) (a' : Abs) : Prop :=
  a'.w = a.w ∧ a'.most = a.most ∧
  if (ks.length : Int) ≠ a.w then code = 11 ∧ a' = a
  else if (a.f ks).isSome then code = 0 ∧ a'.f = updF a.f ks (some v) ∧ a'.n = a.n ∧ a'.len = a.len
  else if a.most ≤ a.n then code = 10 ∧ a' = a
  else code = 0 ∧ a'.f = updF a.f ks (some v) ∧ a'.n = a.n + 1 ∧ lenR a a'.len
theorem TM.some_iff {m0 m : Mem} {p : Nat} {a : Abs} {t : Tab} (h : TM' m0 m p a t) {ks : List Int} : (a.f ks).isSome = true ↔ ∃ v, Has t.sl ks v := by
  rw [Option.isSome_iff_exists]
  exact exists_congr fun v => (h.map ks v).symm
theorem map_upd {f : List Int → Option Int} {sl sl' : List Slt} {ks : List Int} {v : Int} (hm : ∀ k x, Has sl k x ↔ f k = some x) (hu : Upd sl sl' ks v) : ∀ k x, Has sl' k x ↔ updF f ks (some v) k = some x := by
  intro k x
  rw [hu, hm]
  unfold updF
  by_cases hk : k = ks
  · rw [if_pos hk]
    constructor
    · rintro (⟨_, rfl⟩ | ⟨h, _⟩)
      · rfl
      · exact absurd hk h
    · intro h
      exact .inl ⟨hk, (Option.some.inj h).symm⟩
  · rw [if_neg hk]
    constructor
    · rintro (⟨h, _⟩ | ⟨_, h⟩)
      · exact absurd h hk
      · exact h
    · exact fun h => .inr ⟨hk, h⟩
theorem put_m {m0 m : Mem} {p : Nat} {a : Abs} {A : Option Addr} {ks : List Int} {c : Nat} (val : Int) (h : TM m0 m p a) (hI : Ints m0 A ks) :
    FCalls Try.prog 13 [.pointer (some ⟨p, 0, none⟩), .slice A ks.length c, .int .i64 val] m fun v m' => ∃ code a', v = .int .i64 code ∧ TM m0 m' p a' ∧ putA a ks val code a' := by
  obtain ⟨t, h⟩ := h
  refine FCalls.mono (put_c val h.tab h.ok (hI.keep h.keep (by simp)) (hI.off_new h.fp) (hI.off_new h.fq)) ?_
  rintro v m' ⟨code, t', rfl, ht, ho, hw, hm, hk, hq, hr⟩
  have hq0 : m0 t'.q = none := by
    rcases hq with hq | hq
    · rw [hq]; exact h.fq
    · cases hc : m0 t'.q with
      | none => rfl
      | some o => rw [h.keep _ o hc (by simp)] at hq; cases hq
  have hkp : Keep [] m0 m' := h.keep.bads hk (by simpa using ⟨h.fp, h.fq⟩)
  have hsome := TM.some_iff h (ks := ks)
  have hmany := h.ok.many
  have hcnt : cnt t.sl = a.n := by have := h.en; omega
  have hlen := h.el
  rcases hr with ⟨h1, rfl, rfl⟩ | ⟨h1, h2, rfl, h4, h5, h6⟩ | ⟨h1, h2, h3, rfl, rfl⟩ | ⟨h1, h2, h3, rfl, h5, h6, h7⟩
  · refine ⟨11, a, rfl, ⟨_, ht, ho, h.qp, h.fp, hq0, hkp, h.ew, h.em, h.en, h.el, h.map, h.eg⟩, rfl, rfl, ?_⟩
    rw [if_pos (by rw [← h.ew]; exact h1)]
    exact ⟨rfl, rfl⟩
  · refine ⟨0, { a with f := updF a.f ks (some val) }, rfl, ⟨t', ht, ho, ?_, h.fp, hq0, hkp, hw.trans h.ew, hm.1.trans h.em, h4.trans h.en, h5.trans h.el, map_upd h.map h6, by rw [hm.2]; exact h.eg⟩, rfl, rfl, ?_⟩
    · intro he
      rw [he] at h5
      obtain ⟨v0, s, hs, _⟩ := h2
      rw [List.length_eq_zero_iff.1 h5.symm] at hs
      cases hs
    · rw [if_neg (by rw [← h.ew]; simpa using h1), if_pos (hsome.2 h2)]
      exact ⟨rfl, rfl, rfl, rfl⟩
  · refine ⟨10, a, rfl, ⟨_, ht, ho, h.qp, h.fp, hq0, hkp, h.ew, h.em, h.en, h.el, h.map, h.eg⟩, rfl, rfl, ?_⟩
    rw [if_neg (by rw [← h.ew]; simpa using h1), if_neg (fun hc => by obtain ⟨v, hv⟩ := hsome.1 hc; exact h2 v hv), if_pos (by rw [← h.em, ← h.en]; exact h3)]
    exact ⟨rfl, rfl⟩
  · refine ⟨0, { a with f := updF a.f ks (some val), n := a.n + 1, len := t'.sl.length }, rfl, ⟨t', ht, ho, ?_, h.fp, hq0, hkp, hw.trans h.ew, hm.1.trans h.em, by rw [h5, h.en]; simp, rfl, map_upd h.map h6, by rw [hm.2]; exact h.eg⟩, rfl, rfl, ?_⟩
    · intro he
      have := (h6 ks val).2 (.inl ⟨rfl, rfl⟩)
      obtain ⟨s, hs, _⟩ := this
      rw [he] at hs
      cases hs
    · rw [if_neg (by rw [← h.ew]; simpa using h1), if_neg (fun hc => by obtain ⟨v, hv⟩ := hsome.1 hc; exact h2 v hv), if_neg (by rw [← h.em, ← h.en]; omega)]
      refine ⟨rfl, rfl, rfl, ?_⟩
      unfold lenR
      dsimp only
      rw [← hcnt, ← hlen]
      exact h7
theorem get_m {m0 m : Mem} {p : Nat} {a : Abs} {A : Option Addr} {ks : List Int} {c : Nat} (h : TM m0 m p a) (hI : Ints m0 A ks) :
    FCalls Try.prog 14 [.pointer (some ⟨p, 0, none⟩), .slice A ks.length c] m fun v m' => v = .tuple #[.int .i64 ((a.f ks).getD 0), .bool (a.f ks).isSome] ∧ m' = m := by
  obtain ⟨t, h⟩ := h
  refine FCalls.mono (get_c h.tab h.ok (hI.keep h.keep (by simp))) ?_
  rintro v m' ⟨x, b, rfl, rfl, ⟨rfl, h1⟩ | ⟨rfl, rfl, h1⟩⟩
  · rw [(h.map ks x).1 h1]
    exact ⟨rfl, rfl⟩
  · have : a.f ks = none := by
      cases hf : a.f ks with
      | none => rfl
      | some v => exact absurd ((h.map ks v).2 hf) (h1 v)
    rw [this]
    exact ⟨rfl, rfl⟩
theorem drop_m {m0 m : Mem} {p : Nat} {a : Abs} {A : Option Addr} {ks : List Int} {c : Nat} (h : TM m0 m p a) (hI : Ints m0 A ks) :
    FCalls Try.prog 15 [.pointer (some ⟨p, 0, none⟩), .slice A ks.length c] m fun v m' => v = .bool (a.f ks).isSome ∧ TM m0 m' p { a with f := updF a.f ks none, n := a.n - (if (a.f ks).isSome then 1 else 0) } ∧ ((a.f ks).isSome = true → 0 < a.n) := by
  obtain ⟨t, h⟩ := h
  refine FCalls.mono (drop_c h.tab h.ok (hI.keep h.keep (by simp))) ?_
  rintro v m' ⟨b, t', rfl, ht, ho, hw, hm, hq, hl, hk, hr⟩
  have hkp : Keep [] m0 m' := h.keep.bads hk (by simpa using ⟨h.fp, h.fq⟩)
  have hsome := TM.some_iff h (ks := ks)
  have hmany := h.ok.many
  have hmany' := ho.many
  have hen := h.en
  rcases hr with ⟨rfl, h1, h2, h3⟩ | ⟨rfl, h1, rfl⟩
  · have h4 := hsome.2 h1
    obtain ⟨v0, s, hs, hsu, hsk, hsv⟩ := h1
    have hpos : 0 < cnt t.sl := List.countP_pos_iff.2 ⟨s, hs, hsu⟩
    rw [h4]
    refine ⟨rfl, ⟨t', ht, ho, ?_, h.fp, by rw [hq]; exact h.fq, hkp, hw.trans h.ew, hm.1.trans h.em, ?_, hl.trans h.el, fun k x => ?_, by rw [hm.2]; exact h.eg⟩, fun _ => by omega⟩
    · intro he
      rw [he] at hl
      rw [List.length_eq_zero_iff.1 hl.symm] at hs
      cases hs
    · dsimp only
      rw [if_pos rfl]
      omega
    · rw [h3, h.map]
      dsimp only [updF]
      by_cases hk' : k = ks
      · rw [if_pos hk']
        constructor
        · exact fun hh => absurd hk' hh.1
        · exact fun hh => by cases hh
      · rw [if_neg hk']
        exact ⟨fun hh => hh.2, fun hh => ⟨hk', hh⟩⟩
  · have h4 : (a.f ks).isSome = false := by
      cases hc : (a.f ks).isSome with
      | false => rfl
      | true => obtain ⟨v, hv⟩ := hsome.1 hc; exact absurd hv (h1 v)
    have h5 : a.f ks = none := by simpa using h4
    rw [h4]
    refine ⟨rfl, ⟨_, ht, ho, h.qp, h.fp, h.fq, hkp, h.ew, h.em, by simpa using h.en, h.el, fun k x => ?_, h.eg⟩, fun hc => by cases hc⟩
    rw [h.map]
    dsimp only [updF]
    by_cases hk' : k = ks
    · rw [if_pos hk', hk', h5]
    · rw [if_neg hk']
theorem len_m {m0 m : Mem} {p : Nat} {a : Abs} (h : TM m0 m p a) : FCalls Try.prog 16 [.pointer (some ⟨p, 0, none⟩)] m fun v m' => v = .int .i64 a.n ∧ m' = m := by
  obtain ⟨t, h⟩ := h
  refine FCalls.mono (len_c h.tab) ?_
  rintro v m' ⟨rfl, rfl⟩
  exact ⟨by rw [h.en], rfl⟩
theorem slots_m {m0 m : Mem} {p : Nat} {a : Abs} (h : TM m0 m p a) : FCalls Try.prog 20 [.pointer (some ⟨p, 0, none⟩)] m fun v m' => v = .int .i64 a.len ∧ m' = m := by
  obtain ⟨t, h⟩ := h
  refine FCalls.mono (slots_c h.tab) ?_
  rintro v m' ⟨rfl, rfl⟩
  exact ⟨by rw [h.el], rfl⟩
theorem new_m {m : Mem} {w most : Int} (hw : 0 ≤ w) (hw1 : w ≤ 128) (hm : 0 ≤ most) (hm1 : most ≤ 1000000) :
    FCalls Try.prog 12 [.int .i64 w, .int .i64 most] m fun v m' => ∃ p, v = .tuple #[.pointer (some ⟨p, 0, none⟩), .int .i64 0] ∧ TM m m' p ⟨w, most, fun _ => none, 0, 0⟩ := by
  refine FCalls.mono (new_c (g := fun b => m b ≠ none) (fun b h => h) hw hw1 hm hm1) ?_
  rintro v m' ⟨p, rfl, hp, ht, hk⟩
  refine ⟨p, rfl, _, ht, ⟨.inl rfl, rfl, by simp [cnt], fun s hs => (by cases hs), hw, hw1, hm, hm1, hm⟩, fun _ => rfl, hp, hp, hk, rfl, rfl, rfl, rfl, fun k x => ?_, fun _ => Iff.rfl⟩
  constructor
  · rintro ⟨s, hs, _⟩
    cases hs
  · exact fun hh => by cases hh
end Go.Proofs.Ytoifiplefjclbaa
