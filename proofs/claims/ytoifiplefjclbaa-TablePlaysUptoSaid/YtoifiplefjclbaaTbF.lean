/- The table: Put. -/
import Derived.Test.YtoifiplefjclbaaTbE
namespace Go.Proofs.Ytoifiplefjclbaa
open Go Go.Mv
set_option maxHeartbeats 1000000
set_option linter.unusedVariables false
set_option linter.unusedSimpArgs false
attribute [local irreducible] FCalls IntKind.wrap bits Mem.set Mem.setCell Mem.setCells
def Upd (sl sl' : List Slt) (ks : List Int) (v : Int) : Prop := ∀ k x, Has sl' k x ↔ (k = ks ∧ x = v) ∨ (k ≠ ks ∧ Has sl k x)
def PutR (t : Tab) (ks : List Int) (v : Int) (code : Int) (t' : Tab) : Prop :=
  ((ks.length : Int) ≠ t.w ∧ code = 11 ∧ t' = t) ∨
  ((ks.length : Int) = t.w ∧ (∃ v0, Has t.sl ks v0) ∧ code = 0 ∧ t'.many = t.many ∧ t'.sl.length = t.sl.length ∧ Upd t.sl t'.sl ks v) ∨
  ((ks.length : Int) = t.w ∧ (∀ v0, ¬ Has t.sl ks v0) ∧ t.most ≤ t.many ∧ code = 10 ∧ t' = t) ∨
  ((ks.length : Int) = t.w ∧ (∀ v0, ¬ Has t.sl ks v0) ∧ t.many < t.most ∧ code = 0 ∧ t'.many = t.many + 1 ∧ Upd t.sl t'.sl ks v ∧
    (t'.sl.length = t.sl.length ∨ (2 * (cnt t.sl + 1) > t.sl.length ∧ t'.sl.length = max 8 (2 * t.sl.length))))
theorem cellsOf_put (v : Int) : ∀ {l : List Slt} {i : Nat} {s : Slt}, l[i]? = some s → cellsOf (l.set i { s with v := v }) = (cellsOf l).set (i * 4 + 3) (.int .i64 v)
  | [], _, _, h => by simp at h
  | t :: r, 0, s, h => by
    simp at h
    subst h
    rfl
  | t :: r, i + 1, s, h => by
    show t.cells ++ cellsOf (r.set i _) = (t.cells ++ cellsOf r).set ((i + 1) * 4 + 3) _
    rw [cellsOf_put v (l := r) (by simpa using h), List.set_append_right _ _ (by simp [Slt.cells]; omega)]
    congr 2
    simp [Slt.cells]
    omega
/-- A table whose key is there: its value is laid anew. -/
theorem put_there {m : Mem} {p : Nat} {t : Tab} {r : Nat} {s : Slt} (val : Int) (ht : TabAt m p t) (ho : TabOk t) (hr : t.sl[r]? = some s) (hu : s.used = true) :
    TabAt (m.setCell (((⟨t.q, 0, none⟩ : Addr).add (r * 4)).add 3) (.int .i64 val)) p { t with sl := t.sl.set r { s with v := val } } ∧ TabOk { t with sl := t.sl.set r { s with v := val } } ∧
      Keep [p, t.q] m (m.setCell (((⟨t.q, 0, none⟩ : Addr).add (r * 4)).add 3) (.int .i64 val)) := by
  have hne : t.sl ≠ [] := by rintro h1; rw [h1] at hr; cases hr
  have hg := ho.ok.resolve_left hne
  obtain ⟨hq, hpq⟩ := ht.places hne
  have hrl := lt_of hr
  rw [add_mk, add_mk, Nat.zero_add]
  have hk : Keep [p, t.q] m (m.setCell ⟨t.q, r * 4 + 3, none⟩ (.int .i64 val)) := Keep.cell (by simp)
  have hk' : Keep [t.q] m (m.setCell ⟨t.q, r * 4 + 3, none⟩ (.int .i64 val)) := Keep.cell (by simp)
  have hne' : t.sl.set r { s with v := val } ≠ [] := by rintro h1; have := congrArg List.length h1; simp at this; exact hne this
  refine ⟨⟨?_, fun _ => ⟨?_, hpq⟩, fun u hu' => ?_, by simpa using ht.size, fun x hx => ⟨dom_setCell (ht.far x hx).1, (ht.far x hx).2.1, fun _ => (ht.far x hx).2.2 hne⟩⟩, ⟨.inr (good_value hg hr hu val), ?_, ?_, fun u hu' huu => ?_, ho.w0, ho.w1, ho.most0, ho.most1, ho.full⟩, hk⟩
  · have h1 := ht.head.setCell_ne (c := t.q) (i := r * 4 + 3) (v := .int .i64 val) hpq
    have hs1 : Tab.sA { t with sl := t.sl.set r { s with v := val } } = some ⟨t.q, 0, none⟩ := if_neg hne'
    have hs2 : t.sA = some ⟨t.q, 0, none⟩ := if_neg hne
    rw [hs1, List.length_set]
    rw [hs2] at h1
    exact h1
  · dsimp only
    rw [cellsOf_put val hr]
    exact hq.put _
  · have hu2 : (Ints m u.kA u.ks ∧ Off u.kA u.ks p ∧ Off u.kA u.ks t.q ∧ u.ks.length < 2 ^ 62 ∧ ∀ b, t.g b → Off u.kA u.ks b) := by
      rcases mem_set_at hu' with rfl | hu'
      · exact ht.keys s (List.mem_of_getElem? hr)
      · exact ht.keys u hu'
    exact ⟨hu2.1.keep hk' (by simpa using hu2.2.2.1), hu2.2⟩
  · dsimp only
    rw [ho.many, cnt_set hr, hu]
    have : 0 < cnt t.sl := List.countP_pos_iff.2 ⟨s, List.mem_of_getElem? hr, hu⟩
    simp
    omega
  · dsimp only
    rw [cnt_set hr, hu, List.length_set]
    have := ho.half
    have : 0 < cnt t.sl := List.countP_pos_iff.2 ⟨s, List.mem_of_getElem? hr, hu⟩
    simp
    omega
  · rcases mem_set_at hu' with rfl | hu'
    · exact ho.wid s (List.mem_of_getElem? hr) hu
    · exact ho.wid u hu' huu
/-- A key is laid at a free place. -/
theorem put_new {m : Mem} {p b : Nat} {t : Tab} {ks : List Int} {r c : Nat} {s : Slt} (val : Int) (ht : TabAt m p t) (ho : TabOk t) (hlen : 2 * (cnt t.sl + 1) ≤ t.sl.length) (hr : t.sl[r]? = some s) (hs : s.used = false)
    (hno : ∀ u, u ∈ t.sl → u.used = true → u.ks ≠ ks) (hx : ∀ x, x < t.sl.length → dist t.sl.length (hashOf ks % t.sl.length).toNat x < dist t.sl.length (hashOf ks % t.sl.length).toNat r → Used t.sl x)
    (hI : Ints m (some ⟨b, 0, none⟩) ks) (hb1 : b ≠ p) (hb2 : b ≠ t.q) (hb3 : ∀ x, t.g x → x ≠ b) (hks : ks.length < 2 ^ 62) (hw : (ks.length : Int) = t.w) (hfull : t.many < t.most) :
    TabOk { t with sl := t.sl.set r ⟨true, hashOf ks, some ⟨b, 0, none⟩, ks, c, val⟩, many := t.many + 1 } ∧ Upd t.sl (t.sl.set r ⟨true, hashOf ks, some ⟨b, 0, none⟩, ks, c, val⟩) ks val ∧
      TabAt ((m.setCells ((⟨t.q, 0, none⟩ : Addr).add (r * 4)) 0 [.bool true, .int .u64 (hashOf ks), .slice (some ⟨b, 0, none⟩) ks.length c, .int .i64 val]).setCell ((⟨p, 0, none⟩ : Addr).add 3) (.int .i64 (t.many + 1))) p
        { t with sl := t.sl.set r ⟨true, hashOf ks, some ⟨b, 0, none⟩, ks, c, val⟩, many := t.many + 1 } := by
  have hne : t.sl ≠ [] := by rintro h1; rw [h1] at hr; cases hr
  have hg := ho.ok.resolve_left hne
  obtain ⟨hq, hpq⟩ := ht.places hne
  have hrl := lt_of hr
  have hc : cnt (t.sl.set r ⟨true, hashOf ks, some ⟨b, 0, none⟩, ks, c, val⟩) = cnt t.sl + 1 := by rw [cnt_set hr, hs]; simp
  have hne' : t.sl.set r ⟨true, hashOf ks, some ⟨b, 0, none⟩, ks, c, val⟩ ≠ [] := by rintro h1; have := congrArg List.length h1; simp at this; exact hne this
  have hmany := ho.many
  refine ⟨⟨.inr (good_insert hg hr hs rfl rfl hno hx (by omega)), ?_, ?_, fun u hu huu => ?_, ho.w0, ho.w1, ho.most0, ho.most1, ?_⟩, ?_, ⟨?_, fun _ => ⟨?_, hpq⟩, fun u hu => ?_, by simpa using ht.size, fun x hx => ⟨dom_setCell (dom_setCells _ (ht.far x hx).1), (ht.far x hx).2.1, fun _ => (ht.far x hx).2.2 hne⟩⟩⟩
  · dsimp only
    rw [hc, hmany]
    omega
  · dsimp only
    rw [hc, List.length_set]
    exact hlen
  · rcases mem_set_at hu with rfl | hu
    · exact hw
    · exact ho.wid u hu huu
  · dsimp only
    omega
  · intro k x
    rw [has_insert hr hs rfl]
    constructor
    · rintro (h1 | h1)
      · exact .inl h1
      · refine .inr ⟨?_, h1⟩
        rintro rfl
        obtain ⟨u, hu, huu, huk, _⟩ := h1
        exact hno u hu huu huk
    · rintro (h1 | h1)
      · exact .inl h1
      · exact .inr h1.2
  · have h1 := Blk.put (i := 3) (.int .i64 (t.many + 1)) (ht.head.setCells_ne (c := t.q) (i := 0 + r * 4) (j := 0) (vs := [.bool true, .int .u64 (hashOf ks), .slice (some ⟨b, 0, none⟩) ks.length c, .int .i64 val]) hpq)
    have hs1 : Tab.sA { t with sl := t.sl.set r ⟨true, hashOf ks, some ⟨b, 0, none⟩, ks, c, val⟩, many := t.many + 1 } = some ⟨t.q, 0, none⟩ := if_neg hne'
    have hs2 : t.sA = some ⟨t.q, 0, none⟩ := if_neg hne
    rw [hs1, List.length_set]
    rw [hs2] at h1
    simpa [add_mk] using h1
  · rw [add_mk _ _ 3]
    exact (slot_put (s := ⟨true, hashOf ks, some ⟨b, 0, none⟩, ks, c, val⟩) hq hrl rfl rfl).setCell_ne (Ne.symm hpq)
  · rw [add_mk _ _ 3]
    have hk : Keep [p, t.q] m ((m.setCells ((⟨t.q, 0, none⟩ : Addr).add (r * 4)) 0 [.bool true, .int .u64 (hashOf ks), .slice (some ⟨b, 0, none⟩) ks.length c, .int .i64 val]).setCell ⟨p, 0 + 3, none⟩ (.int .i64 (t.many + 1))) :=
      (Keep.cells_add (by simp)).trans (Keep.cell (by simp))
    have hb : Off (some ⟨b, 0, none⟩) ks p ∧ Off (some ⟨b, 0, none⟩) ks t.q := ⟨.inr fun a ha => by cases ha; exact hb1, .inr fun a ha => by cases ha; exact hb2⟩
    rcases mem_set_at hu with rfl | hu
    · exact ⟨hI.keep hk (by simpa using hb), hb.1, hb.2, hks, fun x hx => .inr fun a ha => by cases ha; exact fun e => hb3 x hx e.symm⟩
    · have := ht.keys u hu
      exact ⟨this.1.keep hk (by simpa using ⟨this.2.1, this.2.2.1⟩), this.2⟩
theorem put_c {m : Mem} {p : Nat} {t : Tab} {A : Option Addr} {ks : List Int} {c : Nat} (val : Int) (ht : TabAt m p t) (ho : TabOk t) (hA : Ints m A ks) (hp : Off A ks p) (hq : Off A ks t.q) :
    FCalls Try.prog 13 [.pointer (some ⟨p, 0, none⟩), .slice A ks.length c, .int .i64 val] m fun v m' => ∃ code t', v = .int .i64 code ∧ TabAt m' p t' ∧ TabOk t' ∧ t'.w = t.w ∧ (t'.most = t.most ∧ t'.g = t.g) ∧
      Keep [p, t.q] m m' ∧ (t'.q = t.q ∨ m t'.q = none) ∧ PutR t ks val code t' := by
  refine fcalls_of_vc (T := tbl) (B := bodies) (pr := []) (DR := dr13) (args := [.v (.pointer (some ⟨p, 0, none⟩)), .v (.slice A ks.length c), .v (.int .i64 val)]) tbl_ok bodies_ok mixed Try.func13 rfl (by decide +kernel) (by simp [Try.f13]) rfl ?_
  have hhead := ht.head
  (conv => whnf)
  refine ⟨_, hhead.cell (i := 0) rfl, ?_⟩
  (conv => whnf)
  refine brk_intro (fun h => ?_) (fun h => ?_)
  · have hw : (ks.length : Int) ≠ t.w := by simpa using h
    (conv => whnf)
    exact ⟨11, t, rfl, ht, ho, rfl, ⟨rfl, rfl⟩, Keep.refl, .inl rfl, .inl ⟨hw, rfl, rfl⟩⟩
  have hw : (ks.length : Int) = t.w := by simpa using h
  have hw1 := ho.w1
  have hks : ks.length < 2 ^ 62 := by omega
  have hmany := ho.many
  have hmost := ho.most1
  have hfull := ho.full
  (conv => whnf)
  refine FCalls.mono (hash_c hA hks) ?_
  rintro v m' ⟨rfl, rfl⟩
  (conv => whnf)
  refine ⟨_, _, _, hhead.cell (i := 2) rfl, ?_⟩
  (conv => whnf)
  refine brk_intro (fun h1 => ?a1) (fun h1 => ?a2)
  case' a1 =>
    have hne : t.sl ≠ [] := by rintro h2; simp [h2] at h1
    have hg := ho.ok.resolve_left hne
    obtain ⟨k, hk, hn⟩ := hg.pow
    obtain ⟨r, s, hr, hat, hor⟩ := at_any hg ks
    obtain ⟨hqb, hpq⟩ := ht.places hne
    have hsA : t.sA = some ⟨t.q, 0, none⟩ := if_neg hne
    rw [hsA] at hhead
    have hrl := lt_of hr
    (conv => whnf)
    refine ⟨_, _, _, hhead.cell (i := 2) rfl, ?_⟩
    (conv => whnf)
    refine ⟨_, at_c ht hA hks hn hk hat, ?_⟩
    (conv => whnf)
    refine ⟨_, rfl, by omega, by omega, ?_⟩
    (conv => whnf)
    refine ⟨_, slot_cell hqb (i := (r : Int).toNat) hr (f := 0) (by decide) rfl rfl, ?_⟩
    (conv => whnf)
    rcases hor with ⟨hu, hk⟩ | ⟨hu, hno, _⟩
    · refine brk_true hu ?_
      (conv => whnf)
      refine ⟨⟨⟨_, slot_cell hqb (i := (r : Int).toNat) hr (f := 3) (by decide) rfl rfl⟩, by rw [add_mk, add_mk]; exact hqb.fz⟩, ?_⟩
      (conv => whnf)
      obtain ⟨h2, h3, h4⟩ := put_there val ht ho hr hu
      refine ⟨0, { t with sl := t.sl.set r { s with v := val } }, rfl, h2, h3, rfl, ⟨rfl, rfl⟩, h4, .inl rfl, .inr (.inl ⟨hw, ⟨s.v, s, List.mem_of_getElem? hr, hu, hk, rfl⟩, rfl, rfl, by simp, fun k x => ?_⟩)⟩
      rw [has_value hg hr hu, hk]
    refine brk_false hu ?_
    (conv => whnf)
  case' a2 =>
    have hno : ∀ u, u ∈ t.sl → u.used = true → u.ks ≠ ks := by
      have h2 : t.sl = [] := by
        have : ¬ (t.sl.length : Int) > 0 := by simpa using h1
        exact List.length_eq_zero_iff.1 (by omega)
      intro u hu
      rw [h2] at hu
      cases hu
    (conv => whnf)
  all_goals
    have hno' : ∀ v0, ¬ Has t.sl ks v0 := by
      rintro v0 ⟨u, hu, huu, huk, _⟩
      exact hno u hu huu huk
    refine ⟨_, ht.head.cell (i := 3) rfl, ?_⟩
    (conv => whnf)
    refine ⟨_, ht.head.cell (i := 1) rfl, ?_⟩
    (conv => whnf)
    refine brk_intro (fun h2 => ?_) (fun h2 => ?_)
    · have h2 : t.many ≥ t.most := by simpa using h2
      (conv => whnf)
      exact ⟨10, t, rfl, ht, ho, rfl, ⟨rfl, rfl⟩, Keep.refl, .inl rfl, .inr (.inr (.inl ⟨hw, hno', h2, rfl, rfl⟩))⟩
    · have h2 : t.many < t.most := by simpa using h2
      (conv => whnf)
      refine FCalls.mono (grow_c ht ho h2) ?_
      rintro v m1 ⟨t1, rfl, ht1, ho1, e1, ⟨e2, eg⟩, e3, hHas, hl1, hl2, hk1, hq1⟩
      have hq1' : Off A ks t1.q := by
        rcases hq1 with hq1 | hq1
        · rw [hq1]; exact hq
        · exact hA.off_new hq1
      have hA1 : Ints m1 A ks := hA.keep hk1 (by simpa using hp)
      (conv => whnf)
      refine ⟨by omega, by omega, by omega, ?_, fun b hb => ?_⟩
      · have : ((tbl.at 3).bytes : Int) = 8 := rfl
        rw [this]
        omega
      (conv => whnf)
      rw [Int.toNat_natCast, Nat.min_self, show (tbl.at 3).size = 1 from rfl, Nat.mul_one]
      refine ⟨intCells .i64 ks, ints_length _ _, ?_, ?_⟩
      · rcases (hA1.keep (bad := []) (Keep.set (o := .cells (zerosOf tbl 3 ks.length).list.toArray 3 (0, 0)) hb) (by simp)).holds with h3 | ⟨q, h3, h4⟩
        · exact .inl (by rw [h3]; rfl)
        · exact .inr ⟨_, q, rfl, h3, h4, Blk.new.room (by rw [zeros_ints, ints_length]; simp), oneCells_ints _ _⟩
      have hown := copy_own (m := m1) (b := b) (xs := ks)
      have hk2 : Keep [] m1 ((m1.set b (.cells (zerosOf tbl 3 ks.length).list.toArray 3 (0, 0))).setCells ⟨b, 0, none⟩ 0 (intCells .i64 ks)) := (Keep.set hb).cells_new hb
      have ht2 := ht1.mono hk2
      have hA2 := hA1.keep hk2 (by simp)
      have hlen1 : 0 < t1.sl.length := by omega
      have hne1 : t1.sl ≠ [] := by rintro e; rw [e] at hlen1; simp at hlen1
      have hg1 := ho1.ok.resolve_left hne1
      obtain ⟨k1, hk1', hn1⟩ := hg1.pow
      have hno1 : ∀ u, u ∈ t1.sl → u.used = true → u.ks ≠ ks := by
        intro u hu huu huk
        exact hno' u.v ((hHas ks u.v).1 ⟨u, hu, huu, huk, rfl⟩)
      obtain ⟨r1, s1, hr1, hs1, hat1, hx1⟩ := at_free hg1 hno1
      have hr1l := lt_of hr1
      obtain ⟨hqb1, hpq1⟩ := ht2.places hne1
      have hsA1 : t1.sA = some ⟨t1.q, 0, none⟩ := if_neg hne1
      have hhead1 := ht2.head
      have hl1' : cnt t1.sl = cnt t.sl := by
        have := ho1.many
        have := ho.many
        omega
      rw [hsA1] at hhead1
      have hbp : b ≠ p := Ne.symm (ht1.head.ne hb)
      have hbq : b ≠ t1.q := Ne.symm ((ht1.places hne1).1.ne hb)
      (conv => whnf)
      generalize (m1.set b (.cells (zerosOf tbl 3 ks.length).list.toArray 3 (0, 0))).setCells ⟨b, 0, none⟩ 0 (intCells .i64 ks) = m2 at *
      refine ⟨_, _, _, hhead1.cell (i := 2) rfl, ?_⟩
      (conv => whnf)
      refine ⟨_, at_c ht2 hA2 hks hn1 hk1' hat1, ?_⟩
      (conv => whnf)
      refine ⟨_, rfl, by omega, by omega, ?_⟩
      (conv => whnf)
      refine ⟨slot_room hqb1 hr1l rfl rfl, ?_⟩
      (conv => whnf)
      have hw3 : IntKind.i64.wrap (t1.many + 1) = t1.many + 1 := wrap_id (by rw [e3, hmany]; omega) (by rw [e3]; omega)
      have hh3 := hhead1.setCells_ne (c := t1.q) (i := 0 + r1 * 4) (j := 0) (vs := [.bool true, .int .u64 (hashOf ks), .slice (some ⟨b, 0, none⟩) ks.length ks.length, .int .i64 val]) hpq1
      rw [← add_mk] at hh3
      refine ⟨_, hh3.cell (i := 3) rfl, ?_⟩
      (conv => whnf)
      refine ⟨⟨⟨_, hh3.cell (i := 3) rfl⟩, hh3.fz⟩, ?_⟩
      (conv => whnf)
      obtain ⟨ho3, hupd, ht3⟩ := put_new (c := ks.length) val ht2 ho1 (by rw [hl1']; exact hl1) hr1 hs1 hno1 hx1 hown hbp hbq (fun x hx => by rintro rfl; exact (ht1.far _ hx).1 hb) hks (hw.trans e1.symm) (by rw [e2, e3]; exact h2)
      rw [hw3]
      refine ⟨0, _, rfl, ht3, ho3, e1, ⟨e2, eg⟩, ?_, hq1, .inr (.inr (.inr ⟨hw, hno', h2, rfl, by dsimp only; rw [e3], ?_, ?_⟩))⟩
      · have hk3 : Keep [p, t1.q] m' ((m2.setCells ((⟨t1.q, 0, none⟩ : Addr).add (r1 * 4)) 0 [.bool true, .int .u64 (hashOf ks), .slice (some ⟨b, 0, none⟩) ks.length ks.length, .int .i64 val]).setCell ((⟨p, 0, none⟩ : Addr).add 3) (.int .i64 (t1.many + 1))) := by
          rw [add_mk _ _ 3]
          exact ((hk1.more (by simp)).trans (hk2.more (by simp))).trans ((Keep.cells_add (by simp)).trans (Keep.cell (by simp)))
        intro c o hc1 hc2
        refine hk3 c o hc1 ?_
        simp only [List.mem_cons, List.not_mem_nil, or_false, not_or] at hc2 ⊢
        refine ⟨hc2.1, ?_⟩
        rintro rfl
        rcases hq1 with hq1 | hq1
        · exact hc2.2 hq1
        · rw [hc1] at hq1; cases hq1
      · intro k x
        rw [hupd, hHas]
      · dsimp only
        rw [List.length_set]
        exact hl2
end Go.Proofs.Ytoifiplefjclbaa
