/- The table: Drop. -/
import Derived.Test.YtoifiplefjclbaaTbF
namespace Go.Proofs.Ytoifiplefjclbaa
open Go Go.Mv
set_option maxHeartbeats 1000000
set_option linter.unusedVariables false
set_option linter.unusedSimpArgs false
attribute [local irreducible] FCalls IntKind.wrap bits Mem.set Mem.setCell Mem.setCells
theorem int_dist {n k a b : Nat} (hn : n = 2 ^ k) (hk : k < 40) (ha : a < n) (hb : b < n) : bits .and .i64 (IntKind.i64.wrap ((b : Int) - a)) (IntKind.i64.wrap ((n : Int) - 1)) = (dist n a b : Nat) := by
  have h2 : n < 2 ^ 40 := by rw [hn]; exact Nat.pow_lt_pow_right (by omega) hk
  rw [mask_spec hn hk, wrap_id (by omega) (by omega)]
  have := dist_cases n a b
  rcases this with ⟨h, e⟩ | ⟨h, e⟩
  · rw [e, Int.emod_eq_of_lt (by omega) (by omega)]
    omega
  · rw [e, ← Int.add_emod_right, Int.emod_eq_of_lt (by omega) (by omega)]
    omega
theorem int_nxt {n k a : Nat} (hn : n = 2 ^ k) (hk : k < 40) (ha : a < n) : bits .and .i64 (IntKind.i64.wrap ((a : Int) + 1)) (IntKind.i64.wrap ((n : Int) - 1)) = (nxt n a : Nat) := by
  have h2 : n < 2 ^ 40 := by rw [hn]; exact Nat.pow_lt_pow_right (by omega) hk
  rw [mask_spec hn hk, wrap_id (by omega) (by omega), ← nxt_eq ha]
  simp
theorem int_home {n k : Nat} {s : Slt} (hn : n = 2 ^ k) (hk : k < 40) : bits .and .i64 (IntKind.i64.wrap s.h) (IntKind.i64.wrap ((n : Int) - 1)) = (home n s : Nat) := by
  have h2 : 0 < n := by rw [hn]; exact Nat.two_pow_pos k
  rw [mask_spec hn hk, wrap_mod hn hk]
  unfold home
  have := Int.emod_nonneg s.h (show (n : Int) ≠ 0 by omega)
  omega
theorem cnt_flags : ∀ {a b : List Slt}, a.length = b.length → (∀ x, Used a x ↔ Used b x) → cnt a = cnt b
  | [], [], _, _ => rfl
  | [], _ :: _, h, _ => by simp at h
  | _ :: _, [], h, _ => by simp at h
  | s :: a, t :: b, h, hf => by
    have h0 : s.used = t.used := by
      have := hf 0
      simp [Used] at this
      cases hs : s.used <;> cases ht : t.used <;> simp_all
    have ih : cnt a = cnt b := cnt_flags (by simpa using h) fun x => by
      have := hf (x + 1)
      simpa [Used] using this
    unfold cnt at *
    rw [List.countP_cons, List.countP_cons, ih, h0]
/-- A place is laid over. -/
theorem place_at {m : Mem} {p r : Nat} {t : Tab} {s : Slt} (ht : TabAt m p t) (hr : r < t.sl.length) (hs : Ints m s.kA s.ks ∧ Off s.kA s.ks p ∧ Off s.kA s.ks t.q ∧ s.ks.length < 2 ^ 62 ∧ ∀ b, t.g b → Off s.kA s.ks b) :
    TabAt (m.setCells ((⟨t.q, 0, none⟩ : Addr).add (r * 4)) 0 s.cells) p { t with sl := t.sl.set r s } ∧ Keep [t.q] m (m.setCells ((⟨t.q, 0, none⟩ : Addr).add (r * 4)) 0 s.cells) := by
  have hne : t.sl ≠ [] := by rintro h1; rw [h1] at hr; simp at hr
  obtain ⟨hq, hpq⟩ := ht.places hne
  have hne' : t.sl.set r s ≠ [] := by rintro h1; have := congrArg List.length h1; simp at this; exact hne this
  have hk : Keep [t.q] m (m.setCells ((⟨t.q, 0, none⟩ : Addr).add (r * 4)) 0 s.cells) := Keep.cells_add (by simp)
  refine ⟨⟨?_, fun _ => ⟨slot_put hq hr rfl rfl, hpq⟩, fun u hu => ?_, by simpa using ht.size, fun x hx => ⟨dom_setCells _ (ht.far x hx).1, (ht.far x hx).2.1, fun _ => (ht.far x hx).2.2 hne⟩⟩, hk⟩
  · have h1 := ht.head.setCells_ne (c := t.q) (i := 0 + r * 4) (j := 0) (vs := s.cells) hpq
    rw [← add_mk] at h1
    have hs1 : Tab.sA { t with sl := t.sl.set r s } = some ⟨t.q, 0, none⟩ := if_neg hne'
    have hs2 : t.sA = some ⟨t.q, 0, none⟩ := if_neg hne
    rw [hs1, List.length_set]
    rw [hs2] at h1
    exact h1
  · rcases mem_set_at hu with rfl | hu
    · exact ⟨hs.1.keep hk (by simpa using hs.2.2.1), hs.2⟩
    · have := ht.keys u hu
      exact ⟨this.1.keep hk (by simpa using this.2.2.1), this.2⟩
theorem many_at {m : Mem} {p : Nat} {t : Tab} {n : Int} (ht : TabAt m p t) : TabAt (m.setCell ((⟨p, 0, none⟩ : Addr).add 3) (.int .i64 n)) p { t with many := n } ∧ Keep [p] m (m.setCell ((⟨p, 0, none⟩ : Addr).add 3) (.int .i64 n)) := by
  rw [add_mk]
  have hk : Keep [p] m (m.setCell ⟨p, 0 + 3, none⟩ (.int .i64 n)) := Keep.cell (by simp)
  refine ⟨⟨ht.head.put (i := 3) _, fun h => ⟨(ht.places h).1.setCell_ne (Ne.symm (ht.places h).2), (ht.places h).2⟩, fun u hu => ?_, ht.size, fun x hx => ⟨dom_setCell (ht.far x hx).1, (ht.far x hx).2⟩⟩, hk⟩
  have := ht.keys u hu
  exact ⟨this.1.keep hk (by simpa using this.2.1), this.2⟩
theorem drop_c {m : Mem} {p : Nat} {t : Tab} {A : Option Addr} {ks : List Int} {c : Nat} (ht : TabAt m p t) (ho : TabOk t) (hA : Ints m A ks) :
    FCalls Try.prog 15 [.pointer (some ⟨p, 0, none⟩), .slice A ks.length c] m fun v m' => ∃ b t', v = .bool b ∧ TabAt m' p t' ∧ TabOk t' ∧ t'.w = t.w ∧ (t'.most = t.most ∧ t'.g = t.g) ∧ t'.q = t.q ∧ t'.sl.length = t.sl.length ∧
      Keep [p, t.q] m m' ∧ ((b = true ∧ (∃ v0, Has t.sl ks v0) ∧ t'.many = t.many - 1 ∧ ∀ k x, Has t'.sl k x ↔ k ≠ ks ∧ Has t.sl k x) ∨ (b = false ∧ (∀ v0, ¬ Has t.sl ks v0) ∧ t' = t)) := by
  refine fcalls_of_vc (T := tbl) (B := bodies) (pr := []) (DR := dr15) (args := [.v (.pointer (some ⟨p, 0, none⟩)), .v (.slice A ks.length c)]) tbl_ok bodies_ok mixed Try.func15 rfl (by decide +kernel) (by simp [Try.f15]) rfl ?_
  (conv => whnf)
  refine FCalls.mono (find_c ht ho hA) ?_
  rintro v m' ⟨j, b, rfl, rfl, hor⟩
  (conv => whnf)
  rcases hor.symm with ⟨hb, hno⟩ | ⟨hb, s0, hj, hu0, hk0⟩
  · refine brk_true (by simp [hb]) ?_
    (conv => whnf)
    exact ⟨false, t, rfl, ht, ho, rfl, ⟨rfl, rfl⟩, rfl, rfl, Keep.refl, .inr ⟨rfl, hno, rfl⟩⟩
  refine brk_false (by simp [hb]) ?_
  have hne : t.sl ≠ [] := by rintro h1; rw [h1] at hj; cases hj
  have hg := ho.ok.resolve_left hne
  obtain ⟨k, hk, hn⟩ := hg.pow
  have hsA : ∀ sl : List Slt, sl.length = t.sl.length → Tab.sA { t with sl := sl } = some ⟨t.q, 0, none⟩ := fun sl hl => if_neg (by rintro h1; dsimp only at h1; rw [h1] at hl; exact hne (List.length_eq_zero_iff.1 hl.symm))
  have hsA0 : t.sA = some ⟨t.q, 0, none⟩ := if_neg hne
  have hhead := ht.head
  rw [hsA0] at hhead
  have hjl := lt_of hj
  have hD := DInv.start hg hj hu0
  rw [hk0] at hD
  obtain ⟨fr, u, hfu, hfz⟩ := hg.free
  (conv => whnf)
  refine ⟨_, _, _, hhead.cell (i := 2) rfl, ?_⟩
  (conv => whnf)
  refine loop_keep [0, 7] (Int × Int × List Slt × Mem) (fun s => [(5, .v (.int .i64 s.1)), (8, .v (.int .i64 s.2.1))]) (fun _ => []) (fun s => s.2.2.2)
    (fun s => ∃ hole i : Nat, s.1 = hole ∧ s.2.1 = i ∧ DInv t.sl ks s.2.2.1 hole i ∧ TabAt s.2.2.2 p { t with sl := s.2.2.1 } ∧ Keep [t.q] m' s.2.2.2) (fun s => dist t.sl.length s.2.1.toNat fr) (_, _, t.sl, _) ⟨rfl, rfl, trivial⟩ rfl rfl ?_ ?_
  · exact ⟨j, nxt t.sl.length j, rfl, int_nxt hn hk hjl, hD, ht, Keep.refl⟩
  (conv => whnf)
  refine ⟨rfl, fun s hJ => ?_⟩
  obtain ⟨z1, z2, sl, M⟩ := s
  obtain ⟨hole, i, rfl, rfl, hI, hT, hK⟩ := hJ
  dsimp only at hI hT hK
  have hTh := hT.head
  rw [hsA sl hI.len] at hTh
  dsimp only at hTh
  have hnesl : sl ≠ [] := by rintro h1; have := hI.len; rw [h1] at this; exact hne (List.length_eq_zero_iff.1 this.symm)
  obtain ⟨hqM, hpq⟩ := hT.places hnesl
  have hlen := hI.len
  have hil := hI.il
  have hhl := hI.hl
  have hi := hI.used_i
  generalize hsi : sl.getD i .zero = si at hi
  (conv => whnf)
  refine ⟨_, _, _, hTh.cell (i := 2) rfl, ?_⟩
  (conv => whnf)
  refine ⟨_, rfl, by dsimp only; omega, by dsimp only; omega, ?_⟩
  (conv => whnf)
  refine ⟨_, slot_cell hqM (i := (i : Int).toNat) hi (f := 0) (by decide) rfl rfl, ?_⟩
  (conv => whnf)
  refine brk_intro (fun h1 => ?_) (fun h1 => ?_)
  · (conv => whnf)
    refine ⟨_, _, _, hTh.cell (i := 2) rfl, ?_⟩
    (conv => whnf)
    refine ⟨_, rfl, by dsimp only; omega, by dsimp only; omega, ?_⟩
    (conv => whnf)
    refine ⟨_, slot_cell hqM (i := (i : Int).toNat) hi (f := 1) (by decide) rfl rfl, ?_⟩
    have hnn : 0 < t.sl.length := by omega
    have hmem : si ∈ sl := List.mem_of_getElem? hi
    have hif : i ≠ fr := by
      rintro rfl
      obtain ⟨v, hv, hvu⟩ := (hI.flags i).1 ⟨si, hi, h1⟩
      rw [hfu] at hv
      cases hv
      rw [hfz] at hvu
      cases hvu
    have hdf := dist_nxt hil (lt_of hfu) hif
    have hnx : ∀ x : Int, x = bits .and .i64 (IntKind.i64.wrap ((i : Int) + 1)) (IntKind.i64.wrap ((t.sl.length : Int) - 1)) → x = (nxt t.sl.length i : Nat) := fun x hx => hx.trans (int_nxt hn hk hil)
    (conv => whnf)
    refine brk_intro (fun h2 => ?_) (fun h2 => ?_)
    · dsimp only at h2
      rw [int_home hn hk, int_dist hn hk (home_lt hnn) hil, int_dist hn hk hhl hil] at h2
      have h2 : dist t.sl.length (home t.sl.length si) i ≥ dist t.sl.length hole i := by simpa using h2
      obtain ⟨hp1, hp2⟩ := place_at (r := hole) (s := si) hT (by dsimp only; omega) (hT.keys si hmem)
      (conv => whnf)
      refine ⟨_, _, _, hTh.cell (i := 2) rfl, ?_⟩
      (conv => whnf)
      refine ⟨_, _, _, hTh.cell (i := 2) rfl, ?_⟩
      (conv => whnf)
      refine ⟨_, rfl, by dsimp only; omega, by dsimp only; omega, ?_⟩
      (conv => whnf)
      refine ⟨_, slot_cell hqM (i := (i : Int).toNat) hi (f := 0) (by decide) rfl rfl, ?_⟩
      (conv => whnf)
      refine ⟨_, slot_cell hqM (i := (i : Int).toNat) hi (f := 1) (by decide) rfl rfl, ?_⟩
      (conv => whnf)
      refine ⟨_, _, _, slot_cell hqM (i := (i : Int).toNat) hi (f := 2) (by decide) rfl rfl, ?_⟩
      (conv => whnf)
      refine ⟨_, slot_cell hqM (i := (i : Int).toNat) hi (f := 3) (by decide) rfl rfl, ?_⟩
      (conv => whnf)
      refine ⟨_, rfl, by dsimp only; omega, by dsimp only; omega, ?_⟩
      (conv => whnf)
      refine ⟨slot_room (i := (hole : Int).toNat) hqM (by dsimp only; omega) rfl rfl, ?_⟩
      (conv => whnf)
      refine ⟨(_, _, sl.set hole si, _), le_of ⟨rfl, rfl, rfl, rfl, trivial⟩ rfl, ⟨i, nxt t.sl.length i, rfl, int_nxt hn hk hil, hI.move ⟨fr, u, hfu, hfz⟩ hi h1 h2, hp1, hK.trans hp2⟩, ?_⟩
      dsimp only
      rw [int_nxt hn hk hil, Int.toNat_natCast, Int.toNat_natCast]
      omega
    · dsimp only at h2
      rw [int_home hn hk, int_dist hn hk (home_lt hnn) hil, int_dist hn hk hhl hil] at h2
      have h2 : ¬ dist t.sl.length (home t.sl.length si) i ≥ dist t.sl.length hole i := by simpa using h2
      (conv => whnf)
      refine ⟨(hole, (nxt t.sl.length i : Nat), sl, M), le_of ⟨rfl, congrArg (fun x => some (AV.v (.int .i64 x))) (int_nxt hn hk hil), rfl, rfl, trivial⟩ rfl, ⟨hole, nxt t.sl.length i, rfl, rfl, hI.stay ⟨fr, u, hfu, hfz⟩ hi h1 h2, hT, hK⟩, ?_⟩
      dsimp only
      rw [Int.toNat_natCast, Int.toNat_natCast]
      omega
  · have hnu : ¬ Used sl i := by
      rintro ⟨v, hv, hvu⟩
      rw [hi] at hv
      cases hv
      rw [h1] at hvu
      cases hvu
    obtain ⟨hgd, hHas⟩ := good_drop hg hI hnu
    obtain ⟨hz1, hz2⟩ := place_at (r := hole) (s := .zero) hT (by dsimp only; omega) ⟨.inl rfl, .inl rfl, .inl rfl, by simp [Slt.zero], fun _ _ => .inl rfl⟩
    have hcs : cnt sl = cnt t.sl := by
      refine cnt_flags hlen fun x => hI.flags x
    have hmany := ho.many
    have hhalf := ho.half
    have hmost := ho.most1
    have hfull := ho.full
    have hc0 : 0 < cnt t.sl := List.countP_pos_iff.2 ⟨s0, List.mem_of_getElem? hj, hu0⟩
    obtain ⟨sh, hsh, hshu⟩ := hI.run hole hhl (by
      rw [dist_self]
      rcases Nat.eq_zero_or_pos (dist t.sl.length hole i) with h0 | h0
      · exact absurd (dist_zero hhl hil h0) hI.ne
      · exact h0)
    have hcd : cnt (sl.set hole .zero) = cnt t.sl - 1 := by
      rw [cnt_set hsh, hshu, hcs]
      simp [Slt.zero]
    have hw3 : IntKind.i64.wrap (t.many - 1) = t.many - 1 := wrap_id (by omega) (by omega)
    obtain ⟨hm1, hm2⟩ := many_at (n := t.many - 1) hz1
    (conv => whnf)
    refine ⟨_, _, _, hTh.cell (i := 2) rfl, ?_⟩
    (conv => whnf)
    refine ⟨_, rfl, by dsimp only; omega, by dsimp only; omega, ?_⟩
    (conv => whnf)
    refine ⟨slot_room (i := (hole : Int).toNat) hqM (by dsimp only; omega) rfl rfl, ?_⟩
    (conv => whnf)
    refine ⟨_, hz1.head.cell (i := 3) rfl, ?_⟩
    (conv => whnf)
    refine ⟨⟨⟨_, hz1.head.cell (i := 3) rfl⟩, hz1.head.fz⟩, ?_⟩
    (conv => whnf)
    rw [hw3]
    refine ⟨true, _, rfl, hm1, ⟨.inr hgd, ?_, ?_, ?_, ho.w0, ho.w1, ho.most0, ho.most1, ?_⟩, rfl, ⟨rfl, rfl⟩, rfl, by simpa using hlen, ?_, .inl ⟨rfl, ⟨s0.v, s0, List.mem_of_getElem? hj, hu0, hk0, rfl⟩, rfl, hHas⟩⟩
    · dsimp only
      rw [hcd]
      omega
    · dsimp only
      rw [hcd, List.length_set, hlen]
      omega
    · intro v hv hvu
      rcases mem_set_at hv with rfl | hv
      · cases hvu
      · exact ho.wid v (hI.mem v hv) hvu
    · dsimp only
      omega
    · exact (hK.more (by simp)).trans ((hz2.more (by simp)).trans (hm2.more (by simp)))
end Go.Proofs.Ytoifiplefjclbaa
