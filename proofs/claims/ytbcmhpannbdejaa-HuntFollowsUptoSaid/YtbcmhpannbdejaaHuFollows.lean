/- HuntFollows. -/
import Derived.Test.YtbcmhpannbdejaaHuR
import Derived.Test.YtbcmhpannbdejaaHuW
namespace Go.Proofs.Ytbcmhpannbdejaa
open Go Go.Mv Go.Mv.Hunt
set_option maxHeartbeats 4000000
set_option maxRecDepth 10000
set_option linter.unusedVariables false
set_option linter.unusedSimpArgs false
attribute [local irreducible] FCalls IntKind.wrap bits Mem.set Mem.setCell Mem.setCells YCalls
theorem pick_c {m : Mem} {c n : Int} (h0 : -9223372036854775808 ≤ c) (h1 : c ≤ 9223372036854775807) (hn : 0 < n) : FCalls Try.prog 10 [.int .i64 c, .int .i64 n] m fun v m' => (∃ r, v = .int .i64 r ∧ 0 ≤ r ∧ r < n) ∧ m' = m := by
  have hr : ∀ x : Int, 0 ≤ x → 0 ≤ x.tmod n ∧ x.tmod n < n := fun x hx => ⟨Int.tmod_nonneg _ hx, Int.tmod_lt_of_pos _ hn⟩
  refine fcalls_of_vc (T := tbl) (B := bodies) (pr := []) (DR := dr10) (args := [.v (.int .i64 c), .v (.int .i64 n)]) tbl_ok bodies_ok mixed Try.func10 rfl (by decide +kernel) (by simp [Try.f10]) rfl ?_
  (conv => whnf)
  refine brk_intro (fun h => ?_) (fun h => ?_)
  · have h : c < 0 := by simpa using h
    (conv => whnf)
    refine ⟨by omega, ?_⟩
    (conv => whnf)
    refine ⟨⟨_, rfl, hr _ ?_⟩, rfl⟩
    rw [wrap_id (x := c + 1) (by omega) (by omega), wrap_id (by omega) (by omega)]
    omega
  · have h : ¬ c < 0 := by simpa using h
    (conv => whnf)
    refine ⟨by omega, ?_⟩
    (conv => whnf)
    exact ⟨⟨_, rfl, hr _ (by omega)⟩, rfl⟩
/-- How often each word is told. -/
def manyV (l : List (Nat × Nat)) (n : Nat) : List Value := (List.range n).map fun k => .int .i64 ((cntK l k : Nat) : Int)
theorem many_len {l : List (Nat × Nat)} {n : Nat} : (manyV l n).length = n := by simp [manyV]
theorem many_get {l : List (Nat × Nat)} {n k : Nat} (h : k < n) : (manyV l n)[k]? = some (.int .i64 ((cntK l k : Nat) : Int)) := by simp [manyV, h]
theorem many_set {l : List (Nat × Nat)} {n a k : Nat} : (manyV l n).set k (.int .i64 ((cntK l k + 1 : Nat) : Int)) = manyV (l ++ [(a, k)]) n := by
  apply List.ext_getElem?
  intro i
  rw [List.getElem?_set]
  by_cases hn : i < n
  · rw [many_get hn, many_get hn, cnt_snoc, many_len]
    split
    · rename_i h
      subst h
      rw [if_pos hn]
    · rfl
  · rw [List.getElem?_eq_none (by rw [many_len]; omega), List.getElem?_eq_none (by rw [many_len]; omega), many_len]
    split
    · rw [if_neg (by omega)]
    · rfl
theorem many_nil {n : Nat} : manyV [] n = List.replicate n (.int .i64 0) := by
  apply List.ext_getElem?
  intro i
  by_cases hn : i < n
  · rw [many_get hn, List.getElem?_replicate, if_pos hn]
    rfl
  · rw [List.getElem?_eq_none (by rw [many_len]; omega), List.getElem?_eq_none (by simp; omega)]
theorem str_id {y : ByteArray} : str false y = y.data.toList.map UInt8.toNat := by
  unfold str
  refine List.map_congr_left fun b _ => ?_
  simp [low]
theorem u8_inj {l r : List UInt8} (h : l.map UInt8.toNat = r.map UInt8.toNat) : l = r := by
  have := congrArg (List.map UInt8.ofNat) h
  simpa [List.map_map, Function.comp_def] using this
theorem str_inj {x y : ByteArray} (h : str false x = str false y) : x = y := by
  rw [str_id, str_id] at h
  have := u8_inj h
  exact ByteArray.ext (Array.ext' this)
theorem str_cut {y : ByteArray} (a b : Nat) : str false (y.extract a b) = ((str false y).drop a).take (b - a) := by
  unfold str
  rw [← List.map_drop, ← List.map_take]
  congr 1
  rw [ByteArray.data_extract, Array.toList_extract]
theorem cut_eq {t y : ByteArray} {a : Nat} (h : str false t <+: (str false y).drop a) : y.extract a (a + t.size) = t := by
  apply str_inj
  rw [str_cut, show a + t.size - a = t.size by omega]
  have := List.prefix_iff_eq_take.1 h
  rw [str_len] at this
  exact this.symm
theorem zeros3 (n : Nat) : (zerosOf tbl 3 n).list = manyV [] n := by
  rw [many_nil]
  show intCells .i64 (List.replicate n 0) = _
  simp [intCells]
theorem huntFollows_c {m : Mem} {A : Option Addr} {ts : List ByteArray} {c : Nat} {y : ByteArray} {fr : Int} (hA : Rd m A (svs ts)) (hl : ts.length ≤ 1048576) (hy : y.size ≤ 1048576) (hf0 : -9223372036854775808 ≤ fr) (hf1 : fr ≤ 9223372036854775807) :
    FCalls Try.prog 3 [.slice A ts.length c, .string y, .int .i64 fr] m fun v m' => v = .bool true ∧ m.le m' := by
  refine fcalls_of_vc (T := tbl) (B := bodies) (pr := [99999]) (DR := dr3) (args := [.v (.slice A ts.length c), .v (.string y), .v (.int .i64 fr)]) tbl_ok bodies_ok mixed Try.func3 rfl (by decide +kernel) (by simp [Try.f3]) rfl ?_
  (conv => whnf)
  intro b3 m3 hb he
  have h := (Sep.init m).new' (l := [.slice A ts.length c]) hb (he.trans rfl)
  clear hb he
  (conv => whnf)
  intro b4 m4 hb he
  replace h := h.new' (l := [.string y]) hb (he.trans rfl)
  clear hb he
  (conv => whnf)
  intro b5 m5 hb he
  replace h := h.new' (l := [.int .i64 fr]) hb (he.trans rfl)
  clear hb he
  (conv => whnf)
  intro b6 m6 hb he
  replace h := h.new' (l := [.bool false]) hb (he.trans rfl)
  clear hb he
  (conv => whnf)
  refine FCalls.mono known_c ?_
  rintro v m1 ⟨rfl, hle1⟩
  replace h := h.more hle1
  (conv => whnf)
  refine ⟨_, _, _, h.cell 3 (i := 0) rfl rfl, ?_⟩
  (conv => whnf)
  refine FCalls.mono (new_h (fold := false) (hA.more (h.kept 4 rfl)) (by omega)) ?_
  rintro v m2 ⟨h1, h2⟩
  by_cases hr : Right ts
  · obtain ⟨p, rfl, h3⟩ := h1 hr
    replace h : Sep [hunt p false (lwsOf false ts), pt b6 [.bool false], pt b5 [.int .i64 fr], pt b4 [.string y], pt b3 [.slice A ts.length c], kp m] m2 := h.on (N := [_]) h3
    clear h1 h2 h3
    (conv => whnf)
    intro b10 m7 hb he
    replace h := h.new' (l := [.int .i64 0]) hb (he.trans rfl)
    clear hb he
    (conv => whnf)
    refine ⟨h.room 0 (i := 0) rfl rfl, fun m8 he => ?_⟩
    replace h := h.put' 0 he rfl
    (conv => whnf)
    intro b11 m9 hb he
    replace h := h.new' (l := [.int .i64 0]) hb (he.trans rfl)
    clear hb he
    (conv => whnf)
    refine ⟨h.room 0 (i := 0) rfl rfl, fun m10 he => ?_⟩
    replace h := h.put' 0 he rfl
    (conv => whnf)
    refine ⟨_, _, _, h.cell 6 (i := 0) rfl rfl, ?_⟩
    (conv => whnf)
    have hb3 : (tbl.at 3).bytes = 8 := rfl
    refine ⟨by omega, by omega, by omega, by rw [hb3]; omega, fun bm m11 hb he => ?_⟩
    replace he : m11 = m10.set bm (.cells (zerosOf tbl 3 ts.length).list.toArray 3 (0, 0)) := he
    rw [zeros3] at he
    replace h := h.new' hb he
    clear hb he
    (conv => whnf)
    intro b12 m12 hb he
    replace h := h.new' (l := [.slice none 0 0]) hb (he.trans rfl)
    clear hb he
    (conv => whnf)
    refine ⟨h.room 0 (i := 0) rfl rfl, fun m13 he => ?_⟩
    replace h := h.put' 0 he rfl
    (conv => whnf)
    intro b13 m14 hb he
    replace h := h.new' (l := [.int .i64 0]) hb (he.trans rfl)
    clear hb he
    (conv => whnf)
    refine ⟨h.room 0 (i := 0) rfl rfl, fun m15 he => ?_⟩
    replace h := h.put' 0 he rfl
    (conv => whnf)
    intro b14 m16 hb he
    replace h := h.new' (l := [.int .i64 0]) hb (he.trans rfl)
    clear hb he
    (conv => whnf)
    refine ⟨h.room 0 (i := 0) rfl rfl, fun m17 he => ?_⟩
    replace h := h.put' 0 he rfl
    clear he
    (conv => whnf)
    refine ⟨_, h.cell 8 (i := 0) rfl rfl, ?_⟩
    (conv => whnf)
    refine ⟨_, h.cell 9 (i := 0) rfl rfl, ?_⟩
    (conv => whnf)
    have hw1 : IntKind.i64.wrap ((y.size : Int) + 1) = (y.size : Int) + 1 := wrap_id (by omega) (by omega)
    rw [hw1]
    refine FCalls.mono (pick_c hf0 hf1 (by omega)) ?_
    rintro v m18 ⟨⟨f, rfl, hg0, hg1⟩, rfl⟩
    clear hf0 hf1
    (conv => whnf)
    refine ⟨h.room 8 (i := 0) rfl rfl, fun m19 he => ?_⟩
    replace h := h.put' 8 he rfl
    clear he
    (conv => whnf)
    refine ⟨_, h.cell 9 (i := 0) rfl rfl, ?_⟩
    (conv => whnf)
    refine FCalls.mono (all_c (y := y)) ?_
    rintro v m20 ⟨b1, q1, rfl, h2⟩
    have hlw : (lwsOf false ts).length ≤ 100 := by rw [lws_len]; exact hr.2.1
    have hzl : y.size * (lwsOf false ts).length ≤ 1048576 * 100 := Nat.mul_le_mul hy hlw
    have h0 := hunt_w0 (hunt_at h 6 rfl)
    have hln := alls_len (y := str false y) h0
    rw [str_len] at hln
    have hal := allsC_is h0 (str false y)
    have hone := fun k c => cnt_one (y := str false y) (k := k) (c := c) h0
    have hnext := fun (m1 : Mem) (h1 : hunt p false (lwsOf false ts) m1) => next_h h1 (y := y) (by omega) f
    unfold nextC at hnext
    simp only [str_len] at hnext
    rw [if_pos (⟨hg0, by omega⟩ : 0 ≤ f ∧ f ≤ (y.size : Nat))] at hnext
    replace h : Sep (Sep [pt b1 [.string y], pt q1 [.pointer (some ⟨p, 0, none⟩)], hunt p false (lwsOf false ts)] :: [pt b14 [.int .i64 (-1)], pt b13 [.int .i64 (-1)], pt b12 [.slice (some ⟨bm, 0, none⟩) ts.length ts.length], pt bm (manyV [] ts.length), pt b11 [.int .i64 (-1)], pt b10 [.int .i64 (-1)], pt b6 [.bool false], pt b5 [.int .i64 f], pt b4 [.string y], pt b3 [.slice A ts.length c], kp m]) m20 := Sep.group (L := [pt b1 [.string y], pt q1 [.pointer (some ⟨p, 0, none⟩)], hunt p false (lwsOf false ts)]) ((h.on (N := [_, _]) h2).move 8 rfl |>.move 2 rfl |>.move 2 rfl)
    clear h2
    have hiter := all_iterH (p := p) (fold := false) (lws := lwsOf false ts) (b := b1) (q := q1) (y := y) (by omega) (by omega)
    generalize allsC (lwsOf false ts) (str false y) = al at *
    (conv => whnf)
    refine range_iterS hiter (fun _ _ _ _ => trivial) h (fun i vs L ⟨a, k, _, hv, _⟩ => by rw [hv]; rfl)
      (fun j M => Sep [hunt p false (lwsOf false ts), pt b14 [.int .i64 (lastI (al.take j)).2], pt b13 [.int .i64 (lastI (al.take j)).1], pt b12 [.slice (some ⟨bm, 0, none⟩) ts.length ts.length], pt bm (manyV (al.take j) ts.length), pt b11 [.int .i64 (firstI f (al.take j)).2], pt b10 [.int .i64 (firstI f (al.take j)).1], pt b6 [.bool false], pt b5 [.int .i64 f], pt b4 [.string y], pt b3 [.slice A ts.length c], kp m] M) (fun M hM => ?_) (fun _ _ _ => trivial) ?_ ?_
    · have h1 : Sep [pt b1 [.string y], pt q1 [.pointer (some ⟨p, 0, none⟩)], hunt p false (lwsOf false ts), pt b14 [.int .i64 (-1)], pt b13 [.int .i64 (-1)], pt b12 [.slice (some ⟨bm, 0, none⟩) ts.length ts.length], pt bm (manyV [] ts.length), pt b11 [.int .i64 (-1)], pt b10 [.int .i64 (-1)], pt b6 [.bool false], pt b5 [.int .i64 f], pt b4 [.string y], pt b3 [.slice A ts.length c], kp m] M := Sep.split hM
      exact (h1.drop 0).drop 0
    · rintro j vs L m1 M hj ⟨a, k, hx, rfl, rfl⟩ hM h4
      replace h := hM.more (h4.kept 0 rfl)
      clear h4 hM hiter hnext hone
      obtain ⟨hb1, hb2⟩ := lastI_before hal.1 hx
      obtain ⟨t', g1, g2⟩ := (hal.2 a k).1 (List.mem_of_getElem? hx)
      have hk := lt_of_get g1
      rw [lws_len] at hk
      obtain ⟨t, ht⟩ : ∃ t, ts[k]? = some t := ⟨_, List.getElem?_eq_getElem hk⟩
      have : t' = str false t := by
        unfold lwsOf at g1
        rw [List.getElem?_map, ht] at g1
        cases g1
        rfl
      subst this
      have hts := hr.2.2 t (List.mem_of_getElem? ht)
      have hcut := cut_eq g2
      have hle := g2.length_le
      rw [List.length_drop, str_len, str_len] at hle
      clear g1 g2
      obtain ⟨q, hq, hc⟩ := (hA.more (h.kept 11 rfl)).at (k := k) (v := .string t) (by simp [svs, ht])
      have hc : M.cell (q.add (k * 1)) = some (.string t) := by rw [Nat.mul_one]; exact hc
      have hcnt := Nat.le_trans (cnt_le (l := al.take j) (k := k)) (List.length_take_le' j al)
      have hw2 : IntKind.i64.wrap ((y.size : Int) - (t.size : Nat)) = (y.size : Int) - (t.size : Nat) := wrap_id (by omega) (by omega)
      have hw3 : IntKind.i64.wrap ((a : Int) + (t.size : Nat)) = ((a + t.size : Nat) : Int) := wrap_id (by omega) (by omega)
      have e1 : al.take (j + 1) = al.take j ++ [(a, k)] := by rw [List.take_add_one, hx]; rfl
      have hw4 : IntKind.i64.wrap (((cntK (al.take j) k : Nat) : Int) + 1) = ((cntK (al.take j) k + 1 : Nat) : Int) := wrap_id (by omega) (by omega)
      (conv => whnf)
      refine ⟨_, _, _, h.cell 10 (i := 0) rfl rfl, ?_⟩
      (conv => whnf)
      refine brk_true (by simp; omega) ?_
      (conv => whnf)
      refine ⟨_, h.cell 9 (i := 0) rfl rfl, ?_⟩
      (conv => whnf)
      refine ⟨_, _, _, h.cell 10 (i := 0) rfl rfl, ?_⟩
      (conv => whnf)
      refine ⟨_, hq, by omega, by omega, ?_⟩
      (conv => whnf)
      refine ⟨_, hc, ?_⟩
      (conv => whnf)
      rw [hw2]
      refine brk_true (by simp; omega) ?_
      (conv => whnf)
      refine ⟨_, h.cell 9 (i := 0) rfl rfl, ?_⟩
      (conv => whnf)
      refine ⟨_, _, _, h.cell 10 (i := 0) rfl rfl, ?_⟩
      (conv => whnf)
      refine ⟨_, hq, by omega, by omega, ?_⟩
      (conv => whnf)
      refine ⟨_, hc, ?_⟩
      (conv => whnf)
      rw [hw3]
      refine ⟨Int.natCast_nonneg _, by omega, by omega, ?_⟩
      (conv => whnf)
      refine ⟨_, _, _, h.cell 10 (i := 0) rfl rfl, ?_⟩
      (conv => whnf)
      refine ⟨_, hq, by omega, by omega, ?_⟩
      (conv => whnf)
      refine ⟨_, hc, ?_⟩
      (conv => whnf)
      rw [show y.extract (Int.toNat ((a : Nat) : Int)) (Int.toNat ((a + t.size : Nat) : Int)) = t from hcut]
      refine brk_true (by simp) ?_
      (conv => whnf)
      refine ⟨_, h.cell 2 (i := 0) rfl rfl, ?_⟩
      (conv => whnf)
      refine brk_true (by simp; omega) ?_
      (conv => whnf)
      refine ⟨_, h.cell 2 (i := 0) rfl rfl, ?_⟩
      (conv => whnf)
      by_cases c1 : (a : Int) = (lastI (al.take j)).1
      case' pos =>
        refine brk_true (by simpa using c1) ?_
        (conv => whnf)
        refine ⟨_, h.cell 1 (i := 0) rfl rfl, ?_⟩
        (conv => whnf)
        refine brk_false (by simp; omega) ?_
      case' neg =>
        refine brk_false (by simpa using c1) ?_
      all_goals
        clear c1
        (conv => whnf)
        refine ⟨_, h.cell 8 (i := 0) rfl rfl, ?_⟩
        (conv => whnf)
        refine brk_intro (fun c2 => ?_) (fun c2 => ?_)
        · have c2 : f ≤ (a : Int) := by simpa using c2
          (conv => whnf)
          refine ⟨_, h.cell 6 (i := 0) rfl rfl, ?_⟩
          (conv => whnf)
          refine brk_intro (fun c3 => ?_) (fun c3 => ?_)
          · have c3 : (firstI f (al.take j)).1 < 0 := by simpa using c3
            (conv => whnf)
            refine ⟨h.room 6 (i := 0) rfl rfl, fun m21 he => ?_⟩
            replace h := h.put' 6 he rfl
            clear he
            (conv => whnf)
            refine ⟨h.room 5 (i := 0) rfl rfl, fun m22 he => ?_⟩
            replace h := h.put' 5 he rfl
            clear he
            (conv => whnf)
            refine ⟨_, _, _, h.cell 3 (i := 0) rfl rfl, ?_⟩
            (conv => whnf)
            refine ⟨_, rfl, by omega, by omega, ?_⟩
            (conv => whnf)
            have hcm := h.cell 4 (i := k) rfl (many_get hk)
            replace hcm : Mem.cell m22 (Addr.add ⟨bm, 0, none⟩ (k * 1)) = some (.int .i64 ((cntK (al.take j) k : Nat) : Int)) := by rw [Nat.mul_one, add_mk, Nat.zero_add]; exact hcm
            refine ⟨_, hcm, ?_⟩
            (conv => whnf)
            refine ⟨_, rfl, by omega, by omega, ?_⟩
            (conv => whnf)
            have hrm := h.room 4 (i := k) rfl (many_get hk)
            replace hrm : (∃ u, Mem.cell m22 (Addr.add ⟨bm, 0, none⟩ (k * 1)) = some u) ∧ Mem.fz m22 (Addr.add ⟨bm, 0, none⟩ (k * 1)) = false := by rw [Nat.mul_one, add_mk, Nat.zero_add]; exact hrm
            refine ⟨hrm, fun m30 he => ?_⟩
            rw [hw4] at he
            replace he : m30 = Mem.setCell m22 (Addr.add ⟨bm, 0, none⟩ (k * 1)) (.int .i64 ((cntK (al.take j) k + 1 : Nat) : Int)) := he
            rw [Nat.mul_one, add_mk, Nat.zero_add] at he
            replace h := h.put' 4 he rfl
            clear he hcm hrm
            (conv => whnf)
            refine ⟨h.room 2 (i := 0) rfl rfl, fun m31 he => ?_⟩
            replace h := h.put' 2 he rfl
            clear he
            (conv => whnf)
            refine ⟨h.room 1 (i := 0) rfl rfl, fun m32 he => ?_⟩
            replace h := h.put' 1 he rfl
            clear he
            (conv => whnf)
            rw [e1, lastI_snoc, firstI_snoc, if_pos ⟨c2, c3⟩, ← many_set]
            exact h
          · have c3 : ¬ (firstI f (al.take j)).1 < 0 := by simpa using c3
            (conv => whnf)
            refine ⟨_, _, _, h.cell 3 (i := 0) rfl rfl, ?_⟩
            (conv => whnf)
            refine ⟨_, rfl, by omega, by omega, ?_⟩
            (conv => whnf)
            have hcm := h.cell 4 (i := k) rfl (many_get hk)
            replace hcm : Mem.cell M (Addr.add ⟨bm, 0, none⟩ (k * 1)) = some (.int .i64 ((cntK (al.take j) k : Nat) : Int)) := by rw [Nat.mul_one, add_mk, Nat.zero_add]; exact hcm
            refine ⟨_, hcm, ?_⟩
            (conv => whnf)
            refine ⟨_, rfl, by omega, by omega, ?_⟩
            (conv => whnf)
            have hrm := h.room 4 (i := k) rfl (many_get hk)
            replace hrm : (∃ u, Mem.cell M (Addr.add ⟨bm, 0, none⟩ (k * 1)) = some u) ∧ Mem.fz M (Addr.add ⟨bm, 0, none⟩ (k * 1)) = false := by rw [Nat.mul_one, add_mk, Nat.zero_add]; exact hrm
            refine ⟨hrm, fun m30 he => ?_⟩
            rw [hw4] at he
            replace he : m30 = Mem.setCell M (Addr.add ⟨bm, 0, none⟩ (k * 1)) (.int .i64 ((cntK (al.take j) k + 1 : Nat) : Int)) := he
            rw [Nat.mul_one, add_mk, Nat.zero_add] at he
            replace h := h.put' 4 he rfl
            clear he hcm hrm
            (conv => whnf)
            refine ⟨h.room 2 (i := 0) rfl rfl, fun m31 he => ?_⟩
            replace h := h.put' 2 he rfl
            clear he
            (conv => whnf)
            refine ⟨h.room 1 (i := 0) rfl rfl, fun m32 he => ?_⟩
            replace h := h.put' 1 he rfl
            clear he
            (conv => whnf)
            rw [e1, lastI_snoc, firstI_snoc, if_neg (fun hh => c3 hh.2), ← many_set]
            exact h
        · have c2 : ¬ f ≤ (a : Int) := by simpa using c2
          (conv => whnf)
          refine ⟨_, _, _, h.cell 3 (i := 0) rfl rfl, ?_⟩
          (conv => whnf)
          refine ⟨_, rfl, by omega, by omega, ?_⟩
          (conv => whnf)
          have hcm := h.cell 4 (i := k) rfl (many_get hk)
          replace hcm : Mem.cell M (Addr.add ⟨bm, 0, none⟩ (k * 1)) = some (.int .i64 ((cntK (al.take j) k : Nat) : Int)) := by rw [Nat.mul_one, add_mk, Nat.zero_add]; exact hcm
          refine ⟨_, hcm, ?_⟩
          (conv => whnf)
          refine ⟨_, rfl, by omega, by omega, ?_⟩
          (conv => whnf)
          have hrm := h.room 4 (i := k) rfl (many_get hk)
          replace hrm : (∃ u, Mem.cell M (Addr.add ⟨bm, 0, none⟩ (k * 1)) = some u) ∧ Mem.fz M (Addr.add ⟨bm, 0, none⟩ (k * 1)) = false := by rw [Nat.mul_one, add_mk, Nat.zero_add]; exact hrm
          refine ⟨hrm, fun m30 he => ?_⟩
          rw [hw4] at he
          replace he : m30 = Mem.setCell M (Addr.add ⟨bm, 0, none⟩ (k * 1)) (.int .i64 ((cntK (al.take j) k + 1 : Nat) : Int)) := he
          rw [Nat.mul_one, add_mk, Nat.zero_add] at he
          replace h := h.put' 4 he rfl
          clear he hcm hrm
          (conv => whnf)
          refine ⟨h.room 2 (i := 0) rfl rfl, fun m31 he => ?_⟩
          replace h := h.put' 2 he rfl
          clear he
          (conv => whnf)
          refine ⟨h.room 1 (i := 0) rfl rfl, fun m32 he => ?_⟩
          replace h := h.put' 1 he rfl
          clear he
          (conv => whnf)
          rw [e1, lastI_snoc, firstI_snoc, if_neg (fun hh => c2 hh.1), ← many_set]
          exact h
    · intro M h
      rw [List.take_length] at h
      have hcl := fun k => cnt_le (l := al) (k := k)
      clear hiter hal
      (conv => whnf)
      refine loop_keep [3, 4, 5, 6, 8, 10, 11, 12] Nat (fun s => [(17, .v (.int .i64 ((s : Nat) : Int)))]) (fun _ => []) (fun _ => M) (fun s => s ≤ ts.length) (fun s => ts.length - s)
        0 ⟨rfl, trivial⟩ rfl rfl (Nat.zero_le _) ?_
      (conv => whnf)
      refine ⟨rfl, ?_⟩
      rintro i hJ
      (conv => whnf)
      refine ⟨_, _, _, h.cell 10 (i := 0) rfl rfl, ?_⟩
      (conv => whnf)
      refine brk_intro (fun c1 => ?_) (fun c1 => ?_)
      · have c1 : (i : Int) < (ts.length : Nat) := by simpa using c1
        obtain ⟨t, ht⟩ : ∃ t, ts[i]? = some t := ⟨_, List.getElem?_eq_getElem (by omega)⟩
        obtain ⟨q, hq, hc⟩ := (hA.more (h.kept 11 rfl)).at (k := i) (v := .string t) (by simp [svs, ht])
        have hc : M.cell (q.add (i * 1)) = some (.string t) := by rw [Nat.mul_one]; exact hc
        have hts := hr.2.2 t (List.mem_of_getElem? ht)
        have step1 : IntKind.i64.wrap ((i : Int) + 1) = ((i + 1 : Nat) : Int) := wrap_id (by omega) (by omega)
        obtain ⟨c0, hc0, hbt0, hx0⟩ := str_at (fold := false) (y := t) (i := 0) (by omega)
        replace hx0 : (str false t)[0]? = some c0 := by simpa [low] using hx0
        have hone1 : t.size = 1 → cntK al i = hits (str false y) c0 y.size := fun h1 => by
          have h2 := hone i c0
          rw [str_len] at h2
          refine h2 ?_
          unfold lwsOf
          rw [List.getElem?_map, ht]
          have h3 : (str false t).length = 1 := by rw [str_len]; exact h1
          obtain ⟨u, hu⟩ := List.length_eq_one_iff.1 h3
          rw [hu] at hx0
          cases hx0
          rw [← hu]
          rfl
        (conv => whnf)
        refine loop_keep [3, 4, 5, 6, 8, 10, 11, 12, 17] (Nat × Nat) (fun s => [(19, .v (.int .i64 ((s.1 : Nat) : Int))), (18, .v (.int .i64 ((s.2 : Nat) : Int)))]) (fun _ => []) (fun _ => M) (fun s => s.1 ≤ y.size ∧ s.2 = if t.size = 1 then hits (str false y) c0 s.1 else 0) (fun s => y.size - s.1)
          (0, 0) ⟨rfl, rfl, trivial⟩ rfl rfl ⟨Nat.zero_le _, by simp only; split <;> rfl⟩ ?_
        (conv => whnf)
        refine ⟨rfl, ?_⟩
        rintro ⟨j, n⟩ ⟨hK1, hK2⟩
        simp only at hK1 hK2
        (conv => whnf)
        refine ⟨_, h.cell 9 (i := 0) rfl rfl, ?_⟩
        (conv => whnf)
        refine brk_intro (fun c2 => ?_) (fun c2 => ?_)
        · have c2 : (j : Int) < (y.size : Nat) := by simpa using c2
          obtain ⟨c3, hc3, hbt3, hx3⟩ := str_at (fold := false) (y := y) (i := j) (by omega)
          replace hx3 : (str false y)[j]? = some c3 := by simpa [low] using hx3
          have hsucc := hits_succ (y := str false y) (c := c0) (i := j)
          rw [hx3] at hsucc
          have hle := hits_le (y := str false y) (c := c0) (i := j)
          have step2 : IntKind.i64.wrap ((j : Int) + 1) = ((j + 1 : Nat) : Int) := wrap_id (by omega) (by omega)
          (conv => whnf)
          refine ⟨_, _, _, h.cell 10 (i := 0) rfl rfl, ?_⟩
          (conv => whnf)
          refine ⟨_, hq, by omega, c1, ?_⟩
          (conv => whnf)
          refine ⟨_, hc, ?_⟩
          (conv => whnf)
          refine brk_intro (fun c4 => ?_) (fun c4 => ?_)
          · have c4 : t.size = 1 := by have : (t.size : Int) = 1 := (by simpa using c4); omega
            rw [if_pos c4] at hK2
            have step3 : IntKind.i64.wrap ((n : Int) + 1) = ((n + 1 : Nat) : Int) := wrap_id (by omega) (by omega)
            (conv => whnf)
            refine ⟨_, h.cell 9 (i := 0) rfl rfl, ?_⟩
            (conv => whnf)
            refine ⟨by omega, c2, ?_⟩
            (conv => whnf)
            refine ⟨_, _, _, h.cell 10 (i := 0) rfl rfl, ?_⟩
            (conv => whnf)
            refine ⟨_, hq, by omega, c1, ?_⟩
            (conv => whnf)
            refine ⟨_, hc, ?_⟩
            (conv => whnf)
            refine ⟨by omega, by omega, ?_⟩
            (conv => whnf)
            rw [hbt3, show bt t 0 = ((c0 : Nat) : Int) from hbt0]
            refine brk_intro (fun c5 => ?_) (fun c5 => ?_)
            · have c5 : c3 = c0 := by have : (c3 : Int) = (c0 : Nat) := (by simpa using c5); omega
              (conv => whnf)
              refine ⟨(j + 1, n + 1), le_eq ⟨by show some (AV.v (.int .i64 (IntKind.i64.wrap ((j : Int) + 1)))) = _; rw [step2], by show some (AV.v (.int .i64 (IntKind.i64.wrap ((n : Int) + 1)))) = _; rw [step3], rfl, rfl, rfl, rfl, rfl, rfl, rfl, rfl, rfl, trivial⟩ rfl rfl rfl, ⟨by simp only; omega, ?_⟩, by simp only; omega⟩
              simp only
              rw [if_pos c4, hsucc, if_pos (by rw [c5]), hK2]
            · have c5 : ¬ c3 = c0 := fun e => by rw [e] at c5; simp at c5
              (conv => whnf)
              refine ⟨(j + 1, n), le_eq ⟨by show some (AV.v (.int .i64 (IntKind.i64.wrap ((j : Int) + 1)))) = _; rw [step2], rfl, rfl, rfl, rfl, rfl, rfl, rfl, rfl, rfl, rfl, trivial⟩ rfl rfl rfl, ⟨by simp only; omega, ?_⟩, by simp only; omega⟩
              simp only
              rw [if_pos c4, hsucc, if_neg (by intro e; exact c5 (Option.some.inj e)), hK2]
              rfl
          · have c4 : ¬ t.size = 1 := fun e => by rw [e] at c4; simp at c4
            rw [if_neg c4] at hK2
            (conv => whnf)
            refine ⟨(j + 1, n), le_eq ⟨by show some (AV.v (.int .i64 (IntKind.i64.wrap ((j : Int) + 1)))) = _; rw [step2], rfl, rfl, rfl, rfl, rfl, rfl, rfl, rfl, rfl, rfl, trivial⟩ rfl rfl rfl, ⟨by simp only; omega, ?_⟩, by simp only; omega⟩
            simp only
            rw [if_neg c4]
            exact hK2
        · have c2 : ¬ (j : Int) < (y.size : Nat) := by simpa using c2
          have : j = y.size := by omega
          subst this
          (conv => whnf)
          refine ⟨_, _, _, h.cell 10 (i := 0) rfl rfl, ?_⟩
          (conv => whnf)
          refine ⟨_, hq, by omega, c1, ?_⟩
          (conv => whnf)
          refine ⟨_, hc, ?_⟩
          (conv => whnf)
          refine brk_intro (fun c4 => ?_) (fun c4 => ?_)
          · have c4 : t.size = 1 := by have : (t.size : Int) = 1 := (by simpa using c4); omega
            rw [if_pos c4, ← hone1 c4] at hK2
            subst hK2
            (conv => whnf)
            refine ⟨_, _, _, h.cell 3 (i := 0) rfl rfl, ?_⟩
            (conv => whnf)
            refine ⟨_, rfl, by omega, by omega, ?_⟩
            (conv => whnf)
            have hcm := h.cell 4 (i := i) rfl (many_get (by omega))
            replace hcm : M.cell (Addr.add ⟨bm, 0, none⟩ (i * 1)) = some (.int .i64 ((cntK al i : Nat) : Int)) := by rw [Nat.mul_one, add_mk, Nat.zero_add]; exact hcm
            refine ⟨_, hcm, ?_⟩
            (conv => whnf)
            refine brk_false (by simp) ?_
            (conv => whnf)
            exact ⟨i + 1, le_eq ⟨by show some (AV.v (.int .i64 (IntKind.i64.wrap ((i : Int) + 1)))) = _; rw [step1], rfl, rfl, rfl, rfl, rfl, rfl, rfl, rfl, trivial⟩ rfl rfl rfl, by omega, by omega⟩
          · (conv => whnf)
            exact ⟨i + 1, le_eq ⟨by show some (AV.v (.int .i64 (IntKind.i64.wrap ((i : Int) + 1)))) = _; rw [step1], rfl, rfl, rfl, rfl, rfl, rfl, rfl, rfl, trivial⟩ rfl rfl rfl, by omega, by omega⟩
      · (conv => whnf)
        refine ⟨_, h.cell 9 (i := 0) rfl rfl, ?_⟩
        (conv => whnf)
        refine ⟨_, h.cell 8 (i := 0) rfl rfl, ?_⟩
        (conv => whnf)
        refine FCalls.mono (h.call 0 rfl hnext) ?_
        rintro v m40 ⟨m41, ⟨h1, rfl⟩, hB⟩
        replace h := hB.one h1
        clear hB h1
        have hfi : firstI f al = match al.find? (fun p => decide (f ≤ (p.1 : Int))) with | some z => ((z.1 : Int), (z.2 : Int)) | none => (-1, -1) := rfl
        cases hcc : al.find? (fun p => decide (f ≤ (p.1 : Int)))
        case none =>
          rw [hcc] at hfi
          rw [hfi] at h
          (conv => whnf)
          refine ⟨_, h.cell 6 (i := 0) rfl rfl, ?_⟩
          (conv => whnf)
          refine ⟨h.room 7 (i := 0) rfl rfl, fun m42 he => ?_⟩
          replace h := h.put' 7 he rfl
          (conv => whnf)
          refine ⟨_, h.cell 7 (i := 0) rfl rfl, ?_⟩
          (conv => whnf)
          exact ⟨rfl, h.kept 11 rfl⟩
        case some x =>
          rw [hcc] at hfi
          rw [hfi] at h
          (conv => whnf)
          refine ⟨_, h.cell 6 (i := 0) rfl rfl, ?_⟩
          (conv => whnf)
          refine ⟨_, h.cell 6 (i := 0) rfl rfl, ?_⟩
          (conv => whnf)
          refine brk_true (by simp) ?_
          (conv => whnf)
          refine ⟨_, h.cell 5 (i := 0) rfl rfl, ?_⟩
          (conv => whnf)
          refine ⟨h.room 7 (i := 0) rfl rfl, fun m42 he => ?_⟩
          replace h := h.put' 7 he rfl
          (conv => whnf)
          refine ⟨_, h.cell 7 (i := 0) rfl rfl, ?_⟩
          (conv => whnf)
          exact ⟨by simp; rfl, h.kept 11 rfl⟩
  · obtain ⟨rfl, h3⟩ := h2 hr
    replace h := h.more h3
    (conv => whnf)
    refine ⟨h.room 0 (i := 0) rfl rfl, fun m8 he => ?_⟩
    replace h := h.put' 0 he rfl
    (conv => whnf)
    refine ⟨_, h.cell 0 (i := 0) rfl rfl, ?_⟩
    (conv => whnf)
    exact ⟨rfl, h.kept 4 rfl⟩
end Go.Proofs.Ytbcmhpannbdejaa
