/- Chars: Valid, Places, Decode. -/
import Derived.Test.YtlnekbdcbkndbaaDoorChB
namespace Go.Proofs.YtlnekbdcbkndbaaDoor
open Go Go.Mv
set_option maxHeartbeats 2000000
set_option maxRecDepth 10000
set_option linter.unusedVariables false
set_option linter.unusedSimpArgs false
attribute [local irreducible] FCalls IntKind.wrap bits Mem.set Mem.setCell Mem.setCells YCalls RunP NextP
/-- Where the first unit stands that is no character. -/
def bad (s : ByteArray) (i : Nat) : Nat := ((ps s i).find? fun x => decide (cd s x < 0)).getD s.size
theorem bad_step {s : ByteArray} {i : Nat} (hi : i < s.size) : bad s i = if cd s i < 0 then i else bad s (i + wd s i) := by
  unfold bad
  rw [ps_step hi, List.find?_cons]
  by_cases h : cd s i < 0
  · simp [h]
  · simp [h]
theorem bad_end {s : ByteArray} {i : Nat} (hi : ¬ i < s.size) : bad s i = s.size := by
  unfold bad
  rw [ps_end hi]
  rfl
theorem bad_le {s : ByteArray} {i : Nat} : bad s i ≤ s.size := by
  unfold bad
  cases h : (ps s i).find? fun x => decide (cd s x < 0) with
  | none => exact Nat.le_refl _
  | some x =>
    have := ps_ge x (List.mem_of_find?_eq_some h)
    simp only [Option.getD_some]
    omega
theorem bad_all {s : ByteArray} {i : Nat} (h : bad s i = s.size) : ∀ x, x ∈ ps s i → ¬ cd s x < 0 := by
  intro x hx hc
  unfold bad at h
  cases h2 : (ps s i).find? fun x => decide (cd s x < 0) with
  | none => exact absurd (decide_eq_true hc) (by simpa using List.find?_eq_none.1 h2 x hx)
  | some y =>
    have := ps_ge y (List.mem_of_find?_eq_some h2)
    rw [h2] at h
    simp only [Option.getD_some] at h
    omega
theorem valids_c {m : Mem} (hU : U8 m) {s : ByteArray} (hs : s.size < 2 ^ 62) : FCalls Tryd.prog 20 [.string s] m fun v m' => v = .int .i64 ((bad s 0 : Nat) : Int) ∧ m.le m' := by
  refine fcalls_of_vc (T := tbl) (B := bodies) (pr := [99999]) (DR := dr20) (args := [.v (.string s)]) tbl_ok bodies_ok mixed Tryd.func20 rfl (by decide +kernel) (by simp [Tryd.f20]) rfl ?_
  (conv => whnf)
  refine range_str Tryd.underlying9 fun b m2 hb he => ?_
  have h := it_new (Sep.init m) hb he
  clear hb he
  (conv => whnf)
  refine loop_keep [0, 8] (Nat × Mem) (fun t => []) (fun _ => []) (fun t => t.2)
    (fun t => bad s t.1 = bad s 0 ∧ Sep [it b s t.1, kp m] t.2) (fun t => s.size - t.1)
    (0, m2) trivial rfl rfl ⟨rfl, h⟩ ?_
  clear h
  (conv => whnf)
  refine ⟨rfl, ?_⟩
  rintro ⟨i, M⟩ ⟨hJ, h⟩
  simp only at hJ h
  (conv => whnf)
  refine next_str (ty := 0) (it_get h 0 rfl) (fun hp m3 he => ?_) (fun hp => ?_)
  · replace h := it_put h 0 rfl he
    have hUM := hU.more (h.kept 1 rfl)
    rw [bad_step hp] at hJ
    have hw := wd_pos hp
    have hf := dec_facts hp
    (conv => whnf)
    refine brk_intro (fun c1 => ?_) (fun c1 => ?_)
    · have c1 : (Utf8.decode s i).1 = 65533 := by have : (((Utf8.decode s i).1 : Nat) : Int) = 65533 := (by simpa using c1); omega
      (conv => whnf)
      refine ⟨Int.natCast_nonneg _, by omega, by omega, ?_⟩
      (conv => whnf)
      have hc : (s.extract (Int.toNat ((i : Nat) : Int)) (Int.toNat ((s.size : Nat) : Int))) = s.extract i s.size := rfl
      rw [hc]
      have hsz : (s.extract i s.size).size = s.size - i := by rw [ByteArray.size_extract]; omega
      refine FCalls.mono (dec_c hUM (by rw [hsz]; omega) (by rw [hsz]; omega)) ?_
      rintro v m' ⟨rfl, rfl⟩
      rw [dec_cut (by omega)]
      (conv => whnf)
      refine FCalls.mono valid_c ?_
      rintro v m' ⟨rfl, rfl⟩
      unfold cd at hJ
      by_cases hb2 : (Utf8.decode s i).1 = 65533 ∧ (Utf8.decode s i).2 ≤ 1
      · rw [if_pos hb2, if_pos (by decide)] at hJ
        rw [decide_eq_true hb2]
        (conv => whnf)
        refine ⟨?_, h.kept 1 rfl⟩
        rw [← hJ]
        rfl
      · rw [if_neg hb2, if_neg (by omega)] at hJ
        rw [decide_eq_false hb2]
        (conv => whnf)
        exact ⟨(i + wd s i, _), le_eq ⟨rfl, rfl, trivial⟩ rfl rfl rfl, ⟨hJ, h⟩, by simp only; omega⟩
    · have c1 : ¬ (Utf8.decode s i).1 = 65533 := by have : ¬ (((Utf8.decode s i).1 : Nat) : Int) = 65533 := (by simpa using c1); omega
      unfold cd at hJ
      rw [if_neg (by omega)] at hJ
      (conv => whnf)
      exact ⟨(i + wd s i, _), le_eq ⟨rfl, rfl, trivial⟩ rfl rfl rfl, ⟨hJ, h⟩, by simp only; omega⟩
  · rw [bad_end hp] at hJ
    (conv => whnf)
    refine ⟨?_, h.kept 1 rfl⟩
    rw [← hJ]
    rfl
def iv (l : List Int) : List Value := l.map (.int .i64)
theorem iv_len (l : List Int) : (iv l).length = l.length * 1 := by simp [iv]
theorem iv_get {l : List Int} {k : Nat} {x : Int} (h : l[k]? = some x) : (iv l)[k]? = some (.int .i64 x) := by simp [iv, h]
theorem iv_app (l r : List Int) : iv (l ++ r) = iv l ++ iv r := by simp [iv]
def pls (s : ByteArray) : List Int := (ps s 0 ++ [s.size]).map fun x => ((x : Nat) : Int)
theorem pls_len {s : ByteArray} : (pls s).length ≤ s.size + 1 := by
  have := ps_len (s := s) (i := 0)
  simp [pls]
  omega
theorem places_c {m : Mem} {s : ByteArray} (hs : s.size < 2 ^ 43) : FCalls Tryd.prog 17 [.string s] m fun v m' => ∃ A c, v = .slice A (pls s).length c ∧ Sep [sl A (pls s).length c 1 (iv (pls s)), kp m] m' := by
  refine fcalls_of_vc (T := tbl) (B := bodies) (pr := [99999]) (DR := dr17) (args := [.v (.string s)]) tbl_ok bodies_ok mixed Tryd.func17 rfl (by decide +kernel) (by simp [Tryd.f17]) rfl ?_
  (conv => whnf)
  have hw1 : IntKind.i64.wrap ((s.size : Int) + 1) = ((s.size + 1 : Nat) : Int) := wrap_id (by omega) (by omega)
  rw [hw1]
  have hb3 : (tbl.at 3).bytes = 8 := rfl
  refine ⟨by decide, by omega, by omega, by rw [hb3]; omega, fun bm m2 hb he => ?_⟩
  have h := (Sep.init m).new' hb (he.trans rfl)
  replace h := h.slOf 0 (n := 0) (c := s.size + 1) (sz := 1) (vs := []) rfl rfl (Nat.zero_le _) (by
    show (s.size + 1) * 1 ≤ (intCells .i64 (List.replicate (s.size + 1) 0)).length
    simp [intCells]) (fun k v hk => by simp at hk)
  clear hb he
  (conv => whnf)
  refine range_str Tryd.underlying9 fun b m3 hb he => ?_
  replace h := it_new h hb he
  clear hb he
  have hbd := ps_len (s := s) (i := 0)
  (conv => whnf)
  refine loop_keep [0, 10] (Nat × List Nat × Option Addr × Nat × Mem) (fun t => [(3, .v (.slice t.2.2.1 t.2.1.length t.2.2.2.1))]) (fun _ => []) (fun t => t.2.2.2.2)
    (fun t => t.2.1 ++ ps s t.1 = ps s 0 ∧ Sep [it b s t.1, sl t.2.2.1 t.2.1.length t.2.2.2.1 1 (iv (t.2.1.map fun x => ((x : Nat) : Int))), kp m] t.2.2.2.2) (fun t => s.size - t.1)
    (0, [], some ⟨bm, 0, none⟩, s.size + 1, m3) ⟨rfl, trivial⟩ rfl rfl ⟨rfl, h⟩ ?_
  clear h
  (conv => whnf)
  refine ⟨rfl, ?_⟩
  rintro ⟨i, l, B, cB, M⟩ ⟨hJ, h⟩
  simp only at hJ h
  (conv => whnf)
  refine next_str (ty := 0) (it_get h 0 rfl) (fun hp m4 he => ?_) (fun hp => ?_)
  · replace h := it_put h 0 rfl he
    clear he
    have hw := wd_pos hp
    rw [ps_step hp] at hJ
    have hll : l.length + 1 ≤ s.size := by
      have := congrArg List.length hJ
      simp at this
      omega
    (conv => whnf)
    intro nb m5 hb he
    replace h := h.new' (l := [.int .i64 ((i : Nat) : Int)]) hb (he.trans rfl)
    have hBn : m5.holds ⟨nb, 0, none⟩ [.int .i64 ((i : Nat) : Int)] := (h.blk 0 rfl).holds fun k v hk => by rw [Nat.zero_add]; exact hk
    clear hb he
    (conv => whnf)
    obtain ⟨ok, hR⟩ := h.app 2 (T := tbl) (e := 3) (news := [.int .i64 ((i : Nat) : Int)]) (k := 1) (B := some ⟨nb, 0, none⟩) rfl rfl (.inr ⟨_, rfl, hBn⟩) rfl rfl (by show 2 * (_ + 1) * 8 ≤ 2 ^ 48; omega) rfl
    refine ⟨_, _, ok, fun A2 c5 m6 hr2 => ?_⟩
    replace h := (hR _ _ _ hr2).drop 0
    clear ok hR hr2 hBn
    have e1 : l.length + 1 = (l ++ [i]).length := by simp
    have e2 : iv (l.map fun x => ((x : Nat) : Int)) ++ [.int .i64 ((i : Nat) : Int)] = iv ((l ++ [i]).map fun x => ((x : Nat) : Int)) := by simp [iv]
    rw [e1]
    replace h : Sep [it b s (i + wd s i), sl A2 (l.length + 1) c5 1 (iv (l.map fun x => ((x : Nat) : Int)) ++ [.int .i64 ((i : Nat) : Int)]), kp m] m6 := h
    rw [e1, e2] at h
    (conv => whnf)
    exact ⟨(i + wd s i, l ++ [i], A2, c5, m6), le_eq ⟨rfl, rfl, rfl, trivial⟩ rfl rfl rfl, ⟨by simpa using hJ, h⟩, by simp only; omega⟩
  · rw [ps_end hp, List.append_nil] at hJ
    subst hJ
    (conv => whnf)
    intro nb m5 hb he
    replace h := h.new' (l := [.int .i64 ((s.size : Nat) : Int)]) hb (he.trans rfl)
    have hBn : m5.holds ⟨nb, 0, none⟩ [.int .i64 ((s.size : Nat) : Int)] := (h.blk 0 rfl).holds fun k v hk => by rw [Nat.zero_add]; exact hk
    clear hb he
    (conv => whnf)
    obtain ⟨ok, hR⟩ := h.app 2 (T := tbl) (e := 3) (news := [.int .i64 ((s.size : Nat) : Int)]) (k := 1) (B := some ⟨nb, 0, none⟩) rfl rfl (.inr ⟨_, rfl, hBn⟩) rfl rfl (by show 2 * (_ + 1) * 8 ≤ 2 ^ 48; omega) rfl
    refine ⟨_, _, ok, fun A2 c5 m6 hr2 => ?_⟩
    replace h := (hR _ _ _ hr2).drop 0
    clear ok hR hr2 hBn
    have e1 : (ps s 0).length + 1 = (pls s).length := by simp [pls]
    have e2 : iv ((ps s 0).map fun x => ((x : Nat) : Int)) ++ [.int .i64 ((s.size : Nat) : Int)] = iv (pls s) := by simp [iv, pls]
    replace h : Sep [it b s i, sl A2 ((ps s 0).length + 1) c5 1 (iv ((ps s 0).map fun x => ((x : Nat) : Int)) ++ [.int .i64 ((s.size : Nat) : Int)]), kp m] m6 := h
    rw [e1, e2] at h
    (conv => whnf)
    rw [e1]
    exact ⟨_, _, rfl, h.drop 0⟩
/-- What Decode tells. -/
def codes (s : ByteArray) : List Int := (ps s 0).map (cd s)
theorem decode_c {m : Mem} (hU : U8 m) {s : ByteArray} (hs : s.size < 2 ^ 43) : FCalls Tryd.prog 26 [.string s] m fun v m' =>
    (bad s 0 < s.size → v = .tuple #[.slice none 0 0, .int .i64 20] ∧ m.le m') ∧
    (¬ bad s 0 < s.size → ∃ A c, v = .tuple #[.slice A (codes s).length c, .int .i64 0] ∧ Sep [sl A (codes s).length c 1 (iv (codes s)), kp m] m') := by
  refine fcalls_of_vc (T := tbl) (B := bodies) (pr := [99999]) (DR := dr26) (args := [.v (.string s)]) tbl_ok bodies_ok mixed Tryd.func26 rfl (by decide +kernel) (by simp [Tryd.f26]) rfl ?_
  (conv => whnf)
  refine FCalls.mono (valids_c hU (by omega)) ?_
  rintro v m1 ⟨rfl, hle⟩
  (conv => whnf)
  refine brk_intro (fun c1 => ?_) (fun c1 => ?_)
  · have c1 : bad s 0 < s.size := by have : ((bad s 0 : Nat) : Int) < (s.size : Nat) := (by simpa using c1); omega
    (conv => whnf)
    exact ⟨fun _ => ⟨rfl, hle⟩, fun h => absurd c1 h⟩
  · have c1 : ¬ bad s 0 < s.size := by have : ¬ ((bad s 0 : Nat) : Int) < (s.size : Nat) := (by simpa using c1); omega
    have hall := bad_all (s := s) (i := 0) (by have := bad_le (s := s) (i := 0); omega)
    have hbd := ps_len (s := s) (i := 0)
    (conv => whnf)
    refine range_str Tryd.underlying9 fun b m3 hb he => ?_
    have h := it_new (Sep.free (A := sl none 0 0 1 []) ((Sep.init m).more hle) sl_nil) hb he
    clear hb he
    (conv => whnf)
    refine loop_keep [0, 13] (Nat × List Nat × Option Addr × Nat × Mem) (fun t => [(4, .v (.slice t.2.2.1 t.2.1.length t.2.2.2.1))]) (fun _ => []) (fun t => t.2.2.2.2)
      (fun t => t.2.1 ++ ps s t.1 = ps s 0 ∧ Sep [it b s t.1, sl t.2.2.1 t.2.1.length t.2.2.2.1 1 (iv (t.2.1.map (cd s))), kp m] t.2.2.2.2) (fun t => s.size - t.1)
      (0, [], none, 0, m3) ⟨rfl, trivial⟩ rfl rfl ⟨rfl, h⟩ ?_
    clear h
    (conv => whnf)
    refine ⟨rfl, ?_⟩
    rintro ⟨i, l, B, cB, M⟩ ⟨hJ, h⟩
    simp only at hJ h
    (conv => whnf)
    refine next_str (ty := 0) (it_get h 0 rfl) (fun hp m4 he => ?_) (fun hp => ?_)
    · replace h := it_put h 0 rfl he
      clear he
      have hw := wd_pos hp
      have hf := dec_facts hp
      rw [ps_step hp] at hJ
      have hll : l.length + 1 ≤ s.size := by
        have := congrArg List.length hJ
        simp at this
        omega
      have hcd : cd s i = (((Utf8.decode s i).1 : Nat) : Int) := by
        have h1 := hall i (by rw [← hJ]; simp)
        unfold cd at h1 ⊢
        split at h1
        · exact absurd (by decide) h1
        · rename_i h2
          rw [if_neg h2]
      (conv => whnf)
      rw [wrap_id (x := (((Utf8.decode s i).1 : Nat) : Int)) (by omega) (by omega), ← hcd]
      intro nb m5 hb he
      replace h := h.new' (l := [.int .i64 (cd s i)]) hb (he.trans rfl)
      have hBn : m5.holds ⟨nb, 0, none⟩ [.int .i64 (cd s i)] := (h.blk 0 rfl).holds fun k v hk => by rw [Nat.zero_add]; exact hk
      clear hb he
      (conv => whnf)
      obtain ⟨ok, hR⟩ := h.app 2 (T := tbl) (e := 3) (news := [.int .i64 (cd s i)]) (k := 1) (B := some ⟨nb, 0, none⟩) rfl rfl (.inr ⟨_, rfl, hBn⟩) rfl rfl (by show 2 * (_ + 1) * 8 ≤ 2 ^ 48; omega) rfl
      refine ⟨_, _, ok, fun A2 c5 m6 hr2 => ?_⟩
      replace h := (hR _ _ _ hr2).drop 0
      clear ok hR hr2 hBn
      have e1 : l.length + 1 = (l ++ [i]).length := by simp
      have e2 : iv (l.map (cd s)) ++ [.int .i64 (cd s i)] = iv ((l ++ [i]).map (cd s)) := by simp [iv]
      rw [e1]
      replace h : Sep [it b s (i + wd s i), sl A2 (l.length + 1) c5 1 (iv (l.map (cd s)) ++ [.int .i64 (cd s i)]), kp m] m6 := h
      rw [e1, e2] at h
      (conv => whnf)
      exact ⟨(i + wd s i, l ++ [i], A2, c5, m6), le_eq ⟨rfl, rfl, rfl, trivial⟩ rfl rfl rfl, ⟨by simpa using hJ, h⟩, by simp only; omega⟩
    · rw [ps_end hp, List.append_nil] at hJ
      subst hJ
      (conv => whnf)
      refine ⟨fun h => absurd h c1, fun _ => ?_⟩
      have e1 : (ps s 0).length = (codes s).length := by simp [codes]
      rw [e1] at h ⊢
      exact ⟨_, _, rfl, h.drop 0⟩
end Go.Proofs.YtlnekbdcbkndbaaDoor
