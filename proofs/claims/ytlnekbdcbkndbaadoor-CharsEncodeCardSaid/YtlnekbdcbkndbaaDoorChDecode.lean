/- Chars: CharsDecode, CharsEncode. -/
import Derived.Test.YtlnekbdcbkndbaaDoorChX
namespace Go.Proofs.YtlnekbdcbkndbaaDoor
open Go Go.Mv
set_option maxHeartbeats 2000000
set_option maxRecDepth 10000
set_option linter.unusedVariables false
set_option linter.unusedSimpArgs false
attribute [local irreducible] FCalls IntKind.wrap bits Mem.set Mem.setCell Mem.setCells YCalls RunP NextP
theorem decode_ok {s : ByteArray} (hs : s.size < 2 ^ 43) : ∃ (W : List Int) (ok : Bool), W.length ≤ s.size ∧
    (∀ m, U8 m → FCalls Tryd.prog 26 [.string s] m fun v m' => ∃ A c, v = .tuple #[.slice A W.length c, .int .i64 (if ok then 0 else 20)] ∧ Sep [sl A W.length c 1 (iv W), kp m] m') ∧
    ∀ m, U8 m → FCalls Tryd.prog 27 [.string s] m fun v m' => ∃ A c, v = .tuple #[.slice A W.length c, .bool ok] ∧ Sep [sl A W.length c 1 (iv W), kp m] m' := by
  by_cases hb : bad s 0 < s.size
  · exact ⟨[], false, Nat.zero_le _, fun m hU => (decode_c hU hs).mono fun v m' ⟨h, _⟩ => ⟨none, 0, (h hb).1, Sep.free (A := sl none 0 0 1 []) ((Sep.init m).more (h hb).2) sl_nil⟩,
      fun m hU => (refdecode_c hs).mono fun v m' ⟨h, _⟩ => ⟨none, 0, (h hb).1, Sep.free (A := sl none 0 0 1 []) ((Sep.init m).more (h hb).2) sl_nil⟩⟩
  · exact ⟨codes s, true, by unfold codes; rw [List.length_map]; have := ps_len (s := s) (i := 0); omega, fun m hU => (decode_c hU hs).mono fun v m' ⟨_, h⟩ => h hb, fun m hU => (refdecode_c hs).mono fun v m' ⟨_, h⟩ => h hb⟩
theorem charsDecode_c {m : Mem} (hG : G m) {s : ByteArray} (hs : s.size ≤ 1048576) : FCalls Tryd.prog 8 [.string s] m fun v m' => v = .bool true ∧ m.le m' := by
  obtain ⟨b0, hb0⟩ : ∃ b : Bool, b = true := ⟨_, rfl⟩
  refine fcalls_of_vc (T := tbl) (B := bodies) (pr := [99999]) (DR := dr8) (args := [.v (.string s)]) tbl_ok bodies_ok mixed Tryd.func8 rfl (by decide +kernel) (by simp [Tryd.f8]) rfl ?_
  (conv => whnf)
  refine FCalls.mono (examples_c hG) ?_
  rintro v m1 ⟨rfl, hk⟩
  rw [show Value.bool true = .bool b0 by rw [hb0]]
  (conv => whnf)
  obtain ⟨W, ok, hW, hD, hE⟩ := decode_ok (s := s) (by omega)
  obtain ⟨b1, hb1⟩ : ∃ b : Bool, b = decide (W = W) := ⟨_, rfl⟩
  refine FCalls.mono (hE _ (hG.more hk).1) ?_
  rintro v m2 ⟨A, cA, rfl, h⟩
  (conv => whnf)
  refine loop_keep [0, 3, 4, 5] (Nat × Mem) (fun t => [(6, .v (.int .i64 ((t.1 : Nat) : Int)))]) (fun _ => []) (fun t => t.2) (fun t => Sep [sl A W.length cA 1 (iv W), kp m1] t.2) (fun t => 2 - t.1) (0, m2) ⟨rfl, trivial⟩ rfl rfl h ?_
  clear h
  (conv => whnf)
  refine ⟨rfl, ?_⟩
  rintro ⟨t, M⟩ h
  simp only at h
  (conv => whnf)
  refine brk_intro (fun d1 => ?_) (fun d1 => ?_)
  · have d1 : t < 2 := by have : ((t : Nat) : Int) < 2 := of_decide_eq_true d1; omega
    have hkM := h.kept 1 rfl
    (conv => whnf)
    refine FCalls.mono (hD _ (hG.more (Mem.le_trans hk hkM)).1) ?_
    rintro v m4 ⟨A2, cA2, rfl, h2⟩
    replace h := h.on (N := [_]) h2
    clear h2
    (conv => whnf)
    refine FCalls.mono (same_c (h.rd 0 rfl) (h.rd 1 rfl) (by omega)) ?_
    rintro v m5 ⟨rfl, rfl⟩
    rw [← hb1]
    have hb1 : b1 = true := by rw [hb1]; simp
    (conv => whnf)
    replace h : Sep [sl A2 W.length cA2 1 (iv W), sl A W.length cA 1 (iv W), kp m1] m5 := h
    refine brk_true (by rw [hb1]; rfl) ?_
    clear hD hE
    cases ok
    all_goals
      (conv => whnf)
      refine loop_keep [0, 3, 4, 5, 6, 7] (Nat × List Value × Mem) (fun u => [(10, .v (.int .i64 ((u.1 : Nat) : Int)))]) (fun _ => []) (fun u => u.2.2) (fun u => u.2.1.length = W.length ∧ Sep [sl A2 W.length cA2 1 u.2.1, sl A W.length cA 1 (iv W), kp m1] u.2.2) (fun u => W.length - u.1) (0, iv W, m5) ⟨rfl, trivial⟩ rfl rfl ⟨by simp [iv], h⟩ ?_
      clear h
      (conv => whnf)
      refine ⟨rfl, ?_⟩
      rintro ⟨i, vs, M⟩ ⟨hv, h⟩
      simp only at hv h
      (conv => whnf)
      refine brk_intro (fun d2 => ?_) (fun d2 => ?_)
      · have d2 : i < W.length := by have : ((i : Nat) : Int) < ((W.length : Nat) : Int) := of_decide_eq_true d2; omega
        obtain ⟨q, hq, hroom, hS⟩ := h.st 0 (k := i) (.int .i64 (-5)) rfl (by omega)
        (conv => whnf)
        refine ⟨q, hq, by omega, by omega, ?_⟩
        (conv => whnf)
        have hroom' : (∃ u, M.cell (q.add (i * 1)) = some u) ∧ M.fz (q.add (i * 1)) = false := by rw [Nat.mul_one]; exact hroom
        refine ⟨hroom', fun m6 he => ?_⟩
        replace he : m6 = M.setCell (q.add (i * 1)) (.int .i64 (-5)) := he
        rw [Nat.mul_one] at he
        rw [← he] at hS
        replace hS : Sep [sl A2 W.length cA2 1 (vs.set i (.int .i64 (-5))), sl A W.length cA 1 (iv W), kp m1] m6 := hS
        clear he hroom hroom'
        (conv => whnf)
        have e2 : IntKind.i64.wrap (((i : Nat) : Int) + 1) = ((i + 1 : Nat) : Int) := by rw [wrap_id (by omega) (by omega)]; omega
        rw [e2]
        exact ⟨(i + 1, _, m6), le_eq ⟨rfl, rfl, rfl, rfl, rfl, rfl, rfl, trivial⟩ rfl rfl rfl, ⟨by rw [List.length_set]; exact hv, hS⟩, by simp only; omega⟩
      · have h' := h.drop 0
        (conv => whnf)
        have e2 : IntKind.i64.wrap (((t : Nat) : Int) + 1) = ((t + 1 : Nat) : Int) := by rw [wrap_id (by omega) (by omega)]; omega
        rw [e2]
        exact ⟨(t + 1, M), le_eq ⟨rfl, rfl, rfl, rfl, rfl, trivial⟩ rfl rfl rfl, h', by simp only; omega⟩
  · (conv => whnf)
    exact ⟨by rw [hb0]; rfl, Mem.le_trans hk (h.kept 1 rfl)⟩
theorem oneIv : ∀ l : List Int, oneCells (iv l) = true
  | [] => rfl
  | x :: l => oneIv l
theorem charsEncode_c {m : Mem} (hG : G m) {A : Option Addr} {cA : Nat} {l : List Int} (hA : Rd m A (iv l)) (hl : l.length < 2 ^ 44) : FCalls Tryd.prog 3 [.slice A l.length cA] m fun v m' => v = .bool true ∧ m.le m' := by
  obtain ⟨b0, hb0⟩ : ∃ b : Bool, b = true := ⟨_, rfl⟩
  refine fcalls_of_vc (T := tbl) (B := bodies) (pr := [99999]) (DR := dr3) (args := [.v (.slice A l.length cA)]) tbl_ok bodies_ok mixed Tryd.func3 rfl (by decide +kernel) (by simp [Tryd.f3]) rfl ?_
  (conv => whnf)
  refine FCalls.mono (examples_c hG) ?_
  rintro v m1 ⟨rfl, hk⟩
  rw [show Value.bool true = .bool b0 by rw [hb0]]
  (conv => whnf)
  have hw1 : IntKind.i64.wrap ((l.length : Int) + 1) = ((l.length + 1 : Nat) : Int) := wrap_id (by omega) (by omega)
  rw [hw1]
  have hb3 : (tbl.at 3).bytes = 8 := rfl
  refine ⟨by omega, by omega, by omega, by rw [hb3]; omega, fun bm m2 hb he => ?_⟩
  have h := (Sep.init m1).new' hb (he.trans rfl)
  clear hb he
  (conv => whnf)
  have hn1 : min l.length (Int.toNat ((l.length + 1 : Nat) : Int)) * (tbl.at 3).size = l.length := by rw [show (tbl.at 3).size = 1 from rfl, Nat.mul_one, Int.toNat_natCast]; omega
  have hzl : (zerosOf tbl 3 (Int.toNat ((l.length + 1 : Nat) : Int))).list.length = l.length + 1 := by
    rw [Int.toNat_natCast]
    show (intCells .i64 (List.replicate (l.length + 1) 0)).length = _
    simp [intCells]
  generalize (zerosOf tbl 3 (Int.toNat ((l.length + 1 : Nat) : Int))).list = Z at hzl h
  have hvl : (iv l).length = l.length := by simp [iv]
  refine ⟨iv l, hvl.trans hn1.symm, ?_, ?_⟩
  · rcases Nat.eq_zero_or_pos l.length with h0 | h0
    · exact .inl (hn1.trans h0)
    · right
      rw [hn1]
      rcases (hA.more (Mem.le_trans hk (h.kept 1 rfl))).holds (n := l.length) hvl with h1 | ⟨q, hq, h2⟩
      · omega
      · exact ⟨_, q, rfl, hq, h2, h.rooms 0 (i := 0) (n := l.length) rfl (by omega), oneIv l⟩
  intro m3 he
  replace he : m3 = m2.setCells ⟨bm, 0, none⟩ 0 (iv l) := he
  have h2 := h.putAll 0 (i := 0) (iv l) rfl
  replace h2 : Sep [pt bm (writeAt Z 0 (iv l)), kp m1] m3 := by rw [he]; exact h2
  clear h he
  have h := h2.slOf 0 (n := l.length + 1) (c := l.length + 1) (sz := 1) (vs := writeAt Z 0 (iv l)) rfl (by rw [writeAt_len, hzl]; simp) (Nat.le_refl _) (by rw [writeAt_len, hzl]; simp) (fun k v hk => hk)
  clear h2
  obtain ⟨vs, hvs⟩ : ∃ vs, vs = writeAt Z 0 (iv l) := ⟨_, rfl⟩
  have hget : ∀ (k : Nat) v, (iv l)[k]? = some v → vs[k]? = some v := fun k v hkv => by
    have hlt : k < l.length := by have := (List.getElem?_eq_some_iff.1 hkv).1; omega
    rw [hvs, writeAt_get _ _ _ _ (by omega), if_pos (by omega)]
    exact hkv
  have hvsl : vs.length = l.length + 1 := by rw [hvs, writeAt_len, hzl]
  rw [← hvs] at h
  clear hvs
  (conv => whnf)
  obtain ⟨q, hq, hroom, hS⟩ := h.st 0 (k := l.length) (.int .i64 77) rfl (by omega)
  refine ⟨q, hq, by omega, by rw [Int.toNat_natCast]; omega, ?_⟩
  (conv => whnf)
  have hroom' : (∃ u, m3.cell (q.add (l.length * 1)) = some u) ∧ m3.fz (q.add (l.length * 1)) = false := by rw [Nat.mul_one]; exact hroom
  refine ⟨hroom', fun m6 he => ?_⟩
  replace he : m6 = m3.setCell (q.add (l.length * 1)) (.int .i64 77) := he
  rw [Nat.mul_one] at he
  rw [← he] at hS
  replace hS : Sep [sl (some ⟨bm, 0, none⟩) (l.length + 1) (l.length + 1) 1 (vs.set l.length (.int .i64 77)), kp m1] m6 := hS
  have hR : ∀ M, m6.le M → Rd M (some ⟨bm, 0, none⟩) (iv l) := fun M hM => by
    refine .inr ⟨_, rfl, fun k v hkv => ?_⟩
    have hlt : k < l.length := by have := (List.getElem?_eq_some_iff.1 hkv).1; omega
    obtain ⟨p, hp, hc⟩ := ((hS.more hM).rd 0 rfl).at (k := k) (v := v) (by rw [List.getElem?_set, if_neg (by omega)]; exact hget k v hkv)
    cases hp
    exact hc
  have h77 : ∀ M, m6.le M → M.cell (Addr.add ⟨bm, 0, none⟩ l.length) = some (.int .i64 77) := fun M hM => by
    obtain ⟨p, hp, hc⟩ := ((hS.more hM).rd 0 rfl).at (k := l.length) (v := .int .i64 77) (by rw [List.getElem?_set, if_pos rfl, if_pos (by omega)])
    cases hp
    exact hc
  have hk6 := Mem.le_trans hk (hS.kept 1 rfl)
  clear he hroom hroom' hS h hq
  (conv => whnf)
  refine ⟨by omega, by omega, by rw [Int.toNat_natCast]; omega, ?_⟩
  (conv => whnf)
  have e3 : (if Int.toNat ((l.length + 1 : Nat) : Int) = Int.toNat 0 then some (⟨bm, 0, none⟩ : Addr) else Option.map (fun p : Addr => p.add (Int.toNat 0 * (tbl.at 3).size)) (some ⟨bm, 0, none⟩)) = some ⟨bm, 0, none⟩ := by split <;> rfl
  rw [e3]
  obtain ⟨ok, hok⟩ : ∃ ok : Bool, ok = true ↔ allC l := by
    by_cases hq : allC l
    · exact ⟨true, ⟨fun _ => hq, fun _ => rfl⟩⟩
    · exact ⟨false, ⟨fun h => absurd h (by decide), fun h => absurd h hq⟩⟩
  obtain ⟨S1, x1, hV1⟩ : ∃ (S : ByteArray) (x : Int), (if ok then Value.tuple #[.string ⟨(encs l).toArray⟩, .int .i64 0] else .tuple #[.string ⟨#[]⟩, .int .i64 20]) = .tuple #[.string S, .int .i64 x] ∧ x = (if ok then 0 else 20) ∧ S = (if ok then ⟨(encs l).toArray⟩ else ⟨#[]⟩) := by cases ok <;> exact ⟨_, _, rfl, rfl, rfl⟩
  obtain ⟨hV1, hx1, hS1⟩ := hV1
  obtain ⟨S2, hS2⟩ : ∃ S : ByteArray, S = S1 := ⟨_, rfl⟩
  obtain ⟨ok2, hok2⟩ : ∃ b : Bool, b = ok := ⟨_, rfl⟩
  obtain ⟨b1, hb1⟩ : ∃ b : Bool, b = decide (l = l) := ⟨_, rfl⟩
  refine FCalls.mono (encode_c (hR m6 (Mem.le_refl _)) hl ok hok) ?_
  rintro v m7 ⟨hm7, rfl⟩
  rw [hV1]
  (conv => whnf)
  refine FCalls.mono (refencode_c (hA.more (Mem.le_trans hk6 hm7)) hl ok hok) ?_
  rintro v m8 ⟨rfl, rfl⟩
  rw [show (if ok then Value.tuple #[.string ⟨(encs l).toArray⟩, .bool true] else .tuple #[.string ⟨#[]⟩, .bool false]) = .tuple #[.string S2, .bool ok2] by rw [hS2, hS1, hok2]; cases ok <;> rfl]
  (conv => whnf)
  refine ⟨by omega, by omega, by rw [Int.toNat_natCast]; omega, ?_⟩
  (conv => whnf)
  rw [e3]
  refine FCalls.mono (same_c (hR m8 hm7) (hA.more (Mem.le_trans hk6 hm7)) (by omega)) ?_
  rintro v m9 ⟨rfl, rfl⟩
  rw [← hb1]
  have hb1 : b1 = true := by rw [hb1]; simp
  (conv => whnf)
  refine brk_true (by rw [hb0]; rfl) ?_
  (conv => whnf)
  refine brk_true (by rw [hS2]; simp) ?_
  (conv => whnf)
  refine brk_true (by rw [hb1]; rfl) ?_
  (conv => whnf)
  refine ⟨_, rfl, by omega, by rw [Int.toNat_natCast]; omega, ?_⟩
  (conv => whnf)
  refine ⟨_, by show m9.cell (Addr.add ⟨bm, 0, none⟩ (l.length * 1)) = _; rw [Nat.mul_one]; exact h77 m9 hm7, ?_⟩
  (conv => whnf)
  have hkf := Mem.le_trans hk6 hm7
  have fin : ∀ v : Value, v = .bool true → v = .bool true ∧ m.le m9 := fun v hv => ⟨hv, hkf⟩
  cases ok
  · refine brk_false (by rw [hok2]; rfl) ?_
    (conv => whnf)
    refine brk_true (by rw [hok2]; rfl) ?_
    (conv => whnf)
    exact ⟨by rw [hb0, hx1]; rfl, hkf⟩
  · refine brk_true (by rw [hok2]; rfl) ?_
    (conv => whnf)
    refine brk_false (by rw [hx1]; rfl) ?_
    (conv => whnf)
    exact ⟨by rw [hb0]; rfl, hkf⟩
end Go.Proofs.YtlnekbdcbkndbaaDoor
