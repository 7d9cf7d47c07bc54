/- Chars: CharsBack. -/
import Derived.Test.YtlnekbdcbkndbaaDoorChX
namespace Go.Proofs.YtlnekbdcbkndbaaDoor
open Go Go.Mv
set_option maxHeartbeats 2000000
set_option maxRecDepth 10000
set_option linter.unusedVariables false
set_option linter.unusedSimpArgs false
attribute [local irreducible] FCalls IntKind.wrap bits Mem.set Mem.setCell Mem.setCells YCalls RunP NextP
theorem bad_of_all {s : ByteArray} {i : Nat} (h : ∀ x, x ∈ ps s i → ¬ cd s x < 0) : bad s i = s.size := by
  unfold bad
  rw [List.find?_eq_none.2 fun x hx => by simpa using h x hx]
  rfl
theorem encs_codes {s : ByteArray} : ∀ i, i ≤ s.size → (∀ x, x ∈ ps s i → ¬ cd s x < 0) → encs ((ps s i).map (cd s)) = (bl s).drop i ∧ allC ((ps s i).map (cd s)) := by
  intro i
  refine ps_ind (s := s) (Q := fun i => i ≤ s.size → (∀ x, x ∈ ps s i → ¬ cd s x < 0) → encs ((ps s i).map (cd s)) = (bl s).drop i ∧ allC ((ps s i).map (cd s))) ?_ ?_ i
  · intro i hp hi _
    rw [ps_end hp]
    refine ⟨?_, fun x hx => by cases hx⟩
    have : i = s.size := by omega
    subst this
    exact (List.drop_of_length_le (Nat.le_refl _)).symm
  · intro i hp ih hi h
    rw [ps_step hp] at h ⊢
    obtain ⟨h1, h2⟩ := ih (wd_le hp) fun x hx => h x (List.mem_cons_of_mem _ hx)
    have h0 := h i (List.mem_cons_self ..)
    have hne : (bl s).drop i ≠ [] := by
      intro hn
      have := congrArg List.length hn
      rw [List.length_drop, bl_len] at this
      simp at this
      omega
    have hcd := cdl_eq (s := s) (i := i) hi
    have hwd := wdl_eq (s := s) (i := i) hi
    obtain ⟨g1, g2⟩ := enc_take hne (by rw [← hcd]; omega)
    rw [← hcd] at g1 g2
    rw [← hwd] at g2
    refine ⟨?_, ?_⟩
    · rw [List.map_cons]
      show enc (cd s i).toNat ++ encs ((ps s (i + wd s i)).map (cd s)) = _
      rw [h1, g2, ← List.drop_drop, List.take_append_drop]
    · intro x hx
      rw [List.map_cons] at hx
      rcases List.mem_cons.1 hx with rfl | hx
      · exact g1
      · exact h2 x hx
theorem codes_encs {s : ByteArray} : ∀ (l : List Int) (i : Nat), allC l → i ≤ s.size → (bl s).drop i = encs l → (ps s i).map (cd s) = l ∧ ∀ x, x ∈ ps s i → ¬ cd s x < 0
  | [], i, _, hi, h => by
    have hp : ¬ i < s.size := by
      have := congrArg List.length h
      rw [List.length_drop, bl_len] at this
      simp [encs] at this
      omega
    rw [ps_end hp]
    exact ⟨rfl, fun x hx => by cases hx⟩
  | x :: l, i, hl, hi, h => by
    have hx := hl x (List.mem_cons_self ..)
    obtain ⟨c, rfl⟩ : ∃ c : Nat, x = (c : Int) := ⟨x.toNat, by have := hx.1; omega⟩
    have he : (bl s).drop i = enc c ++ encs l := h
    have hel : 0 < (enc c).length := by have := enc_ne (c := c); exact List.length_pos_iff.2 this
    have hp : i < s.size := by
      have := congrArg List.length he
      rw [List.length_drop, bl_len, List.length_append] at this
      omega
    obtain ⟨h1, h2⟩ := cdl_encapp hx (encs l)
    rw [← he, ← cdl_eq hi] at h1
    rw [← he, ← wdl_eq hi] at h2
    have hwl := wd_le hp
    obtain ⟨g1, g2⟩ := codes_encs l (i + wd s i) (fun y hy => hl y (List.mem_cons_of_mem _ hy)) hwl (by rw [← List.drop_drop, he, h2, List.drop_left])
    rw [ps_step hp, List.map_cons, g1, h1]
    refine ⟨rfl, fun y hy => ?_⟩
    rcases List.mem_cons.1 hy with rfl | hy
    · rw [h1]; omega
    · exact g2 y hy
theorem decode_u {m : Mem} (hU : U8 m) {s : ByteArray} (hs : s.size < 2 ^ 43) : FCalls Tryd.prog 26 [.string s] m fun v m' => ∃ A W c x, v = .tuple #[.slice A W.length c, .int .i64 x] ∧ Sep [sl A W.length c 1 (iv W), kp m] m' ∧ W.length ≤ s.size ∧
    ((x = 0 ∧ encs W = bl s ∧ allC W ∧ W = codes s) ∨ (x = 20 ∧ bad s 0 < s.size)) := by
  refine (decode_c hU hs).mono fun v m' ⟨h1, h2⟩ => ?_
  by_cases hb : bad s 0 < s.size
  · exact ⟨none, [], 0, 20, (h1 hb).1, Sep.free (A := sl none 0 0 1 []) ((Sep.init m).more (h1 hb).2) sl_nil, Nat.zero_le _, .inr ⟨rfl, hb⟩⟩
  · obtain ⟨A, c, e, h⟩ := h2 hb
    have hall := bad_all (s := s) (i := 0) (by have := bad_le (s := s) (i := 0); omega)
    obtain ⟨g1, g2⟩ := encs_codes 0 (Nat.zero_le _) hall
    exact ⟨A, codes s, c, 0, e, h, by unfold codes; rw [List.length_map]; have := ps_len (s := s) (i := 0); omega, .inl ⟨rfl, by rw [List.drop_zero] at g1; exact g1, g2, rfl⟩⟩
theorem unitl_ge {l : List UInt8} (h : l ≠ []) : wdl l ≤ (unitl l).length := by
  have htl := wdl_enc_le h
  unfold unitl
  split
  · rename_i h1
    obtain ⟨r, _, h2⟩ := first_ascii (x := 92) (by decide) (by rw [h1]; rfl) h
    rw [h2]; simp
  · split
    · rename_i h1
      obtain ⟨r, _, h2⟩ := first_ascii (x := 10) (by decide) (by rw [h1]; rfl) h
      rw [h2]; simp
    · split
      · rw [htl]; exact Nat.le_refl _
      · rw [flat_esc, htl]; omega
theorem shl_ge : ∀ (n : Nat) (l : List UInt8), l.length ≤ n → l.length ≤ (shl l).length
  | _, [], _ => Nat.zero_le _
  | 0, a :: l, h => by simp at h
  | n + 1, a :: l, h => by
    have hne : a :: l ≠ [] := by simp
    have hw := wdl_pos hne
    have hu := unitl_ge hne
    have ih := shl_ge n ((a :: l).drop (wdl (a :: l))) (by rw [List.length_drop]; simp at h ⊢; omega)
    rw [shl_step hne, List.length_append]
    rw [List.length_drop] at ih
    omega
theorem charsBack_c {m : Mem} (hG : G m) {s : ByteArray} (hs : s.size ≤ 1048576) {A : Option Addr} {cA : Nat} {l : List Int} (hA : Rd m A (iv l)) (hl : l.length ≤ 1048576) : FCalls Tryd.prog 7 [.string s, .slice A l.length cA] m fun v m' => v = .bool true ∧ m.le m' := by
  obtain ⟨b0, hb0⟩ : ∃ b : Bool, b = true := ⟨_, rfl⟩
  refine fcalls_of_vc (T := tbl) (B := bodies) (pr := [99999]) (DR := (100004, 0) :: (100009, 0) :: dr7) (args := [.v (.string s), .v (.slice A l.length cA)]) tbl_ok bodies_ok mixed Tryd.func7 rfl (by decide +kernel) (by simp [Tryd.f7]) rfl ?_
  (conv => whnf)
  refine FCalls.mono (examples_c hG) ?_
  rintro v m1 ⟨rfl, hk⟩
  rw [show Value.bool true = .bool b0 by rw [hb0]]
  (conv => whnf)
  refine FCalls.mono (decode_u (hG.more hk).1 (s := s) (by omega)) ?_
  rintro v m2 ⟨A2, W, c2, x, rfl, h, hW, hx⟩
  have hk2 := Mem.le_trans hk (h.kept 1 rfl)
  (conv => whnf)
  refine join_keep [0, 1, 5] Mem (fun _ => []) (fun M => M) (fun M => m.le M) ?_
  (conv => whnf)
  refine ⟨?_, ?_⟩
  · rcases hx with ⟨hx, hW2, hW3, _⟩ | ⟨hx, _⟩
    · refine brk_true (by rw [hx]; rfl) ?_
      obtain ⟨S1, hS1⟩ : ∃ S : ByteArray, S = s := ⟨_, rfl⟩
      obtain ⟨e1, he1⟩ : ∃ e : Int, e = 0 := ⟨_, rfl⟩
      (conv => whnf)
      refine FCalls.mono (encode_c (h.rd 0 rfl) (by omega) true (by simp [hW3])) ?_
      rintro v m3 ⟨hm3, rfl⟩
      rw [if_pos rfl, hW2, mk_bl, show Value.tuple #[.string s, .int .i64 0] = .tuple #[.string S1, .int .i64 e1] by rw [hS1, he1]]
      (conv => whnf)
      refine brk_true (by rw [he1]; rfl) ?_
      (conv => whnf)
      refine brk_false (by rw [hS1]; simp) ?_
      (conv => whnf)
      exact ⟨m3, le_eq ⟨rfl, rfl, rfl, trivial⟩ rfl rfl rfl, Mem.le_trans hk2 hm3⟩
    · refine brk_false (by rw [hx]; rfl) ?_
      (conv => whnf)
      exact ⟨m2, le_eq ⟨rfl, rfl, rfl, trivial⟩ rfl rfl rfl, hk2⟩
  · rintro M hM
    clear h hk2
    (conv => whnf)
    obtain ⟨ok, hok⟩ : ∃ ok : Bool, ok = true ↔ allC l := by
      by_cases hq : allC l
      · exact ⟨true, ⟨fun _ => hq, fun _ => rfl⟩⟩
      · exact ⟨false, ⟨fun h => absurd h (by decide), fun h => absurd h hq⟩⟩
    obtain ⟨S1, x1, hV1, hx1, hS1⟩ : ∃ (S : ByteArray) (x : Int), (if ok then Value.tuple #[.string ⟨(encs l).toArray⟩, .int .i64 0] else .tuple #[.string ⟨#[]⟩, .int .i64 20]) = .tuple #[.string S, .int .i64 x] ∧ x = (if ok then 0 else 20) ∧ S = (if ok then ⟨(encs l).toArray⟩ else ⟨#[]⟩) := by cases ok <;> exact ⟨_, _, rfl, rfl, rfl⟩
    refine FCalls.mono (encode_c (hA.more hM) (by omega) ok hok) ?_
    rintro v m3 ⟨hm3, rfl⟩
    rw [hV1]
    have hk3 := Mem.le_trans hM hm3
    (conv => whnf)
    refine join_keep [0, 1, 5] Mem (fun _ => []) (fun M => M) (fun M => m.le M) ?_
    (conv => whnf)
    refine ⟨?_, ?_⟩
    · cases ok
      · refine brk_false (by rw [hx1]; rfl) ?_
        (conv => whnf)
        exact ⟨m3, le_eq ⟨rfl, rfl, rfl, trivial⟩ rfl rfl rfl, hk3⟩
      · refine brk_true (by rw [hx1]; rfl) ?_
        have hS1 : S1 = ⟨(encs l).toArray⟩ := hS1
        have hel := encs_len (l := l)
        obtain ⟨g1, g2⟩ := codes_encs (s := S1) l 0 (hok.1 rfl) (Nat.zero_le _) (by rw [List.drop_zero, hS1, bl_mk])
        have hbad := bad_of_all g2
        have hsz : S1.size ≤ 4 * l.length := by rw [hS1, size_mk]; exact hel
        (conv => whnf)
        refine FCalls.mono (decode_u (hG.more hk3).1 (s := S1) (by omega)) ?_
        rintro v m4 ⟨A4, W4, c4, x4, rfl, h, hW4, hx4⟩
        have hx4 : x4 = 0 ∧ W4 = l := by
          rcases hx4 with ⟨h1, _, _, h2⟩ | ⟨_, h1⟩
          · exact ⟨h1, h2.trans g1⟩
          · omega
        obtain ⟨hx4, rfl⟩ := hx4
        obtain ⟨b1, hb1⟩ : ∃ b : Bool, b = decide (W4 = W4) := ⟨_, rfl⟩
        have hk4 := Mem.le_trans hk3 (h.kept 1 rfl)
        (conv => whnf)
        refine FCalls.mono (same_c (h.rd 0 rfl) (hA.more hk4) (by omega)) ?_
        rintro v m5 ⟨rfl, rfl⟩
        rw [← hb1]
        have hb1 : b1 = true := by rw [hb1]; simp
        (conv => whnf)
        refine brk_true (by rw [hx4]; rfl) ?_
        (conv => whnf)
        refine brk_false (by rw [hb1]; rfl) ?_
        (conv => whnf)
        exact ⟨m5, le_eq ⟨rfl, rfl, rfl, trivial⟩ rfl rfl rfl, hk4⟩
    · rintro M2 hM2
      obtain ⟨S2, hS2⟩ : ∃ S : ByteArray, S = s := ⟨_, rfl⟩
      obtain ⟨e1, he1⟩ : ∃ e : Int, e = 0 := ⟨_, rfl⟩
      obtain ⟨e2, he2⟩ : ∃ e : Int, e = 0 := ⟨_, rfl⟩
      have hR1 : readV (shl (bl s)) = .tuple #[.string S2, .int .i64 e1, .int .i64 e2] := by unfold readV; rw [back1, hS2, he1, he2, mk_bl]; rfl
      obtain ⟨S3, hS3⟩ : ∃ S : ByteArray, S = ⟨(readR (bl s)).1.toArray⟩ := ⟨_, rfl⟩
      obtain ⟨e3, he3⟩ : ∃ e : Int, e = (((readR (bl s)).2.1 : Nat) : Int) := ⟨_, rfl⟩
      obtain ⟨e4, he4⟩ : ∃ e : Int, e = (((readR (bl s)).2.2 : Nat) : Int) := ⟨_, rfl⟩
      have hR2 : readV (bl s) = .tuple #[.string S3, .int .i64 e3, .int .i64 e4] := by unfold readV; rw [hS3, he3, he4]
      have hshl := shl_len _ (bl s) (Nat.le_refl _)
      rw [bl_len] at hshl
      (conv => whnf)
      refine FCalls.mono (shown_c (hG.more hM2) (by omega)) ?_
      rintro v m6 ⟨rfl, hm6⟩
      replace hM2 := Mem.le_trans hM2 hm6
      (conv => whnf)
      refine FCalls.mono (read_c (hG.more hM2) (by rw [size_mk]; omega)) ?_
      rintro v m7 ⟨rfl, hm7⟩
      replace hM2 := Mem.le_trans hM2 hm7
      rw [bl_mk, hR1]
      (conv => whnf)
      refine FCalls.mono (read_c (hG.more hM2) (by omega)) ?_
      rintro v m8 ⟨rfl, hm8⟩
      replace hM2 := Mem.le_trans hM2 hm8
      rw [hR2]
      (conv => whnf)
      refine brk_true (by rw [hb0]; rfl) ?_
      (conv => whnf)
      refine brk_true (by rw [he1]; rfl) ?_
      (conv => whnf)
      refine brk_true (by rw [he2]; rfl) ?_
      (conv => whnf)
      refine brk_true (by rw [hS2]; simp) ?_
      (conv => whnf)
      by_cases h3 : (readR (bl s)).2.1 = 0
      · refine brk_true (by rw [he3, h3]; rfl) ?_
        have hb2 := back2 h3
        have hge := shl_ge _ (readR (bl s)).1 (Nat.le_refl _)
        rw [hb2, bl_len] at hge
        obtain ⟨S5, hS5⟩ : ∃ S : ByteArray, S = s := ⟨_, rfl⟩
        (conv => whnf)
        refine FCalls.mono (shown_c (hG.more hM2) (s := S3) (by rw [hS3, size_mk]; omega)) ?_
        rintro v m9 ⟨rfl, hm9⟩
        rw [show Value.string ⟨(shl (bl S3)).toArray⟩ = .string S5 by rw [hS3, bl_mk, hb2, mk_bl, hS5]]
        (conv => whnf)
        exact ⟨by rw [hS5, hb0]; simp [single], Mem.le_trans hM2 hm9⟩
      · refine brk_false (by rw [he3]; simp; omega) ?_
        (conv => whnf)
        exact ⟨by rw [hb0]; rfl, hM2⟩
end Go.Proofs.YtlnekbdcbkndbaaDoor
