/- Texts that the claim leans on, joined: CoD, CoE, CoF, CoG, CoH, CoI, CoJ, CoK, CoL, CoM, CoMa, CoN, CoO, CoP. -/
import Derived.Test.YtfjbgmeimipibaaGreatDoorCj3
import Derived.Lib.ItoaLen
/- Code: an instruction as a text. -/
namespace Go.Proofs.YtfjbgmeimipibaaGreatDoor
open Go Go.Mv
set_option maxHeartbeats 1000000
set_option maxRecDepth 10000
set_option linter.unusedVariables false
set_option linter.unusedSimpArgs false
/-- An instruction's set, word by word. -/
def Ins.G (i : Ins) : Nat → Nat := fun k => ([i.s0, i.s1, i.s2, i.s3].getD k 0).toNat
/-- What a machine's memory holds fits. -/
structure InsOk (i : Ins) : Prop where
  x : -9223372036854775808 ≤ i.x ∧ i.x ≤ 9223372036854775807
  y : -9223372036854775808 ≤ i.y ∧ i.y ≤ 9223372036854775807
  n : -9223372036854775808 ≤ i.n ∧ i.n ≤ 9223372036854775807
  mn : -9223372036854775808 ≤ i.mn ∧ i.mn ≤ 9223372036854775807
  mx : -9223372036854775808 ≤ i.mx ∧ i.mx ≤ 9223372036854775807
  s0 : 0 ≤ i.s0 ∧ i.s0 < 18446744073709551616
  s1 : 0 ≤ i.s1 ∧ i.s1 < 18446744073709551616
  s2 : 0 ≤ i.s2 ∧ i.s2 < 18446744073709551616
  s3 : 0 ≤ i.s3 ∧ i.s3 < 18446744073709551616
theorem Ins.W {i : Ins} (h : InsOk i) : W i.G = [i.s0, i.s1, i.s2, i.s3] := by
  have h0 := h.s0; have h1 := h.s1; have h2 := h.s2; have h3 := h.s3
  show [((i.s0.toNat : Nat) : Int), ((i.s1.toNat : Nat) : Int), ((i.s2.toNat : Nat) : Int), ((i.s3.toNat : Nat) : Int)] = _
  rw [Int.toNat_of_nonneg h0.1, Int.toNat_of_nonneg h1.1, Int.toNat_of_nonneg h2.1, Int.toNat_of_nonneg h3.1]
theorem Ins.ok {i : Ins} (h : InsOk i) : WOk i.G := by
  have h0 := h.s0; have h1 := h.s1; have h2 := h.s2; have h3 := h.s3
  intro k hk
  have : k = 0 ∨ k = 1 ∨ k = 2 ∨ k = 3 := by omega
  rcases this with rfl | rfl | rfl | rfl
  · show i.s0.toNat < _; omega
  · show i.s1.toNat < _; omega
  · show i.s2.toNat < _; omega
  · show i.s3.toNat < _; omega
def boundL (n : Int) : List UInt8 := if n = -1 then [42] else Lib.itoa n
def wordsI (i : Ins) (u : Uses) : List (List UInt8) :=
  [nameL i.op] ++ (if u.set then [classL (has i.G)] else []) ++ (if u.g || u.c then [Lib.itoa i.n] else []) ++ (if i.op = 10 then [Lib.itoa i.mn, boundL i.mx] else []) ++
    (if u.x then [Lib.itoa i.x] else []) ++ (if u.y then [Lib.itoa i.y] else [])
def lineL (i : Ins) : List UInt8 := joinL [32] (wordsI i ((usesOf i.op).getD noUse)) ++ [10]
theorem classL_len (f : Nat → Bool) : (classL f).length ≤ 1536 := by
  have hr := runs_len f 0
  unfold classL
  cases h : runs f 0 with
  | nil => simp [classOf, noneL]
  | cons x r =>
    have := join_len ((x :: r).map pieceL) (fun y hy => by obtain ⟨z, _, rfl⟩ := List.mem_map.1 hy; exact piece_len z)
    rw [h] at hr
    simp only [classOf, List.length_map] at this ⊢
    omega
theorem join_len2 {N : Nat} : ∀ l : List (List UInt8), (∀ x ∈ l, x.length ≤ N) → (joinL [32] l).length ≤ (N + 1) * l.length
  | [], _ => by simp [joinL]
  | [x], h => by have := h x (by simp); simp [joinL]; omega
  | x :: y :: r, h => by
    have ih := join_len2 (y :: r) fun z hz => h z (List.mem_cons_of_mem _ hz)
    have := h x (by simp)
    simp only [joinL, List.length_append, List.length_cons, List.length_nil] at ih ⊢
    have e : (N + 1) * (r.length + 1 + 1) = (N + 1) * (r.length + 1) + (N + 1) := Nat.mul_succ _ _
    omega
theorem name_len (op : Int) : (nameL op).length ≤ 5 := by
  unfold nameL
  repeat' split
  all_goals decide
theorem itoa_len {n : Int} (h : -9223372036854775808 ≤ n ∧ n ≤ 9223372036854775807) : (Lib.itoa n).length ≤ 1536 := by
  have := Lib.itoa_length_le n h.1 h.2
  omega
theorem bound_len {n : Int} (h : -9223372036854775808 ≤ n ∧ n ≤ 9223372036854775807) : (boundL n).length ≤ 1536 := by
  unfold boundL
  split
  · decide
  · exact itoa_len h
theorem wordsI_len {i : Ins} (h : InsOk i) (u : Uses) : ∀ x ∈ wordsI i u, x.length ≤ 1536 := by
  intro x hx
  have hn := name_len i.op
  unfold wordsI at hx
  simp only [List.mem_append] at hx
  rcases hx with ((((hx | hx) | hx) | hx) | hx) | hx
  · simp at hx; subst hx; omega
  · split at hx
    · simp at hx; subst hx; exact classL_len _
    · cases hx
  · split at hx
    · simp at hx; subst hx; exact itoa_len h.n
    · cases hx
  · split at hx
    · simp at hx; rcases hx with rfl | rfl
      · exact itoa_len h.mn
      · exact bound_len h.mx
    · cases hx
  · split at hx
    · simp at hx; subst hx; exact itoa_len h.x
    · cases hx
  · split at hx
    · simp at hx; subst hx; exact itoa_len h.y
    · cases hx
theorem wordsI_many (i : Ins) (u : Uses) : (wordsI i u).length ≤ 7 := by
  unfold wordsI
  simp only [List.length_append]
  repeat' split
  all_goals simp
theorem lineL_len {i : Ins} (h : InsOk i) : (joinL [32] (wordsI i ((usesOf i.op).getD noUse))).length ≤ 10759 := by
  have h1 := join_len2 _ (wordsI_len h ((usesOf i.op).getD noUse))
  have h2 := wordsI_many i ((usesOf i.op).getD noUse)
  have h3 : (1536 + 1) * (wordsI i ((usesOf i.op).getD noUse)).length ≤ (1536 + 1) * 7 := Nat.mul_le_mul_left _ h2
  omega
theorem sl_spot {A : Option Addr} {n c sz : Nat} {vs : List Value} {m : Mem} (h : sl A n c sz vs m) : ∀ p, A = some p → p.spot = none := by
  intro p hp
  rcases h.2.2 with ⟨h0, _⟩ | ⟨b, o, l, e, h0, _⟩
  · rw [h0] at hp; cases hp
  · rw [h0] at hp; cases hp; rfl
theorem sz_nl {l : List UInt8} (h : l.length ≤ 10759) : (((⟨l.toArray⟩ : ByteArray).size + (⟨#[10]⟩ : ByteArray).size : Nat) : Int) ≤ IntKind.i64.max := by
  show ((l.length + 1 : Nat) : Int) ≤ 9223372036854775807
  omega
theorem app_nl (l : List UInt8) : Value.string ((⟨l.toArray⟩ : ByteArray) ++ ⟨#[10]⟩) = str (l ++ [10]) := congrArg Value.string (str_app l [10])
theorem ofk {m : Mem} {op : Int} {u : Uses} (h : usesOf op = some u) : FCalls Tryz.prog 42 [.int .i64 op] m fun v m' => v = .tuple #[.agg #[.bool u.set, .bool u.x, .bool u.y, .bool u.g, .bool u.c, .bool u.n], .bool true] ∧ m' = m :=
  (of_c (op := op)).mono fun v m' ⟨h1, h2⟩ => ⟨by rw [h1, h]; rfl, h2⟩
attribute [local irreducible] classL FCalls PCalls IntKind.wrap bits Mem.set Mem.setCell Mem.setCells YCalls RunP NextP RunU
theorem line_3 {m : Mem} (hg : Gl m) {x y n mn mx s0 s1 s2 s3 : Int} (hi : InsOk ⟨3, x, y, n, mn, mx, s0, s1, s2, s3⟩) : FCalls Tryz.prog 40 [.agg (Ins.cells ⟨3, x, y, n, mn, mx, s0, s1, s2, s3⟩).toArray] m fun v m' => v = str (lineL ⟨3, x, y, n, mn, mx, s0, s1, s2, s3⟩) ∧ m' = m := by
  obtain ⟨i, hi0⟩ : ∃ i, i = Ins.mk 3 x y n mn mx s0 s1 s2 s3 := ⟨_, rfl⟩
  have hop : i.op = 3 := by rw [hi0]
  have hl := lineL_len hi
  rw [← hi0] at hi hl ⊢
  refine FCalls.less ?_
  refine fcalls_of_vc (T := tbl) (B := bodies) (pr := [99999, 4]) (DR := dr40) (args := [.v (.agg i.cells.toArray)]) tbl_ok bodies_ok mixed Tryz.func40 rfl (by decide +kernel) (by simp [Tryz.f40]) rfl ?_
  (conv => whnf)
  intro b5 m2 hb he
  have h := (Sep.init m).new' (l := i.cells) hb (he.trans rfl)
  clear hb he
  (conv => whnf)
  refine ⟨_, h.cell 0 (i := 0) rfl rfl, ?_⟩
  (conv => whnf)
  refine FCalls.mono (name_c (by omega) (by omega)) ?_
  rintro v m1 ⟨rfl, rfl⟩
  (conv => whnf)
  intro nb m3 hb he
  replace h := h.new' (l := [str (nameL i.op)]) hb (he.trans rfl)
  clear hb he
  replace h := h.slOf 0 (n := 1) (c := 1) (sz := 1) (vs := [str (nameL i.op)]) rfl rfl (Nat.le_refl _) (by simp) (fun k v hk => hk)
  have ka : ∀ (M : Mem) {A : Option Addr} {n c : Nat} {vs : List Value}, Mv.Sep [sl A n c 1 vs, pt b5 i.cells, kp m] M → ∀ j, j < 4 → M.cell (((⟨b5, 0, none⟩ : Addr).add 6).add j) = some (.int .u64 ([i.s0, i.s1, i.s2, i.s3].getD j 0)) := fun M A n c vs h j hj => by
    have : j = 0 ∨ j = 1 ∨ j = 2 ∨ j = 3 := by omega
    rcases this with rfl | rfl | rfl | rfl
    · exact h.cell 1 (i := 6) rfl rfl
    · exact h.cell 1 (i := 7) rfl rfl
    · exact h.cell 1 (i := 8) rfl rfl
    · exact h.cell 1 (i := 9) rfl rfl
  replace h : Mv.Sep [sl (some ⟨nb, 0, none⟩) 1 1 1 [str (nameL i.op)], pt b5 i.cells, kp m] m3 := h
  (conv => whnf)
  refine ⟨_, h.cell 1 (i := 0) rfl rfl, ?_⟩
  (conv => whnf)
  refine FCalls.mono (ofk (op := i.op) (u := ⟨false, true, false, false, false, false⟩) (by rw [hop]; rfl)) ?_
  rintro v m1 ⟨rfl, rfl⟩
  (conv => whnf)
  refine ⟨_, h.cell 1 (i := 0) rfl rfl, ?_⟩
  (conv => whnf)
  refine brk_false (by rw [hop]; rfl) ?_
  (conv => whnf)
  refine ⟨_, h.cell 1 (i := 1) rfl rfl, ?_⟩
  (conv => whnf)
  refine FCalls.mono (itoa_c (hg.more (h.kept 2 rfl)) hi.x.1 hi.x.2) ?_
  rintro v m1 ⟨rfl, rfl⟩
  (conv => whnf)
  intro nb m5 hb he
  replace h := h.new' (l := [str (Lib.itoa i.x)]) hb (he.trans rfl)
  have hBn : m5.holds ⟨nb, 0, none⟩ [str (Lib.itoa i.x)] := (h.blk 0 rfl).holds fun k v hk => by rw [Nat.zero_add]; exact hk
  clear hb he
  (conv => whnf)
  obtain ⟨ok, hR⟩ := h.app 1 (T := tbl) (e := 9) (news := [str (Lib.itoa i.x)]) (k := 1) (B := some ⟨nb, 0, none⟩) rfl rfl (.inr ⟨_, rfl, hBn⟩) rfl rfl (by decide) rfl
  refine ⟨_, _, ok, fun A2 c5 m6 hr2 => ?_⟩
  replace h := (hR _ _ _ hr2).drop 0
  clear ok hR hr2 hBn
  (conv => whnf)
  have hw : wordsI i ((usesOf i.op).getD noUse) = [nameL i.op] ++ [Lib.itoa i.x] := by
    unfold wordsI
    rw [hop]
    rfl
  refine FCalls.mono (join_c (xs := [nameL i.op] ++ [Lib.itoa i.x]) (sep := [32]) (sl_rd (h.asn 0 rfl)) (h.asn 0 rfl).2.1 (by simp) (by rw [← hw]; omega) (sl_spot (h.asn 0 rfl))) ?_
  rintro v m1 ⟨rfl, rfl⟩
  rw [hw] at hl
  (conv => whnf)
  refine ⟨sz_nl hl, ?_⟩
  (conv => whnf)
  exact ⟨m, h.kept 2 rfl, by unfold lineL; rw [hw]; exact app_nl _, rfl⟩
theorem line_2 {m : Mem} (hg : Gl m) {x y n mn mx s0 s1 s2 s3 : Int} (hi : InsOk ⟨2, x, y, n, mn, mx, s0, s1, s2, s3⟩) : FCalls Tryz.prog 40 [.agg (Ins.cells ⟨2, x, y, n, mn, mx, s0, s1, s2, s3⟩).toArray] m fun v m' => v = str (lineL ⟨2, x, y, n, mn, mx, s0, s1, s2, s3⟩) ∧ m' = m := by
  obtain ⟨i, hi0⟩ : ∃ i, i = Ins.mk 2 x y n mn mx s0 s1 s2 s3 := ⟨_, rfl⟩
  have hop : i.op = 2 := by rw [hi0]
  have hl := lineL_len hi
  rw [← hi0] at hi hl ⊢
  refine FCalls.less ?_
  refine fcalls_of_vc (T := tbl) (B := bodies) (pr := [99999, 4]) (DR := dr40) (args := [.v (.agg i.cells.toArray)]) tbl_ok bodies_ok mixed Tryz.func40 rfl (by decide +kernel) (by simp [Tryz.f40]) rfl ?_
  (conv => whnf)
  intro b5 m2 hb he
  have h := (Sep.init m).new' (l := i.cells) hb (he.trans rfl)
  clear hb he
  (conv => whnf)
  refine ⟨_, h.cell 0 (i := 0) rfl rfl, ?_⟩
  (conv => whnf)
  refine FCalls.mono (name_c (by omega) (by omega)) ?_
  rintro v m1 ⟨rfl, rfl⟩
  (conv => whnf)
  intro nb m3 hb he
  replace h := h.new' (l := [str (nameL i.op)]) hb (he.trans rfl)
  clear hb he
  replace h := h.slOf 0 (n := 1) (c := 1) (sz := 1) (vs := [str (nameL i.op)]) rfl rfl (Nat.le_refl _) (by simp) (fun k v hk => hk)
  have ka : ∀ (M : Mem) {A : Option Addr} {n c : Nat} {vs : List Value}, Mv.Sep [sl A n c 1 vs, pt b5 i.cells, kp m] M → ∀ j, j < 4 → M.cell (((⟨b5, 0, none⟩ : Addr).add 6).add j) = some (.int .u64 ([i.s0, i.s1, i.s2, i.s3].getD j 0)) := fun M A n c vs h j hj => by
    have : j = 0 ∨ j = 1 ∨ j = 2 ∨ j = 3 := by omega
    rcases this with rfl | rfl | rfl | rfl
    · exact h.cell 1 (i := 6) rfl rfl
    · exact h.cell 1 (i := 7) rfl rfl
    · exact h.cell 1 (i := 8) rfl rfl
    · exact h.cell 1 (i := 9) rfl rfl
  replace h : Mv.Sep [sl (some ⟨nb, 0, none⟩) 1 1 1 [str (nameL i.op)], pt b5 i.cells, kp m] m3 := h
  (conv => whnf)
  refine ⟨_, h.cell 1 (i := 0) rfl rfl, ?_⟩
  (conv => whnf)
  refine FCalls.mono (ofk (op := i.op) (u := ⟨false, true, true, false, false, false⟩) (by rw [hop]; rfl)) ?_
  rintro v m1 ⟨rfl, rfl⟩
  (conv => whnf)
  refine ⟨_, h.cell 1 (i := 0) rfl rfl, ?_⟩
  (conv => whnf)
  refine brk_false (by rw [hop]; rfl) ?_
  (conv => whnf)
  refine ⟨_, h.cell 1 (i := 1) rfl rfl, ?_⟩
  (conv => whnf)
  refine FCalls.mono (itoa_c (hg.more (h.kept 2 rfl)) hi.x.1 hi.x.2) ?_
  rintro v m1 ⟨rfl, rfl⟩
  (conv => whnf)
  intro nb m5 hb he
  replace h := h.new' (l := [str (Lib.itoa i.x)]) hb (he.trans rfl)
  have hBn : m5.holds ⟨nb, 0, none⟩ [str (Lib.itoa i.x)] := (h.blk 0 rfl).holds fun k v hk => by rw [Nat.zero_add]; exact hk
  clear hb he
  (conv => whnf)
  obtain ⟨ok, hR⟩ := h.app 1 (T := tbl) (e := 9) (news := [str (Lib.itoa i.x)]) (k := 1) (B := some ⟨nb, 0, none⟩) rfl rfl (.inr ⟨_, rfl, hBn⟩) rfl rfl (by decide) rfl
  refine ⟨_, _, ok, fun A2 c5 m6 hr2 => ?_⟩
  replace h := (hR _ _ _ hr2).drop 0
  clear ok hR hr2 hBn
  (conv => whnf)
  refine ⟨_, h.cell 1 (i := 2) rfl rfl, ?_⟩
  (conv => whnf)
  refine FCalls.mono (itoa_c (hg.more (h.kept 2 rfl)) hi.y.1 hi.y.2) ?_
  rintro v m1 ⟨rfl, rfl⟩
  (conv => whnf)
  intro nb m5 hb he
  replace h := h.new' (l := [str (Lib.itoa i.y)]) hb (he.trans rfl)
  have hBn : m5.holds ⟨nb, 0, none⟩ [str (Lib.itoa i.y)] := (h.blk 0 rfl).holds fun k v hk => by rw [Nat.zero_add]; exact hk
  clear hb he
  (conv => whnf)
  obtain ⟨ok, hR⟩ := h.app 1 (T := tbl) (e := 9) (news := [str (Lib.itoa i.y)]) (k := 1) (B := some ⟨nb, 0, none⟩) rfl rfl (.inr ⟨_, rfl, hBn⟩) rfl rfl (by decide) rfl
  refine ⟨_, _, ok, fun A2 c5 m6 hr2 => ?_⟩
  replace h := (hR _ _ _ hr2).drop 0
  clear ok hR hr2 hBn
  (conv => whnf)
  have hw : wordsI i ((usesOf i.op).getD noUse) = [nameL i.op] ++ [Lib.itoa i.x, Lib.itoa i.y] := by
    unfold wordsI
    rw [hop]
    rfl
  refine FCalls.mono (join_c (xs := [nameL i.op] ++ [Lib.itoa i.x, Lib.itoa i.y]) (sep := [32]) (sl_rd (h.asn 0 rfl)) (h.asn 0 rfl).2.1 (by simp) (by rw [← hw]; omega) (sl_spot (h.asn 0 rfl))) ?_
  rintro v m1 ⟨rfl, rfl⟩
  rw [hw] at hl
  (conv => whnf)
  refine ⟨sz_nl hl, ?_⟩
  (conv => whnf)
  exact ⟨m, h.kept 2 rfl, by unfold lineL; rw [hw]; exact app_nl _, rfl⟩
theorem line_1 {m : Mem} (hg : Gl m) {x y n mn mx s0 s1 s2 s3 : Int} (hi : InsOk ⟨1, x, y, n, mn, mx, s0, s1, s2, s3⟩) : FCalls Tryz.prog 40 [.agg (Ins.cells ⟨1, x, y, n, mn, mx, s0, s1, s2, s3⟩).toArray] m fun v m' => v = str (lineL ⟨1, x, y, n, mn, mx, s0, s1, s2, s3⟩) ∧ m' = m := by
  obtain ⟨i, hi0⟩ : ∃ i, i = Ins.mk 1 x y n mn mx s0 s1 s2 s3 := ⟨_, rfl⟩
  have hop : i.op = 1 := by rw [hi0]
  have hl := lineL_len hi
  rw [← hi0] at hi hl ⊢
  refine FCalls.less ?_
  refine fcalls_of_vc (T := tbl) (B := bodies) (pr := [99999, 4]) (DR := dr40) (args := [.v (.agg i.cells.toArray)]) tbl_ok bodies_ok mixed Tryz.func40 rfl (by decide +kernel) (by simp [Tryz.f40]) rfl ?_
  (conv => whnf)
  intro b5 m2 hb he
  have h := (Sep.init m).new' (l := i.cells) hb (he.trans rfl)
  clear hb he
  (conv => whnf)
  refine ⟨_, h.cell 0 (i := 0) rfl rfl, ?_⟩
  (conv => whnf)
  refine FCalls.mono (name_c (by omega) (by omega)) ?_
  rintro v m1 ⟨rfl, rfl⟩
  (conv => whnf)
  intro nb m3 hb he
  replace h := h.new' (l := [str (nameL i.op)]) hb (he.trans rfl)
  clear hb he
  replace h := h.slOf 0 (n := 1) (c := 1) (sz := 1) (vs := [str (nameL i.op)]) rfl rfl (Nat.le_refl _) (by simp) (fun k v hk => hk)
  have ka : ∀ (M : Mem) {A : Option Addr} {n c : Nat} {vs : List Value}, Mv.Sep [sl A n c 1 vs, pt b5 i.cells, kp m] M → ∀ j, j < 4 → M.cell (((⟨b5, 0, none⟩ : Addr).add 6).add j) = some (.int .u64 ([i.s0, i.s1, i.s2, i.s3].getD j 0)) := fun M A n c vs h j hj => by
    have : j = 0 ∨ j = 1 ∨ j = 2 ∨ j = 3 := by omega
    rcases this with rfl | rfl | rfl | rfl
    · exact h.cell 1 (i := 6) rfl rfl
    · exact h.cell 1 (i := 7) rfl rfl
    · exact h.cell 1 (i := 8) rfl rfl
    · exact h.cell 1 (i := 9) rfl rfl
  replace h : Mv.Sep [sl (some ⟨nb, 0, none⟩) 1 1 1 [str (nameL i.op)], pt b5 i.cells, kp m] m3 := h
  (conv => whnf)
  refine ⟨_, h.cell 1 (i := 0) rfl rfl, ?_⟩
  (conv => whnf)
  refine FCalls.mono (ofk (op := i.op) (u := ⟨true, false, false, false, false, true⟩) (by rw [hop]; rfl)) ?_
  rintro v m1 ⟨rfl, rfl⟩
  (conv => whnf)
  refine ⟨[i.s0, i.s1, i.s2, i.s3], rfl, ka _ h, ?_⟩
  (conv => whnf)
  rw [← Ins.W hi]
  refine FCalls.mono (class_c (Ins.ok hi)) ?_
  rintro v m1 ⟨rfl, rfl⟩
  (conv => whnf)
  intro nb m5 hb he
  replace h := h.new' (l := [str (classL (has i.G))]) hb (he.trans rfl)
  have hBn : m5.holds ⟨nb, 0, none⟩ [str (classL (has i.G))] := (h.blk 0 rfl).holds fun k v hk => by rw [Nat.zero_add]; exact hk
  clear hb he
  (conv => whnf)
  obtain ⟨ok, hR⟩ := h.app 1 (T := tbl) (e := 9) (news := [str (classL (has i.G))]) (k := 1) (B := some ⟨nb, 0, none⟩) rfl rfl (.inr ⟨_, rfl, hBn⟩) rfl rfl (by decide) rfl
  refine ⟨_, _, ok, fun A2 c5 m6 hr2 => ?_⟩
  replace h := (hR _ _ _ hr2).drop 0
  clear ok hR hr2 hBn
  (conv => whnf)
  refine ⟨_, h.cell 1 (i := 0) rfl rfl, ?_⟩
  (conv => whnf)
  refine brk_false (by rw [hop]; rfl) ?_
  (conv => whnf)
  have hw : wordsI i ((usesOf i.op).getD noUse) = [nameL i.op] ++ [classL (has i.G)] := by
    unfold wordsI
    rw [hop]
    rfl
  refine FCalls.mono (join_c (xs := [nameL i.op] ++ [classL (has i.G)]) (sep := [32]) (sl_rd (h.asn 0 rfl)) (h.asn 0 rfl).2.1 (by simp) (by rw [← hw]; omega) (sl_spot (h.asn 0 rfl))) ?_
  rintro v m1 ⟨rfl, rfl⟩
  rw [hw] at hl
  (conv => whnf)
  refine ⟨sz_nl hl, ?_⟩
  (conv => whnf)
  exact ⟨m, h.kept 2 rfl, by unfold lineL; rw [hw]; exact app_nl _, rfl⟩
theorem line_4 {m : Mem} (hg : Gl m) {x y n mn mx s0 s1 s2 s3 : Int} (hi : InsOk ⟨4, x, y, n, mn, mx, s0, s1, s2, s3⟩) : FCalls Tryz.prog 40 [.agg (Ins.cells ⟨4, x, y, n, mn, mx, s0, s1, s2, s3⟩).toArray] m fun v m' => v = str (lineL ⟨4, x, y, n, mn, mx, s0, s1, s2, s3⟩) ∧ m' = m := by
  obtain ⟨i, hi0⟩ : ∃ i, i = Ins.mk 4 x y n mn mx s0 s1 s2 s3 := ⟨_, rfl⟩
  have hop : i.op = 4 := by rw [hi0]
  have hl := lineL_len hi
  rw [← hi0] at hi hl ⊢
  refine FCalls.less ?_
  refine fcalls_of_vc (T := tbl) (B := bodies) (pr := [99999, 4]) (DR := dr40) (args := [.v (.agg i.cells.toArray)]) tbl_ok bodies_ok mixed Tryz.func40 rfl (by decide +kernel) (by simp [Tryz.f40]) rfl ?_
  (conv => whnf)
  intro b5 m2 hb he
  have h := (Sep.init m).new' (l := i.cells) hb (he.trans rfl)
  clear hb he
  (conv => whnf)
  refine ⟨_, h.cell 0 (i := 0) rfl rfl, ?_⟩
  (conv => whnf)
  refine FCalls.mono (name_c (by omega) (by omega)) ?_
  rintro v m1 ⟨rfl, rfl⟩
  (conv => whnf)
  intro nb m3 hb he
  replace h := h.new' (l := [str (nameL i.op)]) hb (he.trans rfl)
  clear hb he
  replace h := h.slOf 0 (n := 1) (c := 1) (sz := 1) (vs := [str (nameL i.op)]) rfl rfl (Nat.le_refl _) (by simp) (fun k v hk => hk)
  have ka : ∀ (M : Mem) {A : Option Addr} {n c : Nat} {vs : List Value}, Mv.Sep [sl A n c 1 vs, pt b5 i.cells, kp m] M → ∀ j, j < 4 → M.cell (((⟨b5, 0, none⟩ : Addr).add 6).add j) = some (.int .u64 ([i.s0, i.s1, i.s2, i.s3].getD j 0)) := fun M A n c vs h j hj => by
    have : j = 0 ∨ j = 1 ∨ j = 2 ∨ j = 3 := by omega
    rcases this with rfl | rfl | rfl | rfl
    · exact h.cell 1 (i := 6) rfl rfl
    · exact h.cell 1 (i := 7) rfl rfl
    · exact h.cell 1 (i := 8) rfl rfl
    · exact h.cell 1 (i := 9) rfl rfl
  replace h : Mv.Sep [sl (some ⟨nb, 0, none⟩) 1 1 1 [str (nameL i.op)], pt b5 i.cells, kp m] m3 := h
  (conv => whnf)
  refine ⟨_, h.cell 1 (i := 0) rfl rfl, ?_⟩
  (conv => whnf)
  refine FCalls.mono (ofk (op := i.op) (u := ⟨false, false, false, false, false, true⟩) (by rw [hop]; rfl)) ?_
  rintro v m1 ⟨rfl, rfl⟩
  (conv => whnf)
  refine ⟨_, h.cell 1 (i := 0) rfl rfl, ?_⟩
  (conv => whnf)
  refine brk_false (by rw [hop]; rfl) ?_
  (conv => whnf)
  have hw : wordsI i ((usesOf i.op).getD noUse) = [nameL i.op] := by
    unfold wordsI
    rw [hop]
    rfl
  refine FCalls.mono (join_c (A := some ⟨nb, 0, none⟩) (c := 1) (xs := [nameL i.op]) (sep := [32]) (sl_rd (h.asn 0 rfl)) (h.asn 0 rfl).2.1 (by simp) (by rw [← hw]; omega) (sl_spot (h.asn 0 rfl))) ?_
  rintro v m1 ⟨rfl, rfl⟩
  rw [hw] at hl
  (conv => whnf)
  refine ⟨sz_nl hl, ?_⟩
  (conv => whnf)
  exact ⟨m, h.kept 2 rfl, by unfold lineL; rw [hw]; exact app_nl _, rfl⟩
theorem line_5 {m : Mem} (hg : Gl m) {x y n mn mx s0 s1 s2 s3 : Int} (hi : InsOk ⟨5, x, y, n, mn, mx, s0, s1, s2, s3⟩) : FCalls Tryz.prog 40 [.agg (Ins.cells ⟨5, x, y, n, mn, mx, s0, s1, s2, s3⟩).toArray] m fun v m' => v = str (lineL ⟨5, x, y, n, mn, mx, s0, s1, s2, s3⟩) ∧ m' = m := by
  obtain ⟨i, hi0⟩ : ∃ i, i = Ins.mk 5 x y n mn mx s0 s1 s2 s3 := ⟨_, rfl⟩
  have hop : i.op = 5 := by rw [hi0]
  have hl := lineL_len hi
  rw [← hi0] at hi hl ⊢
  refine FCalls.less ?_
  refine fcalls_of_vc (T := tbl) (B := bodies) (pr := [99999, 4]) (DR := dr40) (args := [.v (.agg i.cells.toArray)]) tbl_ok bodies_ok mixed Tryz.func40 rfl (by decide +kernel) (by simp [Tryz.f40]) rfl ?_
  (conv => whnf)
  intro b5 m2 hb he
  have h := (Sep.init m).new' (l := i.cells) hb (he.trans rfl)
  clear hb he
  (conv => whnf)
  refine ⟨_, h.cell 0 (i := 0) rfl rfl, ?_⟩
  (conv => whnf)
  refine FCalls.mono (name_c (by omega) (by omega)) ?_
  rintro v m1 ⟨rfl, rfl⟩
  (conv => whnf)
  intro nb m3 hb he
  replace h := h.new' (l := [str (nameL i.op)]) hb (he.trans rfl)
  clear hb he
  replace h := h.slOf 0 (n := 1) (c := 1) (sz := 1) (vs := [str (nameL i.op)]) rfl rfl (Nat.le_refl _) (by simp) (fun k v hk => hk)
  have ka : ∀ (M : Mem) {A : Option Addr} {n c : Nat} {vs : List Value}, Mv.Sep [sl A n c 1 vs, pt b5 i.cells, kp m] M → ∀ j, j < 4 → M.cell (((⟨b5, 0, none⟩ : Addr).add 6).add j) = some (.int .u64 ([i.s0, i.s1, i.s2, i.s3].getD j 0)) := fun M A n c vs h j hj => by
    have : j = 0 ∨ j = 1 ∨ j = 2 ∨ j = 3 := by omega
    rcases this with rfl | rfl | rfl | rfl
    · exact h.cell 1 (i := 6) rfl rfl
    · exact h.cell 1 (i := 7) rfl rfl
    · exact h.cell 1 (i := 8) rfl rfl
    · exact h.cell 1 (i := 9) rfl rfl
  replace h : Mv.Sep [sl (some ⟨nb, 0, none⟩) 1 1 1 [str (nameL i.op)], pt b5 i.cells, kp m] m3 := h
  (conv => whnf)
  refine ⟨_, h.cell 1 (i := 0) rfl rfl, ?_⟩
  (conv => whnf)
  refine FCalls.mono (ofk (op := i.op) (u := ⟨false, false, false, false, false, true⟩) (by rw [hop]; rfl)) ?_
  rintro v m1 ⟨rfl, rfl⟩
  (conv => whnf)
  refine ⟨_, h.cell 1 (i := 0) rfl rfl, ?_⟩
  (conv => whnf)
  refine brk_false (by rw [hop]; rfl) ?_
  (conv => whnf)
  have hw : wordsI i ((usesOf i.op).getD noUse) = [nameL i.op] := by
    unfold wordsI
    rw [hop]
    rfl
  refine FCalls.mono (join_c (A := some ⟨nb, 0, none⟩) (c := 1) (xs := [nameL i.op]) (sep := [32]) (sl_rd (h.asn 0 rfl)) (h.asn 0 rfl).2.1 (by simp) (by rw [← hw]; omega) (sl_spot (h.asn 0 rfl))) ?_
  rintro v m1 ⟨rfl, rfl⟩
  rw [hw] at hl
  (conv => whnf)
  refine ⟨sz_nl hl, ?_⟩
  (conv => whnf)
  exact ⟨m, h.kept 2 rfl, by unfold lineL; rw [hw]; exact app_nl _, rfl⟩
theorem line_11 {m : Mem} (hg : Gl m) {x y n mn mx s0 s1 s2 s3 : Int} (hi : InsOk ⟨11, x, y, n, mn, mx, s0, s1, s2, s3⟩) : FCalls Tryz.prog 40 [.agg (Ins.cells ⟨11, x, y, n, mn, mx, s0, s1, s2, s3⟩).toArray] m fun v m' => v = str (lineL ⟨11, x, y, n, mn, mx, s0, s1, s2, s3⟩) ∧ m' = m := by
  obtain ⟨i, hi0⟩ : ∃ i, i = Ins.mk 11 x y n mn mx s0 s1 s2 s3 := ⟨_, rfl⟩
  have hop : i.op = 11 := by rw [hi0]
  have hl := lineL_len hi
  rw [← hi0] at hi hl ⊢
  refine FCalls.less ?_
  refine fcalls_of_vc (T := tbl) (B := bodies) (pr := [99999, 4]) (DR := dr40) (args := [.v (.agg i.cells.toArray)]) tbl_ok bodies_ok mixed Tryz.func40 rfl (by decide +kernel) (by simp [Tryz.f40]) rfl ?_
  (conv => whnf)
  intro b5 m2 hb he
  have h := (Sep.init m).new' (l := i.cells) hb (he.trans rfl)
  clear hb he
  (conv => whnf)
  refine ⟨_, h.cell 0 (i := 0) rfl rfl, ?_⟩
  (conv => whnf)
  refine FCalls.mono (name_c (by omega) (by omega)) ?_
  rintro v m1 ⟨rfl, rfl⟩
  (conv => whnf)
  intro nb m3 hb he
  replace h := h.new' (l := [str (nameL i.op)]) hb (he.trans rfl)
  clear hb he
  replace h := h.slOf 0 (n := 1) (c := 1) (sz := 1) (vs := [str (nameL i.op)]) rfl rfl (Nat.le_refl _) (by simp) (fun k v hk => hk)
  have ka : ∀ (M : Mem) {A : Option Addr} {n c : Nat} {vs : List Value}, Mv.Sep [sl A n c 1 vs, pt b5 i.cells, kp m] M → ∀ j, j < 4 → M.cell (((⟨b5, 0, none⟩ : Addr).add 6).add j) = some (.int .u64 ([i.s0, i.s1, i.s2, i.s3].getD j 0)) := fun M A n c vs h j hj => by
    have : j = 0 ∨ j = 1 ∨ j = 2 ∨ j = 3 := by omega
    rcases this with rfl | rfl | rfl | rfl
    · exact h.cell 1 (i := 6) rfl rfl
    · exact h.cell 1 (i := 7) rfl rfl
    · exact h.cell 1 (i := 8) rfl rfl
    · exact h.cell 1 (i := 9) rfl rfl
  replace h : Mv.Sep [sl (some ⟨nb, 0, none⟩) 1 1 1 [str (nameL i.op)], pt b5 i.cells, kp m] m3 := h
  (conv => whnf)
  refine ⟨_, h.cell 1 (i := 0) rfl rfl, ?_⟩
  (conv => whnf)
  refine FCalls.mono (ofk (op := i.op) (u := ⟨false, false, false, false, false, false⟩) (by rw [hop]; rfl)) ?_
  rintro v m1 ⟨rfl, rfl⟩
  (conv => whnf)
  refine ⟨_, h.cell 1 (i := 0) rfl rfl, ?_⟩
  (conv => whnf)
  refine brk_false (by rw [hop]; rfl) ?_
  (conv => whnf)
  have hw : wordsI i ((usesOf i.op).getD noUse) = [nameL i.op] := by
    unfold wordsI
    rw [hop]
    rfl
  refine FCalls.mono (join_c (A := some ⟨nb, 0, none⟩) (c := 1) (xs := [nameL i.op]) (sep := [32]) (sl_rd (h.asn 0 rfl)) (h.asn 0 rfl).2.1 (by simp) (by rw [← hw]; omega) (sl_spot (h.asn 0 rfl))) ?_
  rintro v m1 ⟨rfl, rfl⟩
  rw [hw] at hl
  (conv => whnf)
  refine ⟨sz_nl hl, ?_⟩
  (conv => whnf)
  exact ⟨m, h.kept 2 rfl, by unfold lineL; rw [hw]; exact app_nl _, rfl⟩
theorem line_6 {m : Mem} (hg : Gl m) {x y n mn mx s0 s1 s2 s3 : Int} (hi : InsOk ⟨6, x, y, n, mn, mx, s0, s1, s2, s3⟩) : FCalls Tryz.prog 40 [.agg (Ins.cells ⟨6, x, y, n, mn, mx, s0, s1, s2, s3⟩).toArray] m fun v m' => v = str (lineL ⟨6, x, y, n, mn, mx, s0, s1, s2, s3⟩) ∧ m' = m := by
  obtain ⟨i, hi0⟩ : ∃ i, i = Ins.mk 6 x y n mn mx s0 s1 s2 s3 := ⟨_, rfl⟩
  have hop : i.op = 6 := by rw [hi0]
  have hl := lineL_len hi
  rw [← hi0] at hi hl ⊢
  refine FCalls.less ?_
  refine fcalls_of_vc (T := tbl) (B := bodies) (pr := [99999, 4]) (DR := dr40) (args := [.v (.agg i.cells.toArray)]) tbl_ok bodies_ok mixed Tryz.func40 rfl (by decide +kernel) (by simp [Tryz.f40]) rfl ?_
  (conv => whnf)
  intro b5 m2 hb he
  have h := (Sep.init m).new' (l := i.cells) hb (he.trans rfl)
  clear hb he
  (conv => whnf)
  refine ⟨_, h.cell 0 (i := 0) rfl rfl, ?_⟩
  (conv => whnf)
  refine FCalls.mono (name_c (by omega) (by omega)) ?_
  rintro v m1 ⟨rfl, rfl⟩
  (conv => whnf)
  intro nb m3 hb he
  replace h := h.new' (l := [str (nameL i.op)]) hb (he.trans rfl)
  clear hb he
  replace h := h.slOf 0 (n := 1) (c := 1) (sz := 1) (vs := [str (nameL i.op)]) rfl rfl (Nat.le_refl _) (by simp) (fun k v hk => hk)
  have ka : ∀ (M : Mem) {A : Option Addr} {n c : Nat} {vs : List Value}, Mv.Sep [sl A n c 1 vs, pt b5 i.cells, kp m] M → ∀ j, j < 4 → M.cell (((⟨b5, 0, none⟩ : Addr).add 6).add j) = some (.int .u64 ([i.s0, i.s1, i.s2, i.s3].getD j 0)) := fun M A n c vs h j hj => by
    have : j = 0 ∨ j = 1 ∨ j = 2 ∨ j = 3 := by omega
    rcases this with rfl | rfl | rfl | rfl
    · exact h.cell 1 (i := 6) rfl rfl
    · exact h.cell 1 (i := 7) rfl rfl
    · exact h.cell 1 (i := 8) rfl rfl
    · exact h.cell 1 (i := 9) rfl rfl
  replace h : Mv.Sep [sl (some ⟨nb, 0, none⟩) 1 1 1 [str (nameL i.op)], pt b5 i.cells, kp m] m3 := h
  (conv => whnf)
  refine ⟨_, h.cell 1 (i := 0) rfl rfl, ?_⟩
  (conv => whnf)
  refine FCalls.mono (ofk (op := i.op) (u := ⟨false, false, false, true, false, true⟩) (by rw [hop]; rfl)) ?_
  rintro v m1 ⟨rfl, rfl⟩
  (conv => whnf)
  refine ⟨_, h.cell 1 (i := 3) rfl rfl, ?_⟩
  (conv => whnf)
  refine FCalls.mono (itoa_c (hg.more (h.kept 2 rfl)) hi.n.1 hi.n.2) ?_
  rintro v m1 ⟨rfl, rfl⟩
  (conv => whnf)
  intro nb m5 hb he
  replace h := h.new' (l := [str (Lib.itoa i.n)]) hb (he.trans rfl)
  have hBn : m5.holds ⟨nb, 0, none⟩ [str (Lib.itoa i.n)] := (h.blk 0 rfl).holds fun k v hk => by rw [Nat.zero_add]; exact hk
  clear hb he
  (conv => whnf)
  obtain ⟨ok, hR⟩ := h.app 1 (T := tbl) (e := 9) (news := [str (Lib.itoa i.n)]) (k := 1) (B := some ⟨nb, 0, none⟩) rfl rfl (.inr ⟨_, rfl, hBn⟩) rfl rfl (by decide) rfl
  refine ⟨_, _, ok, fun A2 c5 m6 hr2 => ?_⟩
  replace h := (hR _ _ _ hr2).drop 0
  clear ok hR hr2 hBn
  (conv => whnf)
  refine ⟨_, h.cell 1 (i := 0) rfl rfl, ?_⟩
  (conv => whnf)
  refine brk_false (by rw [hop]; rfl) ?_
  (conv => whnf)
  have hw : wordsI i ((usesOf i.op).getD noUse) = [nameL i.op] ++ [Lib.itoa i.n] := by
    unfold wordsI
    rw [hop]
    rfl
  refine FCalls.mono (join_c (xs := [nameL i.op] ++ [Lib.itoa i.n]) (sep := [32]) (sl_rd (h.asn 0 rfl)) (h.asn 0 rfl).2.1 (by simp) (by rw [← hw]; omega) (sl_spot (h.asn 0 rfl))) ?_
  rintro v m1 ⟨rfl, rfl⟩
  rw [hw] at hl
  (conv => whnf)
  refine ⟨sz_nl hl, ?_⟩
  (conv => whnf)
  exact ⟨m, h.kept 2 rfl, by unfold lineL; rw [hw]; exact app_nl _, rfl⟩
theorem line_7 {m : Mem} (hg : Gl m) {x y n mn mx s0 s1 s2 s3 : Int} (hi : InsOk ⟨7, x, y, n, mn, mx, s0, s1, s2, s3⟩) : FCalls Tryz.prog 40 [.agg (Ins.cells ⟨7, x, y, n, mn, mx, s0, s1, s2, s3⟩).toArray] m fun v m' => v = str (lineL ⟨7, x, y, n, mn, mx, s0, s1, s2, s3⟩) ∧ m' = m := by
  obtain ⟨i, hi0⟩ : ∃ i, i = Ins.mk 7 x y n mn mx s0 s1 s2 s3 := ⟨_, rfl⟩
  have hop : i.op = 7 := by rw [hi0]
  have hl := lineL_len hi
  rw [← hi0] at hi hl ⊢
  refine FCalls.less ?_
  refine fcalls_of_vc (T := tbl) (B := bodies) (pr := [99999, 4]) (DR := dr40) (args := [.v (.agg i.cells.toArray)]) tbl_ok bodies_ok mixed Tryz.func40 rfl (by decide +kernel) (by simp [Tryz.f40]) rfl ?_
  (conv => whnf)
  intro b5 m2 hb he
  have h := (Sep.init m).new' (l := i.cells) hb (he.trans rfl)
  clear hb he
  (conv => whnf)
  refine ⟨_, h.cell 0 (i := 0) rfl rfl, ?_⟩
  (conv => whnf)
  refine FCalls.mono (name_c (by omega) (by omega)) ?_
  rintro v m1 ⟨rfl, rfl⟩
  (conv => whnf)
  intro nb m3 hb he
  replace h := h.new' (l := [str (nameL i.op)]) hb (he.trans rfl)
  clear hb he
  replace h := h.slOf 0 (n := 1) (c := 1) (sz := 1) (vs := [str (nameL i.op)]) rfl rfl (Nat.le_refl _) (by simp) (fun k v hk => hk)
  have ka : ∀ (M : Mem) {A : Option Addr} {n c : Nat} {vs : List Value}, Mv.Sep [sl A n c 1 vs, pt b5 i.cells, kp m] M → ∀ j, j < 4 → M.cell (((⟨b5, 0, none⟩ : Addr).add 6).add j) = some (.int .u64 ([i.s0, i.s1, i.s2, i.s3].getD j 0)) := fun M A n c vs h j hj => by
    have : j = 0 ∨ j = 1 ∨ j = 2 ∨ j = 3 := by omega
    rcases this with rfl | rfl | rfl | rfl
    · exact h.cell 1 (i := 6) rfl rfl
    · exact h.cell 1 (i := 7) rfl rfl
    · exact h.cell 1 (i := 8) rfl rfl
    · exact h.cell 1 (i := 9) rfl rfl
  replace h : Mv.Sep [sl (some ⟨nb, 0, none⟩) 1 1 1 [str (nameL i.op)], pt b5 i.cells, kp m] m3 := h
  (conv => whnf)
  refine ⟨_, h.cell 1 (i := 0) rfl rfl, ?_⟩
  (conv => whnf)
  refine FCalls.mono (ofk (op := i.op) (u := ⟨false, false, false, true, false, true⟩) (by rw [hop]; rfl)) ?_
  rintro v m1 ⟨rfl, rfl⟩
  (conv => whnf)
  refine ⟨_, h.cell 1 (i := 3) rfl rfl, ?_⟩
  (conv => whnf)
  refine FCalls.mono (itoa_c (hg.more (h.kept 2 rfl)) hi.n.1 hi.n.2) ?_
  rintro v m1 ⟨rfl, rfl⟩
  (conv => whnf)
  intro nb m5 hb he
  replace h := h.new' (l := [str (Lib.itoa i.n)]) hb (he.trans rfl)
  have hBn : m5.holds ⟨nb, 0, none⟩ [str (Lib.itoa i.n)] := (h.blk 0 rfl).holds fun k v hk => by rw [Nat.zero_add]; exact hk
  clear hb he
  (conv => whnf)
  obtain ⟨ok, hR⟩ := h.app 1 (T := tbl) (e := 9) (news := [str (Lib.itoa i.n)]) (k := 1) (B := some ⟨nb, 0, none⟩) rfl rfl (.inr ⟨_, rfl, hBn⟩) rfl rfl (by decide) rfl
  refine ⟨_, _, ok, fun A2 c5 m6 hr2 => ?_⟩
  replace h := (hR _ _ _ hr2).drop 0
  clear ok hR hr2 hBn
  (conv => whnf)
  refine ⟨_, h.cell 1 (i := 0) rfl rfl, ?_⟩
  (conv => whnf)
  refine brk_false (by rw [hop]; rfl) ?_
  (conv => whnf)
  have hw : wordsI i ((usesOf i.op).getD noUse) = [nameL i.op] ++ [Lib.itoa i.n] := by
    unfold wordsI
    rw [hop]
    rfl
  refine FCalls.mono (join_c (xs := [nameL i.op] ++ [Lib.itoa i.n]) (sep := [32]) (sl_rd (h.asn 0 rfl)) (h.asn 0 rfl).2.1 (by simp) (by rw [← hw]; omega) (sl_spot (h.asn 0 rfl))) ?_
  rintro v m1 ⟨rfl, rfl⟩
  rw [hw] at hl
  (conv => whnf)
  refine ⟨sz_nl hl, ?_⟩
  (conv => whnf)
  exact ⟨m, h.kept 2 rfl, by unfold lineL; rw [hw]; exact app_nl _, rfl⟩
theorem line_8 {m : Mem} (hg : Gl m) {x y n mn mx s0 s1 s2 s3 : Int} (hi : InsOk ⟨8, x, y, n, mn, mx, s0, s1, s2, s3⟩) : FCalls Tryz.prog 40 [.agg (Ins.cells ⟨8, x, y, n, mn, mx, s0, s1, s2, s3⟩).toArray] m fun v m' => v = str (lineL ⟨8, x, y, n, mn, mx, s0, s1, s2, s3⟩) ∧ m' = m := by
  obtain ⟨i, hi0⟩ : ∃ i, i = Ins.mk 8 x y n mn mx s0 s1 s2 s3 := ⟨_, rfl⟩
  have hop : i.op = 8 := by rw [hi0]
  have hl := lineL_len hi
  rw [← hi0] at hi hl ⊢
  refine FCalls.less ?_
  refine fcalls_of_vc (T := tbl) (B := bodies) (pr := [99999, 4]) (DR := dr40) (args := [.v (.agg i.cells.toArray)]) tbl_ok bodies_ok mixed Tryz.func40 rfl (by decide +kernel) (by simp [Tryz.f40]) rfl ?_
  (conv => whnf)
  intro b5 m2 hb he
  have h := (Sep.init m).new' (l := i.cells) hb (he.trans rfl)
  clear hb he
  (conv => whnf)
  refine ⟨_, h.cell 0 (i := 0) rfl rfl, ?_⟩
  (conv => whnf)
  refine FCalls.mono (name_c (by omega) (by omega)) ?_
  rintro v m1 ⟨rfl, rfl⟩
  (conv => whnf)
  intro nb m3 hb he
  replace h := h.new' (l := [str (nameL i.op)]) hb (he.trans rfl)
  clear hb he
  replace h := h.slOf 0 (n := 1) (c := 1) (sz := 1) (vs := [str (nameL i.op)]) rfl rfl (Nat.le_refl _) (by simp) (fun k v hk => hk)
  have ka : ∀ (M : Mem) {A : Option Addr} {n c : Nat} {vs : List Value}, Mv.Sep [sl A n c 1 vs, pt b5 i.cells, kp m] M → ∀ j, j < 4 → M.cell (((⟨b5, 0, none⟩ : Addr).add 6).add j) = some (.int .u64 ([i.s0, i.s1, i.s2, i.s3].getD j 0)) := fun M A n c vs h j hj => by
    have : j = 0 ∨ j = 1 ∨ j = 2 ∨ j = 3 := by omega
    rcases this with rfl | rfl | rfl | rfl
    · exact h.cell 1 (i := 6) rfl rfl
    · exact h.cell 1 (i := 7) rfl rfl
    · exact h.cell 1 (i := 8) rfl rfl
    · exact h.cell 1 (i := 9) rfl rfl
  replace h : Mv.Sep [sl (some ⟨nb, 0, none⟩) 1 1 1 [str (nameL i.op)], pt b5 i.cells, kp m] m3 := h
  (conv => whnf)
  refine ⟨_, h.cell 1 (i := 0) rfl rfl, ?_⟩
  (conv => whnf)
  refine FCalls.mono (ofk (op := i.op) (u := ⟨false, false, false, true, false, true⟩) (by rw [hop]; rfl)) ?_
  rintro v m1 ⟨rfl, rfl⟩
  (conv => whnf)
  refine ⟨_, h.cell 1 (i := 3) rfl rfl, ?_⟩
  (conv => whnf)
  refine FCalls.mono (itoa_c (hg.more (h.kept 2 rfl)) hi.n.1 hi.n.2) ?_
  rintro v m1 ⟨rfl, rfl⟩
  (conv => whnf)
  intro nb m5 hb he
  replace h := h.new' (l := [str (Lib.itoa i.n)]) hb (he.trans rfl)
  have hBn : m5.holds ⟨nb, 0, none⟩ [str (Lib.itoa i.n)] := (h.blk 0 rfl).holds fun k v hk => by rw [Nat.zero_add]; exact hk
  clear hb he
  (conv => whnf)
  obtain ⟨ok, hR⟩ := h.app 1 (T := tbl) (e := 9) (news := [str (Lib.itoa i.n)]) (k := 1) (B := some ⟨nb, 0, none⟩) rfl rfl (.inr ⟨_, rfl, hBn⟩) rfl rfl (by decide) rfl
  refine ⟨_, _, ok, fun A2 c5 m6 hr2 => ?_⟩
  replace h := (hR _ _ _ hr2).drop 0
  clear ok hR hr2 hBn
  (conv => whnf)
  refine ⟨_, h.cell 1 (i := 0) rfl rfl, ?_⟩
  (conv => whnf)
  refine brk_false (by rw [hop]; rfl) ?_
  (conv => whnf)
  have hw : wordsI i ((usesOf i.op).getD noUse) = [nameL i.op] ++ [Lib.itoa i.n] := by
    unfold wordsI
    rw [hop]
    rfl
  refine FCalls.mono (join_c (xs := [nameL i.op] ++ [Lib.itoa i.n]) (sep := [32]) (sl_rd (h.asn 0 rfl)) (h.asn 0 rfl).2.1 (by simp) (by rw [← hw]; omega) (sl_spot (h.asn 0 rfl))) ?_
  rintro v m1 ⟨rfl, rfl⟩
  rw [hw] at hl
  (conv => whnf)
  refine ⟨sz_nl hl, ?_⟩
  (conv => whnf)
  exact ⟨m, h.kept 2 rfl, by unfold lineL; rw [hw]; exact app_nl _, rfl⟩
theorem line_9 {m : Mem} (hg : Gl m) {x y n mn mx s0 s1 s2 s3 : Int} (hi : InsOk ⟨9, x, y, n, mn, mx, s0, s1, s2, s3⟩) : FCalls Tryz.prog 40 [.agg (Ins.cells ⟨9, x, y, n, mn, mx, s0, s1, s2, s3⟩).toArray] m fun v m' => v = str (lineL ⟨9, x, y, n, mn, mx, s0, s1, s2, s3⟩) ∧ m' = m := by
  obtain ⟨i, hi0⟩ : ∃ i, i = Ins.mk 9 x y n mn mx s0 s1 s2 s3 := ⟨_, rfl⟩
  have hop : i.op = 9 := by rw [hi0]
  have hl := lineL_len hi
  rw [← hi0] at hi hl ⊢
  refine FCalls.less ?_
  refine fcalls_of_vc (T := tbl) (B := bodies) (pr := [99999, 4]) (DR := dr40) (args := [.v (.agg i.cells.toArray)]) tbl_ok bodies_ok mixed Tryz.func40 rfl (by decide +kernel) (by simp [Tryz.f40]) rfl ?_
  (conv => whnf)
  intro b5 m2 hb he
  have h := (Sep.init m).new' (l := i.cells) hb (he.trans rfl)
  clear hb he
  (conv => whnf)
  refine ⟨_, h.cell 0 (i := 0) rfl rfl, ?_⟩
  (conv => whnf)
  refine FCalls.mono (name_c (by omega) (by omega)) ?_
  rintro v m1 ⟨rfl, rfl⟩
  (conv => whnf)
  intro nb m3 hb he
  replace h := h.new' (l := [str (nameL i.op)]) hb (he.trans rfl)
  clear hb he
  replace h := h.slOf 0 (n := 1) (c := 1) (sz := 1) (vs := [str (nameL i.op)]) rfl rfl (Nat.le_refl _) (by simp) (fun k v hk => hk)
  have ka : ∀ (M : Mem) {A : Option Addr} {n c : Nat} {vs : List Value}, Mv.Sep [sl A n c 1 vs, pt b5 i.cells, kp m] M → ∀ j, j < 4 → M.cell (((⟨b5, 0, none⟩ : Addr).add 6).add j) = some (.int .u64 ([i.s0, i.s1, i.s2, i.s3].getD j 0)) := fun M A n c vs h j hj => by
    have : j = 0 ∨ j = 1 ∨ j = 2 ∨ j = 3 := by omega
    rcases this with rfl | rfl | rfl | rfl
    · exact h.cell 1 (i := 6) rfl rfl
    · exact h.cell 1 (i := 7) rfl rfl
    · exact h.cell 1 (i := 8) rfl rfl
    · exact h.cell 1 (i := 9) rfl rfl
  replace h : Mv.Sep [sl (some ⟨nb, 0, none⟩) 1 1 1 [str (nameL i.op)], pt b5 i.cells, kp m] m3 := h
  (conv => whnf)
  refine ⟨_, h.cell 1 (i := 0) rfl rfl, ?_⟩
  (conv => whnf)
  refine FCalls.mono (ofk (op := i.op) (u := ⟨false, false, false, false, true, true⟩) (by rw [hop]; rfl)) ?_
  rintro v m1 ⟨rfl, rfl⟩
  (conv => whnf)
  refine ⟨_, h.cell 1 (i := 3) rfl rfl, ?_⟩
  (conv => whnf)
  refine FCalls.mono (itoa_c (hg.more (h.kept 2 rfl)) hi.n.1 hi.n.2) ?_
  rintro v m1 ⟨rfl, rfl⟩
  (conv => whnf)
  intro nb m5 hb he
  replace h := h.new' (l := [str (Lib.itoa i.n)]) hb (he.trans rfl)
  have hBn : m5.holds ⟨nb, 0, none⟩ [str (Lib.itoa i.n)] := (h.blk 0 rfl).holds fun k v hk => by rw [Nat.zero_add]; exact hk
  clear hb he
  (conv => whnf)
  obtain ⟨ok, hR⟩ := h.app 1 (T := tbl) (e := 9) (news := [str (Lib.itoa i.n)]) (k := 1) (B := some ⟨nb, 0, none⟩) rfl rfl (.inr ⟨_, rfl, hBn⟩) rfl rfl (by decide) rfl
  refine ⟨_, _, ok, fun A2 c5 m6 hr2 => ?_⟩
  replace h := (hR _ _ _ hr2).drop 0
  clear ok hR hr2 hBn
  (conv => whnf)
  refine ⟨_, h.cell 1 (i := 0) rfl rfl, ?_⟩
  (conv => whnf)
  refine brk_false (by rw [hop]; rfl) ?_
  (conv => whnf)
  have hw : wordsI i ((usesOf i.op).getD noUse) = [nameL i.op] ++ [Lib.itoa i.n] := by
    unfold wordsI
    rw [hop]
    rfl
  refine FCalls.mono (join_c (xs := [nameL i.op] ++ [Lib.itoa i.n]) (sep := [32]) (sl_rd (h.asn 0 rfl)) (h.asn 0 rfl).2.1 (by simp) (by rw [← hw]; omega) (sl_spot (h.asn 0 rfl))) ?_
  rintro v m1 ⟨rfl, rfl⟩
  rw [hw] at hl
  (conv => whnf)
  refine ⟨sz_nl hl, ?_⟩
  (conv => whnf)
  exact ⟨m, h.kept 2 rfl, by unfold lineL; rw [hw]; exact app_nl _, rfl⟩
theorem line_10 {m : Mem} (hg : Gl m) {x y n mn mx s0 s1 s2 s3 : Int} (hi : InsOk ⟨10, x, y, n, mn, mx, s0, s1, s2, s3⟩) : FCalls Tryz.prog 40 [.agg (Ins.cells ⟨10, x, y, n, mn, mx, s0, s1, s2, s3⟩).toArray] m fun v m' => v = str (lineL ⟨10, x, y, n, mn, mx, s0, s1, s2, s3⟩) ∧ m' = m := by
  obtain ⟨i, hi0⟩ : ∃ i, i = Ins.mk 10 x y n mn mx s0 s1 s2 s3 := ⟨_, rfl⟩
  have hop : i.op = 10 := by rw [hi0]
  have hl := lineL_len hi
  rw [← hi0] at hi hl ⊢
  refine FCalls.less ?_
  refine fcalls_of_vc (T := tbl) (B := bodies) (pr := [99999, 4]) (DR := dr40) (args := [.v (.agg i.cells.toArray)]) tbl_ok bodies_ok mixed Tryz.func40 rfl (by decide +kernel) (by simp [Tryz.f40]) rfl ?_
  (conv => whnf)
  intro b5 m2 hb he
  have h := (Sep.init m).new' (l := i.cells) hb (he.trans rfl)
  clear hb he
  (conv => whnf)
  refine ⟨_, h.cell 0 (i := 0) rfl rfl, ?_⟩
  (conv => whnf)
  refine FCalls.mono (name_c (by omega) (by omega)) ?_
  rintro v m1 ⟨rfl, rfl⟩
  (conv => whnf)
  intro nb m3 hb he
  replace h := h.new' (l := [str (nameL i.op)]) hb (he.trans rfl)
  clear hb he
  replace h := h.slOf 0 (n := 1) (c := 1) (sz := 1) (vs := [str (nameL i.op)]) rfl rfl (Nat.le_refl _) (by simp) (fun k v hk => hk)
  have ka : ∀ (M : Mem) {A : Option Addr} {n c : Nat} {vs : List Value}, Mv.Sep [sl A n c 1 vs, pt b5 i.cells, kp m] M → ∀ j, j < 4 → M.cell (((⟨b5, 0, none⟩ : Addr).add 6).add j) = some (.int .u64 ([i.s0, i.s1, i.s2, i.s3].getD j 0)) := fun M A n c vs h j hj => by
    have : j = 0 ∨ j = 1 ∨ j = 2 ∨ j = 3 := by omega
    rcases this with rfl | rfl | rfl | rfl
    · exact h.cell 1 (i := 6) rfl rfl
    · exact h.cell 1 (i := 7) rfl rfl
    · exact h.cell 1 (i := 8) rfl rfl
    · exact h.cell 1 (i := 9) rfl rfl
  replace h : Mv.Sep [sl (some ⟨nb, 0, none⟩) 1 1 1 [str (nameL i.op)], pt b5 i.cells, kp m] m3 := h
  (conv => whnf)
  refine ⟨_, h.cell 1 (i := 0) rfl rfl, ?_⟩
  (conv => whnf)
  refine FCalls.mono (ofk (op := i.op) (u := ⟨false, true, true, false, true, false⟩) (by rw [hop]; rfl)) ?_
  rintro v m1 ⟨rfl, rfl⟩
  (conv => whnf)
  refine ⟨_, h.cell 1 (i := 3) rfl rfl, ?_⟩
  (conv => whnf)
  refine FCalls.mono (itoa_c (hg.more (h.kept 2 rfl)) hi.n.1 hi.n.2) ?_
  rintro v m1 ⟨rfl, rfl⟩
  (conv => whnf)
  intro nb m5 hb he
  replace h := h.new' (l := [str (Lib.itoa i.n)]) hb (he.trans rfl)
  have hBn : m5.holds ⟨nb, 0, none⟩ [str (Lib.itoa i.n)] := (h.blk 0 rfl).holds fun k v hk => by rw [Nat.zero_add]; exact hk
  clear hb he
  (conv => whnf)
  obtain ⟨ok, hR⟩ := h.app 1 (T := tbl) (e := 9) (news := [str (Lib.itoa i.n)]) (k := 1) (B := some ⟨nb, 0, none⟩) rfl rfl (.inr ⟨_, rfl, hBn⟩) rfl rfl (by decide) rfl
  refine ⟨_, _, ok, fun A2 c5 m6 hr2 => ?_⟩
  replace h := (hR _ _ _ hr2).drop 0
  clear ok hR hr2 hBn
  (conv => whnf)
  refine ⟨_, h.cell 1 (i := 0) rfl rfl, ?_⟩
  (conv => whnf)
  refine brk_true (by rw [hop]; rfl) ?_
  (conv => whnf)
  refine ⟨_, h.cell 1 (i := 4) rfl rfl, ?_⟩
  (conv => whnf)
  refine ⟨_, itoa_c (hg.more (h.kept 2 rfl)) hi.mn.1 hi.mn.2, ?_⟩
  (conv => whnf)
  refine ⟨_, h.cell 1 (i := 5) rfl rfl, ?_⟩
  (conv => whnf)
  refine ⟨_, bound_c (hg.more (h.kept 2 rfl)) hi.mx.1 hi.mx.2, ?_⟩
  (conv => whnf)
  intro nb2 m5 hb he
  replace h := h.new' (l := [str (Lib.itoa i.mn), str (boundL i.mx)]) hb (he.trans rfl)
  have hBn : m5.holds ⟨nb2, 0, none⟩ [str (Lib.itoa i.mn), str (boundL i.mx)] := (h.blk 0 rfl).holds fun k v hk => by rw [Nat.zero_add]; exact hk
  clear hb he
  (conv => whnf)
  obtain ⟨ok, hR⟩ := h.app 1 (T := tbl) (e := 9) (news := [str (Lib.itoa i.mn), str (boundL i.mx)]) (k := 2) (B := some ⟨nb2, 0, none⟩) rfl rfl (.inr ⟨_, rfl, hBn⟩) rfl rfl (by decide) rfl
  refine ⟨_, _, ok, fun A2 c5 m6 hr2 => ?_⟩
  replace h := (hR _ _ _ hr2).drop 0
  clear ok hR hr2 hBn
  (conv => whnf)
  refine ⟨_, h.cell 1 (i := 1) rfl rfl, ?_⟩
  (conv => whnf)
  refine FCalls.mono (itoa_c (hg.more (h.kept 2 rfl)) hi.x.1 hi.x.2) ?_
  rintro v m1 ⟨rfl, rfl⟩
  (conv => whnf)
  intro nb m5 hb he
  replace h := h.new' (l := [str (Lib.itoa i.x)]) hb (he.trans rfl)
  have hBn : m5.holds ⟨nb, 0, none⟩ [str (Lib.itoa i.x)] := (h.blk 0 rfl).holds fun k v hk => by rw [Nat.zero_add]; exact hk
  clear hb he
  (conv => whnf)
  obtain ⟨ok, hR⟩ := h.app 1 (T := tbl) (e := 9) (news := [str (Lib.itoa i.x)]) (k := 1) (B := some ⟨nb, 0, none⟩) rfl rfl (.inr ⟨_, rfl, hBn⟩) rfl rfl (by decide) rfl
  refine ⟨_, _, ok, fun A2 c5 m6 hr2 => ?_⟩
  replace h := (hR _ _ _ hr2).drop 0
  clear ok hR hr2 hBn
  (conv => whnf)
  refine ⟨_, h.cell 1 (i := 2) rfl rfl, ?_⟩
  (conv => whnf)
  refine FCalls.mono (itoa_c (hg.more (h.kept 2 rfl)) hi.y.1 hi.y.2) ?_
  rintro v m1 ⟨rfl, rfl⟩
  (conv => whnf)
  intro nb m5 hb he
  replace h := h.new' (l := [str (Lib.itoa i.y)]) hb (he.trans rfl)
  have hBn : m5.holds ⟨nb, 0, none⟩ [str (Lib.itoa i.y)] := (h.blk 0 rfl).holds fun k v hk => by rw [Nat.zero_add]; exact hk
  clear hb he
  (conv => whnf)
  obtain ⟨ok, hR⟩ := h.app 1 (T := tbl) (e := 9) (news := [str (Lib.itoa i.y)]) (k := 1) (B := some ⟨nb, 0, none⟩) rfl rfl (.inr ⟨_, rfl, hBn⟩) rfl rfl (by decide) rfl
  refine ⟨_, _, ok, fun A2 c5 m6 hr2 => ?_⟩
  replace h := (hR _ _ _ hr2).drop 0
  clear ok hR hr2 hBn
  (conv => whnf)
  have hw : wordsI i ((usesOf i.op).getD noUse) = [nameL i.op] ++ [Lib.itoa i.n, Lib.itoa i.mn, boundL i.mx, Lib.itoa i.x, Lib.itoa i.y] := by
    unfold wordsI
    rw [hop]
    rfl
  refine FCalls.mono (join_c (xs := [nameL i.op] ++ [Lib.itoa i.n, Lib.itoa i.mn, boundL i.mx, Lib.itoa i.x, Lib.itoa i.y]) (sep := [32]) (sl_rd (h.asn 0 rfl)) (h.asn 0 rfl).2.1 (by simp) (by rw [← hw]; omega) (sl_spot (h.asn 0 rfl))) ?_
  rintro v m1 ⟨rfl, rfl⟩
  rw [hw] at hl
  (conv => whnf)
  refine ⟨sz_nl hl, ?_⟩
  (conv => whnf)
  exact ⟨m, h.kept 2 rfl, by unfold lineL; rw [hw]; exact app_nl _, rfl⟩
theorem line_c {m : Mem} (hg : Gl m) {i : Ins} (hi : InsOk i) (h0 : 1 ≤ i.op) (h1 : i.op ≤ 11) : FCalls Tryz.prog 40 [.agg i.cells.toArray] m fun v m' => v = str (lineL i) ∧ m' = m := by
  obtain ⟨op, x, y, n, mn, mx, s0, s1, s2, s3⟩ := i
  have : op = 1 ∨ op = 2 ∨ op = 3 ∨ op = 4 ∨ op = 5 ∨ op = 6 ∨ op = 7 ∨ op = 8 ∨ op = 9 ∨ op = 10 ∨ op = 11 := by simp only at h0 h1; omega
  rcases this with rfl | rfl | rfl | rfl | rfl | rfl | rfl | rfl | rfl | rfl | rfl
  · exact line_1 hg hi
  · exact line_2 hg hi
  · exact line_3 hg hi
  · exact line_4 hg hi
  · exact line_5 hg hi
  · exact line_6 hg hi
  · exact line_7 hg hi
  · exact line_8 hg hi
  · exact line_9 hg hi
  · exact line_10 hg hi
  · exact line_11 hg hi
end Go.Proofs.YtfjbgmeimipibaaGreatDoor
/- Code: the builder of texts. -/
namespace Go.Proofs.YtfjbgmeimipibaaGreatDoor
open Go Go.Mv
set_option maxHeartbeats 2000000
set_option maxRecDepth 10000
set_option linter.unusedVariables false
set_option linter.unusedSimpArgs false
theorem oneB : ∀ {bs : List UInt8}, oneCells (byteVals bs) = true
  | [] => rfl
  | _ :: r => oneB (bs := r)
/-- A block's kind of element. -/
def typ (m : Mem) (b e : Nat) : Prop := ∃ cs, m b = some (.cells cs e (0, 0))
theorem typ_setCell {m : Mem} {b e : Nat} {a : Addr} {v : Value} (h : typ m b e) : typ (m.setCell a v) b e := by
  obtain ⟨cs, h⟩ := h
  unfold typ Mem.setCell
  by_cases hb : b = a.block
  · rw [if_pos hb, h]
    exact ⟨_, rfl⟩
  · rw [if_neg hb]
    exact ⟨_, h⟩
theorem typ_setCells {b e : Nat} : ∀ (vs : List Value) {m : Mem} {a : Addr} {j : Nat}, typ m b e → typ (m.setCells a j vs) b e
  | [], _, _, _, h => h
  | v :: vs, m, a, j, h => typ_setCells vs (typ_setCell h)
theorem typ_set {m : Mem} {b e c : Nat} {o : Obj} (h : typ m b e) (hc : m c = none) : typ (m.set c o) b e := by
  obtain ⟨cs, h⟩ := h
  unfold typ
  refine ⟨cs, ?_⟩
  rw [Mem.set_ne (by rintro rfl; rw [hc] at h; cases h)]
  exact h
theorem typ_more {m m' : Mem} {b e : Nat} (h : typ m b e) (hm : m.le m') : typ m' b e := by
  obtain ⟨cs, h⟩ := h
  exact ⟨cs, hm _ _ h⟩
/-- Bytes in a block of bytes of their own, from its beginning. -/
def row5 (A : Option Addr) (m : Mem) : Prop := A = none ∨ ∃ b, A = some ⟨b, 0, none⟩ ∧ typ m b 5
def br (A : Option Addr) (n c : Nat) (bs : List UInt8) : Asn := fun m => sl A n c 1 (byteVals bs) m ∧ row5 A m
theorem row5_more {A : Option Addr} {m m' : Mem} (h : row5 A m) (hm : m.le m') : row5 A m' := h.imp id fun ⟨b, h1, h2⟩ => ⟨b, h1, typ_more h2 hm⟩
theorem row5_set {A : Option Addr} {m : Mem} {c : Nat} {o : Obj} (h : row5 A m) (hc : m c = none) : row5 A (m.set c o) := h.imp id fun ⟨b, h1, h2⟩ => ⟨b, h1, typ_set h2 hc⟩
theorem row5_app {m m' : Mem} {A A' : Option Addr} {n c k c' : Nat} {news vs : List Value} (h : row5 A m) (hr : AppR tbl 5 m A n c k news vs A' c' m') : row5 A' m' := by
  rcases hr with ⟨_, rfl, rfl, h1 | ⟨p, hp, h1⟩⟩ | ⟨_, b, _, hb, h1, h2⟩
  · exact .inl h1.1
  · subst h1
    exact h.imp id fun ⟨b, h1, h2⟩ => ⟨b, h1, typ_setCells _ h2⟩
  · subst h2
    exact .inr ⟨b, h1, _, by unfold Mem.set; rw [if_pos rfl]⟩
theorem typ_back {m m1 : Mem} {b e : Nat} (h : typ m b e) (hm : m1.le m) {cs : Array Value} {e' : Nat} {z : Nat × Nat} (h1 : m1 b = some (.cells cs e' z)) : e' = e ∧ z = (0, 0) := by
  obtain ⟨c2, h⟩ := h
  have := (hm _ _ h1).symm.trans h
  simp only [Option.some.injEq, Obj.cells.injEq] at this
  exact ⟨this.2.1, this.2.2⟩
theorem br_of {m m1 : Mem} {A : Option Addr} {n c : Nat} {bs : List UInt8} (h : row5 A m) (hm : m1.le m) (h1 : sl A n c 1 (byteVals bs) m1) : br A n c bs m1 := by
  refine ⟨h1, ?_⟩
  obtain ⟨_, _, h3⟩ := h1
  rcases h3 with ⟨rfl, _⟩ | ⟨b, o, l, e, rfl, k2, _⟩
  · exact .inl rfl
  · rcases h with h | ⟨b2, h, h4⟩
    · cases h
    · cases h
      obtain ⟨rfl, _⟩ := typ_back h4 hm k2
      exact .inr ⟨_, rfl, _, k2⟩
theorem br_nil {m : Mem} : br none 0 0 [] m := ⟨sl_nil, .inl rfl⟩
theorem typ_app {m m' : Mem} {A A' : Option Addr} {n c k c' b e : Nat} {news vs : List Value} (h : typ m b e) (hr : AppR tbl 5 m A n c k news vs A' c' m') : typ m' b e := by
  rcases hr with ⟨_, rfl, rfl, h1 | ⟨p, hp, h1⟩⟩ | ⟨_, b2, _, hb, h1, h2⟩
  · rw [h1.2]; exact h
  · subst h1; exact typ_setCells _ h
  · subst h2; exact typ_set h hb
attribute [local irreducible] FCalls IntKind.wrap bits Mem.set Mem.setCell Mem.setCells YCalls RunP NextP
/-- A block of known kind. -/
def pk (b e : Nat) (l : List Value) : Asn := fun m => m b = some (.cells l.toArray e (0, 0))
theorem pk_pt {b e : Nat} {l : List Value} {m : Mem} (h : pk b e l m) : pt b l m := ⟨e, h⟩
theorem pk_typ {b e : Nat} {l : List Value} {m : Mem} (h : pk b e l m) : typ m b e := ⟨_, h⟩
theorem pk_of {m m1 : Mem} {b e : Nat} {l : List Value} (h : typ m b e) (hm : m1.le m) (h1 : pt b l m1) : pk b e l m1 := by
  obtain ⟨e', h1⟩ := h1
  obtain ⟨rfl, _⟩ := typ_back h hm h1
  exact h1
theorem pk_shape {b e : Nat} {l : List Value} {m : Mem} (h : pk b e l m) {w : World} (hw : m.sub w) : w.shape? b = some (e, l.length) := by
  have := hw _ _ h
  simp [World.shape?, this]
theorem pk_sep {b e : Nat} {l : List Value} {m : Mem} (h : pk b e l m) : Sep [pt b l] m := ⟨m, Mem.empty, fun _ => .inr rfl, Mem.le_refl _, fun _ _ h => (by cases h), pk_pt h, trivial⟩
theorem u80 : Tryz.prog.underlying 80 = some (.pointer 82) := by kernel_rfl
theorem u120 : Tryz.prog.underlying 120 = some .unsafePointer := by kernel_rfl
theorem i82 : ∃ j, Tryz.prog.info? 82 = some j ∧ j.size ≠ 0 := by
  have : (match Tryz.prog.info? 82 with | some j => j.size != 0 | none => false) = true := by kernel_rfl
  cases h : Tryz.prog.info? 82 with
  | none => rw [h] at this; cases this
  | some j => rw [h] at this; exact ⟨j, rfl, by simpa using this⟩
def self (p : Nat) (q : Option Addr) : Prop := q = none ∨ q = some ⟨p, 0, none⟩
theorem check_c {m : Mem} {p : Nat} {q : Option Addr} {x : Value} (hq : self p q) (h0 : pk p 82 [.pointer q, x] m) :
    FCalls Tryz.prog 55 [.pointer (some ⟨p, 0, none⟩)] m fun v m' => pk p 82 [.pointer (some ⟨p, 0, none⟩), x] m' := by
  have h := pk_sep h0
  obtain ⟨j, hj1, hj2⟩ := i82
  refine fcalls_of_vc (T := tbl) (B := bodies) (pr := [99999]) (DR := dr55) (args := [.v (.pointer (some ⟨p, 0, none⟩))]) tbl_ok bodies_ok mixed Tryz.func55 rfl (by decide +kernel) (by simp [Tryz.f55]) rfl ?_
  (conv => whnf)
  rcases hq with rfl | rfl
  · refine ⟨_, h.cell 0 (i := 0) rfl rfl, ?_⟩
    (conv => whnf)
    refine RunP.pure (v := .pointer (some ⟨p, 0, none⟩)) (fun w hw => Lib.run_to_unsafe w (t := 82) ⟨p, 0, none⟩ u80 u120 hj1 hj2 (pk_shape h0 hw) (by simp)) ?_
    (conv => whnf)
    refine NextP.pure (v := .pointer (some ⟨p, 0, none⟩)) (fun w hw => rfl) ?_
    (conv => whnf)
    refine RunP.pure (v := .pointer (some ⟨p, 0, none⟩)) (fun w hw => Lib.run_from_unsafe w (u := 82) ⟨p, 0, none⟩ u120 u80 hj1 (pk_shape h0 hw) (by kernel_rfl)) ?_
    (conv => whnf)
    refine ⟨h.room 0 (i := 0) rfl rfl, ?_⟩
    (conv => whnf)
    intro m2 he
    have h2 := h.put' 0 he rfl
    (conv => whnf)
    exact pk_of (by rw [he]; exact typ_setCell (pk_typ h0)) (Mem.le_refl _) (h2.blk 0 rfl)
  · refine ⟨_, h.cell 0 (i := 0) rfl rfl, ?_⟩
    (conv => whnf)
    refine ⟨_, h.cell 0 (i := 0) rfl rfl, ?_⟩
    (conv => whnf)
    refine ⟨rfl, ?_⟩
    (conv => whnf)
    exact h0
/-- A builder, with what was written. -/
def bld (p : Nat) (bs : List UInt8) : Asn := fun m => ∃ q A c, self p q ∧ Sep [pk p 82 [.pointer q, .slice A bs.length c], br A bs.length c bs] m
theorem write_c {m : Mem} {p : Nat} {bs : List UInt8} {s : ByteArray} (h0 : bld p bs m) (hn : bs.length + s.size < 2 ^ 44) :
    FCalls Tryz.prog 38 [.pointer (some ⟨p, 0, none⟩), .string s] m fun v m' => bld p (bs ++ s.data.toList) m' := by
  obtain ⟨q, A, c, hq, h⟩ := h0
  refine fcalls_of_vc (T := tbl) (B := bodies) (pr := [99999]) (DR := dr38) (args := [.v (.pointer (some ⟨p, 0, none⟩)), .v (.string s)]) tbl_ok bodies_ok mixed Tryz.func38 rfl (by decide +kernel) (by simp [Tryz.f38]) rfl ?_
  (conv => whnf)
  refine FCalls.mono (h.call 0 rfl fun m1 hm => check_c hq hm) ?_
  rintro v m2 ⟨m1, h1, hB⟩
  replace h := hB.one h1
  clear hB h1
  (conv => whnf)
  have ht : typ m2 p 82 := by obtain ⟨m3, hm3, h3⟩ := h.get 0 rfl; exact typ_more (pk_typ h3) hm3
  have hr : row5 A m2 := by obtain ⟨m3, hm3, h3⟩ := h.get 1 rfl; exact row5_more h3.2 hm3
  replace h := (h.turn 0 rfl fun _ _ h => pk_pt h).turn 1 rfl fun _ _ h => h.1
  refine ⟨_, _, _, h.cell 0 (i := 1) rfl rfl, ?_⟩
  (conv => whnf)
  obtain ⟨ok, hR⟩ := h.appS 1 (T := tbl) (e := 5) (news := byteVals s.data.toList) (k := s.size) rfl (by rw [show (tbl.at 5).size = 1 from rfl, Nat.mul_one]; simp [byteVals]) oneB rfl (by show 2 * (_ + _) * 1 ≤ 2 ^ 48; omega) rfl
  refine append_str tbl_ok (e := 5) rfl rfl rfl ok fun A' c' m3 hr3 => ?_
  have h3 := hR _ _ _ hr3
  have ht3 := typ_app ht hr3
  have hr4 := row5_app hr hr3
  (conv => whnf)
  refine ⟨h3.room 0 (i := 1) rfl rfl, ?_⟩
  (conv => whnf)
  intro m4 he
  have h4 := h3.put' 0 he rfl
  have ht4 : typ m4 p 82 := by rw [he]; exact typ_setCell ht3
  have hr5 : row5 A' m4 := by rw [he]; exact hr4.imp id fun ⟨b, g1, g2⟩ => ⟨b, g1, typ_setCell g2⟩
  (conv => whnf)
  have e1 : (bs ++ s.data.toList).length = bs.length + s.size := by rw [List.length_append]; rfl
  have e2 : byteVals (bs ++ s.data.toList) = byteVals bs ++ byteVals s.data.toList := by simp [byteVals]
  refine ⟨some ⟨p, 0, none⟩, A', c', .inr rfl, ?_⟩
  rw [e1]
  exact (h4.turn 0 rfl fun _ hm h => pk_of ht4 hm h).turn 1 rfl fun _ hm h => br_of hr5 hm (by rw [e2]; exact h)
theorem u110 : Tryz.prog.underlying 110 = some (.pointer 5) := by kernel_rfl
theorem c5 : Tryz.prog.cellsOf 5 = 1 := by kernel_rfl
theorem br_block {m : Mem} {A : Option Addr} {n c : Nat} {bs : List UInt8} (h : br A n c bs m) : ∀ a, A = some a → ∃ cc e2 z, m a.block = some (.cells cc e2 z) := by
  rintro a rfl
  rcases h.2 with h | ⟨b, h, cs, h2⟩
  · cases h
  · cases h; exact ⟨cs, 5, _, h2⟩
theorem br_read {m : Mem} {A : Option Addr} {n c : Nat} {bs : List UInt8} (h : br A n c bs m) (hb : bs ≠ []) : c ≠ 0 ∧ ∃ g cc z, A = some ⟨g, 0, none⟩ ∧ m g = some (.cells cc 5 z) ∧ bs.length ≤ cc.size ∧ ∀ (j : Nat) (x : UInt8), bs[j]? = some x → cc[j]? = some (.int .u8 x.toNat) := by
  obtain ⟨⟨h1, h2, h3⟩, h4⟩ := h
  have hlen : bs.length = n := by simpa [byteVals] using h1
  have hpos : 0 < bs.length := List.length_pos_iff.2 hb
  refine ⟨by omega, ?_⟩
  rcases h3 with ⟨_, rfl⟩ | ⟨b, o, l, e, rfl, k2, k3, k4⟩
  · omega
  rcases h4 with h4 | ⟨b2, h4, cs, h5⟩
  · cases h4
  · cases h4
    rw [k2] at h5
    simp only [Option.some.injEq, Obj.cells.injEq] at h5
    obtain ⟨_, rfl, _⟩ := h5
    refine ⟨b, l.toArray, _, rfl, k2, by simp; omega, fun j x hx => ?_⟩
    have := k4 j (.int .u8 x.toNat) (by simp [byteVals, hx])
    rw [Nat.zero_add] at this
    simpa using this
theorem bstr_c {m : Mem} {p : Nat} {bs : List UInt8} (h0 : bld p bs m) (hn : bs.length < 2 ^ 44) :
    FCalls Tryz.prog 41 [.pointer (some ⟨p, 0, none⟩)] m fun v m' => v = .string ⟨bs.toArray⟩ := by
  obtain ⟨q, A, c, hq, h⟩ := h0
  have h5 := h.turn 0 rfl fun _ _ h => pk_pt h
  have hbr : br A bs.length c bs m := by
    obtain ⟨m1, g1, g2⟩ := h.get 1 rfl
    exact ⟨sl_more g2.1 g1, row5_more g2.2 g1⟩
  have sd : ∀ {K : Value → Mem → Prop}, (∀ q, (bs ≠ [] → q = A) → K (.pointer q) m) → NextP Tryz.prog (builtin .unsafeSliceData #[73] 110 (Array.map constB #[Operand.tmp 6]) #[.slice A bs.length c]) m K := fun {K} hK =>
    slicedata u110 (br_block hbr) fun q hq => hK q fun hb => hq (br_read hbr hb).1
  have us : ∀ {K : Value → Mem → Prop} (q : Option Addr), (bs ≠ [] → q = A) → (∀ m2, K (.string ⟨bs.toArray⟩) m2) → NextP Tryz.prog (builtin .unsafeString #[110, 3] 9 (Array.map constB #[Operand.tmp 7, Operand.tmp 12]) #[.pointer q, .int .i64 ((bs.length : Nat) : Int)]) m K := fun {K} q hq hK =>
    ustring u110 c5 (by omega) (fun hb => by rw [hq hb]; exact (br_read hbr hb).2) hK
  refine fcalls_of_vc (T := tbl) (B := bodies) (pr := [99999]) (DR := dr41) (args := [.v (.pointer (some ⟨p, 0, none⟩))]) tbl_ok bodies_ok mixed Tryz.func41 rfl (by decide +kernel) (by simp [Tryz.f41]) rfl ?_
  (conv => whnf)
  refine ⟨_, _, _, h5.cell 0 (i := 1) rfl rfl, ?_⟩
  (conv => whnf)
  refine ⟨?_, ?_⟩
  · (conv => whnf)
    refine sd fun q hq => ?_
    (conv => whnf)
    refine ⟨_, _, _, h5.cell 0 (i := 1) rfl rfl, ?_⟩
    (conv => whnf)
    refine us q hq fun m2 => ?_
    (conv => whnf)
    rfl
  · (conv => whnf)
    refine ⟨?_, trivial⟩
    (conv => whnf)
    refine ⟨_, _, _, h5.cell 0 (i := 1) rfl rfl, ?_⟩
    (conv => whnf)
    refine ⟨?_, ?_⟩
    · (conv => whnf)
      refine sd fun q hq => ?_
      (conv => whnf)
      refine us q hq fun m2 => ?_
      (conv => whnf)
      rfl
    · (conv => whnf)
      refine ⟨?_, trivial⟩
      (conv => whnf)
      refine sd fun q hq => ?_
      (conv => whnf)
      refine us q hq fun m2 => ?_
      (conv => whnf)
      rfl
end Go.Proofs.YtfjbgmeimipibaaGreatDoor
/- Code: Text. -/
namespace Go.Proofs.YtfjbgmeimipibaaGreatDoor
open Go Go.Mv
set_option maxHeartbeats 2000000
set_option maxRecDepth 10000
set_option linter.unusedVariables false
set_option linter.unusedSimpArgs false
def progL : List UInt8 := [112, 114, 111, 103, 114, 97, 109, 32]
def foldL : List UInt8 := [32, 102, 111, 108, 100]
/-- The first line, without its end. -/
def headL (q : Prg) : List UInt8 := progL ++ Lib.itoa q.groups ++ [32] ++ Lib.itoa q.counters ++ (if q.fold then foldL else [])
def textL (q : Prg) : List UInt8 := headL q ++ [10] ++ q.ins.flatMap lineL
theorem lines_len : ∀ {l : List Ins}, (∀ i ∈ l, InsOk i) → (l.flatMap lineL).length ≤ 10760 * l.length
  | [], _ => by simp
  | i :: r, h => by
    have ih := lines_len (l := r) fun j hj => h j (List.mem_cons_of_mem _ hj)
    have h1 := lineL_len (h i (by simp))
    rw [List.flatMap_cons, List.length_append, List.length_cons]
    have : (lineL i).length ≤ 10760 := by unfold lineL; rw [List.length_append]; simp; omega
    omega
theorem right_ops {q : Prg} (h : (rightF q).1 = 0) : q.ins.length ≤ 40000 ∧ (0 ≤ q.groups ∧ q.groups ≤ 30) ∧ (0 ≤ q.counters ∧ q.counters ≤ 40) ∧ ∀ (k : Nat) i, q.ins[k]? = some i → fineF q k = true := by
  unfold rightF at h
  split at h
  · cases h
  split at h
  · cases h
  split at h
  · cases h
  split at h
  · cases h
  · rename_i h1 h2 h3 h4
    refine ⟨by omega, by omega, by omega, fun k i hi => ?_⟩
    unfold wrongF at h4
    rw [List.find?_range_eq_none] at h4
    simpa using h4 k (List.getElem?_eq_some_iff.1 hi).1
theorem fine_op {q : Prg} {k : Nat} {i : Ins} (hi : q.ins[k]? = some i) (h : fineF q k = true) : 1 ≤ i.op ∧ i.op ≤ 11 := by
  unfold fineF at h
  rw [hi] at h
  simp only at h
  have := usesOf_ways i.op
  have hn : usesOf i.op ≠ none := by
    intro he
    rw [he] at h
    cases h
  rcases this with h | h | h | h | h | h | h | h | h | h | h | h
  all_goals first | omega | exact absurd h hn
theorem app4 (a b : List UInt8) : (((⟨#[112, 114, 111, 103, 114, 97, 109, 32]⟩ : ByteArray) ++ ⟨a.toArray⟩) ++ ⟨#[32]⟩) ++ ⟨b.toArray⟩ = ⟨(progL ++ a ++ [32] ++ b).toArray⟩ := by
  rw [show (⟨#[112, 114, 111, 103, 114, 97, 109, 32]⟩ : ByteArray) = ⟨progL.toArray⟩ from rfl, show (⟨#[32]⟩ : ByteArray) = ⟨([32] : List UInt8).toArray⟩ from rfl, str_app, str_app, str_app]
theorem bld_new {L : List Asn} {p : Nat} {m : Mem} (h : Sep (ob p (Obj.cells (tbl.at 82).zero.list.toArray 82) :: L) m) : Sep (bld p [] :: L) m :=
  (Sep.group (L := [_, _]) ((Sep.free (A := br none 0 0 []) h br_nil).move 1 rfl)).turn 0 rfl fun m1 _ h => ⟨none, none, 0, .inl rfl, h⟩
theorem bsz (l : List UInt8) : (⟨l.toArray⟩ : ByteArray).size = l.length := by simp [ByteArray.size]
theorem szc {x y : ByteArray} (h : x.size + y.size ≤ 1000) : ((x.size + y.size : Nat) : Int) ≤ IntKind.i64.max := by
  show ((x.size + y.size : Nat) : Int) ≤ 9223372036854775807
  omega
theorem sz5a {a : List UInt8} (h : a.length ≤ 21) : (((⟨#[112, 114, 111, 103, 114, 97, 109, 32]⟩ : ByteArray).size + (⟨a.toArray⟩ : ByteArray).size : Nat) : Int) ≤ IntKind.i64.max := szc (by
  show (⟨progL.toArray⟩ : ByteArray).size + _ ≤ 1000
  rw [bsz, bsz]
  have : progL.length = 8 := rfl
  omega)
theorem sz5b {a : List UInt8} (h : a.length ≤ 21) : ((((⟨#[112, 114, 111, 103, 114, 97, 109, 32]⟩ : ByteArray) ++ ⟨a.toArray⟩).size + (⟨#[32]⟩ : ByteArray).size : Nat) : Int) ≤ IntKind.i64.max := szc (by
  show ((⟨progL.toArray⟩ : ByteArray) ++ ⟨a.toArray⟩).size + (⟨([32] : List UInt8).toArray⟩ : ByteArray).size ≤ 1000
  rw [ByteArray.size_append, bsz, bsz, bsz]
  have : progL.length = 8 := rfl
  simp
  omega)
theorem sz5c {a b : List UInt8} (h : a.length ≤ 21) (k : b.length ≤ 21) : (((((⟨#[112, 114, 111, 103, 114, 97, 109, 32]⟩ : ByteArray) ++ ⟨a.toArray⟩) ++ ⟨#[32]⟩).size + (⟨b.toArray⟩ : ByteArray).size : Nat) : Int) ≤ IntKind.i64.max := szc (by
  show (((⟨progL.toArray⟩ : ByteArray) ++ ⟨a.toArray⟩) ++ ⟨([32] : List UInt8).toArray⟩).size + (⟨b.toArray⟩ : ByteArray).size ≤ 1000
  rw [ByteArray.size_append, ByteArray.size_append, bsz, bsz, bsz, bsz]
  have : progL.length = 8 := rfl
  simp
  omega)
attribute [local irreducible] textL lineL FCalls PCalls IntKind.wrap bits Mem.set Mem.setCell Mem.setCells YCalls RunP NextP RunU
theorem text_c {m : Mem} {q : Prg} (hg : Gl m) (hq : q.at m) (hI : ∀ i ∈ q.ins, InsOk i) :
    FCalls Tryz.prog 18 [q.val] m fun v m' => v = .tuple #[str (if (rightF q).1 = 0 then textL q else []), .int .i64 (rightF q).1] ∧ m' = m := by
  refine FCalls.less ?_
  refine fcalls_of_vc (T := tbl) (B := bodies) (pr := [99999, 1, 8]) (DR := dr18) (args := [.v q.val]) tbl_ok bodies_ok mixed Tryz.func18 rfl (by decide +kernel) (by simp [Tryz.f18]) rfl ?_
  (conv => whnf)
  refine FCalls.mono (right_c hq) ?_
  rintro v m1 ⟨rfl, rfl⟩
  (conv => whnf)
  refine brk_intro (fun q1 => ?_) (fun q1 => ?_)
  · have c1 : ¬ (rightF q).1 = 0 := by simpa using q1
    rw [if_neg c1]
    (conv => whnf)
    exact ⟨m1, Mem.le_refl _, rfl, rfl⟩
  have c1 : (rightF q).1 = 0 := by simpa using q1
  obtain ⟨hn, hgr, hco, hfine⟩ := right_ops c1
  rw [if_pos c1, c1]
  clear q1
  (conv => whnf)
  intro bb m2 hb he
  have h := bld_new (ob_new (Sep.init m1) hb he)
  clear hb he
  (conv => whnf)
  refine ⟨_, itoa_c (hg.more (h.kept 1 rfl)) (by omega) (by omega), ?_⟩
  (conv => whnf)
  have la := Lib.itoa_length_le q.groups (by omega) (by omega)
  have lb := Lib.itoa_length_le q.counters (by omega) (by omega)
  refine ⟨sz5a la, ?_⟩
  (conv => whnf)
  refine ⟨sz5b la, ?_⟩
  (conv => whnf)
  refine ⟨_, itoa_c (hg.more (h.kept 1 rfl)) (by omega) (by omega), ?_⟩
  (conv => whnf)
  refine ⟨sz5c la lb, ?_⟩
  (conv => whnf)
  refine FCalls.mono (h.call 0 rfl fun m3 hm => write_c hm (by rw [app4, bsz]; simp [progL]; omega)) ?_
  rintro v m3 ⟨m4, h4, hB⟩
  have h5 := hB.one h4
  rw [app4, List.nil_append] at h5
  clear hB h4 h
  replace h : Mv.Sep [bld bb (progL ++ Lib.itoa q.groups ++ [32] ++ Lib.itoa q.counters), kp m1] m3 := h5
  clear h5
  have hhead : headL q = progL ++ Lib.itoa q.groups ++ [32] ++ Lib.itoa q.counters ++ (if q.fold then foldL else []) := rfl
  have hhl : (headL q).length ≤ 100 := by
    rw [hhead]
    have : progL.length = 8 := rfl
    have : foldL.length = 5 := rfl
    simp only [List.length_append]
    split <;> simp <;> omega
  have hhl2 : (headL q ++ [10]).length ≤ 101 := by simp; omega
  (conv => whnf)
  refine brk_intro (fun q2 => ?_) (fun q2 => ?_)
  · have hfold : q.fold = true := q2
    rw [hfold] at hhead
    (conv => whnf)
    refine FCalls.mono (h.call 0 rfl fun m3 hm => write_c hm (by rw [show (⟨#[32, 102, 111, 108, 100]⟩ : ByteArray).size = 5 from rfl]; simp [progL]; omega)) ?_
    rintro v m5 ⟨m4, h4, hB⟩
    replace h : Mv.Sep [bld bb (headL q), kp m1] m5 := by
      have := hB.one h4
      rw [hhead]
      exact this
    clear hB h4
    (conv => whnf)
    refine FCalls.mono (h.call 0 rfl fun m3 hm => write_c hm (by show _ + 1 < 2 ^ 44; omega)) ?_
    rintro v m8 ⟨m4, h4, hB⟩
    replace h := hB.one h4
    clear hB h4
    (conv => whnf)
    refine loop_keep [6, 32, 33] (Nat × Mem) (fun t => [(34, .v (.int .i64 ((t.1 : Nat) : Int)))]) (fun _ => [.cells q.cells]) (fun t => t.2)
      (fun t => t.1 ≤ q.ins.length ∧ Mv.Sep [bld bb (headL q ++ [10] ++ (q.ins.take t.1).flatMap lineL), kp m1] t.2) (fun t => q.ins.length - t.1) (0, m8) ⟨rfl, trivial⟩ rfl rfl ⟨Nat.zero_le _, by simpa using h⟩ ?_
    clear h
    (conv => whnf)
    refine ⟨rfl, ?_⟩
    rintro ⟨k, M⟩ ⟨hk, h⟩
    simp only at hk h
    (conv => whnf)
    refine brk_intro (fun q7 => ?_) (fun q7 => ?_)
    · have c7 : k < q.ins.length := by have : (k : Int) < q.ins.length := (by simpa using q7); omega
      obtain ⟨i, hi⟩ : ∃ i, q.ins[k]? = some i := ⟨_, List.getElem?_eq_getElem c7⟩
      obtain ⟨p, hp, hc⟩ := ins_at (hq.more (h.kept 1 rfl)) hi
      have step1 : IntKind.i64.wrap ((k : Int) + 1) = ((k + 1 : Nat) : Int) := wrap_id (by omega) (by omega)
      have hio := hI i (List.mem_of_getElem? hi)
      obtain ⟨ho0, ho1⟩ := fine_op hi (hfine k i hi)
      have hlt := lines_len (l := q.ins.take k) fun j hj => hI j (List.mem_of_mem_take hj)
      rw [List.length_take] at hlt
      have hll := lineL_len hio
      have hll2 : (lineL i).length ≤ 10760 := by unfold lineL; rw [List.length_append]; simp; omega
      (conv => whnf)
      refine ⟨p, hp, by omega, by omega, ?_⟩
      (conv => whnf)
      refine ⟨_, hc 0 _ rfl, ?_⟩
      (conv => whnf)
      refine ⟨_, hc 1 _ rfl, ?_⟩
      (conv => whnf)
      refine ⟨_, hc 2 _ rfl, ?_⟩
      (conv => whnf)
      refine ⟨_, hc 3 _ rfl, ?_⟩
      (conv => whnf)
      refine ⟨_, hc 4 _ rfl, ?_⟩
      (conv => whnf)
      refine ⟨_, hc 5 _ rfl, ?_⟩
      (conv => whnf)
      refine ⟨_, hc 6 _ rfl, ?_⟩
      (conv => whnf)
      refine ⟨_, hc 7 _ rfl, ?_⟩
      (conv => whnf)
      refine ⟨_, hc 8 _ rfl, ?_⟩
      (conv => whnf)
      refine ⟨_, hc 9 _ rfl, ?_⟩
      (conv => whnf)
      refine FCalls.mono (line_c (hg.more (h.kept 1 rfl)) hio ho0 ho1) ?_
      rintro v m9 ⟨rfl, rfl⟩
      (conv => whnf)
      refine FCalls.mono (h.call 0 rfl fun m3 hm => write_c hm (by rw [bsz, List.length_append]; omega)) ?_
      rintro v m10 ⟨m4, h4, hB⟩
      replace h := hB.one h4
      clear hB h4
      (conv => whnf)
      rw [step1]
      refine ⟨(k + 1, m10), le_more (l := [_]) ⟨rfl, rfl, rfl, rfl, trivial⟩ rfl rfl rfl, ⟨c7, ?_⟩, by simp only; omega⟩
      rw [List.take_add_one, hi]
      simpa [List.append_assoc] using h
    · have c7 : k = q.ins.length := by have : ¬ (k : Int) < q.ins.length := (by simpa using q7); omega
      rw [c7, List.take_length] at h
      have hlt := lines_len hI
      have ht : headL q ++ [10] ++ q.ins.flatMap lineL = textL q := by unfold textL; rfl
      (conv => whnf)
      refine FCalls.mono (h.call 0 rfl fun m3 hm => bstr_c hm (by rw [List.length_append]; omega)) ?_
      rintro v m10 ⟨m4, rfl, hB⟩
      have hk := hB.one (A := fun _ => True) trivial
      rw [ht]
      (conv => whnf)
      exact ⟨m1, hk.kept 1 rfl, rfl, rfl⟩
  · have hfold : q.fold = false := q2
    rw [hfold] at hhead
    replace h : Mv.Sep [bld bb (headL q), kp m1] m3 := by
      rw [hhead]
      simpa using h
    (conv => whnf)
    refine FCalls.mono (h.call 0 rfl fun m3 hm => write_c hm (by show _ + 1 < 2 ^ 44; omega)) ?_
    rintro v m8 ⟨m4, h4, hB⟩
    replace h := hB.one h4
    clear hB h4
    (conv => whnf)
    refine loop_keep [6, 32, 33] (Nat × Mem) (fun t => [(34, .v (.int .i64 ((t.1 : Nat) : Int)))]) (fun _ => [.cells q.cells]) (fun t => t.2)
      (fun t => t.1 ≤ q.ins.length ∧ Mv.Sep [bld bb (headL q ++ [10] ++ (q.ins.take t.1).flatMap lineL), kp m1] t.2) (fun t => q.ins.length - t.1) (0, m8) ⟨rfl, trivial⟩ rfl rfl ⟨Nat.zero_le _, by simpa using h⟩ ?_
    clear h
    (conv => whnf)
    refine ⟨rfl, ?_⟩
    rintro ⟨k, M⟩ ⟨hk, h⟩
    simp only at hk h
    (conv => whnf)
    refine brk_intro (fun q7 => ?_) (fun q7 => ?_)
    · have c7 : k < q.ins.length := by have : (k : Int) < q.ins.length := (by simpa using q7); omega
      obtain ⟨i, hi⟩ : ∃ i, q.ins[k]? = some i := ⟨_, List.getElem?_eq_getElem c7⟩
      obtain ⟨p, hp, hc⟩ := ins_at (hq.more (h.kept 1 rfl)) hi
      have step1 : IntKind.i64.wrap ((k : Int) + 1) = ((k + 1 : Nat) : Int) := wrap_id (by omega) (by omega)
      have hio := hI i (List.mem_of_getElem? hi)
      obtain ⟨ho0, ho1⟩ := fine_op hi (hfine k i hi)
      have hlt := lines_len (l := q.ins.take k) fun j hj => hI j (List.mem_of_mem_take hj)
      rw [List.length_take] at hlt
      have hll := lineL_len hio
      have hll2 : (lineL i).length ≤ 10760 := by unfold lineL; rw [List.length_append]; simp; omega
      (conv => whnf)
      refine ⟨p, hp, by omega, by omega, ?_⟩
      (conv => whnf)
      refine ⟨_, hc 0 _ rfl, ?_⟩
      (conv => whnf)
      refine ⟨_, hc 1 _ rfl, ?_⟩
      (conv => whnf)
      refine ⟨_, hc 2 _ rfl, ?_⟩
      (conv => whnf)
      refine ⟨_, hc 3 _ rfl, ?_⟩
      (conv => whnf)
      refine ⟨_, hc 4 _ rfl, ?_⟩
      (conv => whnf)
      refine ⟨_, hc 5 _ rfl, ?_⟩
      (conv => whnf)
      refine ⟨_, hc 6 _ rfl, ?_⟩
      (conv => whnf)
      refine ⟨_, hc 7 _ rfl, ?_⟩
      (conv => whnf)
      refine ⟨_, hc 8 _ rfl, ?_⟩
      (conv => whnf)
      refine ⟨_, hc 9 _ rfl, ?_⟩
      (conv => whnf)
      refine FCalls.mono (line_c (hg.more (h.kept 1 rfl)) hio ho0 ho1) ?_
      rintro v m9 ⟨rfl, rfl⟩
      (conv => whnf)
      refine FCalls.mono (h.call 0 rfl fun m3 hm => write_c hm (by rw [bsz, List.length_append]; omega)) ?_
      rintro v m10 ⟨m4, h4, hB⟩
      replace h := hB.one h4
      clear hB h4
      (conv => whnf)
      rw [step1]
      refine ⟨(k + 1, m10), le_more (l := [_]) ⟨rfl, rfl, rfl, rfl, trivial⟩ rfl rfl rfl, ⟨c7, ?_⟩, by simp only; omega⟩
      rw [List.take_add_one, hi]
      simpa [List.append_assoc] using h
    · have c7 : k = q.ins.length := by have : ¬ (k : Int) < q.ins.length := (by simpa using q7); omega
      rw [c7, List.take_length] at h
      have hlt := lines_len hI
      have ht : headL q ++ [10] ++ q.ins.flatMap lineL = textL q := by unfold textL; rfl
      (conv => whnf)
      refine FCalls.mono (h.call 0 rfl fun m3 hm => bstr_c hm (by rw [List.length_append]; omega)) ?_
      rintro v m10 ⟨m4, rfl, hB⟩
      have hk := hB.one (A := fun _ => True) trivial
      rw [ht]
      (conv => whnf)
      exact ⟨m1, hk.kept 1 rfl, rfl, rfl⟩
end Go.Proofs.YtfjbgmeimipibaaGreatDoor
/- Code: what stops the reading: must, next, number. -/
namespace Go.Proofs.YtfjbgmeimipibaaGreatDoor
open Go Go.Mv
set_option maxHeartbeats 2000000
set_option maxRecDepth 10000
set_option linter.unusedVariables false
set_option linter.unusedSimpArgs false
def wrongV : Value := .iface 95 (.agg #[])
attribute [local irreducible] FCalls PCalls IntKind.wrap bits Mem.set Mem.setCell Mem.setCells YCalls RunP NextP RunU
theorem mk95 {m : Mem} {K : Value → Mem → Prop} (h : K wrongV m) : RunP Tryz.prog (opRun 20 (.makeInterface 95 (.tmp 4)) [.agg #[]]) m K := RunP.pure (fun w hw => rfl) h
theorem must_c {m : Mem} {ok : Bool} : PCalls Tryz.prog 47 [.bool ok] m (fun v m' => ok = true ∧ m' = m) (fun x m' => x = wrongV ∧ ok = false ∧ m' = m) := by
  refine pcalls_of_vc (T := tbl) (B := bodies) (pr := [99999, 200047]) (DR := dr47) (args := [.v (.bool ok)]) tbl_ok bodies_ok mixed Tryz.func47 rfl (by decide +kernel) (by simp [Tryz.f47]) rfl ?_
  (conv => whnf)
  refine brk_intro (fun q => ?_) (fun q => ?_)
  · have c : ok = false := by simpa using q
    (conv => whnf)
    refine mk95 ?_
    (conv => whnf)
    exact ⟨_, rfl, rfl, c, rfl⟩
  · have c : ok = true := by simpa using q
    (conv => whnf)
    exact ⟨c, rfl⟩
/-- Words that can be read. -/
structure Wd (m : Mem) (A : Option Addr) (ws : List (List UInt8)) (c : Nat) : Prop where
  le : ws.length ≤ c
  rd : Rd m A (ws.map str)
theorem Wd.more {m m' : Mem} {A : Option Addr} {ws : List (List UInt8)} {c : Nat} (h : Wd m A ws c) (hm : m.le m') : Wd m' A ws c := ⟨h.le, h.rd.more hm⟩
/-- Where the words behind the first one stand. -/
def onA (A : Option Addr) (c : Nat) : Option Addr := if c = 1 then A else A.map fun p => p.add 1
theorem Wd.on {m : Mem} {A : Option Addr} {s : List UInt8} {ws : List (List UInt8)} {c : Nat} (h : Wd m A (s :: ws) c) : Wd m (onA A c) ws (c - 1) := by
  have hl := h.le
  refine ⟨by simp at hl; omega, ?_⟩
  rcases h.rd with h0 | ⟨p, rfl, h0⟩
  · simp at h0
  · unfold onA
    split
    · rename_i hc
      subst hc
      have : ws = [] := by cases ws with
        | nil => rfl
        | cons x r => simp at hl
      subst this
      exact .nil
    · refine .inr ⟨_, rfl, fun k v hk => ?_⟩
      rw [add_add]
      exact h0 (1 + k) v (by rw [Nat.add_comm]; simpa using hk)
theorem next_c {m : Mem} {b : Nat} {A : Option Addr} {c : Nat} {ws : List (List UInt8)} (hb : m.cell ⟨b, 0, none⟩ = some (.slice A ws.length c)) (hf : m.fz ⟨b, 0, none⟩ = false) (hw : Wd m A ws c) :
    PCalls Tryz.prog 66 [.pointer (some ⟨b, 0, none⟩)] m (fun v m' => ∃ s r, ws = s :: r ∧ v = str s ∧ m' = m.setCell ⟨b, 0, none⟩ (.slice (onA A c) r.length (c - 1))) (fun x m' => x = wrongV ∧ ws = [] ∧ m' = m) := by
  have hle := hw.le
  refine pcalls_of_vc (T := tbl) (B := bodies) (pr := [99999, 200047]) (DR := dr66) (args := [.v (.pointer (some ⟨b, 0, none⟩))]) tbl_ok bodies_ok mixed Tryz.func66 rfl (by decide +kernel) (by simp [Tryz.f66]) rfl ?_
  (conv => whnf)
  refine ⟨_, _, _, hb, ?_⟩
  (conv => whnf)
  refine PCalls.mono must_c ?_ ?_
  · rintro v m1 ⟨c1, rfl⟩
    have c1 : 0 < ws.length := by have : (0 : Int) < ws.length := (by simpa using c1); omega
    obtain ⟨s, r, rfl⟩ : ∃ s r, ws = s :: r := by
      cases ws with
      | nil => simp at c1
      | cons s r => exact ⟨s, r, rfl⟩
    (conv => whnf)
    refine ⟨_, _, _, hb, ?_⟩
    (conv => whnf)
    obtain ⟨p, hp, hc0⟩ := hw.rd.at (k := 0) (v := str s) rfl
    refine ⟨p, hp, by omega, by omega, ?_⟩
    (conv => whnf)
    refine ⟨_, hc0, ?_⟩
    (conv => whnf)
    refine ⟨_, _, _, hb, ?_⟩
    (conv => whnf)
    refine ⟨by omega, by omega, by omega, ?_⟩
    (conv => whnf)
    refine ⟨⟨⟨_, hb⟩, hf⟩, ?_⟩
    (conv => whnf)
    intro m2 he
    (conv => whnf)
    refine ⟨s, r, rfl, rfl, he.trans ?_⟩
    have e1 : (((s :: r).length : Nat) : Int).toNat - Int.toNat 1 = r.length := by simp
    rw [e1]
    rfl
  · rintro x m1 ⟨rfl, c1, rfl⟩
    have c1 : ws = [] := by
      have : ¬ (0 : Int) < ws.length := (by simpa using c1)
      cases ws with
      | nil => rfl
      | cons s r => simp at this
    (conv => whnf)
    exact ⟨_, rfl, rfl, c1, rfl⟩
end Go.Proofs.YtfjbgmeimipibaaGreatDoor
/- Code: number. -/
namespace Go.Proofs.YtfjbgmeimipibaaGreatDoor
open Go Go.Mv
set_option maxHeartbeats 2000000
set_option maxRecDepth 10000
set_option linter.unusedVariables false
set_option linter.unusedSimpArgs false
def isDig (b : UInt8) : Bool := decide (48 ≤ b.toNat ∧ b.toNat ≤ 57)
def digitsL : List UInt8 := [48, 49, 50, 51, 52, 53, 54, 55, 56, 57]
theorem dig_in : ∀ b : UInt8, digitsL.contains b = isDig b := by
  have h : ∀ n : Fin 256, digitsL.contains (UInt8.ofNat n.val) = isDig (UInt8.ofNat n.val) := by decide
  intro b
  have := h ⟨b.toNat, b.toNat_lt⟩
  simpa using this
theorem drop_nil {p : UInt8 → Bool} : ∀ l : List UInt8, l.dropWhile p = [] ↔ l.all p = true
  | [] => by simp
  | b :: r => by
    rw [List.dropWhile_cons, List.all_cons]
    cases hp : p b with
    | true => simp [drop_nil r]
    | false => simp
theorem trim_nil (l : List UInt8) : Lib.trimS l digitsL = [] ↔ l.all isDig = true := by
  have hf : (fun b => digitsL.contains b) = isDig := funext dig_in
  unfold Lib.trimS Lib.trimLeftS Lib.trimRightS
  simp only [show (digitsL.contains ·) = isDig from hf]
  rw [drop_nil, List.all_reverse]
  constructor
  · intro h
    have h2 : (l.reverse.dropWhile isDig) = [] := by
      cases hd : l.reverse.dropWhile isDig with
      | nil => rfl
      | cons b r =>
        rw [hd] at h
        have h3 : isDig b = false := by
          have := List.head?_dropWhile_not isDig l.reverse
          rw [hd] at this
          simpa using this
        simp [h3] at h
    rw [drop_nil, List.all_reverse] at h2
    exact h2
  · intro h
    have : l.reverse.dropWhile isDig = [] := by rw [drop_nil, List.all_reverse]; exact h
    rw [this]
    rfl
def numOk (l : List UInt8) : Bool := decide (0 < l.length ∧ l.length ≤ 6 ∧ (l = [48] ∨ l.head? ≠ some 48)) && l.all isDig
def decVal (l : List UInt8) : Int := (((Lib.decNat l).getD 0 : Nat) : Int)
def numF (l : List UInt8) : Option Int := if numOk l = true then some (decVal l) else none
theorem dec_some : ∀ (l : List UInt8) (acc : Nat), l.all isDig = true → ∃ n, Lib.decFrom acc l = some n
  | [], acc, _ => ⟨acc, rfl⟩
  | b :: r, acc, h => by
    simp only [List.all_cons, Bool.and_eq_true] at h
    have hb : Lib.digitVal b ≠ none := by
      have h1 : ∀ n : Fin 256, isDig (UInt8.ofNat n.val) = true → (Lib.digitVal (UInt8.ofNat n.val)).isSome = true := by decide
      have h2 := h1 ⟨b.toNat, b.toNat_lt⟩ (by simpa using h.1)
      intro h3
      rw [show UInt8.ofNat b.toNat = b by simp, h3] at h2
      cases h2
    cases hv : Lib.digitVal b with
    | none => exact absurd hv hb
    | some d =>
      obtain ⟨n, hn⟩ := dec_some r (acc * 10 + d) h.2
      exact ⟨n, by rw [Lib.decFrom, hv]; exact hn⟩
theorem num_atoi {l : List UInt8} (h : numOk l = true) : Lib.atoi l = some (decVal l) := by
  unfold numOk at h
  simp only [Bool.and_eq_true, decide_eq_true_eq] at h
  obtain ⟨⟨h0, h6, _⟩, ha⟩ := h
  cases l with
  | nil => simp at h0
  | cons b r =>
    have hb : isDig b = true := by simp only [List.all_cons, Bool.and_eq_true] at ha; exact ha.1
    have hb1 : (b == 45) = false ∧ (b == 43) = false := by
      have h1 : ∀ n : Fin 256, isDig (UInt8.ofNat n.val) = true → (UInt8.ofNat n.val == 45) = false ∧ (UInt8.ofNat n.val == 43) = false := by decide
      have h2 := h1 ⟨b.toNat, b.toNat_lt⟩ (by simpa using hb)
      simpa using h2
    obtain ⟨n, hn⟩ := dec_some (b :: r) 0 ha
    have hd : Lib.decNat (b :: r) = some n := by unfold Lib.decNat; simpa using hn
    unfold Lib.atoi decVal
    rw [hd]
    simp [hb1.1, hb1.2]
    exact ⟨n, hd, rfl⟩
attribute [local irreducible] FCalls PCalls IntKind.wrap bits Mem.set Mem.setCell Mem.setCells YCalls RunP NextP RunU
theorem number_c {m : Mem} {l : List UInt8} (hl : l.length ≤ 4611686018427387904) :
    PCalls Tryz.prog 67 [str l] m (fun v m' => ∃ n, numF l = some n ∧ v = .int .i64 n ∧ m' = m) (fun x m' => x = wrongV ∧ numF l = none ∧ m' = m) := by
  refine pcalls_of_vc (T := tbl) (B := bodies) (pr := [99999, 200047]) (DR := dr67) (args := [.v (str l)]) tbl_ok bodies_ok mixed Tryz.func67 rfl (by decide +kernel) (by simp [Tryz.f67]) rfl ?_
  have hsz : ((⟨l.toArray⟩ : ByteArray).size) = l.length := bsz l
  have bad : numOk l = false → numF l = none := fun h => by unfold numF; rw [h]; rfl
  (conv => whnf)
  refine brk_intro (fun q1 => ?_) (fun q1 => ?_)
  rotate_left
  · have c1 : ¬ 0 < l.length := by have : ¬ (0 : Int) < (⟨l.toArray⟩ : ByteArray).size := (by simpa using q1); omega
    have hb : numOk l = false := by unfold numOk; rw [decide_eq_false (by omega)]; rfl
    (conv => whnf)
    refine PCalls.mono must_c (fun v m1 h => by cases h.1) ?_
    rintro x m1 ⟨rfl, _, rfl⟩
    (conv => whnf)
    exact ⟨_, rfl, rfl, bad hb, rfl⟩
  have c1 : 0 < l.length := by have : (0 : Int) < (⟨l.toArray⟩ : ByteArray).size := (by simpa using q1); omega
  (conv => whnf)
  refine brk_intro (fun q2 => ?_) (fun q2 => ?_)
  rotate_left
  · have c2 : ¬ l.length ≤ 6 := by have : ¬ ((⟨l.toArray⟩ : ByteArray).size : Int) ≤ 6 := (by simpa using q2); omega
    have hb : numOk l = false := by unfold numOk; rw [decide_eq_false (by omega)]; rfl
    (conv => whnf)
    refine PCalls.mono must_c (fun v m1 h => by cases h.1) ?_
    rintro x m1 ⟨rfl, _, rfl⟩
    (conv => whnf)
    exact ⟨_, rfl, rfl, bad hb, rfl⟩
  have c2 : l.length ≤ 6 := by have : ((⟨l.toArray⟩ : ByteArray).size : Int) ≤ 6 := (by simpa using q2); omega
  have tail : ∀ (b : Bool), (b = true ↔ l.all isDig = true) → (l = [48] ∨ l.head? ≠ some 48) → numOk l = b := by
    intro b hb h3
    unfold numOk
    rw [decide_eq_true ⟨c1, c2, h3⟩, Bool.true_and]
    cases b <;> cases h : l.all isDig <;> simp_all
  (conv => whnf)
  refine brk_intro (fun q3 => ?_) (fun q3 => ?_)
  · have c3 : l ≠ [48] := by simpa using q3
    (conv => whnf)
    refine ⟨by omega, by rw [hsz]; omega, ?_⟩
    (conv => whnf)
    have hbt : (bt ⟨l.toArray⟩ 0 != 48) = decide (l.head? ≠ some 48) := by
      cases l with
      | nil => simp at c1
      | cons b r =>
        have h1 : ∀ n : Fin 256, (((((UInt8.ofNat n.val).toNat : Nat) : Int)) != 48) = decide (some (UInt8.ofNat n.val) ≠ some 48) := by decide
        have h2 := h1 ⟨b.toNat, b.toNat_lt⟩
        rw [show UInt8.ofNat b.toNat = b by simp] at h2
        exact h2
    refine brk_intro (fun q4 => ?_) (fun q4 => ?_)
    · have h3 : l = [48] ∨ l.head? ≠ some 48 := .inr (by
        have : (bt ⟨l.toArray⟩ 0 != 48) = true := by simpa using q4
        rw [hbt] at this
        exact of_decide_eq_true this)
      (conv => whnf)
      refine FCalls.mono (trim_c (cs := digitsL) (by omega) (by decide) (by decide)) ?_
      rintro v m1 ⟨rfl, rfl⟩
      (conv => whnf)
      refine PCalls.mono must_c ?_ ?_
      · rintro v m2 ⟨d1, rfl⟩
        have hb : Lib.trimS l digitsL = [] := by simpa using d1
        have hok : numOk l = true := tail true ⟨fun _ => (trim_nil l).1 hb, fun _ => rfl⟩ h3
        (conv => whnf)
        refine FCalls.mono (atoi_c (by omega) (num_atoi hok)) ?_
        rintro v m1 ⟨rfl, rfl⟩
        (conv => whnf)
        exact ⟨_, by unfold numF; rw [if_pos hok], rfl, rfl⟩
      · rintro x m2 ⟨rfl, d1, rfl⟩
        have hb : ¬ Lib.trimS l digitsL = [] := by simpa using d1
        have hok : numOk l = false := tail false ⟨fun h => by (cases h), fun h => absurd ((trim_nil l).2 h) hb⟩ h3
        (conv => whnf)
        exact ⟨_, rfl, rfl, bad hok, rfl⟩
    · have h3 : ¬ (l = [48] ∨ l.head? ≠ some 48) := by
        have : (bt ⟨l.toArray⟩ 0 != 48) = false := by simpa using q4
        rw [hbt] at this
        have := of_decide_eq_false this
        rintro (h | h)
        · exact c3 h
        · exact this h
      have hb : numOk l = false := by unfold numOk; rw [decide_eq_false (fun h => h3 h.2.2)]; rfl
      (conv => whnf)
      refine PCalls.mono must_c ?_ ?_
      · rintro v m1 ⟨d1, rfl⟩
        have : (bt ⟨l.toArray⟩ 0 != 48) = true := by simpa using d1
        have h4 : (bt ⟨l.toArray⟩ 0 != 48) = false := by simpa using q4
        rw [h4] at this
        cases this
      · rintro x m1 ⟨rfl, _, rfl⟩
        (conv => whnf)
        exact ⟨_, rfl, rfl, bad hb, rfl⟩
  · have c3 : l = [48] := by simpa using q3
    have h3 : l = [48] ∨ l.head? ≠ some 48 := .inl c3
    (conv => whnf)
    refine FCalls.mono (trim_c (cs := digitsL) (by omega) (by decide) (by decide)) ?_
    rintro v m1 ⟨rfl, rfl⟩
    (conv => whnf)
    refine PCalls.mono must_c ?_ ?_
    · rintro v m2 ⟨d1, rfl⟩
      have hb : Lib.trimS l digitsL = [] := by simpa using d1
      have hok : numOk l = true := tail true ⟨fun _ => (trim_nil l).1 hb, fun _ => rfl⟩ h3
      (conv => whnf)
      refine FCalls.mono (atoi_c (by omega) (num_atoi hok)) ?_
      rintro v m1 ⟨rfl, rfl⟩
      (conv => whnf)
      exact ⟨_, by unfold numF; rw [if_pos hok], rfl, rfl⟩
    · rintro x m2 ⟨rfl, d1, rfl⟩
      have hb : ¬ Lib.trimS l digitsL = [] := by simpa using d1
      have hok : numOk l = false := tail false ⟨fun h => by (cases h), fun h => absurd ((trim_nil l).2 h) hb⟩ h3
      (conv => whnf)
      exact ⟨_, rfl, rfl, bad hok, rfl⟩
end Go.Proofs.YtfjbgmeimipibaaGreatDoor
/- Code: ParseUint of two digits. -/
namespace Go.Proofs.YtfjbgmeimipibaaGreatDoor
open Go Go.Mv
set_option maxHeartbeats 2000000
set_option maxRecDepth 10000
set_option linter.unusedVariables false
set_option linter.unusedSimpArgs false
def lowN (b : Nat) : Nat := b ||| 32
/-- A digit's number. -/
def hv (b : UInt8) : Option Nat := if 48 ≤ b.toNat ∧ b.toNat ≤ 57 then some (b.toNat - 48) else if 97 ≤ lowN b.toNat ∧ lowN b.toNat ≤ 102 then some (lowN b.toNat - 87) else none
def hvs : Nat → List UInt8 → Option Nat
  | n, [] => some n
  | n, b :: r => match hv b with
    | some d => hvs (16 * n + d) r
    | none => none
theorem hv_lt {b : UInt8} {d : Nat} (h : hv b = some d) : d < 16 := by
  unfold hv at h
  split at h
  · cases h; omega
  · split at h
    · cases h; omega
    · cases h
theorem low_lt {b : Nat} (h : b < 256) : lowN b < 256 := Nat.or_lt_two_pow (n := 8) h (by decide)
theorem hvs_step : ∀ {l : List UInt8} {n k x : Nat} {b : UInt8}, hvs n (l.take k) = some x → l[k]? = some b → hvs n (l.take (k + 1)) = match hv b with | some d => some (16 * x + d) | none => none
  | [], _, _, _, _, _, h => by simp at h
  | c :: r, n, 0, x, b, h1, h2 => by
    simp at h2
    subst h2
    simp only [List.take_zero, hvs, Option.some.injEq] at h1
    subst h1
    simp only [List.take_succ_cons, List.take_zero, hvs]
  | c :: r, n, k + 1, x, b, h1, h2 => by
    simp only [List.take_succ_cons, hvs] at h1 ⊢
    cases hc : hv c with
    | none => rw [hc] at h1; cases h1
    | some d =>
      rw [hc] at h1
      exact hvs_step h1 (by simpa using h2)
theorem hvs_more : ∀ {l : List UInt8} {n k : Nat}, hvs n (l.take k) = none → hvs n l = none
  | [], n, k, h => by simp [hvs] at h
  | c :: r, n, 0, h => by simp [hvs] at h
  | c :: r, n, k + 1, h => by
    simp only [List.take_succ_cons, hvs] at h ⊢
    cases hc : hv c with
    | none => rfl
    | some d => rw [hc] at h; exact hvs_more h
attribute [local irreducible] lowN FCalls PCalls IntKind.wrap bits Mem.set Mem.setCell Mem.setCells YCalls RunP NextP RunU
theorem lower_c {m : Mem} {b : Nat} (hb : b < 256) : FCalls Tryz.prog 122 [.int .u8 ((b : Nat) : Int)] m fun v m' => v = .int .u8 ((lowN b : Nat) : Int) ∧ m' = m := by
  have e : bits .or .u8 ((b : Nat) : Int) 32 = ((lowN b : Nat) : Int) := by unfold lowN; exact u8_or_nat b 32 hb (by decide)
  refine fcalls_of_vc (T := tbl) (B := bodies) (pr := []) (DR := dr122) (args := [.v (.int .u8 ((b : Nat) : Int))]) tbl_ok bodies_ok mixed Tryz.func122 rfl (by decide +kernel) (by simp [Tryz.f122]) rfl ?_
  (conv => whnf)
  exact ⟨by rw [e]; rfl, rfl⟩
theorem byte_at {M : Mem} {b cap e : Nat} {l : List UInt8} (h : M b = some (bytesObj ⟨l.toArray⟩ cap e)) {i : Nat} {x : UInt8} (hx : l[i]? = some x) : M.cell ⟨b, i, none⟩ = some (.int .u8 ((x.toNat : Nat) : Int)) := by
  unfold Mem.cell
  rw [h]
  have hi := (List.getElem?_eq_some_iff.1 hx).1
  simp only [bytesObj, byteRow, byteVals, Option.isSome_none, Bool.false_eq_true, if_false, List.getElem?_toArray]
  rw [List.getElem?_append_left (by simpa using hi)]
  simp only [List.getElem?_map, hx, Option.map_some]
theorem puint_c {m : Mem} {l : List UInt8} (hl : l.length = 2) : FCalls Tryz.prog 102 [str l, .int .i64 16, .int .i64 8] m fun v m' =>
    v = (match hvs 0 l with | some n => .tuple #[.int .u64 ((n : Nat) : Int), .nilIface] | none => .tuple #[.int .u64 0, .iface 161 (.int .i64 2)]) ∧ m' = m := by
  refine FCalls.less ?_
  refine fcalls_of_vc (T := tbl) (B := bodies) (pr := [99999]) (DR := dr102) (args := [.v (str l), .v (.int .i64 16), .v (.int .i64 8)]) tbl_ok bodies_ok mixed Tryz.func102 rfl (by decide +kernel) (by simp [Tryz.f102]) rfl ?_
  (conv => whnf)
  refine brk_false (by cases l with | nil => simp at hl | cons b r => simp) ?_
  (conv => whnf)
  have w8 : IntKind.u64.wrap 8 = 8 := by rw [IntKind.wrap_u64]; decide
  refine ⟨by rw [w8]; omega, ?_⟩
  (conv => whnf)
  intro cap bb m2 hcap hb he
  have h := ob_new (Sep.init m) hb he
  clear hb he
  have hsz : ((⟨l.toArray⟩ : ByteArray).size) = l.length := bsz l
  have hby : ∀ (i : Nat) x, l[i]? = some x → m2.cell ⟨bb, i, none⟩ = some (.int .u8 ((x.toNat : Nat) : Int)) := fun i x hx => byte_at (ob_get h 0 rfl) hx
  have hk := h.kept 1 rfl
  clear h
  (conv => whnf)
  refine loop_keep [1, 8, 10, 11, 12, 85, 99, 100] (Nat × Nat) (fun t => [(13, .v (.int .u64 ((t.2 : Nat) : Int))), (101, .v (.int .i64 ((t.1 : Nat) : Int)))]) (fun _ => []) (fun _ => m2)
    (fun t => t.1 ≤ 2 ∧ hvs 0 (l.take t.1) = some t.2 ∧ t.2 < 16 ^ t.1) (fun t => 2 - t.1) (0, 0) ⟨rfl, rfl, trivial⟩ rfl rfl ⟨by omega, by simp [hvs], by simp⟩ ?_
  (conv => whnf)
  refine ⟨rfl, ?_⟩
  rintro ⟨k, n⟩ ⟨hk2, hn, hlt⟩
  simp only at hk2 hn hlt
  (conv => whnf)
  refine brk_intro (fun q1 => ?_) (fun q1 => ?_)
  · have c1 : k < 2 := by have : (k : Int) < (⟨l.toArray⟩ : ByteArray).size := (by simpa using q1); omega
    obtain ⟨x, hx⟩ : ∃ x, l[k]? = some x := ⟨_, List.getElem?_eq_getElem (by omega)⟩
    have hxl := x.toNat_lt
    have hll := low_lt hxl
    have hnl : n ≤ 15 := by
      have : k = 0 ∨ k = 1 := by omega
      rcases this with rfl | rfl <;> omega
    have hbk := hby k x hx
    have hst := hvs_step hn hx
    (conv => whnf)
    refine ⟨_, rfl, by omega, by rw [hsz]; omega, ?_⟩
    (conv => whnf)
    refine ⟨(x.toNat : Int), by rw [add_mk]; show m2.cell ⟨bb, 0 + (((k : Nat) : Int)).toNat * 1, none⟩ = _; rw [show 0 + (((k : Nat) : Int)).toNat * 1 = k by omega]; exact hbk, ?_⟩
    (conv => whnf)
    have w16 : IntKind.u64.wrap 16 = 16 := by rw [IntKind.wrap_u64]; decide
    have w16' : IntKind.u8.wrap 16 = 16 := by rw [IntKind.wrap_u8']; decide
    have w255 : IntKind.u64.wrap (IntKind.u64.wrap (1 * 2 ^ min (IntKind.u64.wrap 8).toNat IntKind.u64.bits) - 1) = 255 := by
      rw [w8, show min (Int.toNat 8) IntKind.u64.bits = 8 from rfl, IntKind.wrap_u64, IntKind.wrap_u64]
      decide
    have wmin : (2 : Int) ^ min 8 IntKind.u64.bits = 256 := rfl
    have err : hv x = none → hvs 0 l = none := fun h => hvs_more (k := k + 1) (by rw [hst, h])
    have step1 : IntKind.i64.wrap ((k : Int) + 1) = ((k + 1 : Nat) : Int) := wrap_id (by omega) (by omega)
    have good : ∀ d, hv x = some d → hvs 0 (l.take (k + 1)) = some (16 * n + d) ∧ 16 * n + d < 16 ^ (k + 1) := fun d hd => by
      rw [hst, hd]
      have := hv_lt hd
      have : k = 0 ∨ k = 1 := by omega
      rcases this with rfl | rfl
      · exact ⟨rfl, by simp at hlt ⊢; omega⟩
      · exact ⟨rfl, by simp at hlt ⊢; omega⟩
    repeat' (first
      | (refine brk_intro (fun q => ?_) (fun q => ?_) <;> (simp [wmin, w16, w16', IntKind.wrap_u64, IntKind.wrap_u8'] at q) <;> (first | (exfalso; omega) | (conv => whnf)))
      | (refine FCalls.mono (lower_c hxl) ?_; rintro v m1 ⟨rfl, rfl⟩; (conv => whnf)))
    all_goals first
      | (refine RunP.pure (v := .iface 161 (.int .i64 2)) (fun w hw => rfl) ?_
         have hno : hv x = none := by unfold hv; rw [if_neg (by omega), if_neg (by omega)]
         rw [err hno]
         (conv => whnf)
         exact ⟨m, hk, rfl, rfl⟩)
      | (have hd : hv x = some (x.toNat - 48) := by unfold hv; rw [if_pos (by omega)]
         obtain ⟨g1, g2⟩ := good _ hd
         exact ⟨(k + 1, 16 * n + (x.toNat - 48)), le_eq ⟨by
           refine congrArg (fun z => some (AV.v (Value.int IntKind.u64 z))) (?_ : _ = ((16 * n + (x.toNat - 48) : Nat) : Int))
           rw [w16, IntKind.wrap_u64, IntKind.wrap_u64, IntKind.wrap_u64, IntKind.wrap_u8']
           simp only
           omega, by show some (AV.v (.int .i64 (IntKind.i64.wrap ((k : Int) + 1)))) = _; rw [step1], rfl, rfl, rfl, rfl, rfl, rfl, rfl, rfl, trivial⟩ rfl rfl rfl, ⟨c1, g1, g2⟩, by simp only; omega⟩)
      | (have hd : hv x = some (lowN x.toNat - 87) := by unfold hv; rw [if_neg (by omega), if_pos (by omega)]
         obtain ⟨g1, g2⟩ := good _ hd
         exact ⟨(k + 1, 16 * n + (lowN x.toNat - 87)), le_eq ⟨by
           refine congrArg (fun z => some (AV.v (Value.int IntKind.u64 z))) (?_ : _ = ((16 * n + (lowN x.toNat - 87) : Nat) : Int))
           rw [w16, IntKind.wrap_u64, IntKind.wrap_u64, IntKind.wrap_u64, IntKind.wrap_u8', IntKind.wrap_u8']
           simp only
           omega, by show some (AV.v (.int .i64 (IntKind.i64.wrap ((k : Int) + 1)))) = _; rw [step1], rfl, rfl, rfl, rfl, rfl, rfl, rfl, rfl, trivial⟩ rfl rfl rfl, ⟨c1, g1, g2⟩, by simp only; omega⟩)
  · have c1 : k = 2 := by have : ¬ (k : Int) < (⟨l.toArray⟩ : ByteArray).size := (by simpa using q1); omega
    subst c1
    have hl2 : l.take 2 = l := List.take_of_length_le (by omega)
    rw [hl2] at hn
    rw [hn]
    (conv => whnf)
    exact ⟨m, hk, rfl, rfl⟩
end Go.Proofs.YtfjbgmeimipibaaGreatDoor
/- Code: a set out of a text. -/
namespace Go.Proofs.YtfjbgmeimipibaaGreatDoor
open Go Go.Mv
set_option maxHeartbeats 2000000
set_option maxRecDepth 10000
set_option linter.unusedVariables false
set_option linter.unusedSimpArgs false
def with' (G : Nat → Nat) (b : Nat) (k : Nat) : Nat := if k = b / 64 then G k ||| 2 ^ (b % 64) else G k
theorem pow64 {k : Nat} (h : k < 64) : 2 ^ k < 18446744073709551616 := Nat.pow_lt_pow_right (m := k) (n := 64) (by omega) h
theorem with_ok {G : Nat → Nat} {b : Nat} (h : WOk G) : WOk (with' G b) := by
  intro k hk
  unfold with'
  split
  · exact or_lt (h k hk) (pow64 (by omega))
  · exact h k hk
theorem with_bit {G : Nat → Nat} {b c : Nat} : has (with' G b) c = (has G c || decide (b = c)) := by
  unfold has with'
  split
  · rw [Nat.testBit_or, Nat.testBit_two_pow]
    congr 1
    exact decide_eq_decide.2 ⟨fun h => by omega, fun h => by omega⟩
  · rw [decide_eq_false (by rintro rfl; contradiction), Bool.or_false]
theorem W_set {G H : Nat → Nat} {j : Nat} {x : Int} (hj : j < 4) (hx : x = ((H j : Nat) : Int)) (h : ∀ k, k ≠ j → H k = G k) : (W G).set j x = W H := by
  subst hx
  apply List.ext_getElem
  · simp
  · intro k h1 h2
    simp only [List.getElem_set, List.getElem_map, List.getElem_range]
    by_cases hk : j = k
    · subst hk; simp
    · rw [if_neg hk, h k (Ne.symm hk)]
/-- n bytes from a on come in. -/
def addTo (G : Nat → Nat) (a : Nat) : Nat → Nat → Nat
  | 0 => G
  | n + 1 => with' (addTo G a n) (a + n)
theorem addTo_zero {G : Nat → Nat} {a : Nat} : addTo G a 0 = G := rfl
theorem addTo_succ {G : Nat → Nat} {a n : Nat} : addTo G a (n + 1) = with' (addTo G a n) (a + n) := rfl
theorem addTo_ok {G : Nat → Nat} {a : Nat} (h : WOk G) : ∀ n, WOk (addTo G a n)
  | 0 => h
  | n + 1 => with_ok (addTo_ok h n)
def G0 : Nat → Nat := fun _ => 0
theorem G0_ok : WOk G0 := fun k hk => by show 0 < _; omega
def pairO (x y : Option Nat) : Option (Nat × Nat) := match x, y with
  | some a, some b => some (a, b)
  | _, _ => none
theorem pair_ok {x y : Option Nat} {a b : Nat} (h : x = some a) (k : y = some b) : pairO x y = some (a, b) := by subst h; subst k; rfl
theorem pair_no1 {x y : Option Nat} (h : x = none) : pairO x y = none := by subst h; rfl
theorem pair_no2 {x y : Option Nat} (h : y = none) : pairO x y = none := by subst h; cases x <;> rfl
/-- A range's two bytes. -/
def pieceF (r : List UInt8) : Option (Nat × Nat) :=
  if (cutL 45 r).1.length = 2 ∧ (if (cutL 45 r).2.2 = true then (cutL 45 r).2.1 else (cutL 45 r).1).length = 2 then
    pairO (hvs 0 (cutL 45 r).1) (hvs 0 (if (cutL 45 r).2.2 = true then (cutL 45 r).2.1 else (cutL 45 r).1))
  else none
def setP : List (List UInt8) → (Nat → Nat) → Option (Nat → Nat)
  | [], G => some G
  | r :: rs, G => match pieceF r with
    | some p => setP rs (addTo G p.1 (p.2 + 1 - p.1))
    | none => none
def setF (l : List UInt8) : Option (Nat → Nat) :=
  match (if l = noneL then some G0 else setP (splitL 44 l) G0) with
  | some G => if classL (has G) = l then some G else none
  | none => none
theorem setP_ok : ∀ {rs : List (List UInt8)} {G H : Nat → Nat}, WOk G → setP rs G = some H → WOk H
  | [], G, H, h, he => by cases he; exact h
  | r :: rs, G, H, h, he => by
    simp only [setP] at he
    cases hp : pieceF r with
    | none => rw [hp] at he; cases he
    | some p => rw [hp] at he; exact setP_ok (addTo_ok h _) he
theorem setP_cons (r : List UInt8) (rs : List (List UInt8)) (G : Nat → Nat) : setP (r :: rs) G = match pieceF r with | some p => setP rs (addTo G p.1 (p.2 + 1 - p.1)) | none => none := rfl
theorem setP_nil (G : Nat → Nat) : setP [] G = some G := rfl
theorem hvs_lt {l : List UInt8} {n : Nat} (hl : l.length = 2) (h : hvs 0 l = some n) : n < 256 := by
  match l, hl with
  | [a, b], _ =>
    simp only [hvs] at h
    cases ha : hv a with
    | none => rw [ha] at h; cases h
    | some x =>
      cases hb : hv b with
      | none => rw [ha, hb] at h; cases h
      | some y =>
        rw [ha, hb] at h
        have := hv_lt ha
        have := hv_lt hb
        cases h
        omega
theorem cut_le {c : UInt8} {l : List UInt8} : (cutL c l).1.length ≤ l.length ∧ (cutL c l).2.1.length ≤ l.length := by
  unfold cutL
  split
  · refine ⟨(List.takeWhile_sublist _).length_le, ?_⟩
    simp only [List.length_drop]
    have := (List.dropWhile_sublist (fun x => decide (x ≠ c)) (l := l)).length_le
    omega
  · simp
theorem split_le {c : UInt8} : ∀ {l x : List UInt8}, x ∈ splitL c l → x.length ≤ l.length
  | [], x, h => by simp [splitL] at h; subst h; exact Nat.le_refl _
  | b :: r, x, h => by
    unfold splitL at h
    split at h
    · rcases List.mem_cons.1 h with rfl | h
      · simp
      · have := split_le h; simp; omega
    · have ih : ∀ y ∈ splitL c r, y.length ≤ r.length := fun y hy => split_le hy
      cases hs : splitL c r with
      | nil => rw [hs] at h; simp at h; subst h; simp
      | cons y ys =>
        rw [hs] at h ih
        rcases List.mem_cons.1 h with rfl | h
        · have := ih y (by simp); simp; omega
        · have := ih x (by simp [h]); simp; omega
attribute [local irreducible] classL splitL cutL hvs addTo setP lowN FCalls PCalls IntKind.wrap bits Mem.set Mem.setCell Mem.setCells YCalls RunP NextP RunU
theorem parseUint_c {m : Mem} (hg : Gl m) {l : List UInt8} (hl : l.length = 2) : FCalls Tryz.prog 80 [str l, .int .i64 16, .int .i64 8] m fun v m' =>
    ((∃ n, hvs 0 l = some n ∧ v = .tuple #[.int .u64 ((n : Nat) : Int), .nilIface]) ∨ (hvs 0 l = none ∧ ∃ u, v = .tuple #[.int .u64 0, .iface 164 u])) ∧ m' = m := by
  refine fcalls_of_vc (T := tbl) (B := bodies) (pr := [99999]) (DR := dr80) (args := [.v (str l), .v (.int .i64 16), .v (.int .i64 8)]) tbl_ok bodies_ok mixed Tryz.func80 rfl (by decide +kernel) (by simp [Tryz.f80]) rfl ?_
  (conv => whnf)
  refine FCalls.mono (puint_c hl) ?_
  rintro v m1 ⟨rfl, rfl⟩
  cases hh : hvs 0 l with
  | some n =>
    (conv => whnf)
    refine ⟨_, fun w => (nil_cmp Tryz.underlying48 w _ (.inl rfl)).2, ?_⟩
    (conv => whnf)
    exact ⟨.inl ⟨n, rfl, rfl⟩, rfl⟩
  | none =>
    (conv => whnf)
    refine ⟨_, fun w => (nil_cmp Tryz.underlying48 w _ (.inr ⟨_, _, rfl⟩)).2, ?_⟩
    (conv => whnf)
    refine FCalls.mono (toError_c (fn := [80, 97, 114, 115, 101, 85, 105, 110, 116]) hg (by omega)) ?_
    rintro v m1 ⟨⟨u, rfl⟩, rfl⟩
    (conv => whnf)
    exact ⟨.inr ⟨rfl, u, rfl⟩, rfl⟩
theorem set_c {m : Mem} (hg : Gl m) {l : List UInt8} (hl : l.length < 4294967281) :
    PCalls Tryz.prog 68 [str l] m (fun v m' => ∃ G, setF l = some G ∧ WOk G ∧ v = wv G ∧ m' = m) (fun x m' => x = wrongV ∧ setF l = none ∧ m' = m) := by
  refine PCalls.less ?_
  refine pcalls_of_vc (T := tbl) (B := bodies) (pr := [99999, 2, 200047]) (DR := dr68) (args := [.v (str l)]) tbl_ok bodies_ok mixed Tryz.func68 rfl (by decide +kernel) (by simp [Tryz.f68]) rfl ?_
  (conv => whnf)
  have fin : ∀ (x : Value) (M : Mem), m.le M → x = wrongV → setF l = none → (∃ m'', (∀ b o, m'' b = some o → M b = some o) ∧ x = wrongV ∧ setF l = none ∧ m'' = m) := fun x M hM h1 h2 => ⟨m, hM, h1, h2, rfl⟩
  refine brk_intro (fun q1 => ?_) (fun q1 => ?_)
  · have c1 : l ≠ noneL := by simpa [noneL] using q1
    have hset : setF l = match setP (splitL 44 l) G0 with | some G => if classL (has G) = l then some G else none | none => none := by unfold setF; rw [if_neg c1]
    (conv => whnf)
    refine FCalls.mono (split_c hg (c := 44) hl) ?_
    rintro v m2 ⟨nb, hb, rfl, he⟩
    have h := (Sep.init m).new' (l := (splitL 44 l).map str) hb he
    clear hb he
    have hlenS : (splitL 44 l).length ≤ l.length + 1 := by rw [splitL_len]; have := List.count_le_length (a := (44 : UInt8)) (l := l); omega
    (conv => whnf)
    refine loop_keep [0, 2, 15, 16] (Nat × (Nat → Nat) × Mem) (fun t => [(17, .v (.int .i64 ((t.1 : Nat) : Int)))]) (fun t => [.ints .u64 (W t.2.1)]) (fun t => t.2.2)
      (fun t => t.1 ≤ (splitL 44 l).length ∧ WOk t.2.1 ∧ setP (splitL 44 l) G0 = setP ((splitL 44 l).drop t.1) t.2.1 ∧ Mv.Sep [pt nb ((splitL 44 l).map str), kp m] t.2.2) (fun t => (splitL 44 l).length - t.1) (0, G0, m2) ⟨rfl, trivial⟩ rfl rfl ⟨Nat.zero_le _, G0_ok, rfl, h⟩ ?_
    clear h
    (conv => whnf)
    refine ⟨rfl, ?_⟩
    rintro ⟨k, G, M⟩ ⟨hk, hG, hJ, h⟩
    simp only at hk hG hJ h
    (conv => whnf)
    refine brk_intro (fun q2 => ?_) (fun q2 => ?_)
    · have c2 : k < (splitL 44 l).length := by have : (k : Int) < ((splitL 44 l).length : Nat) := (by simpa using q2); omega
      obtain ⟨r, hr⟩ : ∃ r, (splitL 44 l)[k]? = some r := ⟨_, List.getElem?_eq_getElem c2⟩
      have hrl : r.length ≤ l.length := split_le (List.mem_of_getElem? hr)
      have hrc : (cutL 45 r).1.length ≤ r.length ∧ (cutL 45 r).2.1.length ≤ r.length := cut_le
      have hdrop : (splitL 44 l).drop k = r :: (splitL 44 l).drop (k + 1) := by
        rw [List.drop_eq_getElem_cons c2]
        congr 1
        exact (List.getElem?_eq_some_iff.1 hr).2
      rw [hdrop, setP_cons] at hJ
      have bad : pieceF r = none → setF l = none := fun h => by rw [hset, hJ, h]
      (conv => whnf)
      refine ⟨_, rfl, by omega, by omega, ?_⟩
      (conv => whnf)
      refine ⟨⟨r.toArray⟩, (by rw [add_mk]; show M.cell ⟨nb, 0 + (((k : Nat) : Int)).toNat * 1, none⟩ = _; rw [show 0 + (((k : Nat) : Int)).toNat * 1 = k by omega]; exact h.cell 0 rfl (by simp [hr, str])), ?_⟩
      (conv => whnf)
      refine FCalls.mono (cut_c (c := 45) (l := r) (hg.more (h.kept 1 rfl)) (by omega)) ?_
      rintro v m3 ⟨rfl, rfl⟩
      have hpF : pieceF r = if (cutL 45 r).1.length = 2 ∧ (if (cutL 45 r).2.2 = true then (cutL 45 r).2.1 else (cutL 45 r).1).length = 2 then
          pairO (hvs 0 (cutL 45 r).1) (hvs 0 (if (cutL 45 r).2.2 = true then (cutL 45 r).2.1 else (cutL 45 r).1)) else none := rfl
      obtain ⟨lo, hlo⟩ : ∃ x, x = (cutL 45 r).1 := ⟨_, rfl⟩
      obtain ⟨h2, hh2⟩ : ∃ x, x = (cutL 45 r).2.1 := ⟨_, rfl⟩
      obtain ⟨two, htwo⟩ : ∃ x, x = (cutL 45 r).2.2 := ⟨_, rfl⟩
      rw [← hlo, ← hh2, ← htwo] at hpF
      rw [← hlo, ← hh2] at hrc
      rw [← hlo, ← hh2, ← htwo]
      (conv => whnf)
      refine brk_intro (fun q3 => ?_) (fun q3 => ?_)
      · have c3 : two = false := by simpa using q3
        simp only [c3, Bool.false_eq_true, if_false] at hpF
        (conv => whnf)
        refine brk_intro (fun q4 => ?_) (fun q4 => ?_)
        rotate_left
        · have c4 : ¬ lo.length = 2 := by have : ¬ ((⟨lo.toArray⟩ : ByteArray).size : Int) = 2 := (by simpa using q4); rw [bsz] at this; omega
          rw [if_neg (by omega)] at hpF
          (conv => whnf)
          refine PCalls.mono must_c (fun v m5 hh => by cases hh.1) ?_
          rintro x m5 ⟨rfl, _, rfl⟩
          (conv => whnf)
          exact ⟨_, rfl, fin _ _ (h.kept 1 rfl) rfl (bad hpF)⟩
        have c4 : lo.length = 2 := by have : ((⟨lo.toArray⟩ : ByteArray).size : Int) = 2 := (by simpa using q4); rw [bsz] at this; omega
        (conv => whnf)
        refine PCalls.mono must_c ?_ ?_
        rotate_left
        · rintro x m5 ⟨rfl, d1, rfl⟩
          have d1 : ¬ lo.length = 2 := by have : ¬ ((⟨lo.toArray⟩ : ByteArray).size : Int) = 2 := (by simpa using d1); rw [bsz] at this; omega
          rw [if_neg (by omega)] at hpF
          (conv => whnf)
          exact ⟨_, rfl, fin _ _ (h.kept 1 rfl) rfl (bad hpF)⟩
        rintro v m5 ⟨d1, rfl⟩
        have d1 : lo.length = 2 := by have : ((⟨lo.toArray⟩ : ByteArray).size : Int) = 2 := (by simpa using d1); rw [bsz] at this; omega
        rw [if_pos ⟨c4, d1⟩] at hpF
        (conv => whnf)
        refine FCalls.mono (parseUint_c (hg.more (h.kept 1 rfl)) c4) ?_
        rintro v m6 ⟨hv1, rfl⟩
        rcases hv1 with ⟨a, ha, rfl⟩ | ⟨ha, u, rfl⟩
        · have ha256 := hvs_lt c4 ha
          (conv => whnf)
          refine FCalls.mono (parseUint_c (hg.more (h.kept 1 rfl)) d1) ?_
          rintro v m7 ⟨hv2, rfl⟩
          rcases hv2 with ⟨b, hb, rfl⟩ | ⟨hb, u, rfl⟩
          · replace hpF := hpF.trans (pair_ok ha hb)
            have hb256 := hvs_lt d1 hb
            rw [hpF] at hJ
            clear bad
            (conv => whnf)
            refine ⟨_, fun w => (nil_cmp Tryz.underlying48 w _ (.inl rfl)).1, ?_⟩
            (conv => whnf)
            refine ⟨_, fun w => (nil_cmp Tryz.underlying48 w _ (.inl rfl)).1, ?_⟩
            (conv => whnf)
            refine PCalls.mono must_c ?_ (fun x m5 hh => by cases hh.2.1)
            rintro v m8 ⟨_, rfl⟩
            (conv => whnf)
            refine loop_keep [0, 2, 10, 15, 16, 17] Nat (fun s => [(8, .v (.int .u64 ((a + s : Nat) : Int)))]) (fun s => [.ints .u64 (W (addTo G a s))]) (fun _ => _) (fun s => s ≤ b + 1 - a) (fun s => b + 1 - a - s) 0 ⟨rfl, trivial⟩ (congrArg (fun z => [LC.ints IntKind.u64 (W z)]) (addTo_zero (G := G) (a := a)).symm) rfl (Nat.zero_le _) ?_
            (conv => whnf)
            refine ⟨rfl, ?_⟩
            intro s hs
            have hGs := addTo_ok (a := a) hG s
            (conv => whnf)
            refine brk_intro (fun q7 => ?_) (fun q7 => ?_)
            · have c7 : a + s ≤ b := by have : ((a + s : Nat) : Int) ≤ (b : Int) := (by simpa using q7); omega
              have e6 : (((a + s : Nat) : Nat) : Int).fdiv (2 ^ (min (Int.toNat 6) IntKind.u64.bits)) = (((a + s) / 64 : Nat) : Int) := shr_nat (k := 6) rfl (by omega)
              have e63 : bits .and .u64 ((a + s : Nat) : Int) 63 = (((a + s) % 64 : Nat) : Int) := (u64_and_nat (a + s) 63 (by omega) (by decide)).trans (congrArg _ (Nat.and_two_pow_sub_one_eq_mod (a + s) 6))
              have hsh : IntKind.u64.wrap ((1 : Int) * 2 ^ (min (bits .and .u64 ((a + s : Nat) : Int) 63).toNat IntKind.u64.bits)) = ((2 ^ ((a + s) % 64) : Nat) : Int) := one_shl e63 (by omega)
              have hor : bits .or .u64 ((W (addTo G a s)).getD ((a + s) / 64) 0) ((2 ^ ((a + s) % 64) : Nat) : Int) = ((with' (addTo G a s) (a + s) ((a + s) / 64) : Nat) : Int) := by
                rw [W_at (by omega), u64_or_nat _ _ (hGs _ (by omega)) (pow64 (by omega))]
                unfold with'
                rw [if_pos rfl]
              have step1 : IntKind.u64.wrap (((a + s : Nat) : Int) + 1) = ((a + (s + 1) : Nat) : Int) := by rw [IntKind.wrap_u64]; omega
              (conv => whnf)
              refine ⟨by omega, ?_⟩
              (conv => whnf)
              refine ⟨by rw [e6]; omega, by rw [e6]; omega, ?_⟩
              (conv => whnf)
              refine ⟨by rw [e6]; show 0 + ((((a + s) / 64 : Nat) : Int)).toNat * 1 < 4; omega, ?_⟩
              (conv => whnf)
              refine ⟨by rw [e63]; omega, ?_⟩
              (conv => whnf)
              refine ⟨by rw [e6]; omega, by rw [e6]; omega, ?_⟩
              (conv => whnf)
              refine ⟨by rw [e6]; show 0 + ((((a + s) / 64 : Nat) : Int)).toNat * 1 < 4; omega, ?_⟩
              (conv => whnf)
              refine ⟨s + 1, le_eq ⟨by show some (AV.v (.int .u64 (IntKind.u64.wrap (((a + s : Nat) : Int) + 1)))) = _; rw [step1], rfl, rfl, rfl, rfl, rfl, rfl, trivial⟩ rfl ?_ rfl, by omega, by omega⟩
              show [LC.ints .u64 ((W (addTo G a s)).set (0 + ((((a + s : Nat) : Nat) : Int).fdiv (2 ^ (min (Int.toNat 6) IntKind.u64.bits))).toNat * 1) _)] = _
              refine congrArg (fun z => [LC.ints .u64 z]) ?_
              rw [e6, show 0 + (((a + s) / 64 : Nat) : Int).toNat * 1 = (a + s) / 64 by omega]
              refine W_set (by omega) ?_ (fun k hk => ?_)
              · show bits .or .u64 ((W (addTo G a s)).getD (0 + (((a + s) / 64 : Nat) : Int).toNat * 1) 0) _ = _
                rw [show 0 + (((a + s) / 64 : Nat) : Int).toNat * 1 = (a + s) / 64 by omega, hsh, hor, addTo_succ]
              · rw [addTo_succ]
                show with' (addTo G a s) (a + s) k = _
                unfold with'
                rw [if_neg hk]
            · have c7 : ¬ a + s ≤ b := by have : ¬ ((a + s : Nat) : Int) ≤ (b : Int) := (by simpa using q7); omega
              have hse : s = b + 1 - a := by omega
              have step2 : IntKind.i64.wrap ((k : Int) + 1) = ((k + 1 : Nat) : Int) := wrap_id (by omega) (by omega)
              (conv => whnf)
              refine ⟨(k + 1, addTo G a s, _), le_eq ⟨by show some (AV.v (.int .i64 (IntKind.i64.wrap ((k : Int) + 1)))) = _; rw [step2], rfl, rfl, rfl, rfl, trivial⟩ rfl rfl rfl, ⟨c2, hGs, by rw [hJ, hse], h⟩, by simp only; omega⟩
          · replace hpF := hpF.trans (pair_no2 hb)
            (conv => whnf)
            refine ⟨_, fun w => (nil_cmp Tryz.underlying48 w _ (.inl rfl)).1, ?_⟩
            (conv => whnf)
            refine ⟨_, fun w => (nil_cmp Tryz.underlying48 w _ (.inr ⟨_, _, rfl⟩)).1, ?_⟩
            (conv => whnf)
            refine PCalls.mono must_c (fun v m5 hh => by cases hh.1) ?_
            rintro x m8 ⟨rfl, _, rfl⟩
            (conv => whnf)
            exact ⟨_, rfl, fin _ _ (h.kept 1 rfl) rfl (bad hpF)⟩
        · replace hpF := hpF.trans (pair_no1 ha)
          (conv => whnf)
          refine FCalls.mono (parseUint_c (hg.more (h.kept 1 rfl)) d1) ?_
          rintro v m7 ⟨hv2, rfl⟩
          rcases hv2 with ⟨b, hb, rfl⟩ | ⟨hb, u2, rfl⟩
          · (conv => whnf)
            refine ⟨_, fun w => (nil_cmp Tryz.underlying48 w _ (.inr ⟨_, _, rfl⟩)).1, ?_⟩
            (conv => whnf)
            refine PCalls.mono must_c (fun v m5 hh => by cases hh.1) ?_
            rintro x m8 ⟨rfl, _, rfl⟩
            (conv => whnf)
            exact ⟨_, rfl, fin _ _ (h.kept 1 rfl) rfl (bad hpF)⟩
          · (conv => whnf)
            refine ⟨_, fun w => (nil_cmp Tryz.underlying48 w _ (.inr ⟨_, _, rfl⟩)).1, ?_⟩
            (conv => whnf)
            refine PCalls.mono must_c (fun v m5 hh => by cases hh.1) ?_
            rintro x m8 ⟨rfl, _, rfl⟩
            (conv => whnf)
            exact ⟨_, rfl, fin _ _ (h.kept 1 rfl) rfl (bad hpF)⟩
      · have c3 : two = true := by simpa using q3
        simp only [c3, if_true] at hpF
        (conv => whnf)
        refine brk_intro (fun q4 => ?_) (fun q4 => ?_)
        rotate_left
        · have c4 : ¬ lo.length = 2 := by have : ¬ ((⟨lo.toArray⟩ : ByteArray).size : Int) = 2 := (by simpa using q4); rw [bsz] at this; omega
          rw [if_neg (by omega)] at hpF
          (conv => whnf)
          refine PCalls.mono must_c (fun v m5 hh => by cases hh.1) ?_
          rintro x m5 ⟨rfl, _, rfl⟩
          (conv => whnf)
          exact ⟨_, rfl, fin _ _ (h.kept 1 rfl) rfl (bad hpF)⟩
        have c4 : lo.length = 2 := by have : ((⟨lo.toArray⟩ : ByteArray).size : Int) = 2 := (by simpa using q4); rw [bsz] at this; omega
        (conv => whnf)
        refine PCalls.mono must_c ?_ ?_
        rotate_left
        · rintro x m5 ⟨rfl, d1, rfl⟩
          have d1 : ¬ h2.length = 2 := by have : ¬ ((⟨h2.toArray⟩ : ByteArray).size : Int) = 2 := (by simpa using d1); rw [bsz] at this; omega
          rw [if_neg (by omega)] at hpF
          (conv => whnf)
          exact ⟨_, rfl, fin _ _ (h.kept 1 rfl) rfl (bad hpF)⟩
        rintro v m5 ⟨d1, rfl⟩
        have d1 : h2.length = 2 := by have : ((⟨h2.toArray⟩ : ByteArray).size : Int) = 2 := (by simpa using d1); rw [bsz] at this; omega
        rw [if_pos ⟨c4, d1⟩] at hpF
        (conv => whnf)
        refine FCalls.mono (parseUint_c (hg.more (h.kept 1 rfl)) c4) ?_
        rintro v m6 ⟨hv1, rfl⟩
        rcases hv1 with ⟨a, ha, rfl⟩ | ⟨ha, u, rfl⟩
        · have ha256 := hvs_lt c4 ha
          (conv => whnf)
          refine FCalls.mono (parseUint_c (hg.more (h.kept 1 rfl)) d1) ?_
          rintro v m7 ⟨hv2, rfl⟩
          rcases hv2 with ⟨b, hb, rfl⟩ | ⟨hb, u, rfl⟩
          · replace hpF := hpF.trans (pair_ok ha hb)
            have hb256 := hvs_lt d1 hb
            rw [hpF] at hJ
            clear bad
            (conv => whnf)
            refine ⟨_, fun w => (nil_cmp Tryz.underlying48 w _ (.inl rfl)).1, ?_⟩
            (conv => whnf)
            refine ⟨_, fun w => (nil_cmp Tryz.underlying48 w _ (.inl rfl)).1, ?_⟩
            (conv => whnf)
            refine PCalls.mono must_c ?_ (fun x m5 hh => by cases hh.2.1)
            rintro v m8 ⟨_, rfl⟩
            (conv => whnf)
            refine loop_keep [0, 2, 10, 15, 16, 17] Nat (fun s => [(8, .v (.int .u64 ((a + s : Nat) : Int)))]) (fun s => [.ints .u64 (W (addTo G a s))]) (fun _ => _) (fun s => s ≤ b + 1 - a) (fun s => b + 1 - a - s) 0 ⟨rfl, trivial⟩ (congrArg (fun z => [LC.ints IntKind.u64 (W z)]) (addTo_zero (G := G) (a := a)).symm) rfl (Nat.zero_le _) ?_
            (conv => whnf)
            refine ⟨rfl, ?_⟩
            intro s hs
            have hGs := addTo_ok (a := a) hG s
            (conv => whnf)
            refine brk_intro (fun q7 => ?_) (fun q7 => ?_)
            · have c7 : a + s ≤ b := by have : ((a + s : Nat) : Int) ≤ (b : Int) := (by simpa using q7); omega
              have e6 : (((a + s : Nat) : Nat) : Int).fdiv (2 ^ (min (Int.toNat 6) IntKind.u64.bits)) = (((a + s) / 64 : Nat) : Int) := shr_nat (k := 6) rfl (by omega)
              have e63 : bits .and .u64 ((a + s : Nat) : Int) 63 = (((a + s) % 64 : Nat) : Int) := (u64_and_nat (a + s) 63 (by omega) (by decide)).trans (congrArg _ (Nat.and_two_pow_sub_one_eq_mod (a + s) 6))
              have hsh : IntKind.u64.wrap ((1 : Int) * 2 ^ (min (bits .and .u64 ((a + s : Nat) : Int) 63).toNat IntKind.u64.bits)) = ((2 ^ ((a + s) % 64) : Nat) : Int) := one_shl e63 (by omega)
              have hor : bits .or .u64 ((W (addTo G a s)).getD ((a + s) / 64) 0) ((2 ^ ((a + s) % 64) : Nat) : Int) = ((with' (addTo G a s) (a + s) ((a + s) / 64) : Nat) : Int) := by
                rw [W_at (by omega), u64_or_nat _ _ (hGs _ (by omega)) (pow64 (by omega))]
                unfold with'
                rw [if_pos rfl]
              have step1 : IntKind.u64.wrap (((a + s : Nat) : Int) + 1) = ((a + (s + 1) : Nat) : Int) := by rw [IntKind.wrap_u64]; omega
              (conv => whnf)
              refine ⟨by omega, ?_⟩
              (conv => whnf)
              refine ⟨by rw [e6]; omega, by rw [e6]; omega, ?_⟩
              (conv => whnf)
              refine ⟨by rw [e6]; show 0 + ((((a + s) / 64 : Nat) : Int)).toNat * 1 < 4; omega, ?_⟩
              (conv => whnf)
              refine ⟨by rw [e63]; omega, ?_⟩
              (conv => whnf)
              refine ⟨by rw [e6]; omega, by rw [e6]; omega, ?_⟩
              (conv => whnf)
              refine ⟨by rw [e6]; show 0 + ((((a + s) / 64 : Nat) : Int)).toNat * 1 < 4; omega, ?_⟩
              (conv => whnf)
              refine ⟨s + 1, le_eq ⟨by show some (AV.v (.int .u64 (IntKind.u64.wrap (((a + s : Nat) : Int) + 1)))) = _; rw [step1], rfl, rfl, rfl, rfl, rfl, rfl, trivial⟩ rfl ?_ rfl, by omega, by omega⟩
              show [LC.ints .u64 ((W (addTo G a s)).set (0 + ((((a + s : Nat) : Nat) : Int).fdiv (2 ^ (min (Int.toNat 6) IntKind.u64.bits))).toNat * 1) _)] = _
              refine congrArg (fun z => [LC.ints .u64 z]) ?_
              rw [e6, show 0 + (((a + s) / 64 : Nat) : Int).toNat * 1 = (a + s) / 64 by omega]
              refine W_set (by omega) ?_ (fun k hk => ?_)
              · show bits .or .u64 ((W (addTo G a s)).getD (0 + (((a + s) / 64 : Nat) : Int).toNat * 1) 0) _ = _
                rw [show 0 + (((a + s) / 64 : Nat) : Int).toNat * 1 = (a + s) / 64 by omega, hsh, hor, addTo_succ]
              · rw [addTo_succ]
                show with' (addTo G a s) (a + s) k = _
                unfold with'
                rw [if_neg hk]
            · have c7 : ¬ a + s ≤ b := by have : ¬ ((a + s : Nat) : Int) ≤ (b : Int) := (by simpa using q7); omega
              have hse : s = b + 1 - a := by omega
              have step2 : IntKind.i64.wrap ((k : Int) + 1) = ((k + 1 : Nat) : Int) := wrap_id (by omega) (by omega)
              (conv => whnf)
              refine ⟨(k + 1, addTo G a s, _), le_eq ⟨by show some (AV.v (.int .i64 (IntKind.i64.wrap ((k : Int) + 1)))) = _; rw [step2], rfl, rfl, rfl, rfl, trivial⟩ rfl rfl rfl, ⟨c2, hGs, by rw [hJ, hse], h⟩, by simp only; omega⟩
          · replace hpF := hpF.trans (pair_no2 hb)
            (conv => whnf)
            refine ⟨_, fun w => (nil_cmp Tryz.underlying48 w _ (.inl rfl)).1, ?_⟩
            (conv => whnf)
            refine ⟨_, fun w => (nil_cmp Tryz.underlying48 w _ (.inr ⟨_, _, rfl⟩)).1, ?_⟩
            (conv => whnf)
            refine PCalls.mono must_c (fun v m5 hh => by cases hh.1) ?_
            rintro x m8 ⟨rfl, _, rfl⟩
            (conv => whnf)
            exact ⟨_, rfl, fin _ _ (h.kept 1 rfl) rfl (bad hpF)⟩
        · replace hpF := hpF.trans (pair_no1 ha)
          (conv => whnf)
          refine FCalls.mono (parseUint_c (hg.more (h.kept 1 rfl)) d1) ?_
          rintro v m7 ⟨hv2, rfl⟩
          rcases hv2 with ⟨b, hb, rfl⟩ | ⟨hb, u2, rfl⟩
          · (conv => whnf)
            refine ⟨_, fun w => (nil_cmp Tryz.underlying48 w _ (.inr ⟨_, _, rfl⟩)).1, ?_⟩
            (conv => whnf)
            refine PCalls.mono must_c (fun v m5 hh => by cases hh.1) ?_
            rintro x m8 ⟨rfl, _, rfl⟩
            (conv => whnf)
            exact ⟨_, rfl, fin _ _ (h.kept 1 rfl) rfl (bad hpF)⟩
          · (conv => whnf)
            refine ⟨_, fun w => (nil_cmp Tryz.underlying48 w _ (.inr ⟨_, _, rfl⟩)).1, ?_⟩
            (conv => whnf)
            refine PCalls.mono must_c (fun v m5 hh => by cases hh.1) ?_
            rintro x m8 ⟨rfl, _, rfl⟩
            (conv => whnf)
            exact ⟨_, rfl, fin _ _ (h.kept 1 rfl) rfl (bad hpF)⟩
    · have c2 : k = (splitL 44 l).length := by have : ¬ (k : Int) < ((splitL 44 l).length : Nat) := (by simpa using q2); omega
      rw [c2, List.drop_length, setP_nil] at hJ
      rw [hJ] at hset
      have hle : ∀ M1, Mv.Sep [pt nb ((splitL 44 l).map str), kp m] M1 → m.le M1 := fun M1 h => h.kept 1 rfl
      (conv => whnf)
      refine ⟨rfl, w54, ?_⟩
      (conv => whnf)
      refine FCalls.mono (class_c hG) ?_
      rintro v m4 ⟨rfl, rfl⟩
      (conv => whnf)
      refine PCalls.mono must_c ?_ ?_
      · rintro v m5 ⟨d1, rfl⟩
        have d1 : classL (has G) = l := by simpa using d1
        (conv => whnf)
        refine ⟨rfl, w54, ?_⟩
        (conv => whnf)
        refine ⟨rfl, w54, by simp, ?_⟩
        (conv => whnf)
        refine ⟨rfl, w54, ?_⟩
        (conv => whnf)
        exact ⟨m, hle _ h, G, by rw [hset]; simp [d1], hG, rfl, rfl⟩
      · rintro x m5 ⟨rfl, d1, rfl⟩
        have d1 : ¬ classL (has G) = l := by simpa using d1
        (conv => whnf)
        exact ⟨_, rfl, fin _ _ (hle _ h) rfl (by rw [hset]; simp [d1])⟩
  · have c1 : l = noneL := by simpa [noneL] using q1
    have hset : setF l = if classL (has G0) = l then some G0 else none := by unfold setF; rw [if_pos c1]
    have hle : ∀ M1, m.le M1 → m.le M1 := fun M1 h => h
    have h := Mem.le_refl m
    have hG := G0_ok
    (conv => whnf)
    refine ⟨rfl, (w54 (G := G0)), ?_⟩
    (conv => whnf)
    refine FCalls.mono (class_c (G := G0) hG) ?_
    rintro v m4 ⟨rfl, rfl⟩
    (conv => whnf)
    refine PCalls.mono must_c ?_ ?_
    · rintro v m5 ⟨d1, rfl⟩
      have d1 : classL (has G0) = l := by simpa using d1
      (conv => whnf)
      refine ⟨rfl, (w54 (G := G0)), ?_⟩
      (conv => whnf)
      refine ⟨rfl, (w54 (G := G0)), by simp, ?_⟩
      (conv => whnf)
      refine ⟨rfl, (w54 (G := G0)), ?_⟩
      (conv => whnf)
      exact ⟨_, hle _ h, G0, by rw [hset]; simp [d1], hG, rfl, rfl⟩
    · rintro x m5 ⟨rfl, d1, rfl⟩
      have d1 : ¬ classL (has G0) = l := by simpa using d1
      (conv => whnf)
      exact ⟨_, rfl, fin _ _ (hle _ h) rfl (by rw [hset]; simp [d1])⟩
end Go.Proofs.YtfjbgmeimipibaaGreatDoor
/- Code: an instruction out of a line. -/
namespace Go.Proofs.YtfjbgmeimipibaaGreatDoor
open Go Go.Mv
set_option maxHeartbeats 2000000
set_option maxRecDepth 10000
set_option linter.unusedVariables false
set_option linter.unusedSimpArgs false
def opF (w : List UInt8) : Int :=
  if nameL 1 = w then 1 else if nameL 2 = w then 2 else if nameL 3 = w then 3 else if nameL 4 = w then 4 else if nameL 5 = w then 5 else if nameL 6 = w then 6
  else if nameL 7 = w then 7 else if nameL 8 = w then 8 else if nameL 9 = w then 9 else if nameL 10 = w then 10 else if nameL 11 = w then 11 else 12
theorem opF_at {w : List UInt8} {j : Nat} (hj : j < 11) (h : ∀ i : Nat, i < j → nameL ((1 + i : Nat) : Int) ≠ w) (hw : nameL ((1 + j : Nat) : Int) = w) : opF w = ((1 + j : Nat) : Int) := by
  have : j = 0 ∨ j = 1 ∨ j = 2 ∨ j = 3 ∨ j = 4 ∨ j = 5 ∨ j = 6 ∨ j = 7 ∨ j = 8 ∨ j = 9 ∨ j = 10 := by omega
  unfold opF
  rcases this with rfl | rfl | rfl | rfl | rfl | rfl | rfl | rfl | rfl | rfl | rfl
  · rw [if_pos (show nameL 1 = w from hw)]; rfl
  · rw [if_neg (show ¬ nameL 1 = w from h 0 (by omega)), if_pos (show nameL 2 = w from hw)]; rfl
  · rw [if_neg (show ¬ nameL 1 = w from h 0 (by omega)), if_neg (show ¬ nameL 2 = w from h 1 (by omega)), if_pos (show nameL 3 = w from hw)]; rfl
  · rw [if_neg (show ¬ nameL 1 = w from h 0 (by omega)), if_neg (show ¬ nameL 2 = w from h 1 (by omega)), if_neg (show ¬ nameL 3 = w from h 2 (by omega)), if_pos (show nameL 4 = w from hw)]; rfl
  · rw [if_neg (show ¬ nameL 1 = w from h 0 (by omega)), if_neg (show ¬ nameL 2 = w from h 1 (by omega)), if_neg (show ¬ nameL 3 = w from h 2 (by omega)), if_neg (show ¬ nameL 4 = w from h 3 (by omega)), if_pos (show nameL 5 = w from hw)]; rfl
  · rw [if_neg (show ¬ nameL 1 = w from h 0 (by omega)), if_neg (show ¬ nameL 2 = w from h 1 (by omega)), if_neg (show ¬ nameL 3 = w from h 2 (by omega)), if_neg (show ¬ nameL 4 = w from h 3 (by omega)), if_neg (show ¬ nameL 5 = w from h 4 (by omega)), if_pos (show nameL 6 = w from hw)]; rfl
  · rw [if_neg (show ¬ nameL 1 = w from h 0 (by omega)), if_neg (show ¬ nameL 2 = w from h 1 (by omega)), if_neg (show ¬ nameL 3 = w from h 2 (by omega)), if_neg (show ¬ nameL 4 = w from h 3 (by omega)), if_neg (show ¬ nameL 5 = w from h 4 (by omega)), if_neg (show ¬ nameL 6 = w from h 5 (by omega)), if_pos (show nameL 7 = w from hw)]; rfl
  · rw [if_neg (show ¬ nameL 1 = w from h 0 (by omega)), if_neg (show ¬ nameL 2 = w from h 1 (by omega)), if_neg (show ¬ nameL 3 = w from h 2 (by omega)), if_neg (show ¬ nameL 4 = w from h 3 (by omega)), if_neg (show ¬ nameL 5 = w from h 4 (by omega)), if_neg (show ¬ nameL 6 = w from h 5 (by omega)), if_neg (show ¬ nameL 7 = w from h 6 (by omega)), if_pos (show nameL 8 = w from hw)]; rfl
  · rw [if_neg (show ¬ nameL 1 = w from h 0 (by omega)), if_neg (show ¬ nameL 2 = w from h 1 (by omega)), if_neg (show ¬ nameL 3 = w from h 2 (by omega)), if_neg (show ¬ nameL 4 = w from h 3 (by omega)), if_neg (show ¬ nameL 5 = w from h 4 (by omega)), if_neg (show ¬ nameL 6 = w from h 5 (by omega)), if_neg (show ¬ nameL 7 = w from h 6 (by omega)), if_neg (show ¬ nameL 8 = w from h 7 (by omega)), if_pos (show nameL 9 = w from hw)]; rfl
  · rw [if_neg (show ¬ nameL 1 = w from h 0 (by omega)), if_neg (show ¬ nameL 2 = w from h 1 (by omega)), if_neg (show ¬ nameL 3 = w from h 2 (by omega)), if_neg (show ¬ nameL 4 = w from h 3 (by omega)), if_neg (show ¬ nameL 5 = w from h 4 (by omega)), if_neg (show ¬ nameL 6 = w from h 5 (by omega)), if_neg (show ¬ nameL 7 = w from h 6 (by omega)), if_neg (show ¬ nameL 8 = w from h 7 (by omega)), if_neg (show ¬ nameL 9 = w from h 8 (by omega)), if_pos (show nameL 10 = w from hw)]; rfl
  · rw [if_neg (show ¬ nameL 1 = w from h 0 (by omega)), if_neg (show ¬ nameL 2 = w from h 1 (by omega)), if_neg (show ¬ nameL 3 = w from h 2 (by omega)), if_neg (show ¬ nameL 4 = w from h 3 (by omega)), if_neg (show ¬ nameL 5 = w from h 4 (by omega)), if_neg (show ¬ nameL 6 = w from h 5 (by omega)), if_neg (show ¬ nameL 7 = w from h 6 (by omega)), if_neg (show ¬ nameL 8 = w from h 7 (by omega)), if_neg (show ¬ nameL 9 = w from h 8 (by omega)), if_neg (show ¬ nameL 10 = w from h 9 (by omega)), if_pos (show nameL 11 = w from hw)]; rfl
theorem opF_no {w : List UInt8} (h : ∀ i : Nat, i < 11 → nameL ((1 + i : Nat) : Int) ≠ w) : opF w = 12 := by
  unfold opF
  rw [if_neg (show ¬ nameL 1 = w from h 0 (by omega)), if_neg (show ¬ nameL 2 = w from h 1 (by omega)), if_neg (show ¬ nameL 3 = w from h 2 (by omega)), if_neg (show ¬ nameL 4 = w from h 3 (by omega)), if_neg (show ¬ nameL 5 = w from h 4 (by omega)), if_neg (show ¬ nameL 6 = w from h 5 (by omega)), if_neg (show ¬ nameL 7 = w from h 6 (by omega)), if_neg (show ¬ nameL 8 = w from h 7 (by omega)), if_neg (show ¬ nameL 9 = w from h 8 (by omega)), if_neg (show ¬ nameL 10 = w from h 9 (by omega)), if_neg (show ¬ nameL 11 = w from h 10 (by omega))]
def bndF (b : List UInt8) : Option Int := if b = [42] then some (-1) else numF b
def rdSet : List (List UInt8) → Option Ins
  | [s] => (setF s).map fun G => ⟨1, 0, 0, 0, 0, 0, ((G 0 : Nat) : Int), ((G 1 : Nat) : Int), ((G 2 : Nat) : Int), ((G 3 : Nat) : Int)⟩
  | _ => none
def rdXY : List (List UInt8) → Option Ins
  | [a, b] => (numF a).bind fun x => (numF b).map fun y => ⟨2, x, y, 0, 0, 0, 0, 0, 0, 0⟩
  | _ => none
def rdX : List (List UInt8) → Option Ins
  | [a] => (numF a).map fun x => ⟨3, x, 0, 0, 0, 0, 0, 0, 0, 0⟩
  | _ => none
def rdO (op : Int) : List (List UInt8) → Option Ins
  | [] => some ⟨op, 0, 0, 0, 0, 0, 0, 0, 0, 0⟩
  | _ => none
def rdN (op : Int) : List (List UInt8) → Option Ins
  | [a] => (numF a).map fun n => ⟨op, 0, 0, n, 0, 0, 0, 0, 0, 0⟩
  | _ => none
def rdT : List (List UInt8) → Option Ins
  | [a, b, c, d, e] => (numF a).bind fun n => (numF b).bind fun mn => (bndF c).bind fun mx => (numF d).bind fun x => (numF e).map fun y => ⟨10, x, y, n, mn, mx, 0, 0, 0, 0⟩
  | _ => none
def readW (op : Int) (r : List (List UInt8)) : Option Ins :=
  if op = 1 then rdSet r else if op = 2 then rdXY r else if op = 3 then rdX r else if op = 4 ∨ op = 5 ∨ op = 11 then rdO op r else if op = 6 ∨ op = 7 ∨ op = 8 ∨ op = 9 then rdN op r
  else if op = 10 then rdT r else none
def readI : List (List UInt8) → Option Ins
  | [] => none
  | w :: r => readW (opF w) r
theorem rdT_1 {a : List UInt8} {r : List (List UInt8)} (h : numF a = none) : rdT (a :: r) = none := by
  unfold rdT
  split
  · rename_i he
    cases he
    rw [h]
    rfl
  · rfl
theorem rdT_2 {a b : List UInt8} {r : List (List UInt8)} (h : numF b = none) : rdT (a :: b :: r) = none := by
  unfold rdT
  split
  · rename_i he
    cases he
    rw [h]
    cases numF a <;> rfl
  · rfl
theorem rdT_3 {a b c : List UInt8} {r : List (List UInt8)} (hc : c ≠ [42]) (h : numF c = none) : rdT (a :: b :: c :: r) = none := by
  have hb : bndF c = none := by unfold bndF; rw [if_neg hc, h]
  unfold rdT
  split
  · rename_i he
    cases he
    rw [hb]
    cases numF a <;> cases numF b <;> rfl
  · rfl
attribute [local irreducible] bndF classL splitL cutL hvs setF numF numOk decVal lowN FCalls PCalls IntKind.wrap bits Mem.set Mem.setCell Mem.setCells YCalls RunP NextP RunU
theorem readI_cons (w : List UInt8) (r : List (List UInt8)) : readI (w :: r) = readW (opF w) r := rfl
theorem inst_c {m : Mem} (hg : Gl m) {l : List UInt8} (hl : l.length < 4294967281) :
    PCalls Tryz.prog 49 [str l] m (fun v m' => ∃ i, readI (splitL 32 l) = some i ∧ v = .agg i.cells.toArray ∧ m' = m) (fun x m' => x = wrongV ∧ readI (splitL 32 l) = none ∧ m' = m) := by
  refine PCalls.less ?_
  refine pcalls_of_vc (T := tbl) (B := bodies) (pr := [99999, 2, 6, 200047, 200066, 200067, 200068]) (DR := dr49) (args := [.v (str l)]) tbl_ok bodies_ok mixed Tryz.func49 rfl (by decide +kernel) (by simp [Tryz.f49]) rfl ?_
  (conv => whnf)
  have fin : ∀ (x : Value) (M : Mem), m.le M → x = wrongV → readI (splitL 32 l) = none → (∃ m'', (∀ b o, m'' b = some o → M b = some o) ∧ x = wrongV ∧ readI (splitL 32 l) = none ∧ m'' = m) := fun x M hM h1 h2 => ⟨m, hM, h1, h2, rfl⟩
  have hword : ∀ w ∈ splitL 32 l, w.length ≤ l.length := fun w hw => split_le hw
  refine FCalls.mono (split_c hg (c := 32) hl) ?_
  rintro v m2 ⟨nb, hb, rfl, he⟩
  have h0 := (Sep.init m).new' (l := (splitL 32 l).map str) hb he
  have hw : Wd m2 (some ⟨nb, 0, none⟩) (splitL 32 l) (splitL 32 l).length := ⟨Nat.le_refl _, .inr ⟨_, rfl, fun k v hk => by rw [add_mk, Nat.zero_add]; exact h0.cell 0 rfl hk⟩⟩
  have hm2 := h0.kept 1 rfl
  clear h0 hb he
  obtain ⟨ws, hws⟩ : ∃ ws, ws = splitL 32 l := ⟨_, rfl⟩
  rw [← hws] at hw hword fin ⊢
  (conv => whnf)
  intro b3 m3 hb he
  have h := (Sep.init m2).new' (l := [.slice none 0 0]) hb (he.trans rfl)
  clear hb he
  (conv => whnf)
  refine ⟨h.room 0 (i := 0) rfl rfl, ?_⟩
  (conv => whnf)
  intro m4 he
  replace h := h.put' 0 he rfl
  clear he
  have hk : ∀ {M : Mem} {c : List Value}, Mv.Sep [pt b3 c, kp m2] M → m.le M := fun h => Mem.le_trans hm2 (h.kept 1 rfl)
  (conv => whnf)
  refine PCalls.mono (next_c (ws := ws) (h.cell 0 (i := 0) rfl rfl) (h.blk 0 rfl).fz (hw.more (h.kept 1 rfl))) ?_ ?_
  rotate_left
  · rintro x mE ⟨rfl, hnil, rfl⟩
    (conv => whnf)
    exact ⟨_, rfl, fin _ _ (hk h) rfl (by rw [hnil]; rfl)⟩
  rintro v m5 ⟨first, r, hr, rfl, he⟩
  replace h := h.put' 0 he rfl
  clear he
  subst hr
  replace hw := hw.on
  have hI := readI_cons first r
  (conv => whnf)
  refine loop_keep [2, 3, 5] Nat (fun s => [(4, .v (.int .i64 ((1 + s : Nat) : Int)))]) (fun _ => _) (fun _ => m5) (fun s => s ≤ 11 ∧ ∀ i : Nat, i < s → nameL ((1 + i : Nat) : Int) ≠ first) (fun s => 11 - s) 0 ⟨rfl, trivial⟩ rfl rfl ⟨by omega, fun i hi => by omega⟩ ?_
  (conv => whnf)
  refine ⟨rfl, ?_⟩
  rintro s ⟨hs, hno⟩
  (conv => whnf)
  refine brk_intro (fun q1 => ?_) (fun q1 => ?_)
  · have c1 : s < 11 := by have : ((1 + s : Nat) : Int) ≤ 11 := (by simpa using q1); omega
    (conv => whnf)
    refine FCalls.mono (name_c (op := ((1 + s : Nat) : Int)) (by omega) (by omega)) ?_
    rintro v m6 ⟨rfl, rfl⟩
    (conv => whnf)
    refine brk_intro (fun q2 => ?_) (fun q2 => ?_)
    · have c2 : nameL ((1 + s : Nat) : Int) ≠ first := by simpa using q2
      have step1 : IntKind.i64.wrap (((1 + s : Nat) : Int) + 1) = ((1 + (s + 1) : Nat) : Int) := by rw [wrap_id (by omega) (by omega)]; omega
      (conv => whnf)
      rw [step1]
      exact ⟨s + 1, le_eq ⟨rfl, rfl, rfl, rfl, trivial⟩ rfl rfl rfl, ⟨by omega, fun i hi => by
        rcases Nat.lt_or_ge i s with h | h
        · exact hno i h
        · have : i = s := by omega
          rw [this]; exact c2⟩, by omega⟩
    · have c2 : nameL ((1 + s : Nat) : Int) = first := by simpa using q2
      rw [opF_at c1 hno c2] at hI
      rcases (show s = 0 ∨ s = 1 ∨ s = 2 ∨ s = 3 ∨ s = 4 ∨ s = 5 ∨ s = 6 ∨ s = 7 ∨ s = 8 ∨ s = 9 ∨ s = 10 by omega) with rfl | rfl | rfl | rfl | rfl | rfl | rfl | rfl | rfl | rfl | rfl
      · (conv => whnf)
        refine FCalls.mono (ofk (u := ⟨true, false, false, false, false, true⟩) rfl) ?_
        rintro v m6 ⟨rfl, rfl⟩
        (conv => whnf)
        refine PCalls.mono must_c ?_ (fun x mm hh => by cases hh.2.1)
        rintro v m7 ⟨_, rfl⟩
        (conv => whnf)
        intro b8 m8 hb he
        replace h := h.new' (l := (tbl.at 56).zero.list) hb he
        clear hb he
        (conv => whnf)
        refine ⟨h.rooms 0 (i := 0) rfl (by decide), fun m9 he => ?_⟩
        replace h : Mv.Sep [pt b8 (Ins.cells ⟨1, 0, 0, 0, 0, 0, 0, 0, 0, 0⟩), pt b3 [.slice (onA (some ⟨nb, 0, none⟩) (first :: r).length) r.length ((first :: r).length - 1)], kp m2] m9 := he ▸ h.putAll 0 (i := 0) (Ins.cells ⟨1, 0, 0, 0, 0, 0, 0, 0, 0, 0⟩) rfl
        clear he
        have hk8 : ∀ {M : Mem} {c d : List Value}, Mv.Sep [pt b8 c, pt b3 d, kp m2] M → m.le M := fun h => Mem.le_trans hm2 (h.kept 2 rfl)
        (conv => whnf)
        refine PCalls.mono (next_c (ws := r) (h.cell 1 (i := 0) rfl rfl) (h.blk 1 rfl).fz (hw.more (h.kept 2 rfl))) ?_ ?_
        rotate_left
        · rintro x mE ⟨rfl, hnil, rfl⟩
          subst hnil
          (conv => whnf)
          exact ⟨_, rfl, fin _ _ (hk8 h) rfl (by rw [hI]; rfl)⟩
        rintro v mN ⟨a, r1, hr, rfl, he⟩
        subst hr
        replace h := h.put' 1 he rfl
        clear he
        replace hw := hw.on
        (conv => whnf)
        refine PCalls.mono (set_c (l := a) (hg.more (hk8 h)) (by have := hword a (by simp); omega)) ?_ ?_
        rotate_left
        · rintro x mE ⟨rfl, hnone, rfl⟩
          (conv => whnf)
          exact ⟨_, rfl, fin _ _ (hk8 h) rfl (by rw [hI]; cases r1 with | nil => (show (setF a).map _ = none; rw [hnone]; rfl) | cons _ _ => rfl)⟩
        rintro v mN ⟨G, hG, hGok, rfl, rfl⟩
        (conv => whnf)
        refine ⟨W G, W_len, rfl, ?_⟩
        (conv => whnf)
        refine ⟨W_len, h.rooms 0 (i := 6) rfl (by show 6 + 4 ≤ 10; omega), ?_⟩
        (conv => whnf)
        intro mS he
        replace h : Mv.Sep [pt b8 (Ins.cells ⟨1, 0, 0, 0, 0, 0, ((G 0 : Nat) : Int), ((G 1 : Nat) : Int), ((G 2 : Nat) : Int), ((G 3 : Nat) : Int)⟩), pt b3 _, kp m2] mS := he ▸ h.putAll 0 (i := 6) (intCells .u64 (W G)) rfl
        clear he
        (conv => whnf)
        refine ⟨_, _, _, h.cell 1 (i := 0) rfl rfl, ?_⟩
        (conv => whnf)
        refine PCalls.mono must_c ?_ ?_
        rotate_left
        · rintro x mE ⟨rfl, d1, rfl⟩
          have d1 : ¬ r1.length = 0 := by have : ¬ ((r1.length : Nat) : Int) = 0 := (by simpa using d1); omega
          obtain ⟨z, zs, rfl⟩ : ∃ z zs, r1 = z :: zs := by
            cases r1 with
            | nil => exact absurd rfl d1
            | cons z zs => exact ⟨z, zs, rfl⟩
          (conv => whnf)
          exact ⟨_, rfl, fin _ _ (hk8 h) rfl (by rw [hI]; rfl)⟩
        rintro v mE ⟨d1, rfl⟩
        have d1 : r1 = [] := by
          have : ((r1.length : Nat) : Int) = 0 := (by simpa using d1)
          exact List.length_eq_zero_iff.1 (by omega)
        subst d1
        (conv => whnf)
        refine ⟨_, h.cell 0 (i := 0) rfl rfl, ?_⟩
        (conv => whnf)
        refine ⟨_, h.cell 0 (i := 1) rfl rfl, ?_⟩
        (conv => whnf)
        refine ⟨_, h.cell 0 (i := 2) rfl rfl, ?_⟩
        (conv => whnf)
        refine ⟨_, h.cell 0 (i := 3) rfl rfl, ?_⟩
        (conv => whnf)
        refine ⟨_, h.cell 0 (i := 4) rfl rfl, ?_⟩
        (conv => whnf)
        refine ⟨_, h.cell 0 (i := 5) rfl rfl, ?_⟩
        (conv => whnf)
        refine ⟨_, h.cell 0 (i := 6) rfl rfl, ?_⟩
        (conv => whnf)
        refine ⟨_, h.cell 0 (i := 7) rfl rfl, ?_⟩
        (conv => whnf)
        refine ⟨_, h.cell 0 (i := 8) rfl rfl, ?_⟩
        (conv => whnf)
        refine ⟨_, h.cell 0 (i := 9) rfl rfl, ?_⟩
        (conv => whnf)
        exact ⟨m, hk8 h, _, by rw [hI]; show (setF a).map _ = _; rw [hG]; rfl, rfl, rfl⟩
      · (conv => whnf)
        refine FCalls.mono (ofk (u := ⟨false, true, true, false, false, false⟩) rfl) ?_
        rintro v m6 ⟨rfl, rfl⟩
        (conv => whnf)
        refine PCalls.mono must_c ?_ (fun x mm hh => by cases hh.2.1)
        rintro v m7 ⟨_, rfl⟩
        (conv => whnf)
        intro b8 m8 hb he
        replace h := h.new' (l := (tbl.at 56).zero.list) hb he
        clear hb he
        (conv => whnf)
        refine ⟨h.rooms 0 (i := 0) rfl (by decide), fun m9 he => ?_⟩
        replace h : Mv.Sep [pt b8 (Ins.cells ⟨2, 0, 0, 0, 0, 0, 0, 0, 0, 0⟩), pt b3 [.slice (onA (some ⟨nb, 0, none⟩) (first :: r).length) r.length ((first :: r).length - 1)], kp m2] m9 := he ▸ h.putAll 0 (i := 0) (Ins.cells ⟨2, 0, 0, 0, 0, 0, 0, 0, 0, 0⟩) rfl
        clear he
        have hk8 : ∀ {M : Mem} {c d : List Value}, Mv.Sep [pt b8 c, pt b3 d, kp m2] M → m.le M := fun h => Mem.le_trans hm2 (h.kept 2 rfl)
        (conv => whnf)
        refine PCalls.mono (next_c (ws := r) (h.cell 1 (i := 0) rfl rfl) (h.blk 1 rfl).fz (hw.more (h.kept 2 rfl))) ?_ ?_
        rotate_left
        · rintro x mE ⟨rfl, hnil, rfl⟩
          subst hnil
          (conv => whnf)
          exact ⟨_, rfl, fin _ _ (hk8 h) rfl (by rw [hI]; rfl)⟩
        rintro v mN ⟨a, r1, hr, rfl, he⟩
        subst hr
        replace h := h.put' 1 he rfl
        clear he
        replace hw := hw.on
        (conv => whnf)
        refine PCalls.mono (number_c (l := a) (by have := hword a (by simp); omega)) ?_ ?_
        rotate_left
        · rintro x mE ⟨rfl, hnone, rfl⟩
          (conv => whnf)
          exact ⟨_, rfl, fin _ _ (hk8 h) rfl (by rw [hI]; cases r1 with | nil => rfl | cons b t => cases t with | nil => (show (numF a).bind _ = none; rw [hnone]; rfl) | cons _ _ => rfl)⟩
        rintro v mN ⟨x, hx, rfl, rfl⟩
        (conv => whnf)
        refine ⟨h.room 0 (i := 1) rfl rfl, ?_⟩
        (conv => whnf)
        intro mS he
        replace h := h.put' 0 he rfl
        clear he
        (conv => whnf)
        refine PCalls.mono (next_c (ws := r1) (h.cell 1 (i := 0) rfl rfl) (h.blk 1 rfl).fz (hw.more (h.kept 2 rfl))) ?_ ?_
        rotate_left
        · rintro x mE ⟨rfl, hnil, rfl⟩
          subst hnil
          (conv => whnf)
          exact ⟨_, rfl, fin _ _ (hk8 h) rfl (by rw [hI]; rfl)⟩
        rintro v mN ⟨b, r2, hr, rfl, he⟩
        subst hr
        replace h := h.put' 1 he rfl
        clear he
        replace hw := hw.on
        (conv => whnf)
        refine PCalls.mono (number_c (l := b) (by have := hword b (by simp); omega)) ?_ ?_
        rotate_left
        · rintro x mE ⟨rfl, hnone, rfl⟩
          (conv => whnf)
          exact ⟨_, rfl, fin _ _ (hk8 h) rfl (by rw [hI]; cases r2 with | nil => (show (numF a).bind _ = none; rw [hx]; show (numF b).map _ = none; rw [hnone]; rfl) | cons _ _ => rfl)⟩
        rintro v mN ⟨y, hy, rfl, rfl⟩
        (conv => whnf)
        refine ⟨h.room 0 (i := 2) rfl rfl, ?_⟩
        (conv => whnf)
        intro mS he
        replace h := h.put' 0 he rfl
        clear he
        (conv => whnf)
        refine ⟨_, _, _, h.cell 1 (i := 0) rfl rfl, ?_⟩
        (conv => whnf)
        refine PCalls.mono must_c ?_ ?_
        rotate_left
        · rintro x mE ⟨rfl, d1, rfl⟩
          have d1 : ¬ r2.length = 0 := by have : ¬ ((r2.length : Nat) : Int) = 0 := (by simpa using d1); omega
          obtain ⟨z, zs, rfl⟩ : ∃ z zs, r2 = z :: zs := by
            cases r2 with
            | nil => exact absurd rfl d1
            | cons z zs => exact ⟨z, zs, rfl⟩
          (conv => whnf)
          exact ⟨_, rfl, fin _ _ (hk8 h) rfl (by rw [hI]; rfl)⟩
        rintro v mE ⟨d1, rfl⟩
        have d1 : r2 = [] := by
          have : ((r2.length : Nat) : Int) = 0 := (by simpa using d1)
          exact List.length_eq_zero_iff.1 (by omega)
        subst d1
        (conv => whnf)
        refine ⟨_, h.cell 0 (i := 0) rfl rfl, ?_⟩
        (conv => whnf)
        refine ⟨_, h.cell 0 (i := 1) rfl rfl, ?_⟩
        (conv => whnf)
        refine ⟨_, h.cell 0 (i := 2) rfl rfl, ?_⟩
        (conv => whnf)
        refine ⟨_, h.cell 0 (i := 3) rfl rfl, ?_⟩
        (conv => whnf)
        refine ⟨_, h.cell 0 (i := 4) rfl rfl, ?_⟩
        (conv => whnf)
        refine ⟨_, h.cell 0 (i := 5) rfl rfl, ?_⟩
        (conv => whnf)
        refine ⟨_, h.cell 0 (i := 6) rfl rfl, ?_⟩
        (conv => whnf)
        refine ⟨_, h.cell 0 (i := 7) rfl rfl, ?_⟩
        (conv => whnf)
        refine ⟨_, h.cell 0 (i := 8) rfl rfl, ?_⟩
        (conv => whnf)
        refine ⟨_, h.cell 0 (i := 9) rfl rfl, ?_⟩
        (conv => whnf)
        exact ⟨m, hk8 h, _, by rw [hI]; show (numF a).bind _ = _; rw [hx]; show (numF b).map _ = _; rw [hy]; rfl, rfl, rfl⟩
      · (conv => whnf)
        refine FCalls.mono (ofk (u := ⟨false, true, false, false, false, false⟩) rfl) ?_
        rintro v m6 ⟨rfl, rfl⟩
        (conv => whnf)
        refine PCalls.mono must_c ?_ (fun x mm hh => by cases hh.2.1)
        rintro v m7 ⟨_, rfl⟩
        (conv => whnf)
        intro b8 m8 hb he
        replace h := h.new' (l := (tbl.at 56).zero.list) hb he
        clear hb he
        (conv => whnf)
        refine ⟨h.rooms 0 (i := 0) rfl (by decide), fun m9 he => ?_⟩
        replace h : Mv.Sep [pt b8 (Ins.cells ⟨3, 0, 0, 0, 0, 0, 0, 0, 0, 0⟩), pt b3 [.slice (onA (some ⟨nb, 0, none⟩) (first :: r).length) r.length ((first :: r).length - 1)], kp m2] m9 := he ▸ h.putAll 0 (i := 0) (Ins.cells ⟨3, 0, 0, 0, 0, 0, 0, 0, 0, 0⟩) rfl
        clear he
        have hk8 : ∀ {M : Mem} {c d : List Value}, Mv.Sep [pt b8 c, pt b3 d, kp m2] M → m.le M := fun h => Mem.le_trans hm2 (h.kept 2 rfl)
        (conv => whnf)
        refine PCalls.mono (next_c (ws := r) (h.cell 1 (i := 0) rfl rfl) (h.blk 1 rfl).fz (hw.more (h.kept 2 rfl))) ?_ ?_
        rotate_left
        · rintro x mE ⟨rfl, hnil, rfl⟩
          subst hnil
          (conv => whnf)
          exact ⟨_, rfl, fin _ _ (hk8 h) rfl (by rw [hI]; rfl)⟩
        rintro v mN ⟨a, r1, hr, rfl, he⟩
        subst hr
        replace h := h.put' 1 he rfl
        clear he
        replace hw := hw.on
        (conv => whnf)
        refine PCalls.mono (number_c (l := a) (by have := hword a (by simp); omega)) ?_ ?_
        rotate_left
        · rintro x mE ⟨rfl, hnone, rfl⟩
          (conv => whnf)
          exact ⟨_, rfl, fin _ _ (hk8 h) rfl (by rw [hI]; cases r1 with | nil => (show (numF a).map _ = none; rw [hnone]; rfl) | cons _ _ => rfl)⟩
        rintro v mN ⟨x, hx, rfl, rfl⟩
        (conv => whnf)
        refine ⟨h.room 0 (i := 1) rfl rfl, ?_⟩
        (conv => whnf)
        intro mS he
        replace h := h.put' 0 he rfl
        clear he
        (conv => whnf)
        refine ⟨_, _, _, h.cell 1 (i := 0) rfl rfl, ?_⟩
        (conv => whnf)
        refine PCalls.mono must_c ?_ ?_
        rotate_left
        · rintro x mE ⟨rfl, d1, rfl⟩
          have d1 : ¬ r1.length = 0 := by have : ¬ ((r1.length : Nat) : Int) = 0 := (by simpa using d1); omega
          obtain ⟨z, zs, rfl⟩ : ∃ z zs, r1 = z :: zs := by
            cases r1 with
            | nil => exact absurd rfl d1
            | cons z zs => exact ⟨z, zs, rfl⟩
          (conv => whnf)
          exact ⟨_, rfl, fin _ _ (hk8 h) rfl (by rw [hI]; rfl)⟩
        rintro v mE ⟨d1, rfl⟩
        have d1 : r1 = [] := by
          have : ((r1.length : Nat) : Int) = 0 := (by simpa using d1)
          exact List.length_eq_zero_iff.1 (by omega)
        subst d1
        (conv => whnf)
        refine ⟨_, h.cell 0 (i := 0) rfl rfl, ?_⟩
        (conv => whnf)
        refine ⟨_, h.cell 0 (i := 1) rfl rfl, ?_⟩
        (conv => whnf)
        refine ⟨_, h.cell 0 (i := 2) rfl rfl, ?_⟩
        (conv => whnf)
        refine ⟨_, h.cell 0 (i := 3) rfl rfl, ?_⟩
        (conv => whnf)
        refine ⟨_, h.cell 0 (i := 4) rfl rfl, ?_⟩
        (conv => whnf)
        refine ⟨_, h.cell 0 (i := 5) rfl rfl, ?_⟩
        (conv => whnf)
        refine ⟨_, h.cell 0 (i := 6) rfl rfl, ?_⟩
        (conv => whnf)
        refine ⟨_, h.cell 0 (i := 7) rfl rfl, ?_⟩
        (conv => whnf)
        refine ⟨_, h.cell 0 (i := 8) rfl rfl, ?_⟩
        (conv => whnf)
        refine ⟨_, h.cell 0 (i := 9) rfl rfl, ?_⟩
        (conv => whnf)
        exact ⟨m, hk8 h, _, by rw [hI]; show (numF a).map _ = _; rw [hx]; rfl, rfl, rfl⟩
      · (conv => whnf)
        refine FCalls.mono (ofk (u := ⟨false, false, false, false, false, true⟩) rfl) ?_
        rintro v m6 ⟨rfl, rfl⟩
        (conv => whnf)
        refine PCalls.mono must_c ?_ (fun x mm hh => by cases hh.2.1)
        rintro v m7 ⟨_, rfl⟩
        (conv => whnf)
        intro b8 m8 hb he
        replace h := h.new' (l := (tbl.at 56).zero.list) hb he
        clear hb he
        (conv => whnf)
        refine ⟨h.rooms 0 (i := 0) rfl (by decide), fun m9 he => ?_⟩
        replace h : Mv.Sep [pt b8 (Ins.cells ⟨4, 0, 0, 0, 0, 0, 0, 0, 0, 0⟩), pt b3 [.slice (onA (some ⟨nb, 0, none⟩) (first :: r).length) r.length ((first :: r).length - 1)], kp m2] m9 := he ▸ h.putAll 0 (i := 0) (Ins.cells ⟨4, 0, 0, 0, 0, 0, 0, 0, 0, 0⟩) rfl
        clear he
        have hk8 : ∀ {M : Mem} {c d : List Value}, Mv.Sep [pt b8 c, pt b3 d, kp m2] M → m.le M := fun h => Mem.le_trans hm2 (h.kept 2 rfl)
        (conv => whnf)
        refine ⟨_, _, _, h.cell 1 (i := 0) rfl rfl, ?_⟩
        (conv => whnf)
        refine PCalls.mono must_c ?_ ?_
        rotate_left
        · rintro x mE ⟨rfl, d1, rfl⟩
          have d1 : ¬ r.length = 0 := by have : ¬ ((r.length : Nat) : Int) = 0 := (by simpa using d1); omega
          obtain ⟨z, zs, rfl⟩ : ∃ z zs, r = z :: zs := by
            cases r with
            | nil => exact absurd rfl d1
            | cons z zs => exact ⟨z, zs, rfl⟩
          (conv => whnf)
          exact ⟨_, rfl, fin _ _ (hk8 h) rfl (by rw [hI]; rfl)⟩
        rintro v mE ⟨d1, rfl⟩
        have d1 : r = [] := by
          have : ((r.length : Nat) : Int) = 0 := (by simpa using d1)
          exact List.length_eq_zero_iff.1 (by omega)
        subst d1
        (conv => whnf)
        refine ⟨_, h.cell 0 (i := 0) rfl rfl, ?_⟩
        (conv => whnf)
        refine ⟨_, h.cell 0 (i := 1) rfl rfl, ?_⟩
        (conv => whnf)
        refine ⟨_, h.cell 0 (i := 2) rfl rfl, ?_⟩
        (conv => whnf)
        refine ⟨_, h.cell 0 (i := 3) rfl rfl, ?_⟩
        (conv => whnf)
        refine ⟨_, h.cell 0 (i := 4) rfl rfl, ?_⟩
        (conv => whnf)
        refine ⟨_, h.cell 0 (i := 5) rfl rfl, ?_⟩
        (conv => whnf)
        refine ⟨_, h.cell 0 (i := 6) rfl rfl, ?_⟩
        (conv => whnf)
        refine ⟨_, h.cell 0 (i := 7) rfl rfl, ?_⟩
        (conv => whnf)
        refine ⟨_, h.cell 0 (i := 8) rfl rfl, ?_⟩
        (conv => whnf)
        refine ⟨_, h.cell 0 (i := 9) rfl rfl, ?_⟩
        (conv => whnf)
        exact ⟨m, hk8 h, _, by rw [hI]; rfl, rfl, rfl⟩
      · (conv => whnf)
        refine FCalls.mono (ofk (u := ⟨false, false, false, false, false, true⟩) rfl) ?_
        rintro v m6 ⟨rfl, rfl⟩
        (conv => whnf)
        refine PCalls.mono must_c ?_ (fun x mm hh => by cases hh.2.1)
        rintro v m7 ⟨_, rfl⟩
        (conv => whnf)
        intro b8 m8 hb he
        replace h := h.new' (l := (tbl.at 56).zero.list) hb he
        clear hb he
        (conv => whnf)
        refine ⟨h.rooms 0 (i := 0) rfl (by decide), fun m9 he => ?_⟩
        replace h : Mv.Sep [pt b8 (Ins.cells ⟨5, 0, 0, 0, 0, 0, 0, 0, 0, 0⟩), pt b3 [.slice (onA (some ⟨nb, 0, none⟩) (first :: r).length) r.length ((first :: r).length - 1)], kp m2] m9 := he ▸ h.putAll 0 (i := 0) (Ins.cells ⟨5, 0, 0, 0, 0, 0, 0, 0, 0, 0⟩) rfl
        clear he
        have hk8 : ∀ {M : Mem} {c d : List Value}, Mv.Sep [pt b8 c, pt b3 d, kp m2] M → m.le M := fun h => Mem.le_trans hm2 (h.kept 2 rfl)
        (conv => whnf)
        refine ⟨_, _, _, h.cell 1 (i := 0) rfl rfl, ?_⟩
        (conv => whnf)
        refine PCalls.mono must_c ?_ ?_
        rotate_left
        · rintro x mE ⟨rfl, d1, rfl⟩
          have d1 : ¬ r.length = 0 := by have : ¬ ((r.length : Nat) : Int) = 0 := (by simpa using d1); omega
          obtain ⟨z, zs, rfl⟩ : ∃ z zs, r = z :: zs := by
            cases r with
            | nil => exact absurd rfl d1
            | cons z zs => exact ⟨z, zs, rfl⟩
          (conv => whnf)
          exact ⟨_, rfl, fin _ _ (hk8 h) rfl (by rw [hI]; rfl)⟩
        rintro v mE ⟨d1, rfl⟩
        have d1 : r = [] := by
          have : ((r.length : Nat) : Int) = 0 := (by simpa using d1)
          exact List.length_eq_zero_iff.1 (by omega)
        subst d1
        (conv => whnf)
        refine ⟨_, h.cell 0 (i := 0) rfl rfl, ?_⟩
        (conv => whnf)
        refine ⟨_, h.cell 0 (i := 1) rfl rfl, ?_⟩
        (conv => whnf)
        refine ⟨_, h.cell 0 (i := 2) rfl rfl, ?_⟩
        (conv => whnf)
        refine ⟨_, h.cell 0 (i := 3) rfl rfl, ?_⟩
        (conv => whnf)
        refine ⟨_, h.cell 0 (i := 4) rfl rfl, ?_⟩
        (conv => whnf)
        refine ⟨_, h.cell 0 (i := 5) rfl rfl, ?_⟩
        (conv => whnf)
        refine ⟨_, h.cell 0 (i := 6) rfl rfl, ?_⟩
        (conv => whnf)
        refine ⟨_, h.cell 0 (i := 7) rfl rfl, ?_⟩
        (conv => whnf)
        refine ⟨_, h.cell 0 (i := 8) rfl rfl, ?_⟩
        (conv => whnf)
        refine ⟨_, h.cell 0 (i := 9) rfl rfl, ?_⟩
        (conv => whnf)
        exact ⟨m, hk8 h, _, by rw [hI]; rfl, rfl, rfl⟩
      · (conv => whnf)
        refine FCalls.mono (ofk (u := ⟨false, false, false, true, false, true⟩) rfl) ?_
        rintro v m6 ⟨rfl, rfl⟩
        (conv => whnf)
        refine PCalls.mono must_c ?_ (fun x mm hh => by cases hh.2.1)
        rintro v m7 ⟨_, rfl⟩
        (conv => whnf)
        intro b8 m8 hb he
        replace h := h.new' (l := (tbl.at 56).zero.list) hb he
        clear hb he
        (conv => whnf)
        refine ⟨h.rooms 0 (i := 0) rfl (by decide), fun m9 he => ?_⟩
        replace h : Mv.Sep [pt b8 (Ins.cells ⟨6, 0, 0, 0, 0, 0, 0, 0, 0, 0⟩), pt b3 [.slice (onA (some ⟨nb, 0, none⟩) (first :: r).length) r.length ((first :: r).length - 1)], kp m2] m9 := he ▸ h.putAll 0 (i := 0) (Ins.cells ⟨6, 0, 0, 0, 0, 0, 0, 0, 0, 0⟩) rfl
        clear he
        have hk8 : ∀ {M : Mem} {c d : List Value}, Mv.Sep [pt b8 c, pt b3 d, kp m2] M → m.le M := fun h => Mem.le_trans hm2 (h.kept 2 rfl)
        (conv => whnf)
        refine PCalls.mono (next_c (ws := r) (h.cell 1 (i := 0) rfl rfl) (h.blk 1 rfl).fz (hw.more (h.kept 2 rfl))) ?_ ?_
        rotate_left
        · rintro x mE ⟨rfl, hnil, rfl⟩
          subst hnil
          (conv => whnf)
          exact ⟨_, rfl, fin _ _ (hk8 h) rfl (by rw [hI]; rfl)⟩
        rintro v mN ⟨a, r1, hr, rfl, he⟩
        subst hr
        replace h := h.put' 1 he rfl
        clear he
        replace hw := hw.on
        (conv => whnf)
        refine PCalls.mono (number_c (l := a) (by have := hword a (by simp); omega)) ?_ ?_
        rotate_left
        · rintro x mE ⟨rfl, hnone, rfl⟩
          (conv => whnf)
          exact ⟨_, rfl, fin _ _ (hk8 h) rfl (by rw [hI]; cases r1 with | nil => (show (numF a).map _ = none; rw [hnone]; rfl) | cons _ _ => rfl)⟩
        rintro v mN ⟨x, hx, rfl, rfl⟩
        (conv => whnf)
        refine ⟨h.room 0 (i := 3) rfl rfl, ?_⟩
        (conv => whnf)
        intro mS he
        replace h := h.put' 0 he rfl
        clear he
        (conv => whnf)
        refine ⟨_, _, _, h.cell 1 (i := 0) rfl rfl, ?_⟩
        (conv => whnf)
        refine PCalls.mono must_c ?_ ?_
        rotate_left
        · rintro x mE ⟨rfl, d1, rfl⟩
          have d1 : ¬ r1.length = 0 := by have : ¬ ((r1.length : Nat) : Int) = 0 := (by simpa using d1); omega
          obtain ⟨z, zs, rfl⟩ : ∃ z zs, r1 = z :: zs := by
            cases r1 with
            | nil => exact absurd rfl d1
            | cons z zs => exact ⟨z, zs, rfl⟩
          (conv => whnf)
          exact ⟨_, rfl, fin _ _ (hk8 h) rfl (by rw [hI]; rfl)⟩
        rintro v mE ⟨d1, rfl⟩
        have d1 : r1 = [] := by
          have : ((r1.length : Nat) : Int) = 0 := (by simpa using d1)
          exact List.length_eq_zero_iff.1 (by omega)
        subst d1
        (conv => whnf)
        refine ⟨_, h.cell 0 (i := 0) rfl rfl, ?_⟩
        (conv => whnf)
        refine ⟨_, h.cell 0 (i := 1) rfl rfl, ?_⟩
        (conv => whnf)
        refine ⟨_, h.cell 0 (i := 2) rfl rfl, ?_⟩
        (conv => whnf)
        refine ⟨_, h.cell 0 (i := 3) rfl rfl, ?_⟩
        (conv => whnf)
        refine ⟨_, h.cell 0 (i := 4) rfl rfl, ?_⟩
        (conv => whnf)
        refine ⟨_, h.cell 0 (i := 5) rfl rfl, ?_⟩
        (conv => whnf)
        refine ⟨_, h.cell 0 (i := 6) rfl rfl, ?_⟩
        (conv => whnf)
        refine ⟨_, h.cell 0 (i := 7) rfl rfl, ?_⟩
        (conv => whnf)
        refine ⟨_, h.cell 0 (i := 8) rfl rfl, ?_⟩
        (conv => whnf)
        refine ⟨_, h.cell 0 (i := 9) rfl rfl, ?_⟩
        (conv => whnf)
        exact ⟨m, hk8 h, _, by rw [hI]; show (numF a).map _ = _; rw [hx]; rfl, rfl, rfl⟩
      · (conv => whnf)
        refine FCalls.mono (ofk (u := ⟨false, false, false, true, false, true⟩) rfl) ?_
        rintro v m6 ⟨rfl, rfl⟩
        (conv => whnf)
        refine PCalls.mono must_c ?_ (fun x mm hh => by cases hh.2.1)
        rintro v m7 ⟨_, rfl⟩
        (conv => whnf)
        intro b8 m8 hb he
        replace h := h.new' (l := (tbl.at 56).zero.list) hb he
        clear hb he
        (conv => whnf)
        refine ⟨h.rooms 0 (i := 0) rfl (by decide), fun m9 he => ?_⟩
        replace h : Mv.Sep [pt b8 (Ins.cells ⟨7, 0, 0, 0, 0, 0, 0, 0, 0, 0⟩), pt b3 [.slice (onA (some ⟨nb, 0, none⟩) (first :: r).length) r.length ((first :: r).length - 1)], kp m2] m9 := he ▸ h.putAll 0 (i := 0) (Ins.cells ⟨7, 0, 0, 0, 0, 0, 0, 0, 0, 0⟩) rfl
        clear he
        have hk8 : ∀ {M : Mem} {c d : List Value}, Mv.Sep [pt b8 c, pt b3 d, kp m2] M → m.le M := fun h => Mem.le_trans hm2 (h.kept 2 rfl)
        (conv => whnf)
        refine PCalls.mono (next_c (ws := r) (h.cell 1 (i := 0) rfl rfl) (h.blk 1 rfl).fz (hw.more (h.kept 2 rfl))) ?_ ?_
        rotate_left
        · rintro x mE ⟨rfl, hnil, rfl⟩
          subst hnil
          (conv => whnf)
          exact ⟨_, rfl, fin _ _ (hk8 h) rfl (by rw [hI]; rfl)⟩
        rintro v mN ⟨a, r1, hr, rfl, he⟩
        subst hr
        replace h := h.put' 1 he rfl
        clear he
        replace hw := hw.on
        (conv => whnf)
        refine PCalls.mono (number_c (l := a) (by have := hword a (by simp); omega)) ?_ ?_
        rotate_left
        · rintro x mE ⟨rfl, hnone, rfl⟩
          (conv => whnf)
          exact ⟨_, rfl, fin _ _ (hk8 h) rfl (by rw [hI]; cases r1 with | nil => (show (numF a).map _ = none; rw [hnone]; rfl) | cons _ _ => rfl)⟩
        rintro v mN ⟨x, hx, rfl, rfl⟩
        (conv => whnf)
        refine ⟨h.room 0 (i := 3) rfl rfl, ?_⟩
        (conv => whnf)
        intro mS he
        replace h := h.put' 0 he rfl
        clear he
        (conv => whnf)
        refine ⟨_, _, _, h.cell 1 (i := 0) rfl rfl, ?_⟩
        (conv => whnf)
        refine PCalls.mono must_c ?_ ?_
        rotate_left
        · rintro x mE ⟨rfl, d1, rfl⟩
          have d1 : ¬ r1.length = 0 := by have : ¬ ((r1.length : Nat) : Int) = 0 := (by simpa using d1); omega
          obtain ⟨z, zs, rfl⟩ : ∃ z zs, r1 = z :: zs := by
            cases r1 with
            | nil => exact absurd rfl d1
            | cons z zs => exact ⟨z, zs, rfl⟩
          (conv => whnf)
          exact ⟨_, rfl, fin _ _ (hk8 h) rfl (by rw [hI]; rfl)⟩
        rintro v mE ⟨d1, rfl⟩
        have d1 : r1 = [] := by
          have : ((r1.length : Nat) : Int) = 0 := (by simpa using d1)
          exact List.length_eq_zero_iff.1 (by omega)
        subst d1
        (conv => whnf)
        refine ⟨_, h.cell 0 (i := 0) rfl rfl, ?_⟩
        (conv => whnf)
        refine ⟨_, h.cell 0 (i := 1) rfl rfl, ?_⟩
        (conv => whnf)
        refine ⟨_, h.cell 0 (i := 2) rfl rfl, ?_⟩
        (conv => whnf)
        refine ⟨_, h.cell 0 (i := 3) rfl rfl, ?_⟩
        (conv => whnf)
        refine ⟨_, h.cell 0 (i := 4) rfl rfl, ?_⟩
        (conv => whnf)
        refine ⟨_, h.cell 0 (i := 5) rfl rfl, ?_⟩
        (conv => whnf)
        refine ⟨_, h.cell 0 (i := 6) rfl rfl, ?_⟩
        (conv => whnf)
        refine ⟨_, h.cell 0 (i := 7) rfl rfl, ?_⟩
        (conv => whnf)
        refine ⟨_, h.cell 0 (i := 8) rfl rfl, ?_⟩
        (conv => whnf)
        refine ⟨_, h.cell 0 (i := 9) rfl rfl, ?_⟩
        (conv => whnf)
        exact ⟨m, hk8 h, _, by rw [hI]; show (numF a).map _ = _; rw [hx]; rfl, rfl, rfl⟩
      · (conv => whnf)
        refine FCalls.mono (ofk (u := ⟨false, false, false, true, false, true⟩) rfl) ?_
        rintro v m6 ⟨rfl, rfl⟩
        (conv => whnf)
        refine PCalls.mono must_c ?_ (fun x mm hh => by cases hh.2.1)
        rintro v m7 ⟨_, rfl⟩
        (conv => whnf)
        intro b8 m8 hb he
        replace h := h.new' (l := (tbl.at 56).zero.list) hb he
        clear hb he
        (conv => whnf)
        refine ⟨h.rooms 0 (i := 0) rfl (by decide), fun m9 he => ?_⟩
        replace h : Mv.Sep [pt b8 (Ins.cells ⟨8, 0, 0, 0, 0, 0, 0, 0, 0, 0⟩), pt b3 [.slice (onA (some ⟨nb, 0, none⟩) (first :: r).length) r.length ((first :: r).length - 1)], kp m2] m9 := he ▸ h.putAll 0 (i := 0) (Ins.cells ⟨8, 0, 0, 0, 0, 0, 0, 0, 0, 0⟩) rfl
        clear he
        have hk8 : ∀ {M : Mem} {c d : List Value}, Mv.Sep [pt b8 c, pt b3 d, kp m2] M → m.le M := fun h => Mem.le_trans hm2 (h.kept 2 rfl)
        (conv => whnf)
        refine PCalls.mono (next_c (ws := r) (h.cell 1 (i := 0) rfl rfl) (h.blk 1 rfl).fz (hw.more (h.kept 2 rfl))) ?_ ?_
        rotate_left
        · rintro x mE ⟨rfl, hnil, rfl⟩
          subst hnil
          (conv => whnf)
          exact ⟨_, rfl, fin _ _ (hk8 h) rfl (by rw [hI]; rfl)⟩
        rintro v mN ⟨a, r1, hr, rfl, he⟩
        subst hr
        replace h := h.put' 1 he rfl
        clear he
        replace hw := hw.on
        (conv => whnf)
        refine PCalls.mono (number_c (l := a) (by have := hword a (by simp); omega)) ?_ ?_
        rotate_left
        · rintro x mE ⟨rfl, hnone, rfl⟩
          (conv => whnf)
          exact ⟨_, rfl, fin _ _ (hk8 h) rfl (by rw [hI]; cases r1 with | nil => (show (numF a).map _ = none; rw [hnone]; rfl) | cons _ _ => rfl)⟩
        rintro v mN ⟨x, hx, rfl, rfl⟩
        (conv => whnf)
        refine ⟨h.room 0 (i := 3) rfl rfl, ?_⟩
        (conv => whnf)
        intro mS he
        replace h := h.put' 0 he rfl
        clear he
        (conv => whnf)
        refine ⟨_, _, _, h.cell 1 (i := 0) rfl rfl, ?_⟩
        (conv => whnf)
        refine PCalls.mono must_c ?_ ?_
        rotate_left
        · rintro x mE ⟨rfl, d1, rfl⟩
          have d1 : ¬ r1.length = 0 := by have : ¬ ((r1.length : Nat) : Int) = 0 := (by simpa using d1); omega
          obtain ⟨z, zs, rfl⟩ : ∃ z zs, r1 = z :: zs := by
            cases r1 with
            | nil => exact absurd rfl d1
            | cons z zs => exact ⟨z, zs, rfl⟩
          (conv => whnf)
          exact ⟨_, rfl, fin _ _ (hk8 h) rfl (by rw [hI]; rfl)⟩
        rintro v mE ⟨d1, rfl⟩
        have d1 : r1 = [] := by
          have : ((r1.length : Nat) : Int) = 0 := (by simpa using d1)
          exact List.length_eq_zero_iff.1 (by omega)
        subst d1
        (conv => whnf)
        refine ⟨_, h.cell 0 (i := 0) rfl rfl, ?_⟩
        (conv => whnf)
        refine ⟨_, h.cell 0 (i := 1) rfl rfl, ?_⟩
        (conv => whnf)
        refine ⟨_, h.cell 0 (i := 2) rfl rfl, ?_⟩
        (conv => whnf)
        refine ⟨_, h.cell 0 (i := 3) rfl rfl, ?_⟩
        (conv => whnf)
        refine ⟨_, h.cell 0 (i := 4) rfl rfl, ?_⟩
        (conv => whnf)
        refine ⟨_, h.cell 0 (i := 5) rfl rfl, ?_⟩
        (conv => whnf)
        refine ⟨_, h.cell 0 (i := 6) rfl rfl, ?_⟩
        (conv => whnf)
        refine ⟨_, h.cell 0 (i := 7) rfl rfl, ?_⟩
        (conv => whnf)
        refine ⟨_, h.cell 0 (i := 8) rfl rfl, ?_⟩
        (conv => whnf)
        refine ⟨_, h.cell 0 (i := 9) rfl rfl, ?_⟩
        (conv => whnf)
        exact ⟨m, hk8 h, _, by rw [hI]; show (numF a).map _ = _; rw [hx]; rfl, rfl, rfl⟩
      · (conv => whnf)
        refine FCalls.mono (ofk (u := ⟨false, false, false, false, true, true⟩) rfl) ?_
        rintro v m6 ⟨rfl, rfl⟩
        (conv => whnf)
        refine PCalls.mono must_c ?_ (fun x mm hh => by cases hh.2.1)
        rintro v m7 ⟨_, rfl⟩
        (conv => whnf)
        intro b8 m8 hb he
        replace h := h.new' (l := (tbl.at 56).zero.list) hb he
        clear hb he
        (conv => whnf)
        refine ⟨h.rooms 0 (i := 0) rfl (by decide), fun m9 he => ?_⟩
        replace h : Mv.Sep [pt b8 (Ins.cells ⟨9, 0, 0, 0, 0, 0, 0, 0, 0, 0⟩), pt b3 [.slice (onA (some ⟨nb, 0, none⟩) (first :: r).length) r.length ((first :: r).length - 1)], kp m2] m9 := he ▸ h.putAll 0 (i := 0) (Ins.cells ⟨9, 0, 0, 0, 0, 0, 0, 0, 0, 0⟩) rfl
        clear he
        have hk8 : ∀ {M : Mem} {c d : List Value}, Mv.Sep [pt b8 c, pt b3 d, kp m2] M → m.le M := fun h => Mem.le_trans hm2 (h.kept 2 rfl)
        (conv => whnf)
        refine PCalls.mono (next_c (ws := r) (h.cell 1 (i := 0) rfl rfl) (h.blk 1 rfl).fz (hw.more (h.kept 2 rfl))) ?_ ?_
        rotate_left
        · rintro x mE ⟨rfl, hnil, rfl⟩
          subst hnil
          (conv => whnf)
          exact ⟨_, rfl, fin _ _ (hk8 h) rfl (by rw [hI]; rfl)⟩
        rintro v mN ⟨a, r1, hr, rfl, he⟩
        subst hr
        replace h := h.put' 1 he rfl
        clear he
        replace hw := hw.on
        (conv => whnf)
        refine PCalls.mono (number_c (l := a) (by have := hword a (by simp); omega)) ?_ ?_
        rotate_left
        · rintro x mE ⟨rfl, hnone, rfl⟩
          (conv => whnf)
          exact ⟨_, rfl, fin _ _ (hk8 h) rfl (by rw [hI]; cases r1 with | nil => (show (numF a).map _ = none; rw [hnone]; rfl) | cons _ _ => rfl)⟩
        rintro v mN ⟨x, hx, rfl, rfl⟩
        (conv => whnf)
        refine ⟨h.room 0 (i := 3) rfl rfl, ?_⟩
        (conv => whnf)
        intro mS he
        replace h := h.put' 0 he rfl
        clear he
        (conv => whnf)
        refine ⟨_, _, _, h.cell 1 (i := 0) rfl rfl, ?_⟩
        (conv => whnf)
        refine PCalls.mono must_c ?_ ?_
        rotate_left
        · rintro x mE ⟨rfl, d1, rfl⟩
          have d1 : ¬ r1.length = 0 := by have : ¬ ((r1.length : Nat) : Int) = 0 := (by simpa using d1); omega
          obtain ⟨z, zs, rfl⟩ : ∃ z zs, r1 = z :: zs := by
            cases r1 with
            | nil => exact absurd rfl d1
            | cons z zs => exact ⟨z, zs, rfl⟩
          (conv => whnf)
          exact ⟨_, rfl, fin _ _ (hk8 h) rfl (by rw [hI]; rfl)⟩
        rintro v mE ⟨d1, rfl⟩
        have d1 : r1 = [] := by
          have : ((r1.length : Nat) : Int) = 0 := (by simpa using d1)
          exact List.length_eq_zero_iff.1 (by omega)
        subst d1
        (conv => whnf)
        refine ⟨_, h.cell 0 (i := 0) rfl rfl, ?_⟩
        (conv => whnf)
        refine ⟨_, h.cell 0 (i := 1) rfl rfl, ?_⟩
        (conv => whnf)
        refine ⟨_, h.cell 0 (i := 2) rfl rfl, ?_⟩
        (conv => whnf)
        refine ⟨_, h.cell 0 (i := 3) rfl rfl, ?_⟩
        (conv => whnf)
        refine ⟨_, h.cell 0 (i := 4) rfl rfl, ?_⟩
        (conv => whnf)
        refine ⟨_, h.cell 0 (i := 5) rfl rfl, ?_⟩
        (conv => whnf)
        refine ⟨_, h.cell 0 (i := 6) rfl rfl, ?_⟩
        (conv => whnf)
        refine ⟨_, h.cell 0 (i := 7) rfl rfl, ?_⟩
        (conv => whnf)
        refine ⟨_, h.cell 0 (i := 8) rfl rfl, ?_⟩
        (conv => whnf)
        refine ⟨_, h.cell 0 (i := 9) rfl rfl, ?_⟩
        (conv => whnf)
        exact ⟨m, hk8 h, _, by rw [hI]; show (numF a).map _ = _; rw [hx]; rfl, rfl, rfl⟩
      · (conv => whnf)
        refine FCalls.mono (ofk (u := ⟨false, true, true, false, true, false⟩) rfl) ?_
        rintro v m6 ⟨rfl, rfl⟩
        (conv => whnf)
        refine PCalls.mono must_c ?_ (fun x mm hh => by cases hh.2.1)
        rintro v m7 ⟨_, rfl⟩
        (conv => whnf)
        intro b8 m8 hb he
        replace h := h.new' (l := (tbl.at 56).zero.list) hb he
        clear hb he
        (conv => whnf)
        refine ⟨h.rooms 0 (i := 0) rfl (by decide), fun m9 he => ?_⟩
        replace h : Mv.Sep [pt b8 (Ins.cells ⟨10, 0, 0, 0, 0, 0, 0, 0, 0, 0⟩), pt b3 [.slice (onA (some ⟨nb, 0, none⟩) (first :: r).length) r.length ((first :: r).length - 1)], kp m2] m9 := he ▸ h.putAll 0 (i := 0) (Ins.cells ⟨10, 0, 0, 0, 0, 0, 0, 0, 0, 0⟩) rfl
        clear he
        have hk8 : ∀ {M : Mem} {c d : List Value}, Mv.Sep [pt b8 c, pt b3 d, kp m2] M → m.le M := fun h => Mem.le_trans hm2 (h.kept 2 rfl)
        (conv => whnf)
        refine PCalls.mono (next_c (ws := r) (h.cell 1 (i := 0) rfl rfl) (h.blk 1 rfl).fz (hw.more (h.kept 2 rfl))) ?_ ?_
        rotate_left
        · rintro x mE ⟨rfl, hnil, rfl⟩
          subst hnil
          (conv => whnf)
          exact ⟨_, rfl, fin _ _ (hk8 h) rfl (by rw [hI]; rfl)⟩
        rintro v mN ⟨a, r1, hr, rfl, he⟩
        subst hr
        replace h := h.put' 1 he rfl
        clear he
        replace hw := hw.on
        (conv => whnf)
        refine PCalls.mono (number_c (l := a) (by have := hword a (by simp); omega)) ?_ ?_
        rotate_left
        · rintro x mE ⟨rfl, hnone, rfl⟩
          (conv => whnf)
          exact ⟨_, rfl, fin _ _ (hk8 h) rfl (by rw [hI]; exact rdT_1 hnone)⟩
        rintro v mN ⟨n, hn, rfl, rfl⟩
        (conv => whnf)
        refine ⟨h.room 0 (i := 3) rfl rfl, ?_⟩
        (conv => whnf)
        intro mS he
        replace h := h.put' 0 he rfl
        clear he
        (conv => whnf)
        refine PCalls.mono (next_c (ws := r1) (h.cell 1 (i := 0) rfl rfl) (h.blk 1 rfl).fz (hw.more (h.kept 2 rfl))) ?_ ?_
        rotate_left
        · rintro x mE ⟨rfl, hnil, rfl⟩
          subst hnil
          (conv => whnf)
          exact ⟨_, rfl, fin _ _ (hk8 h) rfl (by rw [hI]; rfl)⟩
        rintro v mN ⟨b, r2, hr, rfl, he⟩
        subst hr
        replace h := h.put' 1 he rfl
        clear he
        replace hw := hw.on
        (conv => whnf)
        refine PCalls.mono (number_c (l := b) (by have := hword b (by simp); omega)) ?_ ?_
        rotate_left
        · rintro x mE ⟨rfl, hnone, rfl⟩
          (conv => whnf)
          exact ⟨_, rfl, fin _ _ (hk8 h) rfl (by rw [hI]; exact rdT_2 hnone)⟩
        rintro v mN ⟨mn, hmn, rfl, rfl⟩
        (conv => whnf)
        refine ⟨h.room 0 (i := 4) rfl rfl, ?_⟩
        (conv => whnf)
        intro mS he
        replace h := h.put' 0 he rfl
        clear he
        (conv => whnf)
        refine ⟨h.room 0 (i := 5) rfl rfl, ?_⟩
        (conv => whnf)
        intro mS2 he
        replace h := h.put' 0 he rfl
        clear he
        (conv => whnf)
        refine PCalls.mono (next_c (ws := r2) (h.cell 1 (i := 0) rfl rfl) (h.blk 1 rfl).fz (hw.more (h.kept 2 rfl))) ?_ ?_
        rotate_left
        · rintro x mE ⟨rfl, hnil, rfl⟩
          subst hnil
          (conv => whnf)
          exact ⟨_, rfl, fin _ _ (hk8 h) rfl (by rw [hI]; rfl)⟩
        rintro v mN ⟨c, r3, hr, rfl, he⟩
        subst hr
        replace h := h.put' 1 he rfl
        clear he
        replace hw := hw.on
        (conv => whnf)
        refine brk_intro (fun q5 => ?_) (fun q5 => ?_)
        · have c5 : c ≠ [42] := by simpa using q5
          (conv => whnf)
          refine PCalls.mono (number_c (l := c) (by have := hword c (by simp); omega)) ?_ ?_
          rotate_left
          · rintro x mE ⟨rfl, hnone, rfl⟩
            (conv => whnf)
            exact ⟨_, rfl, fin _ _ (hk8 h) rfl (by rw [hI]; exact rdT_3 c5 hnone)⟩
          rintro v mN ⟨mx, hmx0, rfl, rfl⟩
          (conv => whnf)
          refine ⟨h.room 0 (i := 5) rfl rfl, ?_⟩
          (conv => whnf)
          intro mS he
          replace h := h.put' 0 he rfl
          clear he
          have hmx : bndF c = some mx := by unfold bndF; rw [if_neg c5]; exact hmx0
          (conv => whnf)
          refine PCalls.mono (next_c (ws := r3) (h.cell 1 (i := 0) rfl rfl) (h.blk 1 rfl).fz (hw.more (h.kept 2 rfl))) ?_ ?_
          rotate_left
          · rintro x mE ⟨rfl, hnil, rfl⟩
            subst hnil
            (conv => whnf)
            exact ⟨_, rfl, fin _ _ (hk8 h) rfl (by rw [hI]; rfl)⟩
          rintro v mN ⟨d, r4, hr, rfl, he⟩
          subst hr
          replace h := h.put' 1 he rfl
          clear he
          replace hw := hw.on
          (conv => whnf)
          refine PCalls.mono (number_c (l := d) (by have := hword d (by simp); omega)) ?_ ?_
          rotate_left
          · rintro x mE ⟨rfl, hnone, rfl⟩
            (conv => whnf)
            exact ⟨_, rfl, fin _ _ (hk8 h) rfl (by rw [hI]; cases r4 with | nil => rfl | cons e t => cases t with | nil => (show (numF a).bind _ = none; rw [hn]; show (numF b).bind _ = none; rw [hmn]; show (bndF c).bind _ = none; rw [hmx];  show (numF d).bind _ = none; rw [hnone]; rfl) | cons _ _ => rfl)⟩
          rintro v mN ⟨x, hx, rfl, rfl⟩
          (conv => whnf)
          refine ⟨h.room 0 (i := 1) rfl rfl, ?_⟩
          (conv => whnf)
          intro mS he
          replace h := h.put' 0 he rfl
          clear he
          (conv => whnf)
          refine PCalls.mono (next_c (ws := r4) (h.cell 1 (i := 0) rfl rfl) (h.blk 1 rfl).fz (hw.more (h.kept 2 rfl))) ?_ ?_
          rotate_left
          · rintro x mE ⟨rfl, hnil, rfl⟩
            subst hnil
            (conv => whnf)
            exact ⟨_, rfl, fin _ _ (hk8 h) rfl (by rw [hI]; rfl)⟩
          rintro v mN ⟨e, r5, hr, rfl, he⟩
          subst hr
          replace h := h.put' 1 he rfl
          clear he
          replace hw := hw.on
          (conv => whnf)
          refine PCalls.mono (number_c (l := e) (by have := hword e (by simp); omega)) ?_ ?_
          rotate_left
          · rintro x mE ⟨rfl, hnone, rfl⟩
            (conv => whnf)
            exact ⟨_, rfl, fin _ _ (hk8 h) rfl (by rw [hI]; cases r5 with | nil => (show (numF a).bind _ = none; rw [hn]; show (numF b).bind _ = none; rw [hmn]; show (bndF c).bind _ = none; rw [hmx];  show (numF d).bind _ = none; rw [hx]; show (numF e).map _ = none; rw [hnone]; rfl) | cons _ _ => rfl)⟩
          rintro v mN ⟨y, hy, rfl, rfl⟩
          (conv => whnf)
          refine ⟨h.room 0 (i := 2) rfl rfl, ?_⟩
          (conv => whnf)
          intro mS he
          replace h := h.put' 0 he rfl
          clear he
          (conv => whnf)
          refine ⟨_, _, _, h.cell 1 (i := 0) rfl rfl, ?_⟩
          (conv => whnf)
          refine PCalls.mono must_c ?_ ?_
          rotate_left
          · rintro x mE ⟨rfl, d1, rfl⟩
            have d1 : ¬ r5.length = 0 := by have : ¬ ((r5.length : Nat) : Int) = 0 := (by simpa using d1); omega
            obtain ⟨z, zs, rfl⟩ : ∃ z zs, r5 = z :: zs := by
              cases r5 with
              | nil => exact absurd rfl d1
              | cons z zs => exact ⟨z, zs, rfl⟩
            (conv => whnf)
            exact ⟨_, rfl, fin _ _ (hk8 h) rfl (by rw [hI]; rfl)⟩
          rintro v mE ⟨d1, rfl⟩
          have d1 : r5 = [] := by
            have : ((r5.length : Nat) : Int) = 0 := (by simpa using d1)
            exact List.length_eq_zero_iff.1 (by omega)
          subst d1
          (conv => whnf)
          refine ⟨_, h.cell 0 (i := 0) rfl rfl, ?_⟩
          (conv => whnf)
          refine ⟨_, h.cell 0 (i := 1) rfl rfl, ?_⟩
          (conv => whnf)
          refine ⟨_, h.cell 0 (i := 2) rfl rfl, ?_⟩
          (conv => whnf)
          refine ⟨_, h.cell 0 (i := 3) rfl rfl, ?_⟩
          (conv => whnf)
          refine ⟨_, h.cell 0 (i := 4) rfl rfl, ?_⟩
          (conv => whnf)
          refine ⟨_, h.cell 0 (i := 5) rfl rfl, ?_⟩
          (conv => whnf)
          refine ⟨_, h.cell 0 (i := 6) rfl rfl, ?_⟩
          (conv => whnf)
          refine ⟨_, h.cell 0 (i := 7) rfl rfl, ?_⟩
          (conv => whnf)
          refine ⟨_, h.cell 0 (i := 8) rfl rfl, ?_⟩
          (conv => whnf)
          refine ⟨_, h.cell 0 (i := 9) rfl rfl, ?_⟩
          (conv => whnf)
          exact ⟨m, hk8 h, _, by rw [hI]; show (numF a).bind _ = _; rw [hn]; show (numF b).bind _ = _; rw [hmn]; show (bndF c).bind _ = _; rw [hmx]; show (numF d).bind _ = _; rw [hx]; show (numF e).map _ = _; rw [hy]; rfl, rfl, rfl⟩
        · have c5 : c = [42] := by simpa using q5
          have hmx : bndF c = some (-1) := by unfold bndF; rw [if_pos c5]
          (conv => whnf)
          refine PCalls.mono (next_c (ws := r3) (h.cell 1 (i := 0) rfl rfl) (h.blk 1 rfl).fz (hw.more (h.kept 2 rfl))) ?_ ?_
          rotate_left
          · rintro x mE ⟨rfl, hnil, rfl⟩
            subst hnil
            (conv => whnf)
            exact ⟨_, rfl, fin _ _ (hk8 h) rfl (by rw [hI]; rfl)⟩
          rintro v mN ⟨d, r4, hr, rfl, he⟩
          subst hr
          replace h := h.put' 1 he rfl
          clear he
          replace hw := hw.on
          (conv => whnf)
          refine PCalls.mono (number_c (l := d) (by have := hword d (by simp); omega)) ?_ ?_
          rotate_left
          · rintro x mE ⟨rfl, hnone, rfl⟩
            (conv => whnf)
            exact ⟨_, rfl, fin _ _ (hk8 h) rfl (by rw [hI]; cases r4 with | nil => rfl | cons e t => cases t with | nil => (show (numF a).bind _ = none; rw [hn]; show (numF b).bind _ = none; rw [hmn]; show (bndF c).bind _ = none; rw [hmx];  show (numF d).bind _ = none; rw [hnone]; rfl) | cons _ _ => rfl)⟩
          rintro v mN ⟨x, hx, rfl, rfl⟩
          (conv => whnf)
          refine ⟨h.room 0 (i := 1) rfl rfl, ?_⟩
          (conv => whnf)
          intro mS he
          replace h := h.put' 0 he rfl
          clear he
          (conv => whnf)
          refine PCalls.mono (next_c (ws := r4) (h.cell 1 (i := 0) rfl rfl) (h.blk 1 rfl).fz (hw.more (h.kept 2 rfl))) ?_ ?_
          rotate_left
          · rintro x mE ⟨rfl, hnil, rfl⟩
            subst hnil
            (conv => whnf)
            exact ⟨_, rfl, fin _ _ (hk8 h) rfl (by rw [hI]; rfl)⟩
          rintro v mN ⟨e, r5, hr, rfl, he⟩
          subst hr
          replace h := h.put' 1 he rfl
          clear he
          replace hw := hw.on
          (conv => whnf)
          refine PCalls.mono (number_c (l := e) (by have := hword e (by simp); omega)) ?_ ?_
          rotate_left
          · rintro x mE ⟨rfl, hnone, rfl⟩
            (conv => whnf)
            exact ⟨_, rfl, fin _ _ (hk8 h) rfl (by rw [hI]; cases r5 with | nil => (show (numF a).bind _ = none; rw [hn]; show (numF b).bind _ = none; rw [hmn]; show (bndF c).bind _ = none; rw [hmx];  show (numF d).bind _ = none; rw [hx]; show (numF e).map _ = none; rw [hnone]; rfl) | cons _ _ => rfl)⟩
          rintro v mN ⟨y, hy, rfl, rfl⟩
          (conv => whnf)
          refine ⟨h.room 0 (i := 2) rfl rfl, ?_⟩
          (conv => whnf)
          intro mS he
          replace h := h.put' 0 he rfl
          clear he
          (conv => whnf)
          refine ⟨_, _, _, h.cell 1 (i := 0) rfl rfl, ?_⟩
          (conv => whnf)
          refine PCalls.mono must_c ?_ ?_
          rotate_left
          · rintro x mE ⟨rfl, d1, rfl⟩
            have d1 : ¬ r5.length = 0 := by have : ¬ ((r5.length : Nat) : Int) = 0 := (by simpa using d1); omega
            obtain ⟨z, zs, rfl⟩ : ∃ z zs, r5 = z :: zs := by
              cases r5 with
              | nil => exact absurd rfl d1
              | cons z zs => exact ⟨z, zs, rfl⟩
            (conv => whnf)
            exact ⟨_, rfl, fin _ _ (hk8 h) rfl (by rw [hI]; rfl)⟩
          rintro v mE ⟨d1, rfl⟩
          have d1 : r5 = [] := by
            have : ((r5.length : Nat) : Int) = 0 := (by simpa using d1)
            exact List.length_eq_zero_iff.1 (by omega)
          subst d1
          (conv => whnf)
          refine ⟨_, h.cell 0 (i := 0) rfl rfl, ?_⟩
          (conv => whnf)
          refine ⟨_, h.cell 0 (i := 1) rfl rfl, ?_⟩
          (conv => whnf)
          refine ⟨_, h.cell 0 (i := 2) rfl rfl, ?_⟩
          (conv => whnf)
          refine ⟨_, h.cell 0 (i := 3) rfl rfl, ?_⟩
          (conv => whnf)
          refine ⟨_, h.cell 0 (i := 4) rfl rfl, ?_⟩
          (conv => whnf)
          refine ⟨_, h.cell 0 (i := 5) rfl rfl, ?_⟩
          (conv => whnf)
          refine ⟨_, h.cell 0 (i := 6) rfl rfl, ?_⟩
          (conv => whnf)
          refine ⟨_, h.cell 0 (i := 7) rfl rfl, ?_⟩
          (conv => whnf)
          refine ⟨_, h.cell 0 (i := 8) rfl rfl, ?_⟩
          (conv => whnf)
          refine ⟨_, h.cell 0 (i := 9) rfl rfl, ?_⟩
          (conv => whnf)
          exact ⟨m, hk8 h, _, by rw [hI]; show (numF a).bind _ = _; rw [hn]; show (numF b).bind _ = _; rw [hmn]; show (bndF c).bind _ = _; rw [hmx]; show (numF d).bind _ = _; rw [hx]; show (numF e).map _ = _; rw [hy]; rfl, rfl, rfl⟩
      · (conv => whnf)
        refine FCalls.mono (ofk (u := ⟨false, false, false, false, false, false⟩) rfl) ?_
        rintro v m6 ⟨rfl, rfl⟩
        (conv => whnf)
        refine PCalls.mono must_c ?_ (fun x mm hh => by cases hh.2.1)
        rintro v m7 ⟨_, rfl⟩
        (conv => whnf)
        intro b8 m8 hb he
        replace h := h.new' (l := (tbl.at 56).zero.list) hb he
        clear hb he
        (conv => whnf)
        refine ⟨h.rooms 0 (i := 0) rfl (by decide), fun m9 he => ?_⟩
        replace h : Mv.Sep [pt b8 (Ins.cells ⟨11, 0, 0, 0, 0, 0, 0, 0, 0, 0⟩), pt b3 [.slice (onA (some ⟨nb, 0, none⟩) (first :: r).length) r.length ((first :: r).length - 1)], kp m2] m9 := he ▸ h.putAll 0 (i := 0) (Ins.cells ⟨11, 0, 0, 0, 0, 0, 0, 0, 0, 0⟩) rfl
        clear he
        have hk8 : ∀ {M : Mem} {c d : List Value}, Mv.Sep [pt b8 c, pt b3 d, kp m2] M → m.le M := fun h => Mem.le_trans hm2 (h.kept 2 rfl)
        (conv => whnf)
        refine ⟨_, _, _, h.cell 1 (i := 0) rfl rfl, ?_⟩
        (conv => whnf)
        refine PCalls.mono must_c ?_ ?_
        rotate_left
        · rintro x mE ⟨rfl, d1, rfl⟩
          have d1 : ¬ r.length = 0 := by have : ¬ ((r.length : Nat) : Int) = 0 := (by simpa using d1); omega
          obtain ⟨z, zs, rfl⟩ : ∃ z zs, r = z :: zs := by
            cases r with
            | nil => exact absurd rfl d1
            | cons z zs => exact ⟨z, zs, rfl⟩
          (conv => whnf)
          exact ⟨_, rfl, fin _ _ (hk8 h) rfl (by rw [hI]; rfl)⟩
        rintro v mE ⟨d1, rfl⟩
        have d1 : r = [] := by
          have : ((r.length : Nat) : Int) = 0 := (by simpa using d1)
          exact List.length_eq_zero_iff.1 (by omega)
        subst d1
        (conv => whnf)
        refine ⟨_, h.cell 0 (i := 0) rfl rfl, ?_⟩
        (conv => whnf)
        refine ⟨_, h.cell 0 (i := 1) rfl rfl, ?_⟩
        (conv => whnf)
        refine ⟨_, h.cell 0 (i := 2) rfl rfl, ?_⟩
        (conv => whnf)
        refine ⟨_, h.cell 0 (i := 3) rfl rfl, ?_⟩
        (conv => whnf)
        refine ⟨_, h.cell 0 (i := 4) rfl rfl, ?_⟩
        (conv => whnf)
        refine ⟨_, h.cell 0 (i := 5) rfl rfl, ?_⟩
        (conv => whnf)
        refine ⟨_, h.cell 0 (i := 6) rfl rfl, ?_⟩
        (conv => whnf)
        refine ⟨_, h.cell 0 (i := 7) rfl rfl, ?_⟩
        (conv => whnf)
        refine ⟨_, h.cell 0 (i := 8) rfl rfl, ?_⟩
        (conv => whnf)
        refine ⟨_, h.cell 0 (i := 9) rfl rfl, ?_⟩
        (conv => whnf)
        exact ⟨m, hk8 h, _, by rw [hI]; rfl, rfl, rfl⟩
  · have c1 : s = 11 := by have : ¬ ((1 + s : Nat) : Int) ≤ 11 := (by simpa using q1); omega
    subst c1
    rw [opF_no hno] at hI
    (conv => whnf)
    refine FCalls.mono (of_c (op := ((1 + 11 : Nat) : Int))) ?_
    rintro v m6 ⟨rfl, rfl⟩
    (conv => whnf)
    refine PCalls.mono must_c (fun v mm hh => by cases hh.1) ?_
    rintro x m7 ⟨rfl, _, rfl⟩
    (conv => whnf)
    exact ⟨_, rfl, fin _ _ (hk h) rfl (by rw [hI]; rfl)⟩
end Go.Proofs.YtfjbgmeimipibaaGreatDoor
/- Code: the first line. -/
namespace Go.Proofs.YtfjbgmeimipibaaGreatDoor
open Go Go.Mv
set_option maxHeartbeats 2000000
set_option maxRecDepth 10000
set_option linter.unusedVariables false
set_option linter.unusedSimpArgs false
def progW : List UInt8 := [112, 114, 111, 103, 114, 97, 109]
def foldW : List UInt8 := [102, 111, 108, 100]
def headR (x y : Int) : List (List UInt8) → Option (Int × Int × Bool)
  | [] => some (x, y, false)
  | [f] => if f = foldW then some (x, y, true) else none
  | _ => none
def headF : List (List UInt8) → Option (Int × Int × Bool)
  | p :: g :: c :: r => if p = progW then (numF g).bind fun x => (numF c).bind fun y => headR x y r else none
  | _ => none
theorem headF_p {p : List UInt8} {r : List (List UInt8)} (h : p ≠ progW) : headF (p :: r) = none := by
  unfold headF
  split
  · rename_i he
    cases he
    rw [if_neg h]
  · rfl
theorem headF_1 {p g : List UInt8} {r : List (List UInt8)} (h : numF g = none) : headF (p :: g :: r) = none := by
  unfold headF
  split
  · rename_i he
    cases he
    rw [h]
    split <;> rfl
  · rfl
theorem headF_2 {p g c : List UInt8} {r : List (List UInt8)} (h : numF c = none) : headF (p :: g :: c :: r) = none := by
  show (if p = progW then (numF g).bind fun x => (numF c).bind fun y => headR x y r else none) = none
  rw [h]
  split
  · cases numF g <;> rfl
  · rfl
theorem headF_3 {p g c : List UInt8} {r : List (List UInt8)} {x y : Int} (hp : p = progW) (hx : numF g = some x) (hy : numF c = some y) : headF (p :: g :: c :: r) = headR x y r := by
  show (if p = progW then (numF g).bind fun x => (numF c).bind fun y => headR x y r else none) = _
  rw [if_pos hp, hx, hy]
  rfl
attribute [local irreducible] headF splitL numF FCalls PCalls IntKind.wrap bits Mem.set Mem.setCell Mem.setCells YCalls RunP NextP RunU
theorem headF_nil0 : headF [] = none := by unfold headF; rfl
theorem headF_nil1 (a : List UInt8) : headF [a] = none := by unfold headF; rfl
theorem headF_nil2 (a b : List UInt8) : headF [a, b] = none := by unfold headF; rfl
theorem header_c {m : Mem} (hg : Gl m) {l : List UInt8} (hl : l.length < 4294967281) :
    PCalls Tryz.prog 48 [str l] m (fun v m' => ∃ g c f, headF (splitL 32 l) = some (g, c, f) ∧ v = (Prg.mk none 0 [] g c f).val ∧ m' = m) (fun x m' => x = wrongV ∧ headF (splitL 32 l) = none ∧ m' = m) := by
  refine PCalls.less ?_
  refine pcalls_of_vc (T := tbl) (B := bodies) (pr := [99999, 2, 200047, 200066, 200067]) (DR := dr48) (args := [.v (str l)]) tbl_ok bodies_ok mixed Tryz.func48 rfl (by decide +kernel) (by simp [Tryz.f48]) rfl ?_
  (conv => whnf)
  have fin : ∀ (x : Value) (M : Mem), m.le M → x = wrongV → headF (splitL 32 l) = none → (∃ m'', (∀ b o, m'' b = some o → M b = some o) ∧ x = wrongV ∧ headF (splitL 32 l) = none ∧ m'' = m) := fun x M hM h1 h2 => ⟨m, hM, h1, h2, rfl⟩
  have hword : ∀ w ∈ splitL 32 l, w.length ≤ l.length := fun w hw => split_le hw
  refine FCalls.mono (split_c hg (c := 32) hl) ?_
  rintro v m2 ⟨nb, hb, rfl, he⟩
  have h0 := (Sep.init m).new' (l := (splitL 32 l).map str) hb he
  have hw : Wd m2 (some ⟨nb, 0, none⟩) (splitL 32 l) (splitL 32 l).length := ⟨Nat.le_refl _, .inr ⟨_, rfl, fun k v hk => by rw [add_mk, Nat.zero_add]; exact h0.cell 0 rfl hk⟩⟩
  have hm2 := h0.kept 1 rfl
  clear h0 hb he
  obtain ⟨ws, hws⟩ : ∃ ws, ws = splitL 32 l := ⟨_, rfl⟩
  rw [← hws] at hw hword fin ⊢
  (conv => whnf)
  intro b3 m3 hb he
  have h := (Sep.init m2).new' (l := [.slice none 0 0]) hb (he.trans rfl)
  clear hb he
  (conv => whnf)
  refine ⟨h.room 0 (i := 0) rfl rfl, ?_⟩
  (conv => whnf)
  intro m4 he
  replace h := h.put' 0 he rfl
  clear he
  have hk : ∀ {M : Mem} {c : List Value}, Mv.Sep [pt b3 c, kp m2] M → m.le M := fun h => Mem.le_trans hm2 (h.kept 1 rfl)
  (conv => whnf)
  refine PCalls.mono (next_c (ws := ws) (h.cell 0 (i := 0) rfl rfl) (h.blk 0 rfl).fz (hw.more (h.kept 1 rfl))) ?_ ?_
  rotate_left
  · rintro x mE ⟨rfl, hnil, rfl⟩
    (conv => whnf)
    exact ⟨_, rfl, fin _ _ (hk h) rfl (by rw [hnil]; exact headF_nil0)⟩
  rintro v m5 ⟨p, r, hr, rfl, he⟩
  replace h := h.put' 0 he rfl
  clear he
  subst hr
  replace hw := hw.on
  (conv => whnf)
  refine PCalls.mono must_c ?_ ?_
  rotate_left
  · rintro x mE ⟨rfl, d1, rfl⟩
    have d1 : p ≠ progW := by simpa [progW] using d1
    (conv => whnf)
    exact ⟨_, rfl, fin _ _ (hk h) rfl (headF_p d1)⟩
  rintro v m6 ⟨d1, rfl⟩
  have d1 : p = progW := by simpa [progW] using d1
  (conv => whnf)
  refine PCalls.mono (next_c (ws := r) (h.cell 0 (i := 0) rfl rfl) (h.blk 0 rfl).fz (hw.more (h.kept 1 rfl))) ?_ ?_
  rotate_left
  · rintro x mE ⟨rfl, hnil, rfl⟩
    subst hnil
    (conv => whnf)
    exact ⟨_, rfl, fin _ _ (hk h) rfl (headF_nil1 _)⟩
  rintro v m5 ⟨g, r1, hr, rfl, he⟩
  replace h := h.put' 0 he rfl
  clear he
  subst hr
  replace hw := hw.on
  (conv => whnf)
  refine PCalls.mono (number_c (l := g) (by have := hword g (by simp); omega)) ?_ ?_
  rotate_left
  · rintro x mE ⟨rfl, hnone, rfl⟩
    (conv => whnf)
    exact ⟨_, rfl, fin _ _ (hk h) rfl (headF_1 hnone)⟩
  rintro v mN ⟨x, hx, rfl, rfl⟩
  (conv => whnf)
  refine PCalls.mono (next_c (ws := r1) (h.cell 0 (i := 0) rfl rfl) (h.blk 0 rfl).fz (hw.more (h.kept 1 rfl))) ?_ ?_
  rotate_left
  · rintro x mE ⟨rfl, hnil, rfl⟩
    subst hnil
    (conv => whnf)
    exact ⟨_, rfl, fin _ _ (hk h) rfl (headF_nil2 _ _)⟩
  rintro v m5 ⟨c, r2, hr, rfl, he⟩
  replace h := h.put' 0 he rfl
  clear he
  subst hr
  replace hw := hw.on
  (conv => whnf)
  refine PCalls.mono (number_c (l := c) (by have := hword c (by simp); omega)) ?_ ?_
  rotate_left
  · rintro x mE ⟨rfl, hnone, rfl⟩
    (conv => whnf)
    exact ⟨_, rfl, fin _ _ (hk h) rfl (headF_2 hnone)⟩
  rintro v mN ⟨y, hy, rfl, rfl⟩
  have hF := headF_3 (r := r2) d1 hx hy
  (conv => whnf)
  refine ⟨_, _, _, h.cell 0 (i := 0) rfl rfl, ?_⟩
  (conv => whnf)
  refine brk_intro (fun q5 => ?_) (fun q5 => ?_)
  · have c5 : 0 < r2.length := by have : (0 : Int) < (r2.length : Nat) := (by simpa using q5); omega
    (conv => whnf)
    refine PCalls.mono (next_c (ws := r2) (h.cell 0 (i := 0) rfl rfl) (h.blk 0 rfl).fz (hw.more (h.kept 1 rfl))) ?_ ?_
    rotate_left
    · rintro x mE ⟨rfl, hnil, rfl⟩
      rw [hnil] at c5
      simp at c5
    rintro v m5 ⟨f, r3, hr, rfl, he⟩
    replace h := h.put' 0 he rfl
    clear he
    subst hr
    replace hw := hw.on
    (conv => whnf)
    refine brk_intro (fun q6 => ?_) (fun q6 => ?_)
    · have c6 : f = foldW := by simpa [foldW] using q6
      (conv => whnf)
      refine ⟨_, _, _, h.cell 0 (i := 0) rfl rfl, ?_⟩
      (conv => whnf)
      refine PCalls.mono must_c ?_ ?_
      · rintro v mE ⟨d2, rfl⟩
        have d2 : r3 = [] := by
          have : ((r3.length : Nat) : Int) = 0 := (by simpa using d2)
          exact List.length_eq_zero_iff.1 (by omega)
        subst d2
        (conv => whnf)
        exact ⟨m, hk h, x, y, true, by rw [hF]; show (if f = foldW then _ else _) = _; rw [if_pos c6], rfl, rfl⟩
      · rintro x mE ⟨rfl, d2, rfl⟩
        have d2 : ¬ r3.length = 0 := by have : ¬ ((r3.length : Nat) : Int) = 0 := (by simpa using d2); omega
        obtain ⟨z, zs, rfl⟩ : ∃ z zs, r3 = z :: zs := by
          cases r3 with
          | nil => exact absurd rfl d2
          | cons z zs => exact ⟨z, zs, rfl⟩
        (conv => whnf)
        exact ⟨_, rfl, fin _ _ (hk h) rfl (by rw [hF]; rfl)⟩
    · have c6 : f ≠ foldW := by simpa [foldW] using q6
      (conv => whnf)
      refine PCalls.mono must_c (fun v mE hh => ?_) ?_
      · have := hh.1
        simp [foldW] at c6
        simp [c6] at this
      rintro x mE ⟨rfl, _, rfl⟩
      (conv => whnf)
      exact ⟨_, rfl, fin _ _ (hk h) rfl (by
        rw [hF]
        cases r3 with
        | nil => show (if f = foldW then _ else _) = _; rw [if_neg c6]
        | cons _ _ => rfl)⟩
  · have c5 : r2 = [] := by
      have : ¬ (0 : Int) < (r2.length : Nat) := (by simpa using q5)
      exact List.length_eq_zero_iff.1 (by omega)
    subst c5
    (conv => whnf)
    exact ⟨m, hk h, x, y, false, by rw [hF]; rfl, rfl, rfl⟩
end Go.Proofs.YtfjbgmeimipibaaGreatDoor
/- Code: the closure that Read defers. -/
namespace Go.Proofs.YtfjbgmeimipibaaGreatDoor
open Go Go.Mv
set_option maxHeartbeats 2000000
set_option maxRecDepth 10000
set_option linter.unusedVariables false
set_option linter.unusedSimpArgs false
attribute [local irreducible] FCalls PCalls DCalls IntKind.wrap bits Mem.set Mem.setCell Mem.setCells YCalls RunP NextP RunU
def ptr0 (b : Nat) : Value := .pointer (some ⟨b, 0, none⟩)
def errV (b : Nat) : Value := .iface 62 (ptr0 b)
def prgZ : List Value := [.slice none 0 0, .int .i64 0, .int .i64 0, .bool false]
theorem RunP.mono {P : Program} {s : Sem Value} {m : Mem} {K K' : Value → Mem → Prop} (h : RunP P s m K) (hk : ∀ v m', K v m' → K' v m') : RunP P s m K' := by
  unfold RunP at h ⊢
  intro w hw
  obtain ⟨v, w', m', h1, h2, h3⟩ := h w hw
  exact ⟨v, w', m', h1, hk _ _ h2, h3⟩
theorem assert_wrong (m : Mem) : RunP Tryz.prog (opRun 96 (.typeAssert (.tmp 10) 20 95 true) [(recV (.panicking (chain wrongV))).1]) m fun v m' => v = .tuple #[.agg #[], .bool true] ∧ m' = m := by
  unfold RunP
  intro w hw
  refine ⟨_, w, m, ?_, ⟨rfl, rfl⟩, Frame.refl hw⟩
  show (Instr.typeAssert wrongV 20 95 true).run Tryz.prog w = _
  unfold Instr.typeAssert wrongV
  simp only [Sem.run_bind, run_underlying Tryz.underlying95, Result.andThen_ok]
  simp
theorem mk62 {o : Operand} {m : Mem} {b : Nat} {K : Value → Mem → Prop} (h : K (errV b) m) : RunP Tryz.prog (opRun 48 (.makeInterface 62 o) [ptr0 b]) m K := RunP.pure (fun w hw => rfl) h
theorem door_idle {m : Mem} {b4 b2 b3 : Nat} : DCalls Tryz.prog 45 [ptr0 b4, ptr0 b2, ptr0 b3] m .returning .returning fun m' => m' = m := by
  refine dcalls_of_recover (T := tbl) (B := bodies) (pr := [99999, 4]) (DR := dr45) (u := .returning) (args := [.v (ptr0 b4), .v (ptr0 b2), .v (ptr0 b3)]) tbl_ok bodies_ok Tryz.func45 rfl (by decide +kernel) rfl (by decide) (by decide) (by simp [Tryz.f45]) rfl ?_
  (conv => whnf)
  refine ⟨_, fun w => (nil_cmp Tryz.underlying20 w _ (.inl rfl)).2, ?_⟩
  (conv => whnf)
  exact rfl
theorem door_bad {m m0 : Mem} {b4 b2 b3 : Nat} {at' : Int} {c2 : List Value} {v3 : Value} (h : Mv.Sep [pt b4 [.int .i64 at'], pt b3 [v3], pt b2 c2, kp m0] m) (h2 : c2.length = 4) :
    DCalls Tryz.prog 45 [ptr0 b4, ptr0 b2, ptr0 b3] m (.panicking (chain wrongV)) (.panicking [{ v := wrongV, recovered := true }]) fun m' =>
      ∃ bb, Mv.Sep [pt bb [.int .i64 61, .int .i64 at'], pt b4 [.int .i64 at'], pt b3 [errV bb], pt b2 prgZ, kp m0] m' := by
  refine dcalls_of_recover (T := tbl) (B := bodies) (pr := [99999, 4]) (DR := dr45) (u := .panicking (chain wrongV)) (args := [.v (ptr0 b4), .v (ptr0 b2), .v (ptr0 b3)]) tbl_ok bodies_ok Tryz.func45 rfl (by decide +kernel) rfl (by decide) (by decide) (by simp [Tryz.f45]) rfl ?_
  (conv => whnf)
  refine ⟨_, fun w => (nil_cmp Tryz.underlying20 w _ (.inr ⟨_, _, rfl⟩)).2, ?_⟩
  (conv => whnf)
  refine RunP.mono (assert_wrong m) ?_
  rintro v m1 ⟨rfl, rfl⟩
  (conv => whnf)
  refine ⟨_, h.cell 0 (i := 0) rfl rfl, ?_⟩
  (conv => whnf)
  intro nb m2 hb he
  replace h := h.new' (l := [.int .i64 61, .int .i64 at']) hb (he.trans rfl)
  clear hb he
  (conv => whnf)
  refine mk62 ?_
  (conv => whnf)
  refine ⟨h.rooms 3 rfl (show 0 + 4 ≤ c2.length by omega), fun m3 he => ?_⟩
  replace h : Mv.Sep [pt nb [.int .i64 61, .int .i64 at'], pt b4 [.int .i64 at'], pt b3 [v3], pt b2 prgZ, kp m0] m3 := by
    have h' := h.putAll 3 (i := 0) prgZ rfl
    rw [he.trans rfl]
    have e : writeAt c2 0 prgZ = prgZ := by
      have := writeAt_all prgZ [] c2 (by simp [prgZ, h2])
      simpa using this
    rw [e] at h'
    exact h'
  clear he
  (conv => whnf)
  refine ⟨h.room 2 (i := 0) rfl rfl, ?_⟩
  (conv => whnf)
  intro m4 he
  replace h := h.put' 2 he rfl
  clear he
  (conv => whnf)
  exact ⟨nb, h⟩
end Go.Proofs.YtfjbgmeimipibaaGreatDoor
/- Code: what Read answers, plain. -/
namespace Go.Proofs.YtfjbgmeimipibaaGreatDoor
open Go Go.Mv
set_option maxHeartbeats 2000000
set_option maxRecDepth 10000
set_option linter.unusedVariables false
set_option linter.unusedSimpArgs false
theorem split_has {c : UInt8} : ∀ {t : List UInt8}, c ∈ t → splitL c t = t.takeWhile (· ≠ c) :: splitL c (t.drop ((t.takeWhile (· ≠ c)).length + 1))
  | [], h => by cases h
  | b :: r, h => by
    by_cases hb : b = c
    · subst hb
      rw [splitL, if_pos rfl]
      simp
    · have hr : c ∈ r := by
        rcases List.mem_cons.1 h with h | h
        · exact absurd h.symm hb
        · exact h
      rw [splitL, if_neg hb, split_has hr]
      simp [hb]
theorem split_not {c : UInt8} : ∀ {t : List UInt8}, c ∉ t → splitL c t = [t]
  | [], _ => rfl
  | b :: r, h => by
    rw [splitL, if_neg (fun e => h (by simp [e])), split_not (fun e => h (by simp [e]))]
def bodyF : Nat → List (List UInt8) → Except Nat (List Ins × List Nat)
  | _, [] => .ok ([], [])
  | k, [t] => if t = [] then .ok ([], []) else .error k
  | k, t :: u :: r => match readI (splitL 32 t) with
    | none => .error k
    | some i => match bodyF (k + t.length + 1) (u :: r) with
      | .error e => .error e
      | .ok (is, bs) => .ok (i :: is, k :: bs)
def conF (g c : Int) (f : Bool) (I : List Ins) (Bs : List Nat) : Except Nat (List Ins × List Nat) → Except Nat (Prg × List Nat)
  | .error e => .error e
  | .ok (is, bs) => .ok (⟨none, 0, I ++ is, g, c, f⟩, Bs ++ bs)
def readF (s : List UInt8) : Except Nat (Prg × List Nat) :=
  match splitL 10 s with
  | l :: u :: r => match headF (splitL 32 l) with
    | none => .error 0
    | some (g, c, f) => conF g c f [] [] (bodyF (l.length + 1) (u :: r))
  | _ => .error 0
/-- What Read answers: a program; or an error's number and a place. -/
def readR (s : List UInt8) : Except (Int × Int) Prg :=
  match readF s with
  | .error k => .error (61, k)
  | .ok (q, bs) => if (rightF q).1 = 60 ∧ bs ≠ [] then .error (60, (bs.getD (rightF q).2.toNat 0 : Nat)) else if (rightF q).1 ≠ 0 then .error ((rightF q).1, 0) else .ok q
theorem splitL_cons {c : UInt8} {t : List UInt8} : ∃ u r, splitL c t = u :: r := by
  cases h : splitL c t with
  | nil => exact absurd h (splitL_ne t)
  | cons u r => exact ⟨u, r, rfl⟩
theorem body_end {s : List UInt8} {k : Nat} (h : s.length ≤ k) : bodyF k (splitL 10 (s.drop k)) = .ok ([], []) := by
  rw [List.drop_eq_nil_of_le h]
  rfl
theorem body_no {t : List UInt8} {k : Nat} (h : 10 ∉ t) (h0 : t ≠ []) : bodyF k (splitL 10 t) = .error k := by
  rw [split_not h]
  show (if t = [] then _ else _) = _
  rw [if_neg h0]
theorem body_bad {t : List UInt8} {k : Nat} (h : 10 ∈ t) (h0 : readI (splitL 32 (t.takeWhile (· ≠ 10))) = none) : bodyF k (splitL 10 t) = .error k := by
  obtain ⟨u, r, hu⟩ := splitL_cons (c := 10) (t := t.drop ((t.takeWhile (· ≠ 10)).length + 1))
  rw [split_has h, hu]
  show (match readI (splitL 32 (t.takeWhile (· ≠ 10))) with | none => _ | some i => _) = _
  rw [h0]
theorem body_good {t : List UInt8} {k : Nat} {i : Ins} (h : 10 ∈ t) (h0 : readI (splitL 32 (t.takeWhile (· ≠ 10))) = some i) : bodyF k (splitL 10 t) =
    match bodyF (k + (t.takeWhile (· ≠ 10)).length + 1) (splitL 10 (t.drop ((t.takeWhile (· ≠ 10)).length + 1))) with
      | .error e => .error e
      | .ok (is, bs) => .ok (i :: is, k :: bs) := by
  obtain ⟨u, r, hu⟩ := splitL_cons (c := 10) (t := t.drop ((t.takeWhile (· ≠ 10)).length + 1))
  rw [split_has h, hu]
  show (match readI (splitL 32 (t.takeWhile (· ≠ 10))) with | none => _ | some i => _) = _
  rw [h0]
theorem con_step {g c : Int} {f : Bool} {I : List Ins} {Bs : List Nat} {i : Ins} {k : Nat} (x : Except Nat (List Ins × List Nat)) :
    conF g c f I Bs (match x with | .error e => .error e | .ok (is, bs) => .ok (i :: is, k :: bs)) = conF g c f (I ++ [i]) (Bs ++ [k]) x := by
  cases x with
  | error e => rfl
  | ok p =>
    obtain ⟨is, bs⟩ := p
    simp [conF]
theorem read_no {s : List UInt8} (h : 10 ∉ s) : readF s = .error 0 := by
  unfold readF
  rw [split_not h]
theorem read_bad {s : List UInt8} (h : 10 ∈ s) (h0 : headF (splitL 32 (s.takeWhile (· ≠ 10))) = none) : readF s = .error 0 := by
  obtain ⟨u, r, hu⟩ := splitL_cons (c := 10) (t := s.drop ((s.takeWhile (· ≠ 10)).length + 1))
  unfold readF
  rw [split_has h, hu]
  show (match headF (splitL 32 (s.takeWhile (· ≠ 10))) with | none => _ | some (_, _, _) => _) = _
  rw [h0]
theorem read_good {s : List UInt8} {g c : Int} {f : Bool} (h : 10 ∈ s) (h0 : headF (splitL 32 (s.takeWhile (· ≠ 10))) = some (g, c, f)) :
    readF s = conF g c f [] [] (bodyF ((s.takeWhile (· ≠ 10)).length + 1) (splitL 10 (s.drop ((s.takeWhile (· ≠ 10)).length + 1)))) := by
  obtain ⟨u, r, hu⟩ := splitL_cons (c := 10) (t := s.drop ((s.takeWhile (· ≠ 10)).length + 1))
  unfold readF
  rw [split_has h, hu]
  show (match headF (splitL 32 (s.takeWhile (· ≠ 10))) with | none => _ | some (_, _, _) => _) = _
  rw [h0]
theorem rightF_A {A : Option Addr} {n : Nat} {I : List Ins} {g c : Int} {f : Bool} : rightF ⟨A, n, I, g, c, f⟩ = rightF ⟨none, 0, I, g, c, f⟩ := rfl
theorem right_at {q : Prg} (h : (rightF q).1 = 60) (hi : q.ins ≠ []) : ∃ k : Nat, (rightF q).2 = k ∧ k < q.ins.length := by
  unfold rightF at h ⊢
  split at h
  · cases h
  split at h
  · cases h
  split at h
  · rename_i h0
    exact absurd (List.length_eq_zero_iff.1 h0) hi
  rename_i h1 h2 h3
  rw [if_neg h1, if_neg h2, if_neg h3]
  split at h
  · rename_i k hk
    have := List.mem_of_find?_eq_some hk
    exact ⟨k, rfl, by simpa using this⟩
  · cases h
end Go.Proofs.YtfjbgmeimipibaaGreatDoor
/- Code: Read. -/
namespace Go.Proofs.YtfjbgmeimipibaaGreatDoor
open Go Go.Mv
set_option maxHeartbeats 4000000
set_option maxRecDepth 10000
set_option linter.unusedVariables false
set_option linter.unusedSimpArgs false
def beginsV (l : List Nat) : List Value := l.map fun b => .int .i64 ((b : Nat) : Int)
/-- What Read hands out. -/
def ReadOut (x : Except (Int × Int) Prg) (v : Value) (m m' : Mem) : Prop :=
  match x with
  | .ok q => ∃ A n, v = .tuple #[(Prg.mk A n q.ins q.groups q.counters q.fold).val, .nilIface] ∧ Mv.Sep [sl A q.ins.length n 10 (icells q.ins), kp m] m'
  | .error (e, a) => ∃ b, v = .tuple #[.agg prgZ.toArray, errV b] ∧ Mv.Sep [pt b [.int .i64 e, .int .i64 a], kp m] m'
structure RdSt where
  k : Nat
  A : Option Addr
  n : Nat
  I : List Ins
  A2 : Option Addr
  n2 : Nat
  Bs : List Nat
  g : Int
  c : Int
  f : Bool
  M : Mem
def RdSt.J (t : RdSt) (s : List UInt8) (b2 b3 b4 : Nat) (m : Mem) : Prop :=
  t.k ≤ s.length ∧ t.I.length = t.Bs.length ∧ t.I.length ≤ t.k ∧ ((t.k = 0 ∧ t.I = []) ∨ (0 < t.k ∧ readF s = conF t.g t.c t.f t.I t.Bs (bodyF t.k (splitL 10 (s.drop t.k))))) ∧
  Mv.Sep [sl t.A t.I.length t.n 10 (icells t.I), sl t.A2 t.Bs.length t.n2 1 (beginsV t.Bs), pt b4 [.int .i64 (t.k : Nat)], pt b3 [.nilIface], pt b2 (Prg.mk t.A t.n t.I t.g t.c t.f).cells, kp m] t.M
theorem readR_bad {s : List UInt8} {k : Nat} (h : readF s = .error k) : readR s = .error (61, (k : Nat)) := by
  unfold readR
  rw [h]
theorem DCalls.mono {P : Program} {g : FuncId} {args : List Value} {m : Mem} {u u' : FrameMode} {K K' : Mem → Prop} (h : DCalls P g args m u u' K) (hk : ∀ m', K m' → K' m') : DCalls P g args m u u' K' := by
  unfold DCalls at h ⊢
  intro w hw
  refine CallsDIn.mono (h w hw) ?_
  rintro e u1 w' ⟨v, m', h1, h2, h3, h4⟩
  exact ⟨v, m', h1, h2, hk _ h3, h4⟩
theorem str_from {s : List UInt8} {k : Nat} : Value.string (ByteArray.extract ⟨s.toArray⟩ ((k : Nat) : Int).toNat (((ByteArray.size ⟨s.toArray⟩ : Nat) : Int)).toNat) = str (s.drop k) := by
  unfold str
  congr 1
  apply ByteArray.ext
  rw [ByteArray.data_extract]
  simp [ByteArray.size, List.take_of_length_le]
theorem cut_from {M : Mem} (hg : Gl M) {s : List UInt8} {k : Nat} (hs : s.length < 4294967281) : FCalls Tryz.prog 46 [Value.string (ByteArray.extract ⟨s.toArray⟩ ((k : Nat) : Int).toNat (((ByteArray.size ⟨s.toArray⟩ : Nat) : Int)).toNat), .string ⟨#[10]⟩] M
    fun v m' => ((10 ∈ s.drop k ∧ v = .tuple #[str ((s.drop k).takeWhile (· ≠ 10)), str (((s.drop k).dropWhile (· ≠ 10)).drop 1), .bool true]) ∨ (10 ∉ s.drop k ∧ v = .tuple #[str (s.drop k), str [], .bool false])) ∧ m' = M := by
  rw [str_from]
  refine FCalls.mono (cut_c hg (c := 10) (l := s.drop k) (by rw [List.length_drop]; omega)) ?_
  rintro v m' ⟨rfl, rfl⟩
  refine ⟨?_, rfl⟩
  by_cases h : (10 : UInt8) ∈ s.drop k
  · exact .inl ⟨h, by unfold cutL; rw [if_pos h]⟩
  · exact .inr ⟨h, by unfold cutL; rw [if_neg h]⟩
theorem read_err {x : Except (Int × Int) Prg} {e a : Int} {b : Nat} {L : List Asn} {m m' : Mem} (hx : x = .error (e, a)) (h : Mv.Sep ([pt b [.int .i64 e, .int .i64 a]] ++ L ++ [kp m]) m') : ReadOut x (.tuple #[.agg prgZ.toArray, errV b]) m m' := by
  subst hx
  refine ⟨b, rfl, ?_⟩
  induction L with
  | nil => exact h
  | cons A r ih => exact ih (Sep.drop h 1)
theorem line_len : ∀ {t : List UInt8}, (10 : UInt8) ∈ t → (t.takeWhile (· ≠ 10)).length + 1 ≤ t.length
  | [], h => by cases h
  | b :: r, h => by
    by_cases hb : b = 10
    · subst hb
      simp
    · have hr : (10 : UInt8) ∈ r := by
        rcases List.mem_cons.1 h with h | h
        · exact absurd h.symm hb
        · exact h
      have := line_len hr
      rw [List.takeWhile_cons_of_pos (by simpa using hb)]
      simp only [List.length_cons]
      omega
theorem line_wrap {s : List UInt8} {k : Nat} (hs : s.length < 4294967281) (hk : k ≤ s.length) (h : (10 : UInt8) ∈ s.drop k) :
    k + ((s.drop k).takeWhile (· ≠ 10)).length + 1 ≤ s.length ∧
    IntKind.i64.wrap (((k : Nat) : Int) + IntKind.i64.wrap (((ByteArray.size ⟨((s.drop k).takeWhile (· ≠ 10)).toArray⟩ : Nat) : Int) + 1)) = ((k + ((s.drop k).takeWhile (· ≠ 10)).length + 1 : Nat) : Int) := by
  have h1 := line_len h
  rw [List.length_drop] at h1
  have e : (ByteArray.size ⟨((s.drop k).takeWhile (· ≠ 10)).toArray⟩) = ((s.drop k).takeWhile (· ≠ 10)).length := rfl
  rw [e]
  refine ⟨by omega, ?_⟩
  rw [wrap_id (x := (((s.drop k).takeWhile (· ≠ 10)).length : Int) + 1) (by omega) (by omega), wrap_id (by omega) (by omega)]
  omega
theorem con_err {g c : Int} {f : Bool} {I : List Ins} {Bs : List Nat} {k : Nat} : conF g c f I Bs (.error k) = .error k := rfl
theorem con_ok {g c : Int} {f : Bool} {I : List Ins} {Bs : List Nat} : conF g c f I Bs (.ok ([], [])) = .ok (⟨none, 0, I, g, c, f⟩, Bs) := by simp [conF]
theorem readR_ok {s : List UInt8} {q : Prg} {Bs : List Nat} {r1 r2 : Int} (h : readF s = .ok (q, Bs)) (hr : rightF q = (r1, r2)) : readR s = if r1 = 60 ∧ Bs ≠ [] then .error (60, (Bs.getD r2.toNat 0 : Nat)) else if r1 ≠ 0 then .error (r1, 0) else .ok q := by
  unfold readR
  rw [h]
  simp only [hr]
attribute [local irreducible] readF readR rightF readI headF splitL conF bodyF FCalls PCalls DCalls IntKind.wrap bits Mem.set Mem.setCell Mem.setCells YCalls RunP NextP RunU
theorem read_c {m : Mem} (hg : Gl m) {s : List UInt8} (hs : s.length < 4294967281) : FCalls Tryz.prog 25 [str s] m (ReadOut (readR s) · m) := by
  refine fcalls_of_defer (T := tbl) (B := bodies) (pr := [99999, 200047, 200048, 200049]) (DR := dr25) (args := [.v (str s)]) tbl_ok bodies_ok mixed Tryz.func25 rfl (by decide +kernel) rfl (by simp [Tryz.f25]) rfl ?_
  (conv => whnf)
  intro b2 m1 hb he
  have h := (Sep.init m).new' (l := prgZ) hb (he.trans rfl)
  clear hb he
  (conv => whnf)
  intro b3 m2 hb he
  replace h := h.new' (l := [.nilIface]) hb (he.trans rfl)
  clear hb he
  (conv => whnf)
  intro b4 m3 hb he
  replace h := h.new' (l := [.int .i64 0]) hb (he.trans rfl)
  clear hb he
  (conv => whnf)
  refine ⟨h.room 0 (i := 0) rfl rfl, ?_⟩
  (conv => whnf)
  intro m4 he
  replace h := h.put' 0 he rfl
  clear he
  (conv => whnf)
  refine loop_keep [0, 2, 3, 4] RdSt (fun t => [(5, .v (.slice t.A2 t.Bs.length t.n2))]) (fun _ => []) (fun t => t.M) (fun t => t.J s b2 b3 b4 m) (fun t => s.length + 1 - t.k) ⟨0, none, 0, [], none, 0, [], 0, 0, false, m4⟩ ⟨rfl, trivial⟩ rfl rfl
    ⟨Nat.zero_le _, rfl, Nat.le_refl _, .inl ⟨rfl, rfl⟩, Sep.free (A := sl none 0 0 10 []) (Sep.free (A := sl none 0 0 1 []) h sl_nil) sl_nil⟩ ?_
  clear h
  (conv => whnf)
  refine ⟨rfl, ?_⟩
  rintro ⟨k, A, n, I, A2, n2, Bs, g, c, f, M⟩ ⟨hk, hIB, hIk, hc, h⟩
  simp only at hk hIB hIk hc h
  (conv => whnf)
  refine ⟨_, h.cell 2 (i := 0) rfl rfl, ?_⟩
  (conv => whnf)
  have bad : ∀ {M : Mem} {k : Nat} {A : Option Addr} {n : Nat} {I : List Ins} {A2 : Option Addr} {n2 : Nat} {Bs : List Nat} {q : Prg}, readF s = .error k →
      Mv.Sep [sl A I.length n 10 (icells I), sl A2 Bs.length n2 1 (beginsV Bs), pt b4 [.int .i64 (k : Nat)], pt b3 [.nilIface], pt b2 q.cells, kp m] M →
      DCalls Tryz.prog 45 [ptr0 b4, ptr0 b2, ptr0 b3] M (.panicking (chain wrongV)) (.panicking [{ v := wrongV, recovered := true }]) fun m' =>
        ∃ bb, readR s = .error (61, (k : Nat)) ∧ Mv.Sep [pt bb [.int .i64 61, .int .i64 (k : Nat)], pt b4 [.int .i64 (k : Nat)], pt b3 [errV bb], pt b2 prgZ, kp m] m' := by
    intro M k A n I A2 n2 Bs q h1 h
    refine DCalls.mono (door_bad ((h.drop 0).drop 0) rfl) ?_
    rintro m' ⟨bb, h⟩
    exact ⟨bb, readR_bad h1, h⟩
  rcases hc with ⟨rfl, rfl⟩ | ⟨hk0, hF⟩
  · cases hd : decide (((0 : Nat) : Int) < ((ByteArray.size ⟨s.toArray⟩ : Nat) : Int)) with
    | false =>
      (conv => whnf)
      refine ⟨_, h.cell 2 (i := 0) rfl rfl, ?_⟩
      (conv => whnf)
      refine ⟨_, h.cell 2 (i := 0) rfl rfl, ?_⟩
      (conv => whnf)
      refine ⟨by omega, by omega, by omega, ?_⟩
      (conv => whnf)
      refine FCalls.mono (cut_from (k := 0) (hg.more (h.kept 5 rfl)) hs) ?_
      have hnil : s = [] := by
        have : ¬ ((0 : Nat) : Int) < ((ByteArray.size ⟨s.toArray⟩ : Nat) : Int) := of_decide_eq_false hd
        have e : ByteArray.size ⟨s.toArray⟩ = s.length := rfl
        rw [e] at this
        exact List.length_eq_zero_iff.1 (by omega)
      rintro v M1 ⟨⟨hin, _⟩ | ⟨hin, rfl⟩, rfl⟩
      · rw [hnil] at hin
        cases hin
      (conv => whnf)
      refine PCalls.mono must_c (fun v m5 hh => by cases hh.1) ?_
      rintro x mE ⟨rfl, -, rfl⟩
      (conv => whnf)
      refine ⟨_, rfl, DCalls.mono (bad (read_no hin) h) ?_⟩
      rintro m' ⟨bb, hr, h'⟩
      (conv => whnf)
      refine ⟨_, _, _, h'.cell 3 (i := 0) rfl rfl, ?_⟩
      (conv => whnf)
      refine ⟨_, h'.cell 3 (i := 1) rfl rfl, ?_⟩
      (conv => whnf)
      refine ⟨_, h'.cell 3 (i := 2) rfl rfl, ?_⟩
      (conv => whnf)
      refine ⟨_, h'.cell 3 (i := 3) rfl rfl, ?_⟩
      (conv => whnf)
      refine ⟨_, h'.cell 2 (i := 0) rfl rfl, ?_⟩
      (conv => whnf)
      exact read_err (L := [_, _, _]) hr h'
    | true =>
      (conv => whnf)
      refine ⟨_, h.cell 2 (i := 0) rfl rfl, ?_⟩
      (conv => whnf)
      refine ⟨by omega, by omega, by omega, ?_⟩
      (conv => whnf)
      refine FCalls.mono (cut_from (k := 0) (hg.more (h.kept 5 rfl)) hs) ?_
      rintro v M1 ⟨⟨hin, rfl⟩ | ⟨hin, rfl⟩, rfl⟩
      rotate_left
      · (conv => whnf)
        refine PCalls.mono must_c (fun v m5 hh => by cases hh.1) ?_
        rintro x mE ⟨rfl, -, rfl⟩
        (conv => whnf)
        refine ⟨_, rfl, DCalls.mono (bad (read_no hin) h) ?_⟩
        rintro m' ⟨bb, hr, h'⟩
        (conv => whnf)
        refine ⟨_, _, _, h'.cell 3 (i := 0) rfl rfl, ?_⟩
        (conv => whnf)
        refine ⟨_, h'.cell 3 (i := 1) rfl rfl, ?_⟩
        (conv => whnf)
        refine ⟨_, h'.cell 3 (i := 2) rfl rfl, ?_⟩
        (conv => whnf)
        refine ⟨_, h'.cell 3 (i := 3) rfl rfl, ?_⟩
        (conv => whnf)
        refine ⟨_, h'.cell 2 (i := 0) rfl rfl, ?_⟩
        (conv => whnf)
        exact read_err (L := [_, _, _]) hr h'
      (conv => whnf)
      refine PCalls.mono must_c ?_ (fun v m5 hh => by cases hh.2.1)
      rintro x mE ⟨-, rfl⟩
      (conv => whnf)
      refine ⟨_, h.cell 2 (i := 0) rfl rfl, ?_⟩
      (conv => whnf)
      have hlen : ((s.drop 0).takeWhile (· ≠ 10)).length ≤ s.length := by
        have := (List.takeWhile_sublist (· ≠ (10 : UInt8)) (l := s.drop 0)).length_le
        rwa [List.drop_zero] at this
      refine PCalls.mono (header_c (l := (s.drop 0).takeWhile (· ≠ 10)) (hg.more (h.kept 5 rfl)) (by omega)) ?_ ?_
      rotate_left
      · rintro x mE ⟨rfl, hno, rfl⟩
        (conv => whnf)
        refine ⟨_, rfl, DCalls.mono (bad (read_bad hin hno) h) ?_⟩
        rintro m' ⟨bb, hr, h'⟩
        (conv => whnf)
        refine ⟨_, _, _, h'.cell 3 (i := 0) rfl rfl, ?_⟩
        (conv => whnf)
        refine ⟨_, h'.cell 3 (i := 1) rfl rfl, ?_⟩
        (conv => whnf)
        refine ⟨_, h'.cell 3 (i := 2) rfl rfl, ?_⟩
        (conv => whnf)
        refine ⟨_, h'.cell 3 (i := 3) rfl rfl, ?_⟩
        (conv => whnf)
        refine ⟨_, h'.cell 2 (i := 0) rfl rfl, ?_⟩
        (conv => whnf)
        exact read_err (L := [_, _, _]) hr h'
      rintro v mH ⟨g, c, f, hsome, rfl, rfl⟩
      have hF := read_good (s := s) hin hsome
      (conv => whnf)
      refine ⟨h.rooms 4 rfl (show 0 + 4 ≤ 4 by omega), fun m5 he => ?_⟩
      replace h : Mv.Sep [sl A ([] : List Ins).length n 10 (icells []), sl A2 Bs.length n2 1 (beginsV Bs), pt b4 [.int .i64 ((0 : Nat) : Int)], pt b3 [.nilIface], pt b2 (Prg.mk none 0 [] g c f).cells, kp m] m5 := by
        have h' := h.putAll 4 (i := 0) (Prg.mk none 0 [] g c f).cells rfl
        rw [he.trans rfl]
        exact h'
      clear he
      (conv => whnf)
      refine ⟨_, h.cell 2 (i := 0) rfl rfl, ?_⟩
      (conv => whnf)
      refine ⟨h.room 2 (i := 0) rfl rfl, ?_⟩
      (conv => whnf)
      intro m6 he
      replace h := h.put' 2 he rfl
      clear he
      (conv => whnf)
      obtain ⟨hl1, hl2⟩ := line_wrap (k := 0) hs (Nat.zero_le _) hin
      have hBs : Bs = [] := List.length_eq_zero_iff.1 hIB.symm
      subst hBs
      rw [show 0 + ((s.drop 0).takeWhile (· ≠ 10)).length + 1 = (s.takeWhile (· ≠ 10)).length + 1 by rw [Nat.zero_add]; rfl] at hl1 hl2
      refine ⟨⟨(s.takeWhile (· ≠ 10)).length + 1, none, 0, [], A2, n2, [], g, c, f, m6⟩, le_eq ⟨rfl, rfl, rfl, rfl, rfl, trivial⟩ rfl rfl rfl, ⟨hl1, rfl, Nat.zero_le _, .inr ⟨by simp only; omega, hF⟩, ?_⟩, by simp only; omega⟩
      replace h := h.drop 0
      refine Sep.free (A := sl none 0 0 10 []) ?_ sl_nil
      refine h.turn 1 rfl fun m1 _ h => ?_
      have e : ([Value.int .i64 ((0 : Nat) : Int)].set 0 (.int .i64 (IntKind.i64.wrap (((0 : Nat) : Int) + IntKind.i64.wrap (((ByteArray.size ⟨((s.drop 0).takeWhile (· ≠ 10)).toArray⟩ : Nat) : Int) + 1))))) = [Value.int .i64 (((s.takeWhile (· ≠ 10)).length + 1 : Nat) : Int)] := by rw [hl2]; rfl
      rw [e] at h
      exact h
  · have hsz : ByteArray.size ⟨s.toArray⟩ = s.length := rfl
    cases hd : decide (((k : Nat) : Int) < ((ByteArray.size ⟨s.toArray⟩ : Nat) : Int)) with
    | false =>
      have hend : k = s.length := by
        have := of_decide_eq_false hd
        rw [hsz] at this
        omega
      (conv => whnf)
      refine ⟨_, h.cell 2 (i := 0) rfl rfl, ?_⟩
      (conv => whnf)
      refine brk_false (beq_false_of_ne (by omega)) ?_
      (conv => whnf)
      have hq : (Prg.mk A n I g c f).at M := h.rd 0 rfl
      refine ⟨_, _, _, h.cell 4 (i := 0) rfl rfl, ?_⟩
      (conv => whnf)
      refine ⟨_, h.cell 4 (i := 1) rfl rfl, ?_⟩
      (conv => whnf)
      refine ⟨_, h.cell 4 (i := 2) rfl rfl, ?_⟩
      (conv => whnf)
      refine ⟨_, h.cell 4 (i := 3) rfl rfl, ?_⟩
      (conv => whnf)
      obtain ⟨r1, r2, hr⟩ : ∃ r1 r2, rightF (Prg.mk A n I g c f) = (r1, r2) := ⟨_, _, rfl⟩
      have hRight := right_c hq
      rw [hr] at hRight
      have hread : readF s = .ok (⟨none, 0, I, g, c, f⟩, Bs) := by
        rw [hF, body_end (by omega)]
        exact con_ok
      have hrd := readR_ok hread (rightF_A.symm.trans hr)
      have hat : r1 = 60 → I ≠ [] → ∃ j : Nat, r2 = j ∧ j < I.length := fun h1 h2 => by
        have := right_at (q := Prg.mk A n I g c f) (by rw [hr]; exact h1) h2
        rw [hr] at this
        exact this
      clear hF hr
      refine FCalls.mono hRight ?_
      rintro v m9 ⟨rfl, rfl⟩
      clear hRight
      (conv => whnf)
      cases hd6 : (r1 == 60) with
      | true =>
        have h6 : r1 = 60 := by simpa using hd6
        (conv => whnf)
        refine brk_intro (fun q7 => ?_) (fun q7 => ?_)
        · have c7 : 0 < Bs.length := by have : (0 : Int) < (Bs.length : Nat) := (by simpa using q7); omega
          have hBs : Bs ≠ [] := fun e => by rw [e] at c7; simp at c7
          rw [if_pos ⟨h6, hBs⟩] at hrd
          obtain ⟨j, rfl, hj⟩ := hat h6 (fun e => by rw [e] at hIB; simp at hIB; omega)
          obtain ⟨bj, hbj⟩ : ∃ bj, Bs[j]? = some bj := ⟨_, List.getElem?_eq_getElem (by omega)⟩
          rw [show Bs.getD ((j : Nat) : Int).toNat 0 = bj by simp [List.getD, hbj]] at hrd
          have r160 : Except.error (((60 : Int), ((bj : Nat) : Int))) = (Except.error ((r1 : Int), ((bj : Nat) : Int)) : Except (Int × Int) Prg) := by rw [h6]
          replace hrd := hrd.trans r160
          obtain ⟨p, hp, hpc⟩ := (h.rd 1 rfl).at (k := j) (v := .int .i64 ((bj : Nat) : Int)) (by simp [beginsV, hbj])
          (conv => whnf)
          refine ⟨p, hp, by show (0 : Int) ≤ (j : Nat); omega, by show ((j : Nat) : Int) < (Bs.length : Nat); omega, ?_⟩
          have cellj : ∀ {M : Mem} {L0 : Asn} {L : List Asn}, Mv.Sep (L0 :: sl A2 Bs.length n2 1 (beginsV Bs) :: L) M → M.cell (p.add (((j : Nat) : Int).toNat * (tbl.at 3).size)) = some (.int .i64 ((bj : Nat) : Int)) := by
            intro M L0 L h
            obtain ⟨p', hp', hpc'⟩ := (h.rd 1 rfl).at (k := j) (v := .int .i64 ((bj : Nat) : Int)) (by simp [beginsV, hbj])
            rw [hp] at hp'
            cases hp'
            rw [show ((j : Nat) : Int).toNat * (tbl.at 3).size = j from Nat.mul_one j]
            exact hpc'
          (conv => whnf)
          refine ⟨?_, ?_, trivial⟩
          · (conv => whnf)
            refine ⟨_, cellj h, ?_⟩
            (conv => whnf)
            refine ⟨?_, ?_, trivial⟩
            · (conv => whnf)
              intro nb mb hb he
              replace h := h.new' (l := [.int .i64 r1, .int .i64 ((bj : Nat) : Int)]) hb (he.trans rfl)
              clear hb he
              (conv => whnf)
              refine ⟨?_, ?_, trivial⟩
              · (conv => whnf)
                refine mk62 ?_
                (conv => whnf)
                refine ⟨h.rooms 5 rfl (show 0 + 4 ≤ 4 by omega), fun mz he => ?_⟩
                have h' := h.putAll 5 (i := 0) prgZ rfl
                replace he : mz = mb.setCells ⟨b2, 0, none⟩ 0 prgZ := he
                rw [← he] at h'
                clear h he
                have h := h'
                clear h'
                (conv => whnf)
                refine ⟨h.room 4 (i := 0) rfl rfl, ?_⟩
                (conv => whnf)
                intro m12 he
                replace h := h.put' 4 he rfl
                clear he
                (conv => whnf)
                refine DCalls.mono door_idle ?_
                rintro m' rfl
                (conv => whnf)
                refine ⟨_, _, _, h.cell 5 (i := 0) rfl rfl, ?_⟩
                (conv => whnf)
                refine ⟨_, h.cell 5 (i := 1) rfl rfl, ?_⟩
                (conv => whnf)
                refine ⟨_, h.cell 5 (i := 2) rfl rfl, ?_⟩
                (conv => whnf)
                refine ⟨_, h.cell 5 (i := 3) rfl rfl, ?_⟩
                (conv => whnf)
                refine ⟨_, h.cell 4 (i := 0) rfl rfl, ?_⟩
                (conv => whnf)
                exact read_err (L := [_, _, _, _, _]) hrd h
              · (conv => whnf)
                refine ⟨h.rooms 5 rfl (show 0 + 4 ≤ 4 by omega), fun mz he => ?_⟩
                have h' := h.putAll 5 (i := 0) prgZ rfl
                replace he : mz = mb.setCells ⟨b2, 0, none⟩ 0 prgZ := he
                rw [← he] at h'
                clear h he
                have h := h'
                clear h'
                (conv => whnf)
                refine mk62 ?_
                (conv => whnf)
                refine ⟨h.room 4 (i := 0) rfl rfl, ?_⟩
                (conv => whnf)
                intro m12 he
                replace h := h.put' 4 he rfl
                clear he
                (conv => whnf)
                refine DCalls.mono door_idle ?_
                rintro m' rfl
                (conv => whnf)
                refine ⟨_, _, _, h.cell 5 (i := 0) rfl rfl, ?_⟩
                (conv => whnf)
                refine ⟨_, h.cell 5 (i := 1) rfl rfl, ?_⟩
                (conv => whnf)
                refine ⟨_, h.cell 5 (i := 2) rfl rfl, ?_⟩
                (conv => whnf)
                refine ⟨_, h.cell 5 (i := 3) rfl rfl, ?_⟩
                (conv => whnf)
                refine ⟨_, h.cell 4 (i := 0) rfl rfl, ?_⟩
                (conv => whnf)
                exact read_err (L := [_, _, _, _, _]) hrd h
            · (conv => whnf)
              refine ⟨h.rooms 4 rfl (show 0 + 4 ≤ 4 by omega), fun mz he => ?_⟩
              have h' := h.putAll 4 (i := 0) prgZ rfl
              replace he : mz = m9.setCells ⟨b2, 0, none⟩ 0 prgZ := he
              rw [← he] at h'
              clear h he
              have h := h'
              clear h'
              (conv => whnf)
              intro nb mb hb he
              replace h := h.new' (l := [.int .i64 r1, .int .i64 ((bj : Nat) : Int)]) hb (he.trans rfl)
              clear hb he
              (conv => whnf)
              refine mk62 ?_
              (conv => whnf)
              refine ⟨h.room 4 (i := 0) rfl rfl, ?_⟩
              (conv => whnf)
              intro m12 he
              replace h := h.put' 4 he rfl
              clear he
              (conv => whnf)
              refine DCalls.mono door_idle ?_
              rintro m' rfl
              (conv => whnf)
              refine ⟨_, _, _, h.cell 5 (i := 0) rfl rfl, ?_⟩
              (conv => whnf)
              refine ⟨_, h.cell 5 (i := 1) rfl rfl, ?_⟩
              (conv => whnf)
              refine ⟨_, h.cell 5 (i := 2) rfl rfl, ?_⟩
              (conv => whnf)
              refine ⟨_, h.cell 5 (i := 3) rfl rfl, ?_⟩
              (conv => whnf)
              refine ⟨_, h.cell 4 (i := 0) rfl rfl, ?_⟩
              (conv => whnf)
              exact read_err (L := [_, _, _, _, _]) hrd h
          · (conv => whnf)
            refine ⟨h.rooms 4 rfl (show 0 + 4 ≤ 4 by omega), fun mz he => ?_⟩
            have h' := h.putAll 4 (i := 0) prgZ rfl
            replace he : mz = m9.setCells ⟨b2, 0, none⟩ 0 prgZ := he
            rw [← he] at h'
            clear h he
            have h := h'
            clear h'
            (conv => whnf)
            refine ⟨_, cellj h, ?_⟩
            (conv => whnf)
            intro nb mb hb he
            replace h := h.new' (l := [.int .i64 r1, .int .i64 ((bj : Nat) : Int)]) hb (he.trans rfl)
            clear hb he
            (conv => whnf)
            refine mk62 ?_
            (conv => whnf)
            refine ⟨h.room 4 (i := 0) rfl rfl, ?_⟩
            (conv => whnf)
            intro m12 he
            replace h := h.put' 4 he rfl
            clear he
            (conv => whnf)
            refine DCalls.mono door_idle ?_
            rintro m' rfl
            (conv => whnf)
            refine ⟨_, _, _, h.cell 5 (i := 0) rfl rfl, ?_⟩
            (conv => whnf)
            refine ⟨_, h.cell 5 (i := 1) rfl rfl, ?_⟩
            (conv => whnf)
            refine ⟨_, h.cell 5 (i := 2) rfl rfl, ?_⟩
            (conv => whnf)
            refine ⟨_, h.cell 5 (i := 3) rfl rfl, ?_⟩
            (conv => whnf)
            refine ⟨_, h.cell 4 (i := 0) rfl rfl, ?_⟩
            (conv => whnf)
            exact read_err (L := [_, _, _, _, _]) hrd h
        · have c7 : Bs = [] := List.length_eq_zero_iff.1 (by have : ¬ (0 : Int) < (Bs.length : Nat) := (by simpa using q7); omega)
          rw [if_neg (fun h => h.2 c7), if_pos (show r1 ≠ 0 by omega)] at hrd
          (conv => whnf)
          refine brk_true (by rw [h6]; rfl) ?_
          (conv => whnf)
          intro nb m10 hb he
          replace h := h.new' (l := [.int .i64 r1, .int .i64 0]) hb (he.trans rfl)
          clear hb he
          (conv => whnf)
          refine mk62 ?_
          (conv => whnf)
          refine ⟨h.rooms 5 rfl (show 0 + 4 ≤ 4 by omega), fun m11 he => ?_⟩
          have h' := h.putAll 5 (i := 0) prgZ rfl
          replace he : m11 = m10.setCells ⟨b2, 0, none⟩ 0 prgZ := he
          rw [← he] at h'
          clear h he
          have h := h'
          clear h'
          (conv => whnf)
          refine ⟨h.room 4 (i := 0) rfl rfl, ?_⟩
          (conv => whnf)
          intro m12 he
          replace h := h.put' 4 he rfl
          clear he
          (conv => whnf)
          refine DCalls.mono door_idle ?_
          rintro m' rfl
          (conv => whnf)
          refine ⟨_, _, _, h.cell 5 (i := 0) rfl rfl, ?_⟩
          (conv => whnf)
          refine ⟨_, h.cell 5 (i := 1) rfl rfl, ?_⟩
          (conv => whnf)
          refine ⟨_, h.cell 5 (i := 2) rfl rfl, ?_⟩
          (conv => whnf)
          refine ⟨_, h.cell 5 (i := 3) rfl rfl, ?_⟩
          (conv => whnf)
          refine ⟨_, h.cell 4 (i := 0) rfl rfl, ?_⟩
          (conv => whnf)
          exact read_err (L := [_, _, _, _, _]) hrd h
      | false =>
        have h6 : r1 ≠ 60 := by simpa using hd6
        rw [if_neg (fun h => h6 h.1)] at hrd
        (conv => whnf)
        refine brk_intro (fun q7 => ?_) (fun q7 => ?_)
        · have c7 : r1 ≠ 0 := by simpa using q7
          rw [if_pos c7] at hrd
          (conv => whnf)
          intro nb m10 hb he
          replace h := h.new' (l := [.int .i64 r1, .int .i64 0]) hb (he.trans rfl)
          clear hb he
          (conv => whnf)
          refine mk62 ?_
          (conv => whnf)
          refine ⟨h.rooms 5 rfl (show 0 + 4 ≤ 4 by omega), fun m11 he => ?_⟩
          have h' := h.putAll 5 (i := 0) prgZ rfl
          replace he : m11 = m10.setCells ⟨b2, 0, none⟩ 0 prgZ := he
          rw [← he] at h'
          clear h he
          have h := h'
          clear h'
          (conv => whnf)
          refine ⟨h.room 4 (i := 0) rfl rfl, ?_⟩
          (conv => whnf)
          intro m12 he
          replace h := h.put' 4 he rfl
          clear he
          (conv => whnf)
          refine DCalls.mono door_idle ?_
          rintro m' rfl
          (conv => whnf)
          refine ⟨_, _, _, h.cell 5 (i := 0) rfl rfl, ?_⟩
          (conv => whnf)
          refine ⟨_, h.cell 5 (i := 1) rfl rfl, ?_⟩
          (conv => whnf)
          refine ⟨_, h.cell 5 (i := 2) rfl rfl, ?_⟩
          (conv => whnf)
          refine ⟨_, h.cell 5 (i := 3) rfl rfl, ?_⟩
          (conv => whnf)
          refine ⟨_, h.cell 4 (i := 0) rfl rfl, ?_⟩
          (conv => whnf)
          exact read_err (L := [_, _, _, _, _]) hrd h
        · have c7 : r1 = 0 := by simpa using q7
          rw [if_neg (by simpa using c7)] at hrd
          (conv => whnf)
          refine ⟨_, _, _, h.cell 4 (i := 0) rfl rfl, ?_⟩
          (conv => whnf)
          refine ⟨_, h.cell 4 (i := 1) rfl rfl, ?_⟩
          (conv => whnf)
          refine ⟨_, h.cell 4 (i := 2) rfl rfl, ?_⟩
          (conv => whnf)
          refine ⟨_, h.cell 4 (i := 3) rfl rfl, ?_⟩
          (conv => whnf)
          refine ⟨h.rooms 4 rfl (show 0 + 4 ≤ 4 by omega), fun m11 he => ?_⟩
          have h' := h.putAll 4 (i := 0) (Prg.mk A n I g c f).cells rfl
          replace he : m11 = m9.setCells ⟨b2, 0, none⟩ 0 (Prg.mk A n I g c f).cells := he
          rw [← he] at h'
          clear h he
          have h := h'
          clear h'
          (conv => whnf)
          refine ⟨h.room 3 (i := 0) rfl rfl, ?_⟩
          (conv => whnf)
          intro m12 he
          replace h := h.put' 3 he rfl
          clear he
          (conv => whnf)
          refine DCalls.mono door_idle ?_
          rintro m' rfl
          (conv => whnf)
          refine ⟨_, _, _, h.cell 4 (i := 0) rfl rfl, ?_⟩
          (conv => whnf)
          refine ⟨_, h.cell 4 (i := 1) rfl rfl, ?_⟩
          (conv => whnf)
          refine ⟨_, h.cell 4 (i := 2) rfl rfl, ?_⟩
          (conv => whnf)
          refine ⟨_, h.cell 4 (i := 3) rfl rfl, ?_⟩
          (conv => whnf)
          refine ⟨_, h.cell 3 (i := 0) rfl rfl, ?_⟩
          (conv => whnf)
          rw [hrd]
          exact ⟨A, n, rfl, (((h.drop 1).drop 1).drop 1).drop 1⟩
    | true =>
      have hlt : k < s.length := by
        have := of_decide_eq_true hd
        rw [hsz] at this
        omega
      (conv => whnf)
      refine ⟨_, h.cell 2 (i := 0) rfl rfl, ?_⟩
      (conv => whnf)
      refine ⟨by omega, by rw [hsz]; omega, by omega, ?_⟩
      (conv => whnf)
      refine FCalls.mono (cut_from (k := k) (hg.more (h.kept 5 rfl)) hs) ?_
      have hne : s.drop k ≠ [] := fun e => by have := congrArg List.length e; rw [List.length_drop] at this; simp at this; omega
      rintro v M1 ⟨⟨hin, rfl⟩ | ⟨hin, rfl⟩, rfl⟩
      rotate_left
      · have hR : readF s = .error k := by rw [hF, body_no hin hne, con_err]
        (conv => whnf)
        refine PCalls.mono must_c (fun v m5 hh => by cases hh.1) ?_
        rintro x mE ⟨rfl, -, rfl⟩
        (conv => whnf)
        refine ⟨_, rfl, DCalls.mono (bad hR h) ?_⟩
        rintro m' ⟨bb, hr, h'⟩
        (conv => whnf)
        refine ⟨_, _, _, h'.cell 3 (i := 0) rfl rfl, ?_⟩
        (conv => whnf)
        refine ⟨_, h'.cell 3 (i := 1) rfl rfl, ?_⟩
        (conv => whnf)
        refine ⟨_, h'.cell 3 (i := 2) rfl rfl, ?_⟩
        (conv => whnf)
        refine ⟨_, h'.cell 3 (i := 3) rfl rfl, ?_⟩
        (conv => whnf)
        refine ⟨_, h'.cell 2 (i := 0) rfl rfl, ?_⟩
        (conv => whnf)
        exact read_err (L := [_, _, _]) hr h'
      (conv => whnf)
      refine PCalls.mono must_c ?_ (fun v m5 hh => by cases hh.2.1)
      rintro x mE ⟨-, rfl⟩
      (conv => whnf)
      refine ⟨_, h.cell 2 (i := 0) rfl rfl, ?_⟩
      (conv => whnf)
      refine brk_false (beq_false_of_ne (by omega)) ?_
      (conv => whnf)
      obtain ⟨hl1, hl2⟩ := line_wrap hs hk hin
      refine ⟨?_, ?_, trivial⟩
      · (conv => whnf)
        refine ⟨_, _, _, h.cell 4 (i := 0) rfl rfl, ?_⟩
        (conv => whnf)
        refine PCalls.mono (inst_c (l := (s.drop k).takeWhile (· ≠ 10)) (hg.more (h.kept 5 rfl)) (by omega)) ?_ ?_
        rotate_left
        · rintro x mE ⟨rfl, hno, rfl⟩
          have hR : readF s = .error k := by rw [hF, body_bad hin hno, con_err]
          (conv => whnf)
          refine ⟨_, rfl, DCalls.mono (bad hR h) ?_⟩
          rintro m' ⟨bb, hr, h'⟩
          (conv => whnf)
          refine ⟨_, _, _, h'.cell 3 (i := 0) rfl rfl, ?_⟩
          (conv => whnf)
          refine ⟨_, h'.cell 3 (i := 1) rfl rfl, ?_⟩
          (conv => whnf)
          refine ⟨_, h'.cell 3 (i := 2) rfl rfl, ?_⟩
          (conv => whnf)
          refine ⟨_, h'.cell 3 (i := 3) rfl rfl, ?_⟩
          (conv => whnf)
          refine ⟨_, h'.cell 2 (i := 0) rfl rfl, ?_⟩
          (conv => whnf)
          exact read_err (L := [_, _, _]) hr h'
        rintro v mI ⟨i, hsome, rfl, rfl⟩
        have hF2 := hF.trans ((congrArg (conF g c f I Bs) (body_good (k := k) hin hsome)).trans (con_step _))
        (conv => whnf)
        intro nb m5 hb he
        replace h := h.new' (l := i.cells) hb (he.trans rfl)
        have hBn : m5.holds ⟨nb, 0, none⟩ i.cells := (h.blk 0 rfl).holds fun k v hk => by rw [Nat.zero_add]; exact hk
        clear hb he
        (conv => whnf)
        obtain ⟨ok, hR⟩ := h.app 1 (T := tbl) (e := 56) (news := i.cells) (k := 1) (B := some ⟨nb, 0, none⟩) rfl rfl (.inr ⟨_, rfl, hBn⟩) rfl rfl (by show 2 * (I.length + 1) * 80 ≤ 2 ^ 48; omega) rfl
        refine ⟨_, _, ok, fun A3 n3 m6 hr2 => ?_⟩
        replace h := (hR _ _ _ hr2).drop 0
        clear ok hR hr2 hBn
        (conv => whnf)
        refine ⟨h.room 4 (i := 0) rfl rfl, ?_⟩
        (conv => whnf)
        intro m7 he
        replace h := h.put' 4 he rfl
        clear he
        (conv => whnf)
        refine ⟨_, h.cell 2 (i := 0) rfl rfl, ?_⟩
        (conv => whnf)
        intro nb m5 hb he
        replace h := h.new' (l := [.int .i64 ((k : Nat) : Int)]) hb (he.trans rfl)
        have hBn : m5.holds ⟨nb, 0, none⟩ [.int .i64 ((k : Nat) : Int)] := (h.blk 0 rfl).holds fun k v hk => by rw [Nat.zero_add]; exact hk
        clear hb he
        (conv => whnf)
        obtain ⟨ok, hR⟩ := h.app 2 (T := tbl) (e := 3) (news := [.int .i64 ((k : Nat) : Int)]) (k := 1) (B := some ⟨nb, 0, none⟩) rfl rfl (.inr ⟨_, rfl, hBn⟩) rfl rfl (by show 2 * (Bs.length + 1) * 8 ≤ 2 ^ 48; omega) rfl
        refine ⟨_, _, ok, fun A2 c5 m6 hr2 => ?_⟩
        replace h := (hR _ _ _ hr2).drop 0
        clear ok hR hr2 hBn
        (conv => whnf)
        refine ⟨_, h.cell 2 (i := 0) rfl rfl, ?_⟩
        (conv => whnf)
        refine ⟨h.room 2 (i := 0) rfl rfl, ?_⟩
        (conv => whnf)
        intro m8 he
        replace h := h.put' 2 he rfl
        clear he
        (conv => whnf)
        have e1 : (I ++ [i]).length = I.length + 1 := by simp
        have e2 : icells (I ++ [i]) = icells I ++ i.cells := by simp [icells]
        have e3 : (Bs ++ [k]).length = Bs.length + 1 := by simp
        have e4 : beginsV (Bs ++ [k]) = beginsV Bs ++ [Value.int .i64 ((k : Nat) : Int)] := by simp [beginsV]
        have e5 : (Prg.mk A3 n3 (I ++ [i]) g c f).cells = [.slice A3 (I.length + 1) n3, .int .i64 g, .int .i64 c, .bool f] := by unfold Prg.cells; simp only; rw [e1]
        have h2 : Mv.Sep [sl A3 (I ++ [i]).length n3 10 (icells (I ++ [i])), sl A2 (Bs ++ [k]).length c5 1 (beginsV (Bs ++ [k])), pt b4 [.int .i64 ((k + ((s.drop k).takeWhile (· ≠ 10)).length + 1 : Nat) : Int)], pt b3 [.nilIface], pt b2 (Prg.mk A3 n3 (I ++ [i]) g c f).cells, kp m] m8 := by
          rw [e1, e2, e3, e4, e5, ← hl2]
          exact h
        rw [List.drop_drop] at hF2
        exact ⟨⟨k + ((s.drop k).takeWhile (· ≠ 10)).length + 1, A3, n3, I ++ [i], A2, c5, Bs ++ [k], g, c, f, m8⟩, le_eq ⟨by show some (AV.v (.slice A2 (Bs.length + 1) c5)) = some (AV.v (.slice A2 (Bs ++ [k]).length c5)); rw [e3], rfl, rfl, rfl, rfl, trivial⟩ rfl rfl rfl, ⟨hl1, by rw [e1, e3, hIB], by rw [e1]; simp only; omega, .inr ⟨by simp only; omega, hF2⟩, h2⟩, by simp only; omega⟩
      · (conv => whnf)
        refine PCalls.mono (inst_c (l := (s.drop k).takeWhile (· ≠ 10)) (hg.more (h.kept 5 rfl)) (by omega)) ?_ ?_
        rotate_left
        · rintro x mE ⟨rfl, hno, rfl⟩
          have hR : readF s = .error k := by rw [hF, body_bad hin hno, con_err]
          (conv => whnf)
          refine ⟨_, rfl, DCalls.mono (bad hR h) ?_⟩
          rintro m' ⟨bb, hr, h'⟩
          (conv => whnf)
          refine ⟨_, _, _, h'.cell 3 (i := 0) rfl rfl, ?_⟩
          (conv => whnf)
          refine ⟨_, h'.cell 3 (i := 1) rfl rfl, ?_⟩
          (conv => whnf)
          refine ⟨_, h'.cell 3 (i := 2) rfl rfl, ?_⟩
          (conv => whnf)
          refine ⟨_, h'.cell 3 (i := 3) rfl rfl, ?_⟩
          (conv => whnf)
          refine ⟨_, h'.cell 2 (i := 0) rfl rfl, ?_⟩
          (conv => whnf)
          exact read_err (L := [_, _, _]) hr h'
        rintro v mI ⟨i, hsome, rfl, rfl⟩
        have hF2 := hF.trans ((congrArg (conF g c f I Bs) (body_good (k := k) hin hsome)).trans (con_step _))
        (conv => whnf)
        refine ⟨_, _, _, h.cell 4 (i := 0) rfl rfl, ?_⟩
        (conv => whnf)
        intro nb m5 hb he
        replace h := h.new' (l := i.cells) hb (he.trans rfl)
        have hBn : m5.holds ⟨nb, 0, none⟩ i.cells := (h.blk 0 rfl).holds fun k v hk => by rw [Nat.zero_add]; exact hk
        clear hb he
        (conv => whnf)
        obtain ⟨ok, hR⟩ := h.app 1 (T := tbl) (e := 56) (news := i.cells) (k := 1) (B := some ⟨nb, 0, none⟩) rfl rfl (.inr ⟨_, rfl, hBn⟩) rfl rfl (by show 2 * (I.length + 1) * 80 ≤ 2 ^ 48; omega) rfl
        refine ⟨_, _, ok, fun A3 n3 m6 hr2 => ?_⟩
        replace h := (hR _ _ _ hr2).drop 0
        clear ok hR hr2 hBn
        (conv => whnf)
        refine ⟨h.room 4 (i := 0) rfl rfl, ?_⟩
        (conv => whnf)
        intro m7 he
        replace h := h.put' 4 he rfl
        clear he
        (conv => whnf)
        refine ⟨_, h.cell 2 (i := 0) rfl rfl, ?_⟩
        (conv => whnf)
        intro nb m5 hb he
        replace h := h.new' (l := [.int .i64 ((k : Nat) : Int)]) hb (he.trans rfl)
        have hBn : m5.holds ⟨nb, 0, none⟩ [.int .i64 ((k : Nat) : Int)] := (h.blk 0 rfl).holds fun k v hk => by rw [Nat.zero_add]; exact hk
        clear hb he
        (conv => whnf)
        obtain ⟨ok, hR⟩ := h.app 2 (T := tbl) (e := 3) (news := [.int .i64 ((k : Nat) : Int)]) (k := 1) (B := some ⟨nb, 0, none⟩) rfl rfl (.inr ⟨_, rfl, hBn⟩) rfl rfl (by show 2 * (Bs.length + 1) * 8 ≤ 2 ^ 48; omega) rfl
        refine ⟨_, _, ok, fun A2 c5 m6 hr2 => ?_⟩
        replace h := (hR _ _ _ hr2).drop 0
        clear ok hR hr2 hBn
        (conv => whnf)
        refine ⟨_, h.cell 2 (i := 0) rfl rfl, ?_⟩
        (conv => whnf)
        refine ⟨h.room 2 (i := 0) rfl rfl, ?_⟩
        (conv => whnf)
        intro m8 he
        replace h := h.put' 2 he rfl
        clear he
        (conv => whnf)
        have e1 : (I ++ [i]).length = I.length + 1 := by simp
        have e2 : icells (I ++ [i]) = icells I ++ i.cells := by simp [icells]
        have e3 : (Bs ++ [k]).length = Bs.length + 1 := by simp
        have e4 : beginsV (Bs ++ [k]) = beginsV Bs ++ [Value.int .i64 ((k : Nat) : Int)] := by simp [beginsV]
        have e5 : (Prg.mk A3 n3 (I ++ [i]) g c f).cells = [.slice A3 (I.length + 1) n3, .int .i64 g, .int .i64 c, .bool f] := by unfold Prg.cells; simp only; rw [e1]
        have h2 : Mv.Sep [sl A3 (I ++ [i]).length n3 10 (icells (I ++ [i])), sl A2 (Bs ++ [k]).length c5 1 (beginsV (Bs ++ [k])), pt b4 [.int .i64 ((k + ((s.drop k).takeWhile (· ≠ 10)).length + 1 : Nat) : Int)], pt b3 [.nilIface], pt b2 (Prg.mk A3 n3 (I ++ [i]) g c f).cells, kp m] m8 := by
          rw [e1, e2, e3, e4, e5, ← hl2]
          exact h
        rw [List.drop_drop] at hF2
        exact ⟨⟨k + ((s.drop k).takeWhile (· ≠ 10)).length + 1, A3, n3, I ++ [i], A2, c5, Bs ++ [k], g, c, f, m8⟩, le_eq ⟨by show some (AV.v (.slice A2 (Bs.length + 1) c5)) = some (AV.v (.slice A2 (Bs ++ [k]).length c5)); rw [e3], rfl, rfl, rfl, rfl, trivial⟩ rfl rfl rfl, ⟨hl1, by rw [e1, e3, hIB], by rw [e1]; simp only; omega, .inr ⟨by simp only; omega, hF2⟩, h2⟩, by simp only; omega⟩
end Go.Proofs.YtfjbgmeimipibaaGreatDoor
/- Code: Same, the code's and the document's. -/
namespace Go.Proofs.YtfjbgmeimipibaaGreatDoor
open Go Go.Mv
set_option maxHeartbeats 2000000
set_option maxRecDepth 10000
set_option linter.unusedVariables false
set_option linter.unusedSimpArgs false
attribute [local irreducible] FCalls IntKind.wrap bits Mem.set Mem.setCell Mem.setCells YCalls RunP NextP RunU
deriving instance DecidableEq for Ins
theorem eqf_int {P : Program} {T : Tbl} (hT : T.ok P = true) {d : Nat} {xs ys : Array Value} {g : Field} {gs : List Field} {kd k : IntKind} {a b : Int} (hk : (T.at g.type).k = .int kd) (hn : g.name ≠ "_")
    (hx : xs[g.offset]? = some (.int k a)) (hy : ys[g.offset]? = some (.int k b)) (w : World) :
    (Op.eqFields (d + 1) xs ys (g :: gs)).run P w = if a == b then (Op.eqFields (d + 1) xs ys gs).run P w else .ok false w := by
  have hf := Tbl.fact hT (t := g.type) (by rw [hk]; simp)
  have hag := fun w => hf.isAgg w
  rw [hk] at hag
  have p1 : ∀ w, (part g.type xs g.offset).run P w = .ok (.int k a) w := fun w => by simp [part, hag, TK.agg, hx]
  have p2 : ∀ w, (part g.type ys g.offset).run P w = .ok (.int k b) w := fun w => by simp [part, hag, TK.agg, hy]
  have he := fun w => run_equalIn_int (P := P) w d g.type k kd a b (under_int hf hk)
  simp only [Op.eqFields, ne_eq, hn, not_false_eq_true, if_true, Sem.run_bind, p1, p2, he, Result.andThen_ok, Sem.run_ite, Sem.run_pure]
  cases a == b <;> rfl
theorem eqf_arr {P : Program} {T : Tbl} (hT : T.ok P = true) {d n e : Nat} {xs ys : Array Value} {g : Field} {gs : List Field} {kd : IntKind} {us bs : List Int} (hk : (T.at g.type).k = .arr n e) (he : (T.at e).k = .int kd) (hs : (T.at e).size = 1) (hz : (T.at g.type).size = n) (hn : g.name ≠ "_")
    (hx : xs.extract g.offset (g.offset + n) = (intCells kd us).toArray) (hy : ys.extract g.offset (g.offset + n) = (intCells kd bs).toArray) (ha : us.length = n) (hb : bs.length = n) (w : World) :
    (Op.eqFields (d + 2) xs ys (g :: gs)).run P w = if us == bs then (Op.eqFields (d + 2) xs ys gs).run P w else .ok false w := by
  have hf := Tbl.fact hT (t := g.type) (by rw [hk]; simp)
  have hfe := Tbl.fact hT (t := e) (by rw [he]; simp)
  have hag := fun w => hf.isAgg w
  have hsz := fun w => hf.size w
  rw [hk] at hag
  rw [hz] at hsz
  have p1 : ∀ w, (part g.type xs g.offset).run P w = .ok (.agg (intCells kd us).toArray) w := fun w => by simp [part, hag, TK.agg, hsz, hx]
  have p2 : ∀ w, (part g.type ys g.offset).run P w = .ok (.agg (intCells kd bs).toArray) w := fun w => by simp [part, hag, TK.agg, hsz, hy]
  have h0 := fun w => run_equalIn_ints (P := P) (under_arr hf hk) (under_int hfe he) (fun w => by rw [hfe.size w, hs]) (fun w => by rw [hfe.isAgg w, he]; rfl) d ha hb w
  simp only [Op.eqFields, ne_eq, hn, not_false_eq_true, if_true, Sem.run_bind, p1, p2, h0, Result.andThen_ok, Sem.run_ite, Sem.run_pure]
  cases us == bs <;> rfl
theorem equal56 (i j : Ins) (w : World) : (Op.equal 56 (.agg i.cells.toArray) (.agg j.cells.toArray)).run Tryz.prog w = .ok (decide (i = j)) w := by
  have hn : (tbl.at 56).k = .struct [(0, 3), (1, 3), (2, 3), (3, 3), (4, 3), (5, 3), (6, 54)] := rfl
  have hf := Tbl.fact tbl_ok (t := 56) (by rw [hn]; simp)
  obtain ⟨gs, hu, hgs⟩ := under_struct hf hn
  have h7 := hf.eq rfl
  simp only [eqOk, hu, Bool.and_eq_true] at h7
  have hff : (Tryz.prog).fieldsOf 56 = gs := by simp [Program.fieldsOf, hu]
  have hrun := run_equalIn_struct (P := Tryz.prog) w 9999 56 i.cells.toArray j.cells.toArray (by rw [hff]; exact hu) (by simpa using h7.2.1)
  rw [hff] at hrun
  have hnm := h7.2.2
  show (Op.equalIn (9999 + 1) 56 _ _).run _ w = _
  rw [hrun]
  clear hrun hff hu h7 hf hn
  obtain ⟨g0, r0, e0, p0, hgs⟩ := List.map_eq_cons_iff.1 hgs
  obtain ⟨g1, r1, e1, p1, hgs⟩ := List.map_eq_cons_iff.1 hgs
  obtain ⟨g2, r2, e2, p2, hgs⟩ := List.map_eq_cons_iff.1 hgs
  obtain ⟨g3, r3, e3, p3, hgs⟩ := List.map_eq_cons_iff.1 hgs
  obtain ⟨g4, r4, e4, p4, hgs⟩ := List.map_eq_cons_iff.1 hgs
  obtain ⟨g5, r5, e5, p5, hgs⟩ := List.map_eq_cons_iff.1 hgs
  obtain ⟨g6, r6, e6, p6, hgs⟩ := List.map_eq_cons_iff.1 hgs
  have e7 := List.map_eq_nil_iff.1 hgs
  subst e7 e6 e5 e4 e3 e2 e1
  rw [e0] at hnm ⊢
  simp only [List.all_cons, Bool.and_eq_true, decide_eq_true_eq] at hnm
  obtain ⟨n0, n1, n2, n3, n4, n5, n6, -⟩ := hnm
  simp only [Prod.mk.injEq] at p0 p1 p2 p3 p4 p5 p6
  have i3 : (tbl.at 3).k = .int .i64 := rfl
  rw [eqf_int tbl_ok (kd := .i64) (by rw [p0.2]; rfl) n0 (k := .i64) (a := i.op) (b := j.op) (by rw [p0.1]; rfl) (by rw [p0.1]; rfl),
    eqf_int tbl_ok (kd := .i64) (by rw [p1.2]; rfl) n1 (k := .i64) (a := i.x) (b := j.x) (by rw [p1.1]; rfl) (by rw [p1.1]; rfl),
    eqf_int tbl_ok (kd := .i64) (by rw [p2.2]; rfl) n2 (k := .i64) (a := i.y) (b := j.y) (by rw [p2.1]; rfl) (by rw [p2.1]; rfl),
    eqf_int tbl_ok (kd := .i64) (by rw [p3.2]; rfl) n3 (k := .i64) (a := i.n) (b := j.n) (by rw [p3.1]; rfl) (by rw [p3.1]; rfl),
    eqf_int tbl_ok (kd := .i64) (by rw [p4.2]; rfl) n4 (k := .i64) (a := i.mn) (b := j.mn) (by rw [p4.1]; rfl) (by rw [p4.1]; rfl),
    eqf_int tbl_ok (kd := .i64) (by rw [p5.2]; rfl) n5 (k := .i64) (a := i.mx) (b := j.mx) (by rw [p5.1]; rfl) (by rw [p5.1]; rfl),
    eqf_arr (d := 9997) tbl_ok (n := 4) (e := 52) (kd := .u64) (us := [i.s0, i.s1, i.s2, i.s3]) (bs := [j.s0, j.s1, j.s2, j.s3]) (by rw [p6.2]; rfl) rfl rfl (by rw [p6.2]; rfl) n6 (by rw [p6.1]; rfl) (by rw [p6.1]; rfl) rfl rfl]
  obtain ⟨a0, a1, a2, a3, a4, a5, b0, b1, b2, b3⟩ := i
  obtain ⟨c0, c1, c2, c3, c4, c5, d0, d1, d2, d3⟩ := j
  simp only [Ins.mk.injEq]
  by_cases h0 : a0 = c0
  · by_cases h1 : a1 = c1
    · by_cases h2 : a2 = c2
      · by_cases h3 : a3 = c3
        · by_cases h4 : a4 = c4
          · by_cases h5 : a5 = c5
            · by_cases h6 : b0 = d0 ∧ b1 = d1 ∧ b2 = d2 ∧ b3 = d3
              · obtain ⟨rfl, rfl, rfl, rfl⟩ := h6
                subst h0 h1 h2 h3 h4 h5
                simp [Op.eqFields]
              · have e : ([b0, b1, b2, b3] == [d0, d1, d2, d3]) = false := by
                  rw [beq_eq_false_iff_ne]
                  intro h
                  simp only [List.cons.injEq] at h
                  exact h6 ⟨h.1, h.2.1, h.2.2.1, h.2.2.2.1⟩
                simp [h0, h1, h2, h3, h4, h5, e, h6]
            · simp [h0, h1, h2, h3, h4, h5]
          · simp [h0, h1, h2, h3, h4]
        · simp [h0, h1, h2, h3]
      · simp [h0, h1, h2]
    · simp [h0, h1]
  · simp [h0]
def sameF (q r : Prg) : Bool := decide (q.ins = r.ins ∧ q.groups = r.groups ∧ q.counters = r.counters ∧ q.fold = r.fold)
theorem same_no {q r : Prg} (h : ¬ (q.ins = r.ins ∧ q.groups = r.groups ∧ q.counters = r.counters ∧ q.fold = r.fold)) : sameF q r = false := decide_eq_false h
theorem same_c {m : Mem} {q r : Prg} (hq : q.at m) (hr : r.at m) (hn : q.ins.length ≤ 9223372036854775806) : FCalls Tryz.prog 28 [q.val, r.val] m fun v m' => v = .bool (sameF q r) ∧ m' = m := by
  refine FCalls.less ?_
  refine fcalls_of_vc (T := tbl) (B := bodies) (pr := [99999, 2, 3, 6]) (DR := dr28) (args := [.v q.val, .v r.val]) tbl_ok bodies_ok mixed Tryz.func28 rfl (by decide +kernel) (by simp [Tryz.f28]) rfl ?_
  (conv => whnf)
  cases hd1 : (((q.ins.length : Nat) : Int) != ((r.ins.length : Nat) : Int)) with
  | true =>
    (conv => whnf)
    have c1 : ¬ q.ins.length = r.ins.length := by have := (by simpa using hd1 : ¬ ((q.ins.length : Nat) : Int) = (r.ins.length : Nat)); omega
    exact ⟨m, Mem.le_refl _, congrArg Value.bool (same_no fun h => c1 (by rw [h.1])).symm, rfl⟩
  | false =>
    have c1 : q.ins.length = r.ins.length := by have := (by simpa using hd1 : ((q.ins.length : Nat) : Int) = (r.ins.length : Nat)); omega
    (conv => whnf)
    cases hd2 : (q.groups != r.groups) with
    | true =>
      (conv => whnf)
      have c2 : ¬ q.groups = r.groups := by simpa using hd2
      exact ⟨m, Mem.le_refl _, congrArg Value.bool (same_no fun h => c2 h.2.1).symm, rfl⟩
    | false =>
      have c2 : q.groups = r.groups := by simpa using hd2
      (conv => whnf)
      cases hd3 : (q.counters != r.counters) with
      | true =>
        (conv => whnf)
        have c3 : ¬ q.counters = r.counters := by simpa using hd3
        exact ⟨m, Mem.le_refl _, congrArg Value.bool (same_no fun h => c3 h.2.2.1).symm, rfl⟩
      | false =>
        have c3 : q.counters = r.counters := by simpa using hd3
        (conv => whnf)
        refine brk_intro (fun q4 => ?_) (fun q4 => ?_)
        · have c4 : ¬ q.fold = r.fold := by simpa using q4
          (conv => whnf)
          exact ⟨m, Mem.le_refl _, congrArg Value.bool (same_no fun h => c4 h.2.2.2).symm, rfl⟩
        · have c4 : q.fold = r.fold := by simpa using q4
          (conv => whnf)
          refine loop_keep [3, 36, 37] (Nat × List LC) (fun s => [(38, .v (.int .i64 ((s.1 : Nat) : Int)))]) (fun s => [.cells q.cells, .cells r.cells]) (fun _ => m) (fun s => s.1 ≤ q.ins.length ∧ ∀ j, j < s.1 → q.ins[j]? = r.ins[j]?) (fun s => q.ins.length - s.1) (0, []) ⟨rfl, trivial⟩ rfl rfl ⟨Nat.zero_le _, fun j h => (by simp only at h; omega)⟩ ?_
          (conv => whnf)
          refine ⟨rfl, ?_⟩
          rintro ⟨k, _⟩ ⟨hk, hJ⟩
          simp only at hk hJ
          (conv => whnf)
          refine brk_intro (fun q7 => ?_) (fun q7 => ?_)
          · have c7 : k < q.ins.length := by have : (k : Int) < q.ins.length := (by simpa using q7); omega
            have step1 : IntKind.i64.wrap ((k : Int) + 1) = ((k + 1 : Nat) : Int) := wrap_id (by omega) (by omega)
            obtain ⟨i, hi⟩ : ∃ i, q.ins[k]? = some i := ⟨_, List.getElem?_eq_getElem c7⟩
            obtain ⟨j, hj⟩ : ∃ j, r.ins[k]? = some j := ⟨_, List.getElem?_eq_getElem (by omega)⟩
            obtain ⟨p, hp, hc⟩ := ins_at hq hi
            obtain ⟨p', hp', hc'⟩ := ins_at hr hj
            (conv => whnf)
            refine ⟨p, hp, by omega, by omega, ?_⟩
            (conv => whnf)
            refine ⟨_, hc 0 _ rfl, ?_⟩
            (conv => whnf)
            refine ⟨_, hc 1 _ rfl, ?_⟩
            (conv => whnf)
            refine ⟨_, hc 2 _ rfl, ?_⟩
            (conv => whnf)
            refine ⟨_, hc 3 _ rfl, ?_⟩
            (conv => whnf)
            refine ⟨_, hc 4 _ rfl, ?_⟩
            (conv => whnf)
            refine ⟨_, hc 5 _ rfl, ?_⟩
            (conv => whnf)
            refine ⟨_, hc 6 _ rfl, ?_⟩
            (conv => whnf)
            refine ⟨_, hc 7 _ rfl, ?_⟩
            (conv => whnf)
            refine ⟨_, hc 8 _ rfl, ?_⟩
            (conv => whnf)
            refine ⟨_, hc 9 _ rfl, ?_⟩
            (conv => whnf)
            refine ⟨p', hp', by omega, by omega, ?_⟩
            (conv => whnf)
            refine ⟨_, hc' 0 _ rfl, ?_⟩
            (conv => whnf)
            refine ⟨_, hc' 1 _ rfl, ?_⟩
            (conv => whnf)
            refine ⟨_, hc' 2 _ rfl, ?_⟩
            (conv => whnf)
            refine ⟨_, hc' 3 _ rfl, ?_⟩
            (conv => whnf)
            refine ⟨_, hc' 4 _ rfl, ?_⟩
            (conv => whnf)
            refine ⟨_, hc' 5 _ rfl, ?_⟩
            (conv => whnf)
            refine ⟨_, hc' 6 _ rfl, ?_⟩
            (conv => whnf)
            refine ⟨_, hc' 7 _ rfl, ?_⟩
            (conv => whnf)
            refine ⟨_, hc' 8 _ rfl, ?_⟩
            (conv => whnf)
            refine ⟨_, hc' 9 _ rfl, ?_⟩
            (conv => whnf)
            refine ⟨_, equal56 i j, ?_⟩
            (conv => whnf)
            refine brk_intro (fun q8 => ?_) (fun q8 => ?_)
            · have c8 : ¬ i = j := by simpa using q8
              (conv => whnf)
              exact ⟨m, Mem.le_refl _, congrArg Value.bool (same_no fun h => c8 (by rw [h.1] at hi; rw [hi] at hj; exact Option.some.inj hj)).symm, rfl⟩
            · have c8 : i = j := by simpa using q8
              (conv => whnf)
              refine ⟨(k + 1, []), le_more (l := [_]) ⟨by show some (AV.v (.int .i64 (IntKind.i64.wrap ((k : Int) + 1)))) = _; rw [step1], rfl, rfl, rfl, trivial⟩ rfl rfl rfl, ⟨c7, fun a ha => ?_⟩, by simp only; omega⟩
              rcases Nat.lt_or_ge a k with h | h
              · exact hJ a h
              · have : a = k := by simp only at ha; omega
                rw [this, hi, hj, c8]
          · have c7 : k = q.ins.length := by have : ¬ (k : Int) < q.ins.length := (by simpa using q7); omega
            (conv => whnf)
            have hall : q.ins = r.ins := by
              apply List.ext_getElem?
              intro j
              rcases Nat.lt_or_ge j k with h | h
              · exact hJ j h
              · rw [List.getElem?_eq_none (by omega), List.getElem?_eq_none (by omega)]
            exact ⟨m, Mem.le_refl _, congrArg Value.bool (decide_eq_true ⟨hall, c2, c3, c4⟩).symm, rfl⟩
theorem rsame_c {m : Mem} {q r : Prg} (hq : q.at m) (hr : r.at m) (hn : q.ins.length ≤ 9223372036854775806) : FCalls Tryz.prog 27 [q.val, r.val] m fun v m' => v = .bool (sameF q r) ∧ m' = m := by
  refine FCalls.less ?_
  refine fcalls_of_vc (T := tbl) (B := bodies) (pr := [99999, 2, 3]) (DR := dr27) (args := [.v q.val, .v r.val]) tbl_ok bodies_ok mixed Tryz.func27 rfl (by decide +kernel) (by simp [Tryz.f27]) rfl ?_
  (conv => whnf)
  cases hd1 : (((q.ins.length : Nat) : Int) != ((r.ins.length : Nat) : Int)) with
  | true =>
    (conv => whnf)
    have c1 : ¬ q.ins.length = r.ins.length := by have := (by simpa using hd1 : ¬ ((q.ins.length : Nat) : Int) = (r.ins.length : Nat)); omega
    exact ⟨m, Mem.le_refl _, congrArg Value.bool (same_no fun h => c1 (by rw [h.1])).symm, rfl⟩
  | false =>
    have c1 : q.ins.length = r.ins.length := by have := (by simpa using hd1 : ((q.ins.length : Nat) : Int) = (r.ins.length : Nat)); omega
    (conv => whnf)
    cases hd2 : (q.groups != r.groups) with
    | true =>
      (conv => whnf)
      have c2 : ¬ q.groups = r.groups := by simpa using hd2
      exact ⟨m, Mem.le_refl _, congrArg Value.bool (same_no fun h => c2 h.2.1).symm, rfl⟩
    | false =>
      have c2 : q.groups = r.groups := by simpa using hd2
      (conv => whnf)
      cases hd3 : (q.counters != r.counters) with
      | true =>
        (conv => whnf)
        have c3 : ¬ q.counters = r.counters := by simpa using hd3
        exact ⟨m, Mem.le_refl _, congrArg Value.bool (same_no fun h => c3 h.2.2.1).symm, rfl⟩
      | false =>
        have c3 : q.counters = r.counters := by simpa using hd3
        (conv => whnf)
        refine brk_intro (fun q4 => ?_) (fun q4 => ?_)
        · have c4 : ¬ q.fold = r.fold := by simpa using q4
          (conv => whnf)
          exact ⟨m, Mem.le_refl _, congrArg Value.bool (same_no fun h => c4 h.2.2.2).symm, rfl⟩
        · have c4 : q.fold = r.fold := by simpa using q4
          (conv => whnf)
          refine loop_keep [2, 3] Nat (fun s => [(5, .v (.int .i64 ((s : Nat) : Int)))]) (fun s => [.cells q.cells, .cells r.cells]) (fun _ => m) (fun s => s ≤ q.ins.length ∧ ∀ j, j < s → q.ins[j]? = r.ins[j]?) (fun s => q.ins.length - s) 0 ⟨rfl, trivial⟩ rfl rfl ⟨Nat.zero_le _, fun j h => (by omega)⟩ ?_
          (conv => whnf)
          refine ⟨rfl, ?_⟩
          rintro k ⟨hk, hJ⟩
          (conv => whnf)
          refine brk_intro (fun q7 => ?_) (fun q7 => ?_)
          · have c7 : k < q.ins.length := by have : (k : Int) < q.ins.length := (by simpa using q7); omega
            have step1 : IntKind.i64.wrap ((k : Int) + 1) = ((k + 1 : Nat) : Int) := wrap_id (by omega) (by omega)
            obtain ⟨i, hi⟩ : ∃ i, q.ins[k]? = some i := ⟨_, List.getElem?_eq_getElem c7⟩
            obtain ⟨j, hj⟩ : ∃ j, r.ins[k]? = some j := ⟨_, List.getElem?_eq_getElem (by omega)⟩
            obtain ⟨p, hp, hc⟩ := ins_at hq hi
            obtain ⟨p', hp', hc'⟩ := ins_at hr hj
            (conv => whnf)
            refine ⟨p, hp, by omega, by omega, ?_⟩
            (conv => whnf)
            refine ⟨_, hc 0 _ rfl, ?_⟩
            (conv => whnf)
            refine ⟨_, hc 1 _ rfl, ?_⟩
            (conv => whnf)
            refine ⟨_, hc 2 _ rfl, ?_⟩
            (conv => whnf)
            refine ⟨_, hc 3 _ rfl, ?_⟩
            (conv => whnf)
            refine ⟨_, hc 4 _ rfl, ?_⟩
            (conv => whnf)
            refine ⟨_, hc 5 _ rfl, ?_⟩
            (conv => whnf)
            refine ⟨_, hc 6 _ rfl, ?_⟩
            (conv => whnf)
            refine ⟨_, hc 7 _ rfl, ?_⟩
            (conv => whnf)
            refine ⟨_, hc 8 _ rfl, ?_⟩
            (conv => whnf)
            refine ⟨_, hc 9 _ rfl, ?_⟩
            (conv => whnf)
            refine ⟨p', hp', by omega, by omega, ?_⟩
            (conv => whnf)
            refine ⟨_, hc' 0 _ rfl, ?_⟩
            (conv => whnf)
            refine ⟨_, hc' 1 _ rfl, ?_⟩
            (conv => whnf)
            refine ⟨_, hc' 2 _ rfl, ?_⟩
            (conv => whnf)
            refine ⟨_, hc' 3 _ rfl, ?_⟩
            (conv => whnf)
            refine ⟨_, hc' 4 _ rfl, ?_⟩
            (conv => whnf)
            refine ⟨_, hc' 5 _ rfl, ?_⟩
            (conv => whnf)
            refine ⟨_, hc' 6 _ rfl, ?_⟩
            (conv => whnf)
            refine ⟨_, hc' 7 _ rfl, ?_⟩
            (conv => whnf)
            refine ⟨_, hc' 8 _ rfl, ?_⟩
            (conv => whnf)
            refine ⟨_, hc' 9 _ rfl, ?_⟩
            (conv => whnf)
            refine ⟨_, equal56 i j, ?_⟩
            (conv => whnf)
            refine brk_intro (fun q8 => ?_) (fun q8 => ?_)
            · have c8 : ¬ i = j := by simpa using q8
              (conv => whnf)
              exact ⟨m, Mem.le_refl _, congrArg Value.bool (same_no fun h => c8 (by rw [h.1] at hi; rw [hi] at hj; exact Option.some.inj hj)).symm, rfl⟩
            · have c8 : i = j := by simpa using q8
              (conv => whnf)
              refine ⟨k + 1, le_eq ⟨by show some (AV.v (.int .i64 (IntKind.i64.wrap ((k : Int) + 1)))) = _; rw [step1], rfl, rfl, trivial⟩ rfl rfl rfl, ⟨c7, fun a ha => ?_⟩, by omega⟩
              rcases Nat.lt_or_ge a k with h | h
              · exact hJ a h
              · have : a = k := by omega
                rw [this, hi, hj, c8]
          · have c7 : k = q.ins.length := by have : ¬ (k : Int) < q.ins.length := (by simpa using q7); omega
            (conv => whnf)
            have hall : q.ins = r.ins := by
              apply List.ext_getElem?
              intro j
              rcases Nat.lt_or_ge j k with h | h
              · exact hJ j h
              · rw [List.getElem?_eq_none (by omega), List.getElem?_eq_none (by omega)]
            exact ⟨m, Mem.le_refl _, congrArg Value.bool (decide_eq_true ⟨hall, c2, c3, c4⟩).symm, rfl⟩
end Go.Proofs.YtfjbgmeimipibaaGreatDoor
/- Code: who can be come to, plain. -/
namespace Go.Proofs.YtfjbgmeimipibaaGreatDoor
open Go Go.Mv
set_option maxHeartbeats 2000000
set_option maxRecDepth 10000
set_option linter.unusedVariables false
set_option linter.unusedSimpArgs false
def succU (i : Ins) (u : Uses) (k : Nat) : List Nat := (if u.n then [k + 1] else []) ++ ((if u.x then [i.x.toNat] else []) ++ (if u.y then [i.y.toNat] else []))
def succL (q : Prg) (k : Nat) : List Nat := match q.ins[k]? with
  | none => []
  | some i => match usesOf i.op with
    | none => []
    | some u => succU i u k
inductive Rch (q : Prg) : Nat → Prop
  | zero : Rch q 0
  | step {k j : Nat} : Rch q k → j ∈ succL q k → Rch q j
open Classical in
noncomputable def reachL (q : Prg) : List Nat := (List.range q.ins.length).filter fun k => decide (Rch q k)
structure Dfs (q : Prg) (seen : List Bool) (st : List Nat) : Prop where
  len : seen.length = q.ins.length
  lt : ∀ k ∈ st, k < q.ins.length
  rs : ∀ k, seen[k]? = some true → Rch q k
  rt : ∀ k ∈ st, Rch q k
  cl : ∀ k, seen[k]? = some true → ∀ j ∈ succL q k, seen[j]? = some true ∨ j ∈ st
  z : seen[0]? = some true ∨ 0 ∈ st
theorem Dfs.init {q : Prg} (h : 0 < q.ins.length) : Dfs q (List.replicate q.ins.length false) [0] where
  len := by simp
  lt := fun k hk => by simp at hk; omega
  rs := fun k hk => by
    rw [List.getElem?_replicate] at hk
    split at hk <;> simp at hk
  rt := fun k hk => by simp at hk; subst hk; exact .zero
  cl := fun k hk => by
    rw [List.getElem?_replicate] at hk
    split at hk <;> simp at hk
  z := .inr (by simp)
theorem Dfs.old {q : Prg} {seen : List Bool} {st : List Nat} {k : Nat} (h : Dfs q seen (st ++ [k])) (hk : seen[k]? = some true) : Dfs q seen st where
  len := h.len
  lt := fun j hj => h.lt j (by simp [hj])
  rs := h.rs
  rt := fun j hj => h.rt j (by simp [hj])
  cl := fun j hj i hi => by
    rcases h.cl j hj i hi with h1 | h1
    · exact .inl h1
    · rcases List.mem_append.1 h1 with h1 | h1
      · exact .inr h1
      · simp at h1; subst h1; exact .inl hk
  z := by
    rcases h.z with h1 | h1
    · exact .inl h1
    · rcases List.mem_append.1 h1 with h1 | h1
      · exact .inr h1
      · simp at h1; subst h1; exact .inl hk
theorem Dfs.new {q : Prg} {seen : List Bool} {st : List Nat} {k : Nat} (h : Dfs q seen (st ++ [k])) (hs : ∀ j ∈ succL q k, j < q.ins.length) : Dfs q (seen.set k true) (st ++ succL q k) := by
  have hk : k < seen.length := by rw [h.len]; exact h.lt k (by simp)
  have up : ∀ j, seen[j]? = some true → (seen.set k true)[j]? = some true := fun j hj => by
    by_cases e : k = j
    · subst e; rw [List.getElem?_set_self hk]
    · rw [List.getElem?_set_ne e]; exact hj
  have self : (seen.set k true)[k]? = some true := List.getElem?_set_self hk
  have mv : ∀ j, j ∈ st ++ [k] → (seen.set k true)[j]? = some true ∨ j ∈ st ++ succL q k := fun j hj => by
    rcases List.mem_append.1 hj with h1 | h1
    · exact .inr (by simp [h1])
    · simp at h1; subst h1; exact .inl self
  refine ⟨by simp [h.len], fun j hj => ?_, fun j hj => ?_, fun j hj => ?_, fun j hj i hi => ?_, ?_⟩
  · rcases List.mem_append.1 hj with h1 | h1
    · exact h.lt j (by simp [h1])
    · exact hs j h1
  · by_cases e : k = j
    · subst e; exact h.rt k (by simp)
    · rw [List.getElem?_set_ne e] at hj; exact h.rs j hj
  · rcases List.mem_append.1 hj with h1 | h1
    · exact h.rt j (by simp [h1])
    · exact .step (h.rt k (by simp)) h1
  · by_cases e : k = j
    · subst e; exact .inr (by simp [hi])
    · rw [List.getElem?_set_ne e] at hj
      rcases h.cl j hj i hi with h1 | h1
      · exact .inl (up i h1)
      · exact mv i h1
  · rcases h.z with h1 | h1
    · exact .inl (up 0 h1)
    · exact mv 0 h1
theorem Dfs.end {q : Prg} {seen : List Bool} (h : Dfs q seen []) (k : Nat) : seen[k]? = some true ↔ Rch q k := by
  refine ⟨h.rs k, fun hr => ?_⟩
  induction hr with
  | zero =>
    rcases h.z with h1 | h1
    · exact h1
    · cases h1
  | step _ hj ih =>
    rcases h.cl _ ih _ hj with h1 | h1
    · exact h1
    · cases h1
def muD (seen : List Bool) (st : List Nat) : Nat := 4 * seen.count false + st.length
theorem count_set : ∀ {l : List Bool} {k : Nat}, l[k]? = some false → (l.set k true).count false + 1 = l.count false
  | b :: r, 0, h => by simp at h; subst h; simp
  | b :: r, k + 1, h => by
    have := count_set (l := r) (k := k) (by simpa using h)
    cases b <;> simp at this ⊢ <;> omega
theorem succ_few (i : Ins) (u : Uses) (k : Nat) : (succU i u k).length ≤ 3 := by
  unfold succU
  split <;> split <;> split <;> simp
def outL (seen : List Bool) (j : Nat) : List Nat := (List.range j).filter fun k => decide (seen[k]? = some true)
theorem outL_step {seen : List Bool} {j : Nat} : outL seen (j + 1) = if seen[j]? = some true then outL seen j ++ [j] else outL seen j := by
  unfold outL
  rw [List.range_succ, List.filter_append]
  split
  · rename_i h
    simp [h]
  · rename_i h
    simp [h]
theorem outL_end {q : Prg} {seen : List Bool} (h : Dfs q seen []) : outL seen q.ins.length = reachL q := by
  unfold outL reachL
  refine List.filter_congr fun k _ => ?_
  have := h.end k
  by_cases hs : seen[k]? = some true
  · simp [hs, this.1 hs]
  · have : ¬ Rch q k := fun hr => hs (this.2 hr)
    simp [hs, this]
theorem outL_len {seen : List Bool} {j : Nat} : (outL seen j).length ≤ j := by
  have := List.length_filter_le (fun k => decide (seen[k]? = some true)) (List.range j)
  unfold outL
  simpa using this
/-- Which fields lead on. -/
theorem uses_ways {op : Int} {u : Uses} (h : usesOf op = some u) : (u.n = true ∧ u.x = false ∧ u.y = false) ∨ (u.n = false ∧ u.x = true ∧ u.y = true) ∨ (u.n = false ∧ u.x = true ∧ u.y = false) ∨ (u.n = false ∧ u.x = false ∧ u.y = false) := by
  unfold usesOf at h
  repeat' split at h
  all_goals first | cases h | skip
  all_goals simp
theorem fine_succ {q : Prg} {k : Nat} {i : Ins} {u : Uses} (hf : fineF q k = true) (hi : q.ins[k]? = some i) (hu : usesOf i.op = some u) :
    (u.n = true → k + 1 < q.ins.length) ∧ (u.x = true → 0 ≤ i.x ∧ i.x < q.ins.length) ∧ (u.y = true → 0 ≤ i.y ∧ i.y < q.ins.length) := by
  unfold fineF at hf
  rw [hi] at hf
  simp only [hu, Bool.and_eq_true] at hf
  obtain ⟨⟨⟨⟨⟨-, hx⟩, hy⟩, -⟩, -⟩, hn⟩ := hf
  refine ⟨fun h => ?_, fun h => ?_, fun h => ?_⟩
  · rw [h] at hn
    simpa using hn
  · rw [h] at hx
    simpa [withinF] using hx
  · rw [h] at hy
    simpa [withinF] using hy
theorem fine_uses {q : Prg} {k : Nat} {i : Ins} (hf : fineF q k = true) (hi : q.ins[k]? = some i) : ∃ u, usesOf i.op = some u := by
  unfold fineF at hf
  rw [hi] at hf
  cases h : usesOf i.op with
  | none => simp [h] at hf
  | some u => exact ⟨u, rfl⟩
theorem succ_lt {q : Prg} {k : Nat} (hf : ∀ (k : Nat) i, q.ins[k]? = some i → fineF q k = true) : ∀ j ∈ succL q k, j < q.ins.length := by
  intro j hj
  unfold succL at hj
  cases hi : q.ins[k]? with
  | none => rw [hi] at hj; cases hj
  | some i =>
    obtain ⟨u, hu⟩ := fine_uses (hf k i hi) hi
    obtain ⟨h1, h2, h3⟩ := fine_succ (hf k i hi) hi hu
    rw [hi] at hj
    simp only [hu] at hj
    unfold succU at hj
    rcases List.mem_append.1 hj with h | h
    · split at h
      · rename_i c; simp at h; have := h1 c; omega
      · cases h
    · rcases List.mem_append.1 h with h | h
      · split at h
        · rename_i c; simp at h; have := h2 c; omega
        · cases h
      · split at h
        · rename_i c; simp at h; have := h3 c; omega
        · cases h
theorem succL_u {q : Prg} {k : Nat} {i : Ins} {u : Uses} (hi : q.ins[k]? = some i) (hu : usesOf i.op = some u) : succL q k = succU i u k := by
  unfold succL
  rw [hi]
  simp only [hu]
end Go.Proofs.YtfjbgmeimipibaaGreatDoor
