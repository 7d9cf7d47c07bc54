/- Marks: the document's own answer: its laws. -/
import Derived.Test.YtlahdleaidhclaaMkCopies
namespace Go.Proofs.Ytlahdleaidhclaa
open Go Go.Mv
set_option maxHeartbeats 1000000
set_option maxRecDepth 10000
set_option linter.unusedVariables false
set_option linter.unusedSimpArgs false
attribute [local irreducible] FCalls IntKind.wrap bits Mem.set Mem.setCell Mem.setCells YCalls
theorem up_sorted (zs : List Int) : (up zs).Pairwise (· ≤ ·) := by
  have hs : (up zs).Pairwise fun a b => decide (a ≤ b) = true := List.pairwise_mergeSort (fun a b c h1 h2 => by simp at *; omega) (fun a b => by simp; omega) _
  exact hs.imp fun h => by simpa using h
theorem up_is {l zs : List Int} (h1 : l.Pairwise (· ≤ ·)) (h2 : l.Perm zs) : l = up zs :=
  (h2.trans (List.mergeSort_perm zs _).symm).eq_of_pairwise (fun a b _ _ h3 h4 => by omega) h1 (up_sorted zs)
/-- A number goes down to its place. -/
theorem ins_up {xs P S : List Int} {x : Int} (hPS : P ++ S = up xs) (hS : ∀ y, y ∈ S → x < y) (hP : ∀ y, P.getLast? = some y → y ≤ x) : P ++ x :: S = up (xs ++ [x]) := by
  refine up_is ?_ ?_
  · have h := up_sorted xs
    rw [← hPS, List.pairwise_append] at h
    obtain ⟨h1, h2, h3⟩ := h
    rw [List.pairwise_append]
    refine ⟨h1, List.pairwise_cons.2 ⟨fun y hy => by have := hS y hy; omega, h2⟩, fun a ha b hb => ?_⟩
    have hax : a ≤ x := by
      rcases List.eq_nil_or_concat P with rfl | ⟨Q, z, rfl⟩
      · cases ha
      · have hz := hP z (by simp)
        rw [List.concat_eq_append, List.pairwise_append] at h1
        rcases List.mem_append.1 (by rw [List.concat_eq_append] at ha; exact ha) with h4 | h4
        · have := h1.2.2 a h4 z (by simp)
          omega
        · have : a = z := by simpa using h4
          omega
    rcases List.mem_cons.1 hb with rfl | hb
    · exact hax
    · have := hS b hb
      omega
  · have h1 : (P ++ x :: S).Perm (x :: (P ++ S)) := List.perm_middle
    refine h1.trans ?_
    rw [hPS]
    refine ((List.mergeSort_perm xs _).cons x).trans ?_
    exact (List.perm_append_singleton x xs).symm
theorem cast_len (l : List Nat) : (cast l).length = l.length := by simp [cast]
theorem cast_get {l : List Nat} {i x : Nat} (h : l[i]? = some x) : (cast l)[i]? = some ((x : Nat) : Int) := by simp [cast, h]
theorem cast_app (l : List Nat) (x : Nat) : cast (l ++ [x]) = cast l ++ [((x : Nat) : Int)] := by simp [cast]
theorem ints_app (l r : List Int) : ints (l ++ r) = ints l ++ ints r := by simp [ints]
theorem Sep.free {A : Asn} {R : List Asn} {m : Mem} (h : Sep R m) (hA : A Mem.empty) : Sep (A :: R) m := ⟨Mem.empty, m, fun _ => .inl rfl, fun _ _ hh => (by cases hh), Mem.le_refl _, hA, h⟩
/-- The document's set, at r. -/
def rf (r room : Nat) (l : List Nat) : Asn := fun m => ∃ A c, Sep [pt r [.int .i64 ((room : Nat) : Int), .slice A l.length c], sl A l.length c 1 (ints (cast l))] m
theorem rf_at {L : List Asn} {m : Mem} {r room : Nat} {l : List Nat} (h : Sep L m) (j : Nat) (hj : L[j]? = some (rf r room l)) : rf r room l m := by
  obtain ⟨m1, h1, A, c, h2⟩ := h.get j hj
  exact ⟨A, c, h2.more h1⟩
section
variable {m : Mem} {r room : Nat} {l : List Nat}
theorem rhas_c (h : rf r room l m) (hl : l.length ≤ 100000) {n : Int} : FCalls Try.prog 35 [.pointer (some ⟨r, 0, none⟩), .int .i64 n] m fun v m' => v = .bool (decide (0 ≤ n ∧ n.toNat ∈ l)) ∧ m' = m := by
  obtain ⟨A, c, h⟩ := h
  refine fcalls_of_vc (T := tbl) (B := bodies) (pr := [99999]) (DR := dr35) (args := [.v (.pointer (some ⟨r, 0, none⟩)), .v (.int .i64 n)]) tbl_ok bodies_ok mixed Try.func35 rfl (by decide +kernel) (by simp [Try.f35]) rfl ?_
  (conv => whnf)
  refine loop_keep [0, 1] Nat (fun s => [(5, .v (.int .i64 ((s : Nat) : Int)))]) (fun _ => []) (fun _ => m) (fun s => s ≤ l.length ∧ ∀ x, x ∈ l.take s → ((x : Nat) : Int) ≠ n) (fun s => l.length - s) 0 ⟨rfl, trivial⟩ rfl rfl ⟨Nat.zero_le _, by simp⟩ ?_
  (conv => whnf)
  refine ⟨rfl, ?_⟩
  rintro i ⟨h1, h2⟩
  (conv => whnf)
  refine ⟨_, _, _, h.cell 0 (i := 1) rfl rfl, ?_⟩
  (conv => whnf)
  refine brk_intro (fun c1 => ?_) (fun c1 => ?_)
  · have c1 : (i : Int) < (l.length : Nat) := by simpa using c1
    have step1 : IntKind.i64.wrap ((i : Int) + 1) = ((i + 1 : Nat) : Int) := wrap_id (by omega) (by omega)
    obtain ⟨x, hx⟩ : ∃ x, l[i]? = some x := ⟨_, List.getElem?_eq_getElem (by omega)⟩
    obtain ⟨q, hq, hc⟩ := (h.rd 1 rfl).at (ints_get (cast_get hx))
    have hc : m.cell (q.add (i * 1)) = some (.int .i64 ((x : Nat) : Int)) := by rw [Nat.mul_one]; exact hc
    (conv => whnf)
    refine ⟨_, _, _, h.cell 0 (i := 1) rfl rfl, ?_⟩
    (conv => whnf)
    refine ⟨_, hq, by omega, c1, ?_⟩
    (conv => whnf)
    refine ⟨_, hc, ?_⟩
    (conv => whnf)
    refine brk_intro (fun c2 => ?_) (fun c2 => ?_)
    · have c2 : ((x : Nat) : Int) = n := by simpa using c2
      subst c2
      (conv => whnf)
      refine ⟨?_, rfl⟩
      rw [decide_eq_true ⟨Int.natCast_nonneg _, List.mem_of_getElem? hx⟩]
      rfl
    · have c2 : ¬ ((x : Nat) : Int) = n := by simpa using c2
      (conv => whnf)
      refine ⟨i + 1, le_eq ⟨by show some (AV.v (.int .i64 (IntKind.i64.wrap ((i : Int) + 1)))) = _; rw [step1], rfl, rfl, trivial⟩ rfl rfl rfl, ⟨by omega, fun y hy => ?_⟩, by omega⟩
      rw [List.take_add_one, hx] at hy
      rcases List.mem_append.1 hy with hy | hy
      · exact h2 y hy
      · have : y = x := by simpa using hy
        subst this
        exact c2
  · have c1 : ¬ (i : Int) < (l.length : Nat) := by simpa using c1
    rw [List.take_of_length_le (by omega)] at h2
    (conv => whnf)
    refine ⟨?_, rfl⟩
    rw [decide_eq_false (fun ⟨e1, e2⟩ => h2 _ e2 (Int.toNat_of_nonneg e1))]
    rfl
theorem rput_c (h : rf r room l m) (hl : l.length ≤ 100000) {n : Int} : FCalls Try.prog 36 [.pointer (some ⟨r, 0, none⟩), .int .i64 n] m fun v m' => v = .bool (decide (0 ≤ n ∧ n < room ∧ n.toNat ∉ l)) ∧ rf r room (putL room l n) m' := by
  have h0 := h
  obtain ⟨A, c, h⟩ := h
  refine fcalls_of_vc (T := tbl) (B := bodies) (pr := [99999]) (DR := dr36) (args := [.v (.pointer (some ⟨r, 0, none⟩)), .v (.int .i64 n)]) tbl_ok bodies_ok mixed Try.func36 rfl (by decide +kernel) (by simp [Try.f36]) rfl ?_
  (conv => whnf)
  refine FCalls.mono (rhas_c h0 hl) ?_
  rintro v m' ⟨rfl, rfl⟩
  have no : ¬ (0 ≤ n ∧ n < room ∧ n.toNat ∉ l) → (Value.bool false = Value.bool (decide (0 ≤ n ∧ n < room ∧ n.toNat ∉ l)) ∧ rf r room (putL room l n) m') := fun hn => by
    unfold putL
    rw [if_neg hn, decide_eq_false hn]
    exact ⟨rfl, h0⟩
  (conv => whnf)
  by_cases c1 : n < 0
  · refine brk_false (by simp; omega) ?_
    (conv => whnf)
    exact no (by omega)
  · refine brk_true (by simp; omega) ?_
    (conv => whnf)
    refine ⟨_, h.cell 0 (i := 0) rfl rfl, ?_⟩
    (conv => whnf)
    by_cases c2 : n < room
    · refine brk_true (by simp; omega) ?_
      (conv => whnf)
      by_cases c3 : n.toNat ∈ l
      · refine brk_true (by simp [c3]; omega) ?_
        (conv => whnf)
        exact no (fun hh => hh.2.2 c3)
      · refine brk_false (by simp [c3]) ?_
        obtain ⟨k, rfl⟩ : ∃ k : Nat, n = k := ⟨n.toNat, by omega⟩
        (conv => whnf)
        refine ⟨_, _, _, h.cell 0 (i := 1) rfl rfl, ?_⟩
        (conv => whnf)
        intro nb m4 hb he
        replace h := h.new' (l := [.int .i64 ((k : Nat) : Int)]) hb (he.trans rfl)
        have hBn : m4.holds ⟨nb, 0, none⟩ [.int .i64 ((k : Nat) : Int)] := (h.blk 0 rfl).holds fun k v hk => by rw [Nat.zero_add]; exact hk
        clear hb he
        (conv => whnf)
        obtain ⟨ok, hR⟩ := h.app 2 (T := tbl) (e := 3) (news := [.int .i64 ((k : Nat) : Int)]) (k := 1) (B := some ⟨nb, 0, none⟩) rfl rfl (.inr ⟨_, rfl, hBn⟩) rfl rfl (by show 2 * (_ + 1) * 8 ≤ 2 ^ 48; omega) rfl
        refine ⟨_, _, ok, fun A2 c5 m5 hr2 => ?_⟩
        replace h := (hR _ _ _ hr2).drop 0
        clear ok hR hr2 hBn
        (conv => whnf)
        refine ⟨h.room 0 (i := 1) rfl rfl, fun m6 he => ?_⟩
        replace h := h.put' 0 he rfl
        (conv => whnf)
        have hyes : 0 ≤ ((k : Nat) : Int) ∧ ((k : Nat) : Int) < room ∧ ((k : Nat) : Int).toNat ∉ l := ⟨Int.natCast_nonneg _, c2, c3⟩
        unfold putL
        rw [if_pos hyes, decide_eq_true hyes]
        refine ⟨rfl, A2, c5, ?_⟩
        rw [show ((k : Nat) : Int).toNat = k from rfl, cast_app, ints_app, List.length_append, List.length_singleton]
        exact h
    · refine brk_false (by simp; omega) ?_
      (conv => whnf)
      exact no (by omega)
theorem rsame_c {q room2 : Nat} {l2 : List Nat} (h : rf r room l m) (k : rf q room2 l2 m) (hl : l.length ≤ 100000) (hl2 : l2.length ≤ 100000) : FCalls Try.prog 30 [.pointer (some ⟨r, 0, none⟩), .pointer (some ⟨q, 0, none⟩)] m fun v m' => v = .bool (subB l l2 && (l.length == l2.length)) ∧ m' = m := by
  have k0 := k
  obtain ⟨A, c, h⟩ := h
  obtain ⟨B, d, k⟩ := k
  refine fcalls_of_vc (T := tbl) (B := bodies) (pr := [99999]) (DR := dr30) (args := [.v (.pointer (some ⟨r, 0, none⟩)), .v (.pointer (some ⟨q, 0, none⟩))]) tbl_ok bodies_ok mixed Try.func30 rfl (by decide +kernel) (by simp [Try.f30]) rfl ?_
  (conv => whnf)
  refine loop_keep [0, 1] Nat (fun s => [(5, .v (.int .i64 ((s : Nat) : Int)))]) (fun _ => []) (fun _ => m) (fun s => s ≤ l.length ∧ subB (l.take s) l2 = true) (fun s => l.length - s) 0 ⟨rfl, trivial⟩ rfl rfl ⟨Nat.zero_le _, rfl⟩ ?_
  (conv => whnf)
  refine ⟨rfl, ?_⟩
  rintro i ⟨h1, h2⟩
  (conv => whnf)
  refine ⟨_, _, _, h.cell 0 (i := 1) rfl rfl, ?_⟩
  (conv => whnf)
  refine brk_intro (fun c1 => ?_) (fun c1 => ?_)
  · have c1 : (i : Int) < (l.length : Nat) := by simpa using c1
    have step1 : IntKind.i64.wrap ((i : Int) + 1) = ((i + 1 : Nat) : Int) := wrap_id (by omega) (by omega)
    obtain ⟨x, hx⟩ : ∃ x, l[i]? = some x := ⟨_, List.getElem?_eq_getElem (by omega)⟩
    obtain ⟨q1, hq, hc⟩ := (h.rd 1 rfl).at (ints_get (cast_get hx))
    have hc : m.cell (q1.add (i * 1)) = some (.int .i64 ((x : Nat) : Int)) := by rw [Nat.mul_one]; exact hc
    have ht := subB_take (r := l2) hx
    rw [h2, Bool.true_and] at ht
    (conv => whnf)
    refine ⟨_, _, _, h.cell 0 (i := 1) rfl rfl, ?_⟩
    (conv => whnf)
    refine ⟨_, hq, by omega, c1, ?_⟩
    (conv => whnf)
    refine ⟨_, hc, ?_⟩
    (conv => whnf)
    refine FCalls.mono (rhas_c k0 hl2) ?_
    rintro v m' ⟨rfl, rfl⟩
    (conv => whnf)
    by_cases c2 : x ∈ l2
    · refine brk_false (by simp [c2]) ?_
      rw [decide_eq_true c2] at ht
      (conv => whnf)
      exact ⟨i + 1, le_eq ⟨by show some (AV.v (.int .i64 (IntKind.i64.wrap ((i : Int) + 1)))) = _; rw [step1], rfl, rfl, trivial⟩ rfl rfl rfl, ⟨by omega, ht⟩, by omega⟩
    · refine brk_true (by simp [c2]) ?_
      (conv => whnf)
      refine ⟨?_, rfl⟩
      have : subB l l2 = false := by
        rw [Bool.eq_false_iff]
        intro e
        exact c2 (by simpa using (List.all_eq_true.1 e) x (List.mem_of_getElem? hx))
      rw [this]
      rfl
  · have c1 : ¬ (i : Int) < (l.length : Nat) := by simpa using c1
    rw [List.take_of_length_le (by omega)] at h2
    (conv => whnf)
    refine ⟨_, _, _, h.cell 0 (i := 1) rfl rfl, ?_⟩
    (conv => whnf)
    refine ⟨_, _, _, k.cell 0 (i := 1) rfl rfl, ?_⟩
    (conv => whnf)
    refine ⟨?_, rfl⟩
    rw [h2, Bool.true_and]
    show Value.bool _ = _
    congr 1
    rw [Bool.eq_iff_iff]
    simp
    omega
theorem rcopy_c (h : rf r room l m) (hl : l.length ≤ 100000) : FCalls Try.prog 31 [.pointer (some ⟨r, 0, none⟩)] m fun v m' => ∃ q, v = .pointer (some ⟨q, 0, none⟩) ∧ Sep [rf q room l, kp m] m' := by
  obtain ⟨A, c, h⟩ := h
  have hlen : (ints (cast l)).length = l.length * (tbl.at 3).size := by rw [ints_len, cast_len]; rfl
  have hRd := h.rd 1 rfl
  have c0 := h.cell 0 (i := 0) rfl rfl
  have c1 := h.cell 0 (i := 1) rfl rfl
  have one : oneCells (ints (cast l)) = true := by
    clear h hlen hRd hl c0 c1
    induction l with
    | nil => rfl
    | cons x r ih => exact ih
  refine fcalls_of_vc (T := tbl) (B := bodies) (pr := [99999]) (DR := dr31) (args := [.v (.pointer (some ⟨r, 0, none⟩))]) tbl_ok bodies_ok mixed Try.func31 rfl (by decide +kernel) (by simp [Try.f31]) rfl ?_
  (conv => whnf)
  refine ⟨_, _, _, c1, ?_⟩
  (conv => whnf)
  refine ⟨?ga, ?gb, trivial⟩
  case' ga =>
    (conv => whnf)
    refine ⟨_, c0, ?_⟩
  all_goals
    (conv => whnf)
    obtain ⟨ok, hR⟩ := (Sep.free (A := sl none 0 0 1 []) (Sep.init m) sl_nil).app 0 (T := tbl) (e := 3) (news := ints (cast l)) (k := l.length) (B := A) rfl hlen ((hRd.holds hlen).imp (fun hh => by rw [hh]) id) one rfl (by show 2 * (0 + _) * 8 ≤ 2 ^ 48; omega) rfl
    refine ⟨_, _, ok, fun A1 c1 m3 hr1 => ?_⟩
    have h := hR _ _ _ hr1
    clear ok hR hr1
  case' gb =>
    (conv => whnf)
    refine ⟨_, Mem.le_cell (h.kept 1 rfl) c0, ?_⟩
  all_goals
    (conv => whnf)
    intro nb m4 hb he
    replace h := h.new' (l := [.int .i64 ((room : Nat) : Int), .slice A1 (0 + l.length) c1]) hb (he.trans rfl)
    (conv => whnf)
    refine ⟨nb, rfl, Sep.group (L := [_, _]) h |>.turn 0 rfl fun m9 _ h9 => ?_⟩
    rw [Nat.zero_add] at h9
    exact ⟨_, _, h9⟩
end
end Go.Proofs.Ytlahdleaidhclaa
