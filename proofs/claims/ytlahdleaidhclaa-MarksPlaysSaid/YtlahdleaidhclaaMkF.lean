/- Marks: pick, same, known, filled. -/
import Derived.Test.YtlahdleaidhclaaMkE
namespace Go.Proofs.Ytlahdleaidhclaa
open Go Go.Mv
set_option maxHeartbeats 1000000
set_option maxRecDepth 10000
set_option linter.unusedVariables false
set_option linter.unusedSimpArgs false
attribute [local irreducible] FCalls IntKind.wrap bits Mem.set Mem.setCell Mem.setCells YCalls
theorem up20 : up [2, 0] = [0, 2] := by
  unfold up
  simp [List.mergeSort, List.MergeSort.Internal.splitInTwo, List.merge]
theorem MkS.next {G F : Nat → Prop} {m0 m m2 : Mem} {p p2 room room2 : Nat} {l l2 : List Nat} (h1 : ∀ k, F k → G k ∨ m0 k = none) (hs : Stp G m0 m) (h2 : MkS F m m2 p room l2) : MkS G m0 m2 p room l2 := by
  obtain ⟨F2, h3, hf2, hs2⟩ := h2
  refine ⟨F2, h3, fun k hk => ?_, hs.trans hs2 h1⟩
  rcases hf2 k hk with h4 | h4
  · exact h1 k h4
  · right
    cases hm : m0 k with
    | none => rfl
    | some o => exact absurd h4 (hs.all k (by rw [hm]; simp))
section
variable {G : Nat → Prop} {m0 m : Mem} {p room : Nat} {l : List Nat}
theorem put_m (h : MkS G m0 m p room l) (n : Int) : FCalls Try.prog 13 [.pointer (some ⟨p, 0, none⟩), .int .i64 n] m fun v m' => v = .bool (decide (0 ≤ n ∧ n < room ∧ n.toNat ∉ l)) ∧ MkS G m0 m' p room (putL room l n) := by
  obtain ⟨F, h1, h2, h3⟩ := h
  exact (put_c h1).mono fun v m' ⟨h4, h5⟩ => ⟨h4, MkS.next (p2 := 0) (room2 := 0) (l := []) h2 h3 h5⟩
theorem clear_m (h : MkS G m0 m p room l) : FCalls Try.prog 20 [.pointer (some ⟨p, 0, none⟩)] m fun v m' => v = .tuple #[] ∧ MkS G m0 m' p room [] := by
  obtain ⟨F, h1, h2, h3⟩ := h
  exact (clear_c h1).mono fun v m' ⟨h4, h5⟩ => ⟨h4, MkS.next (p2 := 0) (room2 := 0) (l := []) h2 h3 h5⟩
theorem has_m (h : MkS G m0 m p room l) (n : Int) : FCalls Try.prog 17 [.pointer (some ⟨p, 0, none⟩), .int .i64 n] m fun v m' => v = .bool (decide (0 ≤ n ∧ n.toNat ∈ l)) ∧ m' = m := by
  obtain ⟨F, h1, _⟩ := h
  exact has_c h1
theorem len_m (h : MkS G m0 m p room l) : FCalls Try.prog 12 [.pointer (some ⟨p, 0, none⟩)] m fun v m' => v = .int .i64 ((l.length : Nat) : Int) ∧ m' = m := by
  obtain ⟨F, h1, _⟩ := h
  exact len_c h1
theorem room_m (h : MkS G m0 m p room l) : FCalls Try.prog 11 [.pointer (some ⟨p, 0, none⟩)] m fun v m' => v = .int .i64 ((room : Nat) : Int) ∧ m' = m := by
  obtain ⟨F, h1, _⟩ := h
  exact room_c h1
theorem at_m (h : MkS G m0 m p room l) (k : Int) : FCalls Try.prog 18 [.pointer (some ⟨p, 0, none⟩), .int .i64 k] m fun v m' => m' = m ∧
    v = (match (if 0 ≤ k then l[k.toNat]? else none) with | some x => .tuple #[.int .i64 ((x : Nat) : Int), .bool true] | none => .tuple #[.int .i64 0, .bool false]) := by
  obtain ⟨F, h1, _⟩ := h
  exact at_c h1
/-- Only what is not told of, or is new, has turned. -/
theorem MkS.more {m' : Mem} (h : MkS G m0 m p room l) (hs : ∀ k o, m k = some o → m' k = some o) : MkS G m0 m' p room l := by
  obtain ⟨F, h1, h2, h3⟩ := h
  exact ⟨F, h1.stay (Stp.of hs) fun _ _ h => h, h2, h3.trans (Stp.of hs) fun _ h => h.elim⟩
theorem rising_m (h : MkS G m0 m p room l) : FCalls Try.prog 19 [.pointer (some ⟨p, 0, none⟩)] m fun v m' =>
    ∃ A c, v = .slice A l.length c ∧ Sl m' (fun k => m k = none) A l.length c 1 (ints (up (cast l))) ∧ (∀ k o, m k = some o → m' k = some o) ∧ MkS G m0 m' p room l := by
  obtain ⟨F, h1, h2, h3⟩ := h
  exact (rising_c h1).mono fun v m' ⟨A, c, h4, h5, h6⟩ => ⟨A, c, h4, h5, h6, MkS.more ⟨F, h1, h2, h3⟩ h6⟩
theorem MkS.low (h : MkS (fun _ => False) m0 m p room l) : ∀ k o, m0 k = some o → m k = some o := by
  obtain ⟨F, h1, h2, h3⟩ := h
  exact h3.old
theorem MkS.llen (h : MkS G m0 m p room l) : l.length ≤ room := by
  obtain ⟨F, h1, h2, h3⟩ := h
  exact h1.llen
theorem MkS.small (h : MkS G m0 m p room l) : room ≤ 100000 := by
  obtain ⟨F, h1, h2, h3⟩ := h
  exact h1.small
theorem MkS.lt (h : MkS G m0 m p room l) : ∀ n, n ∈ l → n < room := by
  obtain ⟨F, h1, h2, h3⟩ := h
  exact h1.lt
theorem MkS.nodup (h : MkS G m0 m p room l) : l.Nodup := by
  obtain ⟨F, h1, h2, h3⟩ := h
  exact h1.nodup
end
theorem known_c {m : Mem} : FCalls Try.prog 9 [] m fun v m' => v = .bool true ∧ m' = m := by
  refine FCalls.less ?_
  refine fcalls_of_vc (T := tbl) (B := bodies) (pr := []) (DR := dr9) (args := []) tbl_ok bodies_ok mixed Try.func9 rfl (by decide +kernel) (by simp [Try.f9]) rfl ?_
  (conv => whnf)
  refine FCalls.mono (new_c (room := 4)) fun v m1 ⟨h1, _⟩ => ?_
  obtain ⟨p, hv, h⟩ := h1 ⟨by decide, by decide⟩
  subst hv
  (conv => whnf)
  refine FCalls.mono (put_m h 2) fun v m2 ⟨hv, h⟩ => ?_
  have hv : v = .bool true := hv
  subst hv
  (conv => whnf)
  refine FCalls.mono (put_m h 0) fun v m3 ⟨hv, h⟩ => ?_
  have hv : v = .bool true := hv
  subst hv
  (conv => whnf)
  refine FCalls.mono (put_m h 2) fun v m4 ⟨hv, h⟩ => ?_
  have hv : v = .bool false := hv
  subst hv
  (conv => whnf)
  refine FCalls.mono (put_m h 4) fun v m5 ⟨hv, h⟩ => ?_
  have hv : v = .bool false := hv
  subst hv
  (conv => whnf)
  have h : MkS (fun _ => False) m m5 p 4 [2, 0] := h
  refine FCalls.mono (at_m h 1) fun v m' ⟨hm, hv⟩ => ?_
  have hv : v = .tuple #[.int .i64 0, .bool true] := hv
  subst hv hm
  (conv => whnf)
  refine FCalls.mono (at_m h 2) fun v m' ⟨hm, hv⟩ => ?_
  have hv : v = .tuple #[.int .i64 0, .bool false] := hv
  subst hv hm
  (conv => whnf)
  refine FCalls.mono (rising_m h) fun v m6 ⟨A, c, hv, hS, hold, h6⟩ => ?_
  subst hv
  have hS : Sl m6 (fun k => m' k = none) A 2 c 1 (ints [0, 2]) := up20 ▸ hS
  obtain ⟨b, rfl, _, hc0, _⟩ := hS.cell (k := 0) rfl
  obtain ⟨b', hb', _, hc1, _⟩ := hS.cell (k := 1) rfl
  cases hb'
  have hold6 := h6.low
  (conv => whnf)
  refine FCalls.mono (len_m h6) fun v m' ⟨hv, hm⟩ => ?_
  have hv : v = .int .i64 2 := hv
  subst hv hm
  (conv => whnf)
  refine ⟨_, rfl, by decide, by decide, ?_⟩
  (conv => whnf)
  refine ⟨0, hc0, ?_⟩
  (conv => whnf)
  refine ⟨_, rfl, by decide, by decide, ?_⟩
  (conv => whnf)
  refine ⟨2, hc1, ?_⟩
  (conv => whnf)
  refine FCalls.mono (has_m h6 2) fun v m'' ⟨hv, hm⟩ => ?_
  have hv : v = .bool true := hv
  subst hv hm
  (conv => whnf)
  refine FCalls.mono (room_m h6) fun v m' ⟨hv, hm⟩ => ?_
  have hv : v = .int .i64 4 := hv
  subst hv hm
  (conv => whnf)
  exact ⟨m, hold6, rfl, rfl⟩
theorem marksNew_c {m : Mem} {room : Int} (h1 : -9223372036854775808 ≤ room) (h2 : room ≤ 9223372036854775807) : FCalls Try.prog 3 [.int .i64 room] m fun v m' => v = .bool true ∧ m' = m := by
  refine FCalls.less ?_
  refine fcalls_of_vc (T := tbl) (B := bodies) (pr := []) (DR := dr3) (args := [.v (.int .i64 room)]) tbl_ok bodies_ok mixed Try.func3 rfl (by decide +kernel) (by simp [Try.f3]) rfl ?_
  (conv => whnf)
  refine FCalls.mono known_c fun v m' ⟨hv, hm⟩ => ?_
  subst hv hm
  (conv => whnf)
  refine FCalls.mono (new_c (room := room)) fun v m1 ⟨h3, h4⟩ => ?_
  by_cases hr : 0 ≤ room ∧ room ≤ 100000
  · obtain ⟨p, hv, h⟩ := h3 hr
    subst hv
    have e1 : decide (room < 0) = false := decide_eq_false (by omega)
    have e2 : decide (room > 100000) = false := decide_eq_false (by omega)
    (conv => whnf)
    refine brk_true (by rw [e1]; rfl) ?_
    (conv => whnf)
    refine brk_false (by rw [e2]; rfl) ?_
    (conv => whnf)
    refine FCalls.mono (room_m h) fun v m2 ⟨hv, hm⟩ => ?_
    subst hv hm
    have e3 : (((room.toNat : Nat) : Int) == room) = true := by simp; omega
    (conv => whnf)
    refine brk_true (by rw [e3]; rfl) ?_
    (conv => whnf)
    refine FCalls.mono (len_m h) fun v m1 ⟨hv, hm⟩ => ?_
    have hv : v = .int .i64 0 := hv
    subst hv hm
    (conv => whnf)
    refine FCalls.mono (put_m h room) fun v m3 ⟨hv, h⟩ => ?_
    rw [decide_eq_false (by omega)] at hv
    subst hv
    have hl : putL room.toNat [] room = [] := by unfold putL; rw [if_neg (by omega)]
    rw [hl] at h
    (conv => whnf)
    refine FCalls.mono (put_m h (-1)) fun v m4 ⟨hv, h⟩ => ?_
    rw [decide_eq_false (by omega)] at hv
    subst hv
    have hl : putL room.toNat [] (-1) = [] := by unfold putL; rw [if_neg (by omega)]
    rw [hl] at h
    (conv => whnf)
    refine FCalls.mono (len_m h) fun v m1 ⟨hv, hm⟩ => ?_
    have hv : v = .int .i64 0 := hv
    subst hv hm
    (conv => whnf)
    rw [wrap_id (x := room - 1) (by omega) (by omega)]
    refine FCalls.mono (put_m h (room - 1)) fun v m5 ⟨hv, h⟩ => ?_
    subst hv
    (conv => whnf)
    refine ⟨m', h.low, ?_, rfl⟩
    show Value.bool (decide (0 ≤ room - 1 ∧ room - 1 < ((room.toNat : Nat) : Int) ∧ (room - 1).toNat ∉ []) == decide (room > 0)) = _
    congr 1
    by_cases h0 : room > 0
    · rw [decide_eq_true ⟨by omega, by omega, List.not_mem_nil⟩, decide_eq_true h0]
      rfl
    · rw [decide_eq_false (fun h => by omega), decide_eq_false h0]
      rfl
  · obtain ⟨hv, hm⟩ := h4 hr
    subst hv hm
    by_cases hl : room < 0
    · have e1 : decide (room < 0) = true := decide_eq_true hl
      (conv => whnf)
      refine brk_false (by rw [e1]; rfl) ?_
      (conv => whnf)
      exact ⟨_, fun _ _ h => h, rfl, rfl⟩
    · have e1 : decide (room < 0) = false := decide_eq_false hl
      have e2 : decide (room > 100000) = true := decide_eq_true (by omega)
      (conv => whnf)
      refine brk_true (by rw [e1]; rfl) ?_
      (conv => whnf)
      refine brk_true (by rw [e2]; rfl) ?_
      (conv => whnf)
      exact ⟨_, fun _ _ h => h, rfl, rfl⟩
end Go.Proofs.Ytlahdleaidhclaa
