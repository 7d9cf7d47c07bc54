/- MarksOrder. -/
import Derived.Test.YtlahdleaidhclaaMkG
namespace Go.Proofs.Ytlahdleaidhclaa
open Go Go.Mv
set_option maxHeartbeats 1000000
set_option maxRecDepth 10000
set_option linter.unusedVariables false
set_option linter.unusedSimpArgs false
attribute [local irreducible] FCalls IntKind.wrap bits Mem.set Mem.setCell Mem.setCells YCalls
theorem mem_putL {room : Nat} {l : List Nat} {x : Int} {n : Nat} : n ∈ putL room l x ↔ n ∈ l ∨ (0 ≤ x ∧ x < room ∧ x.toNat = n) := by
  unfold putL
  split
  · rename_i h
    rw [List.mem_append, List.mem_singleton]
    constructor
    · rintro (h1 | h1)
      · exact .inl h1
      · exact .inr ⟨h.1, h.2.1, h1.symm⟩
    · rintro (h1 | h1)
      · exact .inl h1
      · exact .inr h1.2.2.symm
  · rename_i h
    constructor
    · exact .inl
    · rintro (h1 | ⟨h1, h2, h3⟩)
      · exact h1
      · apply Classical.byContradiction
        intro h4
        exact h ⟨h1, h2, by rw [h3]; exact h4⟩
theorem mem_foldL {room : Nat} {n : Nat} : ∀ {zs : List Int} {l : List Nat}, n ∈ zs.foldl (putL room) l ↔ n ∈ l ∨ ∃ x, x ∈ zs ∧ 0 ≤ x ∧ x < room ∧ x.toNat = n
  | [], l => by simp
  | x :: r, l => by
    rw [List.foldl_cons, mem_foldL, mem_putL]
    simp only [List.mem_cons, exists_eq_or_imp, or_assoc]
theorem mem_fillL {room : Nat} {n : Nat} {zs : List Int} : n ∈ fillL room zs ↔ ∃ x, x ∈ zs ∧ 0 ≤ x ∧ x < room ∧ x.toNat = n := by
  unfold fillL
  rw [mem_foldL]
  simp
theorem fill_succ {room : Nat} {zs : List Int} {i : Nat} {x : Int} (hx : zs[i]? = some x) : fillL room (zs.take (i + 1)) = putL room (fillL room (zs.take i)) x := by
  rw [List.take_add_one, hx]
  unfold fillL
  rw [List.foldl_append]
  rfl
/-- Is x fresh, behind i others? -/
theorem fresh_iff {room : Nat} {zs : List Int} {i : Nat} {x : Int} : (0 ≤ x ∧ x < room ∧ x.toNat ∉ fillL room (zs.take i)) ↔ (0 ≤ x ∧ x < room ∧ ∀ k : Nat, k < i → zs[k]? ≠ some x) := by
  refine ⟨fun ⟨h1, h2, h3⟩ => ⟨h1, h2, fun k hk he => h3 (mem_fillL.2 ⟨x, ?_, h1, h2, rfl⟩)⟩, fun ⟨h1, h2, h3⟩ => ⟨h1, h2, fun h4 => ?_⟩⟩
  · refine List.mem_of_getElem? (i := k) ?_
    rw [List.getElem?_take, if_pos hk]
    exact he
  · obtain ⟨y, hy, g1, g2, g3⟩ := mem_fillL.1 h4
    have : y = x := by omega
    subst this
    obtain ⟨k, hk⟩ := List.getElem?_of_mem hy
    rw [List.getElem?_take] at hk
    split at hk
    · exact h3 k (by omega) hk
    · cases hk
theorem fill_len {room : Nat} : ∀ (zs : List Int) (l : List Nat), (zs.foldl (putL room) l).length ≤ l.length + zs.length
  | [], l => by simp
  | x :: r, l => by
    have := fill_len (room := room) r (putL room l x)
    have h2 : (putL room l x).length ≤ l.length + 1 := by unfold putL; split <;> simp
    rw [List.foldl_cons, List.length_cons]
    omega
/-- A box b with a list that grows; all that m2 tells stays. -/
structure Lst (m2 M : Mem) (b : Nat) (A : Option Addr) (c : Nat) (xs : List Int) : Prop where
  hd : M b = some (.cells [.slice A xs.length c].toArray 29 (0, 0))
  sl : Sl M (fun k => m2 k = none ∧ k ≠ b) A xs.length c 1 (ints xs)
  old : ∀ k o, m2 k = some o → M k = some o
theorem Lst.new {m2 M : Mem} {b c nb : Nat} {A : Option Addr} {xs : List Int} {o : Obj} (h : Lst m2 M b A c xs) (hn : M nb = none) : Lst m2 (M.set nb o) b A c xs :=
  ⟨by rw [Mem.set_ne (by rintro rfl; rw [h.hd] at hn; cases hn)]; exact h.hd, h.sl.keep fun k _ hne => Mem.set_ne (by rintro rfl; exact hne hn), fun k o' hk => (Stp.set (F := fun _ => False) hn).old k o' (h.old k o' hk)⟩
theorem Lst.put {m2 M : Mem} {b c : Nat} {A : Option Addr} {xs : List Int} {x : Int} (h : Lst m2 M b A c xs) (hb : m2 b = none) (hle : xs.length + 1 ≤ c) : ∃ bk, A = some ⟨bk, 0, none⟩ ∧ M.room ⟨bk, xs.length * 1, none⟩ (1 * 1) ∧ bk ≠ b ∧ (M.setCells ⟨bk, xs.length * 1, none⟩ 0 [.int .i64 x]) b = some (.cells [.slice A xs.length c].toArray 29 (0, 0)) ∧
    Lst m2 ((M.setCells ⟨bk, xs.length * 1, none⟩ 0 [.int .i64 x]).setCell ⟨b, 0, none⟩ (.slice A (xs.length + 1) c)) b A c (xs ++ [x]) := by
  obtain ⟨bk, hA, hFk, hroom, hsl, hoth⟩ := h.sl.put (news := [.int .i64 x]) (j := 1) rfl hle (by omega)
  have h3 := (hoth b fun h => hFk.2 h.symm).trans h.hd
  refine ⟨bk, hA, hroom, hFk.2, h3, ?_, ?_, fun k o hk => ?_⟩
  · rw [List.length_append]
    exact setCell_at (i := 0) h3
  · rw [List.length_append]
    have : ints (xs ++ [x]) = ints xs ++ [.int .i64 x] := by simp [ints]
    rw [this]
    exact hsl.keep fun k hk _ => Mem.setCell_ne hk.2
  · have hk3 : k ≠ b := by rintro rfl; rw [hb] at hk; cases hk
    exact (Mem.setCell_ne hk3).trans ((hoth k (by rintro rfl; rw [hFk.1] at hk; cases hk)).trans (h.old k o hk))
theorem Lst.grow {m2 M : Mem} {b c cap nb : Nat} {A : Option Addr} {xs : List Int} {x : Int} {zs : List Value} (h : Lst m2 M b A c xs) (hb : m2 b = none) (hcap : xs.length + 1 ≤ cap) (hn : M nb = none) (hz : zs.length = (cap - (xs.length + 1)) * 1) :
    (M.set nb (.cells (ints xs ++ [Value.int .i64 x] ++ zs).toArray 3 (0, 0))) b = some (.cells [.slice A xs.length c].toArray 29 (0, 0)) ∧
    Lst m2 ((M.set nb (.cells (ints xs ++ [Value.int .i64 x] ++ zs).toArray 3 (0, 0))).setCell ⟨b, 0, none⟩ (.slice (some ⟨nb, 0, none⟩) (xs.length + 1) cap)) b (some ⟨nb, 0, none⟩) cap (xs ++ [x]) := by
  have hn3 : b ≠ nb := by rintro rfl; rw [h.hd] at hn; cases hn
  have hF : m2 nb = none := by
    cases hm : m2 nb with
    | none => rfl
    | some o => exact absurd ((h.old nb o hm).symm.trans hn) (Option.some_ne_none _)
  have hsl := h.sl.grow (b := nb) (news := [.int .i64 x]) (j := 1) (e := 3) (zs := zs) rfl hcap ⟨hF, hn3.symm⟩ hz
  have h3 : (M.set nb (.cells (ints xs ++ [Value.int .i64 x] ++ zs).toArray 3 (0, 0))) b = some (.cells [.slice A xs.length c].toArray 29 (0, 0)) := by rw [Mem.set_ne hn3]; exact h.hd
  refine ⟨h3, ?_, ?_, fun k o hk => ?_⟩
  · rw [List.length_append]
    exact setCell_at (i := 0) h3
  · rw [List.length_append]
    have : ints (xs ++ [x]) = ints xs ++ [.int .i64 x] := by simp [ints]
    rw [this]
    exact hsl.keep fun k hk _ => Mem.setCell_ne hk.2
  · have hk3 : k ≠ b := by rintro rfl; rw [hb] at hk; cases hk
    exact (Mem.setCell_ne hk3).trans ((Mem.set_ne (by rintro rfl; rw [hF] at hk; cases hk)).trans (h.old k o hk))
theorem marksOrder_c {m : Mem} {A : Option Addr} {zs : List Int} {c : Nat} {room : Int} (hr0 : -9223372036854775808 ≤ room) (hr1 : room ≤ 9223372036854775807) (hA : Ints m A zs) :
    FCalls Try.prog 4 [.int .i64 room, .slice A zs.length c] m fun v m' => v = .bool true ∧ m' = m := by
  refine FCalls.less ?_
  refine fcalls_of_vc (T := tbl) (B := bodies) (pr := []) (DR := dr4) (args := [.v (.int .i64 room), .v (.slice A zs.length c)]) tbl_ok bodies_ok mixed Try.func4 rfl (by decide +kernel) (by simp [Try.f4]) rfl ?_
  (conv => whnf)
  intro b4 hb4
  (conv => whnf)
  refine FCalls.mono known_c fun v m' ⟨hv, hm⟩ => ?_
  subst hv hm
  (conv => whnf)
  refine FCalls.mono (pick_c hr0 hr1 (by omega)) fun v m' ⟨hv, hm⟩ => ?_
  subst hv hm
  obtain ⟨hp0, hp1⟩ := pickI_in (c := room) (n := 100001) (by omega)
  generalize pickI room 100001 = R at *
  (conv => whnf)
  refine FCalls.mono (filled_c (hA.more (Stp.set (F := fun _ => False) hb4).old) hp0 (by omega)) fun v m2 ⟨p, hv, hM⟩ => ?_
  subst hv
  have hA2 := hA.more fun k o hk => hM.low k o ((Stp.set (F := fun _ => False) hb4).old k o hk)
  have hm2 : m2 b4 = _ := hM.low b4 _ (by simp [Mem.set]; rfl)
  generalize hN : fillL R.toNat (zs.take 300) = L at *
  (conv => whnf)
  intro b7 hb7
  (conv => whnf)
  have hL0 : Lst m2 (m2.set b7 (.cells [.slice none 0 0].toArray 29 (0, 0))) b7 none 0 (cast (fillL R.toNat (zs.take 0))) :=
    ⟨by simp [Mem.set, cast, fillL], Sl.nil, (Stp.set (F := fun _ => False) hb7).old⟩
  refine loop_keep [0, 1, 4, 6, 7] (Nat × Option Addr × Nat × Mem) (fun s => [(8, .v (.int .i64 ((s.1 : Nat) : Int)))]) (fun _ => []) (fun s => s.2.2.2)
    (fun s => s.1 ≤ zs.length ∧ s.1 ≤ 300 ∧ Lst m2 s.2.2.2 b7 s.2.1 s.2.2.1 (cast (fillL R.toNat (zs.take s.1)))) (fun s => zs.length - s.1) (0, none, 0, _) ⟨rfl, trivial⟩ rfl rfl ⟨by simp, by simp, hL0⟩ ?_
  clear hL0
  (conv => whnf)
  refine ⟨rfl, fun s hJ => ?_⟩
  obtain ⟨i, B, d, M⟩ := s
  obtain ⟨hJ1, hJ2, hJ3⟩ := hJ
  simp only at hJ1 hJ2 hJ3
  have fin : (i = zs.length ∨ i = 300) → fillL R.toNat (zs.take i) = L := by
    rintro (h | h)
    · rw [h, List.take_length, ← hN]
      congr 1
      rw [List.take_of_length_le (by omega)]
    · rw [h, hN]
  rcases Decidable.em (i < zs.length) with c1 | c1
  case' inl =>
    have e1 : decide ((i : Int) < (zs.length : Nat)) = true := decide_eq_true (by omega)
    rcases Decidable.em (i < 300) with c2 | c2
    case' inr =>
      have e2 : decide ((i : Int) < 300) = false := decide_eq_false (by omega)
      rw [fin (by omega)] at hJ3
      (conv => whnf)
      refine brk_true (by rw [e1]; rfl) ?_
      (conv => whnf)
      refine brk_false (by rw [e2]; rfl) ?_
      (conv => whnf)
    case inl =>
      have e2 : decide ((i : Int) < 300) = true := decide_eq_true (by omega)
      obtain ⟨x, hx⟩ : ∃ x, zs[i]? = some x := ⟨_, List.getElem?_eq_getElem c1⟩
      have hAM := hA2.more hJ3.old
      obtain ⟨q, hq, hcx⟩ := hAM.at hx
      (conv => whnf)
      refine brk_true (by rw [e1]; rfl) ?_
      (conv => whnf)
      refine brk_true (by rw [e2]; rfl) ?_
      (conv => whnf)
      refine ⟨_, hq, by omega, by omega, ?_⟩
      (conv => whnf)
      refine ⟨x, by rw [ixI]; exact hcx, ?_⟩
      (conv => whnf)
      have hfl := fill_len (room := R.toNat) (zs.take i) []
      have hlen : (fillL R.toNat (zs.take i)).length ≤ 300 := by
        unfold fillL
        simp only [List.length_nil, List.length_take] at hfl
        omega
      have step1 : IntKind.i64.wrap ((i : Int) + 1) = ((i + 1 : Nat) : Int) := wrap_id (by omega) (by omega)
      rcases Decidable.em (x ≥ 0) with c3 | c3
      case' inl =>
        have e3 : decide (x ≥ 0) = true := decide_eq_true c3
        refine brk_true (by rw [e3]; rfl) ?_
        (conv => whnf)
        refine ⟨_, hq, by omega, by omega, ?_⟩
        (conv => whnf)
        refine ⟨x, by rw [ixI]; exact hcx, ?_⟩
        (conv => whnf)
        obtain ⟨fr0, hfr0, hiff⟩ : ∃ fr0, fr0 = decide (x < R) ∧ (fr0 = true ↔ (0 ≤ x ∧ x < R)) := ⟨_, rfl, by simp [c3]⟩
      case' inr =>
        have e3 : decide (x ≥ 0) = false := decide_eq_false c3
        refine brk_false (by rw [e3]; rfl) ?_
        (conv => whnf)
        obtain ⟨fr0, hfr0, hiff⟩ : ∃ fr0, fr0 = false ∧ (fr0 = true ↔ (0 ≤ x ∧ x < R)) := ⟨_, rfl, by simp; omega⟩
      all_goals
        refine loop_keep [0, 1, 4, 6, 7, 8] (Nat × Bool) (fun s => [(10, .v (.int .i64 ((s.1 : Nat) : Int))), (9, .v (.bool s.2))]) (fun _ => []) (fun s => M)
          (fun s => s.1 ≤ i ∧ (s.2 = true ↔ (0 ≤ x ∧ x < R ∧ ∀ k : Nat, k < s.1 → zs[k]? ≠ some x))) (fun s => i - s.1) (0, fr0) ⟨rfl, by rw [hfr0]; first | rfl | (rw [e3]; rfl), trivial⟩ rfl rfl ⟨by simp, by simp [hiff]⟩ ?_
        (conv => whnf)
        refine ⟨rfl, fun s hs => ?_⟩
        clear hiff hfr0 fr0
        obtain ⟨j, fr⟩ := s
        obtain ⟨hs1, hs2⟩ := hs
        simp only at hs1 hs2
        have hno : fr = false → fillL R.toNat (zs.take (i + 1)) = fillL R.toNat (zs.take i) := by
          rintro rfl
          rw [fill_succ hx]
          unfold putL
          rw [if_neg]
          intro h
          have h2 := fresh_iff.1 h
          have := hs2.2 ⟨h2.1, by omega, fun k hk => h2.2.2 k (by omega)⟩
          cases this
        by_cases c4 : j < i
        · have e4 : decide ((j : Int) < (i : Nat)) = true := decide_eq_true (by omega)
          cases fr with
          | false =>
            (conv => whnf)
            refine brk_true (by rw [e4]; rfl) ?_
            (conv => whnf)
            refine ⟨(i + 1, B, d, M), le_eq ⟨by show some (AV.v (.int .i64 (IntKind.i64.wrap ((i : Int) + 1)))) = _; rw [step1], rfl, rfl, rfl, rfl, rfl, trivial⟩ rfl rfl rfl, ⟨by simp only; omega, by simp only; omega, by rw [hno rfl]; exact hJ3⟩, by simp only; omega⟩
          | true =>
            obtain ⟨y, hy⟩ : ∃ y, zs[j]? = some y := ⟨_, List.getElem?_eq_getElem (by omega)⟩
            obtain ⟨q', hq', hcy⟩ := hAM.at hy
            have hr := hs2.1 rfl
            (conv => whnf)
            refine brk_true (by rw [e4]; rfl) ?_
            (conv => whnf)
            refine ⟨_, hq', by omega, by omega, ?_⟩
            (conv => whnf)
            refine ⟨y, by rw [ixI]; exact hcy, ?_⟩
            (conv => whnf)
            refine ⟨_, hq, by omega, by omega, ?_⟩
            (conv => whnf)
            refine ⟨x, by rw [ixI]; exact hcx, ?_⟩
            (conv => whnf)
            refine ⟨(j + 1, !(y == x)), le_eq ⟨by show some (AV.v (.int .i64 (IntKind.i64.wrap ((j : Int) + 1)))) = _; rw [wrap_id (by omega) (by omega)]; rfl, rfl, rfl, rfl, rfl, rfl, rfl, rfl, trivial⟩ rfl rfl rfl, ⟨by simp only; omega, ?_⟩, by simp only; omega⟩
            simp only [Bool.not_eq_true', beq_eq_false_iff_ne]
            refine ⟨fun h => ⟨hr.1, hr.2.1, fun k hk => ?_⟩, fun h he => h.2.2 j (by omega) (by rw [hy, he])⟩
            by_cases hkj : k = j
            · rw [hkj, hy]
              simpa using h
            · exact hr.2.2 k (by omega)
        · have e4 : decide ((j : Int) < (i : Nat)) = false := decide_eq_false (by omega)
          cases fr with
          | false =>
            (conv => whnf)
            refine brk_false (by rw [e4]; rfl) ?_
            (conv => whnf)
            refine ⟨(i + 1, B, d, M), le_eq ⟨by show some (AV.v (.int .i64 (IntKind.i64.wrap ((i : Int) + 1)))) = _; rw [step1], rfl, rfl, rfl, rfl, rfl, trivial⟩ rfl rfl rfl, ⟨by simp only; omega, by simp only; omega, by rw [hno rfl]; exact hJ3⟩, by simp only; omega⟩
          | true =>
            have hr := hs2.1 rfl
            have hji : j = i := by omega
            have hyes : cast (fillL R.toNat (zs.take (i + 1))) = cast (fillL R.toNat (zs.take i)) ++ [x] := by
              rw [fill_succ hx]
              unfold putL
              rw [if_pos (fresh_iff.2 ⟨hr.1, by omega, by rw [← hji]; exact hr.2.2⟩)]
              simp [cast]
              omega
            have hcl : (cast (fillL R.toNat (zs.take i))).length ≤ 300 := by simpa [cast] using hlen
            generalize cast (fillL R.toNat (zs.take i)) = xs at *
            (conv => whnf)
            refine brk_false (by rw [e4]; rfl) ?_
            (conv => whnf)
            refine ⟨_, _, _, Blk.cell (l := [.slice B xs.length d]) (i := 0) ⟨29, hJ3.hd⟩ rfl, ?_⟩
            (conv => whnf)
            refine ⟨_, hq, by omega, by omega, ?_⟩
            (conv => whnf)
            refine ⟨x, by rw [ixI]; exact hcx, ?_⟩
            (conv => whnf)
            intro nb hnb
            have hL2 := hJ3.new (o := .cells [.int .i64 x].toArray 3 (0, 0)) hnb
            have hM2 : (M.set nb (.cells [.int .i64 x].toArray 3 (0, 0))) nb = some (.cells [.int .i64 x].toArray 3 (0, 0)) := by simp [Mem.set]
            (conv => whnf)
            refine ⟨[.int .i64 x], rfl, .inr ⟨_, rfl, fun k v hv => ?_⟩, fun hle => ?_, fun hlt => ?_⟩
            · rw [add_mk, Nat.zero_add]
              exact Blk.cell (l := [.int .i64 x]) ⟨3, hM2⟩ hv
            · obtain ⟨bk, hB, hroom, hne, h3, hL3⟩ := hL2.put (x := x) hb7 hle
              refine .inl ⟨_, hB, ?_, rfl, ?_⟩
              · rw [ext3]
                exact hroom
              · rw [ext3]
                (conv => whnf)
                refine ⟨⟨⟨_, Blk.cell (l := [.slice B xs.length d]) (i := 0) ⟨29, h3⟩ rfl⟩, Blk.fz (l := [.slice B xs.length d]) ⟨29, h3⟩⟩, ?_⟩
                (conv => whnf)
                refine ⟨(i + 1, B, d, _), le_eq ⟨by show some (AV.v (.int .i64 (IntKind.i64.wrap ((i : Int) + 1)))) = _; rw [step1], rfl, rfl, rfl, rfl, rfl, trivial⟩ rfl rfl rfl, ⟨by simp only; omega, by simp only; omega, by rw [hyes]; exact hL3⟩, by simp only; omega⟩
            · refine ⟨cap29 (n := xs.length) hlt (by omega), ints xs, ints_len _, hL2.sl.olds, fun cap nb2 hcap hnb2 => ?_⟩
              obtain ⟨h3, hL3⟩ := hL2.grow (x := x) hb7 hcap hnb2 (zeros3 _)
              (conv => whnf)
              refine ⟨⟨⟨_, Blk.cell (l := [.slice B xs.length d]) (i := 0) ⟨29, h3⟩ rfl⟩, Blk.fz (l := [.slice B xs.length d]) ⟨29, h3⟩⟩, ?_⟩
              (conv => whnf)
              refine ⟨(i + 1, some ⟨nb2, 0, none⟩, cap, _), le_eq ⟨by show some (AV.v (.int .i64 (IntKind.i64.wrap ((i : Int) + 1)))) = _; rw [step1], rfl, rfl, rfl, rfl, rfl, trivial⟩ rfl rfl rfl, ⟨by simp only; omega, by simp only; omega, by rw [hyes]; exact hL3⟩, by simp only; omega⟩
  case' inr =>
    have e1 : decide ((i : Int) < (zs.length : Nat)) = false := decide_eq_false (by omega)
    rw [fin (by omega)] at hJ3
    (conv => whnf)
    refine brk_false (by rw [e1]; rfl) ?_
    (conv => whnf)
  all_goals
    clear fin
    intro b11 hb11
    have hn1 : M b11 = none := hb11
    have h74 : b7 ≠ b4 := by rintro rfl; rw [hm2] at hb7; cases hb7
    have hM4 := hJ3.old b4 _ hm2
    have h114 : b11 ≠ b4 := by rintro rfl; rw [hM4] at hn1; cases hn1
    have h117 : b11 ≠ b7 := by rintro rfl; rw [hJ3.hd] at hn1; cases hn1
    have hbk : (M.set b11 (.cells (tbl.at 3).zero.list.toArray 3 (0, 0))) b11 = some (.cells [.int .i64 0].toArray 3 (0, 0)) := by simp [Mem.set]; rfl
    (conv => whnf)
    refine ⟨⟨⟨_, Blk.cell (l := [.int .i64 0]) (i := 0) ⟨3, hbk⟩ rfl⟩, Blk.fz (l := [.int .i64 0]) ⟨3, hbk⟩⟩, ?_⟩
    have hS0 : ∀ k, k ≠ b11 → ((M.set b11 (.cells (tbl.at 3).zero.list.toArray 3 (0, 0))).setCell ⟨b11, 0, none⟩ (.int .i64 0)) k = M k := fun k hk => (Mem.setCell_ne hk).trans (Mem.set_ne hk)
    have hB0 : ((M.set b11 (.cells (tbl.at 3).zero.list.toArray 3 (0, 0))).setCell ⟨b11, 0, none⟩ (.int .i64 0)) b11 = some (.cells [.int .i64 0].toArray 3 (0, 0)) := setCell_at (i := 0) hbk
    generalize (M.set b11 (.cells (tbl.at 3).zero.list.toArray 3 (0, 0))).setCell ⟨b11, 0, none⟩ (.int .i64 0) = M0 at *
    (conv => whnf)
    refine FCalls.mono all_c fun v m' ⟨bA, hbA, hv, hm⟩ => ?_
    subst hv hm
    have hA11 : b11 ≠ bA := by rintro rfl; rw [hB0] at hbA; cases hbA
    have hAM : M bA = none := by rw [← hS0 bA hA11.symm]; exact hbA
    have hold1 : ∀ k o, M k = some o → (M0.set bA (.cells [.pointer (some ⟨p, 0, none⟩)].toArray 23 (0, 0))) k = some o := fun k o hk => by
      rw [Mem.set_ne (by rintro rfl; rw [hAM] at hk; cases hk), hS0 k (by rintro rfl; rw [hn1] at hk; cases hk)]
      exact hk
    have hMp := (hM.more hJ3.old).more hold1
    have hbA1 : (M0.set bA (.cells [.pointer (some ⟨p, 0, none⟩)].toArray 23 (0, 0))) bA = some (.cells [.pointer (some ⟨p, 0, none⟩)].toArray 23 (0, 0)) := by simp [Mem.set]
    have hB1 : (M0.set bA (.cells [.pointer (some ⟨p, 0, none⟩)].toArray 23 (0, 0))) b11 = some (.cells [.int .i64 ((0 : Nat) : Int)].toArray 3 (0, 0)) := by rw [Mem.set_ne hA11]; exact hB0
    have hcl : (cast L).length = L.length := by simp [cast]
    have hll : L.length ≤ 100000 := Nat.le_trans hM.llen (by omega)
    have hlt := hM.lt
    (conv => whnf)
    refine range_iter1 (all_iter bA p R.toNat L) (fun y o hy => ?_) (fun i vs hx => ?_) (fun j M' => M' b11 = some (.cells [.int .i64 ((j : Nat) : Int)].toArray 3 (0, 0)) ∧ ∀ k o, k ≠ b11 → M k = some o → M' k = some o)
      ⟨hB1, fun k o _ hk => hold1 k o hk⟩ (fun j vs M' hx ⟨hj, hold⟩ => ?_) (fun M' ⟨hj, hold⟩ => ?_)
    · obtain ⟨F, hF, _, _⟩ := hMp
      exact ⟨Blk.cell (l := [.pointer (some ⟨p, 0, none⟩)]) (Blk.set ⟨23, hbA1⟩ hy) rfl, F, hF.stay (F2 := fun _ => False) (Stp.set hy) fun _ _ h => h⟩
    · obtain ⟨x, _, rfl⟩ := List.mem_map.1 (List.mem_of_getElem? hx)
      rfl
    · obtain ⟨x, hx2, rfl⟩ : ∃ x, L[j]? = some x ∧ [.int .i64 ((x : Nat) : Int)] = vs := by
        rw [List.getElem?_map] at hx
        cases hl : L[j]? with
        | none => rw [hl] at hx; cases hx
        | some x => rw [hl] at hx; cases hx; exact ⟨x, rfl, rfl⟩
      have hjl := (List.getElem?_eq_some_iff.1 hx2).1
      have hh7 := hold b7 _ h117.symm hJ3.hd
      obtain ⟨bk, hB, hbk2, hc, _⟩ := hJ3.sl.cell (ints_get (show (cast L)[j]? = some (x : Int) by simp [cast, hx2]))
      have hMbk : M bk ≠ none := by
        intro h
        unfold Mem.cell at hc
        simp only [h] at hc
        cases hc
      have hcM : M'.cell ⟨bk, j, none⟩ = some (.int .i64 (x : Int)) := by
        unfold Mem.cell at hc ⊢
        simp only at hc ⊢
        cases hm : M bk with
        | none => exact absurd hm hMbk
        | some o => rw [hold bk o (by rintro rfl; exact hMbk hn1) hm]; rw [hm] at hc; exact hc
      (conv => whnf)
      refine ⟨_, Blk.cell (l := [.int .i64 ((j : Nat) : Int)]) (i := 0) ⟨3, hj⟩ rfl, ?_⟩
      (conv => whnf)
      refine ⟨_, _, _, Blk.cell (l := [.slice B (cast L).length d]) (i := 0) ⟨29, hh7⟩ rfl, ?_⟩
      (conv => whnf)
      have e5 : decide ((j : Int) ≥ ((cast L).length : Nat)) = false := decide_eq_false (by omega)
      refine brk_true (by rw [e5]; rfl) ?_
      (conv => whnf)
      refine ⟨_, _, _, Blk.cell (l := [.slice B (cast L).length d]) (i := 0) ⟨29, hh7⟩ rfl, ?_⟩
      (conv => whnf)
      refine ⟨_, Blk.cell (l := [.int .i64 ((j : Nat) : Int)]) (i := 0) ⟨3, hj⟩ rfl, ?_⟩
      (conv => whnf)
      refine ⟨_, hB, by omega, by omega, ?_⟩
      (conv => whnf)
      refine ⟨(x : Int), by rw [ixI, ext3, Nat.mul_one]; exact hcM, ?_⟩
      (conv => whnf)
      refine brk_false (by simp) ?_
      (conv => whnf)
      refine ⟨_, Blk.cell (l := [.int .i64 ((j : Nat) : Int)]) (i := 0) ⟨3, hj⟩ rfl, ?_⟩
      (conv => whnf)
      rw [wrap_id (x := (j : Int) + 1) (by omega) (by omega)]
      refine ⟨⟨⟨_, Blk.cell (l := [.int .i64 ((j : Nat) : Int)]) (i := 0) ⟨3, hj⟩ rfl⟩, Blk.fz (l := [.int .i64 ((j : Nat) : Int)]) ⟨3, hj⟩⟩, ?_⟩
      (conv => whnf)
      exact ⟨setCell_at (i := 0) hj, fun k o hk ho => (Mem.setCell_ne hk).trans (hold k o hk ho)⟩
    · rw [List.length_map] at hj
      have hh7 := hold b7 _ h117.symm hJ3.hd
      have hh4 := hold b4 _ h114.symm hM4
      (conv => whnf)
      refine ⟨_, Blk.cell (l := [.int .i64 ((L.length : Nat) : Int)]) (i := 0) ⟨3, hj⟩ rfl, ?_⟩
      (conv => whnf)
      refine ⟨_, _, _, Blk.cell (l := [.slice B (cast L).length d]) (i := 0) ⟨29, hh7⟩ rfl, ?_⟩
      (conv => whnf)
      refine ⟨⟨⟨_, Blk.cell (l := (tbl.at 4).zero.list) (i := 0) ⟨4, hh4⟩ rfl⟩, Blk.fz (l := (tbl.at 4).zero.list) ⟨4, hh4⟩⟩, ?_⟩
      have hb : (((L.length : Nat) : Int) == (((cast L).length : Nat) : Int)) = true := by rw [hcl]; exact beq_self_eq_true _
      rw [hb]
      (conv => whnf)
      refine ⟨true, Blk.cell (l := [.bool true]) (i := 0) ⟨4, setCell_at (i := 0) hh4⟩ rfl, ?_⟩
      (conv => whnf)
      refine ⟨m, fun k o hk => ?_, rfl, rfl⟩
      have hk4 : k ≠ b4 := by rintro rfl; rw [hb4] at hk; cases hk
      have hMk := hJ3.old k o (hM.low k o ((Stp.set (F := fun _ => False) hb4).old k o hk))
      exact (Mem.setCell_ne hk4).trans (hold k o (by rintro rfl; rw [hn1] at hMk; cases hMk) hMk)
end Go.Proofs.Ytlahdleaidhclaa
