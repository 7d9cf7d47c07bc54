/- Marks: the document's Rising. -/
import Derived.Test.YtlahdleaidhclaaMkW
namespace Go.Proofs.Ytlahdleaidhclaa
open Go Go.Mv
set_option maxHeartbeats 1000000
set_option maxRecDepth 10000
set_option linter.unusedVariables false
set_option linter.unusedSimpArgs false
attribute [local irreducible] FCalls IntKind.wrap bits Mem.set Mem.setCell Mem.setCells YCalls
theorem ints_set {zs : List Int} {k : Nat} {x : Int} : (ints zs).set k (.int .i64 x) = ints (zs.set k x) := by simp [ints, List.map_set]
theorem set_mid {Q S : List Int} {z x : Int} : (Q ++ z :: S).set Q.length x = Q ++ x :: S := by
  rw [List.set_append_right _ _ (Nat.le_refl _), Nat.sub_self]
  rfl
theorem up_cast (l : List Nat) : (up (cast l)).length = l.length := by rw [up_len, cast_len]
theorem rrising_c {m : Mem} {r room : Nat} {l : List Nat} (h : rf r room l m) (hl : l.length ≤ 100000) : FCalls Try.prog 37 [.pointer (some ⟨r, 0, none⟩)] m fun v m' =>
    ∃ B c, v = .slice B l.length c ∧ Sep [sl B l.length c 1 (ints (up (cast l))), kp m] m' := by
  obtain ⟨A, c, h⟩ := h
  have hRd := h.rd 1 rfl
  have cr := h.cell 0 (i := 1) rfl rfl
  clear h
  refine fcalls_of_vc (T := tbl) (B := bodies) (pr := [99999]) (DR := dr37) (args := [.v (.pointer (some ⟨r, 0, none⟩))]) tbl_ok bodies_ok mixed Try.func37 rfl (by decide +kernel) (by simp [Try.f37]) rfl ?_
  (conv => whnf)
  refine loop_keep [0] (Nat × Option Addr × Nat × Mem) (fun s => [(4, .v (.int .i64 ((s.1 : Nat) : Int))), (3, .v (.slice s.2.1 s.1 s.2.2.1))]) (fun _ => []) (fun s => s.2.2.2) (fun s => s.1 ≤ l.length ∧ Sep [sl s.2.1 s.1 s.2.2.1 1 (ints (up (cast (l.take s.1)))), kp m] s.2.2.2) (fun s => l.length - s.1)
    (0, none, 0, m) ⟨rfl, rfl, trivial⟩ rfl rfl ⟨Nat.zero_le _, by
      simp only
      rw [show ints (up (cast (l.take 0))) = [] by simp [ints, cast, up]]
      exact Sep.free (A := sl none 0 0 1 []) (Sep.init m) sl_nil⟩ ?_
  (conv => whnf)
  refine ⟨rfl, ?_⟩
  rintro ⟨i, B, cB, M⟩ ⟨h1, h⟩
  simp only at h1 h
  (conv => whnf)
  refine ⟨_, _, _, Mem.le_cell (h.kept 1 rfl) cr, ?_⟩
  (conv => whnf)
  refine brk_intro (fun c1 => ?_) (fun c1 => ?_)
  · have c1 : (i : Int) < (l.length : Nat) := by simpa using c1
    have step1 : IntKind.i64.wrap ((i : Int) + 1) = ((i + 1 : Nat) : Int) := wrap_id (by omega) (by omega)
    obtain ⟨x, hx⟩ : ∃ x, l[i]? = some x := ⟨_, List.getElem?_eq_getElem (by omega)⟩
    obtain ⟨q, hq, hc⟩ := (hRd.more (h.kept 1 rfl)).at (ints_get (cast_get hx))
    have hc : M.cell (q.add (i * 1)) = some (.int .i64 ((x : Nat) : Int)) := by rw [Nat.mul_one]; exact hc
    have htk : cast (l.take (i + 1)) = cast (l.take i) ++ [((x : Nat) : Int)] := by rw [List.take_add_one, hx]; exact cast_app _ _
    (conv => whnf)
    refine ⟨_, _, _, Mem.le_cell (h.kept 1 rfl) cr, ?_⟩
    (conv => whnf)
    refine ⟨_, hq, by omega, c1, ?_⟩
    (conv => whnf)
    refine ⟨_, hc, ?_⟩
    (conv => whnf)
    intro nb m4 hb he
    replace h := h.new' (l := [.int .i64 ((x : Nat) : Int)]) hb (he.trans rfl)
    have hBn : m4.holds ⟨nb, 0, none⟩ [.int .i64 ((x : Nat) : Int)] := (h.blk 0 rfl).holds fun k v hk => by rw [Nat.zero_add]; exact hk
    clear hb he
    (conv => whnf)
    obtain ⟨ok, hR⟩ := h.app 1 (T := tbl) (e := 3) (news := [.int .i64 ((x : Nat) : Int)]) (k := 1) (B := some ⟨nb, 0, none⟩) rfl rfl (.inr ⟨_, rfl, hBn⟩) rfl rfl (by show 2 * (_ + 1) * 8 ≤ 2 ^ 48; omega) rfl
    refine ⟨_, _, ok, fun A2 c5 m5 hr2 => ?_⟩
    replace h := (hR _ _ _ hr2).drop 0
    clear ok hR hr2 hBn
    generalize hxs : cast (l.take i) = xs at *
    have hxl : (up xs).length = i := by rw [← hxs, up_len, cast_len, List.length_take]; omega
    replace h : Sep [sl A2 (i + 1) c5 1 (ints (up xs ++ [((x : Nat) : Int)])), kp m] m5 := by
      rw [ints_app]
      exact h
    (conv => whnf)
    refine loop_keep [0, 4, 3] (Nat × Mem) (fun s => [(5, .v (.int .i64 ((s.1 : Nat) : Int)))]) (fun _ => []) (fun s => s.2)
      (fun s => ∃ P S, P.length = s.1 ∧ P ++ S = up xs ∧ (∀ y, y ∈ S → ((x : Nat) : Int) < y) ∧ Sep [sl A2 (i + 1) c5 1 (ints (P ++ ((x : Nat) : Int) :: S)), kp m] s.2) (fun s => s.1)
      (i, m5) ⟨rfl, trivial⟩ rfl rfl ⟨up xs, [], hxl, by simp, by simp, h⟩ ?_
    clear h
    (conv => whnf)
    refine ⟨rfl, ?_⟩
    rintro ⟨a, M2⟩ ⟨P, S, hP, hPS, hS, h⟩
    simp only at hP h
    have hlen : P.length + S.length = i := by rw [← List.length_append, hPS, hxl]
    have out : (∀ y, P.getLast? = some y → y ≤ ((x : Nat) : Int)) → Sep [sl A2 (i + 1) c5 1 (ints (up (cast (l.take (i + 1))))), kp m] M2 := fun hlast => by
      rw [htk, ← ins_up hPS hS hlast]
      exact h
    (conv => whnf)
    refine brk_intro (fun c2 => ?_) (fun c2 => ?_)
    · have c2 : 0 < (a : Int) := by simpa using c2
      obtain ⟨Q, z, rfl⟩ : ∃ Q z, P = Q ++ [z] := by
        rcases List.eq_nil_or_concat P with rfl | ⟨Q, z, rfl⟩
        · simp at hP; omega
        · exact ⟨Q, z, by rw [List.concat_eq_append]⟩
      rw [List.length_append, List.length_singleton] at hP hlen
      have step2 : IntKind.i64.wrap ((a : Int) - 1) = ((Q.length : Nat) : Int) := by rw [wrap_id (by omega) (by omega)]; omega
      have hL : Q ++ [z] ++ ((x : Nat) : Int) :: S = Q ++ z :: ((x : Nat) : Int) :: S := by simp
      rw [hL] at h
      have g1 : (ints (Q ++ z :: ((x : Nat) : Int) :: S))[Q.length]? = some (.int .i64 z) := ints_get (by simp)
      have g2 : (ints (Q ++ z :: ((x : Nat) : Int) :: S))[a]? = some (.int .i64 ((x : Nat) : Int)) := ints_get (by rw [← hP, List.getElem?_append_right (by omega)]; simp)
      obtain ⟨q1, hq1, hc1⟩ := (h.rd 0 rfl).at g1
      obtain ⟨q2, hq2, hc2⟩ := (h.rd 0 rfl).at g2
      have hc1 : M2.cell (q1.add (Q.length * 1)) = some (.int .i64 z) := by rw [Nat.mul_one]; exact hc1
      have hc2 : M2.cell (q2.add (a * 1)) = some (.int .i64 ((x : Nat) : Int)) := by rw [Nat.mul_one]; exact hc2
      (conv => whnf)
      rw [step2]
      refine ⟨_, hq1, by omega, by omega, ?_⟩
      (conv => whnf)
      refine ⟨_, hc1, ?_⟩
      (conv => whnf)
      refine ⟨_, hq2, by omega, by omega, ?_⟩
      (conv => whnf)
      refine ⟨_, hc2, ?_⟩
      (conv => whnf)
      refine brk_intro (fun c3 => ?_) (fun c3 => ?_)
      · have c3 : ((x : Nat) : Int) < z := by simpa using c3
        (conv => whnf)
        refine ⟨_, hq2, by omega, by omega, ?_⟩
        (conv => whnf)
        refine ⟨_, hc2, ?_⟩
        (conv => whnf)
        rw [step2]
        refine ⟨_, hq1, by omega, by omega, ?_⟩
        (conv => whnf)
        refine ⟨_, hc1, ?_⟩
        (conv => whnf)
        refine ⟨_, hq2, by omega, by omega, ?_⟩
        (conv => whnf)
        obtain ⟨q5, hq5, hroom, hS1⟩ := h.st 0 (k := a) (.int .i64 z) rfl (List.getElem?_eq_some_iff.1 g2).1
        rw [hq2] at hq5
        cases hq5
        have hroom' : (∃ u, M2.cell (q2.add (a * 1)) = some u) ∧ M2.fz (q2.add (a * 1)) = false := by rw [Nat.mul_one]; exact hroom
        refine ⟨hroom', fun m6 he => ?_⟩
        replace he : m6 = M2.setCell (q2.add (a * 1)) (.int .i64 z) := he
        rw [Nat.mul_one] at he
        rw [← he] at hS1
        replace h : Sep [sl A2 (i + 1) c5 1 ((ints (Q ++ z :: ((x : Nat) : Int) :: S)).set a (.int .i64 z)), kp m] m6 := hS1
        clear hS1 he hroom hroom' hc2 hc1 hq2 hq1
        rw [ints_set, show Q ++ z :: ((x : Nat) : Int) :: S = (Q ++ [z]) ++ ((x : Nat) : Int) :: S by simp, show a = (Q ++ [z]).length by simp; omega, set_mid, show Q ++ [z] ++ z :: S = Q ++ z :: z :: S by simp] at h
        have g1 : (ints (Q ++ z :: z :: S))[Q.length]? = some (.int .i64 z) := ints_get (by simp)
        obtain ⟨q1, hq1, hroom, hS1⟩ := h.st 0 (k := Q.length) (.int .i64 ((x : Nat) : Int)) rfl (List.getElem?_eq_some_iff.1 g1).1
        (conv => whnf)
        rw [step2]
        refine ⟨_, hq1, by omega, by omega, ?_⟩
        (conv => whnf)
        have hroom' : (∃ u, m6.cell (q1.add (Q.length * 1)) = some u) ∧ m6.fz (q1.add (Q.length * 1)) = false := by rw [Nat.mul_one]; exact hroom
        refine ⟨hroom', fun m7 he => ?_⟩
        replace he : m7 = m6.setCell (q1.add (Q.length * 1)) (.int .i64 ((x : Nat) : Int)) := he
        rw [Nat.mul_one] at he
        rw [← he] at hS1
        replace h : Sep [sl A2 (i + 1) c5 1 ((ints (Q ++ z :: z :: S)).set Q.length (.int .i64 ((x : Nat) : Int))), kp m] m7 := hS1
        rw [ints_set, set_mid] at h
        (conv => whnf)
        refine ⟨(Q.length, m7), le_eq ⟨by show some (AV.v (.int .i64 (IntKind.i64.wrap ((a : Int) - 1)))) = _; rw [step2], rfl, rfl, rfl, trivial⟩ rfl rfl rfl, ⟨Q, z :: S, rfl, by rw [← hPS]; simp, fun y hy => ?_, h⟩, by simp only; omega⟩
        rcases List.mem_cons.1 hy with rfl | hy
        · exact c3
        · exact hS y hy
      · have c3 : ¬ ((x : Nat) : Int) < z := by simpa using c3
        (conv => whnf)
        refine ⟨(i + 1, A2, c5, M2), le_eq ⟨by show some (AV.v (.int .i64 (IntKind.i64.wrap ((i : Int) + 1)))) = _; rw [step1], rfl, rfl, trivial⟩ rfl rfl rfl, ⟨by simp only; omega, out fun y hy => by simp at hy; omega⟩, by simp only; omega⟩
    · have c2 : ¬ 0 < (a : Int) := by simpa using c2
      have : P = [] := List.length_eq_zero_iff.1 (by omega)
      subst this
      (conv => whnf)
      refine ⟨(i + 1, A2, c5, M2), le_eq ⟨by show some (AV.v (.int .i64 (IntKind.i64.wrap ((i : Int) + 1)))) = _; rw [step1], rfl, rfl, trivial⟩ rfl rfl rfl, ⟨by simp only; omega, out fun y hy => by cases hy⟩, by simp only; omega⟩
  · have c1 : ¬ (i : Int) < (l.length : Nat) := by simpa using c1
    have : i = l.length := by omega
    subst this
    rw [List.take_length] at h
    (conv => whnf)
    exact ⟨_, _, rfl, h⟩
end Go.Proofs.Ytlahdleaidhclaa
