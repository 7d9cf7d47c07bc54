/- Marks: owns. -/
import Derived.Test.YtlahdleaidhclaaMkY
namespace Go.Proofs.Ytlahdleaidhclaa
open Go Go.Mv
set_option maxHeartbeats 2000000
set_option maxRecDepth 10000
set_option linter.unusedVariables false
set_option linter.unusedSimpArgs false
attribute [local irreducible] FCalls IntKind.wrap bits Mem.set Mem.setCell Mem.setCells YCalls
theorem Sep.pair {A : Asn} {R : List Asn} {m : Mem} (h : Sep (A :: R) m) : Sep [A, Sep R] m := by
  obtain ⟨m1, m2, k1, k2, k3, k4, k5⟩ := h
  exact ⟨m1, m2, k1, k2, k3, k4, m2, Mem.empty, fun _ => .inr rfl, Mem.le_refl _, fun _ _ h => (by cases h), k5, trivial⟩
theorem Sep.unpair {A : Asn} {R : List Asn} {m : Mem} (h : Sep [A, Sep R] m) : Sep (A :: R) m := by
  obtain ⟨m1, m2, k1, k2, k3, k4, m3, m4, g1, g2, g3, g4, _⟩ := h
  exact ⟨m1, m2, k1, k2, k3, k4, g4.more g2⟩
theorem rep_set {k : Nat} {v : Value} {vs : List Value} (hk : k < vs.length) : (List.replicate k v ++ vs.drop k).set k v = List.replicate (k + 1) v ++ vs.drop (k + 1) := by
  rw [List.set_append_right _ _ (by simp), List.length_replicate, Nat.sub_self, List.drop_eq_getElem_cons hk, List.set_cons_zero, List.replicate_succ', List.append_assoc]
  rfl
theorem owns_c {m : Mem} {w N cB : Nat} {cs : List Value} {B : Option Addr} {ls : List Out} (h : Sep [wo w cs N, sl B ls.length cB 1 (ls.map outV), Sep (ls.map anyp)] m) (hc : cs.length = 6) (hN : N + ls.length ≤ 1000) (hls : ∀ o, o ∈ ls → o.n ≤ 100000) :
    FCalls Try.prog 38 [.pointer (some ⟨w, 0, none⟩), .slice B ls.length cB] m fun v m' => wo w cs (N + ls.length) m' := by
  obtain ⟨O, cO, os, h1, h2, h⟩ : ∃ O cO os, os.length = N ∧ (∀ (i : Nat) o, os[i]? = some o → o.n ≤ 100009) ∧ Sep [pt w (cs ++ [.slice O N cO]), sl O N cO 1 (os.map outV), Sep (oparts os), sl B ls.length cB 1 (ls.map outV), Sep (ls.map anyp)] m := by
    obtain ⟨m1, m2, k1, k2, k3, ⟨O, cO, os, g1, g2, g3⟩, k5⟩ := h
    exact ⟨O, cO, os, g1, g2, Sep.split (L := [_, _, _]) ⟨m1, m2, k1, k2, k3, g3, k5⟩⟩
  have hBm := h.rd 3 rfl
  refine fcalls_of_vc (T := tbl) (B := bodies) (pr := [99999]) (DR := dr38) (args := [.v (.pointer (some ⟨w, 0, none⟩)), .v (.slice B ls.length cB)]) tbl_ok bodies_ok mixed Try.func38 rfl (by decide +kernel) (by simp [Try.f38]) rfl ?_
  (conv => whnf)
  refine ⟨_, _, _, h.cell 0 (i := 6) rfl (six hc), ?_⟩
  (conv => whnf)
  refine loop_keep [0, 1, 4] (Nat × Option Addr × Nat × List Out × Mem) (fun s => [(5, .v (.int .i64 ((s.1 : Nat) : Int)))]) (fun _ => []) (fun s => s.2.2.2.2)
    (fun s => s.1 ≤ ls.length ∧ s.2.2.2.1.length = N + s.1 ∧ (∀ (i : Nat) o, s.2.2.2.1[i]? = some o → o.n ≤ 100009 ∧ (N ≤ i → o.n ≤ 100000)) ∧ Sep [pt w (cs ++ [.slice s.2.1 (N + s.1) s.2.2.1]), sl s.2.1 (N + s.1) s.2.2.1 1 (s.2.2.2.1.map outV), Sep (oparts s.2.2.2.1), sl B ls.length cB 1 (ls.map outV), Sep ((ls.drop s.1).map anyp)] s.2.2.2.2) (fun s => ls.length - s.1)
    (0, O, cO, os, m) ⟨rfl, trivial⟩ rfl rfl ⟨Nat.zero_le _, h1, fun i o ho => ⟨h2 i o ho, fun hi => by have hlt : i < os.length := (List.getElem?_eq_some_iff.1 ho).1; omega⟩, h⟩ ?_
  clear h h1 h2 hBm
  (conv => whnf)
  refine ⟨rfl, ?_⟩
  rintro ⟨i, O, cO, os, M⟩ ⟨hi, h1, h2, h⟩
  simp only at hi h1 h2 h
  (conv => whnf)
  refine brk_intro (fun c1 => ?_) (fun c1 => ?_)
  · have c1 : (i : Int) < (ls.length : Nat) := by simpa using c1
    have step1 : IntKind.i64.wrap ((i : Int) + 1) = ((i + 1 : Nat) : Int) := wrap_id (by omega) (by omega)
    have step4 : IntKind.i64.wrap (IntKind.i64.wrap (-9 - ((N : Nat) : Int)) - (i : Int)) = -9 - ((N + i : Nat) : Int) := by
      rw [wrap_id (x := -9 - ((N : Nat) : Int)) (by omega) (by omega), wrap_id (by omega) (by omega)]
      omega
    obtain ⟨o, ho⟩ : ∃ o, ls[i]? = some o := ⟨_, List.getElem?_eq_getElem (by omega)⟩
    have hon := hls o (List.mem_of_getElem? ho)
    have hdr : ls.drop i = o :: ls.drop (i + 1) := by
      obtain ⟨g1, rfl⟩ := List.getElem?_eq_some_iff.1 ho
      exact List.drop_eq_getElem_cons g1
    rw [hdr, List.map_cons] at h
    obtain ⟨vs, h⟩ : ∃ vs, Sep [sl o.A o.n o.c 1 vs, pt w (cs ++ [.slice O (N + i) cO]), sl O (N + i) cO 1 (os.map outV), Sep (oparts os), sl B ls.length cB 1 (ls.map outV), Sep ((ls.drop (i + 1)).map anyp)] M := by
      have h3 := (h.turn 4 (B := Sep [anyp o, Sep ((ls.drop (i + 1)).map anyp)]) rfl fun m1 _ hm => Sep.pair hm).move 4 rfl
      obtain ⟨m1, m2, k1, k2, k3, ⟨vs, k4⟩, k5⟩ := (show Sep [anyp o, Sep ((ls.drop (i + 1)).map anyp), pt w (cs ++ [.slice O (N + i) cO]), sl O (N + i) cO 1 (os.map outV), Sep (oparts os), sl B ls.length cB 1 (ls.map outV)] M from Sep.split (L := [_, _]) h3)
      exact ⟨vs, m1, m2, k1, k2, k3, k4, k5.back (j := 4) (by simp)⟩
    have hvs : vs.length = o.n := by have := (h.asn 0 rfl).1; omega
    (conv => whnf)
    refine loop_keep [0, 1, 4, 5] (Nat × Mem) (fun s => [(6, .v (.int .i64 ((s.1 : Nat) : Int)))]) (fun _ => []) (fun s => s.2)
      (fun s => s.1 ≤ o.n ∧ Sep [sl o.A o.n o.c 1 (List.replicate s.1 (mark (N + i)) ++ vs.drop s.1), pt w (cs ++ [.slice O (N + i) cO]), sl O (N + i) cO 1 (os.map outV), Sep (oparts os), sl B ls.length cB 1 (ls.map outV), Sep ((ls.drop (i + 1)).map anyp)] s.2) (fun s => o.n - s.1)
      (0, M) ⟨rfl, trivial⟩ rfl rfl ⟨Nat.zero_le _, by simp only [List.replicate_zero, List.nil_append, List.drop_zero]; exact h⟩ ?_
    clear h
    (conv => whnf)
    refine ⟨rfl, ?_⟩
    rintro ⟨k, M⟩ ⟨hk, h⟩
    simp only at hk h
    obtain ⟨q, hq, hcq⟩ := (h.rd 4 rfl).at (k := i) (v := outV o) (by rw [List.getElem?_map, ho]; rfl)
    have hcq : M.cell (q.add (i * 1)) = some (.slice o.A o.n o.c) := by rw [Nat.mul_one]; exact hcq
    (conv => whnf)
    refine ⟨_, hq, by omega, c1, ?_⟩
    (conv => whnf)
    refine ⟨_, _, _, hcq, ?_⟩
    (conv => whnf)
    refine brk_intro (fun c2 => ?_) (fun c2 => ?_)
    · have c2 : (k : Int) < (o.n : Nat) := by simpa using c2
      have step2 : IntKind.i64.wrap ((k : Int) + 1) = ((k + 1 : Nat) : Int) := wrap_id (by omega) (by omega)
      obtain ⟨q2, hq2, hroom, hS⟩ := h.st 0 (k := k) (mark (N + i)) rfl (by simp; omega)
      have hroom' : (∃ u, M.cell (q2.add (k * 1)) = some u) ∧ M.fz (q2.add (k * 1)) = false := by rw [Nat.mul_one]; exact hroom
      (conv => whnf)
      refine ⟨_, hq, by omega, c1, ?_⟩
      (conv => whnf)
      refine ⟨_, _, _, hcq, ?_⟩
      (conv => whnf)
      refine ⟨_, hq2, by omega, c2, ?_⟩
      (conv => whnf)
      refine ⟨hroom', fun m6 he => ?_⟩
      rw [step4] at he
      replace he : m6 = M.setCell (q2.add (k * 1)) (mark (N + i)) := he
      rw [Nat.mul_one] at he
      rw [← he] at hS
      replace h : Sep [sl o.A o.n o.c 1 ((List.replicate k (mark (N + i)) ++ vs.drop k).set k (mark (N + i))), pt w (cs ++ [.slice O (N + i) cO]), sl O (N + i) cO 1 (os.map outV), Sep (oparts os), sl B ls.length cB 1 (ls.map outV), Sep ((ls.drop (i + 1)).map anyp)] m6 := hS
      rw [rep_set (by omega)] at h
      (conv => whnf)
      exact ⟨(k + 1, m6), le_eq ⟨by show some (AV.v (.int .i64 (IntKind.i64.wrap ((k : Int) + 1)))) = _; rw [step2], rfl, rfl, rfl, rfl, trivial⟩ rfl rfl rfl, ⟨by simp only; omega, h⟩, by simp only; omega⟩
    · have c2 : ¬ (k : Int) < (o.n : Nat) := by simpa using c2
      have : k = o.n := by omega
      subst this
      rw [List.drop_eq_nil_of_le (by omega), List.append_nil] at h
      (conv => whnf)
      refine ⟨_, hq, by omega, c1, ?_⟩
      (conv => whnf)
      refine ⟨_, _, _, h.cell 1 (i := 6) rfl (six hc), ?_⟩
      (conv => whnf)
      refine ⟨_, _, _, hcq, ?_⟩
      (conv => whnf)
      intro nb m4 hb he
      replace h := h.new' (l := [outV o]) hb (he.trans rfl)
      have hBn : m4.holds ⟨nb, 0, none⟩ [outV o] := (h.blk 0 rfl).holds fun k v hk => by rw [Nat.zero_add]; exact hk
      clear hb he
      (conv => whnf)
      obtain ⟨ok, hR⟩ := h.app 3 (T := tbl) (e := 29) (news := [outV o]) (k := 1) (B := some ⟨nb, 0, none⟩) rfl rfl (.inr ⟨_, rfl, hBn⟩) rfl rfl (by show 2 * (_ + 1) * 24 ≤ 2 ^ 48; omega) rfl
      refine ⟨_, _, ok, fun A2 c5 m5 hr2 => ?_⟩
      replace h := (hR _ _ _ hr2).drop 0
      clear ok hR hr2 hBn
      (conv => whnf)
      refine ⟨h.room 1 (i := 6) rfl (six hc), fun m6 he => ?_⟩
      replace h := h.put' 1 he rfl
      rw [six_set hc] at h
      replace h : Sep [opart (N + i) o, pt w (cs ++ [.slice A2 (N + i + 1) c5]), sl A2 (N + i + 1) c5 1 (os.map outV ++ [outV o]), Sep (oparts os), sl B ls.length cB 1 (ls.map outV), Sep ((ls.drop (i + 1)).map anyp)] m6 := h
      have h9 := Sep.group (L := [_, _]) (h.move 3 rfl)
      replace h : Sep [pt w (cs ++ [.slice A2 (N + i + 1) c5]), sl A2 (N + i + 1) c5 1 (os.map outV ++ [outV o]), Sep (oparts os ++ [opart (N + i) o]), sl B ls.length cB 1 (ls.map outV), Sep ((ls.drop (i + 1)).map anyp)] m6 :=
        (h9.turn 0 (B := Sep (oparts os ++ [opart (N + i) o])) rfl fun m1 _ hm => Sep.split hm).back (j := 2) (by simp)
      rw [← h1, ← oparts_snoc, h1, show os.map outV ++ [outV o] = (os ++ [o]).map outV by simp] at h
      (conv => whnf)
      refine ⟨(i + 1, A2, c5, os ++ [o], m6), le_eq ⟨by show some (AV.v (.int .i64 (IntKind.i64.wrap ((i : Int) + 1)))) = _; rw [step1], rfl, rfl, rfl, trivial⟩ rfl rfl rfl, ⟨by simp only; omega, by simp; omega, fun k x hx => ?_, h⟩, by simp only; omega⟩
      rcases Nat.lt_or_ge k os.length with hk | hk
      · rw [List.getElem?_append_left hk] at hx
        exact h2 k x hx
      · rw [List.getElem?_append_right hk] at hx
        have : x = o := by
          have := List.mem_of_getElem? hx
          simpa using this
        subst this
        exact ⟨by omega, fun _ => hon⟩
  · have c1 : ¬ (i : Int) < (ls.length : Nat) := by simpa using c1
    have : i = ls.length := by omega
    subst this
    generalize hN2 : N + ls.length = N2 at *
    replace h : Sep [pt w (cs ++ [.slice O N2 cO]), sl O N2 cO 1 (os.map outV), Sep (oparts os)] M := (h.drop 4).drop 3
    have hO3 : (tbl.at 3).size = 1 := rfl
    (conv => whnf)
    refine loop_keep [0, 4] (Nat × List Out × Mem) (fun s => [(7, .v (.int .i64 ((s.1 : Nat) : Int)))]) (fun _ => []) (fun s => s.2.2)
      (fun s => s.1 ≤ 9 ∧ s.2.1.length = N2 ∧ (∀ (i : Nat) o, s.2.1[i]? = some o → o.n ≤ 100009 ∧ (N ≤ i → o.n ≤ 100000 + s.1)) ∧ Sep [pt w (cs ++ [.slice O N2 cO]), sl O N2 cO 1 (s.2.1.map outV), Sep (oparts s.2.1)] s.2.2) (fun s => 9 - s.1)
      (0, os, M) ⟨rfl, trivial⟩ rfl rfl ⟨by simp, h1, h2, h⟩ ?_
    clear h h1 h2
    (conv => whnf)
    refine ⟨rfl, ?_⟩
    rintro ⟨k, os, M⟩ ⟨hk, h1, h2, h⟩
    simp only at hk h1 h2 h
    (conv => whnf)
    refine brk_intro (fun c2 => ?_) (fun c2 => ?_)
    · have c2 : (k : Int) < 9 := by simpa using c2
      have step2 : IntKind.i64.wrap ((k : Int) + 1) = ((k + 1 : Nat) : Int) := wrap_id (by omega) (by omega)
      (conv => whnf)
      refine loop_keep [0, 4, 7] (Nat × List Out × Mem) (fun s => [(8, .v (.int .i64 ((s.1 : Nat) : Int)))]) (fun _ => []) (fun s => s.2.2)
        (fun s => s.1 ≤ N2 ∧ N ≤ s.1 ∧ s.2.1.length = N2 ∧ (∀ (i : Nat) o, s.2.1[i]? = some o → o.n ≤ 100009 ∧ (N ≤ i → o.n ≤ 100000 + k + (if i < s.1 then 1 else 0))) ∧ Sep [pt w (cs ++ [.slice O N2 cO]), sl O N2 cO 1 (s.2.1.map outV), Sep (oparts s.2.1)] s.2.2) (fun s => N2 - s.1)
        (N, os, M) ⟨rfl, trivial⟩ rfl rfl ⟨by simp only; omega, Nat.le_refl _, h1, fun i o ho => ⟨(h2 i o ho).1, fun hi => by simp only; rw [if_neg (by omega)]; exact (h2 i o ho).2 hi⟩, h⟩ ?_
      clear h h1 h2
      (conv => whnf)
      refine ⟨rfl, ?_⟩
      rintro ⟨j, os, M⟩ ⟨hj, hjN, h1, h2, h⟩
      simp only at hj hjN h1 h2 h
      (conv => whnf)
      refine ⟨_, _, _, h.cell 0 (i := 6) rfl (six hc), ?_⟩
      (conv => whnf)
      refine brk_intro (fun c3 => ?_) (fun c3 => ?_)
      · have c3 : (j : Int) < (N2 : Nat) := by simpa using c3
        have step3 : IntKind.i64.wrap ((j : Int) + 1) = ((j + 1 : Nat) : Int) := wrap_id (by omega) (by omega)
        have step4 : IntKind.i64.wrap (-9 - (j : Int)) = -9 - ((j : Nat) : Int) := wrap_id (by omega) (by omega)
        obtain ⟨o, ho⟩ : ∃ o, os[j]? = some o := ⟨_, List.getElem?_eq_getElem (by omega)⟩
        have hon := h2 j o ho
        rw [if_neg (Nat.lt_irrefl _)] at hon
        have hon2 := hon.2 hjN
        obtain ⟨q, hq, hcq⟩ := (h.rd 1 rfl).at (k := j) (v := outV o) (by rw [List.getElem?_map, ho]; rfl)
        have hcq : M.cell (q.add (j * 1)) = some (.slice o.A o.n o.c) := by rw [Nat.mul_one]; exact hcq
        (conv => whnf)
        refine ⟨_, _, _, h.cell 0 (i := 6) rfl (six hc), ?_⟩
        (conv => whnf)
        refine ⟨_, hq, by omega, c3, ?_⟩
        (conv => whnf)
        refine ⟨_, _, _, hcq, ?_⟩
        (conv => whnf)
        rw [step4]
        refine ⟨?ga, ?gb, trivial⟩
        case' ga =>
          (conv => whnf)
          refine ⟨_, _, _, h.cell 0 (i := 6) rfl (six hc), ?_⟩
        all_goals
          (conv => whnf)
          intro nb m4 hb he
          replace h := h.new' (l := [mark j]) hb (he.trans rfl)
          have hBn : m4.holds ⟨nb, 0, none⟩ [mark j] := (h.blk 0 rfl).holds fun k v hk => by rw [Nat.zero_add]; exact hk
          clear hb he
          have h9 := (h.turn 3 (B := Sep [opart j o, Sep ((oparts os).eraseIdx j)]) rfl fun m1 _ hm => Sep.pair (hm.move j (opart_get ho))).move 3 rfl
          replace h : Sep [opart j o, Sep ((oparts os).eraseIdx j), pt nb [mark j], pt w (cs ++ [.slice O N2 cO]), sl O N2 cO 1 (os.map outV)] m4 := Sep.split (L := [_, _]) h9
          clear h9
        case' gb =>
          (conv => whnf)
          refine ⟨?gc, ?gd, trivial⟩
        case' gc =>
          (conv => whnf)
          refine ⟨_, _, _, h.cell 3 (i := 6) rfl (six hc), ?_⟩
        all_goals
          (conv => whnf)
          obtain ⟨ok, hR⟩ := h.app 0 (T := tbl) (e := 3) (news := [mark j]) (k := 1) (B := some ⟨nb, 0, none⟩) rfl rfl (.inr ⟨_, rfl, hBn⟩) rfl rfl (by show 2 * (_ + 1) * 8 ≤ 2 ^ 48; omega) rfl
          refine ⟨_, _, ok, fun A2 c5 m5 hr2 => ?_⟩
          replace h : Sep [sl A2 (o.n + 1) c5 1 (List.replicate o.n (mark j) ++ [mark j]), Sep ((oparts os).eraseIdx j), pt w (cs ++ [.slice O N2 cO]), sl O N2 cO 1 (os.map outV)] m5 := (hR _ _ _ hr2).drop 2
          clear ok hR hr2 hBn
          rw [← List.replicate_succ'] at h
          obtain ⟨q2, hq2, hroom, hS⟩ := h.st 3 (k := j) (outV ⟨A2, o.n + 1, c5⟩) rfl (by simp; omega)
          rw [hq] at hq2
          cases hq2
          have hroom' : (∃ u, m5.cell (q.add (j * 1)) = some u) ∧ m5.fz (q.add (j * 1)) = false := by rw [Nat.mul_one]; exact hroom
        case' gd =>
          (conv => whnf)
          refine ⟨_, _, _, h.cell 2 (i := 6) rfl (six hc), ?_⟩
        all_goals
          (conv => whnf)
          refine ⟨_, hq, by omega, c3, ?_⟩
          (conv => whnf)
          refine ⟨hroom', fun m6 he => ?_⟩
          replace he : m6 = m5.setCell (q.add (j * 1)) (outV ⟨A2, o.n + 1, c5⟩) := he
          rw [Nat.mul_one] at he
          rw [← he] at hS
          replace h : Sep [opart j ⟨A2, o.n + 1, c5⟩, Sep ((oparts os).eraseIdx j), pt w (cs ++ [.slice O N2 cO]), sl O N2 cO 1 ((os.map outV).set j (outV ⟨A2, o.n + 1, c5⟩))] m6 := hS
          rw [← List.map_set] at h
          replace h : Sep [Sep ((oparts os).set j (opart j ⟨A2, o.n + 1, c5⟩)), pt w (cs ++ [.slice O N2 cO]), sl O N2 cO 1 ((os.set j ⟨A2, o.n + 1, c5⟩).map outV)] m6 :=
            (Sep.group (L := [_, _]) h).turn 0 rfl fun m1 _ hm => by
              rw [← eraseIdx_insert (opart_get ho)]
              exact (Sep.unpair hm).back (len_erase (opart_get ho))
          rw [oparts_set] at h
          (conv => whnf)
          refine ⟨(j + 1, os.set j ⟨A2, o.n + 1, c5⟩, m6), le_eq ⟨by show some (AV.v (.int .i64 (IntKind.i64.wrap ((j : Int) + 1)))) = _; rw [step3], rfl, rfl, rfl, trivial⟩ rfl rfl rfl, ⟨by simp only; omega, by simp only; omega, by simpa using h1, fun i x hx => ?_, h.back (j := 2) (by simp)⟩, by simp only; omega⟩
          simp only at hx ⊢
          rw [List.getElem?_set] at hx
          split at hx
          · rename_i hij
            subst hij
            rw [if_pos (by omega)] at hx
            cases hx
            rw [if_pos (by omega)]
            simp only
            omega
          · rename_i hij
            have h3 := h2 i x hx
            refine ⟨h3.1, fun hi => Nat.le_trans (h3.2 hi) ?_⟩
            by_cases hij2 : i < j
            · rw [if_pos hij2, if_pos (by omega)]
              exact Nat.le_refl _
            · rw [if_neg hij2, if_neg (by omega)]
              exact Nat.le_refl _
      · have c3 : ¬ (j : Int) < (N2 : Nat) := by simpa using c3
        (conv => whnf)
        refine ⟨(k + 1, os, M), le_eq ⟨by show some (AV.v (.int .i64 (IntKind.i64.wrap ((k : Int) + 1)))) = _; rw [step2], rfl, rfl, trivial⟩ rfl rfl rfl, ⟨by simp only; omega, h1, fun i o ho => ⟨(h2 i o ho).1, fun hi => Nat.le_trans ((h2 i o ho).2 hi) (by simp only; split <;> omega)⟩, h⟩, by simp only; omega⟩
    · (conv => whnf)
      exact ⟨O, cO, os, h1, fun i o ho => (h2 i o ho).1, h⟩
end Go.Proofs.Ytlahdleaidhclaa
