/- Table: the keys that came out. -/
import Derived.Test.YtoifiplefjclbaaTbX
namespace Go.Proofs.Ytoifiplefjclbaa
open Go Go.Mv
set_option maxHeartbeats 1000000
set_option maxRecDepth 10000
set_option linter.unusedVariables false
set_option linter.unusedSimpArgs false
attribute [local irreducible] FCalls IntKind.wrap bits Mem.set Mem.setCell Mem.setCells YCalls
/-- A list that came out. -/
structure Out where
  A : Option Addr
  n : Nat
  c : Nat
def outV (o : Out) : Value := .slice o.A o.n o.c
def mark (i : Nat) : Value := .int .i64 (-9 - ((i : Nat) : Int))
def opart (i : Nat) (o : Out) : Asn := sl o.A o.n o.c 1 (List.replicate o.n (mark i))
def oparts (os : List Out) : List Asn := os.mapIdx opart
def anyp (o : Out) : Asn := fun m => ∃ vs, sl o.A o.n o.c 1 vs m
/-- A world at w: cs, and N lists that came out. -/
def wo (w : Nat) (cs : List Value) (N : Nat) : Asn := fun m => ∃ O cO os, os.length = N ∧ (∀ (i : Nat) o, os[i]? = some o → o.n ≤ 1000000) ∧ Sep [pt w (cs ++ [.slice O N cO]), sl O N cO 1 (os.map outV), Sep (oparts os)] m
theorem wo_more {m m' : Mem} {w N : Nat} {cs : List Value} (h : wo w cs N m) (hm : m.le m') : wo w cs N m' := by
  obtain ⟨O, cO, os, h1, h2, h3⟩ := h
  exact ⟨O, cO, os, h1, h2, h3.more hm⟩
theorem wo_cell {m : Mem} {w N i : Nat} {cs : List Value} {v : Value} (h : wo w cs N m) (hi : cs[i]? = some v) : m.cell ⟨w, i, none⟩ = some v := by
  obtain ⟨O, cO, os, h1, h2, h3⟩ := h
  refine h3.cell 0 (i := i) rfl ?_
  rw [List.getElem?_append_left (List.getElem?_eq_some_iff.1 hi).1]
  exact hi
theorem six {cs : List Value} (hc : cs.length = 6) {v : Value} : (cs ++ [v])[6]? = some v := by
  rw [List.getElem?_append_right (by omega), hc]
  rfl
theorem six_set {cs : List Value} (hc : cs.length = 6) {v u : Value} : (cs ++ [v]).set 6 u = cs ++ [u] := by
  rw [List.set_append_right _ _ (by omega), hc]
  rfl
theorem opart_get {os : List Out} {i : Nat} {o : Out} (h : os[i]? = some o) : (oparts os)[i]? = some (opart i o) := by
  unfold oparts
  rw [List.getElem?_mapIdx, h]
  rfl
theorem oparts_snoc {os : List Out} {o : Out} : oparts (os ++ [o]) = oparts os ++ [opart os.length o] := by
  unfold oparts
  rw [List.mapIdx_append]
  simp
theorem oparts_set {os : List Out} {i : Nat} {o : Out} : (oparts os).set i (opart i o) = oparts (os.set i o) := by
  unfold oparts
  apply List.ext_getElem?
  intro k
  rw [List.getElem?_set, List.getElem?_mapIdx, List.getElem?_mapIdx, List.getElem?_set, List.length_mapIdx]
  split
  · rename_i h
    subst h
    split <;> rfl
  · rfl
theorem kept_c {m : Mem} {w N : Nat} {cs : List Value} (h : wo w cs N m) (hc : cs.length = 6) (hN : N < 2 ^ 40) : FCalls Try.prog 24 [.pointer (some ⟨w, 0, none⟩)] m fun v m' => v = .bool true ∧ m' = m := by
  obtain ⟨O, cO, os, h1, h2, h⟩ := h
  have hw := h.cell 0 (i := 6) rfl (six hc)
  refine fcalls_of_vc (T := tbl) (B := bodies) (pr := [99999]) (DR := dr24) (args := [.v (.pointer (some ⟨w, 0, none⟩))]) tbl_ok bodies_ok mixed Try.func24 rfl (by decide +kernel) (by simp [Try.f24]) rfl ?_
  (conv => whnf)
  refine loop_keep [0] Nat (fun s => [(3, .v (.int .i64 ((s : Nat) : Int)))]) (fun _ => []) (fun _ => m) (fun s => s ≤ N) (fun s => N - s) 0 ⟨rfl, trivial⟩ rfl rfl (Nat.zero_le _) ?_
  (conv => whnf)
  refine ⟨rfl, ?_⟩
  rintro i hi
  (conv => whnf)
  refine ⟨_, _, _, hw, ?_⟩
  (conv => whnf)
  refine brk_intro (fun c1 => ?_) (fun c1 => ?_)
  · have c1 : (i : Int) < (N : Nat) := by simpa using c1
    have step1 : IntKind.i64.wrap ((i : Int) + 1) = ((i + 1 : Nat) : Int) := wrap_id (by omega) (by omega)
    have step3 : IntKind.i64.wrap (-9 - (i : Int)) = -9 - (i : Int) := wrap_id (by omega) (by omega)
    obtain ⟨o, ho⟩ : ∃ o, os[i]? = some o := ⟨_, List.getElem?_eq_getElem (by omega)⟩
    have hon := h2 i o ho
    obtain ⟨q, hq, hcq⟩ := (h.rd 1 rfl).at (k := i) (v := outV o) (by rw [List.getElem?_map, ho]; rfl)
    have hcq : m.cell (q.add (i * 1)) = some (.slice o.A o.n o.c) := by rw [Nat.mul_one]; exact hcq
    obtain ⟨m1, hm1, hS⟩ := h.get 2 rfl
    have hR : Rd m o.A (List.replicate o.n (mark i)) := (hS.rd i (opart_get ho)).more hm1
    (conv => whnf)
    refine loop_keep [0, 3] Nat (fun s => [(4, .v (.int .i64 ((s : Nat) : Int)))]) (fun _ => []) (fun _ => m) (fun s => s ≤ o.n) (fun s => o.n - s) 0 ⟨rfl, trivial⟩ rfl rfl (Nat.zero_le _) ?_
    (conv => whnf)
    refine ⟨rfl, ?_⟩
    rintro k hk
    (conv => whnf)
    refine ⟨_, _, _, hw, ?_⟩
    (conv => whnf)
    refine ⟨_, hq, by omega, c1, ?_⟩
    (conv => whnf)
    refine ⟨_, _, _, hcq, ?_⟩
    (conv => whnf)
    refine brk_intro (fun c2 => ?_) (fun c2 => ?_)
    · have c2 : (k : Int) < (o.n : Nat) := by simpa using c2
      have step2 : IntKind.i64.wrap ((k : Int) + 1) = ((k + 1 : Nat) : Int) := wrap_id (by omega) (by omega)
      obtain ⟨q2, hq2, hc2⟩ := hR.at (k := k) (v := mark i) (by rw [List.getElem?_replicate, if_pos (by omega)])
      have hc2 : m.cell (q2.add (k * 1)) = some (.int .i64 (-9 - ((i : Nat) : Int))) := by rw [Nat.mul_one]; exact hc2
      (conv => whnf)
      refine ⟨_, _, _, hw, ?_⟩
      (conv => whnf)
      refine ⟨_, hq, by omega, c1, ?_⟩
      (conv => whnf)
      refine ⟨_, _, _, hcq, ?_⟩
      (conv => whnf)
      refine ⟨_, hq2, by omega, c2, ?_⟩
      (conv => whnf)
      refine ⟨_, hc2, ?_⟩
      (conv => whnf)
      rw [step3]
      refine brk_false (by simp) ?_
      (conv => whnf)
      exact ⟨k + 1, le_eq ⟨by show some (AV.v (.int .i64 (IntKind.i64.wrap ((k : Int) + 1)))) = _; rw [step2], rfl, rfl, trivial⟩ rfl rfl rfl, by omega, by omega⟩
    · have c2 : ¬ (k : Int) < (o.n : Nat) := by simpa using c2
      (conv => whnf)
      exact ⟨i + 1, le_eq ⟨by show some (AV.v (.int .i64 (IntKind.i64.wrap ((i : Int) + 1)))) = _; rw [step1], rfl, trivial⟩ rfl rfl rfl, by omega, by omega⟩
  · (conv => whnf)
    exact ⟨rfl, rfl⟩
theorem Sep.pair {A : Asn} {R : List Asn} {m : Mem} (h : Sep (A :: R) m) : Sep [A, Sep R] m := by
  obtain ⟨m1, m2, k1, k2, k3, k4, k5⟩ := h
  exact ⟨m1, m2, k1, k2, k3, k4, m2, Mem.empty, fun _ => .inr rfl, Mem.le_refl _, fun _ _ h => (by cases h), k5, trivial⟩
theorem Sep.unpair {A : Asn} {R : List Asn} {m : Mem} (h : Sep [A, Sep R] m) : Sep (A :: R) m := by
  obtain ⟨m1, m2, k1, k2, k3, k4, m3, m4, g1, g2, g3, g4, _⟩ := h
  exact ⟨m1, m2, k1, k2, k3, k4, g4.more g2⟩
theorem rep_set {k : Nat} {v : Value} {vs : List Value} (hk : k < vs.length) : (List.replicate k v ++ vs.drop k).set k v = List.replicate (k + 1) v ++ vs.drop (k + 1) := by
  rw [List.set_append_right _ _ (by simp), List.length_replicate, Nat.sub_self, List.drop_eq_getElem_cons hk, List.set_cons_zero, List.replicate_succ', List.append_assoc]
  rfl
theorem owns_c {m : Mem} {w N c n : Nat} {cs : List Value} {A : Option Addr} {vs : List Value} {R : List Asn} (h : Sep (sl A n c 1 vs :: wo w cs N :: R) m) (hc : cs.length = 6) (hN : N < 2 ^ 39) (hn : n ≤ 1000) :
    FCalls Try.prog 42 [.pointer (some ⟨w, 0, none⟩), .slice A n c] m fun v m' => Sep (wo w cs (N + 1) :: R) m' := by
  obtain ⟨O, cO, os, h1, h2, h⟩ : ∃ O cO os, os.length = N ∧ (∀ (i : Nat) o, os[i]? = some o → o.n ≤ 1000000) ∧ Sep (pt w (cs ++ [.slice O N cO]) :: sl O N cO 1 (os.map outV) :: Sep (oparts os) :: sl A n c 1 vs :: R) m := by
    obtain ⟨m1, m2, k1, k2, k3, ⟨O, cO, os, g1, g2, g3⟩, k5⟩ := h.move 1 rfl
    exact ⟨O, cO, os, g1, g2, Sep.split (L := [_, _, _]) ⟨m1, m2, k1, k2, k3, g3, k5⟩⟩
  have hvl : vs.length = n := by have := (h.asn 3 rfl).1; omega
  have step4 : IntKind.i64.wrap (-9 - ((N : Nat) : Int)) = -9 - ((N : Nat) : Int) := wrap_id (by omega) (by omega)
  refine fcalls_of_vc (T := tbl) (B := bodies) (pr := [99999]) (DR := dr42) (args := [.v (.pointer (some ⟨w, 0, none⟩)), .v (.slice A n c)]) tbl_ok bodies_ok mixed Try.func42 rfl (by decide +kernel) (by simp [Try.f42]) rfl ?_
  (conv => whnf)
  refine loop_keep [0, 1] (Nat × Mem) (fun s => [(4, .v (.int .i64 ((s.1 : Nat) : Int)))]) (fun _ => []) (fun s => s.2)
    (fun s => s.1 ≤ n ∧ Sep (pt w (cs ++ [.slice O N cO]) :: sl O N cO 1 (os.map outV) :: Sep (oparts os) :: sl A n c 1 (List.replicate s.1 (mark N) ++ vs.drop s.1) :: R) s.2) (fun s => n - s.1) (0, m) ⟨rfl, trivial⟩ rfl rfl ⟨Nat.zero_le _, by simp only [List.replicate_zero, List.nil_append, List.drop_zero]; exact h⟩ ?_
  clear h
  (conv => whnf)
  refine ⟨rfl, ?_⟩
  rintro ⟨k, M⟩ ⟨hk, h⟩
  simp only at hk h
  (conv => whnf)
  refine brk_intro (fun c2 => ?_) (fun c2 => ?_)
  · have c2 : (k : Int) < (n : Nat) := by simpa using c2
    have step2 : IntKind.i64.wrap ((k : Int) + 1) = ((k + 1 : Nat) : Int) := wrap_id (by omega) (by omega)
    obtain ⟨q2, hq2, hroom, hS⟩ := h.st 3 (k := k) (mark N) rfl (by simp; omega)
    have hroom' : (∃ u, M.cell (q2.add (k * 1)) = some u) ∧ M.fz (q2.add (k * 1)) = false := by rw [Nat.mul_one]; exact hroom
    (conv => whnf)
    refine ⟨_, _, _, h.cell 0 (i := 6) rfl (six hc), ?_⟩
    (conv => whnf)
    refine ⟨_, hq2, by omega, c2, ?_⟩
    (conv => whnf)
    refine ⟨hroom', fun m6 he => ?_⟩
    rw [step4] at he
    replace he : m6 = M.setCell (q2.add (k * 1)) (mark N) := he
    rw [Nat.mul_one] at he
    rw [← he] at hS
    replace h : Sep (pt w (cs ++ [.slice O N cO]) :: sl O N cO 1 (os.map outV) :: Sep (oparts os) :: sl A n c 1 ((List.replicate k (mark N) ++ vs.drop k).set k (mark N)) :: R) m6 := hS
    rw [rep_set (by omega)] at h
    (conv => whnf)
    rw [step2]
    exact ⟨(k + 1, m6), le_eq ⟨rfl, rfl, rfl, trivial⟩ rfl rfl rfl, ⟨by simp only; omega, h⟩, by simp only; omega⟩
  · have c2 : ¬ (k : Int) < (n : Nat) := by simpa using c2
    have : k = n := by omega
    subst this
    rw [List.drop_eq_nil_of_le (by omega), List.append_nil] at h
    (conv => whnf)
    refine loop_keep [0] (Nat × Option Addr × Nat × Mem) (fun s => [(5, .v (.int .i64 ((s.1 : Nat) : Int))), (1, .v (.slice s.2.1 (k + s.1) s.2.2.1))]) (fun _ => []) (fun s => s.2.2.2)
      (fun s => s.1 ≤ 5 ∧ Sep (pt w (cs ++ [.slice O N cO]) :: sl O N cO 1 (os.map outV) :: Sep (oparts os) :: sl s.2.1 (k + s.1) s.2.2.1 1 (List.replicate (k + s.1) (mark N)) :: R) s.2.2.2) (fun s => 5 - s.1) (0, A, c, M) ⟨rfl, rfl, trivial⟩ rfl rfl ⟨Nat.zero_le _, h⟩ ?_
    clear h
    (conv => whnf)
    refine ⟨rfl, ?_⟩
    rintro ⟨j, A, c, M⟩ ⟨hj, h⟩
    simp only at hj h
    (conv => whnf)
    refine brk_intro (fun c3 => ?_) (fun c3 => ?_)
    · have c3 : (j : Int) < 5 := by simpa using c3
      have step2 : IntKind.i64.wrap ((j : Int) + 1) = ((j + 1 : Nat) : Int) := wrap_id (by omega) (by omega)
      (conv => whnf)
      refine ⟨_, _, _, h.cell 0 (i := 6) rfl (six hc), ?_⟩
      (conv => whnf)
      rw [step4]
      intro nb m4 hb he
      replace h := h.new' (l := [mark N]) hb (he.trans rfl)
      have hBn : m4.holds ⟨nb, 0, none⟩ [mark N] := (h.blk 0 rfl).holds fun k v hk => by rw [Nat.zero_add]; exact hk
      clear hb he
      (conv => whnf)
      obtain ⟨ok, hR⟩ := h.app 4 (T := tbl) (e := 3) (news := [mark N]) (k := 1) (B := some ⟨nb, 0, none⟩) rfl rfl (.inr ⟨_, rfl, hBn⟩) rfl rfl (by show 2 * (k + j + 1) * 8 ≤ 2 ^ 48; omega) rfl
      refine ⟨_, _, ok, fun A2 c5 m5 hr2 => ?_⟩
      replace h : Sep (pt w (cs ++ [.slice O N cO]) :: sl O N cO 1 (os.map outV) :: Sep (oparts os) :: sl A2 (k + j + 1) c5 1 (List.replicate (k + j) (mark N) ++ [mark N]) :: R) m5 := (hR _ _ _ hr2).drop 0
      clear ok hR hr2 hBn
      rw [← List.replicate_succ'] at h
      (conv => whnf)
      rw [step2]
      exact ⟨(j + 1, A2, c5, m5), le_eq ⟨rfl, rfl, rfl, trivial⟩ rfl rfl rfl, ⟨by simp only; omega, h⟩, by simp only; omega⟩
    · have c3 : j = 5 := by have : ¬ (j : Int) < 5 := (by simpa using c3); omega
      subst c3
      obtain ⟨o, ho⟩ : ∃ o : Out, o = ⟨A, k + 5, c⟩ := ⟨_, rfl⟩
      (conv => whnf)
      refine ⟨_, _, _, h.cell 0 (i := 6) rfl (six hc), ?_⟩
      (conv => whnf)
      intro nb m4 hb he
      replace h := h.new' (l := [outV o]) hb (he.trans (by rw [ho]; rfl))
      have hBn : m4.holds ⟨nb, 0, none⟩ [outV o] := (h.blk 0 rfl).holds fun k v hk => by rw [Nat.zero_add]; exact hk
      clear hb he
      (conv => whnf)
      obtain ⟨ok, hR⟩ := h.app 2 (T := tbl) (e := 22) (news := [outV o]) (k := 1) (B := some ⟨nb, 0, none⟩) rfl rfl (.inr ⟨_, rfl, hBn⟩) rfl rfl (by show 2 * (N + 1) * 24 ≤ 2 ^ 48; omega) rfl
      refine ⟨_, _, ok, fun A2 c5 m5 hr2 => ?_⟩
      replace h := (hR _ _ _ hr2).drop 0
      clear ok hR hr2 hBn
      (conv => whnf)
      refine ⟨h.room 0 (i := 6) rfl (six hc), fun m6 he => ?_⟩
      replace h := h.put' 0 he rfl
      rw [six_set hc] at h
      replace h : Sep (pt w (cs ++ [.slice A2 (N + 1) c5]) :: sl A2 (N + 1) c5 1 (os.map outV ++ [outV o]) :: Sep (oparts os) :: opart N o :: R) m6 := by subst ho; exact h
      have h9 := Sep.group (L := [_, _]) ((h.move 3 rfl).move 3 rfl)
      replace h : Sep (Sep (oparts os ++ [opart N o]) :: pt w (cs ++ [.slice A2 (N + 1) c5]) :: sl A2 (N + 1) c5 1 (os.map outV ++ [outV o]) :: R) m6 :=
        h9.turn 0 (B := Sep (oparts os ++ [opart N o])) rfl fun m1 _ hm => Sep.split hm
      rw [← h1, ← oparts_snoc, h1, show os.map outV ++ [outV o] = (os ++ [o]).map outV by simp] at h
      (conv => whnf)
      refine (Sep.group (L := [_, _, _]) ((h.move 2 rfl).move 2 rfl)).turn 0 rfl fun m1 _ g => ⟨A2, c5, os ++ [o], by simp; omega, fun i x hx => ?_, g⟩
      rcases Nat.lt_or_ge i os.length with hi | hi
      · rw [List.getElem?_append_left hi] at hx
        exact h2 i x hx
      · rw [List.getElem?_append_right hi] at hx
        have : x = o := by simpa using List.mem_of_getElem? hx
        rw [this, ho]
        show k + 5 ≤ 1000000
        omega
end Go.Proofs.Ytoifiplefjclbaa
