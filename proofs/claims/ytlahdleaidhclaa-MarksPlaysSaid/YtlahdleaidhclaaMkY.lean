/- Marks: the lists that came out. -/
import Derived.Test.YtlahdleaidhclaaMkX
namespace Go.Proofs.Ytlahdleaidhclaa
open Go Go.Mv
set_option maxHeartbeats 1000000
set_option maxRecDepth 10000
set_option linter.unusedVariables false
set_option linter.unusedSimpArgs false
attribute [local irreducible] FCalls IntKind.wrap bits Mem.set Mem.setCell Mem.setCells YCalls
/-- A list that came out. -/
structure Out where
  A : Option Addr
  n : Nat
  c : Nat
def outV (o : Out) : Value := .slice o.A o.n o.c
def mark (i : Nat) : Value := .int .i64 (-9 - ((i : Nat) : Int))
def opart (i : Nat) (o : Out) : Asn := sl o.A o.n o.c 1 (List.replicate o.n (mark i))
def oparts (os : List Out) : List Asn := os.mapIdx opart
def anyp (o : Out) : Asn := fun m => ∃ vs, sl o.A o.n o.c 1 vs m
/-- A world at w: cs, and N lists that came out. -/
def wo (w : Nat) (cs : List Value) (N : Nat) : Asn := fun m => ∃ O cO os, os.length = N ∧ (∀ (i : Nat) o, os[i]? = some o → o.n ≤ 100009) ∧ Sep [pt w (cs ++ [.slice O N cO]), sl O N cO 1 (os.map outV), Sep (oparts os)] m
theorem wo_more {m m' : Mem} {w N : Nat} {cs : List Value} (h : wo w cs N m) (hm : m.le m') : wo w cs N m' := by
  obtain ⟨O, cO, os, h1, h2, h3⟩ := h
  exact ⟨O, cO, os, h1, h2, h3.more hm⟩
theorem wo_cell {m : Mem} {w N i : Nat} {cs : List Value} {v : Value} (h : wo w cs N m) (hi : cs[i]? = some v) : m.cell ⟨w, i, none⟩ = some v := by
  obtain ⟨O, cO, os, h1, h2, h3⟩ := h
  refine h3.cell 0 (i := i) rfl ?_
  rw [List.getElem?_append_left (List.getElem?_eq_some_iff.1 hi).1]
  exact hi
theorem six {cs : List Value} (hc : cs.length = 6) {v : Value} : (cs ++ [v])[6]? = some v := by
  rw [List.getElem?_append_right (by omega), hc]
  rfl
theorem six_set {cs : List Value} (hc : cs.length = 6) {v u : Value} : (cs ++ [v]).set 6 u = cs ++ [u] := by
  rw [List.set_append_right _ _ (by omega), hc]
  rfl
theorem opart_get {os : List Out} {i : Nat} {o : Out} (h : os[i]? = some o) : (oparts os)[i]? = some (opart i o) := by
  unfold oparts
  rw [List.getElem?_mapIdx, h]
  rfl
theorem oparts_snoc {os : List Out} {o : Out} : oparts (os ++ [o]) = oparts os ++ [opart os.length o] := by
  unfold oparts
  rw [List.mapIdx_append]
  simp
theorem oparts_set {os : List Out} {i : Nat} {o : Out} : (oparts os).set i (opart i o) = oparts (os.set i o) := by
  unfold oparts
  apply List.ext_getElem?
  intro k
  rw [List.getElem?_set, List.getElem?_mapIdx, List.getElem?_mapIdx, List.getElem?_set, List.length_mapIdx]
  split
  · rename_i h
    subst h
    split <;> rfl
  · rfl
theorem kept_c {m : Mem} {w N : Nat} {cs : List Value} (h : wo w cs N m) (hc : cs.length = 6) (hN : N ≤ 1000) : FCalls Try.prog 25 [.pointer (some ⟨w, 0, none⟩)] m fun v m' => v = .bool true ∧ m' = m := by
  obtain ⟨O, cO, os, h1, h2, h⟩ := h
  have hw := h.cell 0 (i := 6) rfl (six hc)
  refine fcalls_of_vc (T := tbl) (B := bodies) (pr := [99999]) (DR := dr25) (args := [.v (.pointer (some ⟨w, 0, none⟩))]) tbl_ok bodies_ok mixed Try.func25 rfl (by decide +kernel) (by simp [Try.f25]) rfl ?_
  (conv => whnf)
  refine loop_keep [0] Nat (fun s => [(3, .v (.int .i64 ((s : Nat) : Int)))]) (fun _ => []) (fun _ => m) (fun s => s ≤ N) (fun s => N - s) 0 ⟨rfl, trivial⟩ rfl rfl (Nat.zero_le _) ?_
  (conv => whnf)
  refine ⟨rfl, ?_⟩
  rintro i hi
  (conv => whnf)
  refine ⟨_, _, _, hw, ?_⟩
  (conv => whnf)
  refine brk_intro (fun c1 => ?_) (fun c1 => ?_)
  · have c1 : (i : Int) < (N : Nat) := by simpa using c1
    have step1 : IntKind.i64.wrap ((i : Int) + 1) = ((i + 1 : Nat) : Int) := wrap_id (by omega) (by omega)
    have step3 : IntKind.i64.wrap (-9 - (i : Int)) = -9 - (i : Int) := wrap_id (by omega) (by omega)
    obtain ⟨o, ho⟩ : ∃ o, os[i]? = some o := ⟨_, List.getElem?_eq_getElem (by omega)⟩
    have hon := h2 i o ho
    obtain ⟨q, hq, hcq⟩ := (h.rd 1 rfl).at (k := i) (v := outV o) (by rw [List.getElem?_map, ho]; rfl)
    have hcq : m.cell (q.add (i * 1)) = some (.slice o.A o.n o.c) := by rw [Nat.mul_one]; exact hcq
    obtain ⟨m1, hm1, hS⟩ := h.get 2 rfl
    have hR : Rd m o.A (List.replicate o.n (mark i)) := (hS.rd i (opart_get ho)).more hm1
    (conv => whnf)
    refine loop_keep [0, 3] Nat (fun s => [(4, .v (.int .i64 ((s : Nat) : Int)))]) (fun _ => []) (fun _ => m) (fun s => s ≤ o.n) (fun s => o.n - s) 0 ⟨rfl, trivial⟩ rfl rfl (Nat.zero_le _) ?_
    (conv => whnf)
    refine ⟨rfl, ?_⟩
    rintro k hk
    (conv => whnf)
    refine ⟨_, _, _, hw, ?_⟩
    (conv => whnf)
    refine ⟨_, hq, by omega, c1, ?_⟩
    (conv => whnf)
    refine ⟨_, _, _, hcq, ?_⟩
    (conv => whnf)
    refine brk_intro (fun c2 => ?_) (fun c2 => ?_)
    · have c2 : (k : Int) < (o.n : Nat) := by simpa using c2
      have step2 : IntKind.i64.wrap ((k : Int) + 1) = ((k + 1 : Nat) : Int) := wrap_id (by omega) (by omega)
      obtain ⟨q2, hq2, hc2⟩ := hR.at (k := k) (v := mark i) (by rw [List.getElem?_replicate, if_pos (by omega)])
      have hc2 : m.cell (q2.add (k * 1)) = some (.int .i64 (-9 - ((i : Nat) : Int))) := by rw [Nat.mul_one]; exact hc2
      (conv => whnf)
      refine ⟨_, _, _, hw, ?_⟩
      (conv => whnf)
      refine ⟨_, hq, by omega, c1, ?_⟩
      (conv => whnf)
      refine ⟨_, _, _, hcq, ?_⟩
      (conv => whnf)
      refine ⟨_, hq2, by omega, c2, ?_⟩
      (conv => whnf)
      refine ⟨_, hc2, ?_⟩
      (conv => whnf)
      rw [step3]
      refine brk_false (by simp) ?_
      (conv => whnf)
      exact ⟨k + 1, le_eq ⟨by show some (AV.v (.int .i64 (IntKind.i64.wrap ((k : Int) + 1)))) = _; rw [step2], rfl, rfl, trivial⟩ rfl rfl rfl, by omega, by omega⟩
    · have c2 : ¬ (k : Int) < (o.n : Nat) := by simpa using c2
      (conv => whnf)
      exact ⟨i + 1, le_eq ⟨by show some (AV.v (.int .i64 (IntKind.i64.wrap ((i : Int) + 1)))) = _; rw [step1], rfl, trivial⟩ rfl rfl rfl, by omega, by omega⟩
  · (conv => whnf)
    exact ⟨rfl, rfl⟩
end Go.Proofs.Ytlahdleaidhclaa
