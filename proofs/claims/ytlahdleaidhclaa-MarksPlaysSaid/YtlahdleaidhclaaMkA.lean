/- Marks: a set of numbers in memory; New, Has, At, Len, Room, Clear. -/
import Derived.Test.YtlahdleaidhclaaMvTab
import Derived.Test.YtlahdleaidhclaaMvIter
namespace Go.Proofs.Ytlahdleaidhclaa
open Go Go.Mv
set_option maxHeartbeats 1000000
set_option maxRecDepth 10000
set_option linter.unusedVariables false
set_option linter.unusedSimpArgs false
attribute [local irreducible] FCalls IntKind.wrap bits Mem.set Mem.setCell Mem.setCells YCalls
def c32 (l : List Nat) : List Value := l.map fun x => .int .i32 ((x : Nat) : Int)
theorem c32_len (l : List Nat) : (c32 l).length = l.length * 1 := by simp [c32]
theorem c32_get {l : List Nat} {k x : Nat} (h : l[k]? = some x) : (c32 l)[k]? = some (.int .i32 ((x : Nat) : Int)) := by simp [c32, h]
theorem wrap32 {x : Int} (h1 : -2147483648 ≤ x) (h2 : x ≤ 2147483647) : IntKind.i32.wrap x = x := by
  unfold IntKind.wrap
  have e1 : IntKind.bits .i32 = 32 := rfl
  have e2 : IntKind.signed .i32 = true := rfl
  simp only [e1, e2, Bool.true_and, decide_eq_true_eq]
  split <;> omega
/-- A set at p: its room, its numbers in their order; F: the blocks that are its own. -/
structure MkD (F : Nat → Prop) (m : Mem) (p room : Nat) (l : List Nat) (A B : Option Addr) (cA cB : Nat) (ws : List Nat) : Prop where
  fp : F p
  hd : Blk m p [.slice B room cB, .slice A l.length cA]
  wh : Sl m (fun k => F k ∧ k ≠ p) B room cB 1 (c32 ws)
  ls : Sl m (fun k => F k ∧ k ≠ p ∧ B ≠ some ⟨k, 0, none⟩) A l.length cA 1 (c32 l)
  lt : ∀ n, n ∈ l → n < room
  at' : ∀ (k n : Nat), l[k]? = some n → ws[n]? = some k
  wlt : ∀ k, k ∈ ws → k ≤ room
  small : room ≤ 100000
  own : ∀ k, F k → m k ≠ none
def Mk (F : Nat → Prop) (m : Mem) (p room : Nat) (l : List Nat) : Prop := ∃ A B cA cB ws, MkD F m p room l A B cA cB ws
section
variable {F : Nat → Prop} {m : Mem} {p room : Nat} {l : List Nat} {A B : Option Addr} {cA cB : Nat} {ws : List Nat}
theorem MkD.wlen (h : MkD F m p room l A B cA cB ws) : ws.length = room := by
  have := h.wh.1
  rw [c32_len] at this
  omega
theorem MkD.nodup (h : MkD F m p room l A B cA cB ws) : l.Nodup := by
  rw [List.Nodup, List.pairwise_iff_getElem]
  intro i j hi hj hij he
  have h1 := h.at' i l[i] (List.getElem?_eq_getElem hi)
  have h2 := h.at' j l[j] (List.getElem?_eq_getElem hj)
  rw [he, h2] at h1
  cases h1
  omega
theorem MkD.llen (h : MkD F m p room l A B cA cB ws) : l.length ≤ room := by
  have := h.nodup.length_le_of_subset (l₂ := List.range room) fun n hn => List.mem_range.2 (h.lt n hn)
  simpa using this
theorem len_c (h : Mk F m p room l) : FCalls Try.prog 12 [.pointer (some ⟨p, 0, none⟩)] m fun v m' => v = .int .i64 ((l.length : Nat) : Int) ∧ m' = m := by
  obtain ⟨A, B, cA, cB, ws, h⟩ := h
  refine fcalls_of_vc (T := tbl) (B := bodies) (pr := []) (DR := dr12) (args := [.v (.pointer (some ⟨p, 0, none⟩))]) tbl_ok bodies_ok mixed Try.func12 rfl (by decide +kernel) (by simp [Try.f12]) rfl ?_
  (conv => whnf)
  refine ⟨_, _, _, h.hd.cell (i := 1) rfl, ?_⟩
  (conv => whnf)
  exact ⟨rfl, rfl⟩
theorem room_c (h : Mk F m p room l) : FCalls Try.prog 11 [.pointer (some ⟨p, 0, none⟩)] m fun v m' => v = .int .i64 ((room : Nat) : Int) ∧ m' = m := by
  obtain ⟨A, B, cA, cB, ws, h⟩ := h
  refine fcalls_of_vc (T := tbl) (B := bodies) (pr := []) (DR := dr11) (args := [.v (.pointer (some ⟨p, 0, none⟩))]) tbl_ok bodies_ok mixed Try.func11 rfl (by decide +kernel) (by simp [Try.f11]) rfl ?_
  (conv => whnf)
  refine ⟨_, _, _, h.hd.cell (i := 0) rfl, ?_⟩
  (conv => whnf)
  exact ⟨rfl, rfl⟩
theorem ix21 (b k : Nat) : (⟨b, 0, none⟩ : Addr).add ((k : Int).toNat * (tbl.at 21).size) = ⟨b, k, none⟩ := by
  rw [add_mk, Nat.zero_add]
  show (⟨b, (k : Int).toNat * 1, none⟩ : Addr) = _
  rw [show (k : Int).toNat * 1 = k by omega]
theorem at_c (h : Mk F m p room l) {k : Int} : FCalls Try.prog 18 [.pointer (some ⟨p, 0, none⟩), .int .i64 k] m fun v m' => m' = m ∧
    v = (match (if 0 ≤ k then l[k.toNat]? else none) with | some x => .tuple #[.int .i64 ((x : Nat) : Int), .bool true] | none => .tuple #[.int .i64 0, .bool false]) := by
  obtain ⟨A, B, cA, cB, ws, h⟩ := h
  refine fcalls_of_vc (T := tbl) (B := bodies) (pr := []) (DR := dr18) (args := [.v (.pointer (some ⟨p, 0, none⟩)), .v (.int .i64 k)]) tbl_ok bodies_ok mixed Try.func18 rfl (by decide +kernel) (by simp [Try.f18]) rfl ?_
  by_cases c1 : k < 0
  · have e1 := decide_eq_true c1
    (conv => whnf)
    refine brk_false (by rw [e1]; rfl) ?_
    (conv => whnf)
    exact ⟨rfl, by rw [if_neg (by omega)]; rfl⟩
  · have e1 := decide_eq_false c1
    by_cases c2 : k ≥ (l.length : Nat)
    · have e2 := decide_eq_true c2
      (conv => whnf)
      refine brk_true (by rw [e1]; rfl) ?_
      (conv => whnf)
      refine ⟨_, _, _, h.hd.cell (i := 1) rfl, ?_⟩
      (conv => whnf)
      refine brk_true (by rw [e2]; rfl) ?_
      (conv => whnf)
      exact ⟨rfl, by rw [if_pos (by omega), List.getElem?_eq_none (by omega)]; rfl⟩
    · have e2 := decide_eq_false c2
      have hkl : k.toNat < l.length := by omega
      obtain ⟨x, hx⟩ : ∃ x, l[k.toNat]? = some x := ⟨_, List.getElem?_eq_getElem hkl⟩
      obtain ⟨b, hA, _, hc, _⟩ := h.ls.cell (c32_get hx)
      have hxr := h.lt x (List.mem_of_getElem? hx)
      have hsm := h.small
      have hk : k = ((k.toNat : Nat) : Int) := by omega
      generalize k.toNat = j at *
      subst hk
      (conv => whnf)
      refine ⟨_, _, _, h.hd.cell (i := 1) rfl, ?_⟩
      (conv => whnf)
      refine brk_false (by rw [e2]; rfl) ?_
      (conv => whnf)
      refine ⟨_, _, _, h.hd.cell (i := 1) rfl, ?_⟩
      (conv => whnf)
      refine ⟨_, hA, by omega, by omega, ?_⟩
      (conv => whnf)
      refine ⟨_, by rw [ix21]; exact hc, ?_⟩
      (conv => whnf)
      refine ⟨rfl, ?_⟩
      rw [if_pos (by omega), hx]
      show single [Value.int .i64 (IntKind.i64.wrap ((x : Nat) : Int)), .bool true] = _
      rw [wrap_id (by omega) (by omega)]
      rfl
end
end Go.Proofs.Ytlahdleaidhclaa
