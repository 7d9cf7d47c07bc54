/- Mv: one operation, whole. -/
import Derived.Test.YtoifiplefjclbaaMvOps
import Derived.Laws.Build
namespace Go.Mv
open Go
section
variable {P : Program} {r : Option Nat} {T : Tbl} {pr : List Nat} {ψ : Nat → Nat} {N : Nat} {D : HD} {m0 : Mem} {w0 : World} {Q : Exit → Act → World → Prop} {S S' : St} {a : Act} {w w' : World} {K : St → Prop} {v : Value}
  {dst : Option Tmp} {op : Op} {ty : TypeId} {pos : String} {after : Array Edge} {guard : Option (Nat × Bool)}

/-- The operation yields v in the world that it got. -/
theorem same (hR : Rel ψ N D m0 w0 S a w) (hd : ∀ i, dst = some i → i < N) (hnd : ∀ c, op ≠ .defer c) {v : Value} {x : AV} (hrun : (execOp a.eval ⟨dst, op, ty, pos, after, guard⟩).run P w = .ok (.value v) w) (hx : x.is ψ S.ls.length v)
    (hK : K (S.put dst x)) : Stp P r N D m0 w0 Q ⟨dst, op, ty, pos, after, guard⟩ a w K :=
  Stp.val hnd hrun hK ⟨ψ, hR.put hx hd⟩
theorem run_val {s : Sem Value} {v : Value} {w w' : World} (h : s.run P w = .ok v w') : ((do pure (.value (← s))) : Sem Next).run P w = .ok (.value v) w' := by
  simp [h]

theorem newK_sound (hR : Rel ψ N D m0 w0 S a w) (hd : ∀ i, dst = some i → i < N) (hnd : ∀ c, op ≠ .defer c) {c : LC} {e : Nat} {vs : Array Value} (hc : vs.toList = c.list)
    (hrun : (execOp a.eval ⟨dst, op, ty, pos, after, guard⟩).run P w = .ok (.value (.pointer (some ⟨w.heap.size, 0, none⟩))) (w.alloc (.cells vs e (0, 0)))) (hk : newK pr dst c e S K) :
    Stp P r N D m0 w0 Q ⟨dst, op, ty, pos, after, guard⟩ a w K := by
  have hvs : vs = c.list.toArray := by rw [← hc]
  subst hvs
  rw [newK_eq] at hk
  unfold newKS at hk
  cases dst with
  | none => exact hk.elim
  | some d =>
    simp only at hk
    cases hp : pr.contains d with
    | true =>
      rw [hp] at hk
      simp only [cond_true] at hk
      obtain ⟨ψ', h1, h2⟩ := hR.newbox c e
      refine Stp.val hnd hrun hk ⟨ψ', Rel.put (x := .loc S.ls.length 0) h2 ⟨by simp, by rw [h1]⟩ hd⟩
    | false =>
      rw [hp] at hk
      simp only [cond_false] at hk
      exact Stp.val hnd hrun (hk _ hR.fresh) ⟨ψ, (hR.alloc _).put rfl hd⟩
theorem valK_is {x : AV} {k : Value → Prop} {L : Nat} {v : Value} (h : valK x k) (hx : x.is ψ L v) : k v := valK_spec h hx
theorem fold_writeAt : ∀ (cs : List Value) (l : Array Value) (off j : Nat), (cs.zipIdx j).foldl (fun (acc : Array Value) (c : Value × Nat) => acc.setIfInBounds (off + c.2) c.1) l = (writeAt l.toList (off + j) cs).toArray
  | [], l, off, j => by simp [writeAt]
  | c :: cs, l, off, j => by
    simp only [List.zipIdx_cons, List.foldl_cons, writeAt]
    rw [fold_writeAt cs _ off (j + 1)]
    simp [Nat.add_assoc]
theorem fillK_sound (hR : Rel ψ N D m0 w0 S a w) {place place' : Nat → Option (Nat × Nat)} (hp : ∀ i, place i = place' i) : ∀ (parts : List (Nat × Operand)) (l : List Value) (k : List Value → Prop), fillK S place parts l k →
    ∃ cs, Instr.fill place' l.toArray (parts.map fun x => (x.1, a.eval x.2)) = some cs ∧ k cs.toList
  | [], l, k, hk => ⟨l.toArray, rfl, hk⟩
  | (i, o) :: rest, l, k, hk => by
    simp only [fillK] at hk
    cases hpl : place i with
    | none => rw [hpl] at hk; exact hk.elim
    | some x =>
      obtain ⟨off, size⟩ := x
      rw [hpl] at hk
      simp only at hk
      obtain ⟨x, hx, h1⟩ := hR.ev hk
      have h2 := valK_spec h1 hx
      obtain ⟨h3, h4⟩ := req_spec h2
      obtain ⟨h5, h6⟩ := req_spec h4
      have h3 := Nat.eq_of_beq_eq_true h3
      have h5 := Nat.le_of_ble_eq_true h5
      obtain ⟨cs, h7, h8⟩ := fillK_sound hR hp rest _ k h6
      refine ⟨cs, ?_, h8⟩
      simp only [List.map_cons, Instr.fill, ← hp i, hpl]
      have h9 : (a.eval o).cells.size = size := by simpa using h3
      rw [if_neg]
      · rw [← h7]
        congr 1
        have h10 := fold_writeAt (a.eval o).cells.toList l.toArray off 0
        simp only [Nat.add_zero] at h10
        rw [← h10]
        rw [← Array.foldl_toList]
        rw [Array.toList_zipIdx]
      · simp [h9]
        omega

theorem zeros_eq (e : Nat) (z : Value) (hz : z.cells.toList = (T.at e).zero.list) (n : Nat) (hs : (T.at e).zero.list.length = (T.at e).size) :
    ((Array.range (n * (T.at e).size)).map (z.cells[· % z.cells.size]!)).toList = (zerosOf T e n).list := by
  have hsz : z.cells.size = (T.at e).size := by rw [← hs, ← hz]; simp
  have gen : ((Array.range (n * (T.at e).size)).map (z.cells[· % z.cells.size]!)).toList = (List.range n).flatMap fun _ => (T.at e).zero.list := by
    rw [← hz]
    have h1 : ∀ i, z.cells[i % z.cells.size]! = z.cells.toList[i % z.cells.toList.length]! := by intro i; rw [Array.getElem!_toList, Array.length_toList]
    simp only [Array.toList_map, Array.toList_range, h1, ← hsz]
    have h2 : z.cells.size = z.cells.toList.length := by simp
    rw [h2]
    generalize z.cells.toList = l
    induction n with
    | zero => simp
    | succ n ih =>
      rw [Nat.succ_mul, List.range_add, List.map_append, ih, List.range_succ, List.flatMap_append]
      congr 1
      apply List.ext_getElem?
      intro i
      simp only [List.map_map, List.getElem?_map, List.flatMap_cons, List.flatMap_nil, List.append_nil]
      by_cases hi : i < l.length
      · rw [List.getElem?_range hi]
        simp [hi, Nat.mod_eq_of_lt hi]
      · rw [List.getElem?_eq_none (by simp; omega), List.getElem?_eq_none (by omega)]
        rfl
  rw [gen]
  clear gen
  unfold zerosOf
  split
  · rename_i kd h
    rw [h]
    simp only [LC.list, intCells, List.map_replicate]
    induction n with
    | zero => rfl
    | succ n ih => rw [List.range_succ, List.flatMap_append, ih, List.replicate_succ']; simp
  · rename_i h
    rw [h]
    simp only [LC.list, boolCells, List.map_replicate]
    induction n with
    | zero => rfl
    | succ n ih => rw [List.range_succ, List.flatMap_append, ih, List.replicate_succ']; simp
  · rfl
theorem fillIntsK_sound (hR : Rel ψ N D m0 w0 S a w) {kd : IntKind} {place : Nat → Option (Nat × Nat)} (hp : ∀ i, place i = some (i * 1, 1)) : ∀ (parts : List (Nat × Operand)) (l : List Int) (k : List Int → Prop), fillIntsK S kd parts l k →
    ∃ xs, Instr.fill place (intCells kd l).toArray (parts.map fun x => (x.1, a.eval x.2)) = some (intCells kd xs).toArray ∧ k xs
  | [], l, k, hk => ⟨l, rfl, hk⟩
  | (i, o) :: rest, l, k, hk => by
    simp only [fillIntsK_cons] at hk
    obtain ⟨x, hx, h1⟩ := hR.ev hk
    split at h1
    · rename_i kd' v
      obtain ⟨h2, h3, h4⟩ := req_spec h1
      have h2 := IntKind.eqb_spec h2
      subst h2
      simp only [AV.is] at hx
      obtain ⟨xs, h5, h6⟩ := fillIntsK_sound hR hp rest _ k h4
      refine ⟨xs, ?_, h6⟩
      have h9 : (a.eval o).cells = #[.int kd v] := by rw [hx]; rfl
      simp only [List.map_cons, Instr.fill, hp, Nat.mul_one]
      rw [if_neg]
      · rw [← h5]
        congr 1
        simp [intCells, h9]
      · simp [intCells, h9]
        omega
    · exact h1.elim
theorem norm_sound {t : Nat} {v : Value} {k : AV → Prop} (h : normK T t v k) (ψ : Nat → Nat) (L : Nat) : ∃ x : AV, x.is ψ L v ∧ k x := by
  unfold normK at h
  split at h
  · split at h
    · obtain ⟨xs, _, h1, h2⟩ := h; exact ⟨.ints _ xs, h1, h2⟩
    · obtain ⟨xs, _, h1, h2⟩ := h; exact ⟨.bools xs, h1, h2⟩
    · exact ⟨.v v, rfl, h⟩
  · exact ⟨.v v, rfl, h⟩
theorem optK_sound (hR : Rel ψ N D m0 w0 S a w) {o : Option Operand} {d : Int} {k : Int → Prop} (h : optK S o d k) : ∃ n : Int, k n ∧ ((o = none ∧ n = d) ∨ ∃ x kd, o = some x ∧ a.eval x = .int kd n) := by
  unfold optK at h
  split at h
  · rename_i o
    obtain ⟨x, hx, h1⟩ := hR.ev h
    split at h1
    · simp only [AV.is] at hx
      exact ⟨_, h1, .inr ⟨o, _, rfl, hx⟩⟩
    · exact h1.elim
  · exact ⟨d, h, .inl ⟨rfl, rfl⟩⟩
end
end Go.Mv
