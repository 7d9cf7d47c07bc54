/- Mv: from a function's own statement to the given statement: the whole heap as memory. -/
import Derived.Test.YtoifiplefjclbaaMvUse
import Derived.Below
namespace Go.Mv
open Go Go.RowKit
def whole (w : World) : Mem := fun b => w.heap[b]?
theorem whole_sub (w : World) : (whole w).sub w := fun _ _ h => h
theorem whole_cell (w : World) (a : Addr) : (whole w).cell a = w.cell? a := by
  unfold Mem.cell World.cell? whole
  cases w.heap[a.block]? with
  | none => rfl
  | some o => cases o <;> rfl
/-- What was there is as it was. -/
theorem calls_below {P : Program} {f : Nat} {args : List Value} {w : World} {v0 : Value} (h : FCalls P f args (whole w) fun v m' => v = v0 ∧ ∀ b o, whole w b = some o → m' b = some o) :
    Calls P f args.toArray w fun e w' => e = .returned v0 ∧ Below w.heap.size w w' := by
  unfold FCalls at h
  refine (h w (whole_sub w)).mono fun e w' ⟨v, m', he, ⟨hv, hk⟩, hF⟩ => ⟨by rw [he, hv], hF.os, hF.tape, hF.output, hF.size, fun k hlt => ?_⟩
  have h1 : whole w k = some w.heap[k] := Array.getElem?_eq_getElem hlt
  rw [hF.sub k _ (hk k _ h1)]
  exact h1.symm
/-- A slice of whole numbers that came in. -/
def IsRow (k : IntKind) (w : World) (a : Option Addr) (len cap : Nat) (zs : List Int) : Prop :=
  (a = none ∧ len = 0 ∧ cap = 0 ∧ zs = []) ∨
  ∃ x, a = some x ∧ len ≤ cap ∧ cap ≤ maxLen ∧ zs.length = cap ∧ (∀ i, i < zs.length → w.cell? (x.add i) = some (.int k (zs.getD i 0))) ∧ ∀ n ∈ zs, (Lit.int k n).wf = true
theorem IsRow.length {k : IntKind} {w : World} {a : Option Addr} {len cap : Nat} {zs : List Int} (h : IsRow k w a len cap zs) : (zs.take len).length = len := by
  rcases h with ⟨rfl, rfl, rfl, rfl⟩ | ⟨x, rfl, hl, hm, hz, _, _⟩
  · rfl
  · simp
    omega
theorem IsRow.wf {k : IntKind} {w : World} {a : Option Addr} {len cap : Nat} {zs : List Int} (h : IsRow k w a len cap zs) : ∀ n ∈ zs.take len, (Lit.int k n).wf = true := by
  rcases h with ⟨rfl, rfl, rfl, rfl⟩ | ⟨x, rfl, hl, hm, hz, _, hwf⟩
  · simp
  · exact fun n hn => hwf n (List.mem_of_mem_take hn)
theorem IsRow.cells {k : IntKind} {w : World} {a : Option Addr} {len cap : Nat} {zs : List Int} (h : IsRow k w a len cap zs) : zs.take len = [] ∨ ∃ b i, a = some ⟨b, i, none⟩ ∧ ∀ j x, (zs.take len)[j]? = some x → (whole w).cell ⟨b, i + j, none⟩ = some (.int k x) := by
  rcases h with ⟨rfl, rfl, rfl, rfl⟩ | ⟨x, rfl, hl, hm, hz, hc, _⟩
  · exact .inl rfl
  · by_cases h0 : len = 0
    · exact .inl (by simp [h0])
    · obtain ⟨b, off, spot⟩ := x
      have hspot : spot = none := by
        have := hc 0 (by omega)
        simpa [Addr.add] using World.cell?_spot this
      subst hspot
      refine .inr ⟨b, off, rfl, fun j x hj => ?_⟩
      rw [List.getElem?_take] at hj
      split at hj
      · have hjl := (List.getElem?_eq_some_iff.1 hj).1
        have := hc j hjl
        rw [add_mk] at this
        rw [whole_cell, this]
        simp [List.getD, hj]
      · cases hj
end Go.Mv
