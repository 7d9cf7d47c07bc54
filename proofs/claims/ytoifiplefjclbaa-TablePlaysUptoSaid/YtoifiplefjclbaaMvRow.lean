/- Mv: from a function's own statement to the given statement: the whole heap as memory. -/
import Derived.Test.YtoifiplefjclbaaMvUse
import Derived.Below
import Derived.OpenShut
import Derived.ChangeShapes
import Derived.WideShapes
import Derived.ChangeArms
import Derived.SizedLaws
namespace Go.Mv
open Go Go.RowKit
def whole (w : World) : Mem := fun b => w.heap[b]?
theorem whole_sub (w : World) : (whole w).sub w := fun _ _ h => h
theorem whole_cell (w : World) (a : Addr) : (whole w).cell a = w.cell? a := by
  unfold Mem.cell World.cell? whole
  cases w.heap[a.block]? with
  | none => rfl
  | some o => cases o <;> rfl
/-- What was there is as it was. -/
theorem calls_below {P : Program} {f : Nat} {args : List Value} {w : World} {v0 : Value} (h : FCalls P f args (whole w) fun v m' => v = v0 ∧ ∀ b o, whole w b = some o → m' b = some o) :
    Calls P f args.toArray w fun e w' => e = .returned v0 ∧ Below w.heap.size w w' := by
  unfold FCalls at h
  refine (h w (whole_sub w)).mono fun e w' ⟨v, m', he, ⟨hv, hk⟩, hF⟩ => ⟨by rw [he, hv], hF.os, hF.tape.1, hF.output, hF.size, fun k hlt => ?_⟩
  have h1 : whole w k = some w.heap[k] := Array.getElem?_eq_getElem hlt
  rw [hF.sub k _ (hk k _ h1)]
  exact h1.symm
/-- A slice of whole numbers that came in. -/
def IsRow (k : IntKind) (w : World) (a : Option Addr) (len cap : Nat) (zs : List Int) : Prop :=
  (a = none ∧ len = 0 ∧ cap = 0 ∧ zs = []) ∨
  ∃ x, a = some x ∧ len ≤ cap ∧ cap ≤ maxLen ∧ zs.length = cap ∧ (∀ i, i < zs.length → w.cell? (x.add i) = some (.int k (zs.getD i 0))) ∧ ∀ n ∈ zs, (Lit.int k n).wf = true
theorem IsRow.length {k : IntKind} {w : World} {a : Option Addr} {len cap : Nat} {zs : List Int} (h : IsRow k w a len cap zs) : (zs.take len).length = len := by
  rcases h with ⟨rfl, rfl, rfl, rfl⟩ | ⟨x, rfl, hl, hm, hz, _, _⟩
  · rfl
  · simp
    omega
theorem IsRow.wf {k : IntKind} {w : World} {a : Option Addr} {len cap : Nat} {zs : List Int} (h : IsRow k w a len cap zs) : ∀ n ∈ zs.take len, (Lit.int k n).wf = true := by
  rcases h with ⟨rfl, rfl, rfl, rfl⟩ | ⟨x, rfl, hl, hm, hz, _, hwf⟩
  · simp
  · exact fun n hn => hwf n (List.mem_of_mem_take hn)
theorem IsRow.cells {k : IntKind} {w : World} {a : Option Addr} {len cap : Nat} {zs : List Int} (h : IsRow k w a len cap zs) : zs.take len = [] ∨ ∃ b i, a = some ⟨b, i, none⟩ ∧ ∀ j x, (zs.take len)[j]? = some x → (whole w).cell ⟨b, i + j, none⟩ = some (.int k x) := by
  rcases h with ⟨rfl, rfl, rfl, rfl⟩ | ⟨x, rfl, hl, hm, hz, hc, _⟩
  · exact .inl rfl
  · by_cases h0 : len = 0
    · exact .inl (by simp [h0])
    · obtain ⟨b, off, spot⟩ := x
      have hspot : spot = none := by
        have := hc 0 (by omega)
        simpa [Addr.add] using World.cell?_spot this
      subst hspot
      refine .inr ⟨b, off, rfl, fun j x hj => ?_⟩
      rw [List.getElem?_take] at hj
      split at hj
      · have hjl := (List.getElem?_eq_some_iff.1 hj).1
        have := hc j hjl
        rw [add_mk] at this
        rw [whole_cell, this]
        simp [List.getD, hj]
      · cases hj
/-- An array of whole numbers that came in. -/
def IsArr (k : IntKind) (n : Nat) (v : Value) (xs : List Int) : Prop := xs.length = n ∧ v = .agg (intCells k xs).toArray ∧ ∀ x, x ∈ xs → (Lit.int k x).wf = true
theorem open_arr {H : Type} {enc : TypeId × Value → H} {P : Program} {W : World} {base b0 n : Nat} {sp : Nat → Bool} {held : Bool} {r : Reach} {t e : TypeId} {q : IntKind} {v : Value} {d : DataW H} {ps : List MemPlace}
    (ht : P.underlying t = some (.array n e)) (he : P.underlying e = some (.int q)) (hs : P.cellsOf t = n) (hc : P.cellsOf e = 1) (hval : Value.okWide P W r b0 t v) (hd : DataW.Trod enc P W base sp held t v d ps) : ∃ xs, IsArr q n v xs := by
  simp only [Value.okWide, ht] at hval
  obtain ⟨cs, rfl, h2, _⟩ := hval
  obtain ⟨fuel, hf⟩ := hd
  obtain ⟨ys, m, rfl, hx, hlen, hn, hel⟩ := DataW.trod_array ht hf
  have hcs : cs.toList.length = n := by
    rw [← hs, ← hlen]
    rfl
  have one : ∀ i, i < n → ∃ a, cs.toList[i]? = some (.int q a) ∧ (Lit.int q a).wf = true := by
    intro i hi
    have h0 := hel i hi
    rw [List.getElem?_eq_getElem (by omega), hc, Nat.mul_one] at h0
    obtain ⟨a, ea, _, wa⟩ := DataW.trod_int he h0
    refine ⟨a, ?_, wa⟩
    have h3 : ((cs.toList.drop i).take 1)[0]? = some (.int q a) := by
      rw [show ((cs.toList.drop i).take 1) = [.int q a] from ea]
      rfl
    rw [List.getElem?_take, if_pos (by omega), List.getElem?_drop, Nat.add_zero] at h3
    exact h3
  have key : ∀ (l : List Value), (∀ i, i < l.length → ∃ a, l[i]? = some (.int q a) ∧ (Lit.int q a).wf = true) → ∃ xs : List Int, xs.length = l.length ∧ l = intCells q xs ∧ ∀ x, x ∈ xs → (Lit.int q x).wf = true := by
    intro l
    induction l with
    | nil => exact fun _ => ⟨[], rfl, rfl, fun x h => by cases h⟩
    | cons c l ih =>
      intro h
      obtain ⟨a, h1, h2⟩ := h 0 (by simp)
      obtain ⟨xs, h3, h4, h5⟩ := ih fun i hi => h (i + 1) (by simp; omega)
      simp at h1
      subst h1
      refine ⟨a :: xs, by simp [h3], by simp [intCells, h4], fun x hx => ?_⟩
      rcases List.mem_cons.1 hx with rfl | hx
      · exact h2
      · exact h5 x hx
  obtain ⟨xs, h1, h3, h4⟩ := key cs.toList fun i hi => one i (by omega)
  exact ⟨xs, by omega, by rw [← h3], h4⟩
/-- A slice of pairs of whole numbers that came in. -/
def IsPairs (w : World) (a : Option Addr) (n : Nat) (zs : List (Int × Int)) : Prop :=
  zs.length = n ∧ (zs = [] ∨ ∃ b o, a = some ⟨b, o, none⟩ ∧ ∀ (k : Nat) r, zs[k]? = some r → (whole w).cell ⟨b, o + k * 2, none⟩ = some (.int .i64 r.1) ∧ (whole w).cell ⟨b, o + k * 2 + 1, none⟩ = some (.int .i64 r.2))
theorem open_pairs {H : Type} {enc : TypeId × Value → H} {P : Program} {w : World} {base : Nat} {sp : Nat → Bool} {held : Bool} {t e ti : TypeId} {fs : Array Field} {f0 f1 : Field} {a : Option Addr} {n c : Nat} {d : DataW H} {ps : List MemPlace}
    (ht : P.underlying t = some (.slice e)) (he : P.underlying e = some (.struct fs)) (hf0 : fs[0]? = some f0) (hf1 : fs[1]? = some f1) (ho : f0.offset = 0 ∧ f1.offset = 1 ∧ f0.type = ti ∧ f1.type = ti) (hi : P.underlying ti = some (.int .i64)) (hce : P.cellsOf e = 2) (hci : P.cellsOf ti = 1)
    (h : DataW.Trod enc P w base sp held t (.slice a n c) d ps) : (∃ zs, IsPairs w a n zs) ∧ (n = 0 ∨ ∃ elems spare, d = .slice elems spare ∧ elems.length = n) := by
  obtain ⟨fuel, hf⟩ := h
  rcases DataW.trod_slice ht hf with ⟨hcs, _⟩ | ⟨x, len, cap, elems, rest, m, _, hcs, hx, hb, hl, hm, hlen, hel, _, _⟩
  · simp [Value.cells] at hcs
    obtain ⟨rfl, rfl, rfl⟩ := hcs
    exact ⟨⟨[], rfl, .inl rfl⟩, .inl rfl⟩
  · simp [Value.cells] at hcs
    obtain ⟨rfl, rfl, rfl⟩ := hcs
    have one : ∀ i, i < n → ∃ r : Int × Int, w.cell? (x.add (i * 2)) = some (.int .i64 r.1) ∧ w.cell? ((x.add (i * 2)).add 1) = some (.int .i64 r.2) := by
      intro i hin
      have h0 := hel i hin
      rw [List.getElem?_eq_getElem (by omega), hce, Option.bind_eq_some_iff] at h0
      obtain ⟨cs, h1, h2⟩ := h0
      obtain ⟨ys, m', _, _, hcl, hyl, hfl⟩ := DataW.trod_struct he h2
      rw [hce] at hcl
      have hsz : 2 ≤ fs.size := by
        have := (Array.getElem?_eq_some_iff.1 hf1).1
        omega
      have g0 := hfl 0 f0 hf0
      have g1 := hfl 1 f1 hf1
      rw [ho.1, ho.2.2.1, hci, List.getElem?_eq_getElem (by omega)] at g0
      rw [ho.2.1, ho.2.2.2, hci, List.getElem?_eq_getElem (by omega)] at g1
      obtain ⟨a0, ea, _, _⟩ := DataW.trod_int hi g0
      obtain ⟨a1, eb, _, _⟩ := DataW.trod_int hi g1
      obtain ⟨_, h3⟩ := World.cells?_some h1
      match cs, hcl, ea, eb, h3 with
      | [c0, c1], _, ea, eb, h3 =>
        simp at ea eb
        subst ea eb
        refine ⟨(a0, a1), ?_, ?_⟩
        · have := h3.2 0 (by omega)
          simpa [Addr.add] using this
        · have := h3.2 1 (by omega)
          simpa using this
    have key : ∀ k, k ≤ n → ∃ zs : List (Int × Int), zs.length = k ∧ ∀ (i : Nat) r, zs[i]? = some r → w.cell? (x.add (i * 2)) = some (.int .i64 r.1) ∧ w.cell? ((x.add (i * 2)).add 1) = some (.int .i64 r.2) := by
      intro k
      induction k with
      | zero => exact fun _ => ⟨[], rfl, fun i r h => by simp at h⟩
      | succ k ih =>
        intro hk
        obtain ⟨zs, h1, h2⟩ := ih (by omega)
        obtain ⟨r, h3, h4⟩ := one k (by omega)
        refine ⟨zs ++ [r], by simp [h1], fun i q hq => ?_⟩
        rcases Nat.lt_or_ge i k with hik | hik
        · exact h2 i q (by rwa [List.getElem?_append_left (by omega)] at hq)
        · rw [List.getElem?_append_right (by omega)] at hq
          have : i - zs.length = 0 := by
            have := (List.getElem?_eq_some_iff.1 hq).1
            simp at this
            omega
          rw [this] at hq
          simp at hq
          subst hq
          rw [show i = k by omega]
          exact ⟨h3, h4⟩
    obtain ⟨zs, h1, h2⟩ := key n (Nat.le_refl n)
    refine ⟨⟨zs, h1, ?_⟩, .inr ⟨elems.map (·.1), rest.map (·.1), by simp only [Prod.mk.injEq] at hx; exact hx.1, by simp [hlen]⟩⟩
    by_cases h0 : n = 0
    · exact .inl (List.eq_nil_of_length_eq_zero (by omega))
    · obtain ⟨b, off, spot⟩ := x
      have hspot : spot = none := by
        obtain ⟨r, hr⟩ : ∃ r, zs[0]? = some r := ⟨_, List.getElem?_eq_getElem (by omega)⟩
        have := (h2 0 r hr).1
        simp only [Nat.zero_mul] at this
        exact World.cell?_spot (by simpa [Addr.add] using this)
      subst hspot
      refine .inr ⟨b, off, rfl, fun k r hk => ?_⟩
      obtain ⟨g1, g2⟩ := h2 k r hk
      rw [add_mk] at g1 g2
      rw [add_mk] at g2
      rw [whole_cell, whole_cell]
      exact ⟨g1, g2⟩
end Go.Mv
