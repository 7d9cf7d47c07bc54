/- Mv: slices.SortFunc, by the shelf's contract, as a call on a part of memory. -/
import Derived.Test.YtoifiplefjclbaaMvSep
import Derived.Shelf.SlSortCmp.WholeK
namespace Go.Mv
open Go Go.Sort Go.Shelf Go.Proofs
variable {P : Program} {α : Type} [Inhabited α]
theorem flatK_list {enc : α → List Value} {k : Nat} (hk : ∀ x, (enc x).length = k) (xs : List α) : flatK enc k xs.toArray = (xs.flatMap enc).toArray := by
  have hlen := flat_len hk xs
  apply Array.ext_getElem?
  intro i
  by_cases hi : i < xs.length * k
  · have hk0 : 0 < k := by
      rcases Nat.eq_zero_or_pos k with h | h
      · subst h; simp at hi
      · exact h
    have hq : i / k < xs.length := Nat.div_lt_of_lt_mul (by rw [Nat.mul_comm]; exact hi)
    have hr : i % k < k := Nat.mod_lt _ hk0
    have hiq : (i / k) * k + i % k = i := by have := Nat.div_add_mod i k; rw [Nat.mul_comm] at this; omega
    have h1 : (flatK enc k xs.toArray)[i]? = some (flatK enc k xs.toArray)[i]! := by
      rw [Array.getElem?_eq_getElem (by simpa using hi), getElem!_pos _ i (by simpa using hi)]
    have h2 : xs[i / k]? = some xs[i / k] := List.getElem?_eq_getElem hq
    have h4 : (xs.toArray[i / k]! : α) = xs[i / k] := by
      rw [getElem!_pos xs.toArray (i / k) (by simpa using hq)]
      simp
    have h5 : ((xs.flatMap enc).toArray)[i]? = (enc xs[i / k])[i % k]? := by
      simp only [List.getElem?_toArray]
      have := flat_get hk h2 hr
      rwa [hiq] at this
    have h3 : i % k < (enc xs[i / k]).length := by rw [hk]; exact hr
    rw [h1, get_flatK enc k xs.toArray i (by simpa using hi), h4, h5, List.getElem?_eq_getElem h3, getElem!_pos (enc xs[i / k]) (i % k) h3]
  · rw [Array.getElem?_eq_none (by simpa using hi), Array.getElem?_eq_none (by simp only [List.size_toArray, hlen]; omega)]
theorem putCells_list {l vs : List Value} {off : Nat} (h : off + vs.length ≤ l.length) : putCells id off vs.toArray l.toArray = (writeAt l off vs).toArray := by
  apply Array.ext_getElem?
  intro i
  simp only [putCells, Array.getElem?_mapIdx, List.getElem?_toArray, List.size_toArray]
  rw [writeAt_get _ _ _ _ h]
  by_cases hi : i < l.length
  · rw [List.getElem?_eq_getElem hi, Option.map_some]
    by_cases hc : off ≤ i ∧ i < off + vs.length
    · have h3 : i - off < vs.length := by omega
      rw [if_pos hc, if_pos hc, List.getElem?_eq_getElem h3, getElem!_pos vs.toArray (i - off) (by simpa using h3)]
      rfl
    · rw [if_neg hc, if_neg hc]
  · rw [List.getElem?_eq_none (by omega), Option.map_none, if_neg (by omega)]
/-- A frame that turns nothing that m0 tells: the world has grown. -/
theorem Frame.grown {m0 m' : Mem} {w w' : World} (h : Frame m0 w m' w') (hs : m0.sub w) (hm : m0.le m') : ∃ q os, w' = grow (w.drewN q) os := by
  refine ⟨w'.drawn - w.drawn, w'.heap.extract w.heap.size w'.heap.size, ?_⟩
  have hh : w'.heap = w.heap ++ w'.heap.extract w.heap.size w'.heap.size := by
    apply Array.ext_getElem?
    intro i
    by_cases hi : i < w.heap.size
    · rw [Array.getElem?_append_left hi]
      cases hm0 : m0 i with
      | none => exact h.keep i hi hm0
      | some o => rw [h.sub i o (hm i o hm0), hs i o hm0]
    · rw [Array.getElem?_append_right (by omega), Array.getElem?_extract]
      by_cases hi2 : i < w'.heap.size
      · rw [if_pos (by omega)]
        congr 1
        omega
      · rw [if_neg (by omega), Array.getElem?_eq_none (by omega)]
  have hd := h.tape.2
  obtain ⟨heap, tape, drawn, os, output⟩ := w
  obtain ⟨heap', tape', drawn', os', output'⟩ := w'
  have e1 := h.os
  have e2 := h.tape.1
  have e3 := h.output
  simp only at hh e1 e2 e3 hd
  subst e1 e2 e3
  simp only [grow, World.drewN]
  congr 1
  omega
theorem sortFunc_c {ρ : Ren} (L : SlLaysF0.n6 P ρ) (k : Nat) (aE : ∀ w, (isAgg (ρ.t 24)).run P w = .ok true w) (zE : ∀ w, (Go.sizeOf (ρ.t 24)).run P w = .ok k w) (enc : α → List Value) (hk : ∀ x, (enc x).length = k) (h1 : ∀ x, ∀ v ∈ enc x, v.oneCell' = true) (cf : α → α → Int) (hO : SWO (ltOf cf)) (g : Nat) (cb : List Value)
    (eg : ∀ args w, (callFunc g args).run P w = .ok (.enter g args) w) {m0 m : Mem} {xs : List α} {b o n c : Nat} (h : Sep [sl (some ⟨b, o, none⟩) n c k (xs.flatMap enc), kp m0] m) (hn : xs.length = n) (hsz : n < 4611686018427387904)
    (hcmp : ∀ x y, FCalls P g (.agg (enc x).toArray :: .agg (enc y).toArray :: cb) m0 fun v m' => v = .int .i64 (cf x y) ∧ m0.le m') :
    FCalls P (ρ.f 6) [.slice (some ⟨b, o, none⟩) n c, .func (.func g) #[] cb.toArray] m fun v m' => v = .tuple #[] ∧ ∃ ys : List α, ys.Perm xs ∧ ys.Pairwise (fun x y => ltOf cf y x = false) ∧ Sep [sl (some ⟨b, o, none⟩) n c k (ys.flatMap enc), kp m0] m' := by
  intro w hw
  obtain ⟨m1, m2, k1, k2, k3, hA, m3, m4, g1, g2, g3, g4, _⟩ := h
  have hm0 : m0.le m2 := Mem.le_trans (show m0.le m3 from g4) g2
  obtain ⟨a1, a2, a3⟩ := hA
  rcases a3 with ⟨hh, _⟩ | ⟨b', o', l, e, hh, q2, q3, q4⟩
  · cases hh
  cases hh
  have hb0 : m0 b = none := by
    rcases k1 b with hx | hx
    · rw [hx] at q2; cases q2
    · exact Mem.le_none hm0 hx
  have hmb := k2 _ _ q2
  have hwb : w.heap[b]? = some (.cells l.toArray e (0, 0)) := hw _ _ hmb
  have hblk := (Array.getElem?_eq_some_iff.1 hwb).1
  have hlen := flat_len hk xs
  have hle : o + n * k ≤ l.length := by
    have := Nat.mul_le_mul_right k a2
    omega
  have hH : HoldsK enc k w b o xs.toArray := by
    unfold HoldsK
    rw [flatK_list hk]
    intro j hj
    have hj : j < (xs.flatMap enc).length := by simpa using hj
    have hv := q4 j _ (List.getElem?_eq_getElem hj)
    refine ⟨?_, ?_⟩
    · unfold World.cell?
      rw [hwb]
      simp only [Option.isSome_none, Bool.false_eq_true, if_false, List.getElem?_toArray]
      rw [hv, getElem!_pos (xs.flatMap enc).toArray j (by simpa using hj)]
      rfl
    · unfold World.frozen?
      rw [hwb]
      simp
  have hputs : ∀ (mm : Nat) (os : Array Obj) (dk : List α), dk.length = n → ∀ i, (sortWorldK enc k w b o mm dk.toArray os).heap[i]? = if i = b then some (.cells (writeAt l o (dk.flatMap enc)).toArray e (0, 0)) else if i < w.heap.size then w.heap[i]? else os[i - w.heap.size]? := by
    intro mm os dk hdk i
    have hfl : o + (dk.flatMap enc).length ≤ l.length := by rw [flat_len hk, hdk]; exact hle
    unfold sortWorldK putRowK
    rw [flatK_list hk]
    show ((mapBlock (Sort.ahead w mm) b (putCells id o (dk.flatMap enc).toArray)).heap ++ os)[i]? = _
    have hs : (mapBlock (Sort.ahead w mm) b (putCells id o (dk.flatMap enc).toArray)).heap.size = w.heap.size := by simp [mapBlock, Sort.ahead]
    by_cases hi : i < w.heap.size
    · rw [Array.getElem?_append_left (by rw [hs]; exact hi)]
      unfold mapBlock
      rw [Array.getElem?_modify]
      by_cases hib : b = i
      · subst hib
        rw [if_pos rfl, if_pos rfl]
        show Option.map _ w.heap[b]? = _
        rw [hwb, Option.map_some]
        simp only [onCells]
        rw [putCells_list hfl]
      · rw [if_neg hib, if_neg (Ne.symm hib), if_pos hi]
        rfl
    · rw [Array.getElem?_append_right (by rw [hs]; omega), hs, if_neg (by omega), if_neg hi]
  have hcl : CmpLays P g cb.toArray enc k cf b o xs.toArray.size w := by
    intro mm os dk hdk x y
    have hdk' : dk.toList.length = n := by simpa [hn] using hdk
    have hsub : m0.sub (sortWorldK enc k w b o mm dk os) := by
      intro i ob hi
      have := hputs mm os dk.toList hdk' i
      simp only [Array.toArray_toList] at this
      have hwi := hw i ob (k3 i ob (hm0 i ob hi))
      rw [this, if_neg (by rintro rfl; rw [hb0] at hi; cases hi), if_pos (Array.getElem?_eq_some_iff.1 hwi).1]
      exact hwi
    have hf := hcmp x y
    unfold FCalls at hf
    have hc := hf _ hsub
    have ha : (Value.agg (enc x).toArray :: Value.agg (enc y).toArray :: cb).toArray = #[.agg (enc x).toArray, .agg (enc y).toArray] ++ cb.toArray := by simp
    rw [ha] at hc
    exact hc.mono fun e' w' ⟨v, m', he, ⟨hv, hle'⟩, hF⟩ => ⟨by rw [he, hv], hF.grown hsub hle'⟩
  have hcon := AnyQ.slices_SortFunc L k aE zE enc hk h1 cf hO g cb.toArray b o c xs.toArray w eg hcl hH hblk (by simpa [hn] using hsz)
  have hsize : xs.toArray.size = n := by simpa using hn
  rw [hsize] at hcon
  refine hcon.mono ?_
  rintro e' w' ⟨rfl, d', q, os, hp, hs, rfl⟩
  obtain ⟨p1, p2, p3⟩ := hp
  have hd : d'.size = n := by rw [p1]; exact hsize
  have hd' : d'.toList.length = n := by simpa using hd
  have hheap := hputs q os d'.toList hd'
  simp only [Array.toArray_toList] at hheap
  have hflen := flat_len hk d'.toList
  have hfl : o + (d'.toList.flatMap enc).length ≤ l.length := by rw [hflen, hd']; exact hle
  refine ⟨_, m.set b (.cells (writeAt l o (d'.toList.flatMap enc)).toArray e (0, 0)), rfl, ⟨rfl, d'.toList, ?_, ?_, ?_⟩, ?_⟩
  · have e1 : d'.extract 0 n = d' := by rw [← hd]; simp
    have e2 : xs.toArray.extract 0 n = xs.toArray := by rw [← hsize]; simp
    rw [e1, e2] at p3
    simpa using p3
  · rw [List.pairwise_iff_getElem]
    intro i j hi hj hij
    have := hs i j (by omega) hij (by omega)
    rw [getElem!_pos d' i (by omega), getElem!_pos d' j (by omega)] at this
    simpa using this
  · refine ⟨m1.set b (.cells (writeAt l o (d'.toList.flatMap enc)).toArray e (0, 0)), m2, fun i => ?_, fun i ob hi => ?_, fun i ob hi => ?_, ⟨by rw [hflen, hd'], a2, .inr ⟨b, o, writeAt l o (d'.toList.flatMap enc), e, rfl, by simp [Mem.set], by rw [writeAt_len]; exact q3, fun i v hv => ?_⟩⟩, m3, m4, g1, g2, g3, g4, trivial⟩
    · rcases k1 i with hx | hx
      · left
        rw [Mem.set_ne (by rintro rfl; rw [hx] at q2; cases q2)]
        exact hx
      · exact .inr hx
    · simp only [Mem.set] at hi ⊢
      split
      · rename_i hib; rw [if_pos hib] at hi; exact hi
      · rename_i hib; rw [if_neg hib] at hi; exact k2 i ob hi
    · rw [Mem.set_ne]
      · exact k3 i ob hi
      · rintro rfl
        rcases k1 i with hx | hx
        · rw [hx] at q2; cases q2
        · rw [hx] at hi; cases hi
    · have hil := (List.getElem?_eq_some_iff.1 hv).1
      rw [writeAt_get _ _ _ _ hfl, if_pos (by omega), show o + i - o = i by omega]
      exact hv
  · refine ⟨rfl, ⟨rfl, show w.drawn ≤ w.drawn + q by omega⟩, rfl, ?_, fun i ob hi => ?_, fun i hi hn => ?_, fun i hi => ?_⟩
    · show _ ≤ ((mapBlock (Sort.ahead w q) b (putCells id o (flatK enc k d'))).heap ++ os).size
      rw [Array.size_append]
      simp [mapBlock, Sort.ahead]
    · rw [hheap i]
      simp only [Mem.set] at hi
      split at hi
      · rename_i hib; rw [if_pos hib]; exact hi
      · rename_i hib
        have hwi := hw i ob hi
        rw [if_neg hib, if_pos (Array.getElem?_eq_some_iff.1 hwi).1]
        exact hwi
    · rw [hheap i, if_neg (by rintro rfl; rw [hmb] at hn; cases hn), if_pos hi]
    · left
      simp only [Mem.set] at hi
      split at hi
      · rename_i hib; rw [hib, hmb]; simp
      · exact hi
end Go.Mv
