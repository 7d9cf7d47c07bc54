/- Chars: what Read reads. -/
import Derived.Test.YtlnekbdcbkndbaaDoorChL
namespace Go.Proofs.YtlnekbdcbkndbaaDoor
open Go Go.Mv
set_option maxHeartbeats 1000000
set_option maxRecDepth 10000
set_option linter.unusedVariables false
set_option linter.unusedSimpArgs false
def dig (b : UInt8) : Option Nat := if 48 ≤ b.toNat ∧ b.toNat ≤ 57 then some (b.toNat - 48) else if 97 ≤ b.toNat ∧ b.toNat ≤ 102 then some (b.toNat - 87) else none
theorem dig_lt {b : UInt8} {d : Nat} (h : dig b = some d) : d < 16 ∧ hexD d = b := by
  have hb := b.toNat_lt
  unfold dig at h
  split at h
  · injection h with h
    refine ⟨by omega, ?_⟩
    unfold hexD
    rw [if_pos (by omega)]
    exact u8_of (by omega)
  · split at h
    · injection h with h
      refine ⟨by omega, ?_⟩
      unfold hexD
      rw [if_neg (by omega)]
      exact u8_of (by omega)
    · cases h
theorem hexD_nat {d : Nat} (h : d < 16) : (hexD d).toNat = if d < 10 then 48 + d else 87 + d := by
  unfold hexD
  split
  · rw [u8n _ (by omega)]
  · rw [u8n _ (by omega)]
theorem dig_hex {d : Nat} (h : d < 16) : dig (hexD d) = some d := by
  unfold dig
  rw [hexD_nat h]
  by_cases c : d < 10
  · rw [if_pos c, if_pos (by omega)]
    congr 1
    omega
  · rw [if_neg c, if_neg (by omega), if_pos (by omega)]
    congr 1
    omega
def escl : List UInt8 → (Item × Nat) ⊕ (Nat × Nat)
  | a :: b :: r =>
    if b = 92 then .inl (.bs, 2) else if b = 110 then .inl (.nl, 2) else if b = 120 then
      match r with
      | [] => .inr (31, 2)
      | x :: r2 => match dig x with
        | none => .inr (32, 0)
        | some d => match r2 with
          | [] => .inr (31, 3)
          | y :: _ => match dig y with
            | none => .inr (32, 0)
            | some e => .inl (.hx (UInt8.ofNat (16 * d + e)), 4)
    else .inr (32, 0)
  | l => .inr (31, l.length)
def stepl (l : List UInt8) : (Item × Nat) ⊕ (Nat × Nat) :=
  if plainC (cdl l) then (if cdl l = 92 then escl l else .inl (.pl (cdl l).toNat, wdl l)) else .inr (20, 0)
def addR (its : List Item) (k : Nat) : List Item ⊕ (Nat × Nat) → List Item ⊕ (Nat × Nat)
  | .inl r => .inl (its ++ r)
  | .inr (e, o) => .inr (e, o + k)
def rdF : Nat → List UInt8 → List Item ⊕ (Nat × Nat)
  | 0, _ => .inl []
  | f + 1, l => if l = [] then .inl [] else match stepl l with
    | .inr e => .inr e
    | .inl (it, k) => addR [it] k (rdF f (l.drop k))
theorem first_ascii {l : List UInt8} {x : UInt8} (hx : x.toNat < 128) (h : cdl l = (x.toNat : Nat)) (hl : l ≠ []) : ∃ r, l = x :: r ∧ wdl l = 1 := by
  have h1 : (dl l).1 = x.toNat := by
    unfold cdl at h
    split at h
    · omega
    · omega
  unfold dl at h1
  obtain ⟨g1, g2⟩ := decN_small' (n := l.length) (x0 := bN l 0) (x1 := bN l 1) (x2 := bN l 2) (x3 := bN l 3) (by rw [h1]; exact hx)
  rw [h1] at g1
  cases l with
  | nil => exact absurd rfl hl
  | cons b r =>
    have : b = x := UInt8.toNat_inj.1 (by simpa [bN] using g1)
    subst this
    exact ⟨r, rfl, g2⟩
theorem escl_ok {l : List UInt8} {it : Item} {k : Nat} (h0 : l[0]? = some 92) (h : escl l = .inl (it, k)) : it.ok ∧ it.src = l.take k ∧ 1 ≤ k ∧ k ≤ l.length := by
  match l, h0, h with
  | a :: b :: r, h0, h =>
    simp at h0
    subst h0
    unfold escl at h
    simp only at h
    by_cases c1 : b = 92
    · rw [if_pos c1] at h
      simp only [Sum.inl.injEq, Prod.mk.injEq] at h
      obtain ⟨rfl, rfl⟩ := h
      subst c1
      exact ⟨trivial, rfl, by omega, by simp⟩
    rw [if_neg c1] at h
    by_cases c2 : b = 110
    · rw [if_pos c2] at h
      simp only [Sum.inl.injEq, Prod.mk.injEq] at h
      obtain ⟨rfl, rfl⟩ := h
      subst c2
      exact ⟨trivial, rfl, by omega, by simp⟩
    rw [if_neg c2] at h
    by_cases c3 : b = 120
    · rw [if_pos c3] at h
      subst c3
      match r, h with
      | [], h => cases h
      | [x], h =>
        simp only at h
        cases hx : dig x <;> rw [hx] at h <;> cases h
      | x :: y :: r3, h =>
        simp only at h
        cases hx : dig x with
        | none => rw [hx] at h; cases h
        | some d =>
          rw [hx] at h
          simp only at h
          cases hy : dig y with
          | none => rw [hy] at h; cases h
          | some e =>
            rw [hy] at h
            simp only [Sum.inl.injEq, Prod.mk.injEq] at h
            obtain ⟨rfl, rfl⟩ := h
            obtain ⟨d1, d2⟩ := dig_lt hx
            obtain ⟨e1, e2⟩ := dig_lt hy
            refine ⟨trivial, ?_, by omega, by simp⟩
            show [92, 120, hexD _, hexD _] = [92, 120, x, y]
            rw [u8n _ (by omega), show (16 * d + e) / 16 = d by omega, show (16 * d + e) % 16 = e by omega, d2, e2]
    · rw [if_neg c3] at h
      cases h
  | [a], h0, h => cases h
  | [], h0, h => cases h
theorem stepl_ok {l : List UInt8} {it : Item} {k : Nat} (hl : l ≠ []) (h : stepl l = .inl (it, k)) : it.ok ∧ it.src = l.take k ∧ 1 ≤ k ∧ k ≤ l.length := by
  unfold stepl at h
  by_cases cp : plainC (cdl l)
  · rw [if_pos cp] at h
    by_cases c92 : cdl l = 92
    · rw [if_pos c92] at h
      obtain ⟨r, rfl, _⟩ := first_ascii (x := 92) (by decide) c92 hl
      exact escl_ok rfl h
    · rw [if_neg c92] at h
      simp only [Sum.inl.injEq, Prod.mk.injEq] at h
      obtain ⟨rfl, rfl⟩ := h
      have h0 : 0 ≤ cdl l := by unfold plainC at cp; omega
      obtain ⟨g1, g2⟩ := enc_take hl h0
      have hw := wdl_pos hl
      have e : ((cdl l).toNat : Int) = cdl l := by omega
      exact ⟨⟨by rw [e]; exact g1, by rw [e]; exact cp, by omega⟩, g2, hw.1, hw.2⟩
  · rw [if_neg cp] at h
    cases h
theorem rdF_enough : ∀ {f g : Nat} {l : List UInt8}, l.length ≤ f → l.length ≤ g → rdF f l = rdF g l
  | 0, 0, _, _, _ => rfl
  | 0, g + 1, l, h, _ => by
    have : l = [] := List.length_eq_zero_iff.1 (by omega)
    subst this; rfl
  | f + 1, 0, l, _, h => by
    have : l = [] := List.length_eq_zero_iff.1 (by omega)
    subst this; rfl
  | f + 1, g + 1, l, h1, h2 => by
    unfold rdF
    by_cases hl : l = []
    · rw [if_pos hl, if_pos hl]
    · rw [if_neg hl, if_neg hl]
      cases hs : stepl l with
      | inr e => rfl
      | inl p =>
        obtain ⟨it, k⟩ := p
        obtain ⟨_, _, h3, h4⟩ := stepl_ok hl hs
        simp only
        rw [rdF_enough (f := f) (g := g) (by rw [List.length_drop]; omega) (by rw [List.length_drop]; omega)]
def rdl (l : List UInt8) : List Item ⊕ (Nat × Nat) := rdF l.length l
theorem rdl_step {l : List UInt8} (hl : l ≠ []) : rdl l = match stepl l with | .inr e => .inr e | .inl (it, k) => addR [it] k (rdl (l.drop k)) := by
  have h0 : 0 < l.length := List.length_pos_iff.2 hl
  conv => lhs; unfold rdl
  rw [show l.length = (l.length - 1) + 1 by omega]
  unfold rdF
  rw [if_neg hl]
  cases hs : stepl l with
  | inr e => rfl
  | inl p =>
    obtain ⟨it, k⟩ := p
    obtain ⟨_, _, h3, h4⟩ := stepl_ok hl hs
    simp only
    unfold rdl
    rw [rdF_enough (f := l.length - 1) (g := (l.drop k).length) (by rw [List.length_drop]; omega) (Nat.le_refl _)]
theorem rdl_ok : ∀ (n : Nat) (l : List UInt8) (its : List Item), l.length ≤ n → rdl l = .inl its → (∀ it, it ∈ its → it.ok) ∧ srcs its = l
  | n, [], its, _, h => by
    have h : Sum.inl [] = Sum.inl its := h
    injection h with h
    subst h
    exact ⟨fun it h => (by cases h), rfl⟩
  | 0, a :: l, _, hn, _ => by simp at hn
  | n + 1, a :: l, its, hn, h => by
    have hne : a :: l ≠ [] := by simp
    rw [rdl_step hne] at h
    cases hs : stepl (a :: l) with
    | inr e => rw [hs] at h; cases h
    | inl p =>
      obtain ⟨it, k⟩ := p
      obtain ⟨h1, h2, h3, h4⟩ := stepl_ok hne hs
      rw [hs] at h
      simp only at h
      cases hr : rdl ((a :: l).drop k) with
      | inr e => rw [hr] at h; cases h
      | inl r =>
        rw [hr] at h
        have h : Sum.inl ([it] ++ r) = Sum.inl its := h
        injection h with h
        subst h
        obtain ⟨g1, g2⟩ := rdl_ok n _ r (by rw [List.length_drop]; simp at hn ⊢; omega) hr
        refine ⟨fun x hx => ?_, ?_⟩
        · rcases List.mem_cons.1 hx with rfl | hx
          · exact h1
          · exact g1 x hx
        · show it.src ++ srcs r = _
          rw [h2, g2, List.take_append_drop]
theorem addR_addR {a b : List Item} {j k : Nat} {r : List Item ⊕ (Nat × Nat)} : addR a j (addR b k r) = addR (a ++ b) (j + k) r := by
  cases r with
  | inl r => simp [addR]
  | inr e => obtain ⟨e, o⟩ := e; simp [addR]; omega
theorem rdl_esc : ∀ (bs : List UInt8) (r : List UInt8), rdl (bs.flatMap esc ++ r) = addR (bs.map Item.hx) (4 * bs.length) (rdl r)
  | [], r => by
    show rdl r = _
    cases rdl r with
    | inl _ => rfl
    | inr e => obtain ⟨e, o⟩ := e; rfl
  | b :: bs, r => by
    have e : (b :: bs).flatMap esc ++ r = 92 :: 120 :: hexD (b.toNat / 16) :: hexD (b.toNat % 16) :: (bs.flatMap esc ++ r) := rfl
    have hb := b.toNat_lt
    obtain ⟨h1, h2⟩ := cdl_ascii (x := 92) (by decide) (120 :: hexD (b.toNat / 16) :: hexD (b.toNat % 16) :: (bs.flatMap esc ++ r))
    have hs : stepl (92 :: 120 :: hexD (b.toNat / 16) :: hexD (b.toNat % 16) :: (bs.flatMap esc ++ r)) = .inl (.hx b, 4) := by
      unfold stepl
      rw [h1, if_pos (by decide), if_pos (by decide)]
      show (match dig (hexD (b.toNat / 16)) with
        | none => (Sum.inr (32, 0) : (Item × Nat) ⊕ (Nat × Nat))
        | some d => match dig (hexD (b.toNat % 16)) with
          | none => .inr (32, 0)
          | some e => .inl (.hx (UInt8.ofNat (16 * d + e)), 4)) = _
      rw [dig_hex (by omega), dig_hex (by omega)]
      simp only
      rw [show 16 * (b.toNat / 16) + b.toNat % 16 = b.toNat by omega, u8_of rfl]
    rw [e, rdl_step (by simp), hs]
    show addR [Item.hx b] 4 (rdl (bs.flatMap esc ++ r)) = _
    rw [rdl_esc bs r, addR_addR]
    congr 1
    simp
    omega
theorem rdl_shl : ∀ (n : Nat) (l : List UInt8), l.length ≤ n → ∃ its, rdl (shl l) = .inl its ∧ byts its = l
  | _, [], _ => ⟨[], rfl, rfl⟩
  | 0, a :: l, hn => by simp at hn
  | n + 1, a :: l, hn => by
    have hne : a :: l ≠ [] := by simp
    have hw := wdl_pos hne
    obtain ⟨its, i1, i2⟩ := rdl_shl n ((a :: l).drop (wdl (a :: l))) (by rw [List.length_drop]; simp at hn ⊢; omega)
    rw [shl_step hne]
    by_cases c92 : cdl (a :: l) = 92
    · obtain ⟨r, h1, h2⟩ := first_ascii (x := 92) (by decide) c92 hne
      have hu : unitl (a :: l) = [92, 92] := by unfold unitl; rw [if_pos c92]
      have hs : ∀ z, stepl (92 :: 92 :: z) = .inl (.bs, 2) := fun z => by
        unfold stepl
        rw [(cdl_ascii (x := 92) (by decide) _).1, if_pos (by decide), if_pos (by decide)]
        rfl
      refine ⟨.bs :: its, ?_, ?_⟩
      · rw [hu]
        show rdl (92 :: 92 :: shl ((a :: l).drop (wdl (a :: l)))) = _
        rw [rdl_step (by simp), hs]
        show addR [Item.bs] 2 (rdl (shl ((a :: l).drop (wdl (a :: l))))) = _
        rw [i1]
        rfl
      · show 92 :: byts its = _
        rw [i2, h2, h1]
        rfl
    by_cases c10 : cdl (a :: l) = 10
    · obtain ⟨r, h1, h2⟩ := first_ascii (x := 10) (by decide) c10 hne
      have hu : unitl (a :: l) = [92, 110] := by unfold unitl; rw [if_neg c92, if_pos c10]
      have hs : ∀ z, stepl (92 :: 110 :: z) = .inl (.nl, 2) := fun z => by
        unfold stepl
        rw [(cdl_ascii (x := 92) (by decide) _).1, if_pos (by decide), if_pos (by decide)]
        rfl
      refine ⟨.nl :: its, ?_, ?_⟩
      · rw [hu]
        show rdl (92 :: 110 :: shl ((a :: l).drop (wdl (a :: l)))) = _
        rw [rdl_step (by simp), hs]
        show addR [Item.nl] 2 (rdl (shl ((a :: l).drop (wdl (a :: l))))) = _
        rw [i1]
        rfl
      · show 10 :: byts its = _
        rw [i2, h2, h1]
        rfl
    by_cases cp : plainC (cdl (a :: l))
    · have h0 : 0 ≤ cdl (a :: l) := by unfold plainC at cp; omega
      obtain ⟨g1, g2⟩ := enc_take hne h0
      have hu : unitl (a :: l) = enc (cdl (a :: l)).toNat := by unfold unitl; rw [if_neg c92, if_neg c10, if_pos cp, g2]
      have e : ((cdl (a :: l)).toNat : Int) = cdl (a :: l) := by omega
      refine ⟨.pl (cdl (a :: l)).toNat :: its, ?_, ?_⟩
      · rw [hu]
        obtain ⟨k1, k2⟩ := cdl_encapp (c := (cdl (a :: l)).toNat) (by rw [e]; exact g1) (shl ((a :: l).drop (wdl (a :: l))))
        have hs : stepl (enc (cdl (a :: l)).toNat ++ shl ((a :: l).drop (wdl (a :: l)))) = .inl (.pl (cdl (a :: l)).toNat, (enc (cdl (a :: l)).toNat).length) := by
          unfold stepl
          rw [k1, k2, e, if_pos cp, if_neg c92]
        rw [rdl_step (fun h => enc_ne (List.append_eq_nil_iff.1 h).1), hs]
        simp only
        rw [List.drop_left, i1]
        rfl
      · show enc _ ++ byts its = _
        rw [i2, g2, List.take_append_drop]
    · have hu : unitl (a :: l) = ((a :: l).take (wdl (a :: l))).flatMap esc := by unfold unitl; rw [if_neg c92, if_neg c10, if_neg cp]
      refine ⟨((a :: l).take (wdl (a :: l))).map Item.hx ++ its, ?_, ?_⟩
      · rw [hu, rdl_esc, i1]
        rfl
      · rw [byts_app, byts_hx, i2, List.take_append_drop]
/-- Where two texts differ first, within both. -/
def mis : List UInt8 → List UInt8 → Option Nat
  | a :: r, b :: q => if a = b then (mis r q).map (· + 1) else some 0
  | _, _ => none
def readR (L : List UInt8) : List UInt8 × Nat × Nat :=
  match rdl L with
  | .inr (e, o) => ([], e, o)
  | .inl its => match mis (shl (byts its)) L with
    | some i => ([], 32, i)
    | none => (byts its, 0, 0)
theorem mis_self : ∀ l, mis l l = none
  | [] => rfl
  | a :: l => by unfold mis; rw [if_pos rfl, mis_self l]; rfl
theorem mis_alike : ∀ {a b : List UInt8}, mis a b = none → Alike a b → a = b
  | a, b, h, .inl e => e
  | [], b, h, .inr ⟨i, x, y, h1, _, _⟩ => by simp at h1
  | a :: r, [], h, .inr ⟨i, x, y, _, h2, _⟩ => by simp at h2
  | a :: r, b :: q, h, .inr ⟨i, x, y, h1, h2, h3⟩ => by
    unfold mis at h
    by_cases hab : a = b
    · rw [if_pos hab] at h
      subst hab
      cases i with
      | zero => simp at h1 h2; rw [← h1, ← h2] at h3; exact absurd rfl h3
      | succ i => exact congrArg (a :: ·) (mis_alike (a := r) (b := q) (by simpa using h) (.inr ⟨i, x, y, by simpa using h1, by simpa using h2, h3⟩))
    · rw [if_neg hab] at h
      cases h
/-- Read of what Shown tells. -/
theorem back1 (l : List UInt8) : readR (shl l) = (l, 0, 0) := by
  obtain ⟨its, h1, h2⟩ := rdl_shl l.length l (Nat.le_refl _)
  unfold readR
  rw [h1]
  simp only
  rw [h2, mis_self]
theorem escl_err {l : List UInt8} {e : Nat × Nat} (h : escl l = .inr e) : e.1 ≠ 0 := by
  unfold escl at h
  repeat' split at h
  all_goals (cases h <;> simp)
theorem rdl_err : ∀ (n : Nat) (l : List UInt8) (e : Nat × Nat), l.length ≤ n → rdl l = .inr e → e.1 ≠ 0
  | n, [], e, _, h => by cases h
  | 0, a :: l, _, hn, _ => by simp at hn
  | n + 1, a :: l, e, hn, h => by
    have hne : a :: l ≠ [] := by simp
    rw [rdl_step hne] at h
    cases hs : stepl (a :: l) with
    | inr e2 =>
      rw [hs] at h
      injection h with h
      subst h
      unfold stepl at hs
      split at hs
      · split at hs
        · exact escl_err hs
        · cases hs
      · cases hs; simp
    | inl p =>
      obtain ⟨it, k⟩ := p
      obtain ⟨h1, h2, h3, h4⟩ := stepl_ok hne hs
      rw [hs] at h
      simp only at h
      cases hr : rdl ((a :: l).drop k) with
      | inl r => rw [hr] at h; cases h
      | inr e2 =>
        rw [hr] at h
        obtain ⟨e2, o2⟩ := e2
        have h : Sum.inr (e2, o2 + k) = Sum.inr e := h
        injection h with h
        subst h
        exact rdl_err n _ (e2, o2) (by rw [List.length_drop]; simp at hn ⊢; omega) hr
theorem read_alike {L : List UInt8} {its : List Item} (h : rdl L = .inl its) : Alike (shl (byts its)) L := by
  obtain ⟨h1, h2⟩ := rdl_ok L.length L its (Nat.le_refl _) h
  have := alike its.length its (Nat.le_refl _) h1
  rwa [h2] at this
theorem back2 {L : List UInt8} (h : (readR L).2.1 = 0) : shl (readR L).1 = L := by
  unfold readR at h ⊢
  cases hr : rdl L with
  | inr e =>
    obtain ⟨e, o⟩ := e
    rw [hr] at h
    exact absurd h (rdl_err L.length L (e, o) (Nat.le_refl _) hr)
  | inl its =>
    rw [hr] at h
    simp only at h ⊢
    cases hm : mis (shl (byts its)) L with
    | some i => rw [hm] at h; cases h
    | none =>
      simp only
      exact mis_alike hm (read_alike hr)
end Go.Proofs.YtlnekbdcbkndbaaDoor
