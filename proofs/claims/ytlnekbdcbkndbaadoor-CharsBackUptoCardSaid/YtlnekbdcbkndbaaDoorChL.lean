/- Chars: what was read is told again as it stood, or differs within. -/
import Derived.Test.YtlnekbdcbkndbaaDoorChK
namespace Go.Proofs.YtlnekbdcbkndbaaDoor
open Go Go.Mv
set_option maxHeartbeats 1000000
set_option maxRecDepth 10000
set_option linter.unusedVariables false
set_option linter.unusedSimpArgs false
theorem wdl_enc_le {l : List UInt8} (hl : l ≠ []) : (l.take (wdl l)).length = wdl l := by rw [List.length_take]; have := wdl_pos hl; omega
/-- The first bytes of a unit's tail are of escapes. -/
theorem tail_hx : ∀ (k : Nat) (its : List Item), (∀ it, it ∈ its → it.ok) → k ≤ (byts its).length → (∀ j, j < k → bN (byts its) j / 64 = 2) → ∃ (bs : List UInt8) (rest : List Item), its = bs.map Item.hx ++ rest ∧ bs.length = k
  | 0, its, _, _, _ => ⟨[], its, rfl, rfl⟩
  | k + 1, [], _, h, _ => by simp [byts] at h
  | k + 1, it :: its, hok, hk, hc => by
    have h0 := hc 0 (by omega)
    have hb : ∃ b, it = .hx b := by
      cases it with
      | hx b => exact ⟨b, rfl⟩
      | bs => exfalso; simp [byts, Item.byt, bN] at h0
      | nl => exfalso; simp [byts, Item.byt, bN] at h0
      | pl c =>
        exfalso
        obtain ⟨g1, g2, g3⟩ := (hok _ (List.mem_cons_self ..) : (Item.pl c).ok)
        have e : byts (.pl c :: its) = enc c ++ byts its := rfl
        rw [e] at h0
        obtain ⟨d1, d2, d3⟩ := g1
        have hlen := enc_len c
        rw [bN_app_lt (by rw [hlen]; repeat' split
                          all_goals omega)] at h0
        unfold enc bN at h0
        revert h0
        by_cases c1 : c < 128
        · rw [if_pos c1, List.getD_cons_zero, u8n _ (by omega)]; omega
        · rw [if_neg c1]
          by_cases c2 : c < 2048
          · rw [if_pos c2, List.getD_cons_zero, u8n _ (by omega)]; omega
          · rw [if_neg c2]
            by_cases c3 : c < 65536
            · rw [if_pos c3, List.getD_cons_zero, u8n _ (by omega)]; omega
            · rw [if_neg c3, List.getD_cons_zero, u8n _ (by omega)]; omega
    obtain ⟨b, rfl⟩ := hb
    have e : byts (.hx b :: its) = b :: byts its := rfl
    rw [e] at hk hc
    obtain ⟨bs, rest, h1, h2⟩ := tail_hx k its (fun it h => hok it (List.mem_cons_of_mem _ h)) (by simp at hk; omega) fun j hj => by
      have := hc (j + 1) (by omega)
      simpa [bN] using this
    exact ⟨b :: bs, rest, by rw [h1]; rfl, by simp [h2]⟩
/-- Alike, or different within both. -/
def Alike (a b : List UInt8) : Prop := a = b ∨ ∃ (i : Nat) (x y : UInt8), a[i]? = some x ∧ b[i]? = some y ∧ x ≠ y
theorem Alike.pre {a b : List UInt8} (p : List UInt8) (h : Alike a b) : Alike (p ++ a) (p ++ b) := by
  rcases h with rfl | ⟨i, x, y, h1, h2, h3⟩
  · exact .inl rfl
  · exact .inr ⟨p.length + i, x, y, by rw [List.getElem?_append_right (by omega), Nat.add_sub_cancel_left]; exact h1, by rw [List.getElem?_append_right (by omega), Nat.add_sub_cancel_left]; exact h2, h3⟩
theorem byts_hx (bs : List UInt8) : byts (bs.map Item.hx) = bs := by
  induction bs with
  | nil => rfl
  | cons b r ih => show b :: byts (r.map Item.hx) = _; rw [ih]
theorem srcs_hx (bs : List UInt8) : srcs (bs.map Item.hx) = bs.flatMap esc := by
  induction bs with
  | nil => rfl
  | cons b r ih => show esc b ++ srcs (r.map Item.hx) = _; rw [ih]; rfl
theorem byts_app (a b : List Item) : byts (a ++ b) = byts a ++ byts b := by unfold byts; rw [List.flatMap_append]
theorem srcs_app (a b : List Item) : srcs (a ++ b) = srcs a ++ srcs b := by unfold srcs; rw [List.flatMap_append]
theorem alike : ∀ (n : Nat) (its : List Item), its.length ≤ n → (∀ it, it ∈ its → it.ok) → Alike (shl (byts its)) (srcs its)
  | _, [], _, _ => .inl rfl
  | n + 1, it :: its, hn, hok => by
    have hok2 : ∀ it, it ∈ its → it.ok := fun it h => hok it (List.mem_cons_of_mem _ h)
    have hn2 : its.length ≤ n := by simpa using hn
    have ih := alike n its hn2 hok2
    cases it with
    | pl c =>
      obtain ⟨g1, g2, g3⟩ := (hok _ (List.mem_cons_self ..) : (Item.pl c).ok)
      have e : byts (.pl c :: its) = enc c ++ byts its := rfl
      have e2 : srcs (.pl c :: its) = enc c ++ srcs its := rfl
      have hne : enc c ++ byts its ≠ [] := fun h => enc_ne (List.append_eq_nil_iff.1 h).1
      rw [e, e2, shl_step hne, unitl_pl g1 g2 g3, (cdl_encapp g1 _).2, List.drop_left]
      exact ih.pre _
    | bs =>
      have e : byts (.bs :: its) = 92 :: byts its := rfl
      have e2 : srcs (.bs :: its) = [92, 92] ++ srcs its := rfl
      obtain ⟨h1, h2⟩ := cdl_ascii (x := 92) (by decide) (byts its)
      rw [e, e2, shl_step (by simp), h2]
      unfold unitl
      rw [h1, if_pos (by decide)]
      exact ih.pre _
    | nl =>
      have e : byts (.nl :: its) = 10 :: byts its := rfl
      have e2 : srcs (.nl :: its) = [92, 110] ++ srcs its := rfl
      obtain ⟨h1, h2⟩ := cdl_ascii (x := 10) (by decide) (byts its)
      rw [e, e2, shl_step (by simp), h2]
      unfold unitl
      rw [h1, if_neg (by decide), if_pos (by decide)]
      exact ih.pre _
    | hx b =>
      have e : byts (.hx b :: its) = b :: byts its := rfl
      have e2 : srcs (.hx b :: its) = esc b ++ srcs its := rfl
      have hne : b :: byts its ≠ [] := by simp
      have hw := wdl_pos hne
      rw [e, shl_step hne]
      by_cases c92 : cdl (b :: byts its) = 92
      · refine .inr ⟨1, 92, 120, ?_, ?_, by decide⟩
        · unfold unitl; rw [if_pos c92]; rfl
        · rw [e2]; rfl
      by_cases c10 : cdl (b :: byts its) = 10
      · refine .inr ⟨1, 110, 120, ?_, ?_, by decide⟩
        · unfold unitl; rw [if_neg c92, if_pos c10]; rfl
        · rw [e2]; rfl
      by_cases cp : plainC (cdl (b :: byts its))
      · refine .inr ⟨0, b, 92, ?_, ?_, ?_⟩
        · unfold unitl
          rw [if_neg c92, if_neg c10, if_pos cp]
          obtain ⟨w, hw'⟩ : ∃ w, wdl (b :: byts its) = w + 1 := ⟨wdl (b :: byts its) - 1, by omega⟩
          rw [hw']
          rfl
        · rw [e2]; rfl
        · rintro rfl
          exact c92 (cdl_ascii (x := 92) (by decide) (byts its)).1
      · unfold unitl
        rw [if_neg c92, if_neg c10, if_neg cp]
        have hcont := decN_cont (n := (b :: byts its).length) (x0 := bN (b :: byts its) 0) (x1 := bN (b :: byts its) 1) (x2 := bN (b :: byts its) 2) (x3 := bN (b :: byts its) 3)
        obtain ⟨k1, k2, k3, k4⟩ := hcont
        obtain ⟨bs, rest, r1, r2⟩ := tail_hx (wdl (b :: byts its) - 1) its hok2 (by have := hw.2; simp at this; omega) fun j hj => by
          have hj1 : j + 1 < wdl (b :: byts its) := by omega
          have e3 : bN (byts its) j = bN (b :: byts its) (j + 1) := by simp [bN]
          rw [e3]
          have hw4 : wdl (b :: byts its) ≤ 4 := k4
          have : j = 0 ∨ j = 1 ∨ j = 2 := by omega
          rcases this with rfl | rfl | rfl
          · exact k1 hj1
          · exact k2 hj1
          · exact k3 hj1
        have hb : b :: byts its = (b :: bs) ++ byts rest := by rw [r1, byts_app, byts_hx]; rfl
        have hlen : wdl (b :: byts its) = (b :: bs).length := by simp; omega
        have e4 : srcs (.hx b :: its) = (b :: bs).flatMap esc ++ srcs rest := by rw [e2, r1, srcs_app, srcs_hx]; simp
        rw [e4, hlen, hb, List.take_left, List.drop_left]
        refine (alike n rest ?_ fun it h => hok2 it (by rw [r1]; exact List.mem_append_right _ h)).pre _
        have := congrArg List.length r1
        simp at this
        omega
end Go.Proofs.YtlnekbdcbkndbaaDoor
