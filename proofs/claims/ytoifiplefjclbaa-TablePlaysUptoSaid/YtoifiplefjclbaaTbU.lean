/- Table: the document's table. -/
import Derived.Test.YtoifiplefjclbaaTbT
namespace Go.Proofs.Ytoifiplefjclbaa
open Go Go.Mv
set_option maxHeartbeats 1000000
set_option maxRecDepth 10000
set_option linter.unusedVariables false
set_option linter.unusedSimpArgs false
attribute [local irreducible] FCalls IntKind.wrap bits Mem.set Mem.setCell Mem.setCells YCalls
/-- An entry. -/
structure RE where
  A : Option Addr
  c : Nat
  k : List Int
  v : Int
def RE.cells (e : RE) : List Value := [.slice e.A e.k.length e.c, .int .i64 e.v]
def rcs (l : List RE) : List Value := l.flatMap RE.cells
theorem re_len (e : RE) : e.cells.length = 2 := rfl
def ent (l : List RE) : List (List Int × Int) := l.map fun e => (e.k, e.v)
/-- The document's table at r. -/
def rt (K : Mem) (r : Nat) (w most : Int) (top : Nat) (l : List RE) : Asn := fun M => (∃ A c, Sep [pt r [.int .i64 w, .int .i64 most, .slice A l.length c, .int .i64 ((top : Nat) : Int)], sl A l.length c 2 (rcs l)] M) ∧ ∀ e, e ∈ l → Ints K e.A e.k ∧ (e.k.length : Int) = w
theorem rt_at {K m : Mem} {r top : Nat} {w most : Int} {l : List RE} {L : List Asn} (h : Sep L m) (j : Nat) (hj : L[j]? = some (rt K r w most top l)) : rt K r w most top l m := by
  obtain ⟨m1, h1, ⟨A, c, h2⟩, h3⟩ := h.get j hj
  exact ⟨⟨A, c, h2.more h1⟩, h3⟩
theorem rt_up {K K' : Mem} {r top : Nat} {w most : Int} {l : List RE} {m : Mem} (h : rt K r w most top l m) (hK : K.le K') : rt K' r w most top l m :=
  ⟨h.1, fun e he => ⟨(h.2 e he).1.up hK, (h.2 e he).2⟩⟩
theorem re_at {m : Mem} {A : Option Addr} {l : List RE} {i : Nat} {e : RE} (h : Rd m A (rcs l)) (he : l[i]? = some e) : ∃ p, A = some p ∧ m.cell ((p.add (i * 2)).add 0) = some (.slice e.A e.k.length e.c) ∧ m.cell ((p.add (i * 2)).add 1) = some (.int .i64 e.v) := by
  obtain ⟨q1, hq1, hc1⟩ := h.atf (k := i * 2) (off := 0) ((flat_get re_len he (o := 0) (by decide)).trans rfl)
  obtain ⟨q2, hq2, hc2⟩ := h.atf (k := i * 2) (off := 1) ((flat_get re_len he (o := 1) (by decide)).trans rfl)
  rw [hq1] at hq2
  cases hq2
  exact ⟨q1, hq1, hc1, hc2⟩
theorem rat_c {K m : Mem} {r top : Nat} {w most : Int} {l : List RE} {A : Option Addr} {ks : List Int} {c : Nat} (h : rt K r w most top l m) (hK : K.le m) (hA : Ints m A ks) (hl : l.length ≤ 1000000) (hw : w ≤ 128) :
    FCalls Try.prog 30 [.pointer (some ⟨r, 0, none⟩), .slice A ks.length c] m fun v m' => v = (if (ks.length : Int) = w then .tuple #[.int .i64 ((pos ks (ent l) : Nat) : Int), .bool (there ks (ent l))] else .tuple #[.int .i64 0, .bool false]) ∧ m' = m := by
  obtain ⟨⟨B, cB, hS⟩, hks⟩ := h
  have hB := hS.rd 1 rfl
  refine fcalls_of_vc (T := tbl) (B := bodies) (pr := [99999]) (DR := dr30) (args := [.v (.pointer (some ⟨r, 0, none⟩)), .v (.slice A ks.length c)]) tbl_ok bodies_ok mixed Try.func30 rfl (by decide +kernel) (by simp [Try.f30]) rfl ?_
  (conv => whnf)
  refine ⟨_, hS.cell 0 (i := 0) rfl rfl, ?_⟩
  (conv => whnf)
  refine brk_intro (fun c1 => ?_) (fun c1 => ?_)
  · have c1 : ¬ (ks.length : Int) = w := by simpa using c1
    rw [if_neg c1]
    (conv => whnf)
    exact ⟨rfl, rfl⟩
  have c1 : (ks.length : Int) = w := by simpa using c1
  rw [if_pos c1]
  (conv => whnf)
  refine loop_keep [0, 1] Nat (fun i => [(6, .v (.int .i64 ((i : Nat) : Int)))]) (fun _ => []) (fun _ => m) (fun i => i ≤ l.length ∧ pos ks (ent l) = i + pos ks ((ent l).drop i)) (fun i => l.length - i) 0 ⟨rfl, trivial⟩ rfl rfl ⟨Nat.zero_le _, by simp⟩ ?_
  (conv => whnf)
  refine ⟨rfl, ?_⟩
  rintro i ⟨hi, hJ⟩
  (conv => whnf)
  refine ⟨_, _, _, hS.cell 0 (i := 2) rfl rfl, ?_⟩
  (conv => whnf)
  refine brk_intro (fun c2 => ?_) (fun c2 => ?_)
  · have c2 : (i : Int) < (l.length : Nat) := by simpa using c2
    obtain ⟨e, he⟩ : ∃ e, l[i]? = some e := ⟨_, List.getElem?_eq_getElem (by omega)⟩
    have hee : (ent l)[i]? = some (e.k, e.v) := by unfold ent; rw [List.getElem?_map, he]; rfl
    obtain ⟨h1, h2⟩ := pos_drop hJ hee
    obtain ⟨q, hq, hc1, hc2⟩ := re_at hB he
    obtain ⟨g1, g2⟩ := hks e (List.mem_of_getElem? he)
    have hlen : e.k.length = ks.length := by omega
    (conv => whnf)
    refine ⟨_, _, _, hS.cell 0 (i := 2) rfl rfl, ?_⟩
    (conv => whnf)
    refine ⟨q, hq, by omega, c2, ?_⟩
    (conv => whnf)
    refine ⟨_, _, _, hc1, ?_⟩
    (conv => whnf)
    refine FCalls.mono (compare_c (g1.up hK) hA hlen (by omega)) ?_
    rintro v M1 ⟨rfl, rfl⟩
    rw [cmpL_lex hlen]
    (conv => whnf)
    refine brk_intro (fun c3 => ?_) (fun c3 => ?_)
    · have c3 : 0 ≤ lexC e.k ks := by simpa using c3
      have hpi := h1 c3
      (conv => whnf)
      refine ⟨?_, rfl⟩
      rw [hpi]
      have : there ks (ent l) = (lexC e.k ks == 0) := by
        unfold there
        rw [hpi, hee]
        simp only
        by_cases hk : e.k = ks
        · rw [decide_eq_true hk, hk, lexC_self]; rfl
        · rw [decide_eq_false hk]
          cases hd : lexC e.k ks == 0 with
          | false => rfl
          | true => exact absurd (lexC_zero (by simpa using hd)) hk
      rw [this]
      rfl
    · have c3 : ¬ 0 ≤ lexC e.k ks := by simpa using c3
      have e2 : IntKind.i64.wrap (((i : Nat) : Int) + 1) = ((i + 1 : Nat) : Int) := by rw [wrap_id (by omega) (by omega)]; omega
      (conv => whnf)
      rw [e2]
      exact ⟨i + 1, le_eq ⟨rfl, rfl, rfl, trivial⟩ rfl rfl rfl, ⟨by omega, h2 c3⟩, by omega⟩
  · have c2 : ¬ (i : Int) < (l.length : Nat) := by simpa using c2
    have hil : i = l.length := by omega
    have hpl : pos ks (ent l) = l.length := by
      rw [hJ, hil, List.drop_of_length_le (by unfold ent; simp)]
      rfl
    (conv => whnf)
    refine ⟨_, _, _, hS.cell 0 (i := 2) rfl rfl, ?_⟩
    (conv => whnf)
    refine ⟨?_, rfl⟩
    have : there ks (ent l) = false := by
      unfold there
      rw [hpl, List.getElem?_eq_none (by unfold ent; simp)]
    rw [this, hpl]
    rfl
theorem rget_c {K m : Mem} {r top : Nat} {w most : Int} {l : List RE} {A : Option Addr} {ks : List Int} {c : Nat} {f : List Int → Option Int} (h : rt K r w most top l m) (hK : K.le m) (hA : Ints m A ks) (hl : l.length ≤ 1000000) (hw : w ≤ 128) (hf : Entries f (ent l)) :
    FCalls Try.prog 44 [.pointer (some ⟨r, 0, none⟩), .slice A ks.length c] m fun v m' => v = .tuple #[.int .i64 ((if (ks.length : Int) = w then f ks else none).getD 0), .bool (if (ks.length : Int) = w then f ks else none).isSome] ∧ m' = m := by
  have h0 := h
  obtain ⟨⟨B, cB, hS⟩, hks⟩ := h
  have hB := hS.rd 1 rfl
  refine fcalls_of_vc (T := tbl) (B := bodies) (pr := [99999]) (DR := dr44) (args := [.v (.pointer (some ⟨r, 0, none⟩)), .v (.slice A ks.length c)]) tbl_ok bodies_ok mixed Try.func44 rfl (by decide +kernel) (by simp [Try.f44]) rfl ?_
  (conv => whnf)
  refine FCalls.mono (rat_c h0 hK hA hl hw) ?_
  rintro v M1 ⟨rfl, rfl⟩
  by_cases hc : (ks.length : Int) = w
  · rw [if_pos hc, if_pos hc]
    cases ht : there ks (ent l) with
    | false =>
      have h1 : f ks = none := by have := there_f hf (ks := ks); rw [ht] at this; simpa using this.symm
      rw [h1]
      (conv => whnf)
      exact ⟨rfl, rfl⟩
    | true =>
      obtain ⟨v0, hv0, hfv⟩ := there_v hf ht
      unfold ent at hv0
      rw [List.getElem?_map] at hv0
      cases he : l[pos ks (ent l)]? with
      | none => unfold ent at he; rw [he] at hv0; cases hv0
      | some e =>
        have he' := he
        unfold ent at he'
        rw [he'] at hv0
        have hev : e.v = v0 := by simpa using (congrArg (fun o => o.map Prod.snd) hv0)
        obtain ⟨q, hq, hc1, hc2⟩ := re_at hB he
        have hlt := (List.getElem?_eq_some_iff.1 he).1
        rw [hfv]
        (conv => whnf)
        refine ⟨_, _, _, hS.cell 0 (i := 2) rfl rfl, ?_⟩
        (conv => whnf)
        refine ⟨q, hq, by omega, by omega, ?_⟩
        (conv => whnf)
        refine ⟨_, hc2, ?_⟩
        (conv => whnf)
        rw [hev]
        exact ⟨rfl, rfl⟩
  · rw [if_neg hc, if_neg hc]
    (conv => whnf)
    exact ⟨rfl, rfl⟩
end Go.Proofs.Ytoifiplefjclbaa
