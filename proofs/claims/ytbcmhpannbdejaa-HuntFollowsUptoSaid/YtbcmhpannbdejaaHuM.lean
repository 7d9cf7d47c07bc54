/- Hunt: lay, its walk. -/
import Derived.Test.YtbcmhpannbdejaaHuL
namespace Go.Proofs.Ytbcmhpannbdejaa
open Go Go.Mv Go.Mv.Hunt
set_option maxHeartbeats 1000000
set_option maxRecDepth 10000
set_option linter.unusedVariables false
set_option linter.unusedSimpArgs false
attribute [local irreducible] FCalls IntKind.wrap bits Mem.set Mem.setCell Mem.setCells YCalls
theorem lay_c {p : Nat} {d : Hd} {m : Mem} {ss lws : List Str} (k : Tr d ss lws) (hz : Zero d) (h : hu p d m) {y : ByteArray} (h0 : 0 < y.size) (h1 : y.size ≤ 1000) (hN : d.ns.length ≤ 150000) (hlw : lws.length ≤ 100) (hlng : d.lng.length ≤ 100) :
    FCalls Try.prog 16 [.pointer (some ⟨p, 0, none⟩), .int .i64 ((lws.length : Nat) : Int), .string y] m fun v m' => v = .tuple #[] ∧ ∃ d' ss', hu p d' m' ∧ Tr d' ss' (lws ++ [str d.fold y]) ∧ Zero d' ∧ d'.ns.length ≤ d.ns.length + y.size ∧ d'.lng.length = d.lng.length + 1 ∧ d'.fold = d.fold := by
  have hlen := str_len (fold := d.fold) (y := y)
  refine fcalls_of_vc (T := tbl) (B := bodies) (pr := [99999]) (DR := (100006, 0) :: dr16) (args := [.v (.pointer (some ⟨p, 0, none⟩)), .v (.int .i64 ((lws.length : Nat) : Int)), .v (.string y)]) tbl_ok bodies_ok mixed Try.func16 rfl (by decide +kernel) (by simp [Try.f16]) rfl ?_
  (conv => whnf)
  refine loop_keep [0, 1, 2, 10] (Nat × Nat × Hd × List Str × Mem) (fun s => [(11, .v (.int .i64 ((s.1 : Nat) : Int))), (6, .v (.int .i32 ((s.2.1 : Nat) : Int)))]) (fun _ => []) (fun s => s.2.2.2.2)
    (fun s => s.1 ≤ y.size ∧ Tr s.2.2.1 s.2.2.2.1 lws ∧ Zero s.2.2.1 ∧ s.2.2.1.ns.length ≤ d.ns.length + s.1 ∧ s.2.2.1.lng = d.lng ∧ s.2.2.1.fold = d.fold ∧ s.2.2.2.1[s.2.1]? = some ((str d.fold y).take s.1) ∧ hu p s.2.2.1 s.2.2.2.2) (fun s => y.size - s.1)
    (0, 0, d, ss, m) ⟨rfl, rfl, trivial⟩ rfl rfl ⟨Nat.zero_le _, k, hz, Nat.le_refl _, rfl, rfl, k.trie.root, h⟩ ?_
  clear h k hz
  (conv => whnf)
  refine ⟨rfl, ?_⟩
  rintro ⟨i, n, e, ss, M⟩ ⟨hJ1, k, hz, hE, hl2, hf, hn, h⟩
  simp only at hJ1 k hz hE hl2 hf hn h
  obtain ⟨nd, hnd⟩ := k.nd hn
  have hlt := k.lt hn
  (conv => whnf)
  refine brk_intro (fun c1 => ?_) (fun c1 => ?_)
  · have c1 : (i : Int) < (y.size : Nat) := by simpa using c1
    obtain ⟨c, hc, hbt, hxc⟩ := str_at (fold := d.fold) (y := y) (i := i) (by omega)
    have hlo := low_lt (fold := d.fold) hc
    have step1 : IntKind.i64.wrap ((i : Int) + 1) = ((i + 1 : Nat) : Int) := wrap_id (by omega) (by omega)
    have htk := take_snoc hxc
    have hdp := k.dp n nd _ hnd hn
    rw [List.length_take, hlen, Nat.min_eq_left (by omega)] at hdp
    obtain ⟨q, q0, q1, q2⟩ := hu_next h hnd hlo
    have hcl := lower_c h hc
    rw [hf] at hcl
    generalize low d.fold c = lc at *
    (conv => whnf)
    refine ⟨by omega, c1, ?_⟩
    rw [hbt]
    (conv => whnf)
    refine FCalls.mono hcl ?_
    rintro v m' ⟨rfl, rfl⟩
    refine join_keep [0, 1, 2, 6, 7, 8, 10, 11] (Hd × List Str × Nat × Mem) (fun _ => []) (fun s => s.2.2.2) (fun s => ∃ nd' : Nd, Tr s.1 s.2.1 lws ∧ Zero s.1 ∧ s.1.ns.length ≤ d.ns.length + i + 1 ∧ s.1.lng = d.lng ∧ s.1.fold = d.fold ∧ s.1.ns[n]? = some nd' ∧ nd'.nx lc = s.2.2.1 ∧ s.2.1[s.2.2.1]? = some ((str d.fold y).take (i + 1)) ∧ hu p s.1 s.2.2.2) ?_
    (conv => whnf)
    refine ⟨?_, ?_⟩
    · (conv => whnf); refine ⟨_, _, _, hu_cell h (i := 0) rfl, ?_⟩; (conv => whnf); refine ⟨_, q0, by omega, q1, ?_⟩; (conv => whnf); refine ⟨by omega, by omega, ?_⟩; (conv => whnf); refine ⟨_, q2, ?_⟩; (conv => whnf)
      refine brk_intro (fun c2 => ?_) (fun c2 => ?_)
      · have c2 : nd.nx lc = 0 := by simpa using c2
        (conv => whnf)
        refine ⟨_, _, _, hu_cell h (i := 0) rfl, ?_⟩
        (conv => whnf)
        intro nb m2 hb he
        rw [step1] at he
        obtain ⟨ok, hR⟩ := nodes_app (dp := i + 1) h hb (he.trans rfl) (by omega)
        clear hb he
        (conv => whnf)
        refine ⟨_, _, ok, fun A' c' m3 hr => ?_⟩
        have hS := hR _ _ _ hr
        clear ok hR hr
        (conv => whnf)
        refine ⟨hS.room 0 (i := 0) rfl rfl, fun m4 he => ?_⟩
        have h2 : hu p { e with ns := e.ns ++ [bare (i + 1)], nA := A', nc := c' } m4 := by
          unfold hu Hd.head
          simp only
          rw [List.length_append]
          exact hS.put' 0 he rfl
        clear hS he
        have hnd2 : (e.ns ++ [bare (i + 1)])[n]? = some nd := by rw [List.getElem?_append_left (lt_of_get hnd)]; exact hnd
        obtain ⟨r, r0, r1, r2⟩ := next_put (x := e.ns.length) hnd2 hlo h2
        (conv => whnf)
        refine ⟨_, _, _, hu_cell h2 (i := 0) rfl, ?_⟩
        (conv => whnf)
        refine ⟨_, _, _, hu_cell h2 (i := 0) rfl, ?_⟩
        have hlt3 : ((n : Nat) : Int) < ((e.ns ++ [bare (i + 1)]).length : Nat) := by have := lt_of_get hnd2; omega
        (conv => whnf)
        refine ⟨_, r0, by omega, hlt3, ?_⟩
        (conv => whnf)
        refine ⟨Int.natCast_nonneg _, Int.ofNat_lt.2 hlo, ?_⟩
        (conv => whnf)
        refine ⟨r1, fun m5 he => ?_⟩
        have e1 : IntKind.i32.wrap (IntKind.i64.wrap ((((e.ns ++ [bare (i + 1)]).length : Nat) : Int) - 1)) = ((e.ns.length : Nat) : Int) := by
          rw [List.length_append, List.length_singleton, wrap_id (by omega) (by omega), wrap32 (by omega) (by omega)]
          omega
        have e2 : e.ns ++ [bare (i + 1)] = e.ns ++ [bare (nd.dp + 1)] := by rw [hdp]
        rw [show (_ : Int) = ((e.ns.length : Nat) : Int) from e1] at he
        replace h2 := he ▸ r2
        clear he r0 r1 r2
        (conv => whnf)
        have k3 := k.grown (d' := { e with ns := grown e.ns n lc nd, nA := A', nc := c' }) hnd hn hlo c2 rfl (by omega)
        rw [← htk] at k3
        refine ⟨({ e with ns := grown e.ns n lc nd, nA := A', nc := c' }, _, e.ns.length, m5), le_eq ⟨rfl, rfl, rfl, rfl, rfl, rfl, rfl, rfl, trivial⟩ rfl rfl rfl, { nd with nx := fun c' => if c' = lc then e.ns.length else nd.nx c' }, k3, hz.grown hnd rfl, ?_, hl2, hf, ?_, ?_, ?_, ?_⟩
        · simp only [grown, List.length_set, List.length_append, List.length_singleton]
          omega
        · have := lt_of_get hnd
          show (grown e.ns n lc nd)[n]? = _
          unfold grown
          rw [List.getElem?_set_self (by simp; omega)]
        · simp only [if_true]
        · simp only
          rw [← k.len]
          simp
        · have e3 : grown e.ns n lc nd = (e.ns ++ [bare (i + 1)]).set n { nd with nx := fun c' => if c' = lc then e.ns.length else nd.nx c' } := by rw [e2]; rfl
          simp only
          rw [e3]
          exact h2
      · have c2 : nd.nx lc ≠ 0 := by simpa using c2
        (conv => whnf)
        have hn2 := k.trie.step n lc _ hn hlo (by rw [nxOf_at hnd]; exact c2)
        rw [← htk, nxOf_at hnd] at hn2
        exact ⟨(e, ss, nd.nx lc, _), le_eq ⟨rfl, rfl, rfl, rfl, rfl, rfl, rfl, rfl, trivial⟩ rfl rfl rfl, nd, k, hz, by simp only; omega, hl2, hf, hnd, rfl, hn2, h⟩
    · rintro ⟨e2, ss2, n2, M2⟩ ⟨nd2, k2, hz2, hE2, hl3, hf2, hnd2, hnx, hn2, h2⟩
      simp only at k2 hz2 hE2 hl3 hf2 hnd2 hnx hn2 h2
      obtain ⟨q, q0, q1, q2⟩ := hu_next h2 hnd2 hlo
      rw [hnx] at q2
      (conv => whnf); refine ⟨_, _, _, hu_cell h2 (i := 0) rfl, ?_⟩; (conv => whnf); refine ⟨_, q0, by omega, q1, ?_⟩; (conv => whnf); refine ⟨by omega, by omega, ?_⟩; (conv => whnf); refine ⟨_, q2, ?_⟩; (conv => whnf)
      exact ⟨(i + 1, n2, e2, ss2, M2), le_eq ⟨by show some (AV.v (.int .i64 (IntKind.i64.wrap ((i : Int) + 1)))) = _; rw [step1], rfl, rfl, rfl, rfl, rfl, trivial⟩ rfl rfl rfl, ⟨by simp only; omega, k2, hz2, by simp only; omega, hl3, hf2, hn2, h2⟩, by simp only; omega⟩
  · have c1 : ¬ (i : Int) < (y.size : Nat) := by simpa using c1
    have : i = y.size := by omega
    subst this
    rw [← hlen, List.take_length] at hn
    obtain ⟨q, q0, q1, q2⟩ := hu_node h hnd (Nd.at2 nd)
    (conv => whnf)
    have hws : nd.ws.length ≤ 100 := by
      rw [k.ids n nd _ hnd hn]
      have := (List.range lws.length).length_filter_le (fun j => decide (lws[j]? = some (str d.fold y)))
      rw [List.length_range] at this
      exact Nat.le_trans this hlw
    refine ⟨_, _, _, hu_cell h (i := 0) rfl, ?_⟩
    (conv => whnf)
    refine ⟨_, q0, by omega, q1, ?_⟩
    (conv => whnf)
    refine ⟨_, _, _, q2, ?_⟩
    refine ⟨?ga, ?gb, trivial⟩
    case' ga =>
      (conv => whnf)
      refine ⟨_, _, _, hu_cell h (i := 0) rfl, ?_⟩
    all_goals
      (conv => whnf)
      intro nb m2 hb he
      obtain ⟨ok, hR⟩ := words_app (x := lws.length) h hnd hb (he.trans rfl) hws
      have hc0 := Mem.le_cell (he ▸ Mem.le_set hb : M.le m2) (hu_cell h (i := 0) rfl)
      clear he hb
      (conv => whnf)
    case' gb =>
      refine ⟨?gc, ?gd, trivial⟩
    case' gc =>
      (conv => whnf)
      refine ⟨_, _, _, hc0, ?_⟩
    all_goals
      (conv => whnf)
      refine ⟨_, _, ok, fun A' c' m3 hr => ?_⟩
      have hS := hR _ _ _ hr
      clear ok hR hr
      (conv => whnf)
    case' gd =>
      refine ⟨_, _, _, hS.cell 0 (i := 0) rfl rfl, ?_⟩
      (conv => whnf)
    all_goals
      obtain ⟨w, w0, w1, w2⟩ := words_put hnd hS
      refine ⟨_, w0, by omega, q1, ?_⟩
      (conv => whnf)
      refine ⟨w1, fun m4 he => ?_⟩
      have h2 := he ▸ w2
      clear w0 w1 w2 he hS hc0
      (conv => whnf)
      refine ⟨_, _, _, hu_cell h2 (i := 1) rfl, ?_⟩
      (conv => whnf)
      intro nb2 m5 hb he
      obtain ⟨ok, hR⟩ := long_app (x := y.size) h2 hb (he.trans rfl) (by show e.lng.length ≤ 100; rw [hl2]; exact hlng)
      clear he hb
      (conv => whnf)
      refine ⟨_, _, ok, fun A2 c2 m6 hr => ?_⟩
      obtain ⟨w1, w2⟩ := hR _ _ _ hr
      clear ok hR hr
      (conv => whnf)
      refine ⟨w1, fun m7 he => ?_⟩
      have h3 := he ▸ w2
      clear w1 w2 he h2
      (conv => whnf)
      have hs0 : str d.fold y ≠ [] := by
        intro e1
        rw [e1] at hlen
        simp at hlen
        omega
      refine ⟨rfl, _, ss, h3, k.worded hnd hn hs0 rfl, hz.worded hnd rfl, ?_, ?_, hf⟩
      · simp only [worded, List.length_set]
        exact hE
      · simp only [List.length_append, List.length_singleton, hl2]
end Go.Proofs.Ytbcmhpannbdejaa
