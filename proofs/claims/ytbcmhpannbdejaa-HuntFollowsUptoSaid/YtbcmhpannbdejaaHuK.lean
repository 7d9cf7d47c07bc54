/- Hunt: link. -/
import Derived.Test.YtbcmhpannbdejaaHuL
namespace Go.Proofs.Ytbcmhpannbdejaa
open Go Go.Mv Go.Mv.Hunt
set_option maxHeartbeats 1000000
set_option maxRecDepth 10000
set_option linter.unusedVariables false
set_option linter.unusedSimpArgs false
attribute [local irreducible] FCalls IntKind.wrap bits Mem.set Mem.setCell Mem.setCells YCalls
/-- The nodes of S go back to where they should. -/
def LnkS (d : Hd) (ss lws : List Str) (S : Nat → Prop) : Prop := ∀ (u : Nat) nd s, d.ns[u]? = some nd → ss[u]? = some s → S u → Lsuf ss s.tail nd.bk ∧ Wsuf ss (· ∈ lws) s.tail nd.ou
def linked (ns : List Nd) (m b o : Nat) (nd : Nd) : List Nd := ns.set m { nd with bk := b, ou := o }
theorem field_put {p n o : Nat} {e : Hd} {nd nd' : Nd} {v : Value} {m3 : Mem} (hn : e.ns[n]? = some nd) (ho : o < 260) (hc : nd.cells.set o v = nd'.cells) (hw : wpart nd' = wpart nd) (h : hu p e m3) :
    ∃ q, e.nA = some q ∧ ((n : Nat) : Int) < (e.ns.length : Nat) ∧ ((∃ u, m3.cell ((q.add (n * 260)).add o) = some u) ∧ m3.fz ((q.add (n * 260)).add o) = false) ∧ hu p { e with ns := e.ns.set n nd' } (m3.setCell ((q.add (n * 260)).add o) v) := by
  have hl := lt_of_get hn
  obtain ⟨q, h1, h2, h3⟩ := Sep.stf h 1 (k := n * 260) (off := o) v rfl (by rw [flat_len Nd.len]; omega)
  refine ⟨q, h1, by omega, h2, ?_⟩
  rw [flat_set (nd' := nd') hn ho hc] at h3
  unfold hu Hd.head wsp
  simp only
  rw [List.length_set, wparts_set (nd' := nd') hn hw]
  exact h3
def nxs (nx : Nat → Nat) : List Int := (List.range 256).map fun c => ((nx c : Nat) : Int)
theorem nxs_len (nx : Nat → Nat) : (nxs nx).length = 256 := by simp [nxs]
theorem nxs_at {nx : Nat → Nat} {c : Nat} (hc : c < 256) : (nxs nx).getD c 0 = ((nx c : Nat) : Int) := by simp [nxs, List.getD, hc]
theorem hu_nexts {p : Nat} {d : Hd} {m : Mem} (h : hu p d m) {n : Nat} {nd : Nd} (hn : d.ns[n]? = some nd) : ∃ q, d.nA = some q ∧ ((n : Nat) : Int) < (d.ns.length : Nat) ∧ ∀ c, c < 256 → m.cell (((q.add (n * 260)).add 0).add c) = some (.int .i32 ((nxs nd.nx).getD c 0)) := by
  have hl := lt_of_get hn
  obtain ⟨q, h1, h2, h3⟩ := hu_next h hn (c := 0) (by omega)
  refine ⟨q, h1, h2, fun c hc => ?_⟩
  obtain ⟨q', g1, _, g3⟩ := hu_next h hn hc
  rw [h1] at g1
  cases g1
  rw [Nat.mul_one] at g3
  rw [g3, nxs_at hc]
/-- d' is d but for the links. -/
structure Alike (d d' : Hd) : Prop where
  len : d'.ns.length = d.ns.length
  fold : d'.fold = d.fold
  at' : ∀ (v : Nat) nd', d'.ns[v]? = some nd' → ∃ nd, d.ns[v]? = some nd ∧ nd'.nx = nd.nx ∧ nd'.dp = nd.dp ∧ nd'.ws = nd.ws
theorem Alike.refl (d : Hd) : Alike d d := ⟨rfl, rfl, fun v nd h => ⟨nd, h, rfl, rfl, rfl⟩⟩
theorem Alike.nx {d d' : Hd} (h : Alike d d') : nxOf d'.ns = nxOf d.ns := by
  funext v c
  unfold nxOf
  cases h1 : d'.ns[v]? with
  | some ndv =>
    obtain ⟨ndw, g1, g2, _⟩ := h.at' v ndv h1
    rw [g1]
    simp only [g2]
  | none =>
    rw [List.getElem?_eq_none_iff, h.len] at h1
    rw [List.getElem?_eq_none h1]
theorem Alike.tr {d d' : Hd} {ss lws : List Str} (h : Alike d d') (k : Tr d ss lws) : Tr d' ss lws := by
  refine ⟨by rw [h.nx]; exact k.trie, by rw [h.len]; exact k.len, by rw [h.len]; exact k.small, fun v ndv sv h1 h2 => ?_, fun v ndv sv h1 h2 => ?_, k.all, k.w0⟩
  · obtain ⟨ndw, g1, _, g3, _⟩ := h.at' v ndv h1
    rw [g3]; exact k.dp v ndw sv g1 h2
  · obtain ⟨ndw, g1, _, _, g4⟩ := h.at' v ndv h1
    rw [g4]; exact k.ids v ndw sv g1 h2
theorem Alike.put {d d' : Hd} (h : Alike d d') {m : Nat} {nd nd' : Nd} (hm : d'.ns[m]? = some nd) (h1 : nd'.nx = nd.nx) (h2 : nd'.dp = nd.dp) (h3 : nd'.ws = nd.ws) {d2 : Hd} (hd : d2.ns = d'.ns.set m nd') (hf : d2.fold = d'.fold) : Alike d d2 := by
  refine ⟨by rw [hd, List.length_set, h.len], by rw [hf, h.fold], fun v ndv hv => ?_⟩
  rw [hd, List.getElem?_set] at hv
  by_cases hmv : m = v
  · subst hmv
    rw [if_pos rfl, if_pos (lt_of_get hm)] at hv
    cases hv
    obtain ⟨ndw, g1, g2, g3, g4⟩ := h.at' m nd hm
    exact ⟨ndw, g1, h1.trans g2, h2.trans g3, h3.trans g4⟩
  · rw [if_neg hmv] at hv
    exact h.at' v ndv hv
/-- One kid is linked. -/
theorem LnkS.kid {d e e' : Hd} {ss lws : List Str} {S : Nat → Prop} {n c m b o : Nat} {s : Str} {ndm nd' : Nd} (k : Tr e ss lws) (hL : LnkS e ss lws (fun u => S u ∨ ∃ c', c' < c ∧ nxOf d.ns n c' = u)) (hm : nxOf d.ns n c = m) (hsm : ss[m]? = some (s ++ [c])) (hndm : e.ns[m]? = some ndm)
    (hb : Lsuf ss (s ++ [c]).tail b) (ho : Wsuf ss (· ∈ lws) (s ++ [c]).tail o) (hd : e'.ns = e.ns.set m nd') (h1 : nd'.bk = b) (h2 : nd'.ou = o) : LnkS e' ss lws (fun u => S u ∨ ∃ c', c' < c + 1 ∧ nxOf d.ns n c' = u) := by
  intro u ndu su g1 g2 g3
  rw [hd, List.getElem?_set] at g1
  by_cases hmu : m = u
  · subst hmu
    rw [if_pos rfl, if_pos (lt_of_get hndm)] at g1
    cases g1
    rw [hsm] at g2
    cases g2
    rw [h1, h2]
    exact ⟨hb, ho⟩
  · rw [if_neg hmu] at g1
    refine hL u ndu su g1 g2 ?_
    rcases g3 with g3 | ⟨c', g3, g4⟩
    · exact .inl g3
    · by_cases hcc : c' = c
      · subst hcc
        exact absurd (hm.symm.trans g4) hmu
      · exact .inr ⟨c', by omega, g4⟩
theorem link_c {p : Nat} {d : Hd} {m : Mem} {ss lws : List Str} (k : Tr d ss lws) (h : hu p d m) {n : Nat} {s : Str} {S : Nat → Prop} (hn : ss[n]? = some s) (hL : LnkS d ss lws S) (hS : ∀ (u : Nat) t, ss[u]? = some t → t.length ≤ s.length → S u) :
    FCalls Try.prog 18 [.pointer (some ⟨p, 0, none⟩), .int .i32 ((n : Nat) : Int)] m fun v m' => v = .tuple #[] ∧ ∃ d', hu p d' m' ∧ Alike d d' ∧ LnkS d' ss lws (fun u => S u ∨ ∃ c, c < 256 ∧ nxOf d.ns n c = u) := by
  obtain ⟨nd, hnd⟩ := k.nd hn
  have hlt := k.lt hn
  have hnx : ∀ c, nxOf d.ns n c = nd.nx c := fun c => nxOf_at hnd
  obtain ⟨q, q0, q1, q2⟩ := hu_nexts h hnd
  refine fcalls_of_vc (T := tbl) (B := bodies) (pr := [99999]) (DR := (100008, 0) :: dr18) (args := [.v (.pointer (some ⟨p, 0, none⟩)), .v (.int .i32 ((n : Nat) : Int))]) tbl_ok bodies_ok mixed Try.func18 rfl (by decide +kernel) (by simp [Try.f18]) rfl ?_
  (conv => whnf)
  refine ⟨_, _, _, hu_cell h (i := 0) rfl, ?_⟩
  (conv => whnf)
  refine ⟨_, q0, by omega, q1, ?_⟩
  (conv => whnf)
  refine ⟨nxs nd.nx, nxs_len _, q2, ?_⟩
  clear q0 q1 q2
  (conv => whnf)
  refine loop_keep [0, 1, 14] (Nat × Hd × Mem) (fun s => [(15, .v (.int .i64 ((s.1 : Nat) : Int)))]) (fun _ => []) (fun s => s.2.2)
    (fun t => t.1 ≤ 256 ∧ hu p t.2.1 t.2.2 ∧ Alike d t.2.1 ∧ LnkS t.2.1 ss lws (fun u => S u ∨ ∃ c, c < t.1 ∧ nxOf d.ns n c = u)) (fun t => 256 - t.1)
    (0, d, m) ⟨rfl, trivial⟩ rfl rfl ⟨by omega, h, Alike.refl d, fun u nd s h1 h2 h3 => hL u nd s h1 h2 (h3.elim id fun ⟨c, hc, _⟩ => by simp only at hc; omega)⟩ ?_
  clear h
  (conv => whnf)
  refine ⟨rfl, ?_⟩
  rintro ⟨c, e, M⟩ ⟨hJ1, h, hA, hLe⟩
  simp only at hJ1 h hA hLe
  (conv => whnf)
  refine brk_intro (fun c1 => ?_) (fun c1 => ?_)
  · have c1 : (c : Int) < 256 := by simpa using c1
    have hc : c < 256 := by omega
    have step1 : IntKind.i64.wrap ((c : Int) + 1) = ((c + 1 : Nat) : Int) := wrap_id (by omega) (by omega)
    (conv => whnf)
    refine ⟨by omega, c1, by rw [nxs_len]; omega, ?_⟩
    rw [show (nxs nd.nx).getD ((c : Nat) : Int).toNat 0 = ((nd.nx c : Nat) : Int) from nxs_at hc]
    (conv => whnf)
    refine brk_intro (fun c2 => ?_) (fun c2 => ?_)
    · have c2 : nd.nx c = 0 := by simpa using c2
      (conv => whnf)
      refine ⟨(c + 1, e, M), le_eq ⟨by show some (AV.v (.int .i64 (IntKind.i64.wrap ((c : Int) + 1)))) = _; rw [step1], rfl, rfl, rfl, trivial⟩ rfl rfl rfl, ⟨by simp only; omega, h, hA, fun u ndu su g1 g2 g3 => ?_⟩, by simp only; omega⟩
      refine hLe u ndu su g1 g2 ?_
      simp only at g3
      rcases g3 with g3 | ⟨c', g3, g4⟩
      · exact .inl g3
      · by_cases hcc : c' = c
        · subst hcc
          rw [hnx, c2] at g4
          subst g4
          exact .inl (hS 0 [] k.trie.root (by simp))
        · exact .inr ⟨c', by omega, g4⟩
    · have c2 : nd.nx c ≠ 0 := by simpa using c2
      have kE := hA.tr k
      have hsm := k.trie.step n c s hn hc (by rw [hnx]; exact c2)
      rw [hnx] at hsm
      obtain ⟨ndm, hndm⟩ := kE.nd hsm
      have hltm := k.lt hsm
      obtain ⟨nde, hnde⟩ := kE.nd hn
      have hln := hLe n nde s hnde hn (.inl (hS n s hn (Nat.le_refl _)))
      obtain ⟨q, q0, q1, q2⟩ := hu_node h hnde (Nd.at3 nde)
      (conv => whnf); refine ⟨_, _, _, hu_cell h (i := 0) rfl, ?_⟩; (conv => whnf); refine ⟨_, q0, by omega, q1, ?_⟩; (conv => whnf); refine ⟨_, q2, ?_⟩; (conv => whnf)
      have hb0 : ∃ t, ss[nde.bk]? = some t ∧ t <:+ s.tail := by
        obtain ⟨t, h1, h2, _⟩ := hln.1
        exact ⟨t, h1, h2⟩
      refine loop_keep [0, 1, 4, 5, 14, 15] Nat (fun b => [(6, .v (.int .i32 ((b : Nat) : Int)))]) (fun _ => []) (fun _ => M)
        (fun b => (∃ t, ss[b]? = some t ∧ t <:+ s.tail) ∧ (n ≠ 0 → Hunt.Way ss s.tail c b) ∧ (n = 0 → b = nde.bk)) (fun b => dep ss b) nde.bk ⟨rfl, trivial⟩ rfl rfl ⟨hb0, fun _ => Hunt.Way.start k.trie hln.1, fun _ => rfl⟩ ?_
      clear q0 q1 q2 hb0
      (conv => whnf)
      refine ⟨rfl, ?_⟩
      rintro b ⟨⟨t, ht, hts⟩, hW, hb0⟩
      obtain ⟨ndb, hndb⟩ := kE.nd ht
      have hltb := k.lt ht
      obtain ⟨q, q0, q1, q2⟩ := hu_next h hndb hc
      have hnb : nxOf d.ns b c = ndb.nx c := by rw [← hA.nx]; exact nxOf_at hndb
      have hln0 : t.length ≤ s.length := Nat.le_trans hts.length_le (by rw [List.length_tail]; omega)
      have hlb := hLe b ndb t hndb ht (.inl (hS b t ht hln0))
      -- the end of the way back
      have fin : ∀ r : Nat, (n ≠ 0 → (ndb.nx c ≠ 0 ∨ b = 0) ∧ r = ndb.nx c) → (n = 0 → r = b) → Lsuf ss (s ++ [c]).tail r := fun r h1 h2 => by
        by_cases h0 : n = 0
        · have e1 := h2 h0
          have e2 := hb0 h0
          subst h0
          rw [k.trie.root] at hn
          cases hn
          subst e1
          have e3 := Lsuf.one k.trie hln.1 (Lsuf.nil k.trie)
          rw [e2, e3]
          exact Lsuf.nil k.trie
        · obtain ⟨h3, rfl⟩ := h1 h0
          have hsne : s ≠ [] := by
            rintro rfl
            exact h0 (k.trie.one n 0 [] hn k.trie.root)
          have e1 : (s ++ [c]).tail = s.tail ++ [c] := by
            cases s with
            | nil => exact absurd rfl hsne
            | cons a r => rfl
          rw [e1]
          by_cases h4 : ndb.nx c = 0
          · have hb : b = 0 := h3.resolve_left fun h => h h4
            subst hb
            rw [h4]
            exact (hW h0).none k.trie (by rw [hnb]; exact h4)
          · rw [← hnb]
            exact (hW h0).found k.trie hc (by rw [hnb]; exact h4)
      have hJ : ∀ r : Nat, Lsuf ss (s ++ [c]).tail r → True := fun _ _ => trivial
      by_cases c3 : n = 0
      case' pos =>
        (conv => whnf)
        refine brk_false (by simp [c3]) ?_
        (conv => whnf)
        refine join_keep [0, 1, 4, 5, 14, 15] Nat (fun r => [(6, .v (.int .i32 ((r : Nat) : Int)))]) (fun _ => M) (fun r => Lsuf ss (s ++ [c]).tail r) ?_
        (conv => whnf)
        refine ⟨?_, ?_⟩
        · (conv => whnf)
          refine brk_false (by simp [c3]) ?_
          (conv => whnf)
          exact ⟨b, le_eq ⟨rfl, rfl, rfl, rfl, rfl, rfl, rfl, trivial⟩ rfl rfl rfl, fin b (fun h => absurd c3 h) fun _ => rfl⟩
      case' neg =>
        (conv => whnf)
        refine brk_true (by simp [c3]) ?_
        (conv => whnf)
        by_cases c4 : b = 0
        case' pos =>
          refine brk_false (by simp [c4]) ?_
          (conv => whnf)
        case' neg =>
          refine brk_true (by simp [c4]) ?_
          (conv => whnf); refine ⟨_, _, _, hu_cell h (i := 0) rfl, ?_⟩; (conv => whnf); refine ⟨_, q0, by omega, q1, ?_⟩; (conv => whnf); refine ⟨by omega, by omega, ?_⟩; (conv => whnf); refine ⟨_, q2, ?_⟩; (conv => whnf)
          by_cases c5 : ndb.nx c = 0
          case' pos =>
            refine brk_true (by simp [c5]) ?_
            obtain ⟨r, r0, r1, r2⟩ := hu_node h hndb (Nd.at3 ndb)
            (conv => whnf); refine ⟨_, _, _, hu_cell h (i := 0) rfl, ?_⟩; (conv => whnf); refine ⟨_, r0, by omega, r1, ?_⟩; (conv => whnf); refine ⟨_, r2, ?_⟩; (conv => whnf)
            obtain ⟨t2, ht2, hts2, _⟩ := id hlb.1
            refine ⟨ndb.bk, le_eq ⟨rfl, rfl, rfl, rfl, rfl, rfl, rfl, trivial⟩ rfl rfl rfl, ⟨⟨t2, ht2, hts2.trans ((List.tail_suffix t).trans hts)⟩, fun h0 => (hW h0).back k.trie ht hlb.1 (by rw [hnb]; exact c5), fun h0 => absurd h0 c3⟩, ?_⟩
            rw [dep_of ht, dep_of ht2]
            exact Lsuf.shorter k.trie ht c4 hlb.1 ht2
          case' neg =>
            refine brk_false (by simp [c5]) ?_
            (conv => whnf)
        all_goals
          refine join_keep [0, 1, 4, 5, 14, 15] Nat (fun r => [(6, .v (.int .i32 ((r : Nat) : Int)))]) (fun _ => M) (fun r => Lsuf ss (s ++ [c]).tail r) ?_
          (conv => whnf)
          refine ⟨?_, ?_⟩
          · (conv => whnf)
            refine brk_true (by simp [c3]) ?_
            (conv => whnf); refine ⟨_, _, _, hu_cell h (i := 0) rfl, ?_⟩; (conv => whnf); refine ⟨_, q0, by omega, q1, ?_⟩; (conv => whnf); refine ⟨by omega, by omega, ?_⟩; (conv => whnf); refine ⟨_, q2, ?_⟩; (conv => whnf)
            exact ⟨ndb.nx c, le_eq ⟨rfl, rfl, rfl, rfl, rfl, rfl, rfl, trivial⟩ rfl rfl rfl, fin _ (fun _ => ⟨by first | exact .inr c4 | exact .inl c5, rfl⟩) fun h => absurd h c3⟩
      all_goals
        clear q0 q1 q2 hJ
        rintro b2 hb2
        obtain ⟨t2, ht2, hts2, _⟩ := id hb2
        obtain ⟨nd2, hnd2⟩ := kE.nd ht2
        have hlt2 := k.lt ht2
        have hl2 : t2.length ≤ s.length := by
          have := hts2.length_le
          rw [List.length_tail, List.length_append, List.length_singleton] at this
          omega
        have hne : nd.nx c ≠ b2 := by
          intro e1
          rw [e1, ht2] at hsm
          have e2 := congrArg List.length (Option.some.inj hsm)
          rw [List.length_append, List.length_singleton] at e2
          omega
        have hl3 := hLe b2 nd2 t2 hnd2 ht2 (.inl (hS b2 t2 ht2 hl2))
        have hens := kE.ends hnd2 ht2
        have ht20 : b2 ≠ 0 → t2 ≠ [] := fun h0 h1 => h0 (k.trie.one b2 0 [] (h1 ▸ ht2) k.trie.root)
        obtain ⟨q, q0, q1, q2, q3⟩ := field_put (nd' := { ndm with bk := b2 }) hndm (o := 258) (by omega) cells_bk rfl h
        (conv => whnf)
        refine ⟨_, _, _, hu_cell h (i := 0) rfl, ?_⟩
        (conv => whnf)
        refine ⟨_, q0, by omega, q1, ?_⟩
        (conv => whnf)
        refine ⟨q2, fun M1 he => ?_⟩
        have h1 := he ▸ q3
        clear q0 q1 q2 q3 he
        have hm1 : (e.ns.set (nd.nx c) { ndm with bk := b2 })[nd.nx c]? = some { ndm with bk := b2 } := List.getElem?_set_self (lt_of_get hndm)
        have hb1 : (e.ns.set (nd.nx c) { ndm with bk := b2 })[b2]? = some nd2 := by rw [List.getElem?_set_ne hne]; exact hnd2
        obtain ⟨r, r0, r1, r2⟩ := hu_node (d := { e with ns := e.ns.set (nd.nx c) { ndm with bk := b2 } }) h1 hb1 (Nd.at4 nd2)
        obtain ⟨q, q0, q1, q2, q3⟩ := field_put (e := { e with ns := e.ns.set (nd.nx c) { ndm with bk := b2 } }) (nd' := { ndm with bk := b2, ou := nd2.ou }) hm1 (o := 259) (by omega) cells_ou rfl h1
        (conv => whnf)
        refine ⟨_, _, _, hu_cell h1 (i := 0) rfl, ?_⟩
        (conv => whnf)
        refine ⟨_, _, _, hu_cell h1 (i := 0) rfl, ?_⟩
        (conv => whnf)
        refine ⟨_, r0, by omega, r1, ?_⟩
        (conv => whnf)
        refine ⟨_, r2, ?_⟩
        (conv => whnf)
        refine ⟨_, q0, by omega, q1, ?_⟩
        (conv => whnf)
        refine ⟨q2, fun M2 he => ?_⟩
        have h2 := he ▸ q3
        clear q0 q1 q2 q3 he r0 r1 r2 h1
        simp only [List.set_set] at h2
        have hm2 : (e.ns.set (nd.nx c) { ndm with bk := b2, ou := nd2.ou })[nd.nx c]? = some { ndm with bk := b2, ou := nd2.ou } := List.getElem?_set_self (lt_of_get hndm)
        have hb3 : (e.ns.set (nd.nx c) { ndm with bk := b2, ou := nd2.ou })[b2]? = some nd2 := by rw [List.getElem?_set_ne hne]; exact hnd2
        obtain ⟨r, r0, r1, r2⟩ := hu_node (d := { e with ns := e.ns.set (nd.nx c) { ndm with bk := b2, ou := nd2.ou } }) h2 hb3 (Nd.at2 nd2)
        (conv => whnf); refine ⟨_, _, _, hu_cell h2 (i := 0) rfl, ?_⟩; (conv => whnf); refine ⟨_, r0, by omega, r1, ?_⟩; (conv => whnf); refine ⟨_, _, _, r2, ?_⟩; (conv => whnf)
        refine brk_intro (fun c6 => ?_) (fun c6 => ?_)
        · have c6 : 0 < nd2.ws.length := by simpa using c6
          have hw2 : t2 ∈ lws := hens.1 (List.length_pos_iff.1 c6)
          have hb20 : b2 ≠ 0 := by
            rintro rfl
            rw [k.trie.root] at ht2
            cases ht2
            exact k.w0 hw2
          obtain ⟨q, q0, q1, q2, q3⟩ := field_put (e := { e with ns := e.ns.set (nd.nx c) { ndm with bk := b2, ou := nd2.ou } }) (nd' := { ndm with bk := b2, ou := b2 }) hm2 (o := 259) (by omega) cells_ou rfl h2
          (conv => whnf)
          refine ⟨_, _, _, hu_cell h2 (i := 0) rfl, ?_⟩
          (conv => whnf)
          refine ⟨_, q0, by omega, q1, ?_⟩
          (conv => whnf)
          refine ⟨q2, fun M3 he => ?_⟩
          have h3 := he ▸ q3
          simp only [List.set_set] at h3
          clear q0 q1 q2 q3 he
          (conv => whnf)
          refine ⟨(c + 1, _, M3), le_eq ⟨by show some (AV.v (.int .i64 (IntKind.i64.wrap ((c : Int) + 1)))) = _; rw [step1], rfl, rfl, rfl, trivial⟩ rfl rfl rfl, ⟨by simp only; omega, h3, hA.put (nd' := { ndm with bk := b2, ou := b2 }) hndm rfl rfl rfl rfl rfl, LnkS.kid (nd' := { ndm with bk := b2, ou := b2 }) kE hLe (hnx c) hsm hndm hb2 (Wsuf.here k.all hb2 ht2 hw2 hb20) rfl rfl rfl⟩, by simp only; omega⟩
        · have c6 : nd2.ws = [] := by simpa using c6
          (conv => whnf)
          refine ⟨(c + 1, _, M2), le_eq ⟨by show some (AV.v (.int .i64 (IntKind.i64.wrap ((c : Int) + 1)))) = _; rw [step1], rfl, rfl, rfl, trivial⟩ rfl rfl rfl, ⟨by simp only; omega, h2, hA.put (nd' := { ndm with bk := b2, ou := nd2.ou }) hndm rfl rfl rfl rfl rfl, LnkS.kid (nd' := { ndm with bk := b2, ou := nd2.ou }) kE hLe (hnx c) hsm hndm hb2 (Wsuf.there k.all hb2 ht2 (fun hw => hens.2 hw c6) hl3.2) rfl rfl rfl⟩, by simp only; omega⟩
  · have c1 : ¬ (c : Int) < 256 := by simpa using c1
    have : c = 256 := by omega
    subst this
    (conv => whnf)
    exact ⟨rfl, e, h, hA, hLe⟩
end Go.Proofs.Ytbcmhpannbdejaa
