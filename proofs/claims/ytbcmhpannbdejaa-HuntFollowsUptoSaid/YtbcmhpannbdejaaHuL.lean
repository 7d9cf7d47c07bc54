/- Hunt: lay. -/
import Derived.Test.YtbcmhpannbdejaaHuC
namespace Go.Proofs.Ytbcmhpannbdejaa
open Go Go.Mv Go.Mv.Hunt
set_option maxHeartbeats 1000000
set_option maxRecDepth 10000
set_option linter.unusedVariables false
set_option linter.unusedSimpArgs false
attribute [local irreducible] FCalls IntKind.wrap bits Mem.set Mem.setCell Mem.setCells YCalls
theorem flat_set {ns : List Nd} {n o : Nat} {nd nd' : Nd} {v : Value} (hn : ns[n]? = some nd) (ho : o < 260) (hc : nd.cells.set o v = nd'.cells) : (ns.flatMap Nd.cells).set (n * 260 + o) v = (ns.set n nd').flatMap Nd.cells := by
  rw [← writeAt1]
  exact flat_write Nd.len hn (by simp; omega) (by rw [writeAt1]; exact hc)
theorem cells_next {nd : Nd} {c x : Nat} (hc : c < 256) : nd.cells.set c (.int .i32 ((x : Nat) : Int)) = Nd.cells { nd with nx := fun c' => if c' = c then x else nd.nx c' } := by
  unfold Nd.cells
  rw [List.set_append_left _ _ (by rw [nexts_len]; exact hc)]
  congr 1
  apply List.ext_getElem?
  intro i
  unfold nexts
  rw [List.getElem?_set]
  by_cases hi : i < 256
  · by_cases hci : c = i
    · subst hci
      simp [hc]
    · have : ¬ i = c := fun e => hci e.symm
      simp [hi, hci, this]
  · by_cases hci : c = i
    · omega
    · simp [hi, hci]
theorem cells_words {nd : Nd} {A : Option Addr} {c : Nat} {ws : List Nat} : nd.cells.set 257 (.slice A ws.length c) = Nd.cells { nd with wA := A, ws := ws, wc := c } := by
  unfold Nd.cells
  rw [List.set_append_right _ _ (by rw [nexts_len]; omega), nexts_len]
  rfl
theorem cells_bk {nd : Nd} {x : Nat} : nd.cells.set 258 (.int .i32 ((x : Nat) : Int)) = Nd.cells { nd with bk := x } := by
  unfold Nd.cells
  rw [List.set_append_right _ _ (by rw [nexts_len]; omega), nexts_len]
  rfl
theorem cells_ou {nd : Nd} {x : Nat} : nd.cells.set 259 (.int .i32 ((x : Nat) : Int)) = Nd.cells { nd with ou := x } := by
  unfold Nd.cells
  rw [List.set_append_right _ _ (by rw [nexts_len]; omega), nexts_len]
  rfl
theorem set_same {α : Type} {l : List α} {n : Nat} {x : α} (h : l[n]? = some x) : l.set n x = l := by
  obtain ⟨h1, h2⟩ := List.getElem?_eq_some_iff.1 h
  rw [← h2]
  exact List.set_getElem_self h1
theorem wparts_set {ns : List Nd} {n : Nat} {nd nd' : Nd} (h : ns[n]? = some nd) (hw : wpart nd' = wpart nd) : (ns.set n nd').map wpart = ns.map wpart := by
  rw [List.map_set, hw]
  exact set_same (by rw [List.getElem?_map, h]; rfl)
theorem wsp_snoc {ns : List Nd} {nd : Nd} {m : Mem} (h : wsp ns m) (hA : nd.wA = none) (hc : nd.wc = 0) (hw : nd.ws = []) : wsp (ns ++ [nd]) m := by
  unfold wsp
  rw [List.map_append]
  have h1 : Sep (wpart nd :: ns.map wpart) m := ⟨Mem.empty, m, fun _ => .inl rfl, fun _ _ hh => (by cases hh), Mem.le_refl _, by unfold wpart; rw [hA, hc, hw]; exact sl_nil, h⟩
  have h2 := h1.back (j := (ns.map wpart).length) (Nat.le_refl _)
  rw [List.insertIdx_length_self] at h2
  exact h2
theorem nxOf_add {ns : List Nd} {n c x : Nat} {nd new : Nd} (h : ns[n]? = some nd) (hz : ∀ c, new.nx c = 0) : nxOf ((ns ++ [new]).set n { nd with nx := fun c' => if c' = c then x else nd.nx c' }) = fun v' c' => if v' = n ∧ c' = c then x else nxOf ns v' c' := by
  have hl := lt_of_get h
  funext v' c'
  unfold nxOf
  rw [List.getElem?_set]
  by_cases hv : n = v'
  · subst hv
    have : n < (ns ++ [new]).length := by simp; omega
    rw [if_pos rfl, if_pos this]
    by_cases hc : c' = c <;> simp [hc, h]
  · rw [if_neg hv]
    have hv' : ¬ v' = n := fun e => hv e.symm
    simp only [hv', false_and, if_false]
    rcases Nat.lt_trichotomy v' ns.length with h1 | h1 | h1
    · rw [List.getElem?_append_left h1]
    · subst h1
      simp [hz]
    · rw [List.getElem?_eq_none (by simp; omega), List.getElem?_eq_none (by omega)]
/-- A node by itself. -/
def bare (dp : Nat) : Nd := ⟨fun _ => 0, dp, none, [], 0, 0, 0⟩
def grown (ns : List Nd) (n c : Nat) (nd : Nd) : List Nd := (ns ++ [bare (nd.dp + 1)]).set n { nd with nx := fun c' => if c' = c then ns.length else nd.nx c' }
def Zero (d : Hd) : Prop := ∀ nd, nd ∈ d.ns → nd.bk = 0 ∧ nd.ou = 0
theorem Zero.grown {d : Hd} {n c : Nat} {nd : Nd} (h : Zero d) (hn : d.ns[n]? = some nd) {d' : Hd} (hd : d'.ns = grown d.ns n c nd) : Zero d' := by
  intro x hx
  rw [hd] at hx
  unfold Go.Proofs.Ytbcmhpannbdejaa.grown at hx
  rcases List.mem_or_eq_of_mem_set hx with h1 | rfl
  · rcases List.mem_append.1 h1 with h2 | h2
    · exact h x h2
    · simp at h2
      subst h2
      exact ⟨rfl, rfl⟩
  · exact h nd (List.mem_of_getElem? hn)
theorem Tr.grown {d d' : Hd} {ss lws : List Str} {n c : Nat} {nd : Nd} {s : Str} (k : Tr d ss lws) (hn : d.ns[n]? = some nd) (hs : ss[n]? = some s) (hc : c < 256) (h0 : nd.nx c = 0) (hd : d'.ns = grown d.ns n c nd) (hsm : d.ns.length < 200000) : Tr d' (ss ++ [s ++ [c]]) lws := by
  have hz : ∀ e, nxOf d.ns ss.length e = 0 := fun e => by
    unfold nxOf
    rw [k.len, List.getElem?_eq_none (Nat.le_refl _)]
  have hnn : ∀ u : Nat, ss[u]? ≠ some (s ++ [c]) := k.trie.nx_none hs (by rw [nxOf_at hn]; exact h0)
  have hni : s ++ [c] ∉ lws := fun hm => by
    obtain ⟨u, hu⟩ := k.all _ hm
    exact hnn u hu
  have hadd := k.trie.add hs hc (by rw [nxOf_at hn]; exact h0) hz
  have hdl : (d'.ns).length = d.ns.length + 1 := by rw [hd]; simp [Go.Proofs.Ytbcmhpannbdejaa.grown]
  have hold : ∀ (v : Nat) ndv sv, d'.ns[v]? = some ndv → (ss ++ [s ++ [c]])[v]? = some sv → (∃ ndw, d.ns[v]? = some ndw ∧ ss[v]? = some sv ∧ ndv.dp = ndw.dp ∧ ndv.ws = ndw.ws) ∨ (ndv = bare (nd.dp + 1) ∧ sv = s ++ [c]) := fun v ndv sv h1 h2 => by
    rw [hd] at h1
    unfold Go.Proofs.Ytbcmhpannbdejaa.grown at h1
    have hlv := lt_of_get h1
    simp at hlv
    rw [List.getElem?_set] at h1
    by_cases hv : n = v
    · subst hv
      rw [if_pos rfl, if_pos (by simp; omega)] at h1
      cases h1
      have := lt_of_get hs
      rw [List.getElem?_append_left this] at h2
      exact .inl ⟨nd, hn, h2, rfl, rfl⟩
    · rw [if_neg hv] at h1
      rcases Nat.lt_or_ge v d.ns.length with h3 | h3
      · rw [List.getElem?_append_left h3] at h1
        rw [List.getElem?_append_left (by rw [k.len]; exact h3)] at h2
        exact .inl ⟨ndv, h1, h2, rfl, rfl⟩
      · have : v = d.ns.length := by omega
        subst this
        rw [← k.len] at h2
        simp at h1 h2
        exact .inr ⟨h1.symm, h2.symm⟩
  refine ⟨?_, by rw [hdl, List.length_append, k.len]; rfl, by rw [hdl]; omega, fun v ndv sv h1 h2 => ?_, fun v ndv sv h1 h2 => ?_, fun t ht => ?_, k.w0⟩
  · have := nxOf_add (new := bare (nd.dp + 1)) (c := c) (x := d.ns.length) hn fun _ => rfl
    rw [hd, Go.Proofs.Ytbcmhpannbdejaa.grown, this, ← k.len]
    exact hadd
  · rcases hold v ndv sv h1 h2 with ⟨ndw, g1, g2, g3, _⟩ | ⟨rfl, rfl⟩
    · rw [g3]; exact k.dp v ndw sv g1 g2
    · rw [List.length_append, ← k.dp n nd s hn hs]; rfl
  · rcases hold v ndv sv h1 h2 with ⟨ndw, g1, g2, _, g4⟩ | ⟨rfl, rfl⟩
    · rw [g4]; exact k.ids v ndw sv g1 g2
    · rw [idx_nil.2 hni]; rfl
  · obtain ⟨u, hu⟩ := k.all t ht
    exact ⟨u, by rw [List.getElem?_append_left (lt_of_get hu)]; exact hu⟩
/-- A word laid at its node. -/
def worded (ns : List Nd) (n : Nat) (nd : Nd) (k : Nat) (A : Option Addr) (c : Nat) : List Nd := ns.set n { nd with wA := A, ws := nd.ws ++ [k], wc := c }
theorem Zero.worded {d d' : Hd} {n kk c : Nat} {nd : Nd} {A : Option Addr} (h : Zero d) (hn : d.ns[n]? = some nd) (hd : d'.ns = worded d.ns n nd kk A c) : Zero d' := by
  intro x hx
  rw [hd] at hx
  unfold Go.Proofs.Ytbcmhpannbdejaa.worded at hx
  rcases List.mem_or_eq_of_mem_set hx with h1 | rfl
  · exact h x h1
  · exact h nd (List.mem_of_getElem? hn)
theorem Tr.worded {d d' : Hd} {ss lws : List Str} {n c : Nat} {nd : Nd} {s : Str} {A : Option Addr} (k : Tr d ss lws) (hn : d.ns[n]? = some nd) (hs : ss[n]? = some s) (h0 : s ≠ []) (hd : d'.ns = worded d.ns n nd lws.length A c) : Tr d' ss (lws ++ [s]) := by
  have hl := lt_of_get hn
  have hold : ∀ (v : Nat) ndv, d'.ns[v]? = some ndv → ∃ ndw, d.ns[v]? = some ndw ∧ ndv.nx = ndw.nx ∧ ndv.dp = ndw.dp ∧ ((v = n ∧ ndv.ws = ndw.ws ++ [lws.length]) ∨ (v ≠ n ∧ ndv.ws = ndw.ws)) := fun v ndv h1 => by
    rw [hd] at h1
    unfold Go.Proofs.Ytbcmhpannbdejaa.worded at h1
    rw [List.getElem?_set] at h1
    by_cases hv : n = v
    · subst hv
      rw [if_pos rfl, if_pos hl] at h1
      cases h1
      exact ⟨nd, hn, rfl, rfl, .inl ⟨rfl, rfl⟩⟩
    · rw [if_neg hv] at h1
      exact ⟨ndv, h1, rfl, rfl, .inr ⟨fun e => hv e.symm, rfl⟩⟩
  have hnx : nxOf d'.ns = nxOf d.ns := by
    funext v c
    unfold nxOf
    cases h1 : d'.ns[v]? with
    | some ndv =>
      obtain ⟨ndw, g1, g2, _⟩ := hold v ndv h1
      rw [g1]
      simp only [g2]
    | none =>
      rw [List.getElem?_eq_none_iff, hd, Go.Proofs.Ytbcmhpannbdejaa.worded, List.length_set] at h1
      rw [List.getElem?_eq_none h1]
  have hdl : d'.ns.length = d.ns.length := by rw [hd]; simp [Go.Proofs.Ytbcmhpannbdejaa.worded]
  refine ⟨by rw [hnx]; exact k.trie, by rw [hdl]; exact k.len, by rw [hdl]; exact k.small, fun v ndv sv h1 h2 => ?_, fun v ndv sv h1 h2 => ?_, fun t ht => ?_, fun hm => ?_⟩
  · obtain ⟨ndw, g1, _, g3, _⟩ := hold v ndv h1
    rw [g3]; exact k.dp v ndw sv g1 h2
  · obtain ⟨ndw, g1, _, _, g4⟩ := hold v ndv h1
    rw [idx_snoc, ← k.ids v ndw sv g1 h2]
    rcases g4 with ⟨rfl, g4⟩ | ⟨g5, g4⟩
    · rw [hs] at h2
      cases h2
      rw [if_pos rfl, g4]
    · rw [if_neg, g4, List.append_nil]
      rintro rfl
      exact g5 (k.trie.one v n _ h2 hs)
  · rcases List.mem_append.1 ht with h1 | h1
    · exact k.all t h1
    · simp at h1
      subst h1
      exact ⟨n, hs⟩
  · rcases List.mem_append.1 hm with h1 | h1
    · exact k.w0 h1
    · simp at h1
      exact h0 h1
/-! ### appending -/
theorem oneCells_of : ∀ {l : List Value}, (∀ v, v ∈ l → v.oneCell' = true) → oneCells l = true
  | [], _ => rfl
  | v :: r, h => by
    show (v.oneCell' && oneCells r) = true
    rw [h v (by simp), oneCells_of fun w hw => h w (by simp [hw])]
    rfl
theorem cells_one (d : Nd) : oneCells d.cells = true := by
  refine oneCells_of fun v hv => ?_
  unfold Nd.cells nexts at hv
  rcases List.mem_append.1 hv with h1 | h1
  · obtain ⟨c, _, rfl⟩ := List.mem_map.1 h1
    rfl
  · simp at h1
    rcases h1 with rfl | rfl | rfl | rfl <;> rfl
theorem nodes_app {p : Nat} {e : Hd} {M m2 : Mem} {dp nb : Nat} (h : hu p e M) (hb : M nb = none) (he : m2 = M.set nb (.cells (bare dp).cells.toArray 61 (0, 0))) (hN : e.ns.length ≤ 200000) :
    AppOk tbl 61 m2 e.nA e.ns.length e.nc (some ⟨nb, 0, none⟩) 1 (bare dp).cells (e.ns.flatMap Nd.cells) ∧ ∀ A' c' m3, AppR tbl 61 m2 e.nA e.ns.length e.nc 1 (bare dp).cells (e.ns.flatMap Nd.cells) A' c' m3 →
      Sep [pt p e.head, sl A' (e.ns.length + 1) c' 260 ((e.ns ++ [bare dp]).flatMap Nd.cells), sl e.lA e.lng.length e.lc 1 (natv e.lng), wsp (e.ns ++ [bare dp])] m3 := by
  have hS : Sep (pt nb (bare dp).cells :: [pt p e.head, sl e.nA e.ns.length e.nc 260 (e.ns.flatMap Nd.cells), sl e.lA e.lng.length e.lc 1 (natv e.lng), wsp e.ns]) m2 := Sep.new' h hb he
  have hB : m2.holds ⟨nb, 0, none⟩ (bare dp).cells := (hS.blk 0 rfl).holds fun k v hk => by rw [Nat.zero_add]; exact hk
  have g1 : (bare dp).cells.length = 1 * (tbl.at 61).size := by rw [Nd.len]; rfl
  have g2 : oneCells (bare dp).cells = true := cells_one _
  have g3 : Nat.blt 0 (tbl.at 61).bytes = true := by rfl
  have g4 : 2 * (e.ns.length + 1) * (tbl.at 61).bytes ≤ 2 ^ 48 := by show 2 * (_ + 1) * 1064 ≤ 2 ^ 48; omega
  have g5 : (tbl.at 61).zero.list.length = (tbl.at 61).size := by rfl
  obtain ⟨ok, hR⟩ := hS.app 2 (T := tbl) (e := 61) (news := (bare dp).cells) (k := 1) (B := some ⟨nb, 0, none⟩) rfl g1 (.inr ⟨_, rfl, hB⟩) g2 g3 g4 g5
  refine ⟨ok, fun A' c' m3 hr => ?_⟩
  have h1 := (hR _ _ _ hr).drop 0
  rw [List.flatMap_append]
  rw [show [bare dp].flatMap Nd.cells = (bare dp).cells by simp]
  exact h1.turn 3 rfl fun m1 _ hw => wsp_snoc hw rfl rfl rfl
theorem words_app {p n x : Nat} {e : Hd} {nd : Nd} {M m2 : Mem} {nb : Nat} (h : hu p e M) (hn : e.ns[n]? = some nd) (hb : M nb = none) (he : m2 = M.set nb (.cells #[.int .i64 ((x : Nat) : Int)] 3 (0, 0))) (hw : nd.ws.length ≤ 100) :
    AppOk tbl 3 m2 nd.wA nd.ws.length nd.wc (some ⟨nb, 0, none⟩) 1 [.int .i64 ((x : Nat) : Int)] (natv nd.ws) ∧ ∀ A' c' m3, AppR tbl 3 m2 nd.wA nd.ws.length nd.wc 1 [.int .i64 ((x : Nat) : Int)] (natv nd.ws) A' c' m3 →
      Sep [pt p e.head, sl e.nA e.ns.length e.nc 260 (e.ns.flatMap Nd.cells), sl e.lA e.lng.length e.lc 1 (natv e.lng), wsp (worded e.ns n nd x A' c')] m3 := by
  have hl := lt_of_get hn
  have hS : Sep (e.ns.map wpart ++ [pt p e.head, sl e.nA e.ns.length e.nc 260 (e.ns.flatMap Nd.cells), sl e.lA e.lng.length e.lc 1 (natv e.lng)]) M := Sep.split (Sep.move (L := [pt p e.head, sl e.nA e.ns.length e.nc 260 (e.ns.flatMap Nd.cells), sl e.lA e.lng.length e.lc 1 (natv e.lng), wsp e.ns]) 3 h rfl)
  replace hS := hS.new' (l := [.int .i64 ((x : Nat) : Int)]) hb he
  have hB : m2.holds ⟨nb, 0, none⟩ [.int .i64 ((x : Nat) : Int)] := (hS.blk 0 rfl).holds fun k v hk => by rw [Nat.zero_add]; exact hk
  have hj : (pt nb [.int .i64 ((x : Nat) : Int)] :: (e.ns.map wpart ++ [pt p e.head, sl e.nA e.ns.length e.nc 260 (e.ns.flatMap Nd.cells), sl e.lA e.lng.length e.lc 1 (natv e.lng)]))[n + 1]? = some (sl nd.wA nd.ws.length nd.wc 1 (natv nd.ws)) := by
    rw [List.getElem?_cons_succ, List.getElem?_append_left (by simpa using hl), List.getElem?_map, hn]
    rfl
  obtain ⟨ok, hR⟩ := hS.app (n + 1) (T := tbl) (e := 3) (A := nd.wA) (n := nd.ws.length) (c := nd.wc) (vs := natv nd.ws) (news := [.int .i64 ((x : Nat) : Int)]) (k := 1) (B := some ⟨nb, 0, none⟩) hj rfl (.inr ⟨_, rfl, hB⟩) rfl rfl (by show 2 * (_ + 1) * 8 ≤ 2 ^ 48; omega) rfl
  refine ⟨ok, fun A' c' m3 hr => ?_⟩
  have h1 := (hR _ _ _ hr).drop 0
  rw [List.set_cons_succ, List.eraseIdx_cons_zero, List.set_append_left _ _ (by simpa using hl)] at h1
  have e1 : (e.ns.map wpart).set n (sl A' (nd.ws.length + 1) c' (tbl.at 3).size (natv nd.ws ++ [.int .i64 ((x : Nat) : Int)])) = (worded e.ns n nd x A' c').map wpart := by
    unfold worded
    rw [List.map_set]
    congr 1
    unfold wpart
    simp only [List.length_append, List.length_singleton, natv, List.map_append, List.map_cons, List.map_nil]
    rfl
  rw [e1] at h1
  exact Sep.back (j := 3) h1.group (Nat.le_refl _)
theorem words_put {p n x : Nat} {e : Hd} {nd : Nd} {A' : Option Addr} {c' : Nat} {m3 : Mem} (hn : e.ns[n]? = some nd) (h : Sep [pt p e.head, sl e.nA e.ns.length e.nc 260 (e.ns.flatMap Nd.cells), sl e.lA e.lng.length e.lc 1 (natv e.lng), wsp (worded e.ns n nd x A' c')] m3) :
    ∃ q, e.nA = some q ∧ ((∃ u, m3.cell ((q.add (n * 260)).add 257) = some u) ∧ m3.fz ((q.add (n * 260)).add 257) = false) ∧ hu p { e with ns := worded e.ns n nd x A' c' } (m3.setCell ((q.add (n * 260)).add 257) (.slice A' (nd.ws.length + 1) c')) := by
  have hl := lt_of_get hn
  obtain ⟨q, h1, h2, h3⟩ := h.stf 1 (k := n * 260) (off := 257) (.slice A' (nd.ws.length + 1) c') rfl (by rw [flat_len Nd.len]; omega)
  refine ⟨q, h1, h2, ?_⟩
  rw [flat_set (nd' := { nd with wA := A', ws := nd.ws ++ [x], wc := c' }) hn (by omega) (by have := cells_words (nd := nd) (A := A') (c := c') (ws := nd.ws ++ [x]); rw [List.length_append] at this; exact this)] at h3
  have e1 : (worded e.ns n nd x A' c').length = e.ns.length := by simp [worded]
  unfold hu Hd.head
  simp only
  rw [e1]
  exact h3
theorem next_put {p n c x : Nat} {e : Hd} {nd : Nd} {m3 : Mem} (hn : e.ns[n]? = some nd) (hc : c < 256) (h : hu p e m3) :
    ∃ q, e.nA = some q ∧ ((∃ u, m3.cell (((q.add (n * 260)).add 0).add (c * 1)) = some u) ∧ m3.fz (((q.add (n * 260)).add 0).add (c * 1)) = false) ∧ hu p { e with ns := e.ns.set n { nd with nx := fun c' => if c' = c then x else nd.nx c' } } (m3.setCell (((q.add (n * 260)).add 0).add (c * 1)) (.int .i32 ((x : Nat) : Int))) := by
  have hl := lt_of_get hn
  obtain ⟨q, h1, h2, h3⟩ := Sep.stf h 1 (k := n * 260) (off := c) (.int .i32 ((x : Nat) : Int)) rfl (by rw [flat_len Nd.len]; omega)
  rw [Nat.mul_one]
  refine ⟨q, h1, h2, ?_⟩
  rw [flat_set (nd' := { nd with nx := fun c' => if c' = c then x else nd.nx c' }) hn (by omega) (cells_next hc)] at h3
  unfold hu Hd.head wsp
  simp only
  rw [List.length_set, wparts_set (nd' := { nd with nx := fun c' => if c' = c then x else nd.nx c' }) hn rfl]
  exact h3
theorem long_app {p x : Nat} {e : Hd} {M m2 : Mem} {nb : Nat} (h : hu p e M) (hb : M nb = none) (he : m2 = M.set nb (.cells #[.int .i64 ((x : Nat) : Int)] 3 (0, 0))) (hw : e.lng.length ≤ 100) :
    AppOk tbl 3 m2 e.lA e.lng.length e.lc (some ⟨nb, 0, none⟩) 1 [.int .i64 ((x : Nat) : Int)] (natv e.lng) ∧ ∀ A' c' m3, AppR tbl 3 m2 e.lA e.lng.length e.lc 1 [.int .i64 ((x : Nat) : Int)] (natv e.lng) A' c' m3 →
      ((∃ u, m3.cell ⟨p, 1, none⟩ = some u) ∧ m3.fz ⟨p, 1, none⟩ = false) ∧ hu p { e with lng := e.lng ++ [x], lA := A', lc := c' } (m3.setCell ⟨p, 1, none⟩ (.slice A' (e.lng.length + 1) c')) := by
  have hS : Sep (pt nb [.int .i64 ((x : Nat) : Int)] :: [pt p e.head, sl e.nA e.ns.length e.nc 260 (e.ns.flatMap Nd.cells), sl e.lA e.lng.length e.lc 1 (natv e.lng), wsp e.ns]) m2 := Sep.new' h hb he
  have hB : m2.holds ⟨nb, 0, none⟩ [.int .i64 ((x : Nat) : Int)] := (hS.blk 0 rfl).holds fun k v hk => by rw [Nat.zero_add]; exact hk
  obtain ⟨ok, hR⟩ := hS.app 3 (T := tbl) (e := 3) (news := [.int .i64 ((x : Nat) : Int)]) (k := 1) (B := some ⟨nb, 0, none⟩) rfl rfl (.inr ⟨_, rfl, hB⟩) rfl rfl (by show 2 * (_ + 1) * 8 ≤ 2 ^ 48; omega) rfl
  refine ⟨ok, fun A' c' m3 hr => ?_⟩
  have h1 := (hR _ _ _ hr).drop 0
  refine ⟨Sep.room h1 0 (i := 1) rfl rfl, ?_⟩
  have h2 := h1.put' 0 (i := 1) (v := .slice A' (e.lng.length + 1) c') rfl rfl
  unfold hu Hd.head
  simp only [natv, List.map_append, List.length_append, List.length_singleton, List.map_cons, List.map_nil]
  exact h2
end Go.Proofs.Ytbcmhpannbdejaa
