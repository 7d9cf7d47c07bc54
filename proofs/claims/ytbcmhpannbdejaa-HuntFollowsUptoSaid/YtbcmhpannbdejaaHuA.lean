/- Hunt: the nodes in memory; lower, longest, on. -/
import Derived.Test.YtbcmhpannbdejaaMvTab
import Derived.Test.YtbcmhpannbdejaaMvOpen
import Derived.Test.YtbcmhpannbdejaaMvSort
import Derived.Test.YtbcmhpannbdejaaHuS
namespace Go.Proofs.Ytbcmhpannbdejaa
open Go Go.Mv Go.Mv.Hunt
set_option maxHeartbeats 1000000
set_option maxRecDepth 10000
set_option linter.unusedVariables false
set_option linter.unusedSimpArgs false
attribute [local irreducible] FCalls IntKind.wrap bits Mem.set Mem.setCell Mem.setCells YCalls
/-- A node. -/
structure Nd where
  nx : Nat → Nat
  dp : Nat
  wA : Option Addr
  ws : List Nat
  wc : Nat
  bk : Nat
  ou : Nat
def nexts (nx : Nat → Nat) : List Value := (List.range 256).map fun c => .int .i32 ((nx c : Nat) : Int)
def natv (l : List Nat) : List Value := l.map fun k => .int .i64 ((k : Nat) : Int)
def Nd.cells (d : Nd) : List Value := nexts d.nx ++ [.int .i64 ((d.dp : Nat) : Int), .slice d.wA d.ws.length d.wc, .int .i32 ((d.bk : Nat) : Int), .int .i32 ((d.ou : Nat) : Int)]
theorem nexts_len (nx : Nat → Nat) : (nexts nx).length = 256 := by simp [nexts]
theorem Nd.len (d : Nd) : d.cells.length = 260 := by simp [Nd.cells, nexts_len]
theorem Nd.at0 (d : Nd) {c : Nat} (hc : c < 256) : d.cells[c]? = some (.int .i32 ((d.nx c : Nat) : Int)) := by
  unfold Nd.cells
  rw [List.getElem?_append_left (by rw [nexts_len]; exact hc)]
  simp [nexts, hc]
theorem Nd.at1 (d : Nd) : d.cells[256]? = some (.int .i64 ((d.dp : Nat) : Int)) := by
  unfold Nd.cells
  rw [List.getElem?_append_right (by rw [nexts_len]; omega), nexts_len]
  rfl
theorem Nd.at2 (d : Nd) : d.cells[257]? = some (.slice d.wA d.ws.length d.wc) := by
  unfold Nd.cells
  rw [List.getElem?_append_right (by rw [nexts_len]; omega), nexts_len]
  rfl
theorem Nd.at3 (d : Nd) : d.cells[258]? = some (.int .i32 ((d.bk : Nat) : Int)) := by
  unfold Nd.cells
  rw [List.getElem?_append_right (by rw [nexts_len]; omega), nexts_len]
  rfl
theorem Nd.at4 (d : Nd) : d.cells[259]? = some (.int .i32 ((d.ou : Nat) : Int)) := by
  unfold Nd.cells
  rw [List.getElem?_append_right (by rw [nexts_len]; omega), nexts_len]
  rfl
/-- What Hunt holds. -/
structure Hd where
  ns : List Nd
  nA : Option Addr
  nc : Nat
  lng : List Nat
  lA : Option Addr
  lc : Nat
  fold : Bool
  st : Int
def Hd.head (d : Hd) : List Value := [.slice d.nA d.ns.length d.nc, .slice d.lA d.lng.length d.lc, .bool d.fold, .int .i64 d.st]
def wpart (d : Nd) : Asn := sl d.wA d.ws.length d.wc 1 (natv d.ws)
def wsp (ns : List Nd) : Asn := Sep (ns.map wpart)
def hu (p : Nat) (d : Hd) : Asn := Sep [pt p d.head, sl d.nA d.ns.length d.nc 260 (d.ns.flatMap Nd.cells), sl d.lA d.lng.length d.lc 1 (natv d.lng), wsp d.ns]
theorem hu_more {p : Nat} {d : Hd} {m m' : Mem} (h : hu p d m) (hm : m.le m') : hu p d m' := h.more hm
theorem hu_at {p : Nat} {d : Hd} {m : Mem} {L : List Asn} (h : Sep L m) (j : Nat) (hj : L[j]? = some (hu p d)) : hu p d m := by
  obtain ⟨m1, h1, h2⟩ := h.get j hj
  exact hu_more h2 h1
section
variable {p : Nat} {d : Hd} {m : Mem}
theorem hu_cell (h : hu p d m) {i : Nat} {v : Value} (hi : d.head[i]? = some v) : m.cell ⟨p, i, none⟩ = some v := Sep.cell h 0 rfl hi
/-- A node's cell. -/
theorem hu_node (h : hu p d m) {n o : Nat} {nd : Nd} {v : Value} (hn : d.ns[n]? = some nd) (ho : nd.cells[o]? = some v) : ∃ q, d.nA = some q ∧ ((n : Nat) : Int) < (d.ns.length : Nat) ∧ m.cell ((q.add (n * 260)).add o) = some v := by
  have ho' := (List.getElem?_eq_some_iff.1 ho).1
  rw [Nd.len] at ho'
  obtain ⟨q, h1, h2⟩ := (Sep.rd h 1 rfl).atf (k := n * 260) (off := o) (v := v) (by rw [flat_get Nd.len hn ho']; exact ho)
  have := (List.getElem?_eq_some_iff.1 hn).1
  exact ⟨q, h1, by omega, h2⟩
theorem hu_next (h : hu p d m) {n c : Nat} {nd : Nd} (hn : d.ns[n]? = some nd) (hc : c < 256) : ∃ q, d.nA = some q ∧ ((n : Nat) : Int) < (d.ns.length : Nat) ∧ m.cell (((q.add (n * 260)).add 0).add (c * 1)) = some (.int .i32 ((nd.nx c : Nat) : Int)) := by
  obtain ⟨q, h1, h2, h3⟩ := hu_node h hn (Nd.at0 nd hc)
  exact ⟨q, h1, h2, by rw [Nat.mul_one]; exact h3⟩
theorem wrapu8 {x : Int} (h1 : 0 ≤ x) (h2 : x ≤ 255) : IntKind.u8.wrap x = x := by
  unfold IntKind.wrap
  have e1 : IntKind.bits .u8 = 8 := rfl
  have e2 : IntKind.signed .u8 = false := rfl
  simp only [e1, e2, Bool.false_and]
  simp
  omega
theorem wrap32 {x : Int} (h1 : -2147483648 ≤ x) (h2 : x ≤ 2147483647) : IntKind.i32.wrap x = x := by
  unfold IntKind.wrap
  have e1 : IntKind.bits .i32 = 32 := rfl
  have e2 : IntKind.signed .i32 = true := rfl
  simp only [e1, e2, Bool.true_and, decide_eq_true_eq]
  split <;> omega
theorem hu_step {m2 : Mem} {st : Int} (h : hu p d m) (he : m2 = m.setCell ⟨p, 3, none⟩ (.int .i64 st)) : hu p { d with st := st } m2 := Sep.put' h 0 he rfl
/-- A byte as it is compared. -/
def low (fold : Bool) (c : Nat) : Nat := if fold && decide (65 ≤ c) && decide (c ≤ 90) then c + 32 else c
theorem low_lt {fold : Bool} {c : Nat} (h : c < 256) : low fold c < 256 := by
  unfold low
  split
  · rename_i h1
    simp only [Bool.and_eq_true, decide_eq_true_eq] at h1
    omega
  · exact h
theorem lower_c (h : hu p d m) {c : Nat} (h1 : c < 256) : FCalls Try.prog 27 [.pointer (some ⟨p, 0, none⟩), .int .u8 ((c : Nat) : Int)] m fun v m' => v = .int .u8 ((low d.fold c : Nat) : Int) ∧ m' = m := by
  refine fcalls_of_vc (T := tbl) (B := bodies) (pr := [99999]) (DR := dr27) (args := [.v (.pointer (some ⟨p, 0, none⟩)), .v (.int .u8 ((c : Nat) : Int))]) tbl_ok bodies_ok mixed Try.func27 rfl (by decide +kernel) (by simp [Try.f27]) rfl ?_
  (conv => whnf)
  refine ⟨_, hu_cell h (i := 2) rfl, ?_⟩
  (conv => whnf)
  unfold low
  refine brk_intro (fun c1 => ?_) (fun c1 => ?_)
  · have hf : d.fold = true := by simpa using c1
    rw [hf]
    (conv => whnf)
    refine brk_intro (fun c2 => ?_) (fun c2 => ?_)
    · have c2 : (65 : Int) ≤ (c : Int) := by simpa using c2
      (conv => whnf)
      refine brk_intro (fun c3 => ?_) (fun c3 => ?_)
      · have c3 : (c : Int) ≤ 90 := by simpa using c3
        (conv => whnf)
        rw [wrapu8 (x := (c : Int) + 32) (by omega) (by omega), if_pos (by simp; omega)]
        exact ⟨rfl, rfl⟩
      · have c3 : ¬ (c : Int) ≤ 90 := by simpa using c3
        (conv => whnf)
        rw [if_neg (by simp; omega)]
        exact ⟨rfl, rfl⟩
    · have c2 : ¬ (65 : Int) ≤ (c : Int) := by simpa using c2
      (conv => whnf)
      rw [if_neg (by simp; omega)]
      exact ⟨rfl, rfl⟩
  · have hf : d.fold = false := by simpa using c1
    rw [hf]
    (conv => whnf)
    exact ⟨rfl, rfl⟩
/-- Where a node leads to. -/
def nxOf (ns : List Nd) (v c : Nat) : Nat := match ns[v]? with | some nd => nd.nx c | none => 0
theorem nxOf_at {ns : List Nd} {v c : Nat} {nd : Nd} (h : ns[v]? = some nd) : nxOf ns v c = nd.nx c := by simp [nxOf, h]
/-- The tree. -/
structure Tr (d : Hd) (ss lws : List Str) : Prop where
  trie : Trie (nxOf d.ns) ss
  len : ss.length = d.ns.length
  small : d.ns.length ≤ 200000
  dp : ∀ (n : Nat) nd s, d.ns[n]? = some nd → ss[n]? = some s → nd.dp = s.length
  ids : ∀ (n : Nat) nd s, d.ns[n]? = some nd → ss[n]? = some s → nd.ws = idx lws s
  all : ∀ t, t ∈ lws → ∃ u : Nat, ss[u]? = some t
  w0 : [] ∉ lws
/-- The tree and its links. -/
structure Lk (d : Hd) (ss lws : List Str) : Prop extends Tr d ss lws where
  lnk : ∀ (n : Nat) nd s, d.ns[n]? = some nd → ss[n]? = some s → Lsuf ss s.tail nd.bk ∧ Wsuf ss (· ∈ lws) s.tail nd.ou
theorem Tr.nd {ss lws : List Str} (k : Tr d ss lws) {n : Nat} {s : Str} (h : ss[n]? = some s) : ∃ nd, d.ns[n]? = some nd := ⟨_, List.getElem?_eq_getElem (by have := lt_of_get h; have := k.len; omega)⟩
theorem Tr.lt {ss lws : List Str} (k : Tr d ss lws) {n : Nat} {s : Str} (h : ss[n]? = some s) : n < 200000 := by have := lt_of_get h; have := k.len; have := k.small; omega
theorem Tr.turn {ss lws : List Str} (k : Tr d ss lws) (st : Int) : Tr { d with st := st } ss lws := ⟨k.trie, k.len, k.small, k.dp, k.ids, k.all, k.w0⟩
theorem Lk.turn {ss lws : List Str} (k : Lk d ss lws) (st : Int) : Lk { d with st := st } ss lws := ⟨k.toTr.turn st, k.lnk⟩
theorem Tr.ends {ss lws : List Str} (k : Tr d ss lws) {n : Nat} {nd : Nd} {s : Str} (h : d.ns[n]? = some nd) (hs : ss[n]? = some s) : nd.ws ≠ [] ↔ s ∈ lws := by
  rw [k.ids n nd s h hs, ne_eq, idx_nil, Decidable.not_not]
theorem on_c {ss lws : List Str} (k : Lk d ss lws) (h : hu p d m) {n c : Nat} {x : Str} (hn : Lsuf ss x n) (h1 : c < 256) :
    FCalls Try.prog 20 [.pointer (some ⟨p, 0, none⟩), .int .i32 ((n : Nat) : Int), .int .u8 ((c : Nat) : Int)] m fun v m' => ∃ n' st, v = .int .i32 ((n' : Nat) : Int) ∧ Lsuf ss (x ++ [low d.fold c]) n' ∧ hu p { d with st := st } m' := by
  have hlo := low_lt (fold := d.fold) h1
  refine fcalls_of_vc (T := tbl) (B := bodies) (pr := [99999]) (DR := dr20) (args := [.v (.pointer (some ⟨p, 0, none⟩)), .v (.int .i32 ((n : Nat) : Int)), .v (.int .u8 ((c : Nat) : Int))]) tbl_ok bodies_ok mixed Try.func20 rfl (by decide +kernel) (by simp [Try.f20]) rfl ?_
  (conv => whnf)
  refine FCalls.mono (lower_c h h1) ?_
  rintro v m' ⟨rfl, rfl⟩
  generalize low d.fold c = lc at *
  (conv => whnf)
  refine ⟨_, hu_cell h (i := 3) rfl, ?_⟩
  (conv => whnf)
  refine ⟨Sep.room h 0 (i := 3) rfl rfl, fun m2 he => ?_⟩
  have h2 := hu_step h he
  clear h he
  (conv => whnf)
  refine loop_keep [0, 2] (Nat × Int × Mem) (fun s => [(1, .v (.int .i32 ((s.1 : Nat) : Int)))]) (fun _ => []) (fun s => s.2.2)
    (fun s => Hunt.Way ss x lc s.1 ∧ hu p { d with st := s.2.1 } s.2.2) (fun s => dep ss s.1) (n, _, m2) ⟨rfl, trivial⟩ rfl rfl ⟨Hunt.Way.start k.trie hn, h2⟩ ?_
  clear h2
  (conv => whnf)
  refine ⟨rfl, ?_⟩
  rintro ⟨n, st, M⟩ ⟨hW, h⟩
  simp only at hW h
  obtain ⟨s, hs, _⟩ := id hW
  obtain ⟨nd, hnd⟩ := k.nd hs
  have hlt := k.lt hs
  obtain ⟨b, hb⟩ : ∃ b, d.ns[nd.bk]? = some b := by
    obtain ⟨r, hr, _⟩ := (k.lnk n nd s hnd hs).1
    exact k.nd hr
  obtain ⟨q, q0, q1, q2⟩ := hu_next h (d := { d with st := st }) hnd hlo
  obtain ⟨r, r0, r1, r2⟩ := hu_node h (d := { d with st := st }) hnd (Nd.at3 nd)
  (conv => whnf)
  refine brk_intro (fun c1 => ?_) (fun c1 => ?_)
  · have c1 : n ≠ 0 := by simpa using c1
    (conv => whnf); refine ⟨_, _, _, hu_cell h (i := 0) rfl, ?_⟩; (conv => whnf); refine ⟨_, q0, by omega, q1, ?_⟩; (conv => whnf); refine ⟨by omega, by omega, ?_⟩; (conv => whnf); refine ⟨_, q2, ?_⟩; (conv => whnf)
    refine brk_intro (fun c2 => ?_) (fun c2 => ?_)
    · have c2 : nd.nx lc = 0 := by simpa using c2
      have hl := k.lnk n nd s hnd hs
      (conv => whnf); refine ⟨_, _, _, hu_cell h (i := 0) rfl, ?_⟩; (conv => whnf); refine ⟨_, r0, by omega, r1, ?_⟩; (conv => whnf); refine ⟨_, r2, ?_⟩; (conv => whnf)
      refine ⟨_, hu_cell h (i := 3) rfl, ?_⟩
      (conv => whnf)
      refine ⟨Sep.room h 0 (i := 3) rfl rfl, fun m3 he => ?_⟩
      have h2 := hu_step h he
      (conv => whnf)
      refine ⟨(nd.bk, _, m3), le_eq ⟨rfl, rfl, rfl, trivial⟩ rfl rfl rfl, ⟨hW.back k.trie hs hl.1 (by rw [nxOf_at hnd]; exact c2), h2⟩, ?_⟩
      obtain ⟨t, ht, _⟩ := id hl.1
      have := Lsuf.shorter k.trie hs c1 hl.1 ht
      simp only
      rw [dep_of hs, dep_of ht]
      exact this
    · have c2 : nd.nx lc ≠ 0 := by simpa using c2
      (conv => whnf); refine ⟨_, _, _, hu_cell h (i := 0) rfl, ?_⟩; (conv => whnf); refine ⟨_, q0, by omega, q1, ?_⟩; (conv => whnf); refine ⟨by omega, by omega, ?_⟩; (conv => whnf); refine ⟨_, q2, ?_⟩; (conv => whnf)
      exact ⟨_, _, rfl, by rw [← nxOf_at hnd]; exact hW.found k.trie hlo (by rw [nxOf_at hnd]; exact c2), h⟩
  · have c1 : n = 0 := by simpa using c1
    subst c1
    (conv => whnf); refine ⟨_, _, _, hu_cell h (i := 0) rfl, ?_⟩; (conv => whnf); refine ⟨_, q0, by omega, q1, ?_⟩; (conv => whnf); refine ⟨by omega, by omega, ?_⟩; (conv => whnf); refine ⟨_, q2, ?_⟩; (conv => whnf)
    refine ⟨_, _, rfl, ?_, h⟩
    by_cases c2 : nd.nx lc = 0
    · rw [c2]
      exact hW.none k.trie (by rw [nxOf_at hnd]; exact c2)
    · rw [← nxOf_at hnd]
      exact hW.found k.trie hlo (by rw [nxOf_at hnd]; exact c2)
theorem longest_c {ss lws : List Str} (k : Lk d ss lws) (h : hu p d m) {n : Nat} {x : Str} (hn : Lsuf ss x n) :
    FCalls Try.prog 21 [.pointer (some ⟨p, 0, none⟩), .int .i32 ((n : Nat) : Int)] m fun v m' => m' = m ∧ ∃ w, v = .int .i32 ((w : Nat) : Int) ∧ Wsuf ss (· ∈ lws) x w := by
  obtain ⟨s, hs, _⟩ := id hn
  obtain ⟨nd, hnd⟩ := k.nd hs
  have hlt := k.lt hs
  have hl := k.lnk n nd s hnd hs
  have he := k.ends hnd hs
  obtain ⟨q, q0, q1, q2⟩ := hu_node h hnd (Nd.at2 nd)
  obtain ⟨r, r0, r1, r2⟩ := hu_node h hnd (Nd.at4 nd)
  refine fcalls_of_vc (T := tbl) (B := bodies) (pr := [99999]) (DR := dr21) (args := [.v (.pointer (some ⟨p, 0, none⟩)), .v (.int .i32 ((n : Nat) : Int))]) tbl_ok bodies_ok mixed Try.func21 rfl (by decide +kernel) (by simp [Try.f21]) rfl ?_
  (conv => whnf); refine ⟨_, _, _, hu_cell h (i := 0) rfl, ?_⟩; (conv => whnf); refine ⟨_, q0, by omega, q1, ?_⟩; (conv => whnf); refine ⟨_, _, _, q2, ?_⟩; (conv => whnf)
  refine brk_intro (fun c1 => ?_) (fun c1 => ?_)
  · have c1 : 0 < nd.ws.length := by simpa using c1
    have hw : s ∈ lws := he.1 (List.length_pos_iff.1 c1)
    (conv => whnf)
    refine ⟨rfl, n, rfl, Wsuf.here k.all hn hs hw ?_⟩
    rintro rfl
    rw [k.trie.root] at hs
    cases hs
    exact k.w0 hw
  · have c1 : nd.ws = [] := by simpa using c1
    (conv => whnf); refine ⟨_, _, _, hu_cell h (i := 0) rfl, ?_⟩; (conv => whnf); refine ⟨_, r0, by omega, r1, ?_⟩; (conv => whnf); refine ⟨_, r2, ?_⟩; (conv => whnf)
    exact ⟨rfl, _, rfl, Wsuf.there k.all hn hs (fun hw => he.2 hw c1) hl.2⟩
end
end Go.Proofs.Ytbcmhpannbdejaa
