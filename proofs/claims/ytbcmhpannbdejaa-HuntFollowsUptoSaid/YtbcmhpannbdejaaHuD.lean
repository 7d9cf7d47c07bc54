/- Hunt: byDepth. -/
import Derived.Test.YtbcmhpannbdejaaHuK
import Derived.Test.YtbcmhpannbdejaaMvIterS
namespace Go.Proofs.Ytbcmhpannbdejaa
open Go Go.Mv Go.Mv.Hunt
set_option maxHeartbeats 1000000
set_option maxRecDepth 10000
set_option linter.unusedVariables false
set_option linter.unusedSimpArgs false
attribute [local irreducible] FCalls IntKind.wrap bits Mem.set Mem.setCell Mem.setCells YCalls
theorem sep1 {A : Asn} {m : Mem} (h : A m) : Sep [A] m := ⟨m, Mem.empty, fun _ => .inr rfl, Mem.le_refl _, fun _ _ hh => (by cases hh), h, trivial⟩
def n32 (l : List Nat) : List Value := l.map fun k => .int .i32 ((k : Nat) : Int)
theorem n32_len (l : List Nat) : (n32 l).length = l.length := by simp [n32]
def kidsTo (nx : Nat → Nat → Nat) (n c : Nat) : List Nat := (List.range c).filterMap fun c => if nx n c = 0 then none else some (nx n c)
theorem kidsTo_succ {nx : Nat → Nat → Nat} {n c : Nat} : kidsTo nx n (c + 1) = kidsTo nx n c ++ if nx n c = 0 then [] else [nx n c] := by
  unfold kidsTo
  rw [List.range_succ, List.filterMap_append]
  congr 1
  by_cases h : nx n c = 0 <;> simp [h]
theorem kidsTo_all {nx : Nat → Nat → Nat} {n : Nat} : kidsTo nx n 256 = kids nx n := rfl
theorem kidsTo_len {nx : Nat → Nat → Nat} {n : Nat} : ∀ {c : Nat}, (kidsTo nx n c).length ≤ c
  | 0 => by simp [kidsTo]
  | c + 1 => by
    rw [kidsTo_succ, List.length_append]
    have := kidsTo_len (nx := nx) (n := n) (c := c)
    split <;> simp <;> omega
theorem bfs_len {nx : Nat → Nat → Nat} {ss : List Str} (h : Trie nx ss) : (bfs nx ss.length).length ≤ ss.length := by
  have := (bfs_q h).len
  simpa using this
theorem byDepth_c {m : Mem} {p : Nat} : FCalls Try.prog 17 [.pointer (some ⟨p, 0, none⟩)] m fun v m' => ∃ b, v = .func (.func 28) #[] #[.pointer (some ⟨b, 0, none⟩)] ∧ Sep [pt b [.pointer (some ⟨p, 0, none⟩)], kp m] m' := by
  refine fcalls_of_vc (T := tbl) (B := bodies) (pr := [99999]) (DR := dr17) (args := [.v (.pointer (some ⟨p, 0, none⟩))]) tbl_ok bodies_ok mixed Try.func17 rfl (by decide +kernel) (by simp [Try.f17]) rfl ?_
  (conv => whnf)
  intro b m3 hb he
  have h := (Sep.init m).new' hb he
  (conv => whnf)
  exact ⟨b, rfl, h⟩
theorem byDepth_iter {p b : Nat} {d : Hd} {ss lws : List Str} (k : Tr d ss lws) :
    IterS Try.prog 28 [] [.pointer (some ⟨b, 0, none⟩)] (Sep [pt b [.pointer (some ⟨p, 0, none⟩)], hu p d]) (Sep [pt b [.pointer (some ⟨p, 0, none⟩)], hu p d])
      (fun M => Blk M b [.pointer (some ⟨p, 0, none⟩)] ∧ ∃ d', hu p d' M ∧ Alike d d') (bfs (nxOf d.ns) ss.length).length (fun i vs L => ∃ n, (bfs (nxOf d.ns) ss.length)[i]? = some n ∧ vs = [.int .i32 ((n : Nat) : Int)] ∧ L = []) := by
  intro yl J Q' Rs m h hA hJI hyl
  show FCalls Try.prog 28 [.func (.yield yl) #[] #[], .pointer (some ⟨b, 0, none⟩)] m _
  have hbl := bfs_len k.trie
  have hkl := k.len
  have hks := k.small
  refine FCalls.less ?_
  refine fcalls_of_vc (T := tbl) (B := bodies) (pr := [99999]) (DR := dr28) (args := [.v (.func (.yield yl) #[] #[]), .v (.pointer (some ⟨b, 0, none⟩))]) tbl_ok bodies_ok mixed Try.func28 rfl (by decide +kernel) (by simp [Try.f28]) rfl ?_
  (conv => whnf)
  intro rb m2 hb he
  have hj0 := hA m h
  have hS := (sep1 hj0).new' (l := n32 [0]) hb he
  replace hS := (hS.slOf 0 (n := 1) (c := 1) (sz := 1) (vs := n32 [0]) rfl rfl (Nat.le_refl _) (Nat.le_refl _) (fun _ _ h => h)).move 1 rfl
  clear hb he h hA hj0
  (conv => whnf)
  refine loop_keep [0, 1] (Nat × List Nat × Option Addr × Nat × Mem) (fun s => [(3, .v (.slice s.2.2.1 s.2.1.length s.2.2.2.1))]) (fun _ => []) (fun s => s.2.2.2.2)
    (fun s => Q (nxOf d.ns) ss ((bfs (nxOf d.ns) ss.length).take s.1) s.2.1 ∧ s.1 ≤ ss.length ∧ s.1 ≤ (bfs (nxOf d.ns) ss.length).length ∧ bfs (nxOf d.ns) ss.length = (bfs (nxOf d.ns) ss.length).take s.1 ++ bfsL (nxOf d.ns) (ss.length - s.1) s.2.1 ∧ Sep [J s.1, sl s.2.2.1 s.2.1.length s.2.2.2.1 1 (n32 s.2.1)] s.2.2.2.2) (fun s => ss.length - s.1)
    (0, [0], some ⟨rb, 0, none⟩, 1, m2) ⟨rfl, trivial⟩ rfl rfl ⟨by simpa using Q.start k.trie, by simp, by simp, by simp [bfs], hS⟩ ?_
  clear hS
  (conv => whnf)
  refine ⟨rfl, ?_⟩
  rintro ⟨i, row, rA, rc, M⟩ ⟨hQ, hi, hib, hbs, h⟩
  simp only at hQ hi hib hbs h
  have hql := hQ.len
  rw [List.length_append, List.length_take, Nat.min_eq_left hib] at hql
  cases row with
  | nil =>
    (conv => whnf)
    have e1 : (bfs (nxOf d.ns) ss.length).length = i := by
      have := congrArg List.length hbs
      rw [List.length_append, List.length_take, Nat.min_eq_left hib] at this
      cases hf : ss.length - i with
      | zero => rw [hf] at this; simpa [bfsL] using this
      | succ f => rw [hf] at this; simpa [bfsL] using this
    rw [e1]
    obtain ⟨mj, hmj, hJm⟩ := h.get 0 rfl
    exact ⟨mj, hmj, .inl hJm⟩
  | cons n r =>
    simp only [List.length_cons] at hql
    obtain ⟨f, hf⟩ : ∃ f, ss.length - i = f + 1 := ⟨ss.length - i - 1, by omega⟩
    rw [hf] at hbs
    have hin : (bfs (nxOf d.ns) ss.length)[i]? = some n := by
      rw [hbs, List.getElem?_append_right (by rw [List.length_take]; omega), List.length_take, Nat.min_eq_left hib, Nat.sub_self]
      rfl
    have hil := lt_of_get hin
    have htk : (bfs (nxOf d.ns) ss.length).take (i + 1) = (bfs (nxOf d.ns) ss.length).take i ++ [n] := by rw [List.take_add_one, hin]; rfl
    have hQ2 := hQ.step k.trie
    rw [← htk] at hQ2
    have hns := hQ.lt n (by simp)
    obtain ⟨q, hq, hc0⟩ := (h.rd 1 rfl).at (k := 0) (v := .int .i32 ((n : Nat) : Int)) rfl
    (conv => whnf)
    refine brk_true (by simp) ?_
    (conv => whnf)
    refine ⟨_, hq, by omega, by simp, ?_⟩
    (conv => whnf)
    refine ⟨_, hc0, ?_⟩
    (conv => whnf)
    have hrc := (h.asn 1 rfl).2.1
    simp only [List.length_cons] at hrc
    refine ⟨by omega, by simp only [List.length_cons]; omega, by simp only [List.length_cons]; omega, ?_⟩
    (conv => whnf)
    replace h : Sep [J i, sl (if rc = 1 then rA else rA.map fun p => p.add (1 * 1)) r.length (rc - 1) 1 (n32 r)] M := h.turn 1 rfl fun m1 _ hs => sl_from hs (k := 1) (by simp)
    refine YCalls.mono (Sep.ycalls h (K := fun v m'' => (v = .bool true ∧ J (i + 1) m'') ∨ (v = .bool false ∧ Q' m'')) fun m1 h6 => hyl i _ [] m1 m1 hil ⟨n, hin, rfl, rfl⟩ h6 (Sep.init m1)) ?_
    rintro v M5 ⟨m1, hv, hB⟩
    rcases hv with ⟨rfl, hJ1⟩ | ⟨rfl, hQ3⟩
    · obtain ⟨hbk, d', hud, hal⟩ := hJI _ _ hJ1
      replace h := hB.one hJ1
      have hm1 : m1.le M5 := by
        obtain ⟨m2, _, h7, _⟩ := hB
        exact h7
      clear hB
      obtain ⟨e, hbe⟩ := hbk
      have hbk : Blk M5 b [.pointer (some ⟨p, 0, none⟩)] := ⟨e, hm1 _ _ hbe⟩
      have hud := hu_more hud hm1
      have k' := hal.tr k
      obtain ⟨nd, hnd⟩ := k'.nd (List.getElem?_eq_getElem hns)
      have hlt : n < 200000 := by omega
      have hnx : ∀ c, nxOf d.ns n c = nd.nx c := fun c => by rw [← hal.nx]; exact nxOf_at hnd
      obtain ⟨q, q0, q1, q2⟩ := hu_nexts hud hnd
      (conv => whnf)
      refine ⟨_, hbk.cell (i := 0) rfl, ?_⟩
      (conv => whnf)
      refine ⟨_, _, _, hu_cell hud (i := 0) rfl, ?_⟩
      (conv => whnf)
      refine ⟨_, q0, by omega, q1, ?_⟩
      (conv => whnf)
      refine ⟨nxs nd.nx, nxs_len _, q2, ?_⟩
      (conv => whnf)
      have hql2 := hQ2.len
      rw [List.length_append, List.length_append, List.length_take, Nat.min_eq_left (by omega), ← kidsTo_all] at hql2
      have he0 : r ++ kidsTo (nxOf d.ns) n 0 = r := by simp [kidsTo]
      refine loop_keep [0, 1, 27] (Nat × Option Addr × Nat × Mem) (fun s => [(28, .v (.int .i64 ((s.1 : Nat) : Int))), (3, .v (.slice s.2.1 (r ++ kidsTo (nxOf d.ns) n s.1).length s.2.2.1))]) (fun _ => []) (fun s => s.2.2.2)
        (fun s => s.1 ≤ 256 ∧ Sep [J (i + 1), sl s.2.1 (r ++ kidsTo (nxOf d.ns) n s.1).length s.2.2.1 1 (n32 (r ++ kidsTo (nxOf d.ns) n s.1))] s.2.2.2) (fun s => 256 - s.1)
        (0, _, _, M5) ⟨rfl, by rw [he0]; rfl, trivial⟩ rfl rfl ⟨by omega, by rw [he0]; exact h⟩ ?_
      clear h
      (conv => whnf)
      refine ⟨rfl, ?_⟩
      rintro ⟨c, rA2, rc2, M6⟩ ⟨hc1, h⟩
      simp only at hc1 h
      have hkl := kidsTo_len (nx := nxOf d.ns) (n := n) (c := c)
      (conv => whnf)
      refine brk_intro (fun c1 => ?_) (fun c1 => ?_)
      · have c1 : (c : Int) < 256 := by simpa using c1
        have hc : c < 256 := by omega
        have step1 : IntKind.i64.wrap ((c : Int) + 1) = ((c + 1 : Nat) : Int) := wrap_id (by omega) (by omega)
        (conv => whnf)
        refine ⟨by omega, c1, by rw [nxs_len]; omega, ?_⟩
        rw [show (nxs nd.nx).getD ((c : Nat) : Int).toNat 0 = ((nd.nx c : Nat) : Int) from nxs_at hc]
        have hks := kidsTo_succ (nx := nxOf d.ns) (n := n) (c := c)
        rw [hnx] at hks
        (conv => whnf)
        refine brk_intro (fun c2 => ?_) (fun c2 => ?_)
        · have c2 : nd.nx c ≠ 0 := by simpa using c2
          rw [if_neg c2] at hks
          (conv => whnf)
          intro nb m2 hb he
          replace h := h.new' (l := n32 [nd.nx c]) hb he
          have hBn : m2.holds ⟨nb, 0, none⟩ (n32 [nd.nx c]) := (h.blk 0 rfl).holds fun k v hk => by rw [Nat.zero_add]; exact hk
          clear hb he
          (conv => whnf)
          obtain ⟨ok, hR⟩ := h.app 2 (T := tbl) (e := 21) (news := n32 [nd.nx c]) (k := 1) (B := some ⟨nb, 0, none⟩) rfl rfl (.inr ⟨_, rfl, hBn⟩) rfl rfl (by show 2 * (_ + 1) * 4 ≤ 2 ^ 48; rw [List.length_append]; omega) rfl
          refine ⟨_, _, ok, fun A' c' m3 hr => ?_⟩
          replace h := (hR _ _ _ hr).drop 0
          clear ok hR hr hBn
          (conv => whnf)
          refine ⟨(c + 1, A', c', m3), le_eq ⟨by show some (AV.v (.int .i64 (IntKind.i64.wrap ((c : Int) + 1)))) = _; rw [step1], by show some (AV.v (.slice A' ((r ++ kidsTo (nxOf d.ns) n c).length + 1) c')) = some (AV.v (.slice A' (r ++ kidsTo (nxOf d.ns) n (c + 1)).length c')); rw [hks, ← List.append_assoc, List.length_append (bs := [_])]; rfl, rfl, rfl, rfl, trivial⟩ rfl rfl rfl, ⟨by simp only; omega, ?_⟩, by simp only; omega⟩
          simp only
          rw [hks, ← List.append_assoc, List.length_append (bs := [_])]
          have e1 : n32 ((r ++ kidsTo (nxOf d.ns) n c) ++ [nd.nx c]) = n32 (r ++ kidsTo (nxOf d.ns) n c) ++ n32 [nd.nx c] := by simp [n32]
          rw [e1]
          exact h
        · have c2 : nd.nx c = 0 := by simpa using c2
          rw [if_pos c2, List.append_nil] at hks
          (conv => whnf)
          refine ⟨(c + 1, rA2, rc2, M6), le_eq ⟨by show some (AV.v (.int .i64 (IntKind.i64.wrap ((c : Int) + 1)))) = _; rw [step1], by show _ = some (AV.v (.slice rA2 (r ++ kidsTo (nxOf d.ns) n (c + 1)).length rc2)); rw [hks]; rfl, rfl, rfl, rfl, trivial⟩ rfl rfl rfl, ⟨by simp only; omega, by simp only; rw [hks]; exact h⟩, by simp only; omega⟩
      · have c1 : ¬ (c : Int) < 256 := by simpa using c1
        have : c = 256 := by omega
        subst this
        rw [kidsTo_all] at h
        (conv => whnf)
        refine ⟨(i + 1, r ++ kids (nxOf d.ns) n, rA2, rc2, M6), le_eq ⟨rfl, rfl, rfl, trivial⟩ rfl rfl rfl, ⟨hQ2, by simp only; omega, by simp only; omega, ?_, h⟩, by simp only; omega⟩
        simp only
        rw [htk, show ss.length - (i + 1) = f by omega]
        rw [List.append_assoc]
        exact hbs
    · (conv => whnf)
      obtain ⟨m2, _, h7, _⟩ := hB
      exact ⟨m1, h7, .inr hQ3⟩
end Go.Proofs.Ytbcmhpannbdejaa
