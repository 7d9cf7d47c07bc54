/- Hunt: New. -/
import Derived.Test.YtbcmhpannbdejaaHuD
import Derived.Test.YtbcmhpannbdejaaHuM
import Derived.Test.YtbcmhpannbdejaaHuP
namespace Go.Proofs.Ytbcmhpannbdejaa
open Go Go.Mv Go.Mv.Hunt
set_option maxHeartbeats 1000000
set_option maxRecDepth 10000
set_option linter.unusedVariables false
set_option linter.unusedSimpArgs false
attribute [local irreducible] FCalls IntKind.wrap bits Mem.set Mem.setCell Mem.setCells YCalls
def svs (ts : List ByteArray) : List Value := ts.map Value.string
def lwsOf (fold : Bool) (ts : List ByteArray) : List Str := ts.map (str fold)
def Right (ts : List ByteArray) : Prop := 1 ≤ ts.length ∧ ts.length ≤ 100 ∧ ∀ t, t ∈ ts → 1 ≤ t.size ∧ t.size ≤ 1000
/-- Words in lines, at p. -/
def hunt (p : Nat) (fold : Bool) (lws : List Str) : Asn := fun m => ∃ d ss, hu p d m ∧ Lk d ss lws ∧ d.fold = fold
theorem Sep.free {A : Asn} {R : List Asn} {m : Mem} (h : Sep R m) (hA : A Mem.empty) : Sep (A :: R) m := ⟨Mem.empty, m, fun _ => .inl rfl, fun _ _ hh => (by cases hh), Mem.le_refl _, hA, h⟩
theorem Alike.trans {a b c : Hd} (h : Alike a b) (k : Alike b c) : Alike a c := ⟨k.len.trans h.len, k.fold.trans h.fold, fun v nd hv => by
  obtain ⟨n1, g1, g2, g3, g4⟩ := k.at' v nd hv
  obtain ⟨n2, k1, k2, k3, k4⟩ := h.at' v n1 g1
  exact ⟨n2, k1, g2.trans k2, g3.trans k3, g4.trans k4⟩⟩
/-- Those whose links are laid when i nodes have been seen. -/
def Sn (d : Hd) (ss : List Str) (i u : Nat) : Prop := u = 0 ∨ ∃ v c, v ∈ (bfs (nxOf d.ns) ss.length).take i ∧ c < 256 ∧ nxOf d.ns v c = u
theorem lnk_start {d : Hd} {ss lws : List Str} (k : Tr d ss lws) (hz : Zero d) : LnkS d ss lws (Sn d ss 0) := by
  rintro u nd s hu hs (rfl | ⟨v, c, hv, _⟩)
  · rw [k.trie.root] at hs
    cases hs
    obtain ⟨h1, h2⟩ := hz nd (List.mem_of_getElem? hu)
    rw [h1, h2]
    refine ⟨Lsuf.nil k.trie, .inl ⟨rfl, fun t ht hts => ?_⟩⟩
    rw [List.tail_nil] at hts
    rw [List.eq_nil_of_suffix_nil hts] at ht
    exact k.w0 ht
  · simp at hv
theorem sn_all {d : Hd} {ss lws : List Str} (k : Tr d ss lws) {i n : Nat} {s : Str} (hi : (bfs (nxOf d.ns) ss.length)[i]? = some n) (hs : ss[n]? = some s) (u : Nat) (t : Str) (hu : ss[u]? = some t) (hl : t.length ≤ s.length) : Sn d ss i u := by
  by_cases h0 : u = 0
  · exact .inl h0
  · obtain ⟨v, c, t', _, h2, h3, h4, h5⟩ := k.trie.par u t hu h0
    refine .inr ⟨v, c, bfs_ahead k.trie hi hs h3 ?_, h2, h5⟩
    rw [h4, List.length_append, List.length_singleton] at hl
    omega
theorem lnk_step {d d' d2 : Hd} {ss lws : List Str} {i n : Nat} (hi : (bfs (nxOf d.ns) ss.length)[i]? = some n) (hal : Alike d d') (hL : LnkS d2 ss lws (fun u => Sn d ss i u ∨ ∃ c, c < 256 ∧ nxOf d'.ns n c = u)) : LnkS d2 ss lws (Sn d ss (i + 1)) := by
  intro u nd s hu hs hS
  refine hL u nd s hu hs ?_
  rcases hS with h0 | ⟨v, c, h1, h2, h3⟩
  · exact .inl (.inl h0)
  · rw [List.take_add_one, hi] at h1
    rcases List.mem_append.1 h1 with h4 | h4
    · exact .inl (.inr ⟨v, c, h4, h2, h3⟩)
    · simp at h4
      subst h4
      exact .inr ⟨c, h2, by rw [hal.nx]; exact h3⟩
theorem lnk_fin {d d' : Hd} {ss lws : List Str} (k : Tr d ss lws) (hal : Alike d d') (hL : LnkS d' ss lws (Sn d ss (bfs (nxOf d.ns) ss.length).length)) : Lk d' ss lws := by
  refine ⟨hal.tr k, fun u nd s hu hs => hL u nd s hu hs ?_⟩
  by_cases h0 : u = 0
  · exact .inl h0
  · obtain ⟨v, c, t', _, h2, h3, h4, h5⟩ := k.trie.par u s hs h0
    refine .inr ⟨v, c, ?_, h2, h5⟩
    rw [List.take_length]
    exact (bfs_q k.trie).all k.trie v (lt_of_get h3)
theorem tr_zero {fold : Bool} {nA : Option Addr} : Tr ⟨[bare 0], nA, 1, [], none, 0, fold, 0⟩ [[]] [] := by
  refine ⟨⟨rfl, fun u v s h1 h2 => ?_, fun v c s h1 _ h2 => ?_, fun u s h1 h2 => ?_⟩, rfl, by simp, fun n nd s h1 h2 => ?_, fun n nd s h1 h2 => ?_, fun t ht => (by cases ht), by simp⟩
  · have := lt_of_get h1
    have := lt_of_get h2
    simp at *
    omega
  · exfalso
    apply h2
    unfold nxOf
    have := lt_of_get h1
    simp at this
    subst this
    rfl
  · have := lt_of_get h1
    simp at this
    exact absurd this h2
  · have := lt_of_get h1
    simp at this
    subst this
    cases h1
    cases h2
    rfl
  · have := lt_of_get h1
    simp at this
    subst this
    cases h1
    cases h2
    rfl
theorem zero_zero {fold : Bool} {nA : Option Addr} : Zero ⟨[bare 0], nA, 1, [], none, 0, fold, 0⟩ := by
  intro nd hnd
  simp at hnd
  subst hnd
  exact ⟨rfl, rfl⟩
theorem lws_len {fold : Bool} {ts : List ByteArray} : (lwsOf fold ts).length = ts.length := by simp [lwsOf]
theorem lws_take {fold : Bool} {ts : List ByteArray} {i : Nat} {t : ByteArray} (h : ts[i]? = some t) : lwsOf fold (ts.take (i + 1)) = lwsOf fold (ts.take i) ++ [str fold t] := by
  unfold lwsOf
  rw [List.take_add_one, h, List.map_append]
  rfl
theorem new_c {m : Mem} {A : Option Addr} {ts : List ByteArray} {c : Nat} {fold : Bool} (hA : Rd m A (svs ts)) (hl : ts.length < 2 ^ 63) :
    FCalls Try.prog 9 [.slice A ts.length c, .bool fold] m fun v m' =>
      (Right ts → ∃ p, v = .tuple #[.pointer (some ⟨p, 0, none⟩), .int .i64 0] ∧ Sep [hunt p fold (lwsOf fold ts), kp m] m') ∧ (¬ Right ts → v = .tuple #[.pointer none, .int .i64 1] ∧ m.le m') := by
  refine fcalls_of_vc (T := tbl) (B := bodies) (pr := [99999]) (DR := dr9) (args := [.v (.slice A ts.length c), .v (.bool fold)]) tbl_ok bodies_ok mixed Try.func9 rfl (by decide +kernel) (by simp [Try.f9]) rfl ?_
  (conv => whnf)
  refine brk_intro (fun c1 => ?_) (fun c1 => ?_)
  · have c1 : ¬ (ts.length : Int) < 1 := by simpa using c1
    (conv => whnf)
    refine brk_intro (fun c2 => ?_) (fun c2 => ?_)
    · have c2 : (100 : Int) < (ts.length : Nat) := by simpa using c2
      (conv => whnf)
      exact ⟨fun h => absurd h.2.1 (by omega), fun _ => ⟨rfl, Mem.le_refl _⟩⟩
    · have c2 : ¬ (100 : Int) < (ts.length : Nat) := by simpa using c2
      (conv => whnf)
      refine ⟨by omega, by omega, by omega, by show (1064 : Int) * 1 ≤ 2 ^ 48; omega, fun nb m2 hb he => ?_⟩
      have h := (Sep.init m).new' (l := (bare 0).cells) hb (he.trans rfl)
      clear hb he
      replace h := h.slOf 0 (n := 1) (c := 1) (sz := 260) (vs := (bare 0).cells) rfl (by rw [Nd.len]) (Nat.le_refl _) (by rw [Nd.len]; omega) (fun _ _ h => h)
      (conv => whnf)
      intro p m3 hb he
      replace h := h.new' (l := Hd.head ⟨[bare 0], some ⟨nb, 0, none⟩, 1, [], none, 0, fold, 0⟩) hb (he.trans rfl)
      clear hb he
      replace h : Sep [hu p ⟨[bare 0], some ⟨nb, 0, none⟩, 1, [], none, 0, fold, 0⟩, kp m] m3 := by
        have h1 := Sep.free (Sep.free h (A := wsp [bare 0]) (sep1 sl_nil)) (A := sl none 0 0 1 []) sl_nil
        have h2 : Sep [pt p (Hd.head ⟨[bare 0], some ⟨nb, 0, none⟩, 1, [], none, 0, fold, 0⟩), sl (some ⟨nb, 0, none⟩) 1 1 260 (bare 0).cells, sl none 0 0 1 [], wsp [bare 0], kp m] m3 := (h1.move 3 rfl).move 3 rfl
        have h3 : Sep ([pt p (Hd.head ⟨[bare 0], some ⟨nb, 0, none⟩, 1, [], none, 0, fold, 0⟩), sl (some ⟨nb, 0, none⟩) 1 1 260 ([bare 0].flatMap Nd.cells), sl none 0 0 1 [], wsp [bare 0]] ++ [kp m]) m3 := by
          rw [show [bare 0].flatMap Nd.cells = (bare 0).cells by simp]
          exact h2
        exact h3.group
      (conv => whnf)
      intro hb6 m4 hb he
      replace h := h.new' (l := [.pointer none]) hb (he.trans rfl)
      clear hb he
      (conv => whnf)
      refine ⟨h.room 0 (i := 0) rfl rfl, fun m5 he => ?_⟩
      replace h : Sep [hu p ⟨[bare 0], some ⟨nb, 0, none⟩, 1, [], none, 0, fold, 0⟩, pt hb6 [.pointer (some ⟨p, 0, none⟩)], kp m] m5 := (h.put' 0 he rfl).move 1 rfl
      clear he
      (conv => whnf)
      refine loop_keep [6, 22, 23] (Nat × Hd × List Str × Mem) (fun s => [(24, .v (.int .i64 ((s.1 : Nat) : Int)))]) (fun _ => []) (fun s => s.2.2.2)
        (fun s => s.1 ≤ ts.length ∧ (∀ t, t ∈ ts.take s.1 → 1 ≤ t.size ∧ t.size ≤ 1000) ∧ Tr s.2.1 s.2.2.1 (lwsOf fold (ts.take s.1)) ∧ Zero s.2.1 ∧ s.2.1.ns.length ≤ 1 + 1000 * s.1 ∧ s.2.1.lng.length = s.1 ∧ s.2.1.fold = fold ∧ Sep [hu p s.2.1, pt hb6 [.pointer (some ⟨p, 0, none⟩)], kp m] s.2.2.2) (fun s => ts.length - s.1)
        (0, ⟨[bare 0], some ⟨nb, 0, none⟩, 1, [], none, 0, fold, 0⟩, [[]], m5) ⟨rfl, trivial⟩ rfl rfl ⟨by simp, by simp, tr_zero, zero_zero, by simp, rfl, rfl, h⟩ ?_
      clear h
      (conv => whnf)
      refine ⟨rfl, ?_⟩
      rintro ⟨i, d, ss, M⟩ ⟨hJ1, hts, k, hz, hN, hlg, hf, h⟩
      simp only at hJ1 hts k hz hN hlg hf h
      (conv => whnf)
      refine brk_intro (fun c3 => ?_) (fun c3 => ?_)
      · have c3 : (i : Int) < (ts.length : Nat) := by simpa using c3
        obtain ⟨t, ht⟩ : ∃ t, ts[i]? = some t := ⟨_, List.getElem?_eq_getElem (by omega)⟩
        have step1 : IntKind.i64.wrap ((i : Int) + 1) = ((i + 1 : Nat) : Int) := wrap_id (by omega) (by omega)
        obtain ⟨q, hq, hc⟩ := (hA.more (h.kept 2 rfl)).at (k := i) (v := .string t) (by simp [svs, ht])
        have hc : M.cell (q.add (i * 1)) = some (.string t) := by rw [Nat.mul_one]; exact hc
        have htm := List.mem_of_getElem? ht
        (conv => whnf)
        refine ⟨_, hq, by omega, c3, ?_⟩
        (conv => whnf)
        refine ⟨_, hc, ?_⟩
        (conv => whnf)
        refine brk_intro (fun c4 => ?_) (fun c4 => ?_)
        · have c4 : ¬ (t.size : Int) < 1 := by simpa using c4
          (conv => whnf)
          refine brk_intro (fun c5 => ?_) (fun c5 => ?_)
          · have c5 : (1000 : Int) < (t.size : Nat) := by simpa using c5
            (conv => whnf)
            exact ⟨fun hr => absurd (hr.2.2 t htm).2 (by omega), fun _ => ⟨rfl, h.kept 2 rfl⟩⟩
          · have c5 : ¬ (1000 : Int) < (t.size : Nat) := by simpa using c5
            (conv => whnf)
            refine ⟨_, h.cell 1 (i := 0) rfl rfl, ?_⟩
            (conv => whnf)
            have hk : (lwsOf fold (ts.take i)).length = i := by rw [lws_len, List.length_take]; omega
            refine FCalls.mono (h.call 0 rfl fun m1 h1 => by
              have hc := lay_c k hz h1 (y := t) (by omega) (by omega) (by omega) (by omega) (by omega)
              rw [hk] at hc
              exact hc) ?_
            rintro v M2 ⟨m1, ⟨rfl, d', ss', h1, k1, hz1, hN1, hlg1, hf1⟩, hB⟩
            replace h := hB.one h1
            clear hB h1
            (conv => whnf)
            rw [hf, ← lws_take ht] at k1
            refine ⟨(i + 1, d', ss', M2), le_eq ⟨by show some (AV.v (.int .i64 (IntKind.i64.wrap ((i : Int) + 1)))) = _; rw [step1], rfl, rfl, rfl, trivial⟩ rfl rfl rfl, ⟨by simp only; omega, fun u hu => ?_, k1, hz1, by simp only; omega, by simp only; omega, by rw [hf1]; exact hf, h⟩, by simp only; omega⟩
            simp only at hu
            rw [List.take_add_one, ht] at hu
            rcases List.mem_append.1 hu with h4 | h4
            · exact hts u h4
            · simp at h4
              subst h4
              omega
        · have c4 : (t.size : Int) < 1 := by simpa using c4
          (conv => whnf)
          exact ⟨fun hr => absurd (hr.2.2 t htm).1 (by omega), fun _ => ⟨rfl, h.kept 2 rfl⟩⟩
      · have c3 : ¬ (i : Int) < (ts.length : Nat) := by simpa using c3
        have : i = ts.length := by omega
        subst this
        rw [List.take_length] at hts k
        have hright : Right ts := ⟨by omega, by omega, hts⟩
        (conv => whnf)
        refine ⟨_, h.cell 1 (i := 0) rfl rfl, ?_⟩
        (conv => whnf)
        refine FCalls.mono byDepth_c ?_
        rintro v M2 ⟨bb, rfl, h2⟩
        replace h : Sep (Sep [pt bb [.pointer (some ⟨p, 0, none⟩)], hu p d] :: [pt hb6 [.pointer (some ⟨p, 0, none⟩)], kp m]) M2 := Sep.group (L := [pt bb [.pointer (some ⟨p, 0, none⟩)], hu p d]) (h.on (N := [_]) h2)
        clear h2
        (conv => whnf)
        refine range_iterS (byDepth_iter k) (fun m m' hI hm => ?_) h (fun i vs L ⟨n, _, hv, _⟩ => by rw [hv]; rfl)
          (fun j M => ∃ d', Alike d d' ∧ LnkS d' ss (lwsOf fold ts) (Sn d ss j) ∧ Sep [hu p d', pt hb6 [.pointer (some ⟨p, 0, none⟩)], pt bb [.pointer (some ⟨p, 0, none⟩)], kp m] M)
          (fun M hM => ⟨d, Alike.refl d, lnk_start k hz, ?_⟩) ?_ ?_ ?_
        · obtain ⟨⟨e, g1⟩, d', g2, g3⟩ := hI
          exact ⟨⟨e, hm _ _ g1⟩, d', hu_more g2 hm, g3⟩
        · have h1 : Sep [pt bb [.pointer (some ⟨p, 0, none⟩)], hu p d, pt hb6 [.pointer (some ⟨p, 0, none⟩)], kp m] M := Sep.split hM
          exact (h1.move 2 rfl).move 2 rfl
        · rintro j M ⟨d', g1, g2, g3⟩
          exact ⟨g3.blk 2 rfl, d', hu_at g3 0 rfl, g1⟩
        · rintro j vs L m1 M hj ⟨n, hn, rfl, rfl⟩ ⟨d', g1, g2, g3⟩ h4
          replace g3 := g3.more (h4.kept 0 rfl)
          clear h4
          have hns := bfs_lt k.trie hn
          (conv => whnf)
          refine ⟨_, g3.cell 1 (i := 0) rfl rfl, ?_⟩
          (conv => whnf)
          refine FCalls.mono (g3.call 0 rfl fun m1 h1 => link_c (g1.tr k) h1 (List.getElem?_eq_getElem hns) g2 fun u t hu hl => sn_all k hn (List.getElem?_eq_getElem hns) u t hu hl) ?_
          rintro v M3 ⟨m2, ⟨rfl, d2, k1, k2, k3⟩, hB⟩
          have h5 := hB.one k1
          (conv => whnf)
          exact ⟨d2, g1.trans k2, lnk_step hn g1 k3, h5⟩
        · rintro M ⟨d', g1, g2, g3⟩
          (conv => whnf)
          refine ⟨_, g3.cell 1 (i := 0) rfl rfl, ?_⟩
          (conv => whnf)
          refine ⟨fun _ => ⟨p, rfl, ?_⟩, fun hr => absurd hright hr⟩
          exact (((g3.drop 1).drop 1).turn 0 rfl fun m1 _ h1 => ⟨d', ss, h1, lnk_fin k g1 g2, g1.fold.trans hf⟩)
  · have c1 : (ts.length : Int) < 1 := by simpa using c1
    (conv => whnf)
    exact ⟨fun h => absurd h.1 (by omega), fun _ => ⟨rfl, Mem.le_refl _⟩⟩
end Go.Proofs.Ytbcmhpannbdejaa
