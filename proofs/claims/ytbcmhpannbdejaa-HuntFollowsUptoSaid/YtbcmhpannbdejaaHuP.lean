/- Hunt: SortFunc of stands; All. -/
import Derived.Test.YtbcmhpannbdejaaHuSortN
import Derived.Test.YtbcmhpannbdejaaHuSort
namespace Go.Proofs.Ytbcmhpannbdejaa
open Go Go.Mv Go.Mv.Hunt
set_option maxHeartbeats 1000000
set_option maxRecDepth 10000
set_option linter.unusedVariables false
set_option linter.unusedSimpArgs false
attribute [local irreducible] FCalls IntKind.wrap bits Mem.set Mem.setCell Mem.setCells YCalls
theorem hu_stepS {p : Nat} {d : Hd} {m m2 : Mem} {R : List Asn} {st : Int} (h : Sep (hu p d :: R) m) (he : m2 = m.setCell ⟨p, 3, none⟩ (.int .i64 st)) : Sep (hu p { d with st := st } :: R) m2 :=
  Sep.group (L := [pt p (Hd.head { d with st := st }), sl d.nA d.ns.length d.nc 260 (d.ns.flatMap Nd.cells), sl d.lA d.lng.length d.lc 1 (natv d.lng), wsp d.ns]) ((Sep.split h).put' 0 he rfl)
theorem stc_len (x : Nat × Nat) : (stc x).length = 2 := rfl
theorem cmpS_lt {p q : Nat × Nat} : cmpS p q < 0 ↔ before p q := by
  unfold cmpS before
  rcases cmpI_cases p.1 q.1 with ⟨a, e⟩ | ⟨a, e⟩ | ⟨a, e⟩ <;> rcases cmpI_cases p.2 q.2 with ⟨b, e'⟩ | ⟨b, e'⟩ | ⟨b, e'⟩ <;> rw [e] <;> simp <;> (try rw [e']) <;> (try omega)
open Go.Proofs Go.Sort in
theorem stand_swo : SWO (ltOf cmpS) where
  irrefl x := by
    simp only [ltOf, decide_eq_false_iff_not, cmpS_lt]
    unfold before
    omega
  trans x y z h1 h2 := by
    simp only [ltOf, decide_eq_true_eq, cmpS_lt] at *
    unfold before at *
    omega
  ntrans x y z h1 h2 := by
    simp only [ltOf, decide_eq_false_iff_not, cmpS_lt] at *
    unfold before at *
    omega
open Go.Proofs Go.Sort in
theorem sortStands_c {m0 m : Mem} {A : Option Addr} {n c : Nat} {xs : List (Nat × Nat)} (h : Sep [sl A n c 2 (xs.flatMap stc), kp m0] m) (hne : xs = [] → A = none ∧ n = 0 ∧ c = 0) (hsz : n < 4611686018427387904) :
    FCalls Try.prog 22 [.slice A n c, .func (.func 23) #[] #[]] m fun v m' =>
      v = .tuple #[] ∧ ∃ ys : List (Nat × Nat), ys.Perm xs ∧ ys.Pairwise (fun x y => ¬ before y x) ∧ Sep [sl A n c 2 (ys.flatMap stc), kp m0] m' := by
  cases xs with
  | nil =>
    obtain ⟨rfl, rfl, rfl⟩ := hne rfl
    exact sort_nil.mono fun v m' ⟨h1, h2⟩ => ⟨h1, [], List.Perm.refl _, List.Pairwise.nil, h2 ▸ h⟩
  | cons x0 r =>
    generalize hxs : x0 :: r = xs at *
    have hlen : xs.length = n := by
      have h1 := (h.asn 0 rfl).1
      rw [flat_len stc_len] at h1
      omega
    have hA : ∃ b o, A = some ⟨b, o, none⟩ := by
      obtain ⟨h1, h2, h3⟩ := h.asn 0 rfl
      rcases h3 with ⟨_, h4⟩ | ⟨b, o, l, e, h4, _⟩
      · have : xs.length = r.length + 1 := by rw [← hxs]; simp
        omega
      · exact ⟨b, o, h4⟩
    obtain ⟨b, o, rfl⟩ := hA
    have eg : ∀ args w, (callFunc 23 args).run Try.prog w = .ok (.enter 23 args) w := enters_of Try.func23 (by kernel_rfl) rfl
    refine FCalls.mono (sortFunc_c Try.sortStand 2 Try.isAgg63 Try.sizeOf63 stc (fun x => rfl) (fun x v hv => ?_) cmpS stand_swo 23 [] eg h hlen hsz fun x y => standCmp_c) ?_
    · simp [stc] at hv
      rcases hv with rfl | rfl <;> rfl
    · rintro v m' ⟨rfl, ys, h1, h2, h3⟩
      refine ⟨rfl, ys, h1, ?_, h3⟩
      refine h2.imp fun {a b} hab => ?_
      simp only [ltOf, decide_eq_false_iff_not, cmpS_lt] at hab
      exact hab
theorem all_c {m : Mem} {p : Nat} {y : ByteArray} : FCalls Try.prog 11 [.pointer (some ⟨p, 0, none⟩), .string y] m fun v m' => ∃ b q, v = .func (.func 19) #[] #[.pointer (some ⟨b, 0, none⟩), .pointer (some ⟨q, 0, none⟩)] ∧ Sep [pt b [.string y], pt q [.pointer (some ⟨p, 0, none⟩)], kp m] m' := by
  refine fcalls_of_vc (T := tbl) (B := bodies) (pr := [99999]) (DR := dr11) (args := [.v (.pointer (some ⟨p, 0, none⟩)), .v (.string y)]) tbl_ok bodies_ok mixed Try.func11 rfl (by decide +kernel) (by simp [Try.f11]) rfl ?_
  (conv => whnf)
  intro q m2 hb he
  have h := (Sep.init m).new' hb he
  (conv => whnf)
  intro b m3 hb he
  replace h := h.new' hb he
  (conv => whnf)
  exact ⟨b, q, rfl, h⟩
/-- What there is while a line is gone over. -/
def ahu (b q p : Nat) (d : Hd) (y : ByteArray) : Asn := fun M => ∃ st, Sep [pt b [.string y], pt q [.pointer (some ⟨p, 0, none⟩)], hu p { d with st := st }] M
theorem told_len {lws : List Str} {y : Str} {i u : Nat} {L : List (Nat × Nat)} (h0 : [] ∉ lws) (h : Hunt.Told lws y i u L) : L.length ≤ y.length * lws.length := by
  have h1 := h.1.length_le_of_subset (l₂ := (List.range y.length).flatMap fun a => (List.range lws.length).map fun k => (a, k)) fun x hx => by
    obtain ⟨t, h1, h2, h3⟩ := (h.2 x.1 x.2).1 hx
    have h4 := h2.length_le
    rw [List.length_drop] at h4
    have : t ≠ [] := by rintro rfl; exact h0 (List.mem_of_getElem? h1)
    have := List.length_pos_iff.2 this
    exact List.mem_flatMap.2 ⟨x.1, List.mem_range.2 (by omega), List.mem_map.2 ⟨x.2, List.mem_range.2 (lt_of_get h1), rfl⟩⟩
  refine Nat.le_trans h1 (Nat.le_of_eq ?_)
  rw [List.length_flatMap]
  simp [List.map_const']
open Classical in
theorem alls_ex {lws : List Str} (h0 : [] ∉ lws) (y : Str) : ∃ l, Alls lws y l := by
  refine ⟨(List.range y.length).flatMap fun a => ((List.range lws.length).filter fun k => decide (Std lws y a k)).map fun k => (a, k), ?_, fun a k => ?_⟩
  · rw [List.pairwise_flatMap]
    refine ⟨fun a _ => ?_, List.pairwise_lt_range.imp fun {a b} hab x hx z hz => ?_⟩
    · rw [List.pairwise_map]
      exact (List.pairwise_lt_range.filter _).imp fun {k l} hkl => .inr ⟨rfl, hkl⟩
    · obtain ⟨k, _, rfl⟩ := List.mem_map.1 hx
      obtain ⟨l, _, rfl⟩ := List.mem_map.1 hz
      exact .inl hab
  · rw [List.mem_flatMap]
    constructor
    · rintro ⟨a', _, h2⟩
      obtain ⟨k', h3, h4⟩ := List.mem_map.1 h2
      cases h4
      simpa using (List.mem_filter.1 h3).2
    · intro hs
      obtain ⟨t, h1, h2, h3⟩ := (std_stn h0).1 hs
      have : t ≠ [] := by rintro rfl; exact h0 (List.mem_of_getElem? h1)
      have := List.length_pos_iff.2 this
      exact ⟨a, List.mem_range.2 (by omega), List.mem_map.2 ⟨k, List.mem_filter.2 ⟨List.mem_range.2 (lt_of_get h1), by simpa using hs⟩, rfl⟩⟩
theorem all_iter {p b q : Nat} {d : Hd} {ss lws : List Str} (k : Lk d ss lws) {y : ByteArray} (hy : y.size * lws.length < 2 ^ 42) (hy2 : y.size < 2 ^ 62) {l : List (Nat × Nat)} (hl : Alls lws (str d.fold y) l) :
    IterS Try.prog 19 [] [.pointer (some ⟨b, 0, none⟩), .pointer (some ⟨q, 0, none⟩)] (Sep [pt b [.string y], pt q [.pointer (some ⟨p, 0, none⟩)], hu p d]) (ahu b q p d y)
      (fun _ => True) l.length (fun i vs L => ∃ a k, l[i]? = some (a, k) ∧ vs = [.int .i64 ((a : Nat) : Int), .int .i64 ((k : Nat) : Int)] ∧ L = []) := by
  intro yl J Q Rs m h hA hJI hyl
  show FCalls Try.prog 19 [.func (.yield yl) #[] #[], .pointer (some ⟨b, 0, none⟩), .pointer (some ⟨q, 0, none⟩)] m _
  have hlen := str_len (fold := d.fold) (y := y)
  refine FCalls.less ?_
  refine fcalls_of_vc (T := tbl) (B := bodies) (pr := [99999]) (DR := dr19) (args := [.v (.func (.yield yl) #[] #[]), .v (.pointer (some ⟨b, 0, none⟩)), .v (.pointer (some ⟨q, 0, none⟩))]) tbl_ok bodies_ok mixed Try.func19 rfl (by decide +kernel) (by simp [Try.f19]) rfl ?_
  replace h : Sep (pt b [.string y] :: pt q [.pointer (some ⟨p, 0, none⟩)] :: hu p d :: Rs) m := Sep.split h
  (conv => whnf)
  refine ⟨_, h.cell 0 (i := 0) rfl rfl, ?_⟩
  (conv => whnf)
  replace h : Sep (hu p d :: sl none 0 0 2 [] :: pt b [.string y] :: pt q [.pointer (some ⟨p, 0, none⟩)] :: Rs) m := by
    have h1 : Sep (hu p d :: pt b [.string y] :: pt q [.pointer (some ⟨p, 0, none⟩)] :: Rs) m := h.move 2 rfl
    obtain ⟨m1, m2, k1, k2, k3, k4, k5⟩ := h1
    exact ⟨m1, m2, k1, k2, k3, k4, Mem.empty, m2, fun _ => .inl rfl, fun _ _ hh => (by cases hh), Mem.le_refl _, sl_nil, k5⟩
  refine loop_keep [0, 1, 2, 12, 13] (Nat × Nat × List (Nat × Nat) × Option Addr × Nat × Int × Mem) (fun s => [(14, .v (.int .i64 ((s.1 : Nat) : Int))), (5, .v (.int .i32 ((s.2.1 : Nat) : Int))), (4, .v (.slice s.2.2.2.1 s.2.2.1.length s.2.2.2.2.1))]) (fun _ => []) (fun s => s.2.2.2.2.2.2)
    (fun s => s.1 ≤ y.size ∧ Lsuf ss ((str d.fold y).take s.1) s.2.1 ∧ Hunt.Told lws (str d.fold y) s.1 (s.1 + 1) s.2.2.1 ∧ (s.2.2.1 = [] → s.2.2.2.1 = none ∧ s.2.2.2.2.1 = 0) ∧
      Sep (hu p { d with st := s.2.2.2.2.2.1 } :: sl s.2.2.2.1 s.2.2.1.length s.2.2.2.2.1 2 (s.2.2.1.flatMap stc) :: pt b [.string y] :: pt q [.pointer (some ⟨p, 0, none⟩)] :: Rs) s.2.2.2.2.2.2) (fun s => y.size - s.1)
    (0, 0, [], none, 0, d.st, m) ⟨rfl, rfl, rfl, trivial⟩ rfl rfl ⟨by simp, Lsuf.nil k.trie, Told.start k.w0 _, fun _ => ⟨rfl, rfl⟩, h⟩ ?_
  clear h
  (conv => whnf)
  refine ⟨rfl, ?_⟩
  rintro ⟨i, n, L, lA, lc, st, M⟩ ⟨hJ1, hn, hT, hne, h⟩
  simp only at hJ1 hn hT hne h
  (conv => whnf)
  refine brk_intro (fun c1 => ?_) (fun c1 => ?_)
  · have c1 : (i : Int) < (y.size : Nat) := by simpa using c1
    obtain ⟨c, hc, hbt, hxc⟩ := str_at (fold := d.fold) (y := y) (i := i) (by omega)
    have step1 : IntKind.i64.wrap ((i : Int) + 1) = ((i + 1 : Nat) : Int) := wrap_id (by omega) (by omega)
    (conv => whnf)
    refine ⟨_, h.cell 3 (i := 0) rfl rfl, ?_⟩
    (conv => whnf)
    refine ⟨_, h.cell 2 (i := 0) rfl rfl, ?_⟩
    (conv => whnf)
    refine ⟨by omega, c1, ?_⟩
    rw [hbt]
    (conv => whnf)
    refine FCalls.mono (h.call 0 rfl fun m1 h1 => on_c (k.turn st) h1 hn hc) ?_
    rintro v M2 ⟨m1, ⟨n2, st2, rfl, hn2, h1⟩, hB⟩
    replace h := hB.one h1
    clear hB h1
    rw [← take_snoc hxc] at hn2
    (conv => whnf)
    refine ⟨_, h.cell 3 (i := 0) rfl rfl, ?_⟩
    (conv => whnf)
    refine FCalls.mono (longest_c (k.turn st2) (hu_at h 0 rfl) hn2) ?_
    rintro v M3 ⟨rfl, w, rfl, hw⟩
    (conv => whnf)
    have hxl : ((str d.fold y).take (i + 1)).length = i + 1 := by rw [List.length_take]; omega
    refine loop_keep [0, 1, 2, 5, 6, 12, 13, 14] (Nat × Str × List (Nat × Nat) × Option Addr × Nat × Int × Mem) (fun s => [(7, .v (.int .i32 ((s.1 : Nat) : Int))), (4, .v (.slice s.2.2.2.1 s.2.2.1.length s.2.2.2.2.1))]) (fun _ => []) (fun s => s.2.2.2.2.2.2)
      (fun s => s.2.1 <:+ (str d.fold y).take (i + 1) ∧ Wsuf ss (· ∈ lws) s.2.1 s.1 ∧ Hunt.Told lws (str d.fold y) i s.2.1.length s.2.2.1 ∧ (s.2.2.1 = [] → s.2.2.2.1 = none ∧ s.2.2.2.2.1 = 0) ∧
        Sep (hu p { d with st := s.2.2.2.2.2.1 } :: sl s.2.2.2.1 s.2.2.1.length s.2.2.2.2.1 2 (s.2.2.1.flatMap stc) :: pt b [.string y] :: pt q [.pointer (some ⟨p, 0, none⟩)] :: Rs) s.2.2.2.2.2.2) (fun s => s.2.1.length)
      (w, (str d.fold y).take (i + 1), L, lA, lc, st2, M3) ⟨rfl, rfl, trivial⟩ rfl rfl ⟨List.suffix_refl _, hw, hT.open (by rw [hxl]; omega), hne, h⟩ ?_
    clear h hw hT hne
    (conv => whnf)
    refine ⟨rfl, ?_⟩
    rintro ⟨w, u, L, lA, lc, st, M⟩ ⟨hu1, hw, hT, hne, h⟩
    simp only at hu1 hw hT hne h
    (conv => whnf)
    refine brk_intro (fun c2 => ?_) (fun c2 => ?_)
    · have c2 : w ≠ 0 := by simpa using c2
      rcases hw with ⟨hw, _⟩ | ⟨_, s, hs, hsw, hsu, hmax⟩
      · exact absurd hw c2
      obtain ⟨nd, hnd⟩ := k.nd hs
      have hlt := k.lt hs
      have hdp := k.dp w nd s hnd hs
      have hid := k.ids w nd s hnd hs
      have hlk := k.lnk w nd s hnd hs
      have hs0 : s ≠ [] := by rintro rfl; exact k.w0 hsw
      have hsl : s.length ≤ i + 1 := by
        have h1 := hsu.length_le
        have h2 := hu1.length_le
        omega
      have hspos := List.length_pos_iff.2 hs0
      have hT2 := hT.step (by omega) hu1 hsu hs0 hmax
      have hTl := told_len k.w0 hT2
      rw [hlen] at hTl
      have step2 : IntKind.i64.wrap (IntKind.i64.wrap ((i : Int) + 1) - ((nd.dp : Nat) : Int)) = ((i + 1 - s.length : Nat) : Int) := by
        rw [step1, hdp, wrap_id (by omega) (by omega)]
        omega
      have hh := hu_at h 0 rfl
      obtain ⟨r, r0, r1, r2⟩ := hu_node hh (d := { d with st := st }) hnd (Nd.at2 nd)
      (conv => whnf)
      refine ⟨_, h.cell 3 (i := 0) rfl rfl, ?_⟩
      (conv => whnf); refine ⟨_, _, _, hu_cell hh (i := 0) rfl, ?_⟩; (conv => whnf); refine ⟨_, r0, by omega, r1, ?_⟩; (conv => whnf); refine ⟨_, _, _, r2, ?_⟩; (conv => whnf)
      rw [List.length_append, List.length_map, ← hid] at hTl
      refine loop_keep [0, 1, 2, 5, 6, 7, 12, 13, 14, 43, 44] (Nat × Option Addr × Nat × Int × Mem) (fun t => [(45, .v (.int .i64 ((t.1 : Nat) : Int))), (4, .v (.slice t.2.1 (L.length + t.1) t.2.2.1))]) (fun _ => []) (fun t => t.2.2.2.2)
        (fun t => t.1 ≤ nd.ws.length ∧ (L = [] → t.1 = 0 → t.2.1 = none ∧ t.2.2.1 = 0) ∧
          Sep (hu p { d with st := t.2.2.2.1 } :: sl t.2.1 (L.length + t.1) t.2.2.1 2 ((L ++ (nd.ws.take t.1).map fun k => (i + 1 - s.length, k)).flatMap stc) :: pt b [.string y] :: pt q [.pointer (some ⟨p, 0, none⟩)] :: Rs) t.2.2.2.2) (fun t => nd.ws.length - t.1)
        (0, lA, lc, st, M) ⟨rfl, rfl, trivial⟩ rfl rfl ⟨by simp, fun h1 _ => hne h1, by simpa using h⟩ ?_
      clear h hh r0 r1 r2
      (conv => whnf)
      refine ⟨rfl, ?_⟩
      rintro ⟨j, lA, lc, st, M⟩ ⟨hK1, hne2, h⟩
      simp only at hK1 hne2 h
      (conv => whnf)
      refine brk_intro (fun c3 => ?_) (fun c3 => ?_)
      · have c3 : (j : Int) < (nd.ws.length : Nat) := by simpa using c3
        obtain ⟨kk, hkk⟩ : ∃ kk, nd.ws[j]? = some kk := ⟨_, List.getElem?_eq_getElem (by omega)⟩
        have hh := hu_at h 0 rfl
        obtain ⟨q1, q10, q11, q12⟩ := hu_word hh (d := { d with st := st }) hnd hkk
        obtain ⟨r, r0, r1, r2⟩ := hu_node hh (d := { d with st := st }) hnd (Nd.at1 nd)
        have step3 : IntKind.i64.wrap ((j : Int) + 1) = ((j + 1 : Nat) : Int) := wrap_id (by omega) (by omega)
        (conv => whnf)
        refine ⟨_, q10, by omega, q11, ?_⟩
        (conv => whnf)
        refine ⟨_, q12, ?_⟩
        (conv => whnf)
        refine ⟨_, h.cell 3 (i := 0) rfl rfl, ?_⟩
        (conv => whnf); refine ⟨_, _, _, hu_cell hh (i := 0) rfl, ?_⟩; (conv => whnf); refine ⟨_, r0, by omega, r1, ?_⟩; (conv => whnf); refine ⟨_, r2, ?_⟩; (conv => whnf)
        rw [step2]
        intro nb m2 hb he
        replace h := h.new' (l := stc (i + 1 - s.length, kk)) hb he
        have hB : m2.holds ⟨nb, 0, none⟩ (stc (i + 1 - s.length, kk)) := (h.blk 0 rfl).holds fun k v hk => by rw [Nat.zero_add]; exact hk
        clear hb he
        (conv => whnf)
        obtain ⟨ok, hR⟩ := h.app 2 (T := tbl) (e := 63) (news := stc (i + 1 - s.length, kk)) (k := 1) (B := some ⟨nb, 0, none⟩) rfl rfl (.inr ⟨_, rfl, hB⟩) rfl rfl (by show 2 * (_ + 1) * 16 ≤ 2 ^ 48; omega) rfl
        refine ⟨_, _, ok, fun A' c' m3 hr => ?_⟩
        replace h := (hR _ _ _ hr).drop 0
        clear ok hR hr hB
        (conv => whnf)
        refine ⟨_, h.cell 3 (i := 0) rfl rfl, ?_⟩
        (conv => whnf)
        refine ⟨_, hu_cell (hu_at h 0 rfl) (i := 3) rfl, ?_⟩
        (conv => whnf)
        refine ⟨Sep.room (hu_at h 0 rfl) 0 (i := 3) rfl rfl, fun m4 he => ?_⟩
        replace h := hu_stepS h he
        clear he
        (conv => whnf)
        refine ⟨(j + 1, A', c', IntKind.i64.wrap (st + 1), m4), le_eq ⟨by show some (AV.v (.int .i64 (IntKind.i64.wrap ((j : Int) + 1)))) = _; rw [step3], rfl, rfl, rfl, rfl, rfl, rfl, rfl, rfl, rfl, rfl, rfl, rfl, trivial⟩ rfl rfl rfl, ⟨by simp only; omega, fun _ hj => (by simp only at hj; omega), ?_⟩, by simp only; omega⟩
        simp only
        have e1 : (L ++ (nd.ws.take (j + 1)).map fun k => (i + 1 - s.length, k)).flatMap stc = (L ++ (nd.ws.take j).map fun k => (i + 1 - s.length, k)).flatMap stc ++ stc (i + 1 - s.length, kk) := by
          rw [List.take_add_one, hkk]
          simp
        rw [e1]
        exact h
      · have c3 : ¬ (j : Int) < (nd.ws.length : Nat) := by simpa using c3
        have : j = nd.ws.length := by omega
        subst this
        have hh := hu_at h 0 rfl
        obtain ⟨r, r0, r1, r2⟩ := hu_node hh (d := { d with st := st }) hnd (Nd.at4 nd)
        (conv => whnf)
        refine ⟨_, h.cell 3 (i := 0) rfl rfl, ?_⟩
        (conv => whnf); refine ⟨_, _, _, hu_cell hh (i := 0) rfl, ?_⟩; (conv => whnf); refine ⟨_, r0, by omega, r1, ?_⟩; (conv => whnf); refine ⟨_, r2, ?_⟩; (conv => whnf)
        rw [List.take_length] at h
        rw [← hid] at hT2
        refine ⟨(nd.ou, s.tail, _, lA, lc, st, M), le_eq ⟨rfl, by show _ = some (AV.v (.slice lA (L ++ nd.ws.map fun k => (i + 1 - s.length, k)).length lc)); rw [List.length_append, List.length_map]; rfl, rfl, rfl, rfl, rfl, rfl, rfl, rfl, rfl, trivial⟩ rfl rfl rfl, ⟨(List.tail_suffix s).trans (hsu.trans hu1), hlk.2, hT2, fun hnil => ?_, ?_⟩, ?_⟩
        · simp only at hnil ⊢
          rw [List.append_eq_nil_iff] at hnil
          exact hne2 hnil.1 (by simpa using hnil.2)
        · simp only
          rw [List.length_append, List.length_map]
          exact h
        · simp only
          have := hsu.length_le
          rw [List.length_tail]
          omega
    · have c2 : w = 0 := by simpa using c2
      subst c2
      (conv => whnf)
      have hnw : ∀ t, t ∈ lws → ¬ t <:+ u := by
        rcases hw with ⟨_, h1⟩ | ⟨h1, _⟩
        · exact h1
        · exact absurd rfl h1
      exact ⟨(i + 1, n2, L, lA, lc, st, M), le_eq ⟨by show some (AV.v (.int .i64 (IntKind.i64.wrap ((i : Int) + 1)))) = _; rw [step1], rfl, rfl, rfl, rfl, rfl, rfl, rfl, trivial⟩ rfl rfl rfl, ⟨by simp only; omega, hn2, hT.close (by omega) hu1 hnw, hne, h⟩, by simp only; omega⟩
  · have c1 : ¬ (i : Int) < (y.size : Nat) := by simpa using c1
    have : i = y.size := by omega
    subst this
    have hTl := told_len k.w0 hT
    rw [hlen] at hTl
    (conv => whnf)
    refine FCalls.mono (h.call 1 rfl fun m1 h1 => sortStands_c (m0 := Mem.empty) (xs := L) ⟨m1, Mem.empty, fun _ => .inr rfl, Mem.le_refl _, fun _ _ hh => (by cases hh), h1, Mem.empty, Mem.empty, fun _ => .inr rfl, Mem.le_refl _, Mem.le_refl _, fun _ _ hh => (by cases hh), trivial⟩ (fun hh => ⟨(hne hh).1, by rw [hh]; rfl, (hne hh).2⟩) (by show L.length < _; omega)) ?_
    rintro v M2 ⟨m1, ⟨rfl, zs, hp, hso, hS2⟩, hB⟩
    have hzl : zs.length = L.length := hp.length_eq
    rw [← hlen] at hT
    have hzs := (Alls.of k.w0 hT hp hso).unique hl
    subst hzs
    have hrest : Sep [J 0, sl lA L.length lc 2 (zs.flatMap stc)] M2 := by
      obtain ⟨m2, g1, g2⟩ := hS2.get 0 rfl
      refine (hB.one (sl_more g2 g1)).last fun M3 hM3 => hA _ ?_
      have h1 : Sep (pt b [.string y] :: pt q [.pointer (some ⟨p, 0, none⟩)] :: hu p { d with st := st } :: Rs) M3 := (hM3.move 2 rfl).move 2 rfl
      exact (Sep.group (L := [pt b [.string y], pt q [.pointer (some ⟨p, 0, none⟩)], hu p { d with st := st }]) h1).turn 0 rfl fun m1 _ h2 => ⟨st, h2⟩
    clear hS2 h hB
    (conv => whnf)
    refine loop_keep [0, 76, 77] (Nat × Mem) (fun s => [(78, .v (.int .i64 ((s.1 : Nat) : Int)))]) (fun _ => []) (fun s => s.2)
      (fun s => s.1 ≤ zs.length ∧ Sep [J s.1, sl lA L.length lc 2 (zs.flatMap stc)] s.2) (fun s => zs.length - s.1) (0, M2) ⟨rfl, trivial⟩ rfl rfl ⟨by simp, hrest⟩ ?_
    clear hrest
    (conv => whnf)
    refine ⟨rfl, ?_⟩
    rintro ⟨i, M3⟩ ⟨hK1, hS3⟩
    simp only at hK1 hS3
    (conv => whnf)
    refine brk_intro (fun c2 => ?_) (fun c2 => ?_)
    · have c2 : (i : Int) < (L.length : Nat) := by simpa using c2
      obtain ⟨⟨a, kk⟩, hs⟩ : ∃ s, zs[i]? = some s := ⟨_, List.getElem?_eq_getElem (by omega)⟩
      have hrd := hS3.rd 1 rfl
      obtain ⟨q1, hq, hc0⟩ := hrd.atf (k := i * 2) (off := 0) ((flat_get stc_len hs (o := 0) (by decide)).trans rfl)
      obtain ⟨q2, hq2, hc1⟩ := hrd.atf (k := i * 2) (off := 1) ((flat_get stc_len hs (o := 1) (by decide)).trans rfl)
      rw [hq] at hq2
      cases hq2
      have step1 : IntKind.i64.wrap ((i : Int) + 1) = ((i + 1 : Nat) : Int) := wrap_id (by omega) (by omega)
      (conv => whnf)
      refine ⟨_, hq, by omega, c2, ?_⟩
      (conv => whnf)
      refine ⟨_, hc0, ?_⟩
      (conv => whnf)
      refine ⟨_, hc1, ?_⟩
      (conv => whnf)
      intro nb m4 hb he
      replace hS3 := hS3.new' hb he
      clear hb he
      (conv => whnf)
      refine ⟨hS3.rooms 0 (i := 0) (n := 2) rfl (Nat.le_refl 2), fun m5 he => ?_⟩
      replace hS3 : Sep [pt nb [.int .i64 ((a : Nat) : Int), .int .i64 ((kk : Nat) : Int)], J i, sl lA L.length lc 2 (zs.flatMap stc)] m5 := by
        rw [he]
        exact hS3.putAll 0 (i := 0) [.int .i64 ((a : Nat) : Int), .int .i64 ((kk : Nat) : Int)] rfl
      (conv => whnf)
      refine ⟨_, hS3.cell 0 (i := 0) rfl rfl, ?_⟩
      (conv => whnf)
      refine ⟨_, hS3.cell 0 (i := 1) rfl rfl, ?_⟩
      (conv => whnf)
      replace hS3 := hS3.drop 0
      refine YCalls.mono (Sep.ycalls hS3 (K := fun v m'' => (v = .bool true ∧ J (i + 1) m'') ∨ (v = .bool false ∧ Q m'')) fun m1 h6 => hyl i _ [] m1 m1 (by omega) ⟨a, kk, hs, rfl, rfl⟩ h6 (Sep.init m1)) ?_
      rintro v M5 ⟨m1, hv, hB⟩
      rcases hv with ⟨rfl, hJ1⟩ | ⟨rfl, hQ⟩
      · (conv => whnf)
        exact ⟨(i + 1, M5), le_eq ⟨by show some (AV.v (.int .i64 (IntKind.i64.wrap ((i : Int) + 1)))) = _; rw [step1], rfl, rfl, rfl, trivial⟩ rfl rfl rfl, ⟨by simp only; omega, hB.one hJ1⟩, by simp only; omega⟩
      · (conv => whnf)
        obtain ⟨m2, _, h7, _⟩ := hB
        exact ⟨m1, h7, .inr hQ⟩
    · have c2 : ¬ (i : Int) < (L.length : Nat) := by simpa using c2
      have hi : i = zs.length := by omega
      subst hi
      (conv => whnf)
      obtain ⟨mj, hmj, hJm⟩ := hS3.get 0 rfl
      exact ⟨mj, hmj, .inl hJm⟩
end Go.Proofs.Ytbcmhpannbdejaa
