/- Hunt: least, Next. -/
import Derived.Test.YtbcmhpannbdejaaHuA
namespace Go.Proofs.Ytbcmhpannbdejaa
open Go Go.Mv Go.Mv.Hunt
set_option maxHeartbeats 1000000
set_option maxRecDepth 10000
set_option linter.unusedVariables false
set_option linter.unusedSimpArgs false
attribute [local irreducible] FCalls IntKind.wrap bits Mem.set Mem.setCell Mem.setCells YCalls
/-- A text as it is compared. -/
def str (fold : Bool) (y : ByteArray) : Str := y.data.toList.map fun b => low fold b.toNat
theorem str_len {fold : Bool} {y : ByteArray} : (str fold y).length = y.size := by simp [str]
theorem str_at {fold : Bool} {y : ByteArray} {i : Nat} (hi : i < y.size) : ∃ c : Nat, c < 256 ∧ bt y (i : Int) = ((c : Nat) : Int) ∧ (str fold y)[i]? = some (low fold c) := by
  have hl : i < y.data.toList.length := hi
  refine ⟨(y.data.toList[i]).toNat, UInt8.toNat_lt _, ?_, ?_⟩
  · unfold bt
    rw [show ((i : Nat) : Int).toNat = i from rfl]
    simp [List.getD, hl]
    have : i < y.data.size := hl
    rw [Array.getElem?_eq_getElem this]
    rfl
  · unfold str
    rw [List.getElem?_map, List.getElem?_eq_getElem hl]
    rfl
theorem str_from {fold : Bool} {y : ByteArray} (b : Nat) : str fold (y.extract b y.size) = (str fold y).drop b := by
  unfold str
  rw [← List.map_drop]
  congr 1
  rw [ByteArray.data_extract, Array.toList_extract]
  simp only [List.extract_eq_take_drop]
  exact List.take_of_length_le (by rw [List.length_drop]; exact Nat.le_refl _)
theorem natv_len (l : List Nat) : (natv l).length = l.length := by simp [natv]
theorem natv_at {l : List Nat} {i k : Nat} (h : l[i]? = some k) : (natv l)[i]? = some (.int .i64 ((k : Nat) : Int)) := by simp [natv, h]
section
variable {p : Nat} {d : Hd} {m : Mem}
theorem hu_words (h : hu p d m) {n : Nat} {nd : Nd} (hn : d.ns[n]? = some nd) : Rd m nd.wA (natv nd.ws) := by
  obtain ⟨m1, h1, h2⟩ := Sep.get h 3 rfl
  exact (Sep.rd (L := d.ns.map wpart) h2 n (A := nd.wA) (n := nd.ws.length) (c := nd.wc) (sz := 1) (vs := natv nd.ws) (by rw [List.getElem?_map, hn]; rfl)).more h1
theorem hu_word (h : hu p d m) {n i k : Nat} {nd : Nd} (hn : d.ns[n]? = some nd) (hk : nd.ws[i]? = some k) : ∃ q, nd.wA = some q ∧ ((i : Nat) : Int) < (nd.ws.length : Nat) ∧ m.cell (q.add (i * 1)) = some (.int .i64 ((k : Nat) : Int)) := by
  obtain ⟨q, h1, h2⟩ := (hu_words h hn).at (natv_at hk)
  have := (List.getElem?_eq_some_iff.1 hk).1
  exact ⟨q, h1, by omega, by rw [Nat.mul_one]; exact h2⟩
theorem least_c {ss lws : List Str} (k : Tr d ss lws) (h : hu p d m) {y : ByteArray} (hy : y.size < 2 ^ 62) :
    FCalls Try.prog 26 [.pointer (some ⟨p, 0, none⟩), .string y] m fun v m' => ∃ kk st, v = .int .i64 kk ∧ Lst lws (str d.fold y) y.size kk ∧ hu p { d with st := st } m' := by
  refine fcalls_of_vc (T := tbl) (B := bodies) (pr := [99999]) (DR := dr26) (args := [.v (.pointer (some ⟨p, 0, none⟩)), .v (.string y)]) tbl_ok bodies_ok mixed Try.func26 rfl (by decide +kernel) (by simp [Try.f26]) rfl ?_
  (conv => whnf)
  refine loop_keep [0, 1, 10] (Nat × Nat × Int × Int × Mem) (fun s => [(11, .v (.int .i64 ((s.1 : Nat) : Int))), (6, .v (.int .i32 ((s.2.1 : Nat) : Int))), (5, .v (.int .i64 s.2.2.1))]) (fun _ => []) (fun s => s.2.2.2.2)
    (fun s => s.1 ≤ y.size ∧ ss[s.2.1]? = some ((str d.fold y).take s.1) ∧ Lst lws (str d.fold y) s.1 s.2.2.1 ∧ hu p { d with st := s.2.2.2.1 } s.2.2.2.2) (fun s => y.size - s.1)
    (0, 0, -1, d.st, m) ⟨rfl, rfl, rfl, trivial⟩ rfl rfl ⟨Nat.zero_le _, k.trie.root, Lst.start k.w0 _, h⟩ ?_
  clear h
  (conv => whnf)
  refine ⟨rfl, ?_⟩
  rintro ⟨i, n, kk, st, M⟩ ⟨hJ1, hn, hL, h⟩
  simp only at hJ1 hn hL h
  (conv => whnf)
  refine brk_intro (fun c1 => ?_) (fun c1 => ?_)
  · have c1 : (i : Int) < (y.size : Nat) := by simpa using c1
    obtain ⟨c, hc, hbt, hxc⟩ := str_at (fold := d.fold) (y := y) (i := i) (by omega)
    have hlo := low_lt (fold := d.fold) hc
    have hlen := str_len (fold := d.fold) (y := y)
    obtain ⟨nd, hnd⟩ := k.nd hn
    have hlt := k.lt hn
    have step1 : IntKind.i64.wrap ((i : Int) + 1) = ((i + 1 : Nat) : Int) := wrap_id (by omega) (by omega)
    have htk := take_snoc hxc
    obtain ⟨q, q0, q1, q2⟩ := hu_next h (d := { d with st := st }) hnd hlo
    (conv => whnf)
    refine ⟨_, _, _, hu_cell h (i := 0) rfl, ?_⟩
    (conv => whnf)
    refine ⟨by omega, c1, ?_⟩
    rw [hbt]
    (conv => whnf)
    refine ⟨_, lower_c h hc, ?_⟩
    (conv => whnf)
    refine ⟨_, q0, by omega, q1, ?_⟩
    (conv => whnf)
    refine ⟨Int.natCast_nonneg _, Int.ofNat_lt.2 hlo, ?_⟩
    (conv => whnf)
    refine ⟨_, q2, ?_⟩
    (conv => whnf)
    refine ⟨_, hu_cell h (i := 3) rfl, ?_⟩
    (conv => whnf)
    refine ⟨Sep.room h 0 (i := 3) rfl rfl, fun m3 he => ?_⟩
    have h2 := hu_step h he
    clear h he q2
    (conv => whnf)
    refine brk_intro (fun c2 => ?_) (fun c2 => ?_)
    · have c2 : nd.nx (low d.fold c) = 0 := by simpa using c2
      (conv => whnf)
      refine ⟨_, _, rfl, hL.stop k.trie k.all (by omega) (fun u => ?_) _ (by omega), h2⟩
      rw [htk]
      exact k.trie.nx_none hn (by rw [nxOf_at hnd]; exact c2) u
    · have c2 : nd.nx (low d.fold c) ≠ 0 := by simpa using c2
      have hn2 := k.trie.step n (low d.fold c) _ hn hlo (by rw [nxOf_at hnd]; exact c2)
      rw [← htk, nxOf_at hnd] at hn2
      generalize nd.nx (low d.fold c) = n2 at *
      obtain ⟨nd2, hnd2⟩ := k.nd hn2
      have hlt2 := k.lt hn2
      have hid := k.ids n2 nd2 _ hnd2 hn2
      obtain ⟨r, r0, r1, r2⟩ := hu_node h2 (d := { d with st := _ }) hnd2 (Nd.at2 nd2)
      (conv => whnf); refine ⟨_, _, _, hu_cell h2 (i := 0) rfl, ?_⟩; (conv => whnf); refine ⟨_, r0, by omega, r1, ?_⟩; (conv => whnf); refine ⟨_, _, _, r2, ?_⟩; (conv => whnf)
      cases hw : nd2.ws with
      | nil =>
        (conv => whnf)
        refine ⟨(i + 1, n2, kk, _, m3), le_eq ⟨by show some (AV.v (.int .i64 (IntKind.i64.wrap ((i : Int) + 1)))) = _; rw [step1], rfl, rfl, rfl, rfl, rfl, trivial⟩ rfl rfl rfl, ⟨by simp only; omega, hn2, hL.same ?_, h2⟩, by simp only; omega⟩
        rw [← idx_nil, ← hid, hw]
      | cons k0 l =>
        rw [hw] at hid
        obtain ⟨w, w0, w1, w2⟩ := hu_word h2 (d := { d with st := _ }) hnd2 (i := 0) (k := k0) (by rw [hw]; rfl)
        rw [hw] at w1
        have hL2 := hL.step (by omega) hid.symm
        (conv => whnf)
        refine brk_true (by simp) ?_
        (conv => whnf)
        refine brk_intro (fun c3 => ?_) (fun c3 => ?_)
        · have c3 : ¬ kk < 0 := by simpa using c3
          (conv => whnf)
          refine ⟨_, w0, by omega, w1, ?_⟩
          (conv => whnf)
          refine ⟨_, w2, ?_⟩
          (conv => whnf)
          refine brk_intro (fun c4 => ?_) (fun c4 => ?_)
          · have c4 : (k0 : Int) < kk := by simpa using c4
            rw [if_pos (.inr c4)] at hL2
            (conv => whnf)
            refine ⟨_, w0, by omega, w1, ?_⟩
            (conv => whnf)
            refine ⟨_, w2, ?_⟩
            (conv => whnf)
            exact ⟨(i + 1, n2, k0, _, m3), le_eq ⟨by show some (AV.v (.int .i64 (IntKind.i64.wrap ((i : Int) + 1)))) = _; rw [step1], rfl, rfl, rfl, rfl, rfl, trivial⟩ rfl rfl rfl, ⟨by simp only; omega, hn2, hL2, h2⟩, by simp only; omega⟩
          · have c4 : ¬ (k0 : Int) < kk := by simpa using c4
            rw [if_neg (by omega)] at hL2
            (conv => whnf)
            exact ⟨(i + 1, n2, kk, _, m3), le_eq ⟨by show some (AV.v (.int .i64 (IntKind.i64.wrap ((i : Int) + 1)))) = _; rw [step1], rfl, rfl, rfl, rfl, rfl, trivial⟩ rfl rfl rfl, ⟨by simp only; omega, hn2, hL2, h2⟩, by simp only; omega⟩
        · have c3 : kk < 0 := by simpa using c3
          rw [if_pos (.inl c3)] at hL2
          (conv => whnf)
          refine ⟨_, w0, by omega, w1, ?_⟩
          (conv => whnf)
          refine ⟨_, w2, ?_⟩
          (conv => whnf)
          exact ⟨(i + 1, n2, k0, _, m3), le_eq ⟨by show some (AV.v (.int .i64 (IntKind.i64.wrap ((i : Int) + 1)))) = _; rw [step1], rfl, rfl, rfl, rfl, rfl, trivial⟩ rfl rfl rfl, ⟨by simp only; omega, hn2, hL2, h2⟩, by simp only; omega⟩
  · have c1 : ¬ (i : Int) < (y.size : Nat) := by simpa using c1
    have : i = y.size := by omega
    subst this
    (conv => whnf)
    exact ⟨_, _, rfl, hL, h⟩
/-- What Next tells. -/
def NextIs (lws : List Str) (x : Str) (fr a w : Int) (ok : Bool) : Prop :=
  if 0 ≤ fr ∧ fr ≤ (x.length : Nat) then
    (if ok then ∃ b : Nat, a = b ∧ Fst lws x fr.toNat x.length true b ∧ Lst lws (x.drop b) (x.length - b) w else a = 0 ∧ w = 0 ∧ Fst lws x fr.toNat x.length false 0)
  else a = 0 ∧ w = 0 ∧ ok = false
theorem fst_lt {lws : List Str} (h0 : [] ∉ lws) {x : Str} {f i b : Nat} (h : Fst lws x f i true b) : b < i := by
  obtain ⟨_, ⟨k, t, h1, _, h3⟩, _⟩ := h
  have : t ≠ [] := by rintro rfl; exact h0 (List.mem_of_getElem? h1)
  have := List.length_pos_iff.2 this
  omega
theorem next_end {lws : List Str} {x : Str} {fr : Int} {w : Int} {b : Nat} (hf : 0 ≤ fr ∧ fr ≤ (x.length : Nat)) (h : Fst lws x fr.toNat x.length true b) (hw : Lst lws (x.drop b) (x.length - b) w) : NextIs lws x fr b w true := by
  unfold NextIs
  rw [if_pos hf, if_pos rfl]
  exact ⟨b, rfl, h, hw⟩
theorem next_c {ss lws : List Str} (k : Lk d ss lws) (h : hu p d m) {y : ByteArray} (hy : y.size < 2 ^ 62) (fr : Int) :
    FCalls Try.prog 12 [.pointer (some ⟨p, 0, none⟩), .string y, .int .i64 fr] m fun v m' => ∃ a w ok st, v = .tuple #[.int .i64 a, .int .i64 w, .bool ok] ∧ NextIs lws (str d.fold y) fr a w ok ∧ hu p { d with st := st } m' := by
  have hlen := str_len (fold := d.fold) (y := y)
  refine fcalls_of_vc (T := tbl) (B := bodies) (pr := [99999]) (DR := (100010, 0) :: dr12) (args := [.v (.pointer (some ⟨p, 0, none⟩)), .v (.string y), .v (.int .i64 fr)]) tbl_ok bodies_ok mixed Try.func12 rfl (by decide +kernel) (by simp [Try.f12]) rfl ?_
  by_cases hf : 0 ≤ fr ∧ fr ≤ (y.size : Nat)
  · obtain ⟨f, rfl⟩ : ∃ f : Nat, fr = f := ⟨fr.toNat, by omega⟩
    (conv => whnf)
    refine brk_false (by simp; omega) ?_
    (conv => whnf)
    refine loop_keep [0, 1, 2] (Nat × Nat × Nat × Bool × Int × Mem) (fun s => [(12, .v (.int .i64 ((s.1 : Nat) : Int))), (11, .v (.int .i32 ((s.2.1 : Nat) : Int))), (9, .v (.int .i64 ((s.2.2.1 : Nat) : Int))), (10, .v (.bool s.2.2.2.1))]) (fun _ => []) (fun s => s.2.2.2.2.2)
      (fun s => f ≤ s.1 ∧ s.1 ≤ y.size ∧ Lsuf ss (((str d.fold y).drop f).take (s.1 - f)) s.2.1 ∧ Fst lws (str d.fold y) f s.1 s.2.2.2.1 s.2.2.1 ∧ hu p { d with st := s.2.2.2.2.1 } s.2.2.2.2.2) (fun s => y.size - s.1)
      (f, 0, 0, false, d.st, m) ⟨rfl, rfl, rfl, rfl, trivial⟩ rfl rfl ⟨Nat.le_refl _, by simp only; omega, by rw [Nat.sub_self]; exact Lsuf.nil k.trie, Fst.start k.w0 _ _, h⟩ ?_
    clear h
    (conv => whnf)
    refine ⟨rfl, ?_⟩
    rintro ⟨i, n, b, found, st, M⟩ ⟨hJ1, hJ2, hn, hF, h⟩
    simp only at hJ1 hJ2 hn hF h
    (conv => whnf)
    refine brk_intro (fun c2 => ?_) (fun c2 => ?_)
    · have c2 : (i : Int) < (y.size : Nat) := by simpa using c2
      obtain ⟨c, hc, hbt, hxc⟩ := str_at (fold := d.fold) (y := y) (i := i) (by omega)
      have step1 : IntKind.i64.wrap ((i : Int) + 1) = ((i + 1 : Nat) : Int) := wrap_id (by omega) (by omega)
      (conv => whnf)
      refine ⟨by omega, c2, ?_⟩
      rw [hbt]
      (conv => whnf)
      refine FCalls.mono (on_c (k.turn st) h hn hc) ?_
      clear h
      rintro v M2 ⟨n2, st2, rfl, hn2, h⟩
      rw [← drop_take_snoc hJ1 hxc] at hn2
      (conv => whnf)
      refine join_keep [0, 1, 2, 11, 12] (Nat × Bool) (fun s => [(9, .v (.int .i64 ((s.1 : Nat) : Int))), (10, .v (.bool s.2))]) (fun _ => M2) (fun s => Fst lws (str d.fold y) f (i + 1) s.2 s.1) ?_
      (conv => whnf)
      refine ⟨?_, ?_⟩
      · (conv => whnf)
        refine FCalls.mono (longest_c (k.turn st2) h hn2) ?_
        rintro v M3 ⟨rfl, w, rfl, hw⟩
        (conv => whnf)
        refine brk_intro (fun c3 => ?_) (fun c3 => ?_)
        · have c3 : w ≠ 0 := by simpa using c3
          rcases hw with ⟨h1, _⟩ | ⟨_, s, hs, hsw, hsx, hmax⟩
          · exact absurd h1 c3
          · obtain ⟨nd, hnd⟩ := k.nd hs
            have hlt := k.lt hs
            have hdp := k.dp w nd s hnd hs
            obtain ⟨q, q0, q1, q2⟩ := hu_node h (d := { d with st := st2 }) hnd (Nd.at1 nd)
            obtain ⟨hsl, hF2⟩ := hF.word (by omega) hJ1 hsw hsx hmax
            have step2 : IntKind.i64.wrap (IntKind.i64.wrap ((i : Int) + 1) - ((nd.dp : Nat) : Int)) = ((i + 1 - s.length : Nat) : Int) := by
              rw [step1, hdp, wrap_id (by omega) (by omega)]
              omega
            (conv => whnf); refine ⟨_, _, _, hu_cell h (i := 0) rfl, ?_⟩; (conv => whnf); refine ⟨_, q0, by omega, q1, ?_⟩; (conv => whnf); refine ⟨_, q2, ?_⟩; (conv => whnf)
            rw [step2]
            cases found with
            | false =>
              rw [if_pos (.inl rfl)] at hF2
              (conv => whnf)
              exact ⟨(_, true), le_eq ⟨rfl, rfl, rfl, rfl, rfl, rfl, rfl, trivial⟩ rfl rfl rfl, hF2⟩
            | true =>
              (conv => whnf)
              refine brk_intro (fun c4 => ?_) (fun c4 => ?_)
              · have c4 : ((i + 1 - s.length : Nat) : Int) < (b : Int) := by simpa using c4
                rw [if_pos (.inr (by omega))] at hF2
                (conv => whnf)
                exact ⟨(_, true), le_eq ⟨rfl, rfl, rfl, rfl, rfl, rfl, rfl, trivial⟩ rfl rfl rfl, hF2⟩
              · have c4 : ¬ ((i + 1 - s.length : Nat) : Int) < (b : Int) := by simpa using c4
                rw [if_neg (by simp; omega)] at hF2
                (conv => whnf)
                exact ⟨(_, true), le_eq ⟨rfl, rfl, rfl, rfl, rfl, rfl, rfl, trivial⟩ rfl rfl rfl, hF2⟩
        · have c3 : w = 0 := by simpa using c3
          subst c3
          (conv => whnf)
          refine ⟨(b, found), le_eq ⟨rfl, rfl, rfl, rfl, rfl, rfl, rfl, trivial⟩ rfl rfl rfl, hF.not (by omega) hJ1 ?_⟩
          rcases hw with ⟨_, h1⟩ | ⟨h1, _⟩
          · exact h1
          · exact absurd rfl h1
      · rintro ⟨b2, found2⟩ hF2
        simp only at hF2
        obtain ⟨s, hs, hsx, _⟩ := id hn2
        obtain ⟨nd, hnd⟩ := k.nd hs
        have hlt := k.lt hs
        have hdp := k.dp n2 nd s hnd hs
        have hsl : s.length ≤ i + 1 - f := by
          have := hsx.length_le
          rw [List.length_take] at this
          omega
        obtain ⟨q, q0, q1, q2⟩ := hu_node h (d := { d with st := st2 }) hnd (Nd.at1 nd)
        have step2 : IntKind.i64.wrap (IntKind.i64.wrap ((i : Int) + 1) - ((nd.dp : Nat) : Int)) = ((i + 1 - s.length : Nat) : Int) := by
          rw [step1, hdp, wrap_id (by omega) (by omega)]
          omega
        cases found2 with
        | false =>
          (conv => whnf)
          exact ⟨(i + 1, n2, b2, false, st2, M2), le_eq ⟨by show some (AV.v (.int .i64 (IntKind.i64.wrap ((i : Int) + 1)))) = _; rw [step1], rfl, rfl, rfl, rfl, rfl, rfl, trivial⟩ rfl rfl rfl, ⟨by simp only; omega, by simp only; omega, hn2, hF2, h⟩, by simp only; omega⟩
        | true =>
          (conv => whnf); refine ⟨_, _, _, hu_cell h (i := 0) rfl, ?_⟩; (conv => whnf); refine ⟨_, q0, by omega, q1, ?_⟩; (conv => whnf); refine ⟨_, q2, ?_⟩; (conv => whnf)
          rw [step2]
          refine brk_intro (fun c4 => ?_) (fun c4 => ?_)
          · have c4 : (b2 : Int) ≤ ((i + 1 - s.length : Nat) : Int) := by simpa using c4
            have hF3 := hF2.stop k.trie k.all (by omega) (by omega) hn2 hs (by omega) y.size (by omega)
            have hb := fst_lt k.w0 hF3
            (conv => whnf)
            refine ⟨Int.natCast_nonneg _, Int.ofNat_le.2 (Nat.le_of_lt hb), Int.le_refl _, ?_⟩
            (conv => whnf)
            refine FCalls.mono (least_c (k.toTr.turn st2) h (y := y.extract b2 y.size) (by simp; omega)) ?_
            rintro v M4 ⟨kk, st3, rfl, hL, h3⟩
            (conv => whnf)
            rw [str_from] at hL
            refine ⟨_, _, _, _, rfl, next_end (by rw [hlen]; exact hf) (by rw [hlen]; exact hF3) ?_, h3⟩
            rw [hlen]
            simpa using hL
          · (conv => whnf)
            exact ⟨(i + 1, n2, b2, true, st2, M2), le_eq ⟨by show some (AV.v (.int .i64 (IntKind.i64.wrap ((i : Int) + 1)))) = _; rw [step1], rfl, rfl, rfl, rfl, rfl, rfl, trivial⟩ rfl rfl rfl, ⟨by simp only; omega, by simp only; omega, hn2, hF2, h⟩, by simp only; omega⟩
    · have c2 : ¬ (i : Int) < (y.size : Nat) := by simpa using c2
      have : i = y.size := by omega
      subst this
      cases found with
      | false =>
        (conv => whnf)
        refine ⟨_, _, _, _, rfl, ?_, h⟩
        unfold NextIs
        rw [if_pos (by rw [hlen]; exact hf), if_neg (by simp), hlen]
        exact ⟨rfl, rfl, rfl, hF.2⟩
      | true =>
        have hb := fst_lt k.w0 hF
        (conv => whnf)
        refine ⟨Int.natCast_nonneg _, Int.ofNat_le.2 (Nat.le_of_lt hb), Int.le_refl _, ?_⟩
        (conv => whnf)
        refine FCalls.mono (least_c (k.toTr.turn st) h (y := y.extract b y.size) (by simp; omega)) ?_
        rintro v M4 ⟨kk, st3, rfl, hL, h3⟩
        (conv => whnf)
        rw [str_from] at hL
        refine ⟨_, _, _, _, rfl, next_end (by rw [hlen]; exact hf) (by rw [hlen]; exact hF) ?_, h3⟩
        rw [hlen]
        simpa using hL
  · have key : ∃ w, w = fr := ⟨_, rfl⟩
    have fin : NextIs lws (str d.fold y) fr 0 0 false := by
      unfold NextIs
      rw [hlen, if_neg hf]
      exact ⟨rfl, rfl, rfl⟩
    (conv => whnf)
    refine brk_intro (fun c1 => ?_) (fun c1 => ?_)
    · have c1 : ¬ fr < 0 := by simpa using c1
      (conv => whnf)
      refine brk_true (by simp; omega) ?_
      (conv => whnf)
      exact ⟨_, _, _, _, rfl, fin, h⟩
    · (conv => whnf)
      exact ⟨_, _, _, _, rfl, fin, h⟩
end
end Go.Proofs.Ytbcmhpannbdejaa
