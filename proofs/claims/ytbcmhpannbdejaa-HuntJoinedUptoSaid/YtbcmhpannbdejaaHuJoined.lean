/- HuntJoined. -/
import Derived.Test.YtbcmhpannbdejaaHuR
namespace Go.Proofs.Ytbcmhpannbdejaa
open Go Go.Mv Go.Mv.Hunt
set_option maxHeartbeats 2000000
set_option maxRecDepth 10000
set_option linter.unusedVariables false
set_option linter.unusedSimpArgs false
attribute [local irreducible] FCalls IntKind.wrap bits Mem.set Mem.setCell Mem.setCells YCalls
theorem pre_sep {t u r : Str} {s : Nat} (hs : s ∉ t) : t <+: u ++ s :: r ↔ t <+: u := by
  constructor
  · intro h
    rcases Nat.lt_or_ge u.length t.length with h1 | h1
    · exfalso
      obtain ⟨z, hz⟩ := h
      have h2 := congrArg (fun l => l[u.length]?) hz
      rw [List.getElem?_append_left h1, List.getElem?_append_right (Nat.le_refl _), Nat.sub_self] at h2
      exact hs (List.mem_of_getElem? h2)
    · exact List.prefix_of_prefix_length_le h (List.prefix_append _ _) h1
  · intro h
    exact h.trans (List.prefix_append _ _)
def shift (n : Nat) (x : Nat × Nat) : Nat × Nat := (x.1 + n + 1, x.2)
theorem join_alls {lws : List Str} {x y : Str} {s : Nat} (h0 : [] ∉ lws) (hs : ∀ t, t ∈ lws → s ∉ t) : allsC lws (x ++ s :: y) = allsC lws x ++ (allsC lws y).map (shift x.length) := by
  have hX := allsC_is h0 x
  have hY := allsC_is h0 y
  symm
  refine Alls.is h0 ⟨?_, fun a k => ?_⟩
  · rw [List.pairwise_append]
    refine ⟨hX.1, ?_, fun p hp q hq => ?_⟩
    · rw [List.pairwise_map]
      refine hY.1.imp fun {a b} hab => ?_
      unfold before shift at *
      simp only
      omega
    · obtain ⟨z, _, rfl⟩ := List.mem_map.1 hq
      obtain ⟨t, h1, h2, h3⟩ := (std_stn h0).1 ((hX.2 p.1 p.2).1 hp)
      left
      unfold shift
      simp only
      omega
  · rw [List.mem_append, hX.2]
    constructor
    · rintro (⟨t, h1, h2⟩ | h1)
      · refine ⟨t, h1, ?_⟩
        have h3 : t ≠ [] := by rintro rfl; exact h0 (List.mem_of_getElem? h1)
        have h4 := List.length_pos_iff.2 h3
        have h5 := h2.length_le
        rw [List.length_drop] at h5
        rw [List.drop_append_of_le_length (by omega), pre_sep (hs t (List.mem_of_getElem? h1))]
        exact h2
      · obtain ⟨z, hz, he⟩ := List.mem_map.1 h1
        unfold shift at he
        cases he
        obtain ⟨t, g1, g2⟩ := (hY.2 z.1 z.2).1 hz
        refine ⟨t, g1, ?_⟩
        rw [List.drop_append, List.drop_eq_nil_of_le (by omega), List.nil_append, show z.1 + x.length + 1 - x.length = z.1 + 1 by omega, List.drop_succ_cons]
        exact g2
    · rintro ⟨t, h1, h2⟩
      rcases Nat.lt_or_ge x.length a with h3 | h3
      · right
        refine List.mem_map.2 ⟨(a - x.length - 1, k), (hY.2 _ _).2 ⟨t, h1, ?_⟩, by unfold shift; simp only; congr 1; omega⟩
        rw [List.drop_append, List.drop_eq_nil_of_le (by omega), List.nil_append, show a - x.length = (a - x.length - 1) + 1 by omega, List.drop_succ_cons] at h2
        exact h2
      · left
        refine ⟨t, h1, ?_⟩
        rw [List.drop_append_of_le_length h3, pre_sep (hs t (List.mem_of_getElem? h1))] at h2
        exact h2
theorem str_app {fold : Bool} {x y : ByteArray} : str fold (x ++ y) = str fold x ++ str fold y := by
  unfold str
  rw [← List.map_append]
  congr 1
theorem huntJoined_c {m : Mem} {A : Option Addr} {ts : List ByteArray} {c : Nat} {x y : ByteArray} {sp : Nat} (hA : Rd m A (svs ts)) (hl : ts.length ≤ 1048576) (hx : x.size ≤ 1048576) (hy : y.size ≤ 1048576) (hsp : sp < 256) :
    FCalls Try.prog 7 [.slice A ts.length c, .string x, .string y, .int .u8 ((sp : Nat) : Int)] m fun v m' => v = .bool true ∧ m.le m' := by
  refine fcalls_of_vc (T := tbl) (B := bodies) (pr := [99999]) (DR := dr7) (args := [.v (.slice A ts.length c), .v (.string x), .v (.string y), .v (.int .u8 ((sp : Nat) : Int))]) tbl_ok bodies_ok mixed Try.func7 rfl (by decide +kernel) (by simp [Try.f7]) rfl ?_
  (conv => whnf)
  refine FCalls.mono known_c ?_
  rintro v m1 ⟨rfl, hle1⟩
  (conv => whnf)
  refine FCalls.mono (new_h (fold := false) (hA.more hle1) (by omega)) ?_
  rintro v m2 ⟨h1, h2⟩
  by_cases hr : Right ts
  · obtain ⟨p, rfl, h⟩ := h1 hr
    clear h1 h2
    have hlw : (lwsOf false ts).length ≤ 100 := by rw [lws_len]; exact hr.2.1
    have hRd := (hA.more hle1).more (h.kept 1 rfl)
    (conv => whnf)
    refine loop_keep [0, 1, 2, 3, 10] Nat (fun s => [(12, .v (.int .i64 ((s : Nat) : Int)))]) (fun _ => []) (fun _ => m2) (fun s => s ≤ ts.length ∧ ∀ t, t ∈ ts.take s → sp ∉ str false t) (fun s => ts.length - s)
      0 ⟨rfl, trivial⟩ rfl rfl ⟨by simp, by simp⟩ ?_
    (conv => whnf)
    refine ⟨rfl, ?_⟩
    rintro i ⟨hJ1, hJ2⟩
    (conv => whnf)
    refine brk_intro (fun c1 => ?_) (fun c1 => ?_)
    · have c1 : (i : Int) < (ts.length : Nat) := by simpa using c1
      obtain ⟨t, ht⟩ : ∃ t, ts[i]? = some t := ⟨_, List.getElem?_eq_getElem (by omega)⟩
      obtain ⟨q, hq, hc⟩ := hRd.at (k := i) (v := .string t) (by simp [svs, ht])
      have hc : m2.cell (q.add (i * 1)) = some (.string t) := by rw [Nat.mul_one]; exact hc
      have hts := hr.2.2 t (List.mem_of_getElem? ht)
      have step1 : IntKind.i64.wrap ((i : Int) + 1) = ((i + 1 : Nat) : Int) := wrap_id (by omega) (by omega)
      (conv => whnf)
      refine loop_keep [0, 1, 2, 3, 10, 12] Nat (fun s => [(13, .v (.int .i64 ((s : Nat) : Int)))]) (fun _ => []) (fun _ => m2) (fun s => s ≤ t.size ∧ sp ∉ (str false t).take s) (fun s => t.size - s)
        0 ⟨rfl, trivial⟩ rfl rfl ⟨by simp, by simp⟩ ?_
      (conv => whnf)
      refine ⟨rfl, ?_⟩
      rintro j ⟨hK1, hK2⟩
      (conv => whnf)
      refine ⟨_, hq, by omega, c1, ?_⟩
      (conv => whnf)
      refine ⟨_, hc, ?_⟩
      (conv => whnf)
      refine brk_intro (fun c2 => ?_) (fun c2 => ?_)
      · have c2 : (j : Int) < (t.size : Nat) := by simpa using c2
        obtain ⟨b, hb, hbt, hxc⟩ := str_at (fold := false) (y := t) (i := j) (by omega)
        have hlo : low false b = b := by simp [low]
        rw [hlo] at hxc
        have step2 : IntKind.i64.wrap ((j : Int) + 1) = ((j + 1 : Nat) : Int) := wrap_id (by omega) (by omega)
        (conv => whnf)
        refine ⟨_, hq, by omega, c1, ?_⟩
        (conv => whnf)
        refine ⟨_, hc, ?_⟩
        (conv => whnf)
        refine ⟨by omega, c2, ?_⟩
        rw [hbt]
        (conv => whnf)
        refine brk_intro (fun c3 => ?_) (fun c3 => ?_)
        · (conv => whnf)
          exact ⟨rfl, Mem.le_trans hle1 (h.kept 1 rfl)⟩
        · have c3 : ¬ (b : Int) = (sp : Int) := by simpa using c3
          (conv => whnf)
          refine ⟨j + 1, le_eq ⟨by show some (AV.v (.int .i64 (IntKind.i64.wrap ((j : Int) + 1)))) = _; rw [step2], rfl, rfl, rfl, rfl, rfl, rfl, trivial⟩ rfl rfl rfl, ⟨by omega, ?_⟩, by omega⟩
          rw [take_snoc hxc, List.mem_append]
          rintro (h4 | h4)
          · exact hK2 h4
          · simp at h4
            omega
      · have c2 : ¬ (j : Int) < (t.size : Nat) := by simpa using c2
        (conv => whnf)
        refine ⟨i + 1, le_eq ⟨by show some (AV.v (.int .i64 (IntKind.i64.wrap ((i : Int) + 1)))) = _; rw [step1], rfl, rfl, rfl, rfl, rfl, trivial⟩ rfl rfl rfl, ⟨by omega, fun t' ht' => ?_⟩, by omega⟩
        rw [List.take_add_one, ht] at ht'
        rcases List.mem_append.1 ht' with h4 | h4
        · exact hJ2 t' h4
        · simp at h4
          subst h4
          rw [List.take_of_length_le (by rw [str_len]; omega)] at hK2
          exact hK2
    · have c1 : ¬ (i : Int) < (ts.length : Nat) := by simpa using c1
      rw [List.take_of_length_le (by omega)] at hJ2
      have hsep : ∀ t, t ∈ lwsOf false ts → sp ∉ t := by
        intro t ht
        obtain ⟨t', h4, rfl⟩ := List.mem_map.1 ht
        exact hJ2 t' h4
      have hzx : x.size * (lwsOf false ts).length ≤ 1048576 * 100 := Nat.mul_le_mul hx hlw
      have hzy : y.size * (lwsOf false ts).length ≤ 1048576 * 100 := Nat.mul_le_mul hy hlw
      have h0 := hunt_w0 (hunt_at h 0 rfl)
      have hlx := alls_len (y := str false x) h0
      have hly := alls_len (y := str false y) h0
      rw [str_len] at hlx hly
      (conv => whnf)
      refine FCalls.mono (h.call 0 rfl fun m1 h1 => all_h h1 (y := x) (by omega) (by omega)) ?_
      rintro v m3 ⟨m4, ⟨B, cB, rfl, h1⟩, hB⟩
      replace h := hB.sep h1
      clear h1 hB
      (conv => whnf)
      refine FCalls.mono (h.call 1 rfl fun m1 h1 => all_h h1 (y := y) (by omega) (by omega)) ?_
      rintro v m5 ⟨m4, ⟨C, cC, rfl, h1⟩, hB⟩
      replace h : Sep [hunt p false (lwsOf false ts), sl C (allsC (lwsOf false ts) (str false y)).length cC 2 ((allsC (lwsOf false ts) (str false y)).flatMap stc), sl B (allsC (lwsOf false ts) (str false x)).length cB 2 ((allsC (lwsOf false ts) (str false x)).flatMap stc), kp m1] m5 := (hB.sep h1).move 1 rfl
      clear h1 hB
      have hjoin := join_alls (x := str false x) (y := str false y) (s := sp) h0 hsep
      have hrange : ∀ z ∈ allsC (lwsOf false ts) (str false y), z.1 < y.size := fun z hz => by
        obtain ⟨t, e1, e2, e3⟩ := (std_stn h0).1 (((allsC_is h0 _).2 z.1 z.2).1 hz)
        have : t ≠ [] := by rintro rfl; exact h0 (List.mem_of_getElem? e1)
        have := List.length_pos_iff.2 this
        rw [str_len] at e3
        omega
      rw [str_len] at hjoin
      generalize allsC (lwsOf false ts) (str false x) = lx at *
      generalize allsC (lwsOf false ts) (str false y) = ly at *
      (conv => whnf)
      refine loop_keep [1, 2, 3, 10, 15] (Nat × Option Addr × Nat × Mem) (fun s => [(16, .v (.int .i64 ((s.1 : Nat) : Int))), (14, .v (.slice s.2.1 (lx.length + s.1) s.2.2.1))]) (fun _ => []) (fun s => s.2.2.2)
        (fun s => s.1 ≤ ly.length ∧ Sep [hunt p false (lwsOf false ts), sl C ly.length cC 2 (ly.flatMap stc), sl s.2.1 (lx.length + s.1) s.2.2.1 2 ((lx ++ (ly.take s.1).map (shift x.size)).flatMap stc), kp m1] s.2.2.2) (fun s => ly.length - s.1)
        (0, B, cB, m5) ⟨rfl, rfl, trivial⟩ rfl rfl ⟨by simp, by simpa using h⟩ ?_
      clear h
      (conv => whnf)
      refine ⟨rfl, ?_⟩
      rintro ⟨j, B, cB, M⟩ ⟨hK1, h⟩
      simp only at hK1 h
      (conv => whnf)
      refine brk_intro (fun c2 => ?_) (fun c2 => ?_)
      · have c2 : (j : Int) < (ly.length : Nat) := by simpa using c2
        obtain ⟨z, hz⟩ : ∃ z, ly[j]? = some z := ⟨_, List.getElem?_eq_getElem (by omega)⟩
        have hzr := hrange z (List.mem_of_getElem? hz)
        have step1 : IntKind.i64.wrap ((j : Int) + 1) = ((j + 1 : Nat) : Int) := wrap_id (by omega) (by omega)
        have step2 : IntKind.i64.wrap (IntKind.i64.wrap ((z.1 : Int) + (x.size : Int)) + 1) = ((z.1 + x.size + 1 : Nat) : Int) := by
          rw [wrap_id (x := (z.1 : Int) + (x.size : Int)) (by omega) (by omega), wrap_id (by omega) (by omega)]
          omega
        obtain ⟨q1, hq, hc0⟩ := (h.rd 1 rfl).atf (k := j * 2) (off := 0) ((flat_get stc_len hz (o := 0) (by decide)).trans rfl)
        obtain ⟨q2, hq2, hc1⟩ := (h.rd 1 rfl).atf (k := j * 2) (off := 1) ((flat_get stc_len hz (o := 1) (by decide)).trans rfl)
        rw [hq] at hq2
        cases hq2
        (conv => whnf)
        refine ⟨_, hq, by omega, c2, ?_⟩
        (conv => whnf)
        refine ⟨_, hc0, ?_⟩
        (conv => whnf)
        refine ⟨_, hq, by omega, c2, ?_⟩
        (conv => whnf)
        refine ⟨_, hc1, ?_⟩
        (conv => whnf)
        intro nb m6 hb he
        rw [step2] at he
        replace h := h.new' (l := stc (shift x.size z)) hb (he.trans rfl)
        have hBn : m6.holds ⟨nb, 0, none⟩ (stc (shift x.size z)) := (h.blk 0 rfl).holds fun k v hk => by rw [Nat.zero_add]; exact hk
        clear hb he
        (conv => whnf)
        obtain ⟨ok, hR⟩ := h.app 3 (T := tbl) (e := 42) (news := stc (shift x.size z)) (k := 1) (B := some ⟨nb, 0, none⟩) rfl rfl (.inr ⟨_, rfl, hBn⟩) rfl rfl (by show 2 * (_ + 1) * 16 ≤ 2 ^ 48; omega) rfl
        refine ⟨_, _, ok, fun A' c' m7 hr => ?_⟩
        replace h := (hR _ _ _ hr).drop 0
        clear ok hR hr hBn
        (conv => whnf)
        refine ⟨(j + 1, A', c', m7), le_eq ⟨by show some (AV.v (.int .i64 (IntKind.i64.wrap ((j : Int) + 1)))) = _; rw [step1], rfl, rfl, rfl, rfl, rfl, rfl, trivial⟩ rfl rfl rfl, ⟨by simp only; omega, ?_⟩, by simp only; omega⟩
        have e1 : (lx ++ (ly.take (j + 1)).map (shift x.size)).flatMap stc = (lx ++ (ly.take j).map (shift x.size)).flatMap stc ++ stc (shift x.size z) := by
          rw [List.take_add_one, hz]
          simp
        simp only
        rw [e1]
        exact h
      · have c2 : ¬ (j : Int) < (ly.length : Nat) := by simpa using c2
        have : j = ly.length := by omega
        subst this
        rw [List.take_length, ← hjoin] at h
        (conv => whnf)
        intro nb m6 hb he
        replace h := h.new' (l := [.int .u8 ((sp : Nat) : Int)]) hb (he.trans rfl)
        have hBn : m6.holds ⟨nb, 0, none⟩ (byteVals [UInt8.ofNat sp]) := (h.blk 0 rfl).holds fun k v hk => by
          rw [Nat.zero_add]
          unfold byteVals at hk
          rw [List.map_cons, List.map_nil, UInt8.toNat_ofNat_of_lt' (by exact hsp)] at hk
          exact hk
        clear hb he
        replace h := h.drop 0
        (conv => whnf)
        refine ⟨[UInt8.ofNat sp], rfl, .inr ⟨_, rfl, hBn⟩, ?_⟩
        (conv => whnf)
        have hmax : IntKind.i64.max = 9223372036854775807 := by rfl
        have hone : (⟨#[UInt8.ofNat sp]⟩ : ByteArray).size = 1 := rfl
        have hs1 : (x ++ (⟨#[UInt8.ofNat sp]⟩ : ByteArray)).size = x.size + 1 := by rw [ByteArray.size_append, hone]
        have hs2 : (x ++ (⟨#[UInt8.ofNat sp]⟩ : ByteArray) ++ y).size = x.size + 1 + y.size := by rw [ByteArray.size_append, hs1]
        have hstr : str false (x ++ (⟨#[UInt8.ofNat sp]⟩ : ByteArray) ++ y) = str false x ++ sp :: str false y := by
          rw [str_app, str_app, List.append_assoc]
          congr 1
          show [low false (UInt8.ofNat sp).toNat] ++ _ = _
          rw [UInt8.toNat_ofNat_of_lt' (by exact hsp)]
          simp [low]
        have hzz : (x.size + 1 + y.size) * (lwsOf false ts).length ≤ 3000000 * 100 := Nat.mul_le_mul (by omega) hlw
        have hlz := alls_len (y := str false (x ++ (⟨#[UInt8.ofNat sp]⟩ : ByteArray) ++ y)) h0
        rw [str_len, hs2] at hlz
        refine ⟨by rw [hmax, hone]; omega, ?_⟩
        (conv => whnf)
        refine ⟨by rw [hmax, hs1]; omega, ?_⟩
        (conv => whnf)
        refine FCalls.mono (h.call 0 rfl fun m1 h1 => all_h h1 (y := x ++ (⟨#[UInt8.ofNat sp]⟩ : ByteArray) ++ y) (by rw [hs2]; omega) (by rw [hs2]; omega)) ?_
        rintro v m7 ⟨m8, ⟨D, cD, rfl, h1⟩, hB⟩
        replace h := hB.sep h1
        clear h1 hB
        (conv => whnf)
        rw [hstr] at h hlz ⊢
        have hll : lx.length + ly.length = (allsC (lwsOf false ts) (str false x ++ sp :: str false y)).length := by rw [hjoin, List.length_append, List.length_map]
        rw [hll] at h ⊢
        refine FCalls.mono (same_c (h.rd 0 rfl) (h.rd 3 rfl) (by omega)) ?_
        rintro v m9 ⟨rfl, rfl⟩
        (conv => whnf)
        exact ⟨by simp; rfl, Mem.le_trans hle1 (h.kept 4 rfl)⟩
  · obtain ⟨rfl, h3⟩ := h2 hr
    (conv => whnf)
    exact ⟨rfl, Mem.le_trans hle1 h3⟩
end Go.Proofs.Ytbcmhpannbdejaa
