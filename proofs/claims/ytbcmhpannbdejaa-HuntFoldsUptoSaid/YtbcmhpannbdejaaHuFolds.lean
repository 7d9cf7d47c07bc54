/- HuntFolds. -/
import Derived.Test.YtbcmhpannbdejaaHuR
namespace Go.Proofs.Ytbcmhpannbdejaa
open Go Go.Mv Go.Mv.Hunt
set_option maxHeartbeats 2000000
set_option maxRecDepth 10000
set_option linter.unusedVariables false
set_option linter.unusedSimpArgs false
attribute [local irreducible] FCalls IntKind.wrap bits Mem.set Mem.setCell Mem.setCells YCalls
/-- A byte in small letters. -/
def dn (b : UInt8) : UInt8 := if 65 ≤ b.toNat ∧ b.toNat ≤ 90 then UInt8.ofNat (b.toNat + 32) else b
def dnT (t : ByteArray) : ByteArray := ⟨(t.data.toList.map dn).toArray⟩
theorem dnT_size {t : ByteArray} : (dnT t).size = t.size := by
  show ((t.data.toList.map dn).toArray).size = t.data.size
  simp
theorem dn_low (b : UInt8) : low false (dn b).toNat = low true b.toNat := by
  have hb := b.toNat_lt
  unfold dn low
  split
  · rename_i h
    rw [UInt8.toNat_ofNat_of_lt' (by show _ < 256; omega)]
    simp [h.1, h.2]
  · rename_i h
    rw [if_neg (by simp), if_neg (by simp; omega)]
theorem str_dn {t : ByteArray} : str false (dnT t) = str true t := by
  unfold str dnT
  simp only [List.map_map]
  exact List.map_congr_left fun b _ => dn_low b
theorem lws_dn {ts : List ByteArray} : lwsOf false (ts.map dnT) = lwsOf true ts := by
  unfold lwsOf
  rw [List.map_map]
  exact List.map_congr_left fun b _ => str_dn
theorem right_dn {ts : List ByteArray} (h : Right ts) : Right (ts.map dnT) := by
  refine ⟨by rw [List.length_map]; exact h.1, by rw [List.length_map]; exact h.2.1, fun t ht => ?_⟩
  obtain ⟨x, h1, rfl⟩ := List.mem_map.1 ht
  rw [dnT_size]
  exact h.2.2 x h1
/-- Block b holds l, and what a text's bytes are laid with. -/
def pz (b : Nat) (l : List Value) : Asn := fun m => ∃ e, m b = some (.cells l.toArray e (l.length, l.length + 1))
theorem pz_cell {L : List Asn} {m : Mem} (h : Sep L m) (j : Nat) {b i : Nat} {l : List Value} {v : Value} (hj : L[j]? = some (pz b l)) (hi : l[i]? = some v) : m.cell ⟨b, i, none⟩ = some v := by
  obtain ⟨m1, h1, e, h2⟩ := h.get j hj
  have := h1 _ _ h2
  simp [Mem.cell, this, hi]
theorem pz_fz {L : List Asn} {m : Mem} (h : Sep L m) (j : Nat) {b i : Nat} {l : List Value} (hj : L[j]? = some (pz b l)) (hi : i < l.length) : m.fz ⟨b, i, none⟩ = false := by
  obtain ⟨m1, h1, e, h2⟩ := h.get j hj
  have := h1 _ _ h2
  simp [Mem.fz, this]
  omega
theorem pz_put {L : List Asn} {m m2 : Mem} (h : Sep L m) (j : Nat) {b i : Nat} {l : List Value} {v : Value} (he : m2 = m.setCell ⟨b, i, none⟩ v) (hj : L[j]? = some (pz b l)) : Sep (L.set j (pz b (l.set i v))) m2 := by
  rw [he, ← setCells_one]
  refine h.puts j hj (fun m1 _ ⟨e, hA⟩ => by rw [hA]; simp) fun m1 _ ⟨e, hA⟩ => ?_
  rw [setCells_one]
  exact ⟨e, by simp [Mem.setCell, hA]⟩
theorem bv_get {l : List UInt8} {i : Nat} {x : UInt8} {z : List Value} (h : l[i]? = some x) : (byteVals l ++ z)[i]? = some (.int .u8 ((x.toNat : Nat) : Int)) := by
  have := lt_of_get h
  rw [List.getElem?_append_left (by simpa [byteVals] using this)]
  simp [byteVals, h]
theorem bv_set {l : List UInt8} {i : Nat} {x : UInt8} {z : List Value} (h : i < l.length) : (byteVals l ++ z).set i (.int .u8 ((x.toNat : Nat) : Int)) = byteVals (l.set i x) ++ z := by
  rw [List.set_append_left _ _ (by simpa [byteVals] using h)]
  congr 1
  unfold byteVals
  rw [List.map_set]
def half (xs : List UInt8) (i : Nat) : List UInt8 := (xs.take i).map dn ++ xs.drop i
theorem half_len {xs : List UInt8} {i : Nat} : (half xs i).length = xs.length := by
  unfold half
  rw [List.length_append, List.length_map, List.length_take, List.length_drop]
  omega
theorem half_get {xs : List UInt8} {i : Nat} {x : UInt8} (h : xs[i]? = some x) : (half xs i)[i]? = some x := by
  have := lt_of_get h
  unfold half
  rw [List.getElem?_append_right (by simp; omega), List.getElem?_drop]
  rw [List.length_map, List.length_take, show i + (i - min i xs.length) = i by omega]
  exact h
theorem half_set {xs : List UInt8} {i : Nat} {x : UInt8} (h : xs[i]? = some x) : (half xs i).set i (dn x) = half xs (i + 1) := by
  have hi := lt_of_get h
  obtain ⟨_, hx⟩ := List.getElem?_eq_some_iff.1 h
  unfold half
  rw [List.set_append_right _ _ (by simp; omega), List.take_add_one, h, List.drop_eq_getElem_cons hi, List.length_map, List.length_take, show i - min i xs.length = 0 by omega]
  rw [List.set_cons_zero]
  simp
theorem half_keep {xs : List UInt8} {i : Nat} {x : UInt8} (h : xs[i]? = some x) (hd : dn x = x) : half xs (i + 1) = half xs i := by
  rw [← half_set h, hd]
  apply List.ext_getElem?
  intro k
  rw [List.getElem?_set]
  split
  · rename_i hk
    subst hk
    have := lt_of_get (half_get h)
    rw [if_pos this, half_get h]
  · rfl
theorem half_all {xs : List UInt8} : half xs xs.length = xs.map dn := by simp [half]
theorem dn_c {m : Mem} {t : ByteArray} (ht : t.size < 2 ^ 62) : FCalls Try.prog 13 [.string t] m fun v m' => v = .string (dnT t) ∧ m.le m' := by
  refine fcalls_of_vc (T := tbl) (B := bodies) (pr := [99999]) (DR := dr13) (args := [.v (.string t)]) tbl_ok bodies_ok mixed Try.func13 rfl (by decide +kernel) (by simp [Try.f13]) rfl ?_
  (conv => whnf)
  intro cap b m2 hcap hb he
  have hlen : t.data.toList.length = t.size := rfl
  obtain ⟨z, hz⟩ : ∃ z, z = List.replicate (cap - t.size) (Value.int .u8 0) := ⟨_, rfl⟩
  have h : Sep [pz b (byteVals (half t.data.toList 0) ++ z), kp m] m2 := by
    have h0 : half t.data.toList 0 = t.data.toList := by simp [half]
    rw [he, h0]
    refine ⟨Go.Mv.one b (.cells (byteRow t cap).toArray 5 ((byteRow t cap).length, (byteRow t cap).length + 1)), m, fun k => ?_, fun k o hk => ?_, Mem.le_set hb, ⟨5, ?_⟩, Sep.init m⟩
    rotate_left 2
    · unfold byteRow
      rw [← hz]
      simp [Go.Mv.one]
    · by_cases hk : k = b
      · exact .inr (hk ▸ hb)
      · exact .inl (by simp [Go.Mv.one, hk])
    · simp only [Go.Mv.one] at hk
      split at hk
      · rename_i hkb
        subst hkb
        simpa [Mem.set, bytesObj] using hk
      · cases hk
  clear he hz
  (conv => whnf)
  refine loop_keep [0, 3] (Nat × Mem) (fun s => [(4, .v (.int .i64 ((s.1 : Nat) : Int)))]) (fun _ => []) (fun s => s.2) (fun s => s.1 ≤ t.size ∧ Sep [pz b (byteVals (half t.data.toList s.1) ++ z), kp m] s.2) (fun s => t.size - s.1)
    (0, m2) ⟨rfl, trivial⟩ rfl rfl ⟨by simp, h⟩ ?_
  clear h
  (conv => whnf)
  refine ⟨rfl, ?_⟩
  rintro ⟨i, M⟩ ⟨hJ1, h⟩
  simp only at hJ1 h
  (conv => whnf)
  refine brk_intro (fun c1 => ?_) (fun c1 => ?_)
  · have c1 : (i : Int) < (t.size : Nat) := by simpa using c1
    obtain ⟨x, hx⟩ : ∃ x, t.data.toList[i]? = some x := ⟨_, List.getElem?_eq_getElem (by omega)⟩
    have hxl := x.toNat_lt
    have step1 : IntKind.i64.wrap ((i : Int) + 1) = ((i + 1 : Nat) : Int) := wrap_id (by omega) (by omega)
    have hc := pz_cell h 0 rfl (bv_get (half_get hx))
    have hc : M.cell (Addr.add ⟨b, 0, none⟩ (i * 1)) = some (.int .u8 ((x.toNat : Nat) : Int)) := by rw [Nat.mul_one, add_mk, Nat.zero_add]; exact hc
    (conv => whnf)
    refine ⟨_, rfl, by omega, c1, ?_⟩
    (conv => whnf)
    refine ⟨_, hc, ?_⟩
    (conv => whnf)
    refine brk_intro (fun c2 => ?_) (fun c2 => ?_)
    · have c2 : (65 : Int) ≤ (x.toNat : Nat) := by simpa using c2
      (conv => whnf)
      refine ⟨_, rfl, by omega, c1, ?_⟩
      (conv => whnf)
      refine ⟨_, hc, ?_⟩
      (conv => whnf)
      refine brk_intro (fun c3 => ?_) (fun c3 => ?_)
      · have c3 : ((x.toNat : Nat) : Int) ≤ 90 := by simpa using c3
        have hdn : dn x = UInt8.ofNat (x.toNat + 32) := by unfold dn; rw [if_pos (by omega)]
        have hdn2 : IntKind.u8.wrap (((x.toNat : Nat) : Int) + 32) = (((dn x).toNat : Nat) : Int) := by
          rw [wrapu8 (by omega) (by omega), hdn, UInt8.toNat_ofNat_of_lt' (by show _ < 256; omega)]
          omega
        (conv => whnf)
        refine ⟨_, rfl, by omega, c1, ?_⟩
        (conv => whnf)
        refine ⟨_, hc, ?_⟩
        (conv => whnf)
        refine ⟨_, rfl, by omega, c1, ?_⟩
        (conv => whnf)
        refine ⟨⟨⟨_, hc⟩, ?_⟩, fun m3 he => ?_⟩
        · have h9 := pz_fz h 0 (i := i) rfl (by simp [byteVals, half_len]; omega)
          show M.fz (Addr.add ⟨b, 0, none⟩ (i * 1)) = false
          rw [Nat.mul_one, add_mk, Nat.zero_add]
          exact h9
        · rw [hdn2] at he
          replace he : m3 = M.setCell (Addr.add ⟨b, 0, none⟩ (i * 1)) (.int .u8 (((dn x).toNat : Nat) : Int)) := he
          rw [Nat.mul_one, add_mk, Nat.zero_add] at he
          have h2 := pz_put h 0 he rfl
          rw [bv_set (by rw [half_len]; omega), half_set hx] at h2
          (conv => whnf)
          exact ⟨(i + 1, m3), le_eq ⟨by show some (AV.v (.int .i64 (IntKind.i64.wrap ((i : Int) + 1)))) = _; rw [step1], rfl, rfl, trivial⟩ rfl rfl rfl, ⟨by simp only; omega, h2⟩, by simp only; omega⟩
      · have c3 : ¬ ((x.toNat : Nat) : Int) ≤ 90 := by simpa using c3
        have hdn : dn x = x := by unfold dn; rw [if_neg (by omega)]
        (conv => whnf)
        refine ⟨(i + 1, M), le_eq ⟨by show some (AV.v (.int .i64 (IntKind.i64.wrap ((i : Int) + 1)))) = _; rw [step1], rfl, rfl, trivial⟩ rfl rfl rfl, ⟨by simp only; omega, ?_⟩, by simp only; omega⟩
        simp only
        rw [half_keep hx hdn]
        exact h
    · have c2 : ¬ (65 : Int) ≤ (x.toNat : Nat) := by simpa using c2
      have hdn : dn x = x := by unfold dn; rw [if_neg (by omega)]
      (conv => whnf)
      refine ⟨(i + 1, M), le_eq ⟨by show some (AV.v (.int .i64 (IntKind.i64.wrap ((i : Int) + 1)))) = _; rw [step1], rfl, rfl, trivial⟩ rfl rfl rfl, ⟨by simp only; omega, ?_⟩, by simp only; omega⟩
      simp only
      rw [half_keep hx hdn]
      exact h
  · have c1 : ¬ (i : Int) < (t.size : Nat) := by simpa using c1
    have : i = t.size := by omega
    subst this
    rw [← hlen, half_all] at h
    (conv => whnf)
    refine ⟨t.data.toList.map dn, by rw [List.length_map]; rfl, .inr ⟨_, rfl, fun k v hk => ?_⟩, ?_⟩
    · rw [add_mk, Nat.zero_add]
      refine pz_cell h 0 rfl ?_
      rw [List.getElem?_append_left (List.getElem?_eq_some_iff.1 hk).1]
      exact hk
    · (conv => whnf)
      exact ⟨rfl, h.kept 1 rfl⟩
theorem huntFolds_c {m : Mem} {A : Option Addr} {ts : List ByteArray} {c : Nat} {y : ByteArray} (hA : Rd m A (svs ts)) (hl : ts.length ≤ 1048576) (hy : y.size ≤ 1048576) :
    FCalls Try.prog 4 [.slice A ts.length c, .string y] m fun v m' => v = .bool true ∧ m.le m' := by
  refine fcalls_of_vc (T := tbl) (B := bodies) (pr := [99999]) (DR := dr4) (args := [.v (.slice A ts.length c), .v (.string y)]) tbl_ok bodies_ok mixed Try.func4 rfl (by decide +kernel) (by simp [Try.f4]) rfl ?_
  (conv => whnf)
  refine FCalls.mono known_c ?_
  rintro v m1 ⟨rfl, hle1⟩
  (conv => whnf)
  refine FCalls.mono (new_h (fold := true) (hA.more hle1) (by omega)) ?_
  rintro v m2 ⟨h1, h2⟩
  by_cases hr : Right ts
  · obtain ⟨p, rfl, h⟩ := h1 hr
    clear h1 h2
    have hlw : (lwsOf true ts).length ≤ 100 := by rw [lws_len]; exact hr.2.1
    have hRd := hA.more hle1
    replace h : Sep [sl none 0 0 1 [], hunt p true (lwsOf true ts), kp m1] m2 := Sep.free (A := sl none 0 0 1 []) h sl_nil
    (conv => whnf)
    refine loop_keep [0, 1, 5, 6] (Nat × Option Addr × Nat × Mem) (fun s => [(9, .v (.int .i64 ((s.1 : Nat) : Int))), (8, .v (.slice s.2.1 s.1 s.2.2.1))]) (fun _ => []) (fun s => s.2.2.2)
      (fun s => s.1 ≤ ts.length ∧ Sep [sl s.2.1 s.1 s.2.2.1 1 (svs ((ts.take s.1).map dnT)), hunt p true (lwsOf true ts), kp m1] s.2.2.2) (fun s => ts.length - s.1)
      (0, none, 0, m2) ⟨rfl, rfl, trivial⟩ rfl rfl ⟨Nat.zero_le _, h⟩ ?_
    clear h
    (conv => whnf)
    refine ⟨rfl, ?_⟩
    rintro ⟨i, B, cB, M⟩ ⟨hJ1, h⟩
    simp only at hJ1 h
    (conv => whnf)
    refine brk_intro (fun c1 => ?_) (fun c1 => ?_)
    · have c1 : (i : Int) < (ts.length : Nat) := by simpa using c1
      obtain ⟨t, ht⟩ : ∃ t, ts[i]? = some t := ⟨_, List.getElem?_eq_getElem (by omega)⟩
      obtain ⟨q, hq, hc⟩ := (hRd.more (h.kept 2 rfl)).at (k := i) (v := .string t) (by simp [svs, ht])
      have hc : M.cell (q.add (i * 1)) = some (.string t) := by rw [Nat.mul_one]; exact hc
      have hts := hr.2.2 t (List.mem_of_getElem? ht)
      have step1 : IntKind.i64.wrap ((i : Int) + 1) = ((i + 1 : Nat) : Int) := wrap_id (by omega) (by omega)
      (conv => whnf)
      refine ⟨_, hq, by omega, c1, ?_⟩
      (conv => whnf)
      refine ⟨_, hc, ?_⟩
      (conv => whnf)
      refine FCalls.mono (dn_c (t := t) (by omega)) ?_
      rintro v m3 ⟨rfl, hle3⟩
      replace h := h.more hle3
      (conv => whnf)
      intro nb m4 hb he
      replace h := h.new' (l := svs [dnT t]) hb (he.trans rfl)
      have hBn : m4.holds ⟨nb, 0, none⟩ (svs [dnT t]) := (h.blk 0 rfl).holds fun k v hk => by rw [Nat.zero_add]; exact hk
      clear hb he
      (conv => whnf)
      obtain ⟨ok, hR⟩ := h.app 1 (T := tbl) (e := 9) (news := svs [dnT t]) (k := 1) (B := some ⟨nb, 0, none⟩) rfl rfl (.inr ⟨_, rfl, hBn⟩) rfl rfl (by show 2 * (_ + 1) * 16 ≤ 2 ^ 48; omega) rfl
      refine ⟨_, _, ok, fun A2 c2 m5 hr2 => ?_⟩
      replace h := (hR _ _ _ hr2).drop 0
      clear ok hR hr2 hBn
      (conv => whnf)
      refine ⟨(i + 1, A2, c2, m5), le_eq ⟨by show some (AV.v (.int .i64 (IntKind.i64.wrap ((i : Int) + 1)))) = _; rw [step1], rfl, rfl, rfl, rfl, rfl, trivial⟩ rfl rfl rfl, ⟨by simp only; omega, ?_⟩, by simp only; omega⟩
      simp only
      rw [show svs ((ts.take (i + 1)).map dnT) = svs ((ts.take i).map dnT) ++ svs [dnT t] by rw [List.take_add_one, ht]; simp [svs]]
      exact h
    · have c1 : ¬ (i : Int) < (ts.length : Nat) := by simpa using c1
      have : i = ts.length := by omega
      subst this
      rw [List.take_length] at h
      have hnew := new_h (fold := false) (c := cB) (h.rd 0 rfl) (by rw [List.length_map]; omega)
      rw [List.length_map, lws_dn] at hnew
      (conv => whnf)
      refine FCalls.mono hnew ?_
      clear hnew
      rintro v m3 ⟨h1, _⟩
      obtain ⟨g, rfl, h3⟩ := h1 (right_dn hr)
      replace h : Sep [hunt g false (lwsOf true ts), sl B ts.length cB 1 (svs (ts.map dnT)), hunt p true (lwsOf true ts), kp m1] m3 := h.on (N := [_]) h3
      clear h1 h3
      replace h := h.drop 1
      have hz : y.size * (lwsOf true ts).length ≤ 1048576 * 100 := Nat.mul_le_mul hy hlw
      have hln := alls_len (y := str true y) (hunt_w0 (hunt_at h 1 rfl))
      rw [str_len] at hln
      (conv => whnf)
      refine FCalls.mono (h.call 1 rfl fun m1 h1 => all_h h1 (y := y) (by omega) (by omega)) ?_
      rintro v m4 ⟨m5, ⟨C, cC, rfl, h1⟩, hB⟩
      replace h := hB.sep h1
      clear h1 hB
      (conv => whnf)
      refine FCalls.mono (dn_c (t := y) (by omega)) ?_
      rintro v m6 ⟨rfl, hle6⟩
      replace h := h.more hle6
      (conv => whnf)
      refine FCalls.mono (h.call 2 rfl fun m1 h1 => all_h h1 (y := dnT y) (by rw [dnT_size]; omega) (by rw [dnT_size]; omega)) ?_
      rintro v m7 ⟨m8, ⟨D, cD, rfl, h1⟩, hB⟩
      replace h := hB.sep h1
      clear h1 hB
      rw [str_dn] at h
      (conv => whnf)
      rw [str_dn]
      refine FCalls.mono (same_c (h.rd 2 rfl) (h.rd 0 rfl) (by omega)) ?_
      rintro v m9 ⟨rfl, rfl⟩
      (conv => whnf)
      exact ⟨by simp; rfl, Mem.le_trans hle1 (h.kept 4 rfl)⟩
  · obtain ⟨rfl, h3⟩ := h2 hr
    (conv => whnf)
    exact ⟨rfl, Mem.le_trans hle1 h3⟩
end Go.Proofs.Ytbcmhpannbdejaa
