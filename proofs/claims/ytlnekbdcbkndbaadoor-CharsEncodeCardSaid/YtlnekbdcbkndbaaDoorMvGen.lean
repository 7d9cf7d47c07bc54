/- Mv: operations that are asked of as the machine does them: a text gone over, conversions, bytes behind a slice. -/
import Derived.Test.YtlnekbdcbkndbaaDoorMvSep
import Derived.Laws.RangeString
import Derived.Laws.Runes
import Derived.Lib.UnsafeStr
import Derived.Lib.Builder
namespace Go.Mv
open Go
section
variable {P : Program} {m : Mem} {K : Value → Mem → Prop}
theorem RunP.pure {s : Sem Value} {v : Value} (h : ∀ w, m.sub w → s.run P w = .ok v w) (hk : K v m) : RunP P s m K := fun w hw => ⟨v, w, m, h w hw, hk, Frame.refl hw⟩
theorem NextP.pure {s : Sem Next} {v : Value} (h : ∀ w, m.sub w → s.run P w = .ok (.value v) w) (hk : K v m) : NextP P s m K := fun w hw => ⟨v, w, m, h w hw, hk, Frame.refl hw⟩
theorem sub_fresh {w : World} (hw : m.sub w) : m w.heap.size = none := by
  cases hm : m w.heap.size with
  | none => rfl
  | some o => exact absurd (Mem.sub_lt hw (b := w.heap.size) (by rw [hm]; simp)) (Nat.lt_irrefl _)
theorem range_str {t : TypeId} (ht : P.underlying t = some .string) {s : ByteArray} (h : ∀ (b : Nat) (m2 : Mem), m b = none → m2 = m.set b (.stringIter s 0) → K (.pointer (some ⟨b, 0, none⟩)) m2) : RunP P (Instr.range t (.string s)) m K :=
  fun w hw => ⟨_, _, _, run_range_string w t s ht, h _ _ (sub_fresh hw) rfl, Frame.alloc (Frame.refl hw) _⟩
theorem Frame.setObj {w : World} (hw : m.sub w) {b : Nat} {o : Obj} (hb : m b ≠ none) : Frame m w (m.set b o) { w with heap := w.heap.setIfInBounds b o } := by
  refine ⟨rfl, ⟨rfl, Nat.le_refl _⟩, rfl, by simp, fun c o' hc => ?_, fun c hc hn => ?_, fun c hc => ?_⟩
  · have hlt := Mem.sub_lt hw hb
    by_cases hcb : c = b
    · subst hcb
      simp only [Mem.set, if_true] at hc
      show (w.heap.setIfInBounds c o)[c]? = _
      rw [Array.getElem?_setIfInBounds_self_of_lt hlt, hc]
    · rw [Mem.set_ne hcb] at hc
      show (w.heap.setIfInBounds b o)[c]? = _
      rw [Array.getElem?_setIfInBounds_ne (Ne.symm hcb)]
      exact hw c o' hc
  · have hcb : b ≠ c := by rintro rfl; exact hb hn
    show (w.heap.setIfInBounds b o)[c]? = _
    rw [Array.getElem?_setIfInBounds_ne hcb]
  · by_cases hcb : c = b
    · subst hcb; exact .inl hb
    · rw [Mem.set_ne hcb] at hc; exact .inl hc
theorem next_str {b pos : Nat} {s : ByteArray} {ty : TypeId} (hb : m b = some (.stringIter s pos))
    (h1 : pos < s.size → ∀ m2 : Mem, m2 = m.set b (.stringIter s (pos + (Utf8.decode s pos).2)) → K (.tuple #[.bool true, .int .i64 ((pos : Nat) : Int), .int .i32 (((Utf8.decode s pos).1 : Nat) : Int)]) m2)
    (h2 : ¬ pos < s.size → K (.tuple #[.bool false]) m) : RunP P (Instr.next (.pointer (some ⟨b, 0, none⟩)) true ty) m K := by
  intro w hw
  have hh := hw b _ hb
  by_cases hp : pos < s.size
  · refine ⟨_, _, _, ?_, h1 hp _ rfl, Frame.setObj hw (by rw [hb]; simp)⟩
    simp [Instr.next, getObj, setObj, Sem.run, hh, hp, goInt, Result.andThen]
  · refine ⟨_, w, m, ?_, h2 hp, Frame.refl hw⟩
    simp [Instr.next, getObj, Sem.run, hh, hp]
theorem conv_str {s d : TypeId} {k : IntKind} {n : Int} (hs : (P.underlying s).isSome = true) (hd : P.underlying d = some .string) (h : K (.string (Utf8.encode n)) m) : RunP P (Go.convert s d (.int k n)) m K :=
  RunP.pure (fun w _ => run_convert_int_string w s d k n hs hd) h
end
theorem Sep.free {A : Asn} {R : List Asn} {m : Mem} (h : Sep R m) (hA : A Mem.empty) : Sep (A :: R) m := ⟨Mem.empty, m, fun _ => .inl rfl, fun _ _ hh => (by cases hh), Mem.le_refl _, hA, h⟩
/-- What an append of a text asks. -/
def AppOkS (T : Tbl) (e : Nat) (m : Mem) (A : Option Addr) (n c j : Nat) (news olds : List Value) : Prop :=
  news.length = j * (T.at e).size ∧
  (n + j ≤ c → A = none ∨ ∃ p, A = some p ∧ m.room (p.add (n * (T.at e).size)) (j * (T.at e).size) ∧ oneCells news = true) ∧
  (c < n + j → Nat.blt 0 (T.at e).bytes = true ∧ Builtin.nextslicecap (n + j) c * (T.at e).bytes ≤ 2 ^ 48 ∧ olds.length = n * (T.at e).size ∧ ((n * (T.at e).size = 0 ∧ A = none) ∨ ∃ p, A = some p ∧ m.holds p olds))
theorem Sep.appS {T : Tbl} {e : Nat} {L : List Asn} {m : Mem} (h : Sep L m) (j : Nat) {A : Option Addr} {n c : Nat} {vs : List Value} (hj : L[j]? = some (sl A n c (T.at e).size vs)) {k : Nat} {news : List Value}
    (hn : news.length = k * (T.at e).size) (one : oneCells news = true) (hbytes : Nat.blt 0 (T.at e).bytes = true) (hcap : 2 * (n + k) * (T.at e).bytes ≤ 2 ^ 48) (hz : (T.at e).zero.list.length = (T.at e).size) :
    AppOkS T e m A n c k news vs ∧ ∀ A' c' m2, AppR T e m A n c k news vs A' c' m2 → Sep (L.set j (sl A' (n + k) c' (T.at e).size (vs ++ news))) m2 := by
  have hA := h.asn j hj
  have hlen := hA.1
  have hnc := hA.2.1
  refine ⟨⟨hn, fun hle => ?_, fun hlt => ⟨hbytes, ?_, hlen, sl_olds hA⟩⟩, fun A' c' m2 hR => ?_⟩
  · obtain ⟨h1, h2, h3⟩ := hA
    rcases h3 with ⟨rfl, rfl⟩ | ⟨b, o, l, e', rfl, k2, k3, k4⟩
    · exact .inl rfl
    · refine .inr ⟨_, rfl, ?_, one⟩
      rw [add_mk]
      refine Blk.room ⟨e', k2⟩ ?_
      have := Nat.mul_le_mul_right (T.at e).size hle
      rw [Nat.add_mul] at this
      omega
  · exact Nat.le_trans (Nat.mul_le_mul_right _ (nextslicecap_le hlt)) hcap
  · rcases hR with ⟨hle, rfl, rfl, hR⟩ | ⟨hlt, b, hcap', hb, rfl, rfl⟩
    · rcases hR with ⟨hA0, rfl⟩ | ⟨p, hp, rfl⟩
      · refine h.turn j hj fun m1 hm g => ?_
        obtain ⟨g1, g2, g3⟩ := g
        rcases g3 with ⟨_, g4⟩ | ⟨b', o', l', e', hh, _⟩
        · have hk0 : k = 0 := by omega
          subst hk0
          have : news = [] := List.length_eq_zero_iff.1 (by rw [hn, Nat.zero_mul])
          subst this
          exact ⟨by simpa using g1, by omega, .inl ⟨hA0, g4⟩⟩
        · rw [hA0] at hh; cases hh
      · obtain ⟨h1, h2, h3⟩ := hA
        rcases h3 with ⟨hh, _⟩ | ⟨b, o, l, e', hh, k2, k3, k4⟩
        · rw [hh] at hp; cases hp
        · rw [hh] at hp
          cases hp
          subst hh
          rw [add_mk]
          refine h.puts j hj (fun m1 hm g => ?_) fun m1 hm g => ?_
          · obtain ⟨g1, g2, g3⟩ := g
            rcases g3 with ⟨hh, _⟩ | ⟨b', o', l', e', hh, q2, _⟩
            · cases hh
            · cases hh
              rw [q2]
              simp
          · obtain ⟨g1, g2, g3⟩ := g
            rcases g3 with ⟨hh, _⟩ | ⟨b', o', l', e', hh, q2, q3, q4⟩
            · cases hh
            · cases hh
              have h5 := Nat.mul_le_mul_right (T.at e).size hle
              rw [Nat.add_mul] at h5
              obtain ⟨e2, h4⟩ := Blk.puts (i := o + n * (T.at e).size) (j := 0) news (m := m1) (b := b) (l := l') ⟨e', q2⟩
              refine ⟨by rw [List.length_append, g1, hn, Nat.add_mul], hle, .inr ⟨b, o, _, e2, rfl, h4, by rw [writeAt_len]; exact q3, fun i u hu => ?_⟩⟩
              rw [Nat.add_zero, writeAt_get _ _ _ _ (by omega)]
              rcases Nat.lt_or_ge i vs.length with hi | hi
              · rw [List.getElem?_append_left hi] at hu
                rw [if_neg (by omega)]
                exact q4 i u hu
              · rw [List.getElem?_append_right hi] at hu
                have := (List.getElem?_eq_some_iff.1 hu).1
                rw [if_pos (by omega), show o + i - (o + n * (T.at e).size) = i - vs.length by omega]
                exact hu
    · have h1 := (h.new (e := e) (l := vs ++ news ++ (zerosOf T e (c' - (n + k))).list) hb).drop (j + 1)
      have h2 : Sep (pt b (vs ++ news ++ (zerosOf T e (c' - (n + k))).list) :: L.eraseIdx j) (m.set b (.cells (vs ++ news ++ (zerosOf T e (c' - (n + k))).list).toArray e (0, 0))) := h1
      rw [← eraseIdx_insert hj]
      refine Sep.back (h2.turn 0 rfl fun m1 hm ⟨e', g⟩ => ?_) (len_erase hj)
      refine ⟨by rw [List.length_append, hlen, hn, Nat.add_mul], hcap', .inr ⟨b, 0, _, e', rfl, g, ?_, fun i u hu => ?_⟩⟩
      · rw [List.length_append, List.length_append, hlen, hn, zeros_len hz, ← Nat.add_mul, ← Nat.add_mul]
        rw [Nat.zero_add]
        exact Nat.mul_le_mul_right _ (by omega)
      · rw [Nat.zero_add, List.getElem?_append_left (List.getElem?_eq_some_iff.1 hu).1]
        exact hu

theorem Frame.stores {P : Program} {m0 : Mem} {w0 : World} : ∀ (vs : List Value) (m : Mem) (w : World) (p : Addr) (i n : Nat), Frame m0 w0 m w → m.room p n → i + vs.length ≤ n → oneCells vs = true →
    ∃ w', (Go.storeCells p vs i).run P w = .ok () w' ∧ Frame m0 w0 (m.setCells p i vs) w'
  | [], m, w, p, i, n, h, _, _, _ => ⟨w, rfl, h⟩
  | v :: vs, m, w, p, i, n, h, hr, hl, ho => by
    simp only [oneCells, Bool.and_eq_true] at ho
    simp at hl
    obtain ⟨⟨u, hu⟩, hf⟩ := hr i (by omega)
    have h1 := run_store1 (P := P) ho.1 (Mem.sub_cell h.sub hu) (by rw [Mem.sub_fz h.sub hu]; exact hf)
    have h2 := h.setCell v (Mem.cell_dom hu)
    obtain ⟨w', hw, h3⟩ := Frame.stores vs (m.setCell (p.add i) v) _ p (i + 1) n h2 (room_setCell hr) (by omega) ho.2
    refine ⟨w', ?_, h3⟩
    simp only [Go.storeCells, Sem.run_bind, h1, Result.andThen_ok]
    exact hw
theorem append_str {P : Program} {T : Tbl} {m : Mem} {K : Value → Mem → Prop} (hT : T.ok P = true) {t u e ty : Nat} {cs : Array Bool} (ht : (T.at t).k = .slice e) (hu : (T.at u).k = .str) (hs1 : (T.at e).size = 1) {A : Option Addr} {n c : Nat} {s : ByteArray} {olds : List Value}
    (hok : AppOkS T e m A n c s.size (byteVals s.data.toList) olds) (hK : ∀ A' c' m2, AppR T e m A n c s.size (byteVals s.data.toList) olds A' c' m2 → K (.slice A' (n + s.size) c') m2) :
    NextP P (builtin .append #[t, u] ty cs #[.slice A n c, .string s]) m K := by
  intro w hw
  obtain ⟨hn, hroom, hgrow⟩ := hok
  have hut := under_slice (Tbl.fact hT (t := t) (by rw [ht]; simp)) ht
  have huu := under_str (Tbl.fact hT (t := u) (by rw [hu]; simp)) hu
  have hfe := tyfact_of_size hT (t := e) (by omega)
  obtain ⟨inf, hinf, hb, hs⟩ := hfe.typeInfo w
  have hcells : Lib.strCells s = byteVals s.data.toList := rfl
  have hfc := fun w => Lib.run_firstCells_string (P := P) w 1 s
  by_cases hle : n + s.size ≤ c
  · have hrun0 : ∀ w', (match A with | some p => Go.storeCells (p.add (n * (T.at e).size)) (byteVals s.data.toList) | none => pure ()).run P w = .ok () w' →
        (Builtin.append_ #[t, u] ty #[.slice A n c, .string s]).run P w = .ok (.slice A (n + s.size) c) w' := by
      intro w' hw'
      simp only [Builtin.append_]
      simp only [List.getElem?_toArray, List.getElem?_cons_zero, List.getElem?_cons_succ, Sem.run_bind, run_underlying hut, run_underlying huu, hfe.size w, Result.andThen_ok, Sem.run_pure]
      simp only [Bool.false_eq_true, if_false, Builtin.lenOf, Sem.run_pure, Result.andThen_ok, hle, if_true, Bool.not_false, Sem.run_bind, hs1, hfc, hcells]
      cases A with
      | none => simpa using hw'
      | some p =>
        simp only [hs1] at hw'
        simp only [Sem.run_bind, hw', Result.andThen_ok, Sem.run_pure]
    rcases hroom hle with rfl | ⟨p, rfl, hr, hone⟩
    · exact ⟨_, _, _, run_val (hrun0 w rfl), hK _ _ _ (.inl ⟨hle, rfl, rfl, .inl ⟨rfl, rfl⟩⟩), Frame.refl hw⟩
    · obtain ⟨w', h1, h2⟩ := Frame.stores (P := P) (byteVals s.data.toList) m w (p.add (n * (T.at e).size)) 0 _ (Frame.refl hw) hr (by rw [hn]; omega) hone
      exact ⟨_, _, _, run_val (hrun0 w' h1), hK _ _ _ (.inl ⟨hle, rfl, rfl, .inr ⟨p, rfl, rfl⟩⟩), h2⟩
  · obtain ⟨hby, hcap, hol, holds⟩ := hgrow (by omega)
    have hby : 0 < (T.at e).bytes := by have := Nat.le_of_ble_eq_true hby; omega
    obtain ⟨cap, hcapdef⟩ : ∃ cap, cap = (Question.appendCap (n + s.size) c e).cut (w.tape w.drawn (.appendCap (n + s.size) c e)) := ⟨_, rfl⟩
    have hcapge : n + s.size ≤ cap := by rw [hcapdef]; simp only [Question.cut]; omega
    obtain ⟨z, hz, hzl⟩ := zerosRest (P := P) hfe (cap - (n + s.size)) { w with drawn := w.drawn + 1 }
    have hsub' : m.sub { w with drawn := w.drawn + 1 } := hw
    have hfo := firstCells_slice (S := ⟨[], [], m⟩) (P := P) (c := c) hsub' hol holds
    have hF : Frame m w m { w with drawn := w.drawn + 1 } := (Frame.refl hw).drew (Nat.le_succ _)
    have hrun : (Builtin.append_ #[t, u] ty #[.slice A n c, .string s]).run P w =
        .ok (.slice (some ⟨w.heap.size, 0, none⟩) (n + s.size) cap) (World.alloc { w with drawn := w.drawn + 1 } (.cells (olds ++ byteVals s.data.toList ++ (zerosOf T e (cap - (n + s.size))).list).toArray e (0, 0))) := by
      simp only [Builtin.append_]
      simp only [List.getElem?_toArray, List.getElem?_cons_zero, List.getElem?_cons_succ, Sem.run_bind, run_underlying hut, run_underlying huu, hfe.size w, Result.andThen_ok, Sem.run_pure]
      simp only [Bool.false_eq_true, if_false, Builtin.lenOf, Sem.run_pure, Result.andThen_ok, hle, Bool.not_false, if_true, Sem.run_bind, hinf, hb]
      have hneg : ¬ (((n + s.size : Nat) : Int) > IntKind.i64.max ∧ (False ∨ (T.at e).bytes = 0)) := by
        rintro ⟨_, h | h⟩
        · exact h
        · omega
      rw [if_neg hneg]
      simp only [Sem.run_bind, Result.andThen_ok, hinf, hb]
      rw [if_neg (by omega)]
      simp only [Sem.run_bind, Sem.run_pure, Result.andThen_ok, run_choose, Question.forced, Bool.false_eq_true, if_false, ← hcapdef]
      have hinf' : (typeInfo e).run P { w with drawn := w.drawn + 1 } = .ok inf { w with drawn := w.drawn + 1 } := by
        obtain ⟨inf', h1, h2, h3⟩ := hfe.info
        simp only [typeInfo, Sem.run_bind, run_program, Result.andThen_ok, h1, Sem.run_pure] at hinf ⊢
        cases hinf
        rfl
      rw [hs1] at hfo
      simp only [hinf', Result.andThen_ok, run_askRoom, hs1, hfo, hfc, hcells, hz, Sem.run_pure, newRow, Sem.run_bind, run_newObj]
      have : olds.toArray ++ (byteVals s.data.toList).toArray ++ Builtin.zeroCells z.cells (cap - (n + s.size)) = (olds ++ byteVals s.data.toList ++ (zerosOf T e (cap - (n + s.size))).list).toArray := by
        apply Array.ext'
        simp [hzl]
      rw [this]
      rfl
    exact ⟨_, _, _, run_val hrun, hK _ _ _ (.inr ⟨by omega, w.heap.size, hcapge, sub_fresh hw, rfl, rfl⟩), hF.alloc _⟩
end Go.Mv
