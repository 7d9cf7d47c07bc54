/- Chars: the builder of texts. -/
import Derived.Test.YtlnekbdcbkndbaaDoorChH
import Derived.Test.YtlnekbdcbkndbaaDoorMvByte
namespace Go.Proofs.YtlnekbdcbkndbaaDoor
open Go Go.Mv
set_option maxHeartbeats 2000000
set_option maxRecDepth 10000
set_option linter.unusedVariables false
set_option linter.unusedSimpArgs false
theorem typ_app {m m' : Mem} {A A' : Option Addr} {n c k c' b e : Nat} {news vs : List Value} (h : typ m b e) (hr : AppR tbl 5 m A n c k news vs A' c' m') : typ m' b e := by
  rcases hr with ⟨_, rfl, rfl, h1 | ⟨p, hp, h1⟩⟩ | ⟨_, b2, _, hb, h1, h2⟩
  · rw [h1.2]; exact h
  · subst h1; exact typ_setCells _ h
  · subst h2; exact typ_set h hb
attribute [local irreducible] FCalls IntKind.wrap bits Mem.set Mem.setCell Mem.setCells YCalls RunP NextP
/-- A block of known kind. -/
def pk (b e : Nat) (l : List Value) : Asn := fun m => m b = some (.cells l.toArray e (0, 0))
theorem pk_pt {b e : Nat} {l : List Value} {m : Mem} (h : pk b e l m) : pt b l m := ⟨e, h⟩
theorem pk_typ {b e : Nat} {l : List Value} {m : Mem} (h : pk b e l m) : typ m b e := ⟨_, h⟩
theorem pk_of {m m1 : Mem} {b e : Nat} {l : List Value} (h : typ m b e) (hm : m1.le m) (h1 : pt b l m1) : pk b e l m1 := by
  obtain ⟨e', h1⟩ := h1
  obtain ⟨rfl, _⟩ := typ_back h hm h1
  exact h1
theorem pk_shape {b e : Nat} {l : List Value} {m : Mem} (h : pk b e l m) {w : World} (hw : m.sub w) : w.shape? b = some (e, l.length) := by
  have := hw _ _ h
  simp [World.shape?, this]
theorem pk_sep {b e : Nat} {l : List Value} {m : Mem} (h : pk b e l m) : Sep [pt b l] m := ⟨m, Mem.empty, fun _ => .inr rfl, Mem.le_refl _, fun _ _ h => (by cases h), pk_pt h, trivial⟩
theorem u64 : Tryd.prog.underlying 64 = some (.pointer 66) := by kernel_rfl
theorem u91 : Tryd.prog.underlying 91 = some .unsafePointer := by kernel_rfl
theorem i66 : ∃ j, Tryd.prog.info? 66 = some j ∧ j.size ≠ 0 := by
  have : (match Tryd.prog.info? 66 with | some j => j.size != 0 | none => false) = true := by kernel_rfl
  cases h : Tryd.prog.info? 66 with
  | none => rw [h] at this; cases this
  | some j => rw [h] at this; exact ⟨j, rfl, by simpa using this⟩
def self (p : Nat) (q : Option Addr) : Prop := q = none ∨ q = some ⟨p, 0, none⟩
theorem check_c {m : Mem} {p : Nat} {q : Option Addr} {x : Value} (hq : self p q) (h0 : pk p 66 [.pointer q, x] m) :
    FCalls Tryd.prog 49 [.pointer (some ⟨p, 0, none⟩)] m fun v m' => pk p 66 [.pointer (some ⟨p, 0, none⟩), x] m' := by
  have h := pk_sep h0
  obtain ⟨j, hj1, hj2⟩ := i66
  refine fcalls_of_vc (T := tbl) (B := bodies) (pr := [99999]) (DR := dr49) (args := [.v (.pointer (some ⟨p, 0, none⟩))]) tbl_ok bodies_ok mixed Tryd.func49 rfl (by decide +kernel) (by simp [Tryd.f49]) rfl ?_
  (conv => whnf)
  rcases hq with rfl | rfl
  · refine ⟨_, h.cell 0 (i := 0) rfl rfl, ?_⟩
    (conv => whnf)
    refine RunP.pure (v := .pointer (some ⟨p, 0, none⟩)) (fun w hw => Lib.run_to_unsafe w (t := 66) ⟨p, 0, none⟩ u64 u91 hj1 hj2 (pk_shape h0 hw) (by simp)) ?_
    (conv => whnf)
    refine NextP.pure (v := .pointer (some ⟨p, 0, none⟩)) (fun w hw => rfl) ?_
    (conv => whnf)
    refine RunP.pure (v := .pointer (some ⟨p, 0, none⟩)) (fun w hw => Lib.run_from_unsafe w (u := 66) ⟨p, 0, none⟩ u91 u64 hj1 (pk_shape h0 hw) (by kernel_rfl)) ?_
    (conv => whnf)
    refine ⟨h.room 0 (i := 0) rfl rfl, ?_⟩
    (conv => whnf)
    intro m2 he
    have h2 := h.put' 0 he rfl
    (conv => whnf)
    exact pk_of (by rw [he]; exact typ_setCell (pk_typ h0)) (Mem.le_refl _) (h2.blk 0 rfl)
  · refine ⟨_, h.cell 0 (i := 0) rfl rfl, ?_⟩
    (conv => whnf)
    refine ⟨_, h.cell 0 (i := 0) rfl rfl, ?_⟩
    (conv => whnf)
    refine ⟨rfl, ?_⟩
    (conv => whnf)
    exact h0
/-- A builder, with what was written. -/
def bld (p : Nat) (bs : List UInt8) : Asn := fun m => ∃ q A c, self p q ∧ Sep [pk p 66 [.pointer q, .slice A bs.length c], br A bs.length c bs] m
theorem write_c {m : Mem} {p : Nat} {bs : List UInt8} {s : ByteArray} (h0 : bld p bs m) (hn : bs.length + s.size < 2 ^ 44) :
    FCalls Tryd.prog 39 [.pointer (some ⟨p, 0, none⟩), .string s] m fun v m' => bld p (bs ++ s.data.toList) m' := by
  obtain ⟨q, A, c, hq, h⟩ := h0
  refine fcalls_of_vc (T := tbl) (B := bodies) (pr := [99999]) (DR := dr39) (args := [.v (.pointer (some ⟨p, 0, none⟩)), .v (.string s)]) tbl_ok bodies_ok mixed Tryd.func39 rfl (by decide +kernel) (by simp [Tryd.f39]) rfl ?_
  (conv => whnf)
  refine FCalls.mono (h.call 0 rfl fun m1 hm => check_c hq hm) ?_
  rintro v m2 ⟨m1, h1, hB⟩
  replace h := hB.one h1
  clear hB h1
  (conv => whnf)
  have ht : typ m2 p 66 := by obtain ⟨m3, hm3, h3⟩ := h.get 0 rfl; exact typ_more (pk_typ h3) hm3
  have hr : row5 A m2 := by obtain ⟨m3, hm3, h3⟩ := h.get 1 rfl; exact row5_more h3.2 hm3
  replace h := (h.turn 0 rfl fun _ _ h => pk_pt h).turn 1 rfl fun _ _ h => h.1
  refine ⟨_, _, _, h.cell 0 (i := 1) rfl rfl, ?_⟩
  (conv => whnf)
  obtain ⟨ok, hR⟩ := h.appS 1 (T := tbl) (e := 5) (news := byteVals s.data.toList) (k := s.size) rfl (by rw [show (tbl.at 5).size = 1 from rfl, Nat.mul_one]; simp [byteVals]) oneB rfl (by show 2 * (_ + _) * 1 ≤ 2 ^ 48; omega) rfl
  refine append_str tbl_ok (e := 5) rfl rfl rfl ok fun A' c' m3 hr3 => ?_
  have h3 := hR _ _ _ hr3
  have ht3 := typ_app ht hr3
  have hr4 := row5_app hr hr3
  (conv => whnf)
  refine ⟨h3.room 0 (i := 1) rfl rfl, ?_⟩
  (conv => whnf)
  intro m4 he
  have h4 := h3.put' 0 he rfl
  have ht4 : typ m4 p 66 := by rw [he]; exact typ_setCell ht3
  have hr5 : row5 A' m4 := by rw [he]; exact hr4.imp id fun ⟨b, g1, g2⟩ => ⟨b, g1, typ_setCell g2⟩
  (conv => whnf)
  have e1 : (bs ++ s.data.toList).length = bs.length + s.size := by rw [List.length_append]; rfl
  have e2 : byteVals (bs ++ s.data.toList) = byteVals bs ++ byteVals s.data.toList := by simp [byteVals]
  refine ⟨some ⟨p, 0, none⟩, A', c', .inr rfl, ?_⟩
  rw [e1]
  exact (h4.turn 0 rfl fun _ hm h => pk_of ht4 hm h).turn 1 rfl fun _ hm h => br_of hr5 hm (by rw [e2]; exact h)
theorem wrune_c {m : Mem} {p : Nat} {bs : List UInt8} {r : Nat} (hr : isC (r : Int)) (h0 : bld p bs m) (hn : bs.length < 2 ^ 43) :
    FCalls Tryd.prog 40 [.pointer (some ⟨p, 0, none⟩), .int .i32 ((r : Nat) : Int)] m fun v m' => bld p (bs ++ enc r) m' := by
  obtain ⟨q, A, c, hq, h⟩ := h0
  refine fcalls_of_vc (T := tbl) (B := bodies) (pr := [99999]) (DR := dr40) (args := [.v (.pointer (some ⟨p, 0, none⟩)), .v (.int .i32 ((r : Nat) : Int))]) tbl_ok bodies_ok mixed Tryd.func40 rfl (by decide +kernel) (by simp [Tryd.f40]) rfl ?_
  (conv => whnf)
  refine FCalls.mono (h.call 0 rfl fun m1 hm => check_c hq hm) ?_
  rintro v m2 ⟨m1, h1, hB⟩
  replace h := hB.one h1
  clear hB h1
  (conv => whnf)
  have h5 := h.turn 0 rfl fun _ _ h => pk_pt h
  refine ⟨_, _, _, h5.cell 0 (i := 1) rfl rfl, ?_⟩
  (conv => whnf)
  refine ⟨_, _, _, h5.cell 0 (i := 1) rfl rfl, ?_⟩
  (conv => whnf)
  refine FCalls.mono (h.call 1 rfl fun m1 hm => put_c hr (by omega) hm) ?_
  rintro v m3 ⟨m1, ⟨A', c', rfl, h1⟩, hB⟩
  have h6 := hB.one h1
  clear hB h1 h5
  (conv => whnf)
  have ht : typ m3 p 66 := by obtain ⟨m4, hm3, h3⟩ := h6.get 1 rfl; exact typ_more (pk_typ h3) hm3
  have hr3 : row5 A' m3 := by obtain ⟨m4, hm3, h3⟩ := h6.get 0 rfl; exact row5_more h3.2 hm3
  replace h6 := (h6.turn 1 rfl fun _ _ h => pk_pt h).turn 0 rfl fun _ _ h => h.1
  refine ⟨h6.room 1 (i := 1) rfl rfl, ?_⟩
  (conv => whnf)
  intro m4 he
  have h7 := h6.put' 1 he rfl
  have ht4 : typ m4 p 66 := by rw [he]; exact typ_setCell ht
  have hr5 : row5 A' m4 := by rw [he]; exact hr3.imp id fun ⟨b, g1, g2⟩ => ⟨b, g1, typ_setCell g2⟩
  (conv => whnf)
  refine ⟨_, _, _, h7.cell 1 (i := 1) rfl rfl, ?_⟩
  (conv => whnf)
  refine ⟨some ⟨p, 0, none⟩, A', c', .inr rfl, ?_⟩
  exact ((h7.turn 1 rfl fun _ hm h => pk_of ht4 hm h).turn 0 rfl fun _ hm h => br_of hr5 hm h).move 1 rfl
theorem u82 : Tryd.prog.underlying 82 = some (.pointer 5) := by kernel_rfl
theorem c5 : Tryd.prog.cellsOf 5 = 1 := by kernel_rfl
theorem br_block {m : Mem} {A : Option Addr} {n c : Nat} {bs : List UInt8} (h : br A n c bs m) : ∀ a, A = some a → ∃ cc e2 z, m a.block = some (.cells cc e2 z) := by
  rintro a rfl
  rcases h.2 with h | ⟨b, h, cs, h2⟩
  · cases h
  · cases h; exact ⟨cs, 5, _, h2⟩
theorem br_read {m : Mem} {A : Option Addr} {n c : Nat} {bs : List UInt8} (h : br A n c bs m) (hb : bs ≠ []) : c ≠ 0 ∧ ∃ g cc z, A = some ⟨g, 0, none⟩ ∧ m g = some (.cells cc 5 z) ∧ bs.length ≤ cc.size ∧ ∀ (j : Nat) (x : UInt8), bs[j]? = some x → cc[j]? = some (.int .u8 x.toNat) := by
  obtain ⟨⟨h1, h2, h3⟩, h4⟩ := h
  have hlen : bs.length = n := by simpa [byteVals] using h1
  have hpos : 0 < bs.length := List.length_pos_iff.2 hb
  refine ⟨by omega, ?_⟩
  rcases h3 with ⟨_, rfl⟩ | ⟨b, o, l, e, rfl, k2, k3, k4⟩
  · omega
  rcases h4 with h4 | ⟨b2, h4, cs, h5⟩
  · cases h4
  · cases h4
    rw [k2] at h5
    simp only [Option.some.injEq, Obj.cells.injEq] at h5
    obtain ⟨_, rfl, _⟩ := h5
    refine ⟨b, l.toArray, _, rfl, k2, by simp; omega, fun j x hx => ?_⟩
    have := k4 j (.int .u8 x.toNat) (by simp [byteVals, hx])
    rw [Nat.zero_add] at this
    simpa using this
theorem bstr_c {m : Mem} {p : Nat} {bs : List UInt8} (h0 : bld p bs m) (hn : bs.length < 2 ^ 44) :
    FCalls Tryd.prog 42 [.pointer (some ⟨p, 0, none⟩)] m fun v m' => v = .string ⟨bs.toArray⟩ := by
  obtain ⟨q, A, c, hq, h⟩ := h0
  have h5 := h.turn 0 rfl fun _ _ h => pk_pt h
  have hbr : br A bs.length c bs m := by
    obtain ⟨m1, g1, g2⟩ := h.get 1 rfl
    exact ⟨sl_more g2.1 g1, row5_more g2.2 g1⟩
  have sd : ∀ {K : Value → Mem → Prop}, (∀ q, (bs ≠ [] → q = A) → K (.pointer q) m) → NextP Tryd.prog (builtin .unsafeSliceData #[52] 82 (Array.map constB #[Operand.tmp 6]) #[.slice A bs.length c]) m K := fun {K} hK =>
    slicedata u82 (br_block hbr) fun q hq => hK q fun hb => hq (br_read hbr hb).1
  have us : ∀ {K : Value → Mem → Prop} (q : Option Addr), (bs ≠ [] → q = A) → (∀ m2, K (.string ⟨bs.toArray⟩) m2) → NextP Tryd.prog (builtin .unsafeString #[82, 3] 9 (Array.map constB #[Operand.tmp 7, Operand.tmp 12]) #[.pointer q, .int .i64 ((bs.length : Nat) : Int)]) m K := fun {K} q hq hK =>
    ustring u82 c5 (by omega) (fun hb => by rw [hq hb]; exact (br_read hbr hb).2) hK
  refine fcalls_of_vc (T := tbl) (B := bodies) (pr := [99999]) (DR := dr42) (args := [.v (.pointer (some ⟨p, 0, none⟩))]) tbl_ok bodies_ok mixed Tryd.func42 rfl (by decide +kernel) (by simp [Tryd.f42]) rfl ?_
  (conv => whnf)
  refine ⟨_, _, _, h5.cell 0 (i := 1) rfl rfl, ?_⟩
  (conv => whnf)
  refine ⟨?_, ?_⟩
  · (conv => whnf)
    refine sd fun q hq => ?_
    (conv => whnf)
    refine ⟨_, _, _, h5.cell 0 (i := 1) rfl rfl, ?_⟩
    (conv => whnf)
    refine us q hq fun m2 => ?_
    (conv => whnf)
    rfl
  · (conv => whnf)
    refine ⟨?_, trivial⟩
    (conv => whnf)
    refine ⟨_, _, _, h5.cell 0 (i := 1) rfl rfl, ?_⟩
    (conv => whnf)
    refine ⟨?_, ?_⟩
    · (conv => whnf)
      refine sd fun q hq => ?_
      (conv => whnf)
      refine us q hq fun m2 => ?_
      (conv => whnf)
      rfl
    · (conv => whnf)
      refine ⟨?_, trivial⟩
      (conv => whnf)
      refine sd fun q hq => ?_
      (conv => whnf)
      refine us q hq fun m2 => ?_
      (conv => whnf)
      rfl
end Go.Proofs.YtlnekbdcbkndbaaDoor
