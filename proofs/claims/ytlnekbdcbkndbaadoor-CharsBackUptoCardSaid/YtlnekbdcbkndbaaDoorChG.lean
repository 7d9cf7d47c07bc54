/- Chars: ValidRune, AppendRune. -/
import Derived.Test.YtlnekbdcbkndbaaDoorChF
import Derived.Lib.RuneBytes
namespace Go.Proofs.YtlnekbdcbkndbaaDoor
open Go Go.Mv
set_option maxHeartbeats 2000000
set_option maxRecDepth 10000
set_option linter.unusedVariables false
set_option linter.unusedSimpArgs false
theorem tail_fin : ∀ x : Fin 256, bits .or .u8 128 (bits .and .u8 ((x.val : Nat) : Int) 63) = ((128 + x.val % 64 : Nat) : Int) := by decide
theorem head2_fin : ∀ x : Fin 32, bits .or .u8 192 ((x.val : Nat) : Int) = ((192 + x.val : Nat) : Int) := by decide
theorem head3_fin : ∀ x : Fin 16, bits .or .u8 224 ((x.val : Nat) : Int) = ((224 + x.val : Nat) : Int) := by decide
theorem head4_fin : ∀ x : Fin 8, bits .or .u8 240 ((x.val : Nat) : Int) = ((240 + x.val : Nat) : Int) := by decide
theorem tailB (n : Nat) : bits .or .u8 128 (bits .and .u8 (IntKind.u8.wrap ((n : Nat) : Int)) 63) = (((UInt8.ofNat (128 + n % 64)).toNat : Nat) : Int) := by
  rw [IntKind.wrap_u8, show ((n : Nat) : Int) % 256 = ((n % 256 : Nat) : Int) by omega, u8n _ (by omega)]
  have := tail_fin ⟨n % 256, by omega⟩
  rw [show 128 + n % 64 = 128 + n % 256 % 64 by omega]
  exact this
theorem head2 {n : Nat} (h : n < 32) : bits .or .u8 192 (IntKind.u8.wrap ((n : Nat) : Int)) = (((UInt8.ofNat (192 + n)).toNat : Nat) : Int) := by
  rw [IntKind.wrap_u8, show ((n : Nat) : Int) % 256 = ((n : Nat) : Int) by omega, u8n _ (by omega)]
  exact head2_fin ⟨n, h⟩
theorem head3 {n : Nat} (h : n < 16) : bits .or .u8 224 (IntKind.u8.wrap ((n : Nat) : Int)) = (((UInt8.ofNat (224 + n)).toNat : Nat) : Int) := by
  rw [IntKind.wrap_u8, show ((n : Nat) : Int) % 256 = ((n : Nat) : Int) by omega, u8n _ (by omega)]
  exact head3_fin ⟨n, h⟩
theorem head4 {n : Nat} (h : n < 8) : bits .or .u8 240 (IntKind.u8.wrap ((n : Nat) : Int)) = (((UInt8.ofNat (240 + n)).toNat : Nat) : Int) := by
  rw [IntKind.wrap_u8, show ((n : Nat) : Int) % 256 = ((n : Nat) : Int) by omega, u8n _ (by omega)]
  exact head4_fin ⟨n, h⟩
theorem fd (n k : Nat) : ((n : Nat) : Int).fdiv ((k : Nat) : Int) = ((n / k : Nat) : Int) := by
  rw [Int.fdiv_eq_ediv_of_nonneg _ (Int.natCast_nonneg _)]
  exact (Int.natCast_ediv n k).symm
theorem oneB : ∀ {bs : List UInt8}, oneCells (byteVals bs) = true
  | [] => rfl
  | _ :: r => oneB (bs := r)
/-- A block's kind of element. -/
def typ (m : Mem) (b e : Nat) : Prop := ∃ cs, m b = some (.cells cs e (0, 0))
theorem typ_setCell {m : Mem} {b e : Nat} {a : Addr} {v : Value} (h : typ m b e) : typ (m.setCell a v) b e := by
  obtain ⟨cs, h⟩ := h
  unfold typ Mem.setCell
  by_cases hb : b = a.block
  · rw [if_pos hb, h]
    exact ⟨_, rfl⟩
  · rw [if_neg hb]
    exact ⟨_, h⟩
theorem typ_setCells {b e : Nat} : ∀ (vs : List Value) {m : Mem} {a : Addr} {j : Nat}, typ m b e → typ (m.setCells a j vs) b e
  | [], _, _, _, h => h
  | v :: vs, m, a, j, h => typ_setCells vs (typ_setCell h)
theorem typ_set {m : Mem} {b e c : Nat} {o : Obj} (h : typ m b e) (hc : m c = none) : typ (m.set c o) b e := by
  obtain ⟨cs, h⟩ := h
  unfold typ
  refine ⟨cs, ?_⟩
  rw [Mem.set_ne (by rintro rfl; rw [hc] at h; cases h)]
  exact h
theorem typ_more {m m' : Mem} {b e : Nat} (h : typ m b e) (hm : m.le m') : typ m' b e := by
  obtain ⟨cs, h⟩ := h
  exact ⟨cs, hm _ _ h⟩
/-- Bytes in a block of bytes of their own, from its beginning. -/
def row5 (A : Option Addr) (m : Mem) : Prop := A = none ∨ ∃ b, A = some ⟨b, 0, none⟩ ∧ typ m b 5
def br (A : Option Addr) (n c : Nat) (bs : List UInt8) : Asn := fun m => sl A n c 1 (byteVals bs) m ∧ row5 A m
theorem row5_more {A : Option Addr} {m m' : Mem} (h : row5 A m) (hm : m.le m') : row5 A m' := h.imp id fun ⟨b, h1, h2⟩ => ⟨b, h1, typ_more h2 hm⟩
theorem row5_set {A : Option Addr} {m : Mem} {c : Nat} {o : Obj} (h : row5 A m) (hc : m c = none) : row5 A (m.set c o) := h.imp id fun ⟨b, h1, h2⟩ => ⟨b, h1, typ_set h2 hc⟩
theorem row5_app {m m' : Mem} {A A' : Option Addr} {n c k c' : Nat} {news vs : List Value} (h : row5 A m) (hr : AppR tbl 5 m A n c k news vs A' c' m') : row5 A' m' := by
  rcases hr with ⟨_, rfl, rfl, h1 | ⟨p, hp, h1⟩⟩ | ⟨_, b, _, hb, h1, h2⟩
  · exact .inl h1.1
  · subst h1
    exact h.imp id fun ⟨b, h1, h2⟩ => ⟨b, h1, typ_setCells _ h2⟩
  · subst h2
    exact .inr ⟨b, h1, _, by unfold Mem.set; rw [if_pos rfl]⟩
theorem typ_back {m m1 : Mem} {b e : Nat} (h : typ m b e) (hm : m1.le m) {cs : Array Value} {e' : Nat} {z : Nat × Nat} (h1 : m1 b = some (.cells cs e' z)) : e' = e ∧ z = (0, 0) := by
  obtain ⟨c2, h⟩ := h
  have := (hm _ _ h1).symm.trans h
  simp only [Option.some.injEq, Obj.cells.injEq] at this
  exact ⟨this.2.1, this.2.2⟩
theorem br_of {m m1 : Mem} {A : Option Addr} {n c : Nat} {bs : List UInt8} (h : row5 A m) (hm : m1.le m) (h1 : sl A n c 1 (byteVals bs) m1) : br A n c bs m1 := by
  refine ⟨h1, ?_⟩
  obtain ⟨_, _, h3⟩ := h1
  rcases h3 with ⟨rfl, _⟩ | ⟨b, o, l, e, rfl, k2, _⟩
  · exact .inl rfl
  · rcases h with h | ⟨b2, h, h4⟩
    · cases h
    · cases h
      obtain ⟨rfl, _⟩ := typ_back h4 hm k2
      exact .inr ⟨_, rfl, _, k2⟩
theorem br_nil {m : Mem} : br none 0 0 [] m := ⟨sl_nil, .inl rfl⟩
attribute [local irreducible] FCalls IntKind.wrap bits Mem.set Mem.setCell Mem.setCells YCalls RunP NextP
theorem vrune_c {m : Mem} {c : Int} : FCalls Tryd.prog 29 [.int .i32 c] m fun v m' => v = .bool (decide (isC c)) ∧ m' = m := by
  refine fcalls_of_vc (T := tbl) (B := bodies) (pr := [99999]) (DR := dr29) (args := [.v (.int .i32 c)]) tbl_ok bodies_ok mixed Tryd.func29 rfl (by decide +kernel) (by simp [Tryd.f29]) rfl ?_
  (conv => whnf)
  have yes : isC c → (Value.bool true = Value.bool (decide (isC c)) ∧ m = m) := fun h => ⟨by rw [decide_eq_true h], rfl⟩
  have no : ¬ isC c → (Value.bool false = Value.bool (decide (isC c)) ∧ m = m) := fun h => ⟨by rw [decide_eq_false h], rfl⟩
  by_cases h0 : 0 ≤ c
  · refine brk_true (by simpa using h0) ?_
    (conv => whnf)
    refine brk_intro (fun c1 => ?_) (fun c1 => ?_)
    · have c1 : c < 55296 := by simpa using c1
      (conv => whnf)
      exact yes ⟨h0, by omega, .inl c1⟩
    · have c1 : ¬ c < 55296 := by simpa using c1
      (conv => whnf)
      by_cases h1 : 57343 < c
      · refine brk_true (by simpa using h1) ?_
        (conv => whnf)
        refine brk_intro (fun c2 => ?_) (fun c2 => ?_)
        · have c2 : c ≤ 1114111 := by simpa using c2
          (conv => whnf)
          exact yes ⟨h0, c2, .inr h1⟩
        · have c2 : ¬ c ≤ 1114111 := by simpa using c2
          (conv => whnf)
          exact no fun h => c2 h.2.1
      · refine brk_false (by simpa using h1) ?_
        (conv => whnf)
        exact no fun h => by rcases h.2.2 with h | h <;> omega
  · refine brk_false (by simpa using h0) ?_
    (conv => whnf)
    refine brk_false (by simp; omega) ?_
    (conv => whnf)
    exact no fun h => h0 h.1
/-- The bytes of a character, put behind a slice of bytes. -/
theorem putNA_c {m : Mem} {r : Nat} (hr : isC (r : Int)) (h128 : 128 ≤ r) {A : Option Addr} {c : Nat} {bs : List UInt8} (hn : bs.length < 2 ^ 46) (h0 : br A bs.length c bs m) :
    FCalls Tryd.prog 45 [.slice A bs.length c, .int .i32 ((r : Nat) : Int)] m fun v m' => ∃ A' c', v = .slice A' (bs ++ enc r).length c' ∧ br A' (bs ++ enc r).length c' (bs ++ enc r) m' := by
  obtain ⟨C, hC⟩ : ∃ C : Int, C = ((r : Nat) : Int) := ⟨_, rfl⟩
  have hu : IntKind.u32.wrap C = C := by rw [IntKind.wrap_u32, hC]; unfold isC at hr; omega
  rw [← hC]
  have q6 : C.fdiv (2 ^ (min (Int.toNat 6) IntKind.i32.bits)) = ((r / 64 : Nat) : Int) := by rw [hC]; exact fd r 64
  have q12 : C.fdiv (2 ^ (min (Int.toNat 12) IntKind.i32.bits)) = ((r / 4096 : Nat) : Int) := by rw [hC]; exact fd r 4096
  have q18 : C.fdiv (2 ^ (min (Int.toNat 18) IntKind.i32.bits)) = ((r / 262144 : Nat) : Int) := by rw [hC]; exact fd r 262144
  obtain ⟨hr0, hr1, hr2⟩ := hr
  have fin : ∀ (es : List UInt8), es = enc r → ∀ (nb : Nat) (m2 : Mem), m nb = none → m2 = m.set nb (.cells (byteVals es).toArray 5 (0, 0)) →
      AppOk tbl 5 m2 A bs.length c (some ⟨nb, 0, none⟩) es.length (byteVals es) (byteVals bs) ∧ ∀ A' c' m3, AppR tbl 5 m2 A bs.length c es.length (byteVals es) (byteVals bs) A' c' m3 →
        ∃ A2 c2, Value.slice A' (bs.length + es.length) c' = .slice A2 (bs ++ enc r).length c2 ∧ br A2 (bs ++ enc r).length c2 (bs ++ enc r) m3 := by
    intro es hes nb m2 hb he
    have hle : es.length ≤ 4 := by rw [hes, enc_len]; repeat' split
                                   all_goals omega
    have s0 : Sep [sl A bs.length c 1 (byteVals bs)] m := ⟨m, Mem.empty, fun _ => .inr rfl, Mem.le_refl _, fun _ _ h => (by cases h), h0.1, trivial⟩
    have s1 := s0.new' (l := byteVals es) hb he
    have hBn : m2.holds ⟨nb, 0, none⟩ (byteVals es) := (s1.blk 0 rfl).holds fun k v hk => by rw [Nat.zero_add]; exact hk
    obtain ⟨ok, hR⟩ := s1.app 1 (T := tbl) (e := 5) (news := byteVals es) (k := es.length) (B := some ⟨nb, 0, none⟩) rfl (by rw [show (tbl.at 5).size = 1 from rfl, Nat.mul_one]; simp [byteVals]) (.inr ⟨_, rfl, hBn⟩) oneB rfl (by show 2 * (_ + _) * 1 ≤ 2 ^ 48; omega) rfl
    refine ⟨ok, fun A' c' m3 hr3 => ⟨A', c', by rw [← hes, List.length_append], ?_⟩⟩
    have s2 := (hR _ _ _ hr3).asn 1 rfl
    rw [← hes, List.length_append]
    have e : byteVals (bs ++ es) = byteVals bs ++ byteVals es := by simp [byteVals]
    exact ⟨by rw [e]; exact s2, row5_app (by rw [he]; exact row5_set h0.2 hb) hr3⟩
  refine fcalls_of_vc (T := tbl) (B := bodies) (pr := [99999]) (DR := dr45) (args := [.v (.slice A bs.length c), .v (.int .i32 C)]) tbl_ok bodies_ok mixed Tryd.func45 rfl (by decide +kernel) (by simp [Tryd.f45]) rfl ?_
  (conv => whnf)
  rw [hu]
  refine brk_intro (fun c1 => ?_) (fun c1 => ?_)
  · have c1 : r ≤ 2047 := by have : C ≤ 2047 := (by simpa using c1); omega
    have he : [UInt8.ofNat (192 + r / 64), UInt8.ofNat (128 + r % 64)] = enc r := by unfold enc; rw [if_neg (by omega), if_pos (by omega)]
    (conv => whnf)
    refine ⟨by decide, ?_⟩
    (conv => whnf)
    intro nb m2 hb h1
    rw [q6, head2 (by omega), hC, tailB] at h1
    obtain ⟨ok, hR⟩ := fin _ he nb m2 hb h1
    (conv => whnf)
    refine ⟨_, _, ok, fun A2 c5 m6 hr2 => ?_⟩
    (conv => whnf)
    exact hR _ _ _ hr2
  · have c1 : ¬ r ≤ 2047 := by have : ¬ C ≤ 2047 := (by simpa using c1); omega
    (conv => whnf)
    have three : r ≤ 65535 → [UInt8.ofNat (224 + r / 4096), UInt8.ofNat (128 + r / 64 % 64), UInt8.ofNat (128 + r % 64)] = enc r := fun h => by unfold enc; rw [if_neg (by omega), if_neg (by omega), if_pos (by omega)]
    refine brk_intro (fun c2 => ?_) (fun c2 => ?_)
    · have c2 : C < 55296 := by simpa using c2
      (conv => whnf)
      refine brk_true (by simpa using c2) ?_
      (conv => whnf)
      refine ⟨by decide, ?_⟩
      (conv => whnf)
      refine ⟨by decide, ?_⟩
      (conv => whnf)
      intro nb m2 hb h1
      rw [q12, q6, head3 (by omega), hC, tailB, tailB] at h1
      obtain ⟨ok, hR⟩ := fin _ (three (by omega)) nb m2 hb h1
      (conv => whnf)
      refine ⟨_, _, ok, fun A2 c5 m6 hr2 => ?_⟩
      (conv => whnf)
      exact hR _ _ _ hr2
    · have c2 : ¬ C < 55296 := by simpa using c2
      (conv => whnf)
      refine brk_true (by simp; omega) ?_
      (conv => whnf)
      refine brk_intro (fun c3 => ?_) (fun c3 => ?_)
      · have c3 : C ≤ 65535 := by simpa using c3
        (conv => whnf)
        refine ⟨by decide, ?_⟩
        (conv => whnf)
        refine ⟨by decide, ?_⟩
        (conv => whnf)
        intro nb m2 hb h1
        rw [q12, q6, head3 (by omega), hC, tailB, tailB] at h1
        obtain ⟨ok, hR⟩ := fin _ (three (by omega)) nb m2 hb h1
        (conv => whnf)
        refine ⟨_, _, ok, fun A2 c5 m6 hr2 => ?_⟩
        (conv => whnf)
        exact hR _ _ _ hr2
      · have c3 : ¬ C ≤ 65535 := by simpa using c3
        have four : [UInt8.ofNat (240 + r / 262144), UInt8.ofNat (128 + r / 4096 % 64), UInt8.ofNat (128 + r / 64 % 64), UInt8.ofNat (128 + r % 64)] = enc r := by unfold enc; rw [if_neg (by omega), if_neg (by omega), if_neg (by omega)]
        (conv => whnf)
        refine brk_true (by simp; omega) ?_
        (conv => whnf)
        refine brk_true (by simp; omega) ?_
        (conv => whnf)
        refine ⟨by decide, ?_⟩
        (conv => whnf)
        refine ⟨by decide, ?_⟩
        (conv => whnf)
        refine ⟨by decide, ?_⟩
        (conv => whnf)
        intro nb m2 hb h1
        rw [q18, q12, q6, head4 (by omega), hC, tailB, tailB, tailB] at h1
        obtain ⟨ok, hR⟩ := fin _ four nb m2 hb h1
        (conv => whnf)
        refine ⟨_, _, ok, fun A2 c5 m6 hr2 => ?_⟩
        (conv => whnf)
        exact hR _ _ _ hr2
/-- AppendRune. -/
theorem put_c {m : Mem} {r : Nat} (hr : isC (r : Int)) {A : Option Addr} {c : Nat} {bs : List UInt8} (hn : bs.length < 2 ^ 46) (h0 : br A bs.length c bs m) :
    FCalls Tryd.prog 30 [.slice A bs.length c, .int .i32 ((r : Nat) : Int)] m fun v m' => ∃ A' c', v = .slice A' (bs ++ enc r).length c' ∧ br A' (bs ++ enc r).length c' (bs ++ enc r) m' := by
  obtain ⟨C, hC⟩ : ∃ C : Int, C = ((r : Nat) : Int) := ⟨_, rfl⟩
  have hu : IntKind.u32.wrap C = C := by rw [IntKind.wrap_u32, hC]; unfold isC at hr; omega
  rw [← hC]
  refine fcalls_of_vc (T := tbl) (B := bodies) (pr := [99999]) (DR := dr30) (args := [.v (.slice A bs.length c), .v (.int .i32 C)]) tbl_ok bodies_ok mixed Tryd.func30 rfl (by decide +kernel) (by simp [Tryd.f30]) rfl ?_
  (conv => whnf)
  rw [hu]
  refine brk_intro (fun c1 => ?_) (fun c1 => ?_)
  · have c1 : r ≤ 127 := by have : C ≤ 127 := (by simpa using c1); omega
    have he : [UInt8.ofNat r] = enc r := by unfold enc; rw [if_pos (by omega)]
    (conv => whnf)
    intro nb m2 hb h1
    rw [hC, wraps_u8 _ (by omega) (by omega), ← u8n r (by omega)] at h1
    have s0 : Sep [sl A bs.length c 1 (byteVals bs)] m := ⟨m, Mem.empty, fun _ => .inr rfl, Mem.le_refl _, fun _ _ h => (by cases h), h0.1, trivial⟩
    have s1 := s0.new' (l := byteVals [UInt8.ofNat r]) hb h1
    have hBn : m2.holds ⟨nb, 0, none⟩ (byteVals [UInt8.ofNat r]) := (s1.blk 0 rfl).holds fun k v hk => by rw [Nat.zero_add]; exact hk
    obtain ⟨ok, hR⟩ := s1.app 1 (T := tbl) (e := 5) (news := byteVals [UInt8.ofNat r]) (k := 1) (B := some ⟨nb, 0, none⟩) rfl rfl (.inr ⟨_, rfl, hBn⟩) rfl rfl (by show 2 * (_ + _) * 1 ≤ 2 ^ 48; omega) rfl
    (conv => whnf)
    refine ⟨_, _, ok, fun A2 c5 m6 hr2 => ?_⟩
    (conv => whnf)
    have s2 := (hR _ _ _ hr2).asn 1 rfl
    refine ⟨A2, c5, by rw [← he, List.length_append]; rfl, ?_⟩
    rw [← he, List.length_append]
    have e : byteVals (bs ++ [UInt8.ofNat r]) = byteVals bs ++ byteVals [UInt8.ofNat r] := by simp [byteVals]
    exact ⟨by rw [e]; exact s2, row5_app (by rw [h1]; exact row5_set h0.2 hb) hr2⟩
  · have c1 : ¬ r ≤ 127 := by have : ¬ C ≤ 127 := (by simpa using c1); omega
    (conv => whnf)
    rw [hC]
    refine FCalls.mono (putNA_c hr (by omega) hn h0) ?_
    rintro v m1 ⟨A', c', rfl, h1⟩
    (conv => whnf)
    exact ⟨A', c', rfl, h1⟩
end Go.Proofs.YtlnekbdcbkndbaaDoor
