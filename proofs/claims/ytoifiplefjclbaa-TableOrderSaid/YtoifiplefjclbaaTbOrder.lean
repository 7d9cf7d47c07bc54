/- TableOrder. -/
import Derived.Test.YtoifiplefjclbaaTbR
namespace Go.Proofs.Ytoifiplefjclbaa
open Go Go.Mv
set_option maxHeartbeats 2000000
set_option maxRecDepth 10000
set_option linter.unusedVariables false
set_option linter.unusedSimpArgs false
attribute [local irreducible] FCalls IntKind.wrap bits Mem.set Mem.setCell Mem.setCells YCalls
abbrev T3 := Int × Int × Int
def enc3 (r : T3) : List Value := [.int .i64 r.1, .int .i64 r.2.1, .int .i64 r.2.2]
def key3 (r : T3) : List Int := [r.1, r.2.1, r.2.2]
theorem key3_inj {r q : T3} (h : key3 r = key3 q) : r = q := by
  obtain ⟨a, b, c⟩ := r
  obtain ⟨d, e, f⟩ := q
  simp only [key3, List.cons.injEq, and_true] at h
  obtain ⟨rfl, rfl, rfl⟩ := h
  rfl
theorem t3_ld {m : Mem} {A : Option Addr} {zs : List T3} {i : Nat} {r : T3} (h : Rd m A (zs.flatMap enc3)) (hx : zs[i]? = some r) :
    ∃ p, A = some p ∧ m.cell ((p.add (i * 3)).add 0) = some (.int .i64 r.1) ∧ m.cell ((p.add (i * 3)).add 1) = some (.int .i64 r.2.1) ∧ m.cell ((p.add (i * 3)).add 2) = some (.int .i64 r.2.2) := by
  have g : ∀ o, o < 3 → (zs.flatMap enc3)[i * 3 + o]? = (enc3 r)[o]? := fun o ho => flat_get (f := enc3) (sz := 3) (fun _ => rfl) hx ho
  obtain ⟨p, hp, h0⟩ := h.atf (k := i * 3) (off := 0) ((g 0 (by omega)).trans rfl)
  obtain ⟨p1, hp1, h1⟩ := h.atf (k := i * 3) (off := 1) ((g 1 (by omega)).trans rfl)
  obtain ⟨p2, hp2, h2⟩ := h.atf (k := i * 3) (off := 2) ((g 2 (by omega)).trans rfl)
  rw [hp] at hp1 hp2
  cases hp1
  cases hp2
  exact ⟨p, hp, h0, h1, h2⟩
def fresh (xs : List T3) (i k : Nat) : Bool := (List.range k).all fun j => xs[j]? != xs[i]?
def dcount (xs : List T3) : Nat → Nat
  | 0 => 0
  | i + 1 => dcount xs i + if fresh xs i i then 1 else 0
theorem dcount_le (xs : List T3) : ∀ i, dcount xs i ≤ i
  | 0 => Nat.le_refl _
  | i + 1 => by
    have := dcount_le xs i
    unfold dcount
    split <;> omega
theorem fresh_succ (xs : List T3) (i k : Nat) : fresh xs i (k + 1) = (fresh xs i k && (xs[k]? != xs[i]?)) := by
  unfold fresh
  rw [List.range_succ, List.all_append]
  simp
theorem fresh_iff3 {xs : List T3} {i k : Nat} : fresh xs i k = true ↔ ∀ j, j < k → xs[j]? ≠ xs[i]? := by
  unfold fresh
  simp
/-- What the map holds: of each row its last place. -/
structure Last (xs : List T3) (i : Nat) (a : Abs) : Prop where
  w : a.w = 3
  most : a.most = 1000000
  n : a.n = dcount xs i
  val : ∀ k v, a.f k = some v → ∃ (j : Nat) (r : T3), v = j ∧ j < i ∧ xs[j]? = some r ∧ k = key3 r ∧ ∀ j', j < j' → j' < i → xs[j']? ≠ some r
  all : ∀ (j : Nat) r, j < i → xs[j]? = some r → (a.f (key3 r)).isSome = true
theorem Last.put {xs : List T3} {i : Nat} {a a' : Abs} {r : T3} {code : Int} (h : Last xs i a) (hi : i ≤ 300) (hx : xs[i]? = some r) (hp : putA a (key3 r) i code a') : Last xs (i + 1) a' := by
  obtain ⟨p1, p2, p3⟩ := hp
  have hd := dcount_le xs i
  rw [if_neg (by rw [h.w]; simp [key3])] at p3
  have hfr : fresh xs i i = !(a.f (key3 r)).isSome := by
    cases hs : (a.f (key3 r)).isSome with
    | true =>
      obtain ⟨v, hv⟩ := Option.isSome_iff_exists.1 hs
      obtain ⟨j, q, _, hj, hxj, hk, _⟩ := h.val _ _ hv
      have := key3_inj hk
      subst this
      cases hf : fresh xs i i with
      | false => rfl
      | true => exact absurd (hxj.trans hx.symm) (fresh_iff3.1 hf j hj)
    | false =>
      refine fresh_iff3.2 fun j hj he => ?_
      rw [hx] at he
      have := h.all j r hj he
      rw [hs] at this
      cases this
  have val' : ∀ f, f = updF a.f (key3 r) (some (i : Int)) → ∀ k v, f k = some v → ∃ (j : Nat) (q : T3), v = j ∧ j < i + 1 ∧ xs[j]? = some q ∧ k = key3 q ∧ ∀ j', j < j' → j' < i + 1 → xs[j']? ≠ some q := by
    rintro f rfl k v hk
    unfold updF at hk
    split at hk
    · rename_i hkk
      cases hk
      exact ⟨i, r, rfl, by omega, hx, hkk, fun j' h1 h2 => by omega⟩
    · rename_i hkk
      obtain ⟨j, q, e1, e2, e3, e4, e5⟩ := h.val k v hk
      refine ⟨j, q, e1, by omega, e3, e4, fun j' h1 h2 he => ?_⟩
      rcases Nat.lt_or_ge j' i with h3 | h3
      · exact e5 j' h1 h3 he
      · have : j' = i := by omega
        subst this
        rw [hx] at he
        cases he
        exact hkk e4
  have all' : ∀ f, f = updF a.f (key3 r) (some (i : Int)) → ∀ (j : Nat) q, j < i + 1 → xs[j]? = some q → (f (key3 q)).isSome = true := by
    rintro f rfl j q hj hq
    unfold updF
    split
    · rfl
    · rename_i hkk
      refine h.all j q ?_ hq
      rcases Nat.lt_or_ge j i with h3 | h3
      · exact h3
      · have : j = i := by omega
        subst this
        rw [hx] at hq
        cases hq
        exact absurd rfl hkk
  have hmost := h.most
  have hn := h.n
  split at p3
  · rename_i hs
    obtain ⟨e1, e2, e3, e4⟩ := p3
    exact ⟨p1.trans h.w, p2.trans h.most, by rw [e3, h.n]; show _ = dcount xs i + if fresh xs i i then 1 else 0; rw [hfr, hs]; rfl, val' _ e2, all' _ e2⟩
  · rename_i hs
    rw [if_neg (by omega)] at p3
    obtain ⟨e1, e2, e3, e4⟩ := p3
    have hs' : (a.f (key3 r)).isSome = false := by simpa using hs
    exact ⟨p1.trans h.w, p2.trans h.most, by rw [e3, h.n]; show _ = dcount xs i + if fresh xs i i then 1 else 0; rw [hfr, hs']; rfl, val' _ e2, all' _ e2⟩
theorem key3_cell {m : Mem} {p : Addr} {r : T3} (g0 : m.cell (p.add 0) = some (.int .i64 r.1)) (g1 : m.cell (p.add 1) = some (.int .i64 r.2.1)) (g2 : m.cell (p.add 2) = some (.int .i64 r.2.2)) (i : Nat) (hi : i < 3) : m.cell (p.add i) = some (.int .i64 ((key3 r).getD i 0)) := by
  have : i = 0 ∨ i = 1 ∨ i = 2 := by omega
  rcases this with rfl | rfl | rfl
  · exact g0
  · exact g1
  · exact g2
theorem key3_beq {r q : T3} : (key3 r == key3 q) = decide (r = q) := by
  by_cases h : r = q
  · subst h; simp
  · rw [decide_eq_false h, beq_eq_false_iff_ne]
    exact fun he => h (key3_inj he)
theorem lex3_lt {r q : T3} (h : lexC (key3 r) (key3 q) < 0) {k : Nat} (hk : k ≤ 2) (he : ∀ j, j < k → (key3 r).getD j 0 = (key3 q).getD j 0) (hn : k = 2 ∨ (key3 r).getD k 0 ≠ (key3 q).getD k 0) : (key3 r).getD k 0 < (key3 q).getD k 0 := by
  obtain ⟨a, b, c⟩ := r
  obtain ⟨d, e, f⟩ := q
  simp only [key3, lexC] at h
  have : k = 0 ∨ k = 1 ∨ k = 2 := by omega
  rcases this with rfl | rfl | rfl
  · have hn' : a ≠ d := by simpa [key3] using hn
    rcases cmpI_cases a d with ⟨x, y⟩ | ⟨x, y⟩ | ⟨x, y⟩
    · exact x
    · exact absurd x hn'
    · rw [y] at h; simp at h
  · have hn' : b ≠ e := by simpa [key3] using hn
    have h0 : a = d := he 0 (by omega)
    subst h0
    rw [show cmpI a a = 0 by unfold cmpI; simp] at h
    rw [if_pos rfl] at h
    rcases cmpI_cases b e with ⟨x, y⟩ | ⟨x, y⟩ | ⟨x, y⟩
    · exact x
    · exact absurd x hn'
    · rw [y] at h; simp at h
  · have h0 : a = d := he 0 (by omega)
    have h1 : b = e := he 1 (by omega)
    subst h0 h1
    rw [show cmpI a a = 0 by unfold cmpI; simp, if_pos rfl, show cmpI b b = 0 by unfold cmpI; simp, if_pos rfl] at h
    rcases cmpI_cases c f with ⟨x, y⟩ | ⟨x, y⟩ | ⟨x, y⟩
    · exact x
    · rw [y] at h; simp at h
    · rw [y] at h; simp at h
theorem tableOrder_c {m : Mem} {A : Option Addr} {zs : List T3} {c : Nat} (hA : Rd m A (zs.flatMap enc3)) (hzc : zs.length ≤ c) :
    FCalls Try.prog 8 [.slice A zs.length c] m fun v m' => v = .bool true ∧ m' = m := by
  refine FCalls.less ?_
  refine fcalls_of_vc (T := tbl) (B := bodies) (pr := [99999]) (DR := (100006, 0) :: dr8) (args := [.v (.slice A zs.length c)]) tbl_ok bodies_ok mixed Try.func8 rfl (by decide +kernel) (by simp [Try.f8]) rfl ?_
  (conv => whnf)
  intro b1 m1 hb he
  have h := (Sep.init m).new' hb he
  clear hb he
  (conv => whnf)
  intro b2 m2 hb he
  replace h : Sep [pt b2 [.bool false], pt b1 [.slice A zs.length c], kp m] m2 := h.new' hb he
  clear hb he
  (conv => whnf)
  refine FCalls.mono known_k ?_
  rintro v m3 ⟨rfl, hle⟩
  replace h := (h.more hle).move 2 rfl
  clear hle
  (conv => whnf)
  refine FCalls.mono (new_m (by omega) (by omega) (by omega) (by omega)) ?_
  rintro v m4 ⟨p, rfl, hT⟩
  replace h : Sep [tm m p ⟨3, 1000000, fun _ => none, 0, 0⟩, pt b2 [.bool false], pt b1 [.slice A zs.length c]] m4 := new_on h hT rfl
  clear hT
  (conv => whnf)
  refine join_keep [1, 2, 4] (Option Addr × List T3 × Nat × Mem) (fun _ => []) (fun s => s.2.2.2) (fun s => s.2.1.length ≤ 300 ∧ Rd m s.1 (s.2.1.flatMap enc3) ∧ Sep [tm m p ⟨3, 1000000, fun _ => none, 0, 0⟩, pt b2 [.bool false], pt b1 [.slice s.1 s.2.1.length s.2.2.1]] s.2.2.2) ?_
  (conv => whnf)
  refine ⟨?_, ?_⟩
  · (conv => whnf)
    refine ⟨_, _, _, h.cell 2 (i := 0) rfl rfl, ?_⟩
    (conv => whnf)
    refine brk_intro (fun c1 => ?_) (fun c1 => ?_)
    · have c1 : (300 : Int) < (zs.length : Nat) := by simpa using c1
      (conv => whnf)
      refine ⟨_, _, _, h.cell 2 (i := 0) rfl rfl, ?_⟩
      (conv => whnf)
      refine ⟨by omega, by omega, by omega, ?_⟩
      (conv => whnf)
      refine ⟨h.room 2 (i := 0) rfl rfl, fun m7 he => ?_⟩
      replace h := h.put' 2 he rfl
      (conv => whnf)
      refine ⟨(A, zs.take 300, c, m7), le_eq ⟨rfl, rfl, rfl, trivial⟩ rfl rfl rfl, by simp; omega, ?_, ?_⟩
      · have e : (zs.take 300).flatMap enc3 = (zs.flatMap enc3).take (300 * 3) := by
          apply List.ext_getElem?
          intro i
          have hl := flat_len (f := enc3) (sz := 3) (fun _ => rfl)
          have hl1 := hl zs
          have hl2 := hl (zs.take 300)
          rw [List.getElem?_take]
          by_cases hi : i < 300 * 3
          · rw [if_pos hi]
            have hq : i / 3 < 300 := by omega
            obtain ⟨r, hr⟩ : ∃ r, zs[i / 3]? = some r := ⟨_, List.getElem?_eq_getElem (by omega)⟩
            have hr2 : (zs.take 300)[i / 3]? = some r := by rw [List.getElem?_take, if_pos hq]; exact hr
            have e1 := flat_get (f := enc3) (sz := 3) (fun _ => rfl) hr (show i % 3 < 3 by omega)
            have e2 := flat_get (f := enc3) (sz := 3) (fun _ => rfl) hr2 (show i % 3 < 3 by omega)
            rw [show i / 3 * 3 + i % 3 = i by omega] at e1 e2
            rw [e1, e2]
          · rw [if_neg hi, List.getElem?_eq_none]
            rw [hl2, List.length_take]
            omega
        simp only
        rw [e]
        exact hA.take _
      · simp only
        have e : (Value.slice (if c = Int.toNat 0 then A else Option.map (fun p => p.add (Int.toNat 0 * (tbl.at 48).size)) A) (300 - 0) (c - 0)) = .slice A (zs.take 300).length c := by
          rw [slice_lo0, List.length_take, Nat.min_eq_left (by omega), Nat.sub_zero, Nat.sub_zero]
        rw [← e]
        exact h
    · have c1 : ¬ (300 : Int) < (zs.length : Nat) := by simpa using c1
      (conv => whnf)
      exact ⟨(A, zs, c, m4), le_eq ⟨rfl, rfl, rfl, trivial⟩ rfl rfl rfl, by simp only; omega, hA, h⟩
  clear h
  rintro ⟨A', xs, c', M⟩ ⟨hlen, hX, h⟩
  simp only at hlen hX h
  (conv => whnf)
  refine loop_keep [1, 2, 4] (Nat × Mem × Abs × Mem) (fun s => [(6, .v (.int .i64 ((s.1 : Nat) : Int)))]) (fun _ => []) (fun s => s.2.2.2)
    (fun s => s.1 ≤ xs.length ∧ m.le s.2.1 ∧ Last xs s.1 s.2.2.1 ∧ Sep [tm s.2.1 p s.2.2.1, pt b2 [.bool false], pt b1 [.slice A' xs.length c']] s.2.2.2) (fun s => xs.length - s.1)
    (0, m, _, M) ⟨rfl, trivial⟩ rfl rfl ⟨by simp, Mem.le_refl _, ⟨rfl, rfl, rfl, fun k v hk => (by cases hk), fun j r hj => absurd hj (Nat.not_lt_zero _)⟩, h⟩ ?_
  clear h
  (conv => whnf)
  refine ⟨rfl, ?_⟩
  rintro ⟨i, mk, a, M⟩ ⟨hJ1, hmk, hL, h⟩
  simp only at hJ1 hmk hL h
  (conv => whnf)
  refine ⟨_, _, _, h.cell 2 (i := 0) rfl rfl, ?_⟩
  (conv => whnf)
  refine brk_intro (fun c1 => ?_) (fun c1 => ?_)
  · have c1 : (i : Int) < (xs.length : Nat) := by simpa using c1
    obtain ⟨r, hx⟩ : ∃ x, xs[((i : Nat) : Int).toNat]? = some x := ⟨_, List.getElem?_eq_getElem (by omega)⟩
    have hx' : xs[i]? = some r := by rwa [show ((i : Nat) : Int).toNat = i by omega] at hx
    have hXM := (hX.more hmk).more (tm_le (tm_at h 0 rfl))
    obtain ⟨q, hq, g0, g1, g2⟩ := t3_ld hXM hx
    have step1 : IntKind.i64.wrap ((i : Int) + 1) = ((i + 1 : Nat) : Int) := wrap_id (by omega) (by omega)
    (conv => whnf)
    refine ⟨_, _, _, h.cell 2 (i := 0) rfl rfl, ?_⟩
    (conv => whnf)
    refine ⟨_, hq, by omega, by omega, ?_⟩
    (conv => whnf)
    refine ⟨by omega, by omega, ?_⟩
    (conv => whnf)
    refine ⟨_, g0, ?_⟩
    (conv => whnf)
    refine ⟨_, _, _, h.cell 2 (i := 0) rfl rfl, ?_⟩
    (conv => whnf)
    refine ⟨_, hq, by omega, by omega, ?_⟩
    (conv => whnf)
    refine ⟨by omega, by omega, ?_⟩
    (conv => whnf)
    refine ⟨_, g1, ?_⟩
    (conv => whnf)
    refine ⟨_, _, _, h.cell 2 (i := 0) rfl rfl, ?_⟩
    (conv => whnf)
    refine ⟨_, hq, by omega, by omega, ?_⟩
    (conv => whnf)
    refine ⟨by omega, by omega, ?_⟩
    (conv => whnf)
    refine ⟨_, g2, ?_⟩
    (conv => whnf)
    intro b9 m7 hb he
    replace h := h.new' (l := ints (key3 r)) hb he
    clear hb he
    obtain ⟨mk2, hmk2, hB9, h2⟩ := tm_merge h
    replace h := h2
    clear h2
    have hI := ints_blk hB9
    (conv => whnf)
    refine FCalls.mono (h.call 0 rfl fun m1 h1 => put_m (ks := key3 r) (c := 3) ((i : Nat) : Int) h1 hI) ?_
    rintro v m10 ⟨m11, ⟨code, a', rfl, h1, hpA⟩, h2⟩
    replace h : Sep [tm mk2 p a', pt b2 [.bool false], pt b1 [.slice A' xs.length c']] m10 := h2.one h1
    clear h1 h2
    (conv => whnf)
    exact ⟨(i + 1, mk2, a', _), le_eq ⟨by show some (AV.v (.int .i64 (IntKind.i64.wrap ((i : Int) + 1)))) = _; rw [step1], rfl, rfl, rfl, trivial⟩ rfl rfl rfl, ⟨by simp only; omega, Mem.le_trans hmk hmk2, hL.put (by omega) hx' hpA, h⟩, by simp only; omega⟩
  · have c1 : ¬ (i : Int) < (xs.length : Nat) := by simpa using c1
    have hi : i = xs.length := by omega
    subst hi
    (conv => whnf)
    intro b7 m7 hb he
    replace h := h.new' (l := [.int .i64 0]) hb he
    clear hb he
    (conv => whnf)
    refine ⟨h.room 0 (i := 0) rfl rfl, fun m8 he => ?_⟩
    replace h : Sep [pt b7 [.int .i64 ((0 : Nat) : Int)], tm mk p a, pt b2 [.bool false], pt b1 [.slice A' xs.length c']] m8 := h.put' 0 he rfl
    clear he
    (conv => whnf)
    intro b8 m9 hb he
    replace h : Sep [pt b8 (enc3 (0, 0, 0)), pt b7 [.int .i64 ((0 : Nat) : Int)], tm mk p a, pt b2 [.bool false], pt b1 [.slice A' xs.length c']] m9 := h.new' hb he
    clear hb he
    (conv => whnf)
    refine ⟨rfl, h.rooms 0 rfl (by show 0 + 3 ≤ 3; omega), fun m10 he => ?_⟩
    replace h : Sep [pt b8 (enc3 (0, 0, 0)), pt b7 [.int .i64 ((0 : Nat) : Int)], tm mk p a, pt b2 [.bool false], pt b1 [.slice A' xs.length c']] m10 := he ▸ h.putAll 0 _ rfl
    clear he
    replace h : Sep [tm mk p a, pt b8 (enc3 (0, 0, 0)), pt b7 [.int .i64 ((0 : Nat) : Int)], pt b2 [.bool false], pt b1 [.slice A' xs.length c']] m10 := h.move 2 rfl
    obtain ⟨es, hes⟩ := ents_ex (tm_at h 0 rfl)
    have hel := ents_len (tm_at h 0 rfl) hes
    have hdl := dcount_le xs xs.length
    have hLn := hL.n
    obtain ⟨t, h⟩ : ∃ t, Sep [fun M => TM' mk M p a t, pt b8 (enc3 (0, 0, 0)), pt b7 [.int .i64 ((0 : Nat) : Int)], pt b2 [.bool false], pt b1 [.slice A' xs.length c']] m10 := by
      obtain ⟨m1, m2, k1, k2, k3, ⟨t, hT⟩, k5⟩ := h
      exact ⟨t, m1, m2, k1, k2, k3, hT, k5⟩
    (conv => whnf)
    refine FCalls.mono all_c ?_
    rintro v m12 ⟨bA, rfl, h2⟩
    replace h := Sep.group (L := [pt bA [.pointer (some ⟨p, 0, none⟩)], fun M => TM' mk M p a t]) (h.on (N := [_]) h2)
    clear h2
    (conv => whnf)
    refine range_iterS (all_iter hes) (fun m m' hI hm s hs => (hI s hs).up hm) h (fun i vs L ⟨k, v, A, c, _, hv, _⟩ => by rw [hv]; rfl)
      (fun j M => ∃ r : T3, (0 < j → (es.getD (j - 1) ([], 0)).1 = key3 r) ∧ Sep [fun M => TM' mk M p a t, pt b8 (enc3 r), pt b7 [.int .i64 ((j : Nat) : Int)], pt b2 [.bool false], pt b1 [.slice A' xs.length c']] M)
      (fun M hM => ⟨(0, 0, 0), fun h0 => absurd h0 (Nat.lt_irrefl 0), (Sep.split hM).drop 0⟩) ?_ ?_ ?_
    · rintro j M ⟨r, _, h⟩ s hs
      obtain ⟨m1, h1, h2⟩ := h.get 0 rfl
      exact ((h2.tab.keys s hs).1).up h1
    · rintro j vs L m1 M hj ⟨k, v, Ak, ck, hek, rfl, rfl⟩ ⟨r, hr, h⟩ h2
      replace h := h.on (N := [_]) h2
      clear h2
      obtain ⟨jj, rk, rfl, hjj, hxj, rfl, hlast⟩ := hL.val _ _ ((hes.2 k v).1 (List.mem_of_getElem? hek))
      have hkI := ints_of_sl (h.asn 0 rfl)
      have hTM : TM mk M p a := by
        obtain ⟨m1, h1, h3⟩ := h.get 1 rfl
        exact ⟨t, h3.up h1⟩
      have hXM := (hX.more hmk).more (tm_le hTM)
      have hxj' : xs[((jj : Nat) : Int).toNat]? = some rk := by rw [show ((jj : Nat) : Int).toNat = jj by omega]; exact hxj
      obtain ⟨q, hq, g0, g1, g2⟩ := t3_ld hXM hxj'
      have hg := key3_cell g0 g1 g2
      obtain ⟨q0, hq0, hc0⟩ := hkI.at (i := 0) (by omega) (by simp [key3])
      obtain ⟨q1, hq1, hc1⟩ := hkI.at (i := 1) (by omega) (by simp [key3])
      obtain ⟨q2, hq2, hc2⟩ := hkI.at (i := 2) (by omega) (by simp [key3])
      (conv => whnf)
      refine ⟨_, _, _, h.cell 5 (i := 0) rfl rfl, ?_⟩
      (conv => whnf)
      refine brk_true (by simp; omega) ?_
      (conv => whnf)
      refine ⟨_, _, _, h.cell 5 (i := 0) rfl rfl, ?_⟩
      (conv => whnf)
      refine ⟨_, hq, by omega, by omega, ?_⟩
      (conv => whnf)
      refine ⟨key3 rk, rfl, hg, ?_⟩
      (conv => whnf)
      refine ⟨_, hq0, by omega, by simp [key3], ?_⟩
      (conv => whnf)
      refine ⟨_, hc0, ?_⟩
      (conv => whnf)
      refine ⟨_, hq1, by omega, by simp [key3], ?_⟩
      (conv => whnf)
      refine ⟨_, hc1, ?_⟩
      (conv => whnf)
      refine ⟨_, hq2, by omega, by simp [key3], ?_⟩
      (conv => whnf)
      refine ⟨_, hc2, ?_⟩
      (conv => whnf)
      refine ⟨by simp, ?_⟩
      (conv => whnf)
      refine ⟨by simp, ?_⟩
      (conv => whnf)
      refine ⟨by simp, ?_⟩
      (conv => whnf)
      refine ⟨rfl, rfl, ?_⟩
      (conv => whnf)
      refine brk_false (by simp [key3]) ?_
      have step2 : IntKind.i64.wrap ((jj : Int) + 1) = ((jj + 1 : Nat) : Int) := wrap_id (by omega) (by omega)
      (conv => whnf)
      refine loop_keep [1, 2, 7, 8, 9, 10] Nat (fun i => [(11, .v (.int .i64 ((i : Nat) : Int)))]) (fun _ => []) (fun _ => M) (fun i => jj < i ∧ i ≤ xs.length) (fun i => xs.length - i) (jj + 1) ⟨by show some (AV.v (.int .i64 (IntKind.i64.wrap ((jj : Int) + 1)))) = _; rw [step2], trivial⟩ rfl rfl ⟨by omega, by omega⟩ ?_
      (conv => whnf)
      refine ⟨rfl, ?_⟩
      rintro i ⟨hi1, hi2⟩
      (conv => whnf)
      refine ⟨_, _, _, h.cell 5 (i := 0) rfl rfl, ?_⟩
      (conv => whnf)
      refine brk_intro (fun c1 => ?_) (fun c1 => ?_)
      · have c1 : (i : Int) < (xs.length : Nat) := by simpa using c1
        obtain ⟨ri, hxi⟩ : ∃ x, xs[((i : Nat) : Int).toNat]? = some x := ⟨_, List.getElem?_eq_getElem (by omega)⟩
        have hxi' : xs[i]? = some ri := by rwa [show ((i : Nat) : Int).toNat = i by omega] at hxi
        have hne : ri ≠ rk := fun he => hlast i hi1 (by omega) (by rw [hxi', he])
        obtain ⟨q4, hq4, k0, k1, k2⟩ := t3_ld hXM hxi
        have hk := key3_cell k0 k1 k2
        have step3 : IntKind.i64.wrap ((i : Int) + 1) = ((i + 1 : Nat) : Int) := wrap_id (by omega) (by omega)
        (conv => whnf)
        refine ⟨_, _, _, h.cell 5 (i := 0) rfl rfl, ?_⟩
        (conv => whnf)
        refine ⟨_, hq4, by omega, by omega, ?_⟩
        (conv => whnf)
        refine ⟨key3 ri, rfl, hk, ?_⟩
        (conv => whnf)
        refine ⟨_, _, _, h.cell 5 (i := 0) rfl rfl, ?_⟩
        (conv => whnf)
        refine ⟨_, hq, by omega, by omega, ?_⟩
        (conv => whnf)
        refine ⟨key3 rk, rfl, hg, ?_⟩
        (conv => whnf)
        refine ⟨rfl, rfl, ?_⟩
        (conv => whnf)
        refine brk_false (by rw [key3_beq, decide_eq_false hne]) ?_
        (conv => whnf)
        exact ⟨i + 1, le_eq ⟨by show some (AV.v (.int .i64 (IntKind.i64.wrap ((i : Int) + 1)))) = _; rw [step3], rfl, rfl, rfl, rfl, rfl, rfl, trivial⟩ rfl rfl rfl, ⟨by omega, by omega⟩, by omega⟩
      · (conv => whnf)
        have hrc : ∀ k : Nat, k < 3 → M.cell ⟨b8, k, none⟩ = some (.int .i64 ((key3 r).getD k 0)) := by
          intro k hk
          have : k = 0 ∨ k = 1 ∨ k = 2 := by omega
          rcases this with rfl | rfl | rfl <;> exact h.cell 2 rfl rfl
        have hkc : ∀ k : Nat, k < 3 → ∃ q, Ak = some q ∧ M.cell (q.add (k * 1)) = some (.int .i64 ((key3 rk).getD k 0)) := by
          intro k hk
          have := hkI.at (i := (k : Int)) (by omega) (by simp [key3]; omega)
          rwa [show ((k : Nat) : Int).toNat = k by omega] at this
        refine loop_keep [1, 2, 7, 8, 9, 10] Nat (fun i => [(12, .v (.int .i64 ((i : Nat) : Int)))]) (fun _ => []) (fun _ => M) (fun k => k ≤ 2 ∧ ∀ j, j < k → (key3 r).getD j 0 = (key3 rk).getD j 0) (fun k => 2 - k) 0 ⟨rfl, trivial⟩ rfl rfl ⟨by omega, fun j hj => absurd hj (Nat.not_lt_zero _)⟩ ?_
        (conv => whnf)
        refine ⟨rfl, ?_⟩
        rintro k ⟨hk1, hk2⟩
        have hadd : ∀ k : Nat, (⟨b8, 0, none⟩ : Addr).add (((k : Nat) : Int).toNat * (tbl.at 3).size) = ⟨b8, k, none⟩ := by
          intro k
          rw [add_mk, Nat.zero_add]
          show (⟨b8, ((k : Nat) : Int).toNat * 1, none⟩ : Addr) = _
          rw [show ((k : Nat) : Int).toNat * 1 = k by omega]
        obtain ⟨q5, hq5, hc5⟩ := hkc k (by omega)
        have step3 : IntKind.i64.wrap ((k : Int) + 1) = ((k + 1 : Nat) : Int) := wrap_id (by omega) (by omega)
        have hstop : (k = 2 ∨ (key3 r).getD k 0 ≠ (key3 rk).getD k 0) → 0 < j → (key3 r).getD k 0 < (key3 rk).getD k 0 := by
          intro hn hj0
          refine lex3_lt ?_ hk1 hk2 hn
          have he0 := hr hj0
          have := List.pairwise_iff_getElem.1 hes.1 (j - 1) j (by omega) hj (by omega)
          obtain ⟨_, e2⟩ := List.getElem?_eq_some_iff.1 hek
          rw [e2] at this
          have e1 : (es.getD (j - 1) ([], 0)) = es[j - 1] := by simp [List.getD, List.getElem?_eq_getElem (show j - 1 < es.length by omega)]
          rw [e1] at he0
          rw [he0] at this
          exact this
        (conv => whnf)
        rcases Decidable.em (k < 2 ∧ (key3 r).getD k 0 = (key3 rk).getD k 0) with c2 | c2
        · obtain ⟨c2, c3⟩ := c2
          refine brk_true (by simp; omega) ?_
          (conv => whnf)
          refine ⟨by omega, by show ((k : Nat) : Int) < 3; omega, ?_⟩
          (conv => whnf)
          refine ⟨_, by rw [hadd]; exact hrc k (by omega), ?_⟩
          (conv => whnf)
          refine ⟨_, hq5, by omega, by simp [key3]; omega, ?_⟩
          (conv => whnf)
          refine ⟨_, by rw [show ((k : Nat) : Int).toNat = k by omega]; exact hc5, ?_⟩
          (conv => whnf)
          refine brk_true (by rw [c3]; exact beq_self_eq_true _) ?_
          (conv => whnf)
          refine ⟨k + 1, le_eq ⟨by show some (AV.v (.int .i64 (IntKind.i64.wrap ((k : Int) + 1)))) = _; rw [step3], rfl, rfl, rfl, rfl, rfl, rfl, trivial⟩ rfl rfl rfl, ⟨by omega, fun j' hj' => ?_⟩, by omega⟩
          rcases Nat.lt_or_ge j' k with h8 | h8
          · exact hk2 j' h8
          · have : j' = k := by omega
            subst this
            exact c3
        · have hstop := hstop (by
            rcases Nat.lt_or_ge k 2 with h8 | h8
            · exact .inr fun he => c2 ⟨h8, he⟩
            · exact .inl (by omega))
          rcases Nat.lt_or_ge k 2 with c4 | c4
          case' inl =>
            refine brk_true (by simp; omega) ?_
            (conv => whnf)
            refine ⟨by omega, by show ((k : Nat) : Int) < 3; omega, ?_⟩
            (conv => whnf)
            refine ⟨_, by rw [hadd]; exact hrc k (by omega), ?_⟩
            (conv => whnf)
            refine ⟨_, hq5, by omega, by simp [key3]; omega, ?_⟩
            (conv => whnf)
            refine ⟨_, by rw [show ((k : Nat) : Int).toNat = k by omega]; exact hc5, ?_⟩
            (conv => whnf)
            refine brk_false (beq_eq_false_iff_ne.2 fun he => c2 ⟨c4, he⟩) ?_
            (conv => whnf)
          case' inr =>
            refine brk_false (by simp; omega) ?_
            (conv => whnf)
          all_goals
            refine ⟨_, h.cell 3 (i := 0) rfl rfl, ?_⟩
            (conv => whnf)
            have stepj : IntKind.i64.wrap ((j : Int) + 1) = ((j + 1 : Nat) : Int) := wrap_id (by omega) (by omega)
            rcases Nat.eq_zero_or_pos j with c5 | c5
            case' inl =>
              subst c5
              (conv => whnf)
            case' inr =>
              have hstop := hstop c5
              refine brk_true (by simp; omega) ?_
              (conv => whnf)
              refine ⟨by omega, by show ((k : Nat) : Int) < 3; omega, ?_⟩
              (conv => whnf)
              refine ⟨_, by rw [hadd]; exact hrc k (by omega), ?_⟩
              (conv => whnf)
              refine ⟨_, hq5, by omega, by simp [key3]; omega, ?_⟩
              (conv => whnf)
              refine ⟨_, by rw [show ((k : Nat) : Int).toNat = k by omega]; exact hc5, ?_⟩
              (conv => whnf)
              refine brk_false (decide_eq_false (by omega)) ?_
              (conv => whnf)
            all_goals
              refine ⟨_, _, _, h.cell 5 (i := 0) rfl rfl, ?_⟩
              (conv => whnf)
              refine ⟨_, hq, by omega, by omega, ?_⟩
              (conv => whnf)
              refine ⟨key3 rk, rfl, hg, ?_⟩
              (conv => whnf)
              refine ⟨rfl, h.rooms 2 rfl (by show 0 + 3 ≤ 3; omega), fun m13 he => ?_⟩
              replace h := he ▸ h.putAll 2 _ rfl
              (conv => whnf)
              refine ⟨_, h.cell 3 (i := 0) rfl rfl, ?_⟩
              (conv => whnf)
              rw [stepj]
              refine ⟨h.room 3 (i := 0) rfl rfl, fun m14 he => ?_⟩
              replace h := h.put' 3 he rfl
              (conv => whnf)
              refine ⟨rk, fun _ => ?_, h.drop 0⟩
              rw [Nat.add_sub_cancel]
              simp [List.getD, hek]
    · rintro M ⟨r, hr, h⟩
      (conv => whnf)
      refine loop_keep [1, 2, 4, 7] Nat (fun i => [(14, .v (.int .i64 ((i : Nat) : Int))), (13, .v (.int .i64 ((dcount xs i : Nat) : Int)))]) (fun _ => []) (fun _ => M) (fun i => i ≤ xs.length) (fun i => xs.length - i) 0 ⟨rfl, rfl, trivial⟩ rfl rfl (by omega) ?_
      have hTM : TM mk M p a := by
        obtain ⟨m1, h1, h3⟩ := h.get 0 rfl
        exact ⟨t, h3.up h1⟩
      have hXM := (hX.more hmk).more (tm_le hTM)
      (conv => whnf)
      refine ⟨rfl, ?_⟩
      rintro i hi1
      (conv => whnf)
      refine ⟨_, _, _, h.cell 4 (i := 0) rfl rfl, ?_⟩
      (conv => whnf)
      refine brk_intro (fun c1 => ?_) (fun c1 => ?_)
      · have c1 : (i : Int) < (xs.length : Nat) := by simpa using c1
        obtain ⟨ri, hxi⟩ : ∃ x, xs[((i : Nat) : Int).toNat]? = some x := ⟨_, List.getElem?_eq_getElem (by omega)⟩
        have hxi' : xs[i]? = some ri := by rwa [show ((i : Nat) : Int).toNat = i by omega] at hxi
        obtain ⟨q4, hq4, k0, k1, k2⟩ := t3_ld hXM hxi
        have hk := key3_cell k0 k1 k2
        have step3 : IntKind.i64.wrap ((i : Int) + 1) = ((i + 1 : Nat) : Int) := wrap_id (by omega) (by omega)
        have hdi := dcount_le xs i
        (conv => whnf)
        refine loop_keep [1, 2, 4, 7, 13, 14] Nat (fun k => [(16, .v (.int .i64 ((k : Nat) : Int))), (15, .v (.bool (fresh xs i k)))]) (fun _ => []) (fun _ => M) (fun k => k ≤ i) (fun k => i - k) 0 ⟨rfl, rfl, trivial⟩ rfl rfl (by omega) ?_
        (conv => whnf)
        refine ⟨rfl, ?_⟩
        rintro k hk1
        (conv => whnf)
        refine brk_intro (fun c2 => ?_) (fun c2 => ?_)
        · have c2 : (k : Int) < (i : Nat) := by simpa using c2
          obtain ⟨rk, hxk⟩ : ∃ x, xs[((k : Nat) : Int).toNat]? = some x := ⟨_, List.getElem?_eq_getElem (by omega)⟩
          have hxk' : xs[k]? = some rk := by rwa [show ((k : Nat) : Int).toNat = k by omega] at hxk
          obtain ⟨q5, hq5, l0, l1, l2⟩ := t3_ld hXM hxk
          have hl := key3_cell l0 l1 l2
          have step4 : IntKind.i64.wrap ((k : Int) + 1) = ((k + 1 : Nat) : Int) := wrap_id (by omega) (by omega)
          have hfs := fresh_succ xs i k
          rw [hxk', hxi'] at hfs
          (conv => whnf)
          cases hfr : fresh xs i k with
          | false =>
            rw [hfr] at hfs
            (conv => whnf)
            exact ⟨k + 1, le_eq ⟨by show some (AV.v (.int .i64 (IntKind.i64.wrap ((k : Int) + 1)))) = _; rw [step4], by show _ = some (AV.v (.bool (fresh xs i (k + 1)))); rw [hfs]; rfl, rfl, rfl, rfl, rfl, rfl, rfl, trivial⟩ rfl rfl rfl, by omega, by omega⟩
          | true =>
            rw [hfr] at hfs
            (conv => whnf)
            refine ⟨_, _, _, h.cell 4 (i := 0) rfl rfl, ?_⟩
            (conv => whnf)
            refine ⟨_, hq5, by omega, by omega, ?_⟩
            (conv => whnf)
            refine ⟨key3 rk, rfl, hl, ?_⟩
            (conv => whnf)
            refine ⟨_, _, _, h.cell 4 (i := 0) rfl rfl, ?_⟩
            (conv => whnf)
            refine ⟨_, hq4, by omega, by omega, ?_⟩
            (conv => whnf)
            refine ⟨key3 ri, rfl, hk, ?_⟩
            (conv => whnf)
            refine ⟨rfl, rfl, ?_⟩
            (conv => whnf)
            have hfs2 : fresh xs i (k + 1) = !(key3 rk == key3 ri) := by
              rw [hfs, key3_beq]
              by_cases he : rk = ri
              · subst he; simp
              · simp [he]
            exact ⟨k + 1, le_eq ⟨by show some (AV.v (.int .i64 (IntKind.i64.wrap ((k : Int) + 1)))) = _; rw [step4], by show _ = some (AV.v (.bool (fresh xs i (k + 1)))); rw [hfs2]; rfl, rfl, rfl, rfl, rfl, rfl, rfl, trivial⟩ rfl rfl rfl, by omega, by omega⟩
        · have c2 : ¬ (k : Int) < (i : Nat) := by simpa using c2
          have hki : k = i := by omega
          subst hki
          have hdc : dcount xs (k + 1) = dcount xs k + if fresh xs k k then 1 else 0 := rfl
          (conv => whnf)
          cases hfr : fresh xs k k with
          | false =>
            rw [hfr] at hdc
            (conv => whnf)
            exact ⟨k + 1, le_eq ⟨by show some (AV.v (.int .i64 (IntKind.i64.wrap ((k : Int) + 1)))) = _; rw [step3], by show _ = some (AV.v (.int .i64 ((dcount xs (k + 1) : Nat) : Int))); rw [hdc]; rfl, rfl, rfl, rfl, rfl, trivial⟩ rfl rfl rfl, by omega, by omega⟩
          | true =>
            rw [hfr] at hdc
            (conv => whnf)
            exact ⟨k + 1, le_eq ⟨by show some (AV.v (.int .i64 (IntKind.i64.wrap ((k : Int) + 1)))) = _; rw [step3], by show some (AV.v (.int .i64 (IntKind.i64.wrap ((dcount xs k : Nat) + 1)))) = some (AV.v (.int .i64 ((dcount xs (k + 1) : Nat) : Int))); rw [hdc, wrap_id (by omega) (by omega)]; rfl, rfl, rfl, rfl, rfl, trivial⟩ rfl rfl rfl, by omega, by omega⟩
      · have c1 : ¬ (i : Int) < (xs.length : Nat) := by simpa using c1
        have hi : i = xs.length := by omega
        subst hi
        (conv => whnf)
        refine ⟨_, h.cell 2 (i := 0) rfl rfl, ?_⟩
        (conv => whnf)
        refine brk_true (by rw [hel, hLn]; simp) ?_
        (conv => whnf)
        refine FCalls.mono (len_m hTM) ?_
        rintro v m12 ⟨rfl, rfl⟩
        (conv => whnf)
        refine ⟨h.room 3 (i := 0) rfl rfl, fun m13 he => ?_⟩
        replace h := h.put' 3 he rfl
        have e : ((((a.n : Nat) : Int)) == ((dcount xs xs.length : Nat) : Int)) = true := by rw [hLn]; exact beq_self_eq_true _
        rw [e] at h
        (conv => whnf)
        refine ⟨_, h.cell 3 (i := 0) rfl rfl, ?_⟩
        (conv => whnf)
        refine ⟨m, ?_, rfl, rfl⟩
        obtain ⟨m1, h1, h3⟩ := h.get 0 rfl
        exact Mem.le_trans hmk (Mem.le_trans (fun b o hb => h3.keep b o hb (by simp)) h1)
end Go.Proofs.Ytoifiplefjclbaa
