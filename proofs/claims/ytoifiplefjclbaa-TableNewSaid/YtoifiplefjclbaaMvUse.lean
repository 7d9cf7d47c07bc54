/- Mv: for the one who proves: loops, memory by blocks, small laws of numbers. -/
import Derived.Test.YtoifiplefjclbaaMvFun
import Derived.Laws.Bits64b
namespace Go.Mv
open Go

theorem brk_true {b : Bool} {A B : Prop} (h : b = true) (k : A) : brk b A B := by subst h; exact k
theorem brk_false {b : Bool} {A B : Prop} (h : b = false) (k : B) : brk b A B := by subst h; exact k
/-! ### loops -/
def lkB : Env → Nat → Option AV
  | [], _ => none
  | (i, x) :: e, t => bif Nat.beq i t then some x else lkB e t
theorem lkB_eq : ∀ (E : Env) (t : Nat), lkB E t = lk E t
  | [], _ => rfl
  | (i, x) :: e, t => by
    simp only [lkB, lk, lkB_eq e t]
    by_cases h : i = t
    · simp [h]
    · have : Nat.beq i t = false := by
        cases hb : Nat.beq i t with
        | true => exact absurd (Nat.eq_of_beq_eq_true hb) h
        | false => rfl
      simp [h, this]
def leAll (E : Env) : Env → Prop
  | [] => True
  | (i, x) :: r => lkB E i = some x ∧ leAll E r
def locsB (n : Nat) : Env → Bool
  | [] => true
  | (_, x) :: r => match x with
    | .loc j _ => Nat.blt j n && locsB n r
    | _ => locsB n r
theorem locsB_spec {n : Nat} : ∀ {F : Env}, locsB n F = true → ∀ i x, lk F i = some x → match x with | .loc j _ => j < n | _ => True
  | [], _, _, _, h => by simp [lk] at h
  | (j, y) :: r, hl, i, x, h => by
    simp only [lk] at h
    by_cases hji : j = i
    · rw [if_pos hji] at h
      cases h
      cases y <;> first | trivial | (simp only [locsB, Bool.and_eq_true] at hl; exact blt_spec hl.1)
    · rw [if_neg hji] at h
      refine locsB_spec ?_ i x h
      cases y <;> first | exact hl | (simp only [locsB, Bool.and_eq_true] at hl; exact hl.2)
theorem leAll_spec {E : Env} : ∀ {F : Env}, leAll E F → ∀ i x, lk F i = some x → lk E i = some x
  | [], _, _, _, h => by simp [lk] at h
  | (j, y) :: r, hl, i, x, h => by
    simp only [lk] at h
    by_cases hji : j = i
    · rw [if_pos hji] at h
      cases h
      subst hji
      rw [← lkB_eq]
      exact hl.1
    · rw [if_neg hji] at h
      exact leAll_spec hl.2 i x h
theorem le_of {E F : Env} {ls : List LC} {m : Mem} (h : leAll E F) (hl : locsB ls.length F = true) : St.le ⟨E, ls, m⟩ ⟨F, ls, m⟩ :=
  ⟨fun i x hx => leAll_spec h i x hx, ⟨[], by simp⟩, fun _ _ h => h, fun i x hx => locsB_spec hl i x hx⟩
theorem le_of_more {E F : Env} {ls l : List LC} {m m' : Mem} (h : leAll E F) (hl : locsB ls.length F = true) (hm : ∀ b o, m' b = some o → m b = some o) : St.le ⟨E, ls ++ l, m⟩ ⟨F, ls, m'⟩ :=
  ⟨fun i x hx => leAll_spec h i x hx, ⟨l, rfl⟩, hm, fun i x hx => locsB_spec hl i x hx⟩
theorem lkK_lkB {k : AV → Prop} : ∀ {E : Env} {i : Nat}, lkK E i k → ∃ x, lkB E i = some x ∧ k x
  | [], _, h => h.elim
  | (j, y) :: r, i, h => by
    simp only [lkK] at h
    simp only [lkB]
    cases hb : Nat.beq j i with
    | true => rw [hb] at h; exact ⟨y, rfl, h⟩
    | false => rw [hb] at h; exact lkK_lkB (E := r) h
/-- The slots that a loop keeps. -/
def keepK (E : Env) : List Nat → Env → (Env → Prop) → Prop
  | [], F, k => k F
  | i :: r, F, k => lkK E i fun x => keepK E r ((i, x) :: F) k
theorem keepK_spec {E : Env} : ∀ {l : List Nat} {F : Env} {k : Env → Prop}, leAll E F → keepK E l F k → ∃ F', leAll E F' ∧ k F'
  | [], F, _, hF, h => ⟨F, hF, h⟩
  | i :: r, F, k, hF, h => by
    obtain ⟨x, hx, h1⟩ := lkK_lkB h
    exact keepK_spec (l := r) (F := (i, x) :: F) ⟨hx, hF⟩ h1
/-- A loop: ov: the slots that it changes, by the state; keep: those that it only reads. -/
theorem loop_keep {f : (Exit → St → Prop) → St → Prop} {K : Exit → St → Prop} {E : Env} {ls : List LC} {m : Mem} (keep : List Nat) (σ : Type) (ov : σ → Env) (lsf : σ → List LC) (mm : σ → Mem) (J : σ → Prop) (μ : σ → Nat) (s0 : σ)
    (h0 : leAll E (ov s0)) (hls : ls = lsf s0) (hm : m = mm s0) (hJ : J s0)
    (step : keepK E keep [] fun F => locsB ls.length (ov s0 ++ F) = true ∧ ∀ s, J s → f (fun e S'' => match e with | .normal => ∃ s1, S''.le ⟨ov s1 ++ F, lsf s1, mm s1⟩ ∧ J s1 ∧ μ s1 < μ s | e => K e S'') ⟨ov s ++ F, lsf s, mm s⟩) : LoopP f K ⟨E, ls, m⟩ := by
  obtain ⟨F, hF, hl, step⟩ := keepK_spec (F := []) trivial step
  unfold LoopP
  refine ⟨σ, fun s => ⟨ov s ++ F, lsf s, mm s⟩, J, μ, ⟨s0, ?_, hJ⟩, step⟩
  subst hls hm
  refine le_of ?_ hl
  generalize ov s0 = G at h0
  clear hl step
  induction G with
  | nil => exact hF
  | cons a r ih =>
    obtain ⟨i, x⟩ := a
    exact ⟨h0.1, ih h0.2⟩

/-- Ways that meet: ov: the slots that they change and that are looked at behind; keep: those that stay. -/
theorem join_keep {X Y : (Exit → St → Prop) → St → Prop} {K : Exit → St → Prop} {E : Env} {ls : List LC} {m : Mem} (keep : List Nat) (σ : Type) (ov : σ → Env) (mm : σ → Mem) (J : σ → Prop)
    (h : keepK E keep [] fun F => X (fun e S' => match e with | .normal => ∃ s, S'.le ⟨ov s ++ F, ls, mm s⟩ ∧ J s | e => K e S') ⟨E, ls, m⟩ ∧ ∀ s, J s → Y K ⟨ov s ++ F, ls, mm s⟩) : JoinP X Y K ⟨E, ls, m⟩ := by
  obtain ⟨F, hF, hx, hy⟩ := keepK_spec (F := []) trivial h
  unfold JoinP
  refine ⟨fun S1 => ∃ s, S1 = ⟨ov s ++ F, ls, mm s⟩ ∧ J s, ?_, ?_⟩
  · refine cast (congrArg (fun q => X q _) (funext fun e => funext fun S' => ?_)) hx
    cases e with
    | normal =>
      refine propext ⟨?_, ?_⟩
      · rintro ⟨s, h1, h2⟩
        exact ⟨_, h1, s, rfl, h2⟩
      · rintro ⟨S1, h1, s, rfl, h2⟩
        exact ⟨s, h1, h2⟩
    | _ => rfl
  · rintro S1 ⟨s, rfl, hs⟩
    exact hy s hs

/-! ### addresses, blocks -/
theorem add_mk (b i n : Nat) : (⟨b, i, none⟩ : Addr).add n = ⟨b, i + n, none⟩ := by
  unfold Addr.add
  split
  · subst_vars; rfl
  · rfl
/-- Block b holds l. -/
def Blk (m : Mem) (b : Nat) (l : List Value) : Prop := ∃ e, m b = some (.cells l.toArray e (0, 0))
theorem Blk.cell {m : Mem} {b i : Nat} {l : List Value} {v : Value} (h : Blk m b l) (hi : l[i]? = some v) : m.cell ⟨b, i, none⟩ = some v := by
  obtain ⟨e, h⟩ := h
  simp [Mem.cell, h, hi]
theorem Blk.fz {m : Mem} {b i : Nat} {l : List Value} (h : Blk m b l) : m.fz ⟨b, i, none⟩ = false := by
  obtain ⟨e, h⟩ := h
  simp [Mem.fz, h]
theorem Blk.put {m : Mem} {b i : Nat} {l : List Value} (v : Value) (h : Blk m b l) : Blk (m.setCell ⟨b, i, none⟩ v) b (l.set i v) := by
  obtain ⟨e, h⟩ := h
  exact ⟨e, by simp [Mem.setCell, h]⟩
theorem Mem.setCell_ne {m : Mem} {b c i : Nat} {v : Value} (h : b ≠ c) : (m.setCell ⟨c, i, none⟩ v) b = m b := by
  simp [Mem.setCell, h]
theorem Blk.setCell_ne {m : Mem} {b c i : Nat} {v : Value} {l : List Value} (h : Blk m b l) (hn : b ≠ c) : Blk (m.setCell ⟨c, i, none⟩ v) b l := by
  obtain ⟨e, h⟩ := h
  exact ⟨e, by rw [Mem.setCell_ne hn, h]⟩
theorem Mem.set_ne {m : Mem} {b c : Nat} {o : Obj} (h : b ≠ c) : (m.set c o) b = m b := by simp [Mem.set, h]
theorem Blk.set {m : Mem} {b c : Nat} {o : Obj} {l : List Value} (h : Blk m b l) (hc : m c = none) : Blk (m.set c o) b l := by
  obtain ⟨e, h⟩ := h
  refine ⟨e, ?_⟩
  rw [Mem.set_ne, h]
  rintro rfl
  rw [h] at hc
  cases hc
theorem Blk.new {m : Mem} {b e : Nat} {l : List Value} : Blk (m.set b (.cells l.toArray e (0, 0))) b l := ⟨e, by simp [Mem.set]⟩
theorem Blk.ne {m : Mem} {b c : Nat} {l : List Value} (h : Blk m b l) (hc : m c = none) : b ≠ c := by
  obtain ⟨e, h⟩ := h
  rintro rfl
  rw [h] at hc
  cases hc
theorem Blk.room {m : Mem} {b i n : Nat} {l : List Value} (h : Blk m b l) (hn : i + n ≤ l.length) : m.room ⟨b, i, none⟩ n := by
  intro k hk
  rw [add_mk]
  refine ⟨⟨l[i + k]'(by omega), h.cell ?_⟩, h.fz⟩
  rw [List.getElem?_eq_getElem]
theorem Blk.puts {b i : Nat} : ∀ (vs : List Value) {m : Mem} {l : List Value} {j : Nat}, Blk m b l → Blk (m.setCells ⟨b, i, none⟩ j vs) b (writeAt l (i + j) vs)
  | [], _, _, _, h => h
  | v :: r, m, l, j, h => by
    simp only [Mem.setCells, writeAt, add_mk]
    exact Blk.puts r (Blk.put v h)
theorem Mem.setCells_ne {b c i : Nat} (hn : b ≠ c) : ∀ (vs : List Value) {m : Mem} {j : Nat}, (m.setCells ⟨c, i, none⟩ j vs) b = m b
  | [], _, _ => rfl
  | v :: r, m, j => by
    simp only [Mem.setCells, add_mk]
    rw [Mem.setCells_ne hn r, Mem.setCell_ne hn]
theorem Blk.setCells_ne {m : Mem} {b c i j : Nat} {l vs : List Value} (h : Blk m b l) (hn : b ≠ c) : Blk (m.setCells ⟨c, i, none⟩ j vs) b l := by
  obtain ⟨e, h⟩ := h
  exact ⟨e, by rw [Mem.setCells_ne hn, h]⟩
theorem Blk.holds {m : Mem} {b i : Nat} {l vs : List Value} (h : Blk m b l) (hv : ∀ k v, vs[k]? = some v → l[i + k]? = some v) : m.holds ⟨b, i, none⟩ vs := by
  intro k v hk
  rw [add_mk]
  exact h.cell (hv k v hk)

/-! ### what is loaded -/
theorem ld1 {m : Mem} {a a' : Addr} {kd : IntKind} {x : Int} {k : Value → Prop} (h : m.cell a' = some (.int kd x)) (ha : a = a') (hk : k (.int kd x)) : ∃ x, m.cell a = some (.int kd x) ∧ k (.int kd x) := ⟨x, by rw [ha, h], hk⟩

/-! ### numbers -/
theorem wrap_id {x : Int} (h1 : -9223372036854775808 ≤ x) (h2 : x ≤ 9223372036854775807) : IntKind.i64.wrap x = x := by
  rw [IntKind.wrap_i64]
  omega
theorem and_mask {k : Nat} (hk : k < 63) (a : Int) : bits .and .i64 a (2 ^ k - 1) = a % 2 ^ k := by
  show IntKind.i64.wrap ((BitVec.ofInt 64 a &&& BitVec.ofInt 64 (2 ^ k - 1)).toNat : Int) = _
  have hp : (2 : Int) ^ k = ((2 ^ k : Nat) : Int) := by simp
  have h2k : 2 ^ k < 2 ^ 63 := Nat.pow_lt_pow_right (by omega) hk
  have h0 : 0 < 2 ^ k := Nat.two_pow_pos k
  have h1 : (BitVec.ofInt 64 (2 ^ k - 1)).toNat = 2 ^ k - 1 := by
    rw [hp, BitVec.toNat_ofInt]
    generalize 2 ^ k = y at *
    omega
  rw [BitVec.toNat_and, h1, Nat.and_two_pow_sub_one_eq_mod, BitVec.toNat_ofInt]
  have h4 : (((a % ((2 ^ 64 : Nat) : Int)).toNat % 2 ^ k : Nat) : Int) = a % 2 ^ k := by
    have h3 : ((a % ((2 ^ 64 : Nat) : Int)).toNat : Int) = a % 2 ^ 64 := by omega
    rw [Int.natCast_emod, h3, hp, Int.emod_emod_of_dvd]
    exact ⟨((2 ^ (64 - k) : Nat) : Int), by rw [← Int.natCast_mul, ← Nat.pow_add, show k + (64 - k) = 64 by omega]; rfl⟩
  have h5 : 0 ≤ a % 2 ^ k := Int.emod_nonneg _ (by rw [hp]; omega)
  have h6 : a % 2 ^ k < 2 ^ k := Int.emod_lt_of_pos _ (by rw [hp]; omega)
  rw [h4]
  refine wrap_id (by omega) ?_
  rw [hp] at h6
  generalize 2 ^ k = y at *
  omega
end Go.Mv
