/- Mv: for the one who proves: loops, memory by blocks, small laws of numbers. -/
import Derived.Test.YtoifiplefjclbaaMvFun
import Derived.Laws.Bits64b
namespace Go.Mv
open Go

theorem brk_true {b : Bool} {A B : Prop} (h : b = true) (k : A) : brk b A B := by subst h; exact k
theorem brk_false {b : Bool} {A B : Prop} (h : b = false) (k : B) : brk b A B := by subst h; exact k
/-! ### loops -/
def lkB : Env → Nat → Option AV
  | [], _ => none
  | (i, x) :: e, t => bif Nat.beq i t then some x else lkB e t
theorem lkB_eq : ∀ (E : Env) (t : Nat), lkB E t = lk E t
  | [], _ => rfl
  | (i, x) :: e, t => by
    simp only [lkB, lk, lkB_eq e t]
    by_cases h : i = t
    · simp [h]
    · have : Nat.beq i t = false := by
        cases hb : Nat.beq i t with
        | true => exact absurd (Nat.eq_of_beq_eq_true hb) h
        | false => rfl
      simp [h, this]
def leAll (E : Env) : Env → Prop
  | [] => True
  | (i, x) :: r => lkB E i = some x ∧ leAll E r
def locsB (n : Nat) : Env → Bool
  | [] => true
  | (_, x) :: r => match x with
    | .loc j _ => Nat.blt j n && locsB n r
    | _ => locsB n r
theorem locsB_spec {n : Nat} : ∀ {F : Env}, locsB n F = true → ∀ i x, lk F i = some x → match x with | .loc j _ => j < n | _ => True
  | [], _, _, _, h => by simp [lk] at h
  | (j, y) :: r, hl, i, x, h => by
    simp only [lk] at h
    by_cases hji : j = i
    · rw [if_pos hji] at h
      cases h
      cases y <;> first | trivial | (simp only [locsB, Bool.and_eq_true] at hl; exact blt_spec hl.1)
    · rw [if_neg hji] at h
      refine locsB_spec ?_ i x h
      cases y <;> first | exact hl | (simp only [locsB, Bool.and_eq_true] at hl; exact hl.2)
theorem leAll_spec {E : Env} : ∀ {F : Env}, leAll E F → ∀ i x, lk F i = some x → lk E i = some x
  | [], _, _, _, h => by simp [lk] at h
  | (j, y) :: r, hl, i, x, h => by
    simp only [lk] at h
    by_cases hji : j = i
    · rw [if_pos hji] at h
      cases h
      subst hji
      rw [← lkB_eq]
      exact hl.1
    · rw [if_neg hji] at h
      exact leAll_spec hl.2 i x h
theorem le_of {E F : Env} {ls : List LC} {m : Mem} (h : leAll E F) (hl : locsB ls.length F = true) : St.le ⟨E, ls, m⟩ ⟨F, ls, m⟩ :=
  ⟨fun i x hx => leAll_spec h i x hx, ⟨[], by simp⟩, fun _ _ h => h, fun i x hx => locsB_spec hl i x hx⟩
theorem le_eq {E F : Env} {ls ls' : List LC} {m m' : Mem} (h : leAll E F) (hl : locsB ls'.length F = true) (hls : ls = ls') (hm : m = m') : St.le ⟨E, ls, m⟩ ⟨F, ls', m'⟩ := by
  subst hls hm
  exact le_of h hl
theorem le_more {E F : Env} {ls ls' l : List LC} {m m' : Mem} (h : leAll E F) (hl : locsB ls'.length F = true) (hls : ls = ls' ++ l) (hm : m = m') : St.le ⟨E, ls, m⟩ ⟨F, ls', m'⟩ := by
  subst hls hm
  exact ⟨fun i x hx => leAll_spec h i x hx, ⟨l, rfl⟩, fun _ _ h => h, fun i x hx => locsB_spec hl i x hx⟩
theorem le_of_more {E F : Env} {ls l : List LC} {m m' : Mem} (h : leAll E F) (hl : locsB ls.length F = true) (hm : ∀ b o, m' b = some o → m b = some o) : St.le ⟨E, ls ++ l, m⟩ ⟨F, ls, m'⟩ :=
  ⟨fun i x hx => leAll_spec h i x hx, ⟨l, rfl⟩, hm, fun i x hx => locsB_spec hl i x hx⟩
theorem lkK_lkB {k : AV → Prop} : ∀ {E : Env} {i : Nat}, lkK E i k → ∃ x, lkB E i = some x ∧ k x
  | [], _, h => h.elim
  | (j, y) :: r, i, h => by
    simp only [lkK] at h
    simp only [lkB]
    cases hb : Nat.beq j i with
    | true => rw [hb] at h; exact ⟨y, rfl, h⟩
    | false => rw [hb] at h; exact lkK_lkB (E := r) h
/-- The slots that a loop keeps. -/
def keepK (E : Env) : List Nat → Env → (Env → Prop) → Prop
  | [], F, k => k F
  | i :: r, F, k => lkK E i fun x => keepK E r ((i, x) :: F) k
theorem keepK_spec {E : Env} : ∀ {l : List Nat} {F : Env} {k : Env → Prop}, leAll E F → keepK E l F k → ∃ F', leAll E F' ∧ k F'
  | [], F, _, hF, h => ⟨F, hF, h⟩
  | i :: r, F, k, hF, h => by
    obtain ⟨x, hx, h1⟩ := lkK_lkB h
    exact keepK_spec (l := r) (F := (i, x) :: F) ⟨hx, hF⟩ h1
/-- A loop: ov: the slots that it changes, by the state; keep: those that it only reads. -/
theorem loop_keep {f : (Exit → St → Prop) → St → Prop} {K : Exit → St → Prop} {E : Env} {ls : List LC} {m : Mem} (keep : List Nat) (σ : Type) (ov : σ → Env) (lsf : σ → List LC) (mm : σ → Mem) (J : σ → Prop) (μ : σ → Nat) (s0 : σ)
    (h0 : leAll E (ov s0)) (hls : ls = lsf s0) (hm : m = mm s0) (hJ : J s0)
    (step : keepK E keep [] fun F => locsB ls.length (ov s0 ++ F) = true ∧ ∀ s, J s → f (fun e S'' => match e with | .normal => ∃ s1, S''.le ⟨ov s1 ++ F, lsf s1, mm s1⟩ ∧ J s1 ∧ μ s1 < μ s | e => K e S'') ⟨ov s ++ F, lsf s, mm s⟩) : LoopP f K ⟨E, ls, m⟩ := by
  obtain ⟨F, hF, hl, step⟩ := keepK_spec (F := []) trivial step
  unfold LoopP
  refine ⟨σ, fun s => ⟨ov s ++ F, lsf s, mm s⟩, J, μ, ⟨s0, ?_, hJ⟩, step⟩
  subst hls hm
  refine le_of ?_ hl
  generalize ov s0 = G at h0
  clear hl step
  induction G with
  | nil => exact hF
  | cons a r ih =>
    obtain ⟨i, x⟩ := a
    exact ⟨h0.1, ih h0.2⟩

/-- Ways that meet: ov: the slots that they change and that are looked at behind; keep: those that stay. -/
theorem join_keep {X Y : (Exit → St → Prop) → St → Prop} {K : Exit → St → Prop} {E : Env} {ls : List LC} {m : Mem} (keep : List Nat) (σ : Type) (ov : σ → Env) (mm : σ → Mem) (J : σ → Prop)
    (h : keepK E keep [] fun F => X (fun e S' => match e with | .normal => ∃ s, S'.le ⟨ov s ++ F, ls, mm s⟩ ∧ J s | e => K e S') ⟨E, ls, m⟩ ∧ ∀ s, J s → Y K ⟨ov s ++ F, ls, mm s⟩) : JoinP X Y K ⟨E, ls, m⟩ := by
  obtain ⟨F, hF, hx, hy⟩ := keepK_spec (F := []) trivial h
  unfold JoinP
  refine ⟨fun S1 => ∃ s, S1 = ⟨ov s ++ F, ls, mm s⟩ ∧ J s, ?_, ?_⟩
  · refine cast (congrArg (fun q => X q _) (funext fun e => funext fun S' => ?_)) hx
    cases e with
    | normal =>
      refine propext ⟨?_, ?_⟩
      · rintro ⟨s, h1, h2⟩
        exact ⟨_, h1, s, rfl, h2⟩
      · rintro ⟨S1, h1, s, rfl, h2⟩
        exact ⟨s, h1, h2⟩
    | _ => rfl
  · rintro S1 ⟨s, rfl, hs⟩
    exact hy s hs

/-! ### addresses, blocks -/
theorem add_mk (b i n : Nat) : (⟨b, i, none⟩ : Addr).add n = ⟨b, i + n, none⟩ := by
  unfold Addr.add
  split
  · subst_vars; rfl
  · rfl
/-- Block b holds l. -/
def Blk (m : Mem) (b : Nat) (l : List Value) : Prop := ∃ e, m b = some (.cells l.toArray e (0, 0))
theorem Blk.cell {m : Mem} {b i : Nat} {l : List Value} {v : Value} (h : Blk m b l) (hi : l[i]? = some v) : m.cell ⟨b, i, none⟩ = some v := by
  obtain ⟨e, h⟩ := h
  simp [Mem.cell, h, hi]
theorem Blk.fz {m : Mem} {b i : Nat} {l : List Value} (h : Blk m b l) : m.fz ⟨b, i, none⟩ = false := by
  obtain ⟨e, h⟩ := h
  simp [Mem.fz, h]
theorem Blk.put {m : Mem} {b i : Nat} {l : List Value} (v : Value) (h : Blk m b l) : Blk (m.setCell ⟨b, i, none⟩ v) b (l.set i v) := by
  obtain ⟨e, h⟩ := h
  exact ⟨e, by simp [Mem.setCell, h]⟩
theorem Mem.setCell_ne {m : Mem} {b c i : Nat} {v : Value} (h : b ≠ c) : (m.setCell ⟨c, i, none⟩ v) b = m b := by
  simp [Mem.setCell, h]
theorem Blk.setCell_ne {m : Mem} {b c i : Nat} {v : Value} {l : List Value} (h : Blk m b l) (hn : b ≠ c) : Blk (m.setCell ⟨c, i, none⟩ v) b l := by
  obtain ⟨e, h⟩ := h
  exact ⟨e, by rw [Mem.setCell_ne hn, h]⟩
theorem Mem.set_ne {m : Mem} {b c : Nat} {o : Obj} (h : b ≠ c) : (m.set c o) b = m b := by simp [Mem.set, h]
theorem Blk.set {m : Mem} {b c : Nat} {o : Obj} {l : List Value} (h : Blk m b l) (hc : m c = none) : Blk (m.set c o) b l := by
  obtain ⟨e, h⟩ := h
  refine ⟨e, ?_⟩
  rw [Mem.set_ne, h]
  rintro rfl
  rw [h] at hc
  cases hc
theorem Blk.new {m : Mem} {b e : Nat} {l : List Value} : Blk (m.set b (.cells l.toArray e (0, 0))) b l := ⟨e, by simp [Mem.set]⟩
theorem Blk.ne {m : Mem} {b c : Nat} {l : List Value} (h : Blk m b l) (hc : m c = none) : b ≠ c := by
  obtain ⟨e, h⟩ := h
  rintro rfl
  rw [h] at hc
  cases hc
theorem Blk.room {m : Mem} {b i n : Nat} {l : List Value} (h : Blk m b l) (hn : i + n ≤ l.length) : m.room ⟨b, i, none⟩ n := by
  intro k hk
  rw [add_mk]
  refine ⟨⟨l[i + k]'(by omega), h.cell ?_⟩, h.fz⟩
  rw [List.getElem?_eq_getElem]
theorem Blk.puts {b i : Nat} : ∀ (vs : List Value) {m : Mem} {l : List Value} {j : Nat}, Blk m b l → Blk (m.setCells ⟨b, i, none⟩ j vs) b (writeAt l (i + j) vs)
  | [], _, _, _, h => h
  | v :: r, m, l, j, h => by
    simp only [Mem.setCells, writeAt, add_mk]
    exact Blk.puts r (Blk.put v h)
theorem Mem.setCells_ne {b c i : Nat} (hn : b ≠ c) : ∀ (vs : List Value) {m : Mem} {j : Nat}, (m.setCells ⟨c, i, none⟩ j vs) b = m b
  | [], _, _ => rfl
  | v :: r, m, j => by
    simp only [Mem.setCells, add_mk]
    rw [Mem.setCells_ne hn r, Mem.setCell_ne hn]
theorem Blk.setCells_ne {m : Mem} {b c i j : Nat} {l vs : List Value} (h : Blk m b l) (hn : b ≠ c) : Blk (m.setCells ⟨c, i, none⟩ j vs) b l := by
  obtain ⟨e, h⟩ := h
  exact ⟨e, by rw [Mem.setCells_ne hn, h]⟩
theorem Blk.holds {m : Mem} {b i : Nat} {l vs : List Value} (h : Blk m b l) (hv : ∀ k v, vs[k]? = some v → l[i + k]? = some v) : m.holds ⟨b, i, none⟩ vs := by
  intro k v hk
  rw [add_mk]
  exact h.cell (hv k v hk)

/-! ### slices that grow -/
/-- A slice of n elements of sz cells each, that begins its block. -/
def Sl (m : Mem) (F : Nat → Prop) (A : Option Addr) (n c sz : Nat) (vs : List Value) : Prop :=
  vs.length = n * sz ∧ n ≤ c ∧ ((A = none ∧ c = 0) ∨ ∃ (b : Nat) (l : List Value) (e : Nat), A = some ⟨b, 0, none⟩ ∧ F b ∧ m b = some (.cells l.toArray e (0, 0)) ∧ l.length = c * sz ∧ ∀ (k : Nat) v, vs[k]? = some v → l[k]? = some v)
theorem Sl.nil {m : Mem} {F : Nat → Prop} {sz : Nat} : Sl m F none 0 0 sz [] := ⟨by simp, Nat.le_refl _, .inl ⟨rfl, rfl⟩⟩
theorem Sl.mono {m : Mem} {F F' : Nat → Prop} {A : Option Addr} {n c sz : Nat} {vs : List Value} (h : Sl m F A n c sz vs) (hf : ∀ b, F b → F' b) : Sl m F' A n c sz vs := by
  obtain ⟨h1, h2, h3⟩ := h
  refine ⟨h1, h2, h3.imp_right fun ⟨b, l, e, k1, k2, k3⟩ => ⟨b, l, e, k1, hf b k2, k3⟩⟩
theorem Sl.keep {m m' : Mem} {F : Nat → Prop} {A : Option Addr} {n c sz : Nat} {vs : List Value} (h : Sl m F A n c sz vs) (hm : ∀ b, F b → m b ≠ none → m' b = m b) : Sl m' F A n c sz vs := by
  obtain ⟨h1, h2, h3⟩ := h
  refine ⟨h1, h2, h3.imp_right fun ⟨b, l, e, k1, k2, k3, k4⟩ => ⟨b, l, e, k1, k2, by rw [hm b k2 (by rw [k3]; simp), k3], k4⟩⟩
theorem Sl.cell {m : Mem} {F : Nat → Prop} {A : Option Addr} {n c sz k : Nat} {vs : List Value} {v : Value} (h : Sl m F A n c sz vs) (hv : vs[k]? = some v) : ∃ b, A = some ⟨b, 0, none⟩ ∧ F b ∧ m.cell ⟨b, k, none⟩ = some v ∧ m.fz ⟨b, k, none⟩ = false := by
  obtain ⟨h1, h2, h3⟩ := h
  rcases h3 with ⟨rfl, rfl⟩ | ⟨b, l, e, rfl, k2, k3, k4, k5⟩
  · have := (List.getElem?_eq_some_iff.1 hv).1
    have h0 : n = 0 := by omega
    subst h0
    rw [Nat.zero_mul] at h1
    omega
  · exact ⟨b, rfl, k2, Blk.cell ⟨e, k3⟩ (k5 k v hv), Blk.fz ⟨e, k3⟩⟩
theorem Sl.olds {m : Mem} {F : Nat → Prop} {A : Option Addr} {n c sz : Nat} {vs : List Value} (h : Sl m F A n c sz vs) : (n * sz = 0 ∧ A = none) ∨ ∃ p, A = some p ∧ m.holds p vs := by
  obtain ⟨h1, h2, h3⟩ := h
  rcases h3 with ⟨rfl, rfl⟩ | ⟨b, l, e, rfl, k2, k3, k4, k5⟩
  · exact .inl ⟨by have : n = 0 := by omega
                   rw [this, Nat.zero_mul], rfl⟩
  · refine .inr ⟨_, rfl, Blk.holds ⟨e, k3⟩ fun k v hv => ?_⟩
    rw [Nat.zero_add]
    exact k5 k v hv
theorem writeAt_len : ∀ (vs : List Value) (l : List Value) (i : Nat), (writeAt l i vs).length = l.length
  | [], l, i => rfl
  | v :: r, l, i => by simp only [writeAt]; rw [writeAt_len r]; simp
theorem writeAt_get : ∀ (vs : List Value) (l : List Value) (i k : Nat), i + vs.length ≤ l.length → (writeAt l i vs)[k]? = if i ≤ k ∧ k < i + vs.length then vs[k - i]? else l[k]?
  | [], l, i, k, _ => by simp only [writeAt, List.length_nil]; rw [if_neg (by omega)]
  | v :: r, l, i, k, h => by
    simp only [writeAt, List.length_cons] at h ⊢
    rw [writeAt_get r (l.set i v) (i + 1) k (by simp; omega)]
    by_cases h1 : i + 1 ≤ k ∧ k < i + 1 + r.length
    · rw [if_pos h1, if_pos (by omega)]
      rw [show k - i = (k - (i + 1)) + 1 by omega]
      rfl
    · rw [if_neg h1]
      by_cases h2 : k = i
      · subst h2
        rw [if_pos (by omega), List.getElem?_set_self (by omega)]
        simp
      · rw [List.getElem?_set_ne (Ne.symm h2), if_neg (by omega)]
/-- There is room: what comes is laid behind. -/
theorem Sl.put {m : Mem} {F : Nat → Prop} {A : Option Addr} {n j c sz : Nat} {vs news : List Value} (h : Sl m F A n c sz vs) (hn : news.length = j * sz) (hle : n + j ≤ c) (hj : 0 < j) :
    ∃ b, A = some ⟨b, 0, none⟩ ∧ F b ∧ m.room ⟨b, n * sz, none⟩ (j * sz) ∧ Sl (m.setCells ⟨b, n * sz, none⟩ 0 news) F A (n + j) c sz (vs ++ news) ∧ ∀ k, k ≠ b → (m.setCells ⟨b, n * sz, none⟩ 0 news) k = m k := by
  obtain ⟨h1, h2, h3⟩ := h
  rcases h3 with ⟨rfl, rfl⟩ | ⟨b, l, e, rfl, k2, k3, k4, k5⟩
  · omega
  · have hc : (n + j) * sz ≤ c * sz := Nat.mul_le_mul_right _ hle
    rw [Nat.add_mul] at hc
    refine ⟨b, rfl, k2, Blk.room ⟨e, k3⟩ (by omega), ⟨by rw [List.length_append, h1, hn, Nat.add_mul], hle, .inr ?_⟩, fun k hk => Mem.setCells_ne hk _⟩
    have hB : Blk m b l := ⟨e, k3⟩
    obtain ⟨e', h4⟩ := Blk.puts (i := n * sz) (j := 0) news hB
    refine ⟨b, _, e', rfl, k2, h4, by rw [writeAt_len, k4], fun k v hv => ?_⟩
    rw [Nat.add_zero, writeAt_get _ _ _ _ (by omega)]
    rcases Nat.lt_or_ge k vs.length with hk | hk
    · rw [List.getElem?_append_left hk] at hv
      rw [if_neg (by omega)]
      exact k5 k v hv
    · rw [List.getElem?_append_right hk] at hv
      have := (List.getElem?_eq_some_iff.1 hv).1
      rw [if_pos (by omega), ← h1]
      exact hv
/-- There is none: a new block. -/
theorem Sl.grow {m : Mem} {F : Nat → Prop} {A : Option Addr} {n j c sz cap b e : Nat} {vs news zs : List Value} (h : Sl m F A n c sz vs) (hn : news.length = j * sz) (hle : n + j ≤ cap) (hb : F b) (hz : zs.length = (cap - (n + j)) * sz) :
    Sl (m.set b (.cells (vs ++ news ++ zs).toArray e (0, 0))) F (some ⟨b, 0, none⟩) (n + j) cap sz (vs ++ news) := by
  obtain ⟨h1, h2, h3⟩ := h
  refine ⟨by rw [List.length_append, h1, hn, Nat.add_mul], hle, .inr ⟨b, vs ++ news ++ zs, e, rfl, hb, by simp [Mem.set], ?_, fun k v hv => ?_⟩⟩
  · rw [List.length_append, List.length_append, h1, hn, hz, ← Nat.add_mul, ← Nat.add_mul]
    congr 1
    omega
  · rw [List.getElem?_append_left (List.getElem?_eq_some_iff.1 hv).1]
    exact hv

/-- One cell of it is written over. -/
theorem Sl.over {m : Mem} {F : Nat → Prop} {A : Option Addr} {n c sz k : Nat} {vs : List Value} (v : Value) (h : Sl m F A n c sz vs) (hk : k < vs.length) :
    ∃ b, A = some ⟨b, 0, none⟩ ∧ F b ∧ (∃ u, m.cell ⟨b, k, none⟩ = some u) ∧ m.fz ⟨b, k, none⟩ = false ∧ Sl (m.setCell ⟨b, k, none⟩ v) F A n c sz (vs.set k v) ∧ ∀ i, i ≠ b → (m.setCell ⟨b, k, none⟩ v) i = m i := by
  obtain ⟨b0, hA, hF, hc, hz⟩ := h.cell (List.getElem?_eq_getElem hk)
  obtain ⟨h1, h2, h3⟩ := h
  rcases h3 with ⟨rfl, rfl⟩ | ⟨b, l, e, rfl, k2, k3, k4, k5⟩
  · cases hA
  · cases hA
    refine ⟨b0, rfl, k2, ⟨_, hc⟩, hz, ⟨by rw [List.length_set, h1], h2, .inr ⟨b0, l.set k v, e, rfl, k2, ?_, by rw [List.length_set, k4], fun i u hu => ?_⟩⟩, fun i hi => Mem.setCell_ne hi⟩
    · simp [Mem.setCell, k3]
    · by_cases hi : k = i
      · subst hi
        rw [List.getElem?_set_self hk] at hu
        have hkl : k < l.length := (List.getElem?_eq_some_iff.1 (k5 k _ (List.getElem?_eq_getElem hk))).1
        rw [List.getElem?_set_self hkl]
        exact hu
      · rw [List.getElem?_set_ne hi] at hu ⊢
        exact k5 i u hu

/-- Some cells of it are written over. -/
theorem Sl.overs {m : Mem} {F : Nat → Prop} {A : Option Addr} {n c sz k : Nat} {vs : List Value} (cs : List Value) (h : Sl m F A n c sz vs) (hk : k + cs.length ≤ vs.length) (h0 : 0 < cs.length) :
    ∃ b, A = some ⟨b, 0, none⟩ ∧ F b ∧ m.room ⟨b, k, none⟩ cs.length ∧ Sl (m.setCells ⟨b, k, none⟩ 0 cs) F A n c sz (writeAt vs k cs) ∧ ∀ i, i ≠ b → (m.setCells ⟨b, k, none⟩ 0 cs) i = m i := by
  obtain ⟨b0, hA, hF, _, _⟩ := h.cell (List.getElem?_eq_getElem (show k < vs.length by omega))
  obtain ⟨h1, h2, h3⟩ := h
  rcases h3 with ⟨rfl, rfl⟩ | ⟨b, l, e, rfl, k2, k3, k4, k5⟩
  · cases hA
  · cases hA
    have hlen : vs.length ≤ l.length := by
      have := Nat.mul_le_mul_right sz h2
      omega
    have hB : Blk m b0 l := ⟨e, k3⟩
    obtain ⟨e', h4⟩ := Blk.puts (i := k) (j := 0) cs hB
    refine ⟨b0, rfl, k2, Blk.room hB (by omega), ⟨by rw [writeAt_len, h1], h2, .inr ⟨b0, _, e', rfl, k2, h4, by rw [writeAt_len, k4], fun i u hu => ?_⟩⟩, fun i hi => Mem.setCells_ne hi _⟩
    rw [Nat.add_zero, writeAt_get _ _ _ _ (by omega)]
    rw [writeAt_get _ _ _ _ hk] at hu
    split
    · rename_i hc; rw [if_pos hc] at hu; exact hu
    · rename_i hc; rw [if_neg hc] at hu; exact k5 i u hu

/-! ### blocks of one's own -/
/-- m tells all that m0 tells, and blocks that m0 does not tell, each with its cells. -/
structure Own (m0 m : Mem) (L : List (Nat × List Value)) : Prop where
  blk : ∀ p, p ∈ L → Blk m p.1 p.2
  fresh : ∀ p, p ∈ L → m0 p.1 = none
  nodup : (L.map Prod.fst).Nodup
  old : ∀ k o, m0 k = some o → m k = some o
theorem Own.nil {m : Mem} : Own m m [] :=
  ⟨fun _ h => absurd h List.not_mem_nil, fun _ h => absurd h List.not_mem_nil, List.nodup_nil, fun _ _ h => h⟩
theorem Own.at {m0 m : Mem} {L : List (Nat × List Value)} (h : Own m0 m L) (j : Nat) {b : Nat} {l : List Value} (hj : L[j]? = some (b, l)) : Blk m b l := h.blk _ (List.mem_of_getElem? hj)
theorem Own.cell {m0 m : Mem} {L : List (Nat × List Value)} (h : Own m0 m L) (j : Nat) {b i : Nat} {l : List Value} {v : Value} (hj : L[j]? = some (b, l)) (hi : l[i]? = some v) : m.cell ⟨b, i, none⟩ = some v := (h.at j hj).cell hi
theorem Own.room {m0 m : Mem} {L : List (Nat × List Value)} (h : Own m0 m L) (j : Nat) {b i : Nat} {l : List Value} {v : Value} (hj : L[j]? = some (b, l)) (hi : l[i]? = some v) : (∃ u, m.cell ⟨b, i, none⟩ = some u) ∧ m.fz ⟨b, i, none⟩ = false := ⟨⟨_, h.cell j hj hi⟩, (h.at j hj).fz⟩
theorem Own.ne0 {m0 m : Mem} {L : List (Nat × List Value)} (h : Own m0 m L) {b : Nat} (hb : m b = none) : m0 b = none := by
  cases hm : m0 b with
  | none => rfl
  | some o => rw [h.old b o hm] at hb; cases hb
theorem Own.new {m0 m : Mem} {L : List (Nat × List Value)} {b e : Nat} {l : List Value} (h : Own m0 m L) (hb : m b = none) : Own m0 (m.set b (.cells l.toArray e (0, 0))) ((b, l) :: L) := by
  have hne : ∀ k, m k ≠ none → k ≠ b := by
    rintro k hk rfl
    exact hk hb
  refine ⟨fun p hp => ?_, fun p hp => ?_, ?_, fun k o hk => ?_⟩
  · rcases List.mem_cons.1 hp with rfl | hp
    · exact Blk.new
    · exact (h.blk p hp).set hb
  · rcases List.mem_cons.1 hp with rfl | hp
    · exact h.ne0 hb
    · exact h.fresh p hp
  · rw [List.map_cons, List.nodup_cons]
    refine ⟨fun hm => ?_, h.nodup⟩
    obtain ⟨p, hp, he⟩ := List.mem_map.1 hm
    obtain ⟨e', h1⟩ := h.blk p hp
    rw [he] at h1
    rw [hb] at h1
    cases h1
  · rw [Mem.set_ne (hne k (by rw [h.old k o hk]; simp))]
    exact h.old k o hk
theorem Own.more {m0 m m' : Mem} {L : List (Nat × List Value)} (h : Own m0 m L) (hm : ∀ k o, m k = some o → m' k = some o) : Own m0 m' L :=
  ⟨fun p hp => by
    obtain ⟨e, h1⟩ := h.blk p hp
    exact ⟨e, hm _ _ h1⟩, h.fresh, h.nodup, fun k o hk => hm k o (h.old k o hk)⟩
/-- A block of one's own turns; all else stays. -/
theorem Own.turn {m0 m m' : Mem} {L : List (Nat × List Value)} (h : Own m0 m L) (j : Nat) {b : Nat} {l l' : List Value} (hj : L[j]? = some (b, l)) (hb : Blk m' b l') (hm : ∀ k, k ≠ b → m' k = m k) : Own m0 m' (L.set j (b, l')) := by
  have hjl := (List.getElem?_eq_some_iff.1 hj).1
  have hkeys : (L.set j (b, l')).map Prod.fst = L.map Prod.fst := by
    rw [List.map_set]
    apply List.ext_getElem?
    intro i
    by_cases hi : j = i
    · subst hi
      rw [List.getElem?_set_self (by simpa using hjl), List.getElem?_map, hj]
      rfl
    · rw [List.getElem?_set_ne hi]
  have hmem : ∀ p, p ∈ L.set j (b, l') → p = (b, l') ∨ (p ∈ L ∧ p.1 ≠ b) := by
    intro p hp
    obtain ⟨i, hi⟩ := List.mem_iff_getElem?.1 hp
    by_cases hij : j = i
    · subst hij
      rw [List.getElem?_set_self hjl] at hi
      cases hi
      exact .inl rfl
    · rw [List.getElem?_set_ne hij] at hi
      refine .inr ⟨List.mem_of_getElem? hi, fun he => hij ?_⟩
      have h1 : (L.map Prod.fst)[j]? = some b := by rw [List.getElem?_map, hj]; rfl
      have h2 : (L.map Prod.fst)[i]? = some b := by rw [List.getElem?_map, hi, ← he]; rfl
      obtain ⟨k1, k2⟩ := List.getElem?_eq_some_iff.1 h1
      obtain ⟨k3, k4⟩ := List.getElem?_eq_some_iff.1 h2
      rcases Nat.lt_trichotomy j i with hlt | rfl | hlt
      · exact absurd (k2.trans k4.symm) (List.pairwise_iff_getElem.1 h.nodup j i k1 k3 hlt)
      · rfl
      · exact absurd (k4.trans k2.symm) (List.pairwise_iff_getElem.1 h.nodup i j k3 k1 hlt)
  have hbm := h.fresh _ (List.mem_of_getElem? hj)
  refine ⟨fun p hp => ?_, fun p hp => ?_, by rw [hkeys]; exact h.nodup, fun k o hk => ?_⟩
  · rcases hmem p hp with rfl | ⟨h1, h2⟩
    · exact hb
    · obtain ⟨e, h3⟩ := h.blk p h1
      exact ⟨e, by rw [hm _ h2, h3]⟩
  · rcases hmem p hp with rfl | ⟨h1, h2⟩
    · exact hbm
    · exact h.fresh p h1
  · rw [hm k (by rintro rfl; rw [hbm] at hk; cases hk)]
    exact h.old k o hk
theorem Own.put {m0 m : Mem} {L : List (Nat × List Value)} (h : Own m0 m L) (j : Nat) {b i : Nat} {l : List Value} (v : Value) (hj : L[j]? = some (b, l)) : Own m0 (m.setCell ⟨b, i, none⟩ v) (L.set j (b, l.set i v)) :=
  h.turn j hj (Blk.put v (h.at j hj)) fun _ hk => Mem.setCell_ne hk
theorem Own.puts {m0 m : Mem} {L : List (Nat × List Value)} (h : Own m0 m L) (j : Nat) {b i : Nat} {l : List Value} (vs : List Value) (hj : L[j]? = some (b, l)) : Own m0 (m.setCells ⟨b, i, none⟩ 0 vs) (L.set j (b, writeAt l i vs)) :=
  h.turn j hj (Blk.puts (j := 0) vs (h.at j hj)) fun _ hk => Mem.setCells_ne hk _
theorem Own.sublist {m0 m : Mem} {L L' : List (Nat × List Value)} (h : Own m0 m L) (hs : L'.Sublist L) : Own m0 m L' :=
  ⟨fun p hp => h.blk p (hs.subset hp), fun p hp => h.fresh p (hs.subset hp), h.nodup.sublist (hs.map _), h.old⟩
/-- Fewer. -/
theorem Own.less {m0 m : Mem} {L : List (Nat × List Value)} (h : Own m0 m L) (n : Nat) : Own m0 m (L.drop n) :=
  ⟨fun p hp => h.blk p (List.mem_of_mem_drop hp), fun p hp => h.fresh p (List.mem_of_mem_drop hp), by rw [List.map_drop]; exact h.nodup.sublist (List.drop_sublist _ _), h.old⟩

/-! ### what is loaded -/
theorem ld1 {m : Mem} {a a' : Addr} {kd : IntKind} {x : Int} {k : Value → Prop} (h : m.cell a' = some (.int kd x)) (ha : a = a') (hk : k (.int kd x)) : ∃ x, m.cell a = some (.int kd x) ∧ k (.int kd x) := ⟨x, by rw [ha, h], hk⟩

/-! ### numbers -/
theorem wrap_id {x : Int} (h1 : -9223372036854775808 ≤ x) (h2 : x ≤ 9223372036854775807) : IntKind.i64.wrap x = x := by
  rw [IntKind.wrap_i64]
  omega
theorem and_mask {k : Nat} (hk : k < 63) (a : Int) : bits .and .i64 a (2 ^ k - 1) = a % 2 ^ k := by
  show IntKind.i64.wrap ((BitVec.ofInt 64 a &&& BitVec.ofInt 64 (2 ^ k - 1)).toNat : Int) = _
  have hp : (2 : Int) ^ k = ((2 ^ k : Nat) : Int) := by simp
  have h2k : 2 ^ k < 2 ^ 63 := Nat.pow_lt_pow_right (by omega) hk
  have h0 : 0 < 2 ^ k := Nat.two_pow_pos k
  have h1 : (BitVec.ofInt 64 (2 ^ k - 1)).toNat = 2 ^ k - 1 := by
    rw [hp, BitVec.toNat_ofInt]
    generalize 2 ^ k = y at *
    omega
  rw [BitVec.toNat_and, h1, Nat.and_two_pow_sub_one_eq_mod, BitVec.toNat_ofInt]
  have h4 : (((a % ((2 ^ 64 : Nat) : Int)).toNat % 2 ^ k : Nat) : Int) = a % 2 ^ k := by
    have h3 : ((a % ((2 ^ 64 : Nat) : Int)).toNat : Int) = a % 2 ^ 64 := by omega
    rw [Int.natCast_emod, h3, hp, Int.emod_emod_of_dvd]
    exact ⟨((2 ^ (64 - k) : Nat) : Int), by rw [← Int.natCast_mul, ← Nat.pow_add, show k + (64 - k) = 64 by omega]; rfl⟩
  have h5 : 0 ≤ a % 2 ^ k := Int.emod_nonneg _ (by rw [hp]; omega)
  have h6 : a % 2 ^ k < 2 ^ k := Int.emod_lt_of_pos _ (by rw [hp]; omega)
  rw [h4]
  refine wrap_id (by omega) ?_
  rw [hp] at h6
  generalize 2 ^ k = y at *
  omega
end Go.Mv
