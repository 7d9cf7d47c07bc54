/- SetsMix, SetsEach: told of the program. -/
import Derived.Test.YtegeeofjebpgbaaDoorSsK
namespace Go.Proofs.YtegeeofjebpgbaaDoor
open Go Go.Mv
set_option maxHeartbeats 1000000
set_option maxRecDepth 10000
set_option linter.unusedVariables false
set_option linter.unusedSimpArgs false
attribute [local irreducible] FCalls IntKind.wrap bits Mem.set Mem.setCell Mem.setCells YCalls
theorem laid_has {f : Nat → Bool} {b : Nat} (hb : b < 256) : has (laidG f 256) b = f b := by rw [laidG_bit, decide_eq_true hb, Bool.true_and]
theorem Is.det {v : Value} {f : Nat → Bool} (h : Is v f) : v = wv (laidG f 256) := h.eq ⟨_, rfl, laidG_ok f 256, fun b hb => laid_has hb⟩ fun _ _ => rfl
theorem FCalls.det {g : Nat} {args : List Value} {m : Mem} {f : Nat → Bool} (h : FCalls Tryd.prog g args m fun v m' => m' = m ∧ Is v f) : FCalls Tryd.prog g args m fun v m' => v = wv (laidG f 256) ∧ m' = m := h.mono fun _ _ ⟨h1, h2⟩ => ⟨h2.det, h1⟩
theorem eqW {G H : Nat → Nat} (hG : WOk G) (hH : WOk H) (h : ∀ b, b < 256 → has G b = has H b) : (W G == W H) = true := by
  rw [W_ext hG hH h]
  exact beq_self_eq_true _
theorem eqL {G : Nat → Nat} {f : Nat → Bool} (hG : WOk G) (h : ∀ b, b < 256 → has G b = f b) : (W G == W (laidG f 256)) = true := eqW hG (laidG_ok f 256) fun b hb => by rw [h b hb, laid_has hb]
theorem mix_c {m : Mem} {G H : Nat → Nat} (hT : Tz m) (h : WOk G) (k : WOk H) : FCalls Tryd.prog 5 [wv G, wv H] m fun v m' => v = .bool true ∧ m' = m := by
  refine fcalls_of_vc (T := tbl) (B := bodies) (pr := [2, 3]) (DR := dr5) (args := [.ints .u64 (W G), .ints .u64 (W H)]) tbl_ok bodies_ok mixed Tryd.func5 rfl (by decide +kernel) (by simp [Tryd.f5]) rfl ?_
  have e1 : (W (orG G H) == W (laidG (bothF true true true false (has G) (has H)) 256)) = true := eqL (or_ok h) fun b hb => by
    rw [or_bit h k]
    unfold bothF
    cases has G b <;> cases has H b <;> rfl
  have e2 : (W (fun k => G k &&& H k) == W (laidG (bothF false false true false (has G) (has H)) 256)) = true := eqL (and_ok h) fun b hb => by
    rw [and_bit]
    unfold bothF
    cases has G b <;> cases has H b <;> rfl
  have e3 : (W (fun k => G k &&& flip64 (H k)) == W (laidG (bothF true false false false (has G) (has H)) 256)) = true := eqL (and_ok h) fun b hb => by
    have := and_bit (G := G) (H := fun k => flip64 (H k)) b
    rw [this, not_bit]
    unfold bothF
    cases has G b <;> cases has H b <;> rfl
  have e4 : (W (fun k => flip64 (G k)) == W (laidG (bothF false false false true (has G) (has G)) 256)) = true := eqL (flip_ok h) fun b hb => by
    rw [not_bit]
    unfold bothF
    cases has G b <;> rfl
  have e5 : (W (foldG G) == W (laidG (foldF (has G)) 256)) = true := eqL (fold_ok h) fun b hb => fold_bit hb
  (conv => whnf)
  refine FCalls.mono (examples_c hT) fun v m' ⟨h1, h2⟩ => ?_
  subst h1 h2
  (conv => whnf)
  refine ⟨rfl, W_len.symm, ?_⟩
  (conv => whnf)
  refine ⟨rfl, W_len.symm, ?_⟩
  (conv => whnf)
  refine ⟨_, or_c h k, ?_⟩
  (conv => whnf)
  refine ⟨_, W_len, rfl, ?_⟩
  (conv => whnf)
  refine ⟨rfl, W_len.symm, ?_⟩
  (conv => whnf)
  refine ⟨rfl, W_len.symm, ?_⟩
  (conv => whnf)
  refine ⟨_, FCalls.det (ror_c h k), ?_⟩
  (conv => whnf)
  refine ⟨_, W_len, rfl, ?_⟩
  (conv => whnf)
  refine ⟨W_len, W_len, ?_⟩
  (conv => whnf)
  refine brk_true (by rw [e1]; rfl) ?_
  (conv => whnf)
  refine ⟨rfl, W_len.symm, ?_⟩
  (conv => whnf)
  refine ⟨rfl, W_len.symm, ?_⟩
  (conv => whnf)
  refine ⟨_, and_c h k, ?_⟩
  (conv => whnf)
  refine ⟨_, W_len, rfl, ?_⟩
  (conv => whnf)
  refine ⟨rfl, W_len.symm, ?_⟩
  (conv => whnf)
  refine ⟨rfl, W_len.symm, ?_⟩
  (conv => whnf)
  refine ⟨_, FCalls.det (rand_c h k), ?_⟩
  (conv => whnf)
  refine ⟨_, W_len, rfl, ?_⟩
  (conv => whnf)
  refine ⟨W_len, W_len, ?_⟩
  (conv => whnf)
  refine brk_true (by rw [e2]; rfl) ?_
  (conv => whnf)
  refine ⟨rfl, W_len.symm, ?_⟩
  (conv => whnf)
  refine ⟨rfl, W_len.symm, ?_⟩
  (conv => whnf)
  refine ⟨_, less_c h k, ?_⟩
  (conv => whnf)
  refine ⟨_, W_len, rfl, ?_⟩
  (conv => whnf)
  refine ⟨rfl, W_len.symm, ?_⟩
  (conv => whnf)
  refine ⟨rfl, W_len.symm, ?_⟩
  (conv => whnf)
  refine ⟨_, FCalls.det (rless_c h k), ?_⟩
  (conv => whnf)
  refine ⟨_, W_len, rfl, ?_⟩
  (conv => whnf)
  refine ⟨W_len, W_len, ?_⟩
  (conv => whnf)
  refine brk_true (by rw [e3]; rfl) ?_
  (conv => whnf)
  refine ⟨rfl, W_len.symm, ?_⟩
  (conv => whnf)
  refine ⟨_, not_c h, ?_⟩
  (conv => whnf)
  refine ⟨_, W_len, rfl, ?_⟩
  (conv => whnf)
  refine ⟨rfl, W_len.symm, ?_⟩
  (conv => whnf)
  refine ⟨_, FCalls.det (rnot_c h), ?_⟩
  (conv => whnf)
  refine ⟨_, W_len, rfl, ?_⟩
  (conv => whnf)
  refine ⟨W_len, W_len, ?_⟩
  (conv => whnf)
  refine brk_true (by rw [e4]; rfl) ?_
  (conv => whnf)
  refine ⟨rfl, W_len.symm, ?_⟩
  (conv => whnf)
  refine ⟨_, fold_c h, ?_⟩
  (conv => whnf)
  refine ⟨_, W_len, rfl, ?_⟩
  (conv => whnf)
  refine ⟨rfl, W_len.symm, ?_⟩
  (conv => whnf)
  refine ⟨_, FCalls.det (rfold_c h), ?_⟩
  (conv => whnf)
  refine ⟨_, W_len, rfl, ?_⟩
  (conv => whnf)
  refine ⟨W_len, W_len, ?_⟩
  (conv => whnf)
  exact ⟨congrArg Value.bool e5, rfl⟩
end Go.Proofs.YtegeeofjebpgbaaDoor
