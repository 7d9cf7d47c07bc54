/- Mv: every operation does what vcOp says. -/
import Derived.Test.YtoifiplefjclbaaMvCall
import Derived.Laws.IdiomStrings
namespace Go.Mv
open Go
section
variable {P : Program} {r : Option Nat} {T : Tbl} {B pr : List Nat} {ψ : Nat → Nat} {N : Nat} {D : HD} {m0 : Mem} {w0 : World} {Q : Exit → Act → World → Prop} {S S' : St} {a : Act} {w w' : World} {K : St → Prop} {v : Value}
  {dst : Option Tmp} {op : Op} {ty : TypeId} {pos : String} {after : Array Edge} {guard : Option (Nat × Bool)}

theorem box_add (b o n : Nat) : (⟨b, o, none⟩ : Addr).add n = ⟨b, o + n, none⟩ := by
  unfold Addr.add
  split
  · rename_i h; subst h; rfl
  · rfl
theorem blt_spec {a b : Nat} (h : Nat.blt a b = true) : a < b := by have := Nat.le_of_ble_eq_true h; omega
theorem contentK_sound {x : AV} {k : LC → Prop} {L : Nat} {v : Value} (h : contentK x k) (hx : x.is ψ L v) : ∃ c : LC, v.cells.toList = c.list ∧ k c := by
  unfold contentK at h
  split at h <;> simp only [AV.is] at hx
  · subst hx; exact ⟨_, rfl, h⟩
  · subst hx; exact ⟨_, rfl, h⟩
  · subst hx; exact ⟨_, rfl, h⟩
  · subst hx; exact ⟨_, rfl, h⟩
  · exact h.elim
theorem run_newVar (e : Nat) (v : Value) (w : World) : ((do pure (.pointer (some (← newVar e v)))) : Sem Value).run P w = .ok (.pointer (some ⟨w.heap.size, 0, none⟩)) (w.alloc (.cells v.cells e (0, 0))) := rfl
theorem wrap_i64 {n : Int} (h0 : 0 ≤ n) (h1 : n ≤ 9223372036854775807) : IntKind.i64.wrap n = n := by
  have h2 : n % (2 ^ 64 : Int) = n := Int.emod_eq_of_lt h0 (by omega)
  simp only [IntKind.wrap, IntKind.bits, IntKind.signed, h2]
  rw [if_neg]
  simp
  omega
theorem gs_get {gs : Array Field} {fs : List (Nat × Nat)} (h : gs.toList.map (fun f => (f.offset, f.type)) = fs) {i : Nat} {x : Nat × Nat} (hx : fs[i]? = some x) : ∃ f, gs[i]? = some f ∧ f.offset = x.1 ∧ f.type = x.2 := by
  rw [← h, List.getElem?_map, Option.map_eq_some_iff] at hx
  obtain ⟨f, hf, he⟩ := hx
  exact ⟨f, by simpa using hf, by rw [← he], by rw [← he]⟩

/-- Does it look at memory? -/
def isMem : Op → Bool
  | .load .. => true
  | .convert .. => true
  | _ => false
theorem sameV {v : Value} {x : AV} (hrun : ∀ w, (isMem op = false ∨ Rel ψ N D m0 w0 S a w) → (execOp a.eval ⟨dst, op, ty, pos, after, guard⟩).run P w = .ok (.value v) w) (hx : x.is ψ S.ls.length v) (hK : K (S.put dst x)) :
    ∃ v x, x.is ψ S.ls.length v ∧ K (S.put dst x) ∧ ∀ w, (isMem op = false ∨ Rel ψ N D m0 w0 S a w) → (execOp a.eval ⟨dst, op, ty, pos, after, guard⟩).run P w = .ok (.value v) w := ⟨v, x, hx, hK, hrun⟩
/-- Operations that only read: one value, in every world that holds what is told. -/
theorem isInt_under (hT : T.ok P = true) {e : Nat} {kd : IntKind} (h : (T.at e).k.isInt kd = true) : P.underlying e = some (.int kd) := by
  cases hb : (T.at e).k <;> rw [hb] at h <;> simp [TK.isInt] at h
  have := IntKind.eqb_spec h
  subst this
  exact under_int (Tbl.fact hT (t := e) (by rw [hb]; simp)) hb
theorem vcVal (hT : T.ok P = true) (hR0 : Rel ψ N D m0 w0 S a w) (hq : quietKind T op = true) (hk : vcOp P T B pr dst op ty S K) :
    ∃ v x, x.is ψ S.ls.length v ∧ K (S.put dst x) ∧ ∀ w, (isMem op = false ∨ Rel ψ N D m0 w0 S a w) → (execOp a.eval ⟨dst, op, ty, pos, after, guard⟩).run P w = .ok (.value v) w := by
  rw [vcOp_eq] at hk
  unfold vcOpS at hk
  split at hk
  -- move, assign
  · obtain ⟨x, hx, h1⟩ := hR0.ev hk
    exact sameV (fun _ _ => rfl) hx h1
  · obtain ⟨x, hx, h1⟩ := hR0.ev hk
    exact sameV (fun _ _ => rfl) hx h1
  -- pick
  · rename_i c x y
    obtain ⟨cv, hc, h1⟩ := hR0.ev hk
    split at h1
    · rename_i b
      simp only [AV.is] at hc
      obtain ⟨u, hu, h2⟩ := hR0.ev h1
      obtain ⟨v, hv, h3⟩ := hR0.ev h2
      have hrun : ∀ z, z = (if b then a.eval x else a.eval y) → ∀ w, (execOp a.eval ⟨dst, .pick c x y, ty, pos, after, guard⟩).run P w = .ok (.value z) w := by
        intro z hz w
        simp [execOp, hc, asBool, hz]
      unfold pickK at h3
      split at h3
      · rename_i p q
        simp only [AV.is] at hu hv
        exact sameV (x := .v (.bool (bif b then p else q))) (fun w hR => hrun (.bool (bif b then p else q)) (by cases b <;> simp [hu, hv]) w) rfl h3
      · cases b with
        | true => exact sameV (fun w hR => hrun (a.eval x) (by simp) w) hu h3
        | false => exact sameV (fun w hR => hrun (a.eval y) (by simp) w) hv h3
    · exact h1.elim
  · simp [quietKind] at hq
  · simp [quietKind] at hq
  -- build
  · rename_i t parts
    split at hk
    · rename_i fs hfs
      have hf := Tbl.fact hT (t := t) (by rw [hfs]; simp)
      obtain ⟨z, hz, hzl, _⟩ := hf.zero
      obtain ⟨gs, hu, hgs⟩ := under_struct hf hfs
      have hmap : (parts.map fun (x : Nat × Operand) => (x.1, a.eval x.2)).toList = parts.toList.map fun x => (x.1, a.eval x.2) := by simp
      obtain ⟨hall, hk'⟩ := req_spec hk
      have hpl : ∃ places : Array (Nat × Nat), (∀ w, (gs.mapM fun f => (do pure (f.offset, ← sizeOf f.type) : Sem (Nat × Nat))).run P w = .ok places w) ∧ ∀ i : Nat, ((fs[i]?).map fun (f : Nat × Nat) => (f.1, (T.at f.2).size)) = places[i]? := by
        have key : ∀ (l : List Field), (l.all fun f => Nat.blt 0 (T.at f.type).size) = true → (∀ w, (l.mapM fun f => (do pure (f.offset, ← sizeOf f.type) : Sem (Nat × Nat))).run P w = .ok (l.map fun f => (f.offset, (T.at f.type).size)) w) := by
          intro l hl
          induction l with
          | nil => intro w; rfl
          | cons f l ih =>
            simp only [List.all_cons, Bool.and_eq_true] at hl
            have h1 := (tyfact_of_size hT (t := f.type) (by have := blt_spec hl.1; omega)).size
            have h2 := ih hl.2
            simp only [bind_pure_comp] at h2
            intro w
            simp [List.mapM_cons, h1, h2]
        refine ⟨(gs.toList.map fun f => (f.offset, (T.at f.type).size)).toArray, fun w => ?_, fun i => ?_⟩
        · rw [Array.mapM_eq_mapM_toList, Sem.run_map, key gs.toList (by rw [← hgs] at hall; simpa [List.all_map, Function.comp_def] using hall)]
          rfl
        · rw [← hgs]
          simp [Function.comp_def]
      obtain ⟨places, hp1, hp2⟩ := hpl
      have hzl' : z.cells = (T.at t).zero.list.toArray := by apply Array.ext'; rw [hzl]
      obtain ⟨cs, hcs, hK⟩ := fillK_sound hR0 (place' := fun i => places[i]?) hp2 parts.toList _ _ hk'
      have hcs' : cs = cs.toList.toArray := by simp
      refine sameV (x := .v (.agg cs.toList.toArray)) (fun w hR => run_val (v := .agg cs) ?_) (by rw [← hcs']; rfl) hK
      simp only [Instr.build, Sem.run_bind, hz, Result.andThen_ok, run_underlying hu, hp1, hzl', hmap, hcs, Sem.run_pure]
    · rename_i n e he
      split at hk
      · rename_i kd kd' xs hkd hzi
        obtain ⟨h0, h1⟩ := req_spec hk
        obtain ⟨h2, h3⟩ := req_spec h1
        have h0 := IntKind.eqb_spec h0
        subst h0
        have hf := Tbl.fact hT (t := t) (by rw [he]; simp)
        have hu := under_arr hf he
        have hse := fun w => (Tbl.fact hT (t := e) (by rw [hkd]; simp)).size w
        rw [Nat.eq_of_beq_eq_true h2] at hse
        obtain ⟨z, hz, hzl, _⟩ := hf.zero
        have hmap : (parts.map fun (x : Nat × Operand) => (x.1, a.eval x.2)).toList = parts.toList.map fun x => (x.1, a.eval x.2) := by simp
        obtain ⟨ys, h4, hK⟩ := fillIntsK_sound hR0 (place := fun i => some (i * 1, 1)) (fun _ => rfl) parts.toList _ _ h3
        have hzl' : z.cells = (intCells kd xs).toArray := by apply Array.ext'; rw [hzl, hzi]; rfl
        refine sameV (x := .ints kd ys) (fun w hR => run_val (v := .agg (intCells kd ys).toArray) ?_) rfl hK
        simp only [Instr.build, Sem.run_bind, hz, Result.andThen_ok, run_underlying hu, hse, hzl', hmap, h4, Sem.run_pure]
      · obtain ⟨h0, h1⟩ := req_spec hk
        have hf := Tbl.fact hT (t := t) (by rw [he]; simp)
        have hu := under_arr hf he
        have hse := fun w => (tyfact_of_size hT (t := e) (by have := blt_spec h0; omega)).size w
        obtain ⟨z, hz, hzl, _⟩ := hf.zero
        have hmap : (parts.map fun (x : Nat × Operand) => (x.1, a.eval x.2)).toList = parts.toList.map fun x => (x.1, a.eval x.2) := by simp
        have hzl' : z.cells = (T.at t).zero.list.toArray := by apply Array.ext'; rw [hzl]
        obtain ⟨cs, hcs, hK⟩ := fillK_sound hR0 (place' := fun i => some (i * (T.at e).size, (T.at e).size)) (fun i => rfl) parts.toList _ _ h1
        have hcs' : cs = cs.toList.toArray := by simp
        refine sameV (x := .v (.agg cs.toList.toArray)) (fun w hR => run_val (v := .agg cs) ?_) (by rw [← hcs']; rfl) hK
        simp only [Instr.build, Sem.run_bind, hz, Result.andThen_ok, run_underlying hu, hse, hzl', hmap, hcs, Sem.run_pure]
    · exact hk.elim
  · simp [quietKind] at hq
  -- load
  · rename_i t p
    obtain ⟨x, hx, h1⟩ := hR0.ev hk
    split at h1
    · rename_i i off
      split at h1
      · rename_i c hc
        obtain ⟨v, y, hv, hy, hK⟩ := ldLoc_sound (N := N) (D := D) (m0 := m0) (w0 := w0) (a := a) (ψ := ψ) hT hc h1
        exact sameV (fun w hR => run_val (by simp only [Instr.loadAt, hx.2, Instr.sureAddr, pure_bind]; exact hv w (hR.resolve_left (by simp [isMem])))) hy hK
      · exact h1.elim
    · rename_i p'
      obtain ⟨v, y, hv, hy, hK⟩ := ldT_sound hT h1 ψ S.ls.length
      simp only [AV.is] at hx
      exact sameV (fun w hR => run_val (by simp only [Instr.loadAt, hx, Instr.sureAddr, pure_bind]; exact hv w (hR.resolve_left (by simp [isMem])).sub)) hy hK
    · exact h1.elim
  · simp [quietKind] at hq
  -- nilCheck
  · rename_i x
    obtain ⟨u, hu, h1⟩ := hR0.ev hk
    split at h1
    · rename_i q
      cases q with
      | none => exact h1.elim
      | some p =>
      have hK := h1
      simp only [AV.is] at hu
      exact sameV (x := .v (.pointer (some p))) (fun w hR => by simp [execOp, hu]) rfl hK
    · rename_i i off
      exact sameV (v := a.eval x) (fun w hR => by simp [execOp, hu.2]) hu h1
    · exact h1.elim
  -- binOp
  · rename_i op t x y _
    obtain ⟨u, hu, h1⟩ := hR0.ev hk
    obtain ⟨v, hv, h2⟩ := hR0.ev h1
    obtain ⟨q, h3, hK⟩ := binK_sound hT h2 hu hv x y
    exact sameV (x := .v q) (fun w hR => run_val (h3 w)) rfl hK
  -- unOp
  · rename_i op t x
    obtain ⟨u, hu, h1⟩ := hR0.ev hk
    unfold unK at h1
    split at h1
    · simp only [AV.is] at hu
      exact sameV (x := .v _) (fun w hR => run_val (by simp only [hu]; rfl)) rfl h1
    · simp only [AV.is] at hu
      exact sameV (x := .v _) (fun w hR => run_val (by simp only [hu]; rfl)) rfl h1
    · simp only [AV.is] at hu
      exact sameV (x := .v _) (fun w hR => run_val (by simp only [hu]; rfl)) rfl h1
    · exact h1.elim
  -- convert
  · rename_i s d x
    obtain ⟨u, hu, h1⟩ := hR0.ev hk
    split at h1
    · rename_i ks kd kd' n hks hkd
      simp only [AV.is] at hu
      have hud := under_int (Tbl.fact hT (t := d) (by rw [hkd]; simp)) hkd
      have hus := under_int (Tbl.fact hT (t := s) (by rw [hks]; simp)) hks
      exact sameV (x := .v _) (fun w hR => run_val (by simp only [hu, Go.convert, Sem.run_bind, run_underlying hus, run_underlying hud, Result.andThen_ok]; rfl)) rfl h1
    · rename_i e t hks hkd
      simp [quietKind, hks, hkd] at hq
    · rename_i e A n c hks hkd
      obtain ⟨h2, l, h3, h4, h5⟩ := req_spec h1
      simp only [AV.is] at hu
      have hud := under_str (Tbl.fact hT (t := d) (by rw [hkd]; simp)) hkd
      have hus := under_slice (Tbl.fact hT (t := s) (by rw [hks]; simp)) hks
      have hue := isInt_under hT h2
      refine sameV (x := .v _) (fun w hR => run_val (v := .string ⟨l.toArray⟩) (w' := w) ?_) rfl h5
      rw [hu]
      rcases h4 with ⟨rfl, rfl⟩ | ⟨p, rfl, hp⟩
      · simp only [convert, Sem.run_bind, run_underlying hus, run_underlying hud, Result.andThen_ok, run_underlying hue, Conv.bytesToString, Sem.run_pure]
        rfl
      · subst h3
        refine run_convert_bytes_back w s d e p c l hus hue hud fun j hj => ?_
        exact Mem.sub_cell (hR.resolve_left (by simp [isMem])).sub (hp j _ (by simp [byteVals, hj]))
    · exact h1.elim
    · exact h1.elim
    · exact h1.elim
    · exfalso
      cases hks : (T.at s).k <;> cases hkd : (T.at d).k <;> simp_all [quietKind]
    · exact h1.elim
  -- makeFunc
  · rename_i fn first cap
    have h1 := hR0.evs hk
    have h2 := hR0.evs h1
    refine sameV (x := .v (.func fn (first.toList.map a.eval).toArray (cap.toList.map a.eval).toArray)) (fun w hR => ?_) rfl h2
    simp only [execOp, Instr.makeFunc, pure_bind, Sem.run_pure]
    congr 3
    · apply Array.ext'; simp
    · apply Array.ext'; simp
  · simp [quietKind] at hq
  -- slice
  · rename_i t x lo hi
    obtain ⟨u, hu, h1⟩ := hR0.ev hk
    split at h1
    · rename_i e A n cp he
      obtain ⟨h0, h2⟩ := req_spec h1
      obtain ⟨h, h3, hhi⟩ := optK_sound hR0 h2
      obtain ⟨l, ⟨h4, h5, h6, hK⟩, hlo⟩ := optK_sound hR0 h3
      simp only [AV.is] at hu
      have hut := under_slice (Tbl.fact hT (t := t) (by rw [he]; simp)) he
      have hse := fun w => (tyfact_of_size hT (t := e) (by have := blt_spec h0; omega)).size w
      refine sameV (x := .v _) (fun w hR => run_val ?_) rfl hK
      have hh : ∀ w : World, (match hi.map a.eval with | some v => Instr.sliceBound v cp .sliceAcap | none => pure n).run P w = .ok h.toNat w := by
        intro w
        rcases hhi with ⟨rfl, rfl⟩ | ⟨x, kd, rfl, hx⟩
        · simp
        · simp only [Option.map_some, hx, Instr.sliceBound, asIntOf, pure_bind]
          rw [if_pos ⟨by omega, by omega⟩]
          rfl
      have hl : ∀ w : World, (match lo.map a.eval with | some v => Instr.sliceBound v h.toNat .sliceB | none => pure 0).run P w = .ok l.toNat w := by
        intro w
        rcases hlo with ⟨rfl, rfl⟩ | ⟨x, kd, rfl, hx⟩
        · simp
        · simp only [Option.map_some, hx, Instr.sliceBound, asIntOf, pure_bind]
          rw [if_pos ⟨by omega, by omega⟩]
          rfl
      have hb : (Instr.sliceBounds true n cp (lo.map a.eval) (hi.map a.eval) none).run P w = .ok (l.toNat, h.toNat, cp) w := by
        have h1 := hh w
        have h2 := hl w
        unfold Instr.sliceBounds
        cases hhx : hi.map a.eval <;> cases hlx : lo.map a.eval <;> rw [hhx] at h1 <;> rw [hlx] at h2 <;> simp_all
      simp only [Option.map_none, Instr.sliceAt, Sem.run_bind, run_underlying hut, Result.andThen_ok, hu, Instr.slice, hb, hse, Sem.run_pure]
    · rename_i s hs
      obtain ⟨h, h3, hhi⟩ := optK_sound hR0 h1
      obtain ⟨l, ⟨h4, h5, h6, hK⟩, hlo⟩ := optK_sound hR0 h3
      simp only [AV.is] at hu
      have hut := under_str (Tbl.fact hT (t := t) (by rw [hs]; simp)) hs
      refine sameV (x := .v _) (fun w hR => run_val ?_) rfl hK
      have hh : ∀ w : World, (match hi.map a.eval with | some v => Instr.sliceBound v s.size .sliceAlen | none => pure s.size).run P w = .ok h.toNat w := by
        intro w
        rcases hhi with ⟨rfl, rfl⟩ | ⟨x, kd, rfl, hx⟩
        · simp
        · simp only [Option.map_some, hx, Instr.sliceBound, asIntOf, pure_bind]
          rw [if_pos ⟨by omega, by omega⟩]
          rfl
      have hl : ∀ w : World, (match lo.map a.eval with | some v => Instr.sliceBound v h.toNat .sliceB | none => pure 0).run P w = .ok l.toNat w := by
        intro w
        rcases hlo with ⟨rfl, rfl⟩ | ⟨x, kd, rfl, hx⟩
        · simp
        · simp only [Option.map_some, hx, Instr.sliceBound, asIntOf, pure_bind]
          rw [if_pos ⟨by omega, by omega⟩]
          rfl
      have hb : (Instr.sliceBounds false s.size s.size (lo.map a.eval) (hi.map a.eval) none).run P w = .ok (l.toNat, h.toNat, s.size) w := by
        have h1 := hh w
        have h2 := hl w
        unfold Instr.sliceBounds
        cases hhx : hi.map a.eval <;> cases hlx : lo.map a.eval <;> rw [hhx] at h1 <;> rw [hlx] at h2 <;> simp_all
      simp only [Option.map_none, Instr.sliceAt, Sem.run_bind, run_underlying hut, Result.andThen_ok, hu, Instr.slice, Option.isSome_none, Bool.false_eq_true, if_false, hb, Sem.run_pure]
    · rename_i n e p he
      obtain ⟨h0, h2⟩ := req_spec h1
      obtain ⟨h, h3, hhi⟩ := optK_sound hR0 h2
      obtain ⟨l, ⟨h4, h5, h6, hK⟩, hlo⟩ := optK_sound hR0 h3
      simp only [AV.is] at hu
      have hut := under_arr (Tbl.fact hT (t := t) (by rw [he]; simp)) he
      have hse := fun w => (tyfact_of_size hT (t := e) (by have := blt_spec h0; omega)).size w
      refine sameV (x := .v _) (fun w hR => run_val ?_) rfl hK
      have hh : ∀ w : World, (match hi.map a.eval with | some v => Instr.sliceBound v n .sliceAlen | none => pure n).run P w = .ok h.toNat w := by
        intro w
        rcases hhi with ⟨rfl, rfl⟩ | ⟨x, kd, rfl, hx⟩
        · simp
        · simp only [Option.map_some, hx, Instr.sliceBound, asIntOf, pure_bind]
          rw [if_pos ⟨by omega, by omega⟩]
          rfl
      have hl : ∀ w : World, (match lo.map a.eval with | some v => Instr.sliceBound v h.toNat .sliceB | none => pure 0).run P w = .ok l.toNat w := by
        intro w
        rcases hlo with ⟨rfl, rfl⟩ | ⟨x, kd, rfl, hx⟩
        · simp
        · simp only [Option.map_some, hx, Instr.sliceBound, asIntOf, pure_bind]
          rw [if_pos ⟨by omega, by omega⟩]
          rfl
      have hb : (Instr.sliceBounds false n n (lo.map a.eval) (hi.map a.eval) none).run P w = .ok (l.toNat, h.toNat, n) w := by
        have h1 := hh w
        have h2 := hl w
        unfold Instr.sliceBounds
        cases hhx : hi.map a.eval <;> cases hlx : lo.map a.eval <;> rw [hhx] at h1 <;> rw [hlx] at h2 <;> simp_all
      simp only [Option.map_none, Instr.sliceAt, Sem.run_bind, run_underlying hut, Result.andThen_ok, hu, Instr.sureAddr, hb, hse, Sem.run_pure]
    · exact h1.elim
  -- fieldAddr
  · rename_i t x f
    obtain ⟨u, hu, h1⟩ := hR0.ev hk
    split at h1
    · rename_i fs hfs
      split at h1
      · rename_i off ft hf
        obtain ⟨h0, h2⟩ := req_spec h1
        obtain ⟨gs, hug, hgs⟩ := under_struct (Tbl.fact hT (t := t) (by rw [hfs]; simp)) hfs
        obtain ⟨g, hg, hgo, hgt⟩ := gs_get hgs hf
        have hse := fun w => (tyfact_of_size hT (t := ft) (by have := blt_spec h0; omega)).size w
        have hrun : ∀ {p : Addr}, a.eval x = .pointer (some p) → ∀ w, (Instr.fieldAt t (a.eval x) f).run P w = .ok (.pointer (some (p.add off))) w := by
          intro p hp w
          simp only [Instr.fieldAt, Sem.run_bind, run_underlying hug, Result.andThen_ok, hg, hp, Instr.sureAddr, Sem.run_pure, fieldPlace, hgt, hse]
          rw [if_neg (by have := blt_spec h0; omega)]
          simp [hgo]
        split at h2
        · rename_i i o
          refine sameV (x := .loc i (o + off)) (fun w hR => run_val (hrun hu.2 w)) ⟨hu.1, ?_⟩ h2
          rw [box_add]
        · simp only [AV.is] at hu
          exact sameV (x := .v _) (fun w hR => run_val (hrun hu w)) rfl h2
        · exact h2.elim
      · exact h1.elim
    · exact h1.elim
  -- field
  · rename_i t x f
    obtain ⟨u, hu, h1⟩ := hR0.ev hk
    split at h1
    · rename_i fs cs hfs
      simp only [AV.is] at hu
      split at h1
      · rename_i off ft hf
        obtain ⟨gs, hug, hgs⟩ := under_struct (Tbl.fact hT (t := t) (by rw [hfs]; simp)) hfs
        obtain ⟨g, hg, hgo, hgt⟩ := gs_get hgs hf
        split at h1
        · rename_i hk2
          have hfa := Tbl.fact hT (t := ft) (by rw [hk2]; simp)
          have h3 := fun w => hfa.isAgg w
          rw [hk2] at h3
          refine sameV (x := .v _) (fun w hR => run_val ?_) rfl h1
          simp [Instr.field, run_underlying hug, hg, hu, asAgg, part, hgt, h3, TK.agg, hfa.size, hgo]
        · exact h1.elim
        · exact h1.elim
        · rename_i hn1 hn2 hn3
          split at h1
          · rename_i c hc
            have hfa := Tbl.fact hT (t := ft) (fun h => by simp_all)
            have h3 := fun w => hfa.isAgg w
            have h4 : (T.at ft).k.agg = false := by cases hk2 : (T.at ft).k <;> first | rfl | (exfalso; simp_all)
            rw [h4] at h3
            have hc' : cs[off]? = some c := by simpa using hc
            refine sameV (x := .v _) (fun w hR => run_val ?_) rfl h1
            simp [Instr.field, run_underlying hug, hg, hu, asAgg, part, hgt, h3, hgo, hc']
          · exact h1.elim
      · exact h1.elim
    · exact h1.elim
  -- indexAddr
  · rename_i t x i
    obtain ⟨u, hu, h1⟩ := hR0.ev hk
    obtain ⟨v, hv, h2⟩ := hR0.ev h1
    split at h2
    · rename_i kd j
      simp only [AV.is] at hv
      split at h2
      · rename_i n e b o he
        obtain ⟨h0, h3, h4, hK⟩ := req_spec h2
        have hut := under_arr (Tbl.fact hT (t := t) (by rw [he]; simp)) he
        have hse := fun w => (tyfact_of_size hT (t := e) (by have := blt_spec h0; omega)).size w
        refine sameV (x := .loc b (o + j.toNat * (T.at e).size)) (fun w hR => run_val (v := .pointer (some ⟨ψ b, o + j.toNat * (T.at e).size, none⟩)) ?_) ⟨hu.1, rfl⟩ hK
        have hc : 0 ≤ j ∧ j < (n : Int) := ⟨h3, h4⟩
        simp only [Instr.indexAt, Sem.run_bind, run_underlying hut, Result.andThen_ok, hu.2, hv, asIntOf, Sem.run_pure, Instr.sureAddr]
        simp only [hc, and_self, if_true, Sem.run_bind, hse, Result.andThen_ok, Sem.run_pure, box_add]
      · rename_i n e p he
        obtain ⟨h0, h3, h4, hK⟩ := req_spec h2
        have hut := under_arr (Tbl.fact hT (t := t) (by rw [he]; simp)) he
        have hse := fun w => (tyfact_of_size hT (t := e) (by have := blt_spec h0; omega)).size w
        simp only [AV.is] at hu
        refine sameV (x := .v _) (fun w hR => run_val ?_) rfl hK
        have hc : 0 ≤ j ∧ j < (n : Int) := ⟨h3, h4⟩
        simp only [Instr.indexAt, Sem.run_bind, run_underlying hut, Result.andThen_ok, hu, hv, asIntOf, Sem.run_pure, Instr.sureAddr]
        simp only [hc, and_self, if_true, Sem.run_bind, hse, Result.andThen_ok, Sem.run_pure]
      · rename_i e A n cp he
        obtain ⟨h0, p, rfl, h3, h4, hK⟩ := req_spec h2
        have hut := under_slice (Tbl.fact hT (t := t) (by rw [he]; simp)) he
        have hse := fun w => (tyfact_of_size hT (t := e) (by have := blt_spec h0; omega)).size w
        simp only [AV.is] at hu
        refine sameV (x := .v _) (fun w hR => run_val ?_) rfl hK
        have hc : 0 ≤ j ∧ j < (n : Int) := ⟨h3, h4⟩
        simp only [Instr.indexAt, Sem.run_bind, run_underlying hut, Result.andThen_ok, hu, hv, asIntOf, Sem.run_pure, Instr.sureAddr]
        simp only [hc, and_self, if_true, Sem.run_bind, hse, Result.andThen_ok, Sem.run_pure]
      · exact h2.elim
    · exact h2.elim
  -- index
  · rename_i t x i
    obtain ⟨u, hu, h1⟩ := hR0.ev hk
    obtain ⟨v, hv, h2⟩ := hR0.ev h1
    split at h2
    · rename_i kd j
      simp only [AV.is] at hv
      split at h2
      · rename_i n e kd' xs he
        obtain ⟨h0, h3⟩ := req_spec h2
        obtain ⟨h4, h5, h6, h7, hK⟩ := req_spec h3
        have hut := under_arr (Tbl.fact hT (t := t) (by rw [he]; simp)) he
        have hek : (T.at e).k = .int kd' := by
          cases hb : (T.at e).k <;> rw [hb] at h4 <;> simp [TK.isInt] at h4
          rw [IntKind.eqb_spec h4]
        have hfe := Tbl.fact hT (t := e) (by rw [hek]; simp)
        have hse := fun w => hfe.size w
        have hag := fun w => hfe.isAgg w
        rw [Nat.eq_of_beq_eq_true h0] at hse
        rw [hek] at hag
        simp only [AV.is] at hu
        refine sameV (x := .v (.int kd' (xs.getD j.toNat 0))) (fun w hR => run_val (v := .int kd' (xs.getD j.toNat 0)) ?_) rfl hK
        have hc : 0 ≤ j ∧ j < (n : Int) := ⟨h5, h6⟩
        simp only [Instr.index, Sem.run_bind, run_underlying hut, Result.andThen_ok, hu, hv, asIntOf, Sem.run_pure]
        simp only [hc, and_self, if_true, Sem.run_bind, hse, Result.andThen_ok, Nat.mul_one, part, hag, TK.agg]
        simp [intCells, h7]
      · rename_i n e xs he
        obtain ⟨h0, h3⟩ := req_spec h2
        obtain ⟨h4, h5, h6, h7, hK⟩ := req_spec h3
        have hut := under_arr (Tbl.fact hT (t := t) (by rw [he]; simp)) he
        have hek : (T.at e).k = .bool := by
          cases hb : (T.at e).k <;> rw [hb] at h4 <;> simp [TK.isBool] at h4
        have hfe := Tbl.fact hT (t := e) (by rw [hek]; simp)
        have hse := fun w => hfe.size w
        have hag := fun w => hfe.isAgg w
        rw [Nat.eq_of_beq_eq_true h0] at hse
        rw [hek] at hag
        simp only [AV.is] at hu
        refine sameV (x := .v (.bool (xs.getD j.toNat false))) (fun w hR => run_val (v := .bool (xs.getD j.toNat false)) ?_) rfl hK
        have hc : 0 ≤ j ∧ j < (n : Int) := ⟨h5, h6⟩
        simp only [Instr.index, Sem.run_bind, run_underlying hut, Result.andThen_ok, hu, hv, asIntOf, Sem.run_pure]
        simp only [hc, and_self, if_true, Sem.run_bind, hse, Result.andThen_ok, Nat.mul_one, part, hag, TK.agg]
        simp [boolCells, h7]
      · rename_i n e cs he
        obtain ⟨h0, h5, h6, h7⟩ := req_spec h2
        have hut := under_arr (Tbl.fact hT (t := t) (by rw [he]; simp)) he
        have hse := fun w => (tyfact_of_size hT (t := e) (by have := blt_spec h0; omega)).size w
        simp only [AV.is] at hu
        have hc : 0 ≤ j ∧ j < (n : Int) := ⟨h5, h6⟩
        have hagf : (T.at e).k ≠ .other → ∀ w, (Go.isAgg e).run P w = .ok (T.at e).k.agg w := fun hne w => (Tbl.fact hT (t := e) hne).isAgg w
        suffices hh : ∃ v0, (∀ w, (part e cs (j.toNat * (T.at e).size)).run P w = .ok v0 w) ∧ K (S.put dst (.v v0)) by
          obtain ⟨v0, hp, hK⟩ := hh
          refine sameV (x := .v v0) (fun w hR => run_val (v := v0) ?_) rfl hK
          simp only [Instr.index, Sem.run_bind, run_underlying hut, Result.andThen_ok, hu, hv, asIntOf, Sem.run_pure]
          simp only [hc, and_self, if_true, Sem.run_bind, hse, Result.andThen_ok, hp]
        have one : (T.at e).k ≠ .other → (T.at e).k.agg = false → (∃ c, cs.toList[j.toNat * (T.at e).size]? = some c ∧ K (S.put dst (.v c))) → ∃ v0, (∀ w, (part e cs (j.toNat * (T.at e).size)).run P w = .ok v0 w) ∧ K (S.put dst (.v v0)) := fun hne hb hK => by
          obtain ⟨c, hc2, hK⟩ := hK
          have hc3 : cs[j.toNat * (T.at e).size]? = some c := by simpa using hc2
          exact ⟨c, fun w => by simp [part, hagf hne, hb, hc3], hK⟩
        have many : (T.at e).k ≠ .other → (T.at e).k.agg = true → K (S.put dst (.v (.agg (cs.extract (j.toNat * (T.at e).size) (j.toNat * (T.at e).size + (T.at e).size))))) → ∃ v0, (∀ w, (part e cs (j.toNat * (T.at e).size)).run P w = .ok v0 w) ∧ K (S.put dst (.v v0)) := fun hne hb hK => 
          ⟨_, fun w => by simp [part, hagf hne, hb, hse], hK⟩
        split at h7
        · rename_i hek; exact many (by rw [hek]; simp) (by rw [hek]; rfl) h7
        · rename_i hek; exact many (by rw [hek]; simp) (by rw [hek]; rfl) h7
        · exact h7.elim
        · rename_i h8 h9 h10
          exact one (fun h => h10 h) (by cases hek : (T.at e).k <;> first | rfl | exact (h8 _ hek).elim | exact (h9 _ _ hek).elim) h7
      · rename_i s hs
        obtain ⟨h3, h4, hK⟩ := h2
        have hut := under_str (Tbl.fact hT (t := t) (by rw [hs]; simp)) hs
        simp only [AV.is] at hu
        refine sameV (x := .v (.int .u8 (bt s j))) (fun w hR => run_val (v := .int .u8 (bt s j)) ?_) rfl hK
        simp only [Instr.index, Sem.run_bind, run_underlying hut, Result.andThen_ok, hu, hv, asIntOf, Sem.run_pure]
        have hlt : j.toNat < s.size := by omega
        have hget : (if 0 ≤ j then s[j.toNat]? else none) = some s[j.toNat] := by
          rw [if_pos h3]
          exact getElem?_pos s j.toNat hlt
        rw [hget]
        simp only [Sem.run_pure, bt]
        have : s.data.toList.getD j.toNat 0 = s[j.toNat] := by
          have h9 : j.toNat < s.data.size := hlt
          simp only [List.getD_eq_getElem?_getD, Array.getElem?_toList, h9, getElem?_pos, Option.getD_some]
          rfl
        rw [this]
      · exact h2.elim
    · exact h2.elim
  -- extract
  · rename_i x i
    obtain ⟨u, hu, h1⟩ := hR0.ev hk
    split at h1
    · rename_i vs
      simp only [AV.is] at hu
      split at h1
      · rename_i v hv
        obtain ⟨y, hy, hK⟩ := norm_sound h1 ψ S.ls.length
        have hv' : vs[i]? = some v := by simpa using hv
        exact sameV (fun w hR => run_val (by simp [Instr.extract, hu, hv'])) hy hK
      · exact h1.elim
    · exact h1.elim
  · simp [quietKind] at hq
  · exfalso
    obtain ⟨h1, _⟩ := req_spec hk
    cases op <;> simp_all [genB, quietKind]
theorem run_sound (hR : Rel ψ N D m0 w0 S a w) (hd : ∀ i, dst = some i → i < N) (hnd : ∀ c, op ≠ .defer c) {s : Sem Value} (he : (execOp a.eval ⟨dst, op, ty, pos, after, guard⟩).run P w = ((do pure (.value (← s))) : Sem Next).run P w)
    (hk : RunP P s S.m fun v m' => K ({ S with m := m' }.put dst (.v v))) : Stp P r N D m0 w0 Q ⟨dst, op, ty, pos, after, guard⟩ a w K := by
  obtain ⟨v, w', m', h1, h2, hF⟩ := hk w hR.sub
  exact Stp.val hnd (he.trans (run_val h1)) h2 ⟨ψ, (frame_rel hR hF).put rfl hd⟩
theorem gen_run {ρ : Operand → Value} (h : genB op = true) : execOp ρ ⟨dst, op, ty, pos, after, guard⟩ = ((do pure (.value (← opRun ty op ((opArgs op).map ρ)))) : Sem Next) := by
  cases op <;> first | rfl | (simp [genB] at h; done) | skip
  rename_i t x
  cases x with
  | none => rfl
  | some x => simp [genB] at h
/-- A slice with its parts: what it does, in any world. -/
theorem buildSlice_run (hT : T.ok P = true) {t e len : Nat} {parts : Array (Nat × Operand)} (he : (T.at t).k = .slice e) (h0 : 0 < (T.at e).size) (h2 : len * (T.at e).size ≤ 16777216) {cs : Array Value}
    (hcs : Instr.fill (fun i => some (i * (T.at e).size, (T.at e).size)) (zerosOf T e len).list.toArray (parts.toList.map fun x => (x.1, a.eval x.2)) = some cs) (w : World) :
    (execOp a.eval ⟨dst, .buildSlice t len parts, ty, pos, after, guard⟩).run P w = .ok (.value (.slice (some ⟨w.heap.size, 0, none⟩) len len)) (w.alloc (.cells cs.toList.toArray e (0, 0))) := by
  have hu := under_slice (Tbl.fact hT (t := t) (by rw [he]; simp)) he
  have hfe := tyfact_of_size hT (t := e) (by omega)
  obtain ⟨z, hz, hzl, _⟩ := hfe.zero
  have hzer : ((Array.range (len * (T.at e).size)).map ((if len * (T.at e).size = 0 then #[] else z.cells)[· % (if len * (T.at e).size = 0 then #[] else z.cells).size]!)).toList = (zerosOf T e len).list := by
    rw [← zeros_eq (T := T) e z hzl len hfe.len]
    by_cases h : len * (T.at e).size = 0
    · simp [h]
    · simp [h]
  have hmap : (parts.map fun (x : Nat × Operand) => (x.1, a.eval x.2)).toList = parts.toList.map fun x => (x.1, a.eval x.2) := by simp
  refine run_val (v := .slice (some ⟨w.heap.size, 0, none⟩) len len) (w' := w.alloc (.cells cs.toList.toArray e (0, 0))) ?_
  simp only [Instr.buildSlice, Sem.run_bind, run_underlying hu, Result.andThen_ok, hfe.size w]
  rw [if_neg (by omega)]
  have fin : ∀ zc : Array Value, ((Array.range (len * (T.at e).size)).map (zc[· % zc.size]!)).toList = (zerosOf T e len).list →
      (match Instr.fill (fun i => some (i * (T.at e).size, (T.at e).size)) ((Array.range (len * (T.at e).size)).map fun x => zc[x % zc.size]!) ((parts.map fun (x : Nat × Operand) => (x.1, a.eval x.2)).toList) with
        | some cells => do
          let __do_lift ← newRow e cells
          pure (Value.slice (some __do_lift) len len)
        | x => stuck "buildSlice: a part of the wrong size").run P w = .ok (.slice (some ⟨w.heap.size, 0, none⟩) len len) (w.alloc (.cells cs.toList.toArray e (0, 0))) := by
    intro zc hzc
    have : ((Array.range (len * (T.at e).size)).map fun x => zc[x % zc.size]!) = (zerosOf T e len).list.toArray := by
      apply Array.ext'
      rw [hzc]
    rw [this, hmap, hcs]
    rfl
  by_cases h : len * (T.at e).size = 0
  · rw [if_pos h]
    simp only [Sem.run_bind, Sem.run_pure, Result.andThen_ok]
    refine fin #[] ?_
    simpa [h] using hzer
  · rw [if_neg h]
    simp only [Sem.run_bind, Sem.run_pure, Result.andThen_ok, hz]
    refine fin z.cells ?_
    simpa [h] using hzer
theorem vcOp_sound (hT : T.ok P = true) (hB : bodiesOk P B = true) (hR : Rel ψ N D m0 w0 S a w) (hd : ∀ i, dst = some i → i < N) (hk : vcOp P T B pr dst op ty S K) : Stp P r N D m0 w0 Q ⟨dst, op, ty, pos, after, guard⟩ a w K := by
  by_cases hq : quietKind T op = true
  · obtain ⟨v, x, hx, hK, hrun⟩ := vcVal (pos := pos) (after := after) (guard := guard) hT hR hq hk
    exact same hR hd (fun c h => by rw [h] at hq; cases hq) (hrun w (.inr hR)) hx hK
  rw [vcOp_eq] at hk
  unfold vcOpS at hk
  split at hk
  · exact absurd rfl hq
  · exact absurd rfl hq
  · exact absurd rfl hq
  -- alloc
  · rename_i e
    obtain ⟨h0, h1⟩ := req_spec hk
    obtain ⟨z, hz, hzl, _⟩ := (tyfact_of_size hT (t := e) (by have := blt_spec h0; omega)).zero
    refine newK_sound (vs := z.cells) hR hd (fun c h => by cases h) hzl ?_ h1
    exact run_val (by simp only [Instr.alloc, Sem.run_bind, hz, Result.andThen_ok]; rfl)
  -- box
  · rename_i e x
    obtain ⟨u, hu, h1⟩ := hR.ev hk
    obtain ⟨c, hc, h2⟩ := contentK_sound h1 hu
    exact newK_sound (vs := (a.eval x).cells) hR hd (fun c h => by cases h) hc (run_val (by simp only [Instr.box]; rfl)) h2
  -- build
  · exact absurd rfl hq
  -- buildSlice
  · rename_i t len parts
    split at hk
    · rename_i e he
      obtain ⟨h0, h1⟩ := req_spec hk
      obtain ⟨h2, h3⟩ := req_spec h1
      have h2 := Nat.le_of_ble_eq_true h2
      have hu := under_slice (Tbl.fact hT (t := t) (by rw [he]; simp)) he
      have hfe := tyfact_of_size hT (t := e) (by have := blt_spec h0; omega)
      obtain ⟨z, hz, hzl, _⟩ := hfe.zero
      obtain ⟨cs, hcs, hk⟩ := fillK_sound hR (place' := fun i => some (i * (T.at e).size, (T.at e).size)) (fun i => rfl) parts.toList _ _ h3
      have hzer : ((Array.range (len * (T.at e).size)).map ((if len * (T.at e).size = 0 then #[] else z.cells)[· % (if len * (T.at e).size = 0 then #[] else z.cells).size]!)).toList = (zerosOf T e len).list := by
        rw [← zeros_eq (T := T) e z hzl len hfe.len]
        by_cases h : len * (T.at e).size = 0
        · simp [h]
        · simp [h]
      have hmap : (parts.map fun (x : Nat × Operand) => (x.1, a.eval x.2)).toList = parts.toList.map fun x => (x.1, a.eval x.2) := by simp
      refine Stp.val (fun c h => by cases h) (run_val (v := .slice (some ⟨w.heap.size, 0, none⟩) len len) (w' := w.alloc (.cells cs.toList.toArray e (0, 0))) ?_) (hk w.heap.size hR.fresh) ⟨ψ, (hR.alloc _).put rfl hd⟩
      simp only [Instr.buildSlice, Sem.run_bind, run_underlying hu, Result.andThen_ok, hfe.size w]
      rw [if_neg (by omega)]
      have fin : ∀ zc : Array Value, ((Array.range (len * (T.at e).size)).map (zc[· % zc.size]!)).toList = (zerosOf T e len).list →
          (match Instr.fill (fun i => some (i * (T.at e).size, (T.at e).size)) ((Array.range (len * (T.at e).size)).map fun x => zc[x % zc.size]!) ((parts.map fun (x : Nat × Operand) => (x.1, a.eval x.2)).toList) with
            | some cells => do
              let __do_lift ← newRow e cells
              pure (Value.slice (some __do_lift) len len)
            | x => stuck "buildSlice: a part of the wrong size").run P w = .ok (.slice (some ⟨w.heap.size, 0, none⟩) len len) (w.alloc (.cells cs.toList.toArray e (0, 0))) := by
        intro zc hzc
        have : ((Array.range (len * (T.at e).size)).map fun x => zc[x % zc.size]!) = (zerosOf T e len).list.toArray := by
          apply Array.ext'
          rw [hzc]
        rw [this, hmap, hcs]
        rfl
      by_cases h : len * (T.at e).size = 0
      · rw [if_pos h]
        simp only [Sem.run_bind, Sem.run_pure, Result.andThen_ok]
        refine fin #[] ?_
        simpa [h] using hzer
      · rw [if_neg h]
        simp only [Sem.run_bind, Sem.run_pure, Result.andThen_ok, hz]
        refine fin z.cells ?_
        simpa [h] using hzer
    · exact hk.elim
  · exact absurd rfl hq
  -- store
  · rename_i t p u
    obtain ⟨h0, h1⟩ := req_spec hk
    have h0 := blt_spec h0
    obtain ⟨x, hx, h2⟩ := hR.ev h1
    obtain ⟨y, hy, h3⟩ := hR.ev h2
    have hrun : ∀ {q : Addr} {w' : World}, a.eval p = .pointer (some q) → (storeVar t q (a.eval u)).run P w = .ok () w' → (execOp a.eval ⟨dst, .store t p u, ty, pos, after, guard⟩).run P w = .ok .skip w' := by
      intro q w' h4 h5
      simp only [execOp, Instr.storeAt, h4, Instr.sureAddr, pure_bind, Sem.run_bind, h5, Result.andThen_ok]
      rfl
    split at h3
    · rename_i i off
      split at h3
      · rename_i c hc
        obtain ⟨w', c', h4, hK, hR'⟩ := stLoc_sound hT hR hc hy h3 (by omega)
        exact Stp.skip (fun c h => by cases h) (hrun hx.2 h4) hK ⟨ψ, hR'.undef _ hd⟩
      · exact h3.elim
    · rename_i q
      obtain ⟨w', m', h4, hK, hR'⟩ := stMem_sound hT hR hy h3 (by omega)
      simp only [AV.is] at hx
      exact Stp.skip (fun c h => by cases h) (hrun hx h4) hK ⟨ψ, hR'.undef _ hd⟩
    · exact h3.elim
  · exact absurd rfl hq
  · exact absurd rfl hq
  · exact absurd rfl hq
  -- convert
  · rename_i s d x
    obtain ⟨u, hu, h1⟩ := hR.ev hk
    split at h1
    · rename_i hks hkd
      simp [quietKind, hks, hkd] at hq
    · rename_i e t hks hkd
      obtain ⟨h2, h3⟩ := req_spec h1
      simp only [AV.is] at hu
      have hus := under_str (Tbl.fact hT (t := s) (by rw [hks]; simp)) hks
      have hud := under_slice (Tbl.fact hT (t := d) (by rw [hkd]; simp)) hkd
      have hue := isInt_under hT h2
      have hcapge : t.size ≤ grownCap w t.size 0 e := by simp only [grownCap, Question.cut]; omega
      have hR' := hR.drew (Nat.le_succ w.drawn)
      have hobj : Obj.cells (bytesRow t (grownCap w t.size 0 e)) e ((bytesRow t (grownCap w t.size 0 e)).size, (bytesRow t (grownCap w t.size 0 e)).size + 1) = bytesObj t (grownCap w t.size 0 e) e := by
        have hrow : bytesRow t (grownCap w t.size 0 e) = (byteRow t (grownCap w t.size 0 e)).toArray := by
          apply Array.ext'
          simp [bytesRow, byteRow, byteVals]
        unfold bytesObj
        rw [hrow]
        simp
      refine Stp.val (fun c h => by cases h) (run_val (v := .slice (some ⟨w.heap.size, 0, none⟩) t.size (grownCap w t.size 0 e)) (w' := w.drew.alloc (bytesObj t (grownCap w t.size 0 e) e)) ?_) (h3 _ w.heap.size hcapge hR.fresh) ⟨ψ, (hR'.alloc _).put rfl hd⟩
      simp only [hu]
      rw [run_bytes_of_string w s d e t hus hud hue, hobj]
    · rename_i hks hkd
      simp [quietKind, hks, hkd] at hq
    · exact h1.elim
    · exact h1.elim
    · exact h1.elim
    · simp only [AV.is] at hu
      exact run_sound hR hd (fun c h => by cases h) (by rw [← hu]; rfl) h1
    · exact h1.elim
  · exact absurd rfl hq
  -- makeSlice
  · rename_i t l c
    obtain ⟨x, hx, h1⟩ := hR.ev hk
    obtain ⟨y, hy, h2⟩ := hR.ev h1
    split at h2
    · rename_i e n cp he
      obtain ⟨h0, h3, h4, h5, h6, hK⟩ := req_spec h2
      simp only [AV.is] at hx hy
      have hu := under_slice (Tbl.fact hT (t := t) (by rw [he]; simp)) he
      have hfe := tyfact_of_size hT (t := e) (by have := blt_spec h0; omega)
      obtain ⟨z, hz, hzl, _⟩ := hfe.zero
      obtain ⟨inf, hinf, hb, _⟩ := hfe.typeInfo w
      have hwn : IntKind.i64.wrap n = n := wrap_i64 h3 (by omega)
      have hwc : IntKind.i64.wrap cp = cp := wrap_i64 (by omega) h5
      have hK' := hK w.heap.size hR.fresh
      refine Stp.val (fun c h => by cases h) (run_val (v := .slice (some ⟨w.heap.size, 0, none⟩) n.toNat cp.toNat) (w' := w.alloc (.cells (zerosOf T e cp.toNat).list.toArray e (0, 0))) ?_) hK' ⟨ψ, (hR.alloc _).put rfl hd⟩
      simp only [Instr.makeSlice, Sem.run_bind, run_underlying hu, Result.andThen_ok, hx, hy, asInt, asIntOf, Sem.run_pure, hinf, hb, hwn, hwc]
      have c1 : ¬ cp < 0 := by omega
      have c2 : ¬ ((T.at e).bytes : Int) * cp > 2 ^ 48 := by omega
      have c3 : ¬ n < 0 := by omega
      have c4 : ¬ n > cp := by omega
      rw [if_neg (by simp only [Bool.or_eq_true, decide_eq_true_eq]; rintro (((h | h) | h) | h) <;> contradiction)]
      have hse := hfe.size w
      have hzer := zeros_eq (T := T) e z hzl cp.toNat hfe.len
      simp only [Sem.run_bind, run_askRoom, Result.andThen_ok, hse]
      by_cases h : cp.toNat * (T.at e).size = 0
      · rw [if_pos h]
        have h0' : (zerosOf T e cp.toNat).list.toArray = #[] := by
          apply Array.ext'
          rw [List.toList_toArray, ← hzer, h]
          simp
        simp only [Sem.run_bind, Sem.run_pure, Result.andThen_ok, h, h0']
        rw [show (Array.map (fun x => (#[] : Array Value)[x % (#[] : Array Value).size]!) (Array.range 0)) = #[] from by simp]
        rfl
      · rw [if_neg h]
        have h0' : (zerosOf T e cp.toNat).list.toArray = (Array.range (cp.toNat * (T.at e).size)).map fun x => z.cells[x % z.cells.size]! := by
          apply Array.ext'
          rw [List.toList_toArray, ← hzer]
        simp only [Sem.run_bind, Sem.run_pure, Result.andThen_ok, hz, h0']
        rfl
    · exact h2.elim
  · exact absurd rfl hq
  · exact absurd rfl hq
  · exact absurd rfl hq
  · exact absurd rfl hq
  · exact absurd rfl hq
  · exact absurd rfl hq
  -- call
  · exact call_sound hT hB hR hd hk
  · obtain ⟨h1, h2⟩ := req_spec hk
    exact run_sound hR hd (fun c h => by rw [h] at h1; cases h1) (by rw [gen_run h1]) (hR.evs h2)
end
end Go.Mv
