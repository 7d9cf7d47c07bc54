/- SetsAll: told of the program. -/
import Derived.Test.YtegeeofjebpgbaaDoorSsO
namespace Go.Proofs.YtegeeofjebpgbaaDoor
open Go Go.Mv
set_option maxHeartbeats 2000000
set_option maxRecDepth 10000
set_option linter.unusedVariables false
set_option linter.unusedSimpArgs false
attribute [local irreducible] FCalls IntKind.wrap bits Mem.set Mem.setCell Mem.setCells YCalls
def toI (rs : List (Nat × Nat)) : List (Int × Int) := rs.map fun r => (((r.1 : Nat) : Int), ((r.2 : Nat) : Int))
/-- The blocks of the law, one turn. -/
def LA (b8 bb b6 : Nat) (G : Nat → Nat) (Al : Option Addr) (n cl turn : Nat) : List (Nat × List Value) := [(b8, [.int .i64 (turn : Int)]), (bb, intCells .u64 (W G)), (b6, [.slice Al n cl])]
theorem all_law {m : Mem} {G : Nat → Nat} {k : Int} (hT : Tz m) (h : WOk G) : FCalls Tryd.prog 4 [wv G, .int .i64 k] m fun v m' => v = .bool true ∧ ∀ b o, m b = some o → m' b = some o := by
  refine fcalls_of_vc (T := tbl) (B := bodies) (pr := [2]) (DR := dr4) (args := [.ints .u64 (W G), .v (.int .i64 k)]) tbl_ok bodies_ok mixed Tryd.func4 rfl (by decide +kernel) (by simp [Tryd.f4]) rfl ?_
  (conv => whnf)
  intro b3 hb3
  have o3 := (Own.nil (m := m)).new (l := [.int .i64 k]) (e := 3) hb3
  (conv => whnf)
  intro b4 hb4
  have o4 := o3.new (l := [.bool false]) (e := 4) hb4
  (conv => whnf)
  refine FCalls.mono (examples_c (hT.more o4.old)) fun v m' ⟨h1, h2⟩ => ?_
  subst h1 h2
  (conv => whnf)
  refine ⟨rfl, W_len.symm, ?_⟩
  (conv => whnf)
  refine FCalls.mono (list_c h) fun v m1 ⟨Al, cl, h2, hL, hold1⟩ => ?_
  subst h2
  have hlen256 := elems_len (has G)
  have o41 := o4.more hold1
  have hT1 := hT.more o41.old
  (conv => whnf)
  intro b6 hb6
  have p6 := (Own.nil (m := m1)).new (l := [.slice none 0 0]) (e := 34) hb6
  (conv => whnf)
  refine ⟨p6.room 0 rfl (i := 0) rfl, ?_⟩
  have p6' := p6.put 0 (i := 0) (.slice Al (elems (has G)).length cl) rfl
  (conv => whnf)
  refine ⟨rfl, W_len.symm, ?_⟩
  (conv => whnf)
  refine FCalls.mono all_c fun v m' ⟨bb, e, hbb, hv, hm⟩ => ?_
  subst hv hm
  have pb := p6'.new (l := intCells .u64 (W G)) (e := e) hbb
  (conv => whnf)
  intro b8 hb8
  have p8 := pb.new (l := [.int .i64 0]) (e := 3) hb8
  (conv => whnf)
  refine ⟨p8.room 0 rfl (i := 0) rfl, ?_⟩
  have p8' : Own m1 _ (LA b8 bb b6 G Al (elems (has G)).length cl 0) := p8.put 0 (i := 0) (.int .i64 ((0 : Nat) : Int)) rfl
  (conv => whnf)
  refine loop_keep [2, 3, 4, 6, 7] (Nat × Nat × Mem) (fun s => [(8, .v (.pointer (some ⟨s.2.1, 0, none⟩)))]) (fun _ => [.ints .u64 (W G)]) (fun s => s.2.2) (fun s => s.1 ≤ 2 ∧ Own m1 s.2.2 (LA s.2.1 bb b6 G Al (elems (has G)).length cl s.1)) (fun s => 2 - s.1) (0, b8, _) ⟨rfl, trivial⟩ rfl rfl ⟨by simp only; omega, p8'⟩ ?_
  clear p8 p8' hb8
  (conv => whnf)
  refine ⟨rfl, fun s hs => ?_⟩
  obtain ⟨turn, b8, M⟩ := s
  obtain ⟨ht, hO⟩ := hs
  simp only at ht hO
  (conv => whnf)
  refine ⟨_, hO.cell 0 rfl (i := 0) rfl, ?_⟩
  (conv => whnf)
  refine brk_intro (fun h1 => ?_) (fun h1 => ?_)
  · have h1 : (turn : Int) < 2 := by simpa using h1
    (conv => whnf)
    intro b9 hb9
    have q9 := hO.new (l := [.int .i64 0]) (e := 3) hb9
    (conv => whnf)
    refine ⟨q9.room 0 rfl (i := 0) rfl, ?_⟩
    have q9' := q9.put 0 (i := 0) (.int .i64 ((0 : Nat) : Int)) rfl
    (conv => whnf)
    have hB3' : Blk m1 b3 [.int .i64 k] := o41.at 1 rfl
    have hB3f : ∀ M', (∀ b o, m1 b = some o → M' b = some o) → Blk M' b3 [.int .i64 k] := fun M' hM' => by
      obtain ⟨e3, h3⟩ := hB3'
      exact ⟨e3, hM' _ _ h3⟩
    have hrange : ∀ (i : Nat) (vs : List Value), ((elems (has G)).map fun x => [Value.int .i64 ((x : Nat) : Int)])[i]? = some vs → ∃ x, (elems (has G))[i]? = some x ∧ vs = [.int .i64 ((x : Nat) : Int)] := by
      intro i vs hx
      rw [List.getElem?_map] at hx
      obtain ⟨x, hx', rfl⟩ := Option.map_eq_some_iff.1 hx
      exact ⟨x, hx', rfl⟩
    obtain rfl | rfl : turn = 0 ∨ turn = 1 := by omega
    · refine range_iter (all_iter h bb) (fun m l o hl hI => ⟨hI.1.set hl, hI.2.set hl⟩) (fun i vs hx => by obtain ⟨x, _, rfl⟩ := hrange i vs hx; rfl) (fun j M' => Own m1 M' ((b9, [.int .i64 ((j : Nat) : Int)]) :: LA b8 bb b6 G Al (elems (has G)).length cl _)) q9' (fun j M' hP => ⟨hT1.more hP.old, SetIn.of (hP.at 2 rfl)⟩) (fun j vs M' hx hP => ?_) (fun M' hP => ?_)
      rotate_left
      · have hlen : (List.map (fun x => [Value.int IntKind.i64 ((x : Nat) : Int)]) (elems (has G))).length = (elems (has G)).length := by simp
        rw [hlen] at hP
        have hB3 := hB3f M' hP.old
        have hN : k ≤ 0 → (elems (has G)).length = (elems (has G)).length := fun _ => rfl
        (conv => whnf)
        refine ⟨_, hP.cell 1 rfl (i := 0) rfl, ?_⟩
        (conv => whnf)
        refine ⟨_, hP.cell 1 rfl (i := 0) rfl, ?_⟩
        (conv => whnf)
        refine ⟨_, hB3.cell (i := 0) rfl, ?_⟩
        (conv => whnf)
        refine brk_intro (fun g1 => ?_) (fun g1 => ?_)
        · have g1 : k ≤ 0 := by simpa using g1
          have hN := hN g1
          (conv => whnf)
          refine ⟨_, hP.cell 0 rfl (i := 0) rfl, ?_⟩
          (conv => whnf)
          refine ⟨_, _, _, hP.cell 3 rfl (i := 0) rfl, ?_⟩
          (conv => whnf)
          refine brk_false (by rw [hN]; simp) ?_
          (conv => whnf)
          refine ⟨_, hP.cell 1 rfl (i := 0) rfl, ?_⟩
          (conv => whnf)
          intro b8' hb8'
          have r8 := hP.new (l := [.int .i64 0]) (e := 3) hb8'
          (conv => whnf)
          refine ⟨r8.room 0 rfl (i := 0) rfl, ?_⟩
          have r8' := r8.put 0 (i := 0) (.int .i64 ((0 : Nat) : Int)) rfl
          (conv => whnf)
          refine ⟨_, r8'.cell 0 rfl (i := 0) rfl, ?_⟩
          (conv => whnf)
          refine ⟨r8'.room 0 rfl (i := 0) rfl, ?_⟩
          have r8'' := r8'.put 0 (i := 0) (.int .i64 ((0 + 1 : Nat) : Int)) rfl
          have rfin : Own m1 _ (LA b8' bb b6 G Al (elems (has G)).length cl (0 + 1)) := r8''.sublist (.cons_cons _ (.cons _ (.cons _ (List.Sublist.refl _))))
          have ew : IntKind.i64.wrap (((0 : Nat) : Int) + 1) = ((0 + 1 : Nat) : Int) := wrap_id (by omega) (by omega)
          (conv => whnf)
          rw [ew]
          exact ⟨(0 + 1, b8', _), le_eq ⟨rfl, rfl, rfl, rfl, rfl, rfl, trivial⟩ rfl rfl rfl, ⟨by simp only; omega, rfin⟩, by simp only; omega⟩
        · have g1 : ¬ k ≤ 0 := by simpa using g1
          (conv => whnf)
          refine ⟨_, hP.cell 1 rfl (i := 0) rfl, ?_⟩
          (conv => whnf)
          intro b8' hb8'
          have r8 := hP.new (l := [.int .i64 0]) (e := 3) hb8'
          (conv => whnf)
          refine ⟨r8.room 0 rfl (i := 0) rfl, ?_⟩
          have r8' := r8.put 0 (i := 0) (.int .i64 ((0 : Nat) : Int)) rfl
          (conv => whnf)
          refine ⟨_, r8'.cell 0 rfl (i := 0) rfl, ?_⟩
          (conv => whnf)
          refine ⟨r8'.room 0 rfl (i := 0) rfl, ?_⟩
          have r8'' := r8'.put 0 (i := 0) (.int .i64 ((0 + 1 : Nat) : Int)) rfl
          have rfin : Own m1 _ (LA b8' bb b6 G Al (elems (has G)).length cl (0 + 1)) := r8''.sublist (.cons_cons _ (.cons _ (.cons _ (List.Sublist.refl _))))
          have ew : IntKind.i64.wrap (((0 : Nat) : Int) + 1) = ((0 + 1 : Nat) : Int) := wrap_id (by omega) (by omega)
          (conv => whnf)
          rw [ew]
          exact ⟨(0 + 1, b8', _), le_eq ⟨rfl, rfl, rfl, rfl, rfl, rfl, trivial⟩ rfl rfl rfl, ⟨by simp only; omega, rfin⟩, by simp only; omega⟩
      · obtain ⟨x, hx', rfl⟩ := hrange j vs hx
        have hjl := (List.getElem?_eq_some_iff.1 hx').1
        have hB3 := hB3f M' hP.old
        have hLM := hL.keep (m' := M') fun b _ hb => by
          cases hm : m1 b with
          | none => exact absurd hm hb
          | some o => exact hP.old b o hm
        obtain ⟨bl, hAl, _, hxc, _⟩ := hLM.cell (k := j) (v := .int .i64 (x : Int)) (by simp [cellsN, hx'])
        have eal : ((⟨bl, 0, none⟩ : Addr).add ((j : Int).toNat * (tbl.at 3).size)) = ⟨bl, j, none⟩ := by
          rw [add_mk, Nat.zero_add]
          show (⟨bl, (j : Int).toNat * 1, none⟩ : Addr) = _
          rw [show (j : Int).toNat * 1 = j by omega]
        have e1 : decide ((j : Int) ≥ (((elems (has G)).length : Nat) : Int)) = false := decide_eq_false (by omega)
        have e2 : IntKind.i64.wrap ((j : Int) + 1) = ((j + 1 : Nat) : Int) := by rw [wrap_id (by omega) (by omega)]; omega
        (conv => whnf)
        refine ⟨_, hP.cell 0 rfl (i := 0) rfl, ?_⟩
        (conv => whnf)
        refine ⟨_, _, _, hP.cell 3 rfl (i := 0) rfl, ?_⟩
        (conv => whnf)
        refine brk_true (by rw [e1]; rfl) ?_
        (conv => whnf)
        refine ⟨_, _, _, hP.cell 3 rfl (i := 0) rfl, ?_⟩
        (conv => whnf)
        refine ⟨_, hP.cell 0 rfl (i := 0) rfl, ?_⟩
        (conv => whnf)
        refine ⟨_, hAl, by omega, by omega, ?_⟩
        (conv => whnf)
        refine ⟨_, by rw [eal, hxc], ?_⟩
        (conv => whnf)
        refine brk_false (by simp) ?_
        (conv => whnf)
        refine ⟨_, hP.cell 0 rfl (i := 0) rfl, ?_⟩
        (conv => whnf)
        refine ⟨hP.room 0 rfl (i := 0) rfl, ?_⟩
        have hP2 := hP.put 0 (i := 0) (.int .i64 ((j + 1 : Nat) : Int)) rfl
        (conv => whnf)
        rw [e2]
        refine ⟨_, hP2.cell 1 rfl (i := 0) rfl, ?_⟩
        (conv => whnf)
        refine ⟨_, hP2.cell 0 rfl (i := 0) rfl, ?_⟩
        (conv => whnf)
        refine ⟨_, (hB3f _ hP2.old).cell (i := 0) rfl, ?_⟩
        (conv => whnf)
        refine brk_intro (fun g5 => ?_) (fun g5 => ?_)
        · have g5 : (((j + 1 : Nat) : Int)) = k := by simpa using g5
          clear hP hB3
          have hP := hP2
          have hB3 := hB3f _ hP.old
          have hN : k ≤ 0 → j + 1 = (elems (has G)).length := fun h => by omega
          (conv => whnf)
          refine ⟨_, hP.cell 1 rfl (i := 0) rfl, ?_⟩
          (conv => whnf)
          refine ⟨_, hP.cell 1 rfl (i := 0) rfl, ?_⟩
          (conv => whnf)
          refine ⟨_, hB3.cell (i := 0) rfl, ?_⟩
          (conv => whnf)
          refine brk_intro (fun g1 => ?_) (fun g1 => ?_)
          · have g1 : k ≤ 0 := by simpa using g1
            have hN := hN g1
            (conv => whnf)
            refine ⟨_, hP.cell 0 rfl (i := 0) rfl, ?_⟩
            (conv => whnf)
            refine ⟨_, _, _, hP.cell 3 rfl (i := 0) rfl, ?_⟩
            (conv => whnf)
            refine brk_false (by rw [hN]; simp) ?_
            (conv => whnf)
            refine ⟨_, hP.cell 1 rfl (i := 0) rfl, ?_⟩
            (conv => whnf)
            intro b8' hb8'
            have r8 := hP.new (l := [.int .i64 0]) (e := 3) hb8'
            (conv => whnf)
            refine ⟨r8.room 0 rfl (i := 0) rfl, ?_⟩
            have r8' := r8.put 0 (i := 0) (.int .i64 ((0 : Nat) : Int)) rfl
            (conv => whnf)
            refine ⟨_, r8'.cell 0 rfl (i := 0) rfl, ?_⟩
            (conv => whnf)
            refine ⟨r8'.room 0 rfl (i := 0) rfl, ?_⟩
            have r8'' := r8'.put 0 (i := 0) (.int .i64 ((0 + 1 : Nat) : Int)) rfl
            have rfin : Own m1 _ (LA b8' bb b6 G Al (elems (has G)).length cl (0 + 1)) := r8''.sublist (.cons_cons _ (.cons _ (.cons _ (List.Sublist.refl _))))
            have ew : IntKind.i64.wrap (((0 : Nat) : Int) + 1) = ((0 + 1 : Nat) : Int) := wrap_id (by omega) (by omega)
            (conv => whnf)
            rw [ew]
            exact ⟨(0 + 1, b8', _), le_eq ⟨rfl, rfl, rfl, rfl, rfl, rfl, trivial⟩ rfl rfl rfl, ⟨by simp only; omega, rfin⟩, by simp only; omega⟩
          · have g1 : ¬ k ≤ 0 := by simpa using g1
            (conv => whnf)
            refine ⟨_, hP.cell 1 rfl (i := 0) rfl, ?_⟩
            (conv => whnf)
            intro b8' hb8'
            have r8 := hP.new (l := [.int .i64 0]) (e := 3) hb8'
            (conv => whnf)
            refine ⟨r8.room 0 rfl (i := 0) rfl, ?_⟩
            have r8' := r8.put 0 (i := 0) (.int .i64 ((0 : Nat) : Int)) rfl
            (conv => whnf)
            refine ⟨_, r8'.cell 0 rfl (i := 0) rfl, ?_⟩
            (conv => whnf)
            refine ⟨r8'.room 0 rfl (i := 0) rfl, ?_⟩
            have r8'' := r8'.put 0 (i := 0) (.int .i64 ((0 + 1 : Nat) : Int)) rfl
            have rfin : Own m1 _ (LA b8' bb b6 G Al (elems (has G)).length cl (0 + 1)) := r8''.sublist (.cons_cons _ (.cons _ (.cons _ (List.Sublist.refl _))))
            have ew : IntKind.i64.wrap (((0 : Nat) : Int) + 1) = ((0 + 1 : Nat) : Int) := wrap_id (by omega) (by omega)
            (conv => whnf)
            rw [ew]
            exact ⟨(0 + 1, b8', _), le_eq ⟨rfl, rfl, rfl, rfl, rfl, rfl, trivial⟩ rfl rfl rfl, ⟨by simp only; omega, rfin⟩, by simp only; omega⟩
        · (conv => whnf)
          exact hP2
    · refine range_iter (all_iter h bb) (fun m l o hl hI => ⟨hI.1.set hl, hI.2.set hl⟩) (fun i vs hx => by obtain ⟨x, _, rfl⟩ := hrange i vs hx; rfl) (fun j M' => Own m1 M' ((b9, [.int .i64 ((j : Nat) : Int)]) :: LA b8 bb b6 G Al (elems (has G)).length cl _)) q9' (fun j M' hP => ⟨hT1.more hP.old, SetIn.of (hP.at 2 rfl)⟩) (fun j vs M' hx hP => ?_) (fun M' hP => ?_)
      rotate_left
      · have hlen : (List.map (fun x => [Value.int IntKind.i64 ((x : Nat) : Int)]) (elems (has G))).length = (elems (has G)).length := by simp
        rw [hlen] at hP
        have hB3 := hB3f M' hP.old
        have hN : (elems (has G)).length = (elems (has G)).length := rfl
        (conv => whnf)
        refine ⟨_, hP.cell 1 rfl (i := 0) rfl, ?_⟩
        (conv => whnf)
        refine ⟨_, hP.cell 0 rfl (i := 0) rfl, ?_⟩
        (conv => whnf)
        refine ⟨_, _, _, hP.cell 3 rfl (i := 0) rfl, ?_⟩
        (conv => whnf)
        refine brk_true (by rw [hN]; simp) ?_
        (conv => whnf)
        refine ⟨_, hP.cell 1 rfl (i := 0) rfl, ?_⟩
        (conv => whnf)
        refine ⟨_, hP.cell 1 rfl (i := 0) rfl, ?_⟩
        (conv => whnf)
        intro b8' hb8'
        have r8 := hP.new (l := [.int .i64 0]) (e := 3) hb8'
        (conv => whnf)
        refine ⟨r8.room 0 rfl (i := 0) rfl, ?_⟩
        have r8' := r8.put 0 (i := 0) (.int .i64 ((1 : Nat) : Int)) rfl
        (conv => whnf)
        refine ⟨_, r8'.cell 0 rfl (i := 0) rfl, ?_⟩
        (conv => whnf)
        refine ⟨r8'.room 0 rfl (i := 0) rfl, ?_⟩
        have r8'' := r8'.put 0 (i := 0) (.int .i64 ((1 + 1 : Nat) : Int)) rfl
        have rfin : Own m1 _ (LA b8' bb b6 G Al (elems (has G)).length cl (1 + 1)) := r8''.sublist (.cons_cons _ (.cons _ (.cons _ (List.Sublist.refl _))))
        have ew : IntKind.i64.wrap (((1 : Nat) : Int) + 1) = ((1 + 1 : Nat) : Int) := wrap_id (by omega) (by omega)
        (conv => whnf)
        rw [ew]
        exact ⟨(1 + 1, b8', _), le_eq ⟨rfl, rfl, rfl, rfl, rfl, rfl, trivial⟩ rfl rfl rfl, ⟨by simp only; omega, rfin⟩, by simp only; omega⟩
      · obtain ⟨x, hx', rfl⟩ := hrange j vs hx
        have hjl := (List.getElem?_eq_some_iff.1 hx').1
        have hB3 := hB3f M' hP.old
        have hLM := hL.keep (m' := M') fun b _ hb => by
          cases hm : m1 b with
          | none => exact absurd hm hb
          | some o => exact hP.old b o hm
        obtain ⟨bl, hAl, _, hxc, _⟩ := hLM.cell (k := j) (v := .int .i64 (x : Int)) (by simp [cellsN, hx'])
        have eal : ((⟨bl, 0, none⟩ : Addr).add ((j : Int).toNat * (tbl.at 3).size)) = ⟨bl, j, none⟩ := by
          rw [add_mk, Nat.zero_add]
          show (⟨bl, (j : Int).toNat * 1, none⟩ : Addr) = _
          rw [show (j : Int).toNat * 1 = j by omega]
        have e1 : decide ((j : Int) ≥ (((elems (has G)).length : Nat) : Int)) = false := decide_eq_false (by omega)
        have e2 : IntKind.i64.wrap ((j : Int) + 1) = ((j + 1 : Nat) : Int) := by rw [wrap_id (by omega) (by omega)]; omega
        (conv => whnf)
        refine ⟨_, hP.cell 0 rfl (i := 0) rfl, ?_⟩
        (conv => whnf)
        refine ⟨_, _, _, hP.cell 3 rfl (i := 0) rfl, ?_⟩
        (conv => whnf)
        refine brk_true (by rw [e1]; rfl) ?_
        (conv => whnf)
        refine ⟨_, _, _, hP.cell 3 rfl (i := 0) rfl, ?_⟩
        (conv => whnf)
        refine ⟨_, hP.cell 0 rfl (i := 0) rfl, ?_⟩
        (conv => whnf)
        refine ⟨_, hAl, by omega, by omega, ?_⟩
        (conv => whnf)
        refine ⟨_, by rw [eal, hxc], ?_⟩
        (conv => whnf)
        refine brk_false (by simp) ?_
        (conv => whnf)
        refine ⟨_, hP.cell 0 rfl (i := 0) rfl, ?_⟩
        (conv => whnf)
        refine ⟨hP.room 0 rfl (i := 0) rfl, ?_⟩
        have hP2 := hP.put 0 (i := 0) (.int .i64 ((j + 1 : Nat) : Int)) rfl
        (conv => whnf)
        rw [e2]
        refine ⟨_, hP2.cell 1 rfl (i := 0) rfl, ?_⟩
        (conv => whnf)
        exact hP2
  · have h1 : ¬ ((turn : Int) < 2) := by simpa using h1
    have hTM := hT1.more hO.old
    have hgl : (toI (rangesOf (elems (has G)))).length = (rangesOf (elems (has G))).length := by simp [toI]
    have hl256 : (rangesOf (elems (has G))).length ≤ 256 := Nat.le_trans (rangesOf_len _) (elems_len _)
    (conv => whnf)
    refine ⟨rfl, W_len.symm, ?_⟩
    (conv => whnf)
    refine FCalls.mono (rranges_c h) fun v M4 ⟨A1, c1, g1, hsl1, hold4⟩ => ?_
    subst g1
    have hT4 := hTM.more hold4
    (conv => whnf)
    refine ⟨rfl, W_len.symm, ?_⟩
    (conv => whnf)
    refine FCalls.mono (ranges_c hT4 h) fun v M5 ⟨A2, c2, g2, hsl2, hold5⟩ => ?_
    subst g2
    have hw : ∀ M', (∀ b o, M4 b = some o → M' b = some o) → RowR M' A1 (toI (rangesOf (elems (has G)))) := fun M' hM' => RowR.of_sl (hsl1.keep (m' := M') fun b _ hb => by
      cases hm : M4 b with
      | none => exact absurd hm hb
      | some o => exact hM' b o hm)
    have hsame := fun M' A c (hx : RowR M' A (toI (rangesOf (elems (has G))))) (hM' : ∀ b o, M4 b = some o → M' b = some o) => same_c (m := M') (A := A) (B := A1) (c := c) (d := c1) hx (hw M' hM') (by omega)
    rw [hgl] at hsame
    have hdec : decide (toI (rangesOf (elems (has G))) = toI (rangesOf (elems (has G)))) = true := decide_eq_true rfl
    rw [hdec] at hsame
    (conv => whnf)
    refine FCalls.mono (hsame M5 A2 c2 (RowR.of_sl hsl2) hold5) fun v m' ⟨g3, g4⟩ => ?_
    subst g3 g4
    generalize hrs : rangesOf (elems (has G)) = rs at *
    (conv => whnf)
    refine loop_keep [2, 4, 11, 12, 13] (Nat × Mem) (fun s => [(14, .v (.int .i64 s.1))]) (fun _ => [.ints .u64 (W G)]) (fun s => s.2) (fun s => s.1 ≤ rs.length ∧ (∃ vs : List Value, vs.length = rs.length * 2 ∧ Sl s.2 (fun k => M4 k = none) A2 rs.length c2 2 vs) ∧ ∀ b o, M4 b = some o → s.2 b = some o) (fun s => rs.length - s.1) (0, m') ⟨rfl, trivial⟩ rfl rfl ⟨by simp only; omega, ⟨_, cellsR_len _, hsl2⟩, hold5⟩ ?_
    (conv => whnf)
    refine ⟨rfl, fun s hs => ?_⟩
    obtain ⟨i, M6⟩ := s
    obtain ⟨hi, ⟨vs, hvs, hS⟩, hold6⟩ := hs
    simp only at hi hS hold6
    (conv => whnf)
    refine brk_intro (fun g5 => ?_) (fun g5 => ?_)
    · have g5 : (i : Int) < rs.length := by simpa using g5
      obtain ⟨bx, hA2, hF, hroom, hS2, hoth⟩ := hS.overs (k := i * 2) [.int .i64 (-1), .int .i64 (-9)] (by simp; omega) (by simp)
      have ea : ((⟨bx, 0, none⟩ : Addr).add ((i : Int).toNat * (tbl.at 40).size)) = ⟨bx, i * 2, none⟩ := by
        rw [add_mk, Nat.zero_add]
        show (⟨bx, (i : Int).toNat * 2, none⟩ : Addr) = _
        rw [show (i : Int).toNat = i by omega]
      have hstep : IntKind.i64.wrap ((i : Int) + 1) = ((i + 1 : Nat) : Int) := by rw [wrap_id (by omega) (by omega)]; omega
      (conv => whnf)
      refine ⟨_, hA2, by omega, g5, ?_⟩
      (conv => whnf)
      refine ⟨by rw [ea]; exact hroom, ?_⟩
      (conv => whnf)
      refine ⟨(i + 1, _), le_eq ⟨by show some (AV.v (.int .i64 (IntKind.i64.wrap ((i : Int) + 1)))) = _; rw [hstep], rfl, rfl, rfl, rfl, rfl, trivial⟩ rfl rfl rfl, ⟨by simp only; omega, ⟨writeAt vs (i * 2) [.int .i64 (-1), .int .i64 (-9)], by rw [writeAt_len, hvs], ?_⟩, fun b o hb => ?_⟩, by simp only; omega⟩
      · simp only
        rw [ea]
        exact hS2
      · simp only
        rw [ea]
        exact (hoth b (by rintro rfl; rw [hF] at hb; cases hb)).trans (hold6 b o hb)
    · (conv => whnf)
      refine ⟨rfl, W_len.symm, ?_⟩
      (conv => whnf)
      have hT6 := hT4.more hold6
      refine FCalls.mono (ranges_c hT6 h) fun v M7 ⟨A3, c3, g6, hsl3, hold7⟩ => ?_
      rw [hrs] at g6 hsl3
      subst g6
      have hold47 : ∀ b o, M4 b = some o → M7 b = some o := fun b o hb => hold7 b o (hold6 b o hb)
      (conv => whnf)
      refine FCalls.mono (hsame M7 A3 c3 (RowR.of_sl hsl3) hold47) fun v m' ⟨g7, g8⟩ => ?_
      subst g7 g8
      obtain ⟨e4, he4⟩ := o41.at 0 rfl
      have hB4 : Blk m' b4 [.bool false] := ⟨e4, hold47 _ _ (hold4 _ _ (hO.old _ _ he4))⟩
      have hbm : m b4 = none := o41.fresh (b4, [.bool false]) (by simp)
      (conv => whnf)
      refine ⟨⟨⟨_, hB4.cell (i := 0) rfl⟩, hB4.fz⟩, ?_⟩
      (conv => whnf)
      refine ⟨_, (Blk.put (i := 0) (.bool true) hB4).cell (i := 0) rfl, ?_⟩
      (conv => whnf)
      refine ⟨rfl, fun b o hb => ?_⟩
      have hne : b ≠ b4 := fun he => by rw [he, hbm] at hb; cases hb
      exact (Mem.setCell_ne (m := m') (v := .bool true) (i := 0) hne).trans (hold47 _ _ (hold4 _ _ (hO.old _ _ (o41.old b o hb))))
end Go.Proofs.YtegeeofjebpgbaaDoor
