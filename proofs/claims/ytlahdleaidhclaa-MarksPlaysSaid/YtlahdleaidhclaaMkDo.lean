/- Marks: does. -/
import Derived.Test.YtlahdleaidhclaaMkZ
namespace Go.Proofs.Ytlahdleaidhclaa
open Go Go.Mv
set_option maxHeartbeats 2000000
set_option maxRecDepth 10000
set_option linter.unusedVariables false
set_option linter.unusedSimpArgs false
attribute [local irreducible] FCalls IntKind.wrap bits Mem.set Mem.setCell Mem.setCells YCalls
theorem rf_open {m : Mem} {r room : Nat} {l : List Nat} {R : List Asn} (h : Sep (rf r room l :: R) m) : ∃ A c, Sep (pt r [.int .i64 ((room : Nat) : Int), .slice A l.length c] :: sl A l.length c 1 (ints (cast l)) :: R) m := by
  obtain ⟨m1, m2, k1, k2, k3, ⟨A, c, g⟩, k5⟩ := h
  exact ⟨A, c, Sep.split (L := [_, _]) ⟨m1, m2, k1, k2, k3, g, k5⟩⟩
theorem rf_nil {m : Mem} {r room : Nat} {R : List Asn} (h : Sep (pt r [.int .i64 ((room : Nat) : Int), .slice none 0 0] :: R) m) : Sep (rf r room [] :: R) m :=
  (Sep.group (L := [_, _]) ((Sep.free (A := sl none 0 0 1 []) h sl_nil).move 1 rfl)).turn 0 rfl fun m1 _ h => ⟨none, 0, h⟩
theorem does_c {m : Mem} {w N p r room : Nat} {l : List Nat} {cs : List Value} {k : Nat} {kind n : Int} (h : Sep [wo w cs N, mk p room l, rf r room l] m) (hc : cs.length = 6) (hN : N + 2 ≤ 1000) (hk : k < 2)
    (hp : cs[k]? = some (.pointer (some ⟨p, 0, none⟩))) (hr : cs[2 + k]? = some (.pointer (some ⟨r, 0, none⟩))) :
    FCalls Try.prog 32 [.pointer (some ⟨w, 0, none⟩), .int .i64 ((k : Nat) : Int), .int .i64 kind, .int .i64 n] m fun v m' => v = .bool true ∧ ∃ l' N', N' ≤ N + 2 ∧ Sep [wo w cs N', mk p room l', rf r room l'] m' := by
  have hcp : m.cell (((⟨w, 0, none⟩ : Addr).add 0).add (k * 1)) = some (.pointer (some ⟨p, 0, none⟩)) := by
    obtain ⟨m1, h1, h2⟩ := h.get 0 rfl
    rw [add_mk, add_mk, Nat.zero_add, Nat.mul_one]
    exact Mem.le_cell h1 (wo_cell h2 hp)
  have hcr : m.cell (((⟨w, 0, none⟩ : Addr).add 2).add (k * 1)) = some (.pointer (some ⟨r, 0, none⟩)) := by
    obtain ⟨m1, h1, h2⟩ := h.get 0 rfl
    rw [add_mk, add_mk, Nat.zero_add, Nat.mul_one]
    exact Mem.le_cell h1 (wo_cell h2 hr)
  obtain ⟨hroom, hlen, hlt⟩ := mk_small (mk_at h 1 rfl)
  refine fcalls_of_vc (T := tbl) (B := bodies) (pr := [99999]) (DR := dr32) (args := [.v (.pointer (some ⟨w, 0, none⟩)), .v (.int .i64 ((k : Nat) : Int)), .v (.int .i64 kind), .v (.int .i64 n)]) tbl_ok bodies_ok mixed Try.func32 rfl (by decide +kernel) (by simp [Try.f32]) rfl ?_
  (conv => whnf)
  refine ⟨Int.natCast_nonneg _, by omega, ?_⟩
  (conv => whnf)
  refine ⟨_, hcp, ?_⟩
  (conv => whnf)
  refine ⟨Int.natCast_nonneg _, by omega, ?_⟩
  (conv => whnf)
  refine ⟨_, hcr, ?_⟩
  clear hcp hcr
  (conv => whnf)
  refine brk_intro (fun c1 => ?_) (fun c1 => ?_)
  · -- Put
    clear c1
    (conv => whnf)
    refine FCalls.mono (h.call 2 rfl fun m1 h1 => rput_c h1 (by omega)) ?_
    rintro v m3 ⟨m4, ⟨rfl, h1⟩, hB⟩
    replace h : Sep [rf r room (putL room l n), wo w cs N, mk p room l] m3 := hB.one h1
    clear hB h1
    (conv => whnf)
    refine FCalls.mono (h.call 2 rfl fun m1 h1 => put_s h1 n) ?_
    rintro v m5 ⟨m6, ⟨rfl, h1⟩, hB⟩
    replace h : Sep [mk p room (putL room l n), rf r room (putL room l n), wo w cs N] m5 := hB.one h1
    clear hB h1
    have hfin : ∃ l' N', N' ≤ N + 2 ∧ Sep [wo w cs N', mk p room l', rf r room l'] m5 := ⟨_, N, by omega, h.move 2 rfl⟩
    obtain ⟨A, cA, h2⟩ := rf_at h 1 rfl
    have hc1 := h2.cell 0 (i := 1) rfl rfl
    (conv => whnf)
    refine brk_true (by simp) ?_
    (conv => whnf)
    repeat' (first
      | exact ⟨by first | rfl | (simp; rfl), hfin⟩
      | (refine ⟨_, _, _, hc1, ?_⟩; (conv => whnf))
      | (refine FCalls.mono (len_s (mk_at h 0 rfl)) ?_; rintro v m7 ⟨rfl, rfl⟩; (conv => whnf))
      | (refine ⟨?_, ?_, trivial⟩ <;> (conv => whnf)))
    all_goals skip
  · (conv => whnf)
    refine brk_intro (fun c2 => ?_) (fun c2 => ?_)
    · -- Has
      clear c1 c2
      (conv => whnf)
      refine FCalls.mono (rhas_c (rf_at h 2 rfl) (by omega)) ?_
      rintro v m3 ⟨rfl, rfl⟩
      (conv => whnf)
      refine FCalls.mono (has_s (mk_at h 1 rfl) n) ?_
      rintro v m3 ⟨rfl, rfl⟩
      (conv => whnf)
      exact ⟨by first | rfl | (simp; rfl), l, N, by omega, h⟩
    · clear c1 c2
      (conv => whnf)
      refine brk_intro (fun c2 => ?_) (fun c2 => ?_)
      · -- At
        clear c2
        have hfin : ∃ l' N', N' ≤ N + 2 ∧ Sep [wo w cs N', mk p room l', rf r room l'] m := ⟨l, N, by omega, h⟩
        obtain ⟨A, cA, h2⟩ := rf_at h 2 rfl
        have hc1 := h2.cell 0 (i := 1) rfl rfl
        (conv => whnf)
        refine FCalls.mono (at_s (mk_at h 1 rfl) n) ?_
        rintro v m3 ⟨rfl, rfl⟩
        by_cases c3 : n < 0
        · rw [if_neg (by omega)]
          (conv => whnf)
          refine brk_false (by simp; omega) ?_
          (conv => whnf)
          exact ⟨by first | rfl | (simp; rfl), hfin⟩
        · obtain ⟨j, rfl⟩ : ∃ j : Nat, n = j := ⟨n.toNat, by omega⟩
          rw [if_pos (by omega), show ((j : Nat) : Int).toNat = j from rfl]
          cases hj : l[j]?
          case none =>
            have hjl := List.getElem?_eq_none_iff.1 hj
            (conv => whnf)
            refine ⟨_, _, _, hc1, ?_⟩
            (conv => whnf)
            refine brk_true (by simp; omega) ?_
            (conv => whnf)
            exact ⟨by first | rfl | (simp; rfl), hfin⟩
          case some x =>
            have hjl := (List.getElem?_eq_some_iff.1 hj).1
            obtain ⟨q, hq, hcq⟩ := (h2.rd 1 rfl).at (ints_get (cast_get hj))
            have hcq : m3.cell (q.add (j * 1)) = some (.int .i64 ((x : Nat) : Int)) := by rw [Nat.mul_one]; exact hcq
            (conv => whnf)
            refine ⟨_, _, _, hc1, ?_⟩
            (conv => whnf)
            refine brk_false (by simp; omega) ?_
            (conv => whnf)
            refine ⟨_, _, _, hc1, ?_⟩
            (conv => whnf)
            refine ⟨_, hq, by omega, by omega, ?_⟩
            (conv => whnf)
            refine ⟨_, hcq, ?_⟩
            (conv => whnf)
            exact ⟨by first | rfl | (simp; rfl), hfin⟩
      · clear c2
        (conv => whnf)
        refine brk_intro (fun c2 => ?_) (fun c2 => ?_)
        · -- Clear
          clear c2
          (conv => whnf)
          refine FCalls.mono (h.call 1 rfl fun m1 h1 => clear_s h1) ?_
          rintro v m3 ⟨m4, ⟨rfl, h1⟩, hB⟩
          replace h : Sep [mk p room [], wo w cs N, rf r room l] m3 := hB.one h1
          clear hB h1
          obtain ⟨A, cA, h⟩ := rf_open (h.move 2 rfl)
          (conv => whnf)
          refine ⟨h.room 0 (i := 1) rfl rfl, fun m6 he => ?_⟩
          replace h : Sep [pt r [.int .i64 ((room : Nat) : Int), .slice none 0 0], mk p room [], wo w cs N] m6 := (h.put' 0 he rfl).drop 1
          replace h := rf_nil h
          (conv => whnf)
          refine FCalls.mono (len_s (mk_at h 1 rfl)) ?_
          rintro v m3 ⟨rfl, rfl⟩
          (conv => whnf)
          exact ⟨by first | rfl | (simp; rfl), [], N, by omega, (h.move 1 rfl).move 2 rfl⟩
        · clear c2
          (conv => whnf)
          refine brk_intro (fun c2 => ?_) (fun c2 => ?_)
          · -- Rising
            clear c2
            (conv => whnf)
            refine FCalls.mono (rrising_c (rf_at h 2 rfl) (by omega)) ?_
            rintro v m3 ⟨B0, c0, rfl, h2⟩
            replace h := h.on (N := [_]) h2
            clear h2
            (conv => whnf)
            refine FCalls.mono (rising_s (mk_at h 2 rfl)) ?_
            rintro v m4 ⟨B1, c1, rfl, h2⟩
            replace h := h.on (N := [_]) h2
            clear h2
            (conv => whnf)
            refine FCalls.mono (rising_s (mk_at h 3 rfl)) ?_
            rintro v m5 ⟨B2, c2, rfl, h2⟩
            replace h : Sep [sl B2 l.length c2 1 (ints (up (cast l))), sl B1 l.length c1 1 (ints (up (cast l))), sl B0 l.length c0 1 (ints (up (cast l))), wo w cs N, mk p room l, rf r room l] m5 := h.on (N := [_]) h2
            clear h2
            have i0 := ints_of_sl (h.asn 2 rfl)
            have i1 := ints_of_sl (h.asn 1 rfl)
            have i2 := ints_of_sl (h.asn 0 rfl)
            (conv => whnf)
            refine FCalls.mono (same_v i1 i0 up_cast_len up_cast_len (by omega)) ?_
            rintro v m6 ⟨rfl, rfl⟩
            (conv => whnf)
            refine FCalls.mono (same_v i2 i0 up_cast_len up_cast_len (by omega)) ?_
            rintro v m6 ⟨rfl, rfl⟩
            clear i0 i1 i2
            (conv => whnf)
            intro nb m7 hb he
            replace h := h.new' (l := [.slice B1 l.length c1, .slice B2 l.length c2]) hb (he.trans rfl)
            clear hb he
            replace h : Sep [sl (some ⟨nb, 0, none⟩) 2 2 1 ([(⟨B1, l.length, c1⟩ : Out), ⟨B2, l.length, c2⟩].map outV), sl B2 l.length c2 1 (ints (up (cast l))), sl B1 l.length c1 1 (ints (up (cast l))), sl B0 l.length c0 1 (ints (up (cast l))), wo w cs N, mk p room l, rf r room l] m7 :=
              h.slOf 0 rfl (n := 2) (c := 2) (sz := 1) rfl (by decide) (by simp) fun k v hv => hv
            replace h := (h.turn 1 (B := anyp ⟨B2, l.length, c2⟩) rfl fun m1 _ hm => ⟨_, hm⟩).turn 2 (B := anyp ⟨B1, l.length, c1⟩) rfl fun m1 _ hm => ⟨_, hm⟩
            replace h := (Sep.group (L := [_, _]) (((h.drop 3).move 1 rfl).move 2 rfl)).move 1 rfl |>.move 2 rfl
            (conv => whnf)
            refine FCalls.mono (h.calln 3 fun m1 h1 => owns_c (ls := [⟨B1, l.length, c1⟩, ⟨B2, l.length, c2⟩]) h1 hc hN (by intro o ho; simp at ho; rcases ho with rfl | rfl <;> (simp only; omega))) ?_
            rintro v m8 ⟨m9, h1, hB⟩
            replace h := hB.one h1
            (conv => whnf)
            refine brk_true (by simp) ?_
            (conv => whnf)
            exact ⟨by first | rfl | (simp; rfl), l, N + 2, by omega, h⟩
          · clear c2
            (conv => whnf)
            refine brk_intro (fun c2 => ?_) (fun c2 => ?_)
            · -- Anew
              clear c2
              (conv => whnf)
              refine FCalls.mono (h.call 1 rfl fun m1 h1 => clear_s h1) ?_
              rintro v m3 ⟨m4, ⟨rfl, h1⟩, hB⟩
              replace h : Sep [mk p room [], wo w cs N, rf r room l] m3 := hB.one h1
              clear hB h1
              obtain ⟨A, cA, h⟩ := rf_open (h.move 2 rfl)
              (conv => whnf)
              refine ⟨h.room 0 (i := 1) rfl rfl, fun m6 he => ?_⟩
              replace h : Sep [pt r [.int .i64 ((room : Nat) : Int), .slice none 0 0], mk p room [], wo w cs N] m6 := (h.put' 0 he rfl).drop 1
              replace h := rf_nil h
              (conv => whnf)
              refine FCalls.mono (h.call 0 rfl fun m1 h1 => rput_c h1 (Nat.zero_le _)) ?_
              rintro v m3 ⟨m4, ⟨rfl, h1⟩, hB⟩
              replace h : Sep [rf r room (putL room [] n), mk p room [], wo w cs N] m3 := hB.one h1
              clear hB h1
              (conv => whnf)
              refine FCalls.mono (h.call 1 rfl fun m1 h1 => put_s h1 n) ?_
              rintro v m5 ⟨m6, ⟨rfl, h1⟩, hB⟩
              replace h : Sep [mk p room (putL room [] n), rf r room (putL room [] n), wo w cs N] m5 := hB.one h1
              clear hB h1
              (conv => whnf)
              exact ⟨by first | rfl | (simp; rfl), _, N, by omega, h.move 2 rfl⟩
            · (conv => whnf)
              exact ⟨rfl, l, N, by omega, h⟩
end Go.Proofs.Ytlahdleaidhclaa
