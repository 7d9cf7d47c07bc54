/- Marks: the contracts by parts. -/
import Derived.Test.YtlahdleaidhclaaMkI
import Derived.Test.YtlahdleaidhclaaMvSep
namespace Go.Proofs.Ytlahdleaidhclaa
open Go Go.Mv
set_option maxHeartbeats 1000000
set_option maxRecDepth 10000
set_option linter.unusedVariables false
set_option linter.unusedSimpArgs false
attribute [local irreducible] FCalls IntKind.wrap bits Mem.set Mem.setCell Mem.setCells YCalls
/-- A set of numbers at p. -/
def mk (p room : Nat) (l : List Nat) : Asn := fun m => ∃ F, Mk F m p room l
section
variable {m : Mem} {p room : Nat} {l : List Nat}
theorem mk_more {m' : Mem} (h : mk p room l m) (hm : m.le m') : mk p room l m' := by
  obtain ⟨F, h⟩ := h
  exact ⟨F, h.stay (F2 := fun _ => False) (Stp.of hm) fun _ _ h => h⟩
theorem mk_at {L : List Asn} (h : Sep L m) (j : Nat) (hj : L[j]? = some (mk p room l)) : mk p room l m := by
  obtain ⟨m1, h1, h2⟩ := h.get j hj
  exact mk_more h2 h1
theorem Mk.on {F : Nat → Prop} {m' : Mem} (h : Mk F m p room l) (hk : ∀ k, F k → m' k = m k) : Mk F m' p room l := by
  obtain ⟨A, B, cA, cB, ws, h⟩ := h
  obtain ⟨e, he⟩ := h.hd
  exact ⟨A, B, cA, cB, ws, h.fp, ⟨e, by rw [hk p h.fp, he]⟩, h.wh.keep fun b hb _ => hk b hb.1, h.ls.keep fun b hb _ => hk b hb.1, h.lt, h.at', h.wlt, h.small, fun k hF => by rw [hk k hF]; exact h.own k hF⟩
/-- m, where F is. -/
noncomputable def only (m : Mem) (F : Nat → Prop) : Mem := fun k => open Classical in if F k then m k else none
theorem only_le {F : Nat → Prop} : (only m F).le m := fun k o h => by
  unfold only at h
  split at h
  · exact h
  · cases h
theorem only_apart {F : Nat → Prop} {m0 : Mem} (h : ∀ k, F k → m0 k = none) : (only m F).apart m0 := fun k => by
  by_cases hF : F k
  · exact .inr (h k hF)
  · exact .inl (by simp [only, hF])
theorem only_eq {F : Nat → Prop} {k : Nat} (h : F k) : only m F k = m k := by simp [only, h]
theorem sep_of_new {m0 : Mem} (h : MkS (fun _ => False) m0 m p room l) : Sep [mk p room l, kp m0] m := by
  obtain ⟨F, h1, h2, h3⟩ := h
  refine ⟨only m F, m0, only_apart fun k hk => (h2 k hk).resolve_left id, only_le, h3.old, ⟨F, h1.on fun k hk => only_eq hk⟩, m0, Mem.empty, fun _ => .inr rfl, Mem.le_refl _, fun _ _ h => (by cases h), Mem.le_refl _, trivial⟩
theorem sl_of_new {m0 : Mem} {A : Option Addr} {n c sz : Nat} {vs : List Value} (h : Sl m (fun k => m0 k = none) A n c sz vs) (hm : m0.le m) : Sep [sl A n c sz vs, kp m0] m := by
  refine ⟨only m (fun k => m0 k = none), m0, only_apart fun k hk => hk, only_le, hm, ?_, m0, Mem.empty, fun _ => .inr rfl, Mem.le_refl _, fun _ _ h => (by cases h), Mem.le_refl _, trivial⟩
  obtain ⟨h1, h2, h3⟩ := h
  refine ⟨h1, h2, h3.imp_right fun ⟨b, l, e, k1, k2, k3, k4, k5⟩ => ⟨b, 0, l, e, k1, ?_, by omega, fun k v hk => by rw [Nat.zero_add]; exact k5 k v hk⟩⟩
  rw [only_eq (F := fun k => m0 k = none) k2, k3]
theorem new_s {room : Int} : FCalls Try.prog 10 [.int .i64 room] m fun v m' =>
    (0 ≤ room ∧ room ≤ 100000 → ∃ p, v = .tuple #[.pointer (some ⟨p, 0, none⟩), .int .i64 0] ∧ Sep [mk p room.toNat [], kp m] m') ∧ (¬ (0 ≤ room ∧ room ≤ 100000) → v = .tuple #[.pointer none, .int .i64 1] ∧ m' = m) :=
  new_c.mono fun v m' ⟨h1, h2⟩ => ⟨fun h => by
    obtain ⟨p, h3, h4⟩ := h1 h
    exact ⟨p, h3, sep_of_new h4⟩, h2⟩
theorem put_s (h : mk p room l m) (n : Int) : FCalls Try.prog 13 [.pointer (some ⟨p, 0, none⟩), .int .i64 n] m fun v m' => v = .bool (decide (0 ≤ n ∧ n < room ∧ n.toNat ∉ l)) ∧ mk p room (putL room l n) m' := by
  obtain ⟨F, h⟩ := h
  exact (put_c h).mono fun v m' ⟨h1, F', h2, _⟩ => ⟨h1, F', h2⟩
theorem clear_s (h : mk p room l m) : FCalls Try.prog 20 [.pointer (some ⟨p, 0, none⟩)] m fun v m' => v = .tuple #[] ∧ mk p room [] m' := by
  obtain ⟨F, h⟩ := h
  exact (clear_c h).mono fun v m' ⟨h1, F', h2, _⟩ => ⟨h1, F', h2⟩
theorem has_s (h : mk p room l m) (n : Int) : FCalls Try.prog 17 [.pointer (some ⟨p, 0, none⟩), .int .i64 n] m fun v m' => v = .bool (decide (0 ≤ n ∧ n.toNat ∈ l)) ∧ m' = m := by
  obtain ⟨F, h⟩ := h
  exact has_c h
theorem len_s (h : mk p room l m) : FCalls Try.prog 12 [.pointer (some ⟨p, 0, none⟩)] m fun v m' => v = .int .i64 ((l.length : Nat) : Int) ∧ m' = m := by
  obtain ⟨F, h⟩ := h
  exact len_c h
theorem room_s (h : mk p room l m) : FCalls Try.prog 11 [.pointer (some ⟨p, 0, none⟩)] m fun v m' => v = .int .i64 ((room : Nat) : Int) ∧ m' = m := by
  obtain ⟨F, h⟩ := h
  exact room_c h
theorem at_s (h : mk p room l m) (k : Int) : FCalls Try.prog 18 [.pointer (some ⟨p, 0, none⟩), .int .i64 k] m fun v m' => m' = m ∧
    v = (match (if 0 ≤ k then l[k.toNat]? else none) with | some x => .tuple #[.int .i64 ((x : Nat) : Int), .bool true] | none => .tuple #[.int .i64 0, .bool false]) := by
  obtain ⟨F, h⟩ := h
  exact at_c h
theorem rising_s (h : mk p room l m) : FCalls Try.prog 19 [.pointer (some ⟨p, 0, none⟩)] m fun v m' =>
    ∃ A c, v = .slice A l.length c ∧ Sep [sl A l.length c 1 (ints (up (cast l))), kp m] m' := by
  obtain ⟨F, h⟩ := h
  exact (rising_c h).mono fun v m' ⟨A, c, h1, h2, h3⟩ => ⟨A, c, h1, sl_of_new h2 h3⟩
theorem same_s {q room2 : Nat} {r : List Nat} (h : mk p room l m) (k : mk q room2 r m) : FCalls Try.prog 23 [.pointer (some ⟨p, 0, none⟩), .pointer (some ⟨q, 0, none⟩)] m fun v m' => v = .bool (subB l r && (l.length == r.length)) ∧ m' = m := by
  obtain ⟨F, h⟩ := h
  obtain ⟨G, k⟩ := k
  exact msame_c h k
theorem copy_s (h : mk p room l m) : FCalls Try.prog 21 [.pointer (some ⟨p, 0, none⟩)] m fun v m' => ∃ q, v = .pointer (some ⟨q, 0, none⟩) ∧ Sep [mk q room l, kp m] m' := by
  obtain ⟨F, h⟩ := h
  exact (copy_c h).mono fun v m' ⟨q, h1, h2⟩ => ⟨q, h1, sep_of_new h2⟩
theorem all_s : FCalls Try.prog 16 [.pointer (some ⟨p, 0, none⟩)] m fun v m' => ∃ b, v = .func (.func 26) #[] #[.pointer (some ⟨b, 0, none⟩)] ∧ Sep [pt b [.pointer (some ⟨p, 0, none⟩)], kp m] m' :=
  all_c.mono fun v m' ⟨b, h1, h2, h3⟩ => ⟨b, h2, (Sep.init m).new' h1 h3⟩
theorem filled_s {A : Option Addr} {zs : List Int} {c : Nat} {room : Int} (hA : Ints m A zs) (h0 : 0 ≤ room) (h1 : room ≤ 100000) : FCalls Try.prog 15 [.int .i64 room, .slice A zs.length c] m fun v m' =>
    ∃ p, v = .pointer (some ⟨p, 0, none⟩) ∧ Sep [mk p room.toNat (fillL room.toNat (zs.take 300)), kp m] m' :=
  (filled_c hA h0 h1).mono fun v m' ⟨p, h2, h3⟩ => ⟨p, h2, sep_of_new h3⟩
/-- A range over All. -/
theorem range_all {ps : List Nat} {X Y : (Exit → St → Prop) → St → Prop} {K : Exit → St → Prop} {E : Env} {ls : List LC} {b : Nat} (hb : m.cell ⟨b, 0, none⟩ = some (.pointer (some ⟨p, 0, none⟩))) (hk : mk p room l m) (hps : ps.length = 1)
    (J : Nat → Mem → Prop) (h0 : J 0 m)
    (round : ∀ (i : Nat) (x : Nat) (m1 : Mem), l[i]? = some x → J i m1 → X (fun e S1 => match e with | .normal => Y (roundK fun e m2 => match e with | .normal => J (i + 1) m2 | e => K e ⟨E, ls, m2⟩) S1 | _ => False) ⟨parEnv ps [.int .i64 ((x : Nat) : Int)] (plainEnv E), [], m1⟩)
    (fin : ∀ m1, J l.length m1 → K .normal ⟨E, ls, m1⟩) : RangeP Try.prog 26 [] [.pointer (some ⟨b, 0, none⟩)] ps X Y K ⟨E, ls, m⟩ := by
  refine range_iter1 (all_iter b p room l) (fun y o hy => ?_) (fun i vs hx => ?_) J h0 (fun i vs m1 hx hJ => ?_) fun m1 hJ => fin m1 (by rw [List.length_map] at hJ; exact hJ)
  · obtain ⟨F, hF⟩ := mk_more hk (Mem.le_set (o := o) hy)
    exact ⟨Mem.le_cell (Mem.le_set hy) hb, F, hF⟩
  · obtain ⟨x, _, rfl⟩ := List.mem_map.1 (List.mem_of_getElem? hx)
    exact hps.symm
  · rw [List.getElem?_map] at hx
    cases hl : l[i]? with
    | none => rw [hl] at hx; cases hx
    | some x => rw [hl] at hx; cases hx; exact round i x m1 hl hJ
end
theorem subB_refl (l : List Nat) : subB l l = true := by
  unfold subB
  rw [List.all_eq_true]
  exact fun x hx => by simpa using hx
theorem subB_take {l r : List Nat} {i x : Nat} (hx : l[i]? = some x) : subB (l.take (i + 1)) r = (subB (l.take i) r && decide (x ∈ r)) := by
  unfold subB
  rw [List.take_add_one, hx, List.all_append]
  simp
theorem nodup_sub {l r : List Nat} (h : l.Nodup) (hs : ∀ x, x ∈ l → x ∈ r) (hl : l.length = r.length) : ∀ x, x ∈ r → x ∈ l := by
  intro x hx
  apply Classical.byContradiction
  intro hn
  have h1 : l.length ≤ (r.erase x).length := h.length_le_of_subset fun y hy => by
    rw [List.mem_erase_of_ne (by rintro rfl; exact hn hy)]
    exact hs y hy
  rw [List.length_erase_of_mem hx] at h1
  have : 0 < r.length := List.length_pos_of_mem hx
  omega
theorem subB_comm {l r : List Nat} (h : l.Nodup) (k : r.Nodup) : (subB l r && (l.length == r.length)) = (subB r l && (r.length == l.length)) := by
  have go : ∀ {l r : List Nat}, l.Nodup → (subB l r && (l.length == r.length)) = true → (subB r l && (r.length == l.length)) = true := by
    intro l r h h1
    simp only [Bool.and_eq_true, beq_iff_eq, subB, List.all_eq_true, decide_eq_true_eq] at h1 ⊢
    exact ⟨nodup_sub h h1.1 h1.2, h1.2.symm⟩
  cases h1 : (subB l r && (l.length == r.length)) with
  | true => exact (go h h1).symm
  | false =>
    cases h2 : (subB r l && (r.length == l.length)) with
    | false => rfl
    | true => rw [go k h2] at h1; cases h1
theorem mk_nodup {m : Mem} {p room : Nat} {l : List Nat} (h : mk p room l m) : l.Nodup := by
  obtain ⟨F, h⟩ := h
  exact h.nodup
theorem mk_small {m : Mem} {p room : Nat} {l : List Nat} (h : mk p room l m) : room ≤ 100000 ∧ l.length ≤ room ∧ ∀ n, n ∈ l → n < room := by
  obtain ⟨F, h⟩ := h
  exact ⟨h.small, h.llen, h.lt⟩
end Go.Proofs.Ytlahdleaidhclaa
