/- Table: the document's Put, Drop, Clear, Slots. -/
import Derived.Test.YtoifiplefjclbaaTbU
namespace Go.Proofs.Ytoifiplefjclbaa
open Go Go.Mv
set_option maxHeartbeats 2000000
set_option maxRecDepth 10000
set_option linter.unusedVariables false
set_option linter.unusedSimpArgs false
attribute [local irreducible] FCalls IntKind.wrap bits Mem.set Mem.setCell Mem.setCells YCalls
theorem Sep.free {A : Asn} {R : List Asn} {m : Mem} (h : Sep R m) (hA : A Mem.empty) : Sep (A :: R) m := ⟨Mem.empty, m, fun _ => .inl rfl, fun _ _ hh => (by cases hh), Mem.le_refl _, hA, h⟩
/-- A row of numbers is kept from now on. -/
theorem kp_take {A : Option Addr} {c : Nat} {ks : List Int} {K m : Mem} {R : List Asn} (h : Sep (sl A ks.length c 1 (ints ks) :: kp K :: R) m) : ∃ K', K.le K' ∧ Ints K' A ks ∧ Sep (kp K' :: R) m := by
  obtain ⟨m1, m2, k1, k2, k3, h1, k5⟩ := Sep.group (L := [_, _]) h
  exact ⟨m1, h1.kept 1 rfl, ints_of_sl (h1.asn 0 rfl), m1, m2, k1, k2, k3, Mem.le_refl _, k5⟩
theorem rt_open {K m : Mem} {r top : Nat} {w most : Int} {l : List RE} {R : List Asn} (h : Sep (rt K r w most top l :: R) m) :
    ∃ A c, Sep (pt r [.int .i64 w, .int .i64 most, .slice A l.length c, .int .i64 ((top : Nat) : Int)] :: sl A l.length c 2 (rcs l) :: R) m ∧ ∀ e, e ∈ l → Ints K e.A e.k ∧ (e.k.length : Int) = w := by
  obtain ⟨m1, m2, k1, k2, k3, ⟨⟨A, c, g⟩, g2⟩, k5⟩ := h
  exact ⟨A, c, Sep.split (L := [_, _]) ⟨m1, m2, k1, k2, k3, g, k5⟩, g2⟩
theorem rt_shut {K m : Mem} {r top : Nat} {w most : Int} {l : List RE} {R : List Asn} {A : Option Addr} {c : Nat} (h : Sep (pt r [.int .i64 w, .int .i64 most, .slice A l.length c, .int .i64 ((top : Nat) : Int)] :: sl A l.length c 2 (rcs l) :: R) m)
    (hk : ∀ e, e ∈ l → Ints K e.A e.k ∧ (e.k.length : Int) = w) : Sep (rt K r w most top l :: R) m :=
  (Sep.group (L := [_, _]) h).turn 0 rfl fun m1 _ g => ⟨⟨A, c, g⟩, hk⟩
theorem rcs_len (l : List RE) : (rcs l).length = l.length * 2 := flat_len re_len l
theorem rcs_app (a b : List RE) : rcs (a ++ b) = rcs a ++ rcs b := by unfold rcs; rw [List.flatMap_append]
theorem rcs_split (l : List RE) (i : Nat) : (rcs l).take (i * 2) = rcs (l.take i) ∧ (rcs l).drop (i * 2) = rcs (l.drop i) := by
  by_cases hi : i ≤ l.length
  · have e : rcs l = rcs (l.take i) ++ rcs (l.drop i) := by rw [← rcs_app, List.take_append_drop]
    have h1 : (rcs (l.take i)).length = i * 2 := by rw [rcs_len, List.length_take]; omega
    rw [e]
    exact ⟨List.take_left' h1, List.drop_left' h1⟩
  · rw [List.take_of_length_le (by rw [rcs_len]; omega), List.take_of_length_le (by omega), List.drop_of_length_le (by rw [rcs_len]; omega), List.drop_of_length_le (by omega)]
    exact ⟨rfl, rfl⟩
theorem oneRcs : ∀ l : List RE, oneCells (rcs l) = true
  | [] => rfl
  | e :: l => oneRcs l
theorem add_none {B : Option Addr} {c n k : Nat} (h : n = 0) : (if c = k then B else Option.map (fun p : Addr => p.add n) B) = B := by
  subst h
  split
  · rfl
  · cases B <;> rfl
/-- The rest of a row. -/
theorem rd_rest {m : Mem} {B : Option Addr} {c P sz : Nat} {vs : List Value} (h : Rd m B vs) (hc : vs.length ≤ c * sz) : Rd m (if c = P then B else Option.map (fun p : Addr => p.add (P * sz)) B) (vs.drop (P * sz)) := by
  split
  · rename_i hcp
    subst hcp
    exact .inl (List.drop_of_length_le hc)
  · rcases h with rfl | ⟨p, rfl, h⟩
    · exact .inl (by simp)
    · exact Rd.drop (.inr ⟨p, rfl, h⟩) _
def rputR (w most : Int) (top : Nat) (l : List RE) (ks : List Int) (v code : Int) (top' : Nat) (l' : List RE) : Prop :=
  if (ks.length : Int) ≠ w then code = 11 ∧ top' = top ∧ l' = l
  else if there ks (ent l) then code = 0 ∧ top' = top ∧ ent l' = (ent l).set (pos ks (ent l)) (ks, v)
  else if most ≤ l.length then code = 10 ∧ top' = top ∧ l' = l
  else code = 0 ∧ top' = max top (l.length + 1) ∧ ent l' = (ent l).take (pos ks (ent l)) ++ (ks, v) :: (ent l).drop (pos ks (ent l))
theorem rput_c {K m : Mem} {r top : Nat} {w most val : Int} {l : List RE} {K0 : Mem} {R : List Asn} {A : Option Addr} {ks : List Int} {c : Nat} (h : Sep (rt K r w most top l :: kp K :: kp K0 :: R) m) (hA : Ints K0 A ks) (hl : l.length ≤ 1000000) (ht : top ≤ 1000000) (hm : most ≤ 1000000) (hw : w ≤ 128) :
    FCalls Try.prog 18 [.pointer (some ⟨r, 0, none⟩), .slice A ks.length c, .int .i64 val] m fun v m' => ∃ code K' top' l', v = .int .i64 code ∧ rputR w most top l ks val code top' l' ∧ K.le K' ∧ Sep (rt K' r w most top' l' :: kp K' :: kp K0 :: R) m' := by
  have h0 := rt_at h 0 rfl
  have hK := h.kept 1 rfl
  obtain ⟨B, cB, hS, hks⟩ := rt_open h
  have hps := pos_le ks (ent l)
  have hpl : (ent l).length = l.length := by unfold ent; simp
  refine fcalls_of_vc (T := tbl) (B := bodies) (pr := [99999]) (DR := dr18) (args := [.v (.pointer (some ⟨r, 0, none⟩)), .v (.slice A ks.length c), .v (.int .i64 val)]) tbl_ok bodies_ok mixed Try.func18 rfl (by decide +kernel) (by simp [Try.f18]) rfl ?_
  (conv => whnf)
  refine ⟨_, hS.cell 0 (i := 0) rfl rfl, ?_⟩
  (conv => whnf)
  refine brk_intro (fun c1 => ?_) (fun c1 => ?_)
  · have c1 : (ks.length : Int) ≠ w := by simpa using c1
    (conv => whnf)
    exact ⟨11, K, top, l, rfl, by unfold rputR; rw [if_pos c1]; exact ⟨rfl, rfl, rfl⟩, Mem.le_refl _, h⟩
  have c1 : (ks.length : Int) = w := by simpa using c1
  (conv => whnf)
  refine FCalls.mono (rat_c h0 hK (hA.up (h.kept 2 rfl)) hl hw) ?_
  rintro v M1 ⟨rfl, rfl⟩
  rw [if_pos c1]
  generalize hP : pos ks (ent l) = P at hps
  have hpR : ∀ code top' l', rputR w most top l ks val code top' l' ↔ (if there ks (ent l) then code = 0 ∧ top' = top ∧ ent l' = (ent l).set P (ks, val)
      else if most ≤ l.length then code = 10 ∧ top' = top ∧ l' = l else code = 0 ∧ top' = max top (l.length + 1) ∧ ent l' = (ent l).take P ++ (ks, val) :: (ent l).drop P) := fun code top' l' => by
    unfold rputR; rw [if_neg (by simpa using c1), hP]
  cases hth : there ks (ent l) with
  | true =>
    rw [hth] at hpR
    obtain ⟨v0, hv0⟩ := there_some hth
    rw [hP] at hv0
    have hv0 := hv0
    unfold ent at hv0
    rw [List.getElem?_map] at hv0
    cases he : l[P]? with
    | none => rw [he] at hv0; cases hv0
    | some e =>
      rw [he] at hv0
      have hek : e.k = ks := by simpa using (congrArg (fun o => o.map Prod.fst) hv0)
      have hlt := (List.getElem?_eq_some_iff.1 he).1
      (conv => whnf)
      refine ⟨_, _, _, hS.cell 0 (i := 2) rfl rfl, ?_⟩
      obtain ⟨q, hq, hroom, hT⟩ := hS.stf 1 (k := P * 2) (off := 1) (.int .i64 val) rfl (by rw [rcs_len]; omega)
      (conv => whnf)
      refine ⟨q, hq, by omega, by omega, ?_⟩
      (conv => whnf)
      refine ⟨hroom, fun m6 heq => ?_⟩
      replace heq : m6 = M1.setCell ((q.add (P * 2)).add 1) (.int .i64 val) := heq
      rw [← heq] at hT
      have e1 : (rcs l).set (P * 2 + 1) (.int .i64 val) = rcs (l.set P { e with v := val }) := by
        have h9 := flat_write (f := RE.cells) re_len (k := P) (o := 1) (x := e) (y := { e with v := val }) (cs := [.int .i64 val]) he (by simp) rfl
        rw [writeAt1] at h9
        exact h9
      rw [e1] at hT
      replace hT : Sep (pt r [.int .i64 w, .int .i64 most, .slice B (l.set P { e with v := val }).length cB, .int .i64 ((top : Nat) : Int)] :: sl B (l.set P { e with v := val }).length cB 2 (rcs (l.set P { e with v := val })) :: kp K :: kp K0 :: R) m6 := by rw [List.length_set]; exact hT
      (conv => whnf)
      refine ⟨0, K, top, l.set P { e with v := val }, rfl, (hpR _ _ _).2 ?_, Mem.le_refl _, rt_shut hT fun x hx => ?_⟩
      · rw [if_pos rfl]
        refine ⟨rfl, rfl, ?_⟩
        unfold ent
        rw [List.map_set, hek]
      · rcases List.mem_or_eq_of_mem_set hx with hx | rfl
        · exact hks x hx
        · exact hks e (List.mem_of_getElem? he)
  | false =>
    rw [hth] at hpR
    (conv => whnf)
    refine ⟨_, _, _, hS.cell 0 (i := 2) rfl rfl, ?_⟩
    (conv => whnf)
    refine ⟨_, hS.cell 0 (i := 1) rfl rfl, ?_⟩
    (conv => whnf)
    refine brk_intro (fun c2 => ?_) (fun c2 => ?_)
    · have c2 : most ≤ (l.length : Nat) := by simpa using c2
      (conv => whnf)
      exact ⟨10, K, top, l, rfl, (hpR _ _ _).2 (by rw [if_neg (by simp), if_pos c2]; exact ⟨rfl, rfl, rfl⟩), Mem.le_refl _, h⟩
    have c2 : ¬ most ≤ (l.length : Nat) := by simpa using c2
    have hcap := (hS.asn 1 rfl).2.1
    (conv => whnf)
    refine ⟨_, _, _, hS.cell 0 (i := 2) rfl rfl, ?_⟩
    (conv => whnf)
    refine ⟨by omega, by omega, by omega, ?_⟩
    (conv => whnf)
    rw [show ((P : Nat) : Int).toNat - Int.toNat 0 = P from rfl, add_none (n := Int.toNat 0 * (tbl.at 73).size) (k := Int.toNat 0) rfl]
    have hBr := hS.rd 1 rfl
    obtain ⟨s1, s2⟩ := rcs_split l P
    have hz : (tbl.at 73).size = 2 := rfl
    have hPl : P ≤ l.length := by omega
    obtain ⟨ok, hR1⟩ := (Sep.free (A := sl none 0 0 2 []) hS sl_nil).app 0 (T := tbl) (e := 73) (news := rcs (l.take P)) (k := P) (B := B) rfl (by rw [hz, rcs_len, List.length_take]; omega) (by
      rw [hz, ← s1]
      rcases (hBr.take (P * 2)).holds (n := P * 2) (by rw [List.length_take, rcs_len]; omega) with h1 | h1
      · exact .inl h1
      · exact .inr h1) (oneRcs _) rfl (by show 2 * (0 + P) * 32 ≤ 2 ^ 48; omega) rfl
    refine ⟨_, _, ok, fun A2 c2' m2 hr2 => ?_⟩
    have g := hR1 _ _ _ hr2
    replace g : Sep (sl A2 (0 + P) c2' 2 ([] ++ rcs (l.take P)) :: pt r [.int .i64 w, .int .i64 most, .slice B l.length cB, .int .i64 ((top : Nat) : Int)] :: sl B l.length cB 2 (rcs l) :: kp K :: kp K0 :: R) m2 := g
    rw [Nat.zero_add, List.nil_append] at g
    rw [Nat.zero_add]
    clear ok hR1 hBr
    have hksl : ks.length ≤ 128 := by omega
    (conv => whnf)
    obtain ⟨ok, hR1⟩ := (Sep.free (A := sl none 0 0 1 []) g sl_nil).app 0 (T := tbl) (e := 3) (news := ints ks) (k := ks.length) (B := A) rfl (by rw [show (tbl.at 3).size = 1 from rfl]; simp [ints]) (by
      rcases (hA.up (g.kept 4 rfl)).hold with h1 | ⟨p, h1, h2⟩
      · exact .inl h1
      · exact .inr ⟨p, h1, h2⟩) (ints_one _) rfl (by show 2 * (0 + ks.length) * 8 ≤ 2 ^ 48; omega) rfl
    refine ⟨_, _, ok, fun A3 c3 m3 hr3 => ?_⟩
    have g' := hR1 _ _ _ hr3
    replace g' : Sep (sl A3 (0 + ks.length) c3 1 ([] ++ ints ks) :: sl A2 P c2' 2 (rcs (l.take P)) :: pt r [.int .i64 w, .int .i64 most, .slice B l.length cB, .int .i64 ((top : Nat) : Int)] :: sl B l.length cB 2 (rcs l) :: kp K :: kp K0 :: R) m3 := g'
    rw [Nat.zero_add, List.nil_append] at g'
    rw [Nat.zero_add]
    clear ok hR1 g
    (conv => whnf)
    intro nb m4 hb he
    obtain ⟨E, hE⟩ : ∃ E : RE, E = ⟨A3, c3, ks, val⟩ := ⟨_, rfl⟩
    have g := g'.new' (l := rcs [⟨A3, c3, ks, val⟩]) hb (he.trans rfl)
    rw [← hE] at g
    have hBn : m4.holds ⟨nb, 0, none⟩ (rcs [E]) := (g.blk 0 rfl).holds fun k v hk => by rw [Nat.zero_add]; exact hk
    clear hb he g'
    (conv => whnf)
    obtain ⟨ok, hR1⟩ := g.app 2 (T := tbl) (e := 73) (news := rcs [E]) (k := 1) (B := some ⟨nb, 0, none⟩) rfl rfl (.inr ⟨_, rfl, hBn⟩) (oneRcs _) rfl (by show 2 * (P + 1) * 32 ≤ 2 ^ 48; omega) rfl
    refine ⟨_, _, ok, fun A4 c4 m5 hr4 => ?_⟩
    have g' := (hR1 _ _ _ hr4).drop 0
    replace g' : Sep (sl A3 ks.length c3 1 (ints ks) :: sl A4 (P + 1) c4 2 (rcs (l.take P) ++ rcs [E]) :: pt r [.int .i64 w, .int .i64 most, .slice B l.length cB, .int .i64 ((top : Nat) : Int)] :: sl B l.length cB 2 (rcs l) :: kp K :: kp K0 :: R) m5 := g'
    clear ok hR1 g hBn
    (conv => whnf)
    refine ⟨_, _, _, g'.cell 2 (i := 2) rfl rfl, ?_⟩
    (conv => whnf)
    refine ⟨by omega, by omega, by omega, ?_⟩
    (conv => whnf)
    rw [show ((l.length : Nat) : Int).toNat - ((P : Nat) : Int).toNat = l.length - P from rfl, show ((P : Nat) : Int).toNat = P from rfl]
    have hBr := rd_rest (P := P) (c := cB) (sz := 2) (g'.rd 3 rfl) (by rw [rcs_len]; omega)
    rw [s2] at hBr
    obtain ⟨ok, hR1⟩ := g'.app 1 (T := tbl) (e := 73) (news := rcs (l.drop P)) (k := l.length - P) (B := if cB = P then B else Option.map (fun p : Addr => p.add (P * 2)) B) rfl (by rw [hz, rcs_len, List.length_drop]) (by
      rw [hz]
      rcases hBr.holds (n := (l.length - P) * 2) (by rw [rcs_len, List.length_drop]) with h1 | h1
      · exact .inl h1
      · exact .inr h1) (oneRcs _) rfl (by show 2 * (P + 1 + (l.length - P)) * 32 ≤ 2 ^ 48; omega) rfl
    refine ⟨_, _, ok, fun A5 c5 m6 hr5 => ?_⟩
    have g := hR1 _ _ _ hr5
    have e1 : rcs (l.take P) ++ rcs [E] ++ rcs (l.drop P) = rcs (l.take P ++ E :: l.drop P) := by rw [← rcs_app, ← rcs_app]; simp
    have e2 : P + 1 + (l.length - P) = (l.take P ++ E :: l.drop P).length := by simp; omega
    replace g : Sep (sl A3 ks.length c3 1 (ints ks) :: sl A5 (P + 1 + (l.length - P)) c5 2 (rcs (l.take P) ++ rcs [E] ++ rcs (l.drop P)) :: pt r [.int .i64 w, .int .i64 most, .slice B l.length cB, .int .i64 ((top : Nat) : Int)] :: sl B l.length cB 2 (rcs l) :: kp K :: kp K0 :: R) m6 := g
    rw [e1, e2] at g
    rw [e2]
    obtain ⟨L2, hL2⟩ : ∃ L2, L2 = l.take P ++ E :: l.drop P := ⟨_, rfl⟩
    rw [← hL2] at g ⊢
    have hL2l : L2.length = l.length + 1 := by rw [hL2]; simp; omega
    clear ok hR1 g' hBr
    (conv => whnf)
    refine ⟨g.room 2 (i := 2) rfl rfl, fun m7 he => ?_⟩
    have g' := g.put' 2 he rfl
    replace g' : Sep (sl A3 ks.length c3 1 (ints ks) :: sl A5 L2.length c5 2 (rcs L2) :: pt r [.int .i64 w, .int .i64 most, .slice A5 L2.length c5, .int .i64 ((top : Nat) : Int)] :: sl B l.length cB 2 (rcs l) :: kp K :: kp K0 :: R) m7 := g'
    clear he g
    (conv => whnf)
    refine ⟨_, g'.cell 2 (i := 3) rfl rfl, ?_⟩
    (conv => whnf)
    refine ⟨_, _, _, g'.cell 2 (i := 2) rfl rfl, ?_⟩
    (conv => whnf)
    refine ⟨g'.room 2 (i := 3) rfl rfl, fun m8 he => ?_⟩
    have g := g'.put' 2 he rfl
    have e3 : (if ((L2.length : Nat) : Int) > ((top : Nat) : Int) then ((L2.length : Nat) : Int) else ((top : Nat) : Int)) = ((max top (l.length + 1) : Nat) : Int) := by rw [hL2l]; split <;> omega
    replace g : Sep (sl A3 ks.length c3 1 (ints ks) :: sl A5 L2.length c5 2 (rcs L2) :: pt r [.int .i64 w, .int .i64 most, .slice A5 L2.length c5, .int .i64 (if ((L2.length : Nat) : Int) > ((top : Nat) : Int) then ((L2.length : Nat) : Int) else ((top : Nat) : Int))] :: sl B l.length cB 2 (rcs l) :: kp K :: kp K0 :: R) m8 := g
    rw [e3] at g
    clear he g'
    replace g := ((g.drop 3).move 3 rfl).move 1 rfl
    obtain ⟨K', hKK, hKI, g⟩ := kp_take g
    replace g := (g.move 1 rfl).move 2 rfl
    (conv => whnf)
    refine ⟨0, K', max top (l.length + 1), L2, rfl, (hpR _ _ _).2 ?_, hKK, rt_shut g fun x hx => ?_⟩
    · rw [if_neg (by simp), if_neg c2]
      refine ⟨rfl, rfl, ?_⟩
      rw [hL2]
      unfold ent
      rw [List.map_append, List.map_cons, List.map_take, List.map_drop, hE]
    · rw [hL2] at hx
      have hold : ∀ e, e ∈ l → Ints K' e.A e.k ∧ (e.k.length : Int) = w := fun e he => ⟨(hks e he).1.up hKK, (hks e he).2⟩
      rcases List.mem_append.1 hx with hx | hx
      · exact hold x (List.mem_of_mem_take hx)
      · rcases List.mem_cons.1 hx with rfl | hx
        · rw [hE]; exact ⟨hKI, c1⟩
        · exact hold x (List.mem_of_mem_drop hx)
theorem rdrop_c {K m : Mem} {r top : Nat} {w most : Int} {l : List RE} {K0 : Mem} {R : List Asn} {A : Option Addr} {ks : List Int} {c : Nat} (h : Sep (rt K r w most top l :: kp K :: kp K0 :: R) m) (hA : Ints K0 A ks) (hl : l.length ≤ 1000000) (hw : w ≤ 128) :
    FCalls Try.prog 45 [.pointer (some ⟨r, 0, none⟩), .slice A ks.length c] m fun v m' => ∃ b l', v = .bool b ∧ b = (decide ((ks.length : Int) = w) && there ks (ent l)) ∧ ent l' = (if b then (ent l).take (pos ks (ent l)) ++ (ent l).drop (pos ks (ent l) + 1) else ent l) ∧ Sep (rt K r w most top l' :: kp K :: kp K0 :: R) m' := by
  have h0 := rt_at h 0 rfl
  have hK := h.kept 1 rfl
  obtain ⟨B, cB, hS, hks⟩ := rt_open h
  have hps := pos_le ks (ent l)
  have hpl : (ent l).length = l.length := by unfold ent; simp
  refine fcalls_of_vc (T := tbl) (B := bodies) (pr := [99999]) (DR := dr45) (args := [.v (.pointer (some ⟨r, 0, none⟩)), .v (.slice A ks.length c)]) tbl_ok bodies_ok mixed Try.func45 rfl (by decide +kernel) (by simp [Try.f45]) rfl ?_
  (conv => whnf)
  refine FCalls.mono (rat_c h0 hK (hA.up (h.kept 2 rfl)) hl hw) ?_
  rintro v M1 ⟨rfl, rfl⟩
  have no : (decide ((ks.length : Int) = w) && there ks (ent l)) = false → ∃ b l', Value.bool false = .bool b ∧ b = (decide ((ks.length : Int) = w) && there ks (ent l)) ∧ ent l' = (if b then (ent l).take (pos ks (ent l)) ++ (ent l).drop (pos ks (ent l) + 1) else ent l) ∧ Sep (rt K r w most top l' :: kp K :: kp K0 :: R) M1 := fun hb => ⟨false, l, rfl, hb.symm, rfl, h⟩
  by_cases c1 : (ks.length : Int) = w
  · rw [if_pos c1]
    cases hth : there ks (ent l) with
    | false =>
      (conv => whnf)
      obtain ⟨b, l', g1, g2⟩ := no (by rw [hth]; simp)
      exact ⟨b, l', g1, by rw [← hth]; exact g2⟩
    | true =>
      obtain ⟨v0, hv0⟩ := there_some hth
      have hlt := (List.getElem?_eq_some_iff.1 hv0).1
      generalize hP : pos ks (ent l) = P at hps hlt
      rw [hpl] at hlt
      obtain ⟨s1, s2⟩ := rcs_split l P
      obtain ⟨s3, s4⟩ := rcs_split l (P + 1)
      have hz : (tbl.at 73).size = 2 := rfl
      have hcap := (hS.asn 1 rfl).2.1
      have hwP : IntKind.i64.wrap (((P : Nat) : Int) + 1) = ((P + 1 : Nat) : Int) := by rw [wrap_id (by omega) (by omega)]; omega
      (conv => whnf)
      refine ⟨_, _, _, hS.cell 0 (i := 2) rfl rfl, ?_⟩
      (conv => whnf)
      refine ⟨by omega, by omega, by omega, ?_⟩
      (conv => whnf)
      rw [show ((P : Nat) : Int).toNat - Int.toNat 0 = P from rfl, add_none (n := Int.toNat 0 * (tbl.at 73).size) (k := Int.toNat 0) rfl]
      have hBr := hS.rd 1 rfl
      obtain ⟨ok, hR1⟩ := (Sep.free (A := sl none 0 0 2 []) hS sl_nil).app 0 (T := tbl) (e := 73) (news := rcs (l.take P)) (k := P) (B := B) rfl (by rw [hz, rcs_len, List.length_take]; omega) (by
        rw [hz, ← s1]
        rcases (hBr.take (P * 2)).holds (n := P * 2) (by rw [List.length_take, rcs_len]; omega) with h1 | h1
        · exact .inl h1
        · exact .inr h1) (oneRcs _) rfl (by show 2 * (0 + P) * 32 ≤ 2 ^ 48; omega) rfl
      refine ⟨_, _, ok, fun A2 c2' m2 hr2 => ?_⟩
      have g := hR1 _ _ _ hr2
      replace g : Sep (sl A2 (0 + P) c2' 2 ([] ++ rcs (l.take P)) :: pt r [.int .i64 w, .int .i64 most, .slice B l.length cB, .int .i64 ((top : Nat) : Int)] :: sl B l.length cB 2 (rcs l) :: kp K :: kp K0 :: R) m2 := g
      rw [Nat.zero_add, List.nil_append] at g
      rw [Nat.zero_add]
      clear ok hR1 hBr
      (conv => whnf)
      refine ⟨_, _, _, g.cell 1 (i := 2) rfl rfl, ?_⟩
      (conv => whnf)
      rw [hwP]
      refine ⟨by omega, by omega, by omega, ?_⟩
      (conv => whnf)
      rw [show ((l.length : Nat) : Int).toNat - ((P + 1 : Nat) : Int).toNat = l.length - (P + 1) from rfl, show ((P + 1 : Nat) : Int).toNat = P + 1 from rfl]
      have hBr := rd_rest (P := P + 1) (c := cB) (sz := 2) (g.rd 2 rfl) (by rw [rcs_len]; omega)
      rw [s4] at hBr
      obtain ⟨ok, hR1⟩ := g.app 0 (T := tbl) (e := 73) (news := rcs (l.drop (P + 1))) (k := l.length - (P + 1)) (B := if cB = P + 1 then B else Option.map (fun p : Addr => p.add ((P + 1) * 2)) B) rfl (by rw [hz, rcs_len, List.length_drop]) (by
        rw [hz]
        rcases hBr.holds (n := (l.length - (P + 1)) * 2) (by rw [rcs_len, List.length_drop]) with h1 | h1
        · exact .inl h1
        · exact .inr h1) (oneRcs _) rfl (by show 2 * (P + (l.length - (P + 1))) * 32 ≤ 2 ^ 48; omega) rfl
      refine ⟨_, _, ok, fun A5 c5 m6 hr5 => ?_⟩
      have g' := hR1 _ _ _ hr5
      have e1 : rcs (l.take P) ++ rcs (l.drop (P + 1)) = rcs (l.take P ++ l.drop (P + 1)) := by rw [← rcs_app]
      have e2 : P + (l.length - (P + 1)) = (l.take P ++ l.drop (P + 1)).length := by simp; omega
      replace g' : Sep (sl A5 (P + (l.length - (P + 1))) c5 2 (rcs (l.take P) ++ rcs (l.drop (P + 1))) :: pt r [.int .i64 w, .int .i64 most, .slice B l.length cB, .int .i64 ((top : Nat) : Int)] :: sl B l.length cB 2 (rcs l) :: kp K :: kp K0 :: R) m6 := g'
      rw [e1, e2] at g'
      rw [e2]
      obtain ⟨L2, hL2⟩ : ∃ L2, L2 = l.take P ++ l.drop (P + 1) := ⟨_, rfl⟩
      rw [← hL2] at g' ⊢
      clear ok hR1 g hBr
      (conv => whnf)
      refine ⟨g'.room 1 (i := 2) rfl rfl, fun m7 he => ?_⟩
      have g := g'.put' 1 he rfl
      replace g : Sep (sl A5 L2.length c5 2 (rcs L2) :: pt r [.int .i64 w, .int .i64 most, .slice A5 L2.length c5, .int .i64 ((top : Nat) : Int)] :: sl B l.length cB 2 (rcs l) :: kp K :: kp K0 :: R) m7 := g
      replace g := (g.drop 2).move 1 rfl
      (conv => whnf)
      refine ⟨true, L2, rfl, by rw [decide_eq_true c1]; rfl, ?_, rt_shut g fun x hx => ?_⟩
      · rw [if_pos rfl, hL2]
        unfold ent
        rw [List.map_append, List.map_take, List.map_drop]
      · rw [hL2] at hx
        rcases List.mem_append.1 hx with hx | hx
        · exact hks x (List.mem_of_mem_take hx)
        · exact hks x (List.mem_of_mem_drop hx)
  · rw [if_neg c1]
    (conv => whnf)
    obtain ⟨b, l', g1, g2⟩ := no (by rw [decide_eq_false c1]; rfl)
    exact ⟨b, l', g1, g2⟩
theorem rclear_c {K m : Mem} {r top : Nat} {w most : Int} {l : List RE} {R : List Asn} (h : Sep (rt K r w most top l :: R) m) :
    FCalls Try.prog 46 [.pointer (some ⟨r, 0, none⟩)] m fun v m' => Sep (rt K r w most 0 [] :: R) m' := by
  obtain ⟨B, cB, hS, hks⟩ := rt_open h
  refine fcalls_of_vc (T := tbl) (B := bodies) (pr := [99999]) (DR := dr46) (args := [.v (.pointer (some ⟨r, 0, none⟩))]) tbl_ok bodies_ok mixed Try.func46 rfl (by decide +kernel) (by simp [Try.f46]) rfl ?_
  (conv => whnf)
  refine ⟨hS.room 0 (i := 2) rfl rfl, fun m2 he => ?_⟩
  have g := hS.put' 0 he rfl
  (conv => whnf)
  refine ⟨g.room 0 (i := 3) rfl rfl, fun m3 he2 => ?_⟩
  have g2 := g.put' 0 he2 rfl
  (conv => whnf)
  replace g2 : Sep (pt r [.int .i64 w, .int .i64 most, .slice none 0 0, .int .i64 0] :: R) m3 := g2.drop 1
  exact rt_shut (l := []) ((Sep.free (A := sl none 0 0 2 []) g2 sl_nil).move 1 rfl) fun e he => by cases he
theorem refSlots_c {m : Mem} {r n cap N : Nat} {w most : Int} {top : Nat} {B : Option Addr} (hr : Blk m r [.int .i64 w, .int .i64 most, .slice B n cap, .int .i64 top]) (hn : n < 2 ^ 40) (ht : top < 2 ^ 40)
    (h : (N = 0 ∧ n = 0) ∨ (∃ k, k < 40 ∧ N = 2 ^ k ∧ 2 * n ≤ N ∧ N ≤ 16 + 8 * top)) :
    FCalls Try.prog 19 [.pointer (some ⟨r, 0, none⟩), .int .i64 N] m fun v m' => v = .bool true ∧ m' = m := by
  refine fcalls_of_vc (T := tbl) (B := bodies) (pr := []) (DR := dr19) (args := [.v (.pointer (some ⟨r, 0, none⟩)), .v (.int .i64 N)]) tbl_ok bodies_ok mixed Try.func19 rfl (by decide +kernel) (by simp [Try.f19]) rfl ?_
  (conv => whnf)
  refine brk_intro (fun h1 => ?_) (fun h1 => ?_)
  · have h1 : N = 0 := by
      have : (N : Int) = 0 := by simpa using h1
      omega
    have h2 : n = 0 := by
      rcases h with h | ⟨k, hk, h3, _⟩
      · exact h.2
      · rw [h1] at h3
        exact absurd h3.symm (Nat.ne_of_gt (Nat.two_pow_pos k))
    (conv => whnf)
    refine ⟨_, _, _, hr.cell (i := 2) rfl, ?_⟩
    (conv => whnf)
    refine ⟨?_, rfl⟩
    simp [single, h2]
  · have h1 : N ≠ 0 := by
      have : ¬ (N : Int) = 0 := by simpa using h1
      omega
    obtain ⟨k, hk, hN, hl, hu⟩ : ∃ k, k < 40 ∧ N = 2 ^ k ∧ 2 * n ≤ N ∧ N ≤ 16 + 8 * top := by
      rcases h with h | h
      · exact absurd h.1 h1
      · exact h
    clear h
    (conv => whnf)
    refine loop_keep [0, 1] Int (fun z => [(5, .v (.int .i64 z))]) (fun _ => []) (fun _ => m) (fun z => ∃ j : Nat, j < 40 ∧ z = ((2 ^ j : Nat) : Int)) (fun z => z.toNat) _ ⟨rfl, trivial⟩ rfl rfl ⟨k, hk, by rw [hN]⟩ ?_
    (conv => whnf)
    refine ⟨rfl, fun z hz => ?_⟩
    obtain ⟨j, hj, rfl⟩ := hz
    (conv => whnf)
    refine brk_intro (fun h3 => ?_) (fun h3 => ?_)
    · have h3 : ((2 ^ j : Nat) : Int) > 1 := by simpa using h3
      obtain ⟨j, rfl⟩ : ∃ j', j = j' + 1 := by
        cases j with
        | zero => simp at h3
        | succ j => exact ⟨j, rfl⟩
      have hp : (2 ^ (j + 1) : Nat) = 2 * 2 ^ j := by rw [Nat.pow_succ]; omega
      have hpb : 2 ^ j < 2 ^ 40 := Nat.pow_lt_pow_right (by omega) (by omega)
      have hp0 : 0 < 2 ^ j := Nat.two_pow_pos j
      have hrem : (((2 ^ (j + 1) : Nat) : Int).tmod 2 == 0) = true := by
        rw [hp]
        simp
      have hquo : IntKind.i64.wrap (((2 ^ (j + 1) : Nat) : Int).tdiv 2) = ((2 ^ j : Nat) : Int) := by
        rw [hp, Int.natCast_mul, Int.tdiv_eq_ediv_of_nonneg (by omega)]
        have : ((2 : Nat) : Int) * ((2 ^ j : Nat) : Int) / 2 = ((2 ^ j : Nat) : Int) := by omega
        rw [this]
        exact wrap_id (by omega) (by omega)
      (conv => whnf)
      refine ⟨by omega, ?_⟩
      (conv => whnf)
      refine brk_true hrem ?_
      (conv => whnf)
      refine ⟨by omega, ?_⟩
      (conv => whnf)
      refine ⟨_, le_of ⟨rfl, rfl, rfl, trivial⟩ rfl, ⟨j, by omega, hquo⟩, ?_⟩
      rw [hquo, hp]
      omega
    · have h3 : ¬ ((2 ^ j : Nat) : Int) > 1 := by simpa using h3
      have hz1 : ((2 ^ j : Nat) : Int) = 1 := by
        have hp0 : 0 < 2 ^ j := Nat.two_pow_pos j
        omega
      have hw1 : IntKind.i64.wrap (2 * (n : Int)) = 2 * (n : Int) := wrap_id (by omega) (by omega)
      have hw3 : IntKind.i64.wrap (8 * (top : Int)) = 8 * (top : Int) := wrap_id (by omega) (by omega)
      have hw4 : IntKind.i64.wrap (16 + 8 * (top : Int)) = 16 + 8 * (top : Int) := wrap_id (by omega) (by omega)
      generalize ((2 ^ j : Nat) : Int) = z at *
      subst hz1
      (conv => whnf)
      refine ⟨_, _, _, hr.cell (i := 2) rfl, ?_⟩
      (conv => whnf)
      refine brk_true (by rw [hw1]; simp; omega) ?_
      (conv => whnf)
      refine ⟨_, hr.cell (i := 3) rfl, ?_⟩
      (conv => whnf)
      rw [hw1, hw3, hw4]
      refine ⟨?_, rfl⟩
      simp [single]
      omega
end Go.Proofs.Ytoifiplefjclbaa
