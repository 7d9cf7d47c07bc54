/- Chars: Read. -/
import Derived.Test.YtlnekbdcbkndbaaDoorChQ
namespace Go.Proofs.YtlnekbdcbkndbaaDoor
open Go Go.Mv
set_option maxHeartbeats 2000000
set_option maxRecDepth 10000
set_option linter.unusedVariables false
set_option linter.unusedSimpArgs false
attribute [local irreducible] FCalls IntKind.wrap bits Mem.set Mem.setCell Mem.setCells YCalls RunP NextP
theorem rd_next {L : List UInt8} {its : List Item} {i k : Nat} {it : Item} (h : rdl L = addR its i (rdl (L.drop i))) (hne : L.drop i ≠ []) (hs : stepl (L.drop i) = .inl (it, k)) : rdl L = addR (its ++ [it]) (i + k) (rdl (L.drop (i + k))) := by
  rw [h, rdl_step hne, hs]
  simp only
  rw [addR_addR, List.drop_drop]
theorem rd_err {L : List UInt8} {its : List Item} {i e o : Nat} (h : rdl L = addR its i (rdl (L.drop i))) (hne : L.drop i ≠ []) (hs : stepl (L.drop i) = .inr (e, o)) : readR L = ([], e, o + i) := by
  unfold readR
  rw [h, rdl_step hne, hs]
  rfl
theorem rd_end {L : List UInt8} {its : List Item} {i : Nat} (h : rdl L = addR its i (rdl (L.drop i))) (hne : L.drop i = []) : rdl L = .inl its := by
  rw [h, hne]
  show Sum.inl (its ++ []) = _
  rw [List.append_nil]
/-- As far as j alike. -/
def Upto (a b : List UInt8) (j : Nat) : Prop := j ≤ a.length ∧ j ≤ b.length ∧ a.take j = b.take j ∧ mis a b = (mis (a.drop j) (b.drop j)).map (· + j)
theorem Upto.zero (a b : List UInt8) : Upto a b 0 := ⟨Nat.zero_le _, Nat.zero_le _, rfl, by rw [List.drop_zero, List.drop_zero]; cases mis a b <;> rfl⟩
theorem Upto.lt {a b : List UInt8} {j : Nat} (h : Upto a b j) (hA : Alike a b) (hj : j < a.length) : j < b.length := by
  obtain ⟨h1, h2, h3, h4⟩ := h
  rcases hA with rfl | ⟨i, x, y, g1, g2, g3⟩
  · exact hj
  · have gi := (List.getElem?_eq_some_iff.1 g2).1
    by_cases hij : i < j
    · exfalso
      have e1 : (a.take j)[i]? = some x := by rw [List.getElem?_take, if_pos hij, g1]
      rw [h3, List.getElem?_take, if_pos hij, g2] at e1
      injection e1 with e1
      exact g3 e1.symm
    · omega
theorem drop_at {a : List UInt8} {j : Nat} {x : UInt8} (h : a[j]? = some x) : a.drop j = x :: a.drop (j + 1) := by
  obtain ⟨h1, h2⟩ := List.getElem?_eq_some_iff.1 h
  rw [← h2]
  exact List.drop_eq_getElem_cons h1
theorem Upto.next {a b : List UInt8} {j : Nat} {x : UInt8} (h : Upto a b j) (ha : a[j]? = some x) (hb : b[j]? = some x) : Upto a b (j + 1) := by
  obtain ⟨h1, h2, h3, h4⟩ := h
  refine ⟨(List.getElem?_eq_some_iff.1 ha).1, (List.getElem?_eq_some_iff.1 hb).1, ?_, ?_⟩
  · rw [List.take_add_one, List.take_add_one, h3, ha, hb]
  · rw [h4, drop_at ha, drop_at hb]
    conv => lhs; unfold mis
    rw [if_pos rfl, Option.map_map]
    congr 1
    funext z
    show z + 1 + j = z + (j + 1)
    omega
theorem Upto.stop {a b : List UInt8} {j : Nat} {x y : UInt8} (h : Upto a b j) (ha : a[j]? = some x) (hb : b[j]? = some y) (hxy : x ≠ y) : mis a b = some j := by
  rw [h.2.2.2, drop_at ha, drop_at hb]
  unfold mis
  rw [if_neg hxy]
  simp
theorem Upto.fin {a b : List UInt8} {j : Nat} (h : Upto a b j) (hj : a.length ≤ j ∨ b.length ≤ j) : mis a b = none := by
  rw [h.2.2.2]
  rcases hj with hj | hj
  · rw [List.drop_of_length_le hj]
    rfl
  · rw [List.drop_of_length_le (l := b) hj]
    cases a.drop j <;> rfl
def readV (L : List UInt8) : Value := .tuple #[.string ⟨(readR L).1.toArray⟩, .int .i64 (((readR L).2.1 : Nat) : Int), .int .i64 (((readR L).2.2 : Nat) : Int)]
theorem byts_snoc (its : List Item) (it : Item) : byts (its ++ [it]) = byts its ++ it.byt := by rw [byts_app]; simp [byts]
theorem step_len {l : List UInt8} {it : Item} {k : Nat} (hl : l ≠ []) (h : stepl l = .inl (it, k)) : it.byt.length ≤ k := by
  obtain ⟨h1, h2, h3, h4⟩ := stepl_ok hl h
  have : it.src.length = k := by rw [h2, List.length_take]; omega
  rw [← this]
  cases it <;> simp [Item.byt, Item.src, esc]
theorem esc_byt {l : List UInt8} {it : Item} {k : Nat} (h : escl l = .inl (it, k)) : it.byt = [itB it] := by
  cases it with
  | pl c =>
    unfold escl at h
    repeat' split at h
    all_goals cases h
  | bs => rfl
  | nl => rfl
  | hx b => rfl
theorem shl_len : ∀ (n : Nat) (l : List UInt8), l.length ≤ n → (shl l).length ≤ 4 * l.length
  | _, [], _ => by simp [shl_nil]
  | 0, a :: l, h => by simp at h
  | n + 1, a :: l, h => by
    have hne : a :: l ≠ [] := by simp
    have hw := wdl_pos hne
    have hu := unitl_len hne
    have ih := shl_len n ((a :: l).drop (wdl (a :: l))) (by rw [List.length_drop]; simp at h ⊢; omega)
    rw [shl_step hne, List.length_append]
    rw [List.length_drop] at ih
    omega
theorem escl_off {l : List UInt8} {e : Nat × Nat} (h : escl l = .inr e) : e.2 ≤ l.length := by
  unfold escl at h
  repeat' split at h
  all_goals first | cases h | skip
  all_goals simp
theorem read_c {m : Mem} (hG : G m) {s : ByteArray} (hs : s.size < 2 ^ 40) : FCalls Tryd.prog 13 [.string s] m fun v m' => v = readV (bl s) ∧ m.le m' := by
  refine fcalls_of_vc (T := tbl) (B := bodies) (pr := [99999]) (DR := (100011, 0) :: dr13) (args := [.v (.string s)]) tbl_ok bodies_ok mixed Tryd.func13 rfl (by decide +kernel) (by simp [Tryd.f13]) rfl ?_
  (conv => whnf)
  refine loop_keep [0] (Nat × List Item × Option Addr × Nat × Mem) (fun t => [(6, .v (.int .i64 ((t.1 : Nat) : Int))), (5, .v (.slice t.2.2.1 (byts t.2.1).length t.2.2.2.1))]) (fun _ => []) (fun t => t.2.2.2.2)
    (fun t => t.1 ≤ s.size ∧ rdl (bl s) = addR t.2.1 t.1 (rdl ((bl s).drop t.1)) ∧ (byts t.2.1).length ≤ t.1 ∧ Sep [sl t.2.2.1 (byts t.2.1).length t.2.2.2.1 1 (byteVals (byts t.2.1)), kp m] t.2.2.2.2) (fun t => s.size - t.1) (0, [], none, 0, m) ⟨rfl, rfl, trivial⟩ rfl rfl ⟨Nat.zero_le _, by
      show rdl (bl s) = addR [] 0 (rdl ((bl s).drop 0))
      rw [List.drop_zero]
      cases rdl (bl s) with
      | inl r => rfl
      | inr e => rfl, Nat.zero_le _, Sep.free (A := sl none 0 0 1 []) (Sep.init m) sl_nil⟩ ?_
  (conv => whnf)
  refine ⟨rfl, ?_⟩
  rintro ⟨i, its, A, c, M⟩ ⟨hi, hR, hbl, h⟩
  simp only at hi hR hbl h
  (conv => whnf)
  refine brk_intro (fun c0 => ?_) (fun c0 => ?_)
  · have hp : i < s.size := by have : ((i : Nat) : Int) < ((s.size : Nat) : Int) := of_decide_eq_true c0; omega
    have hw := wd_pos hp
    have hwl := wd_le hp
    have hcd : cdl ((bl s).drop i) = cd s i := (cdl_eq hi).symm
    have hwd : wdl ((bl s).drop i) = wd s i := (wdl_eq hi).symm
    have hne : (bl s).drop i ≠ [] := by
      intro hn
      have := congrArg List.length hn
      rw [List.length_drop, bl_len] at this
      simp at this
      omega
    have hdc := dec_cut (s := s) (a := i) hi
    have hr0 := (dec_facts hp).2.2.2
    have hcdr : cd s i = if (Utf8.decode s i).1 = 65533 ∧ (Utf8.decode s i).2 ≤ 1 then (-1 : Int) else (((Utf8.decode s i).1 : Nat) : Int) := rfl
    have hwi : IntKind.i64.wrap (((i : Nat) : Int) + ((wd s i : Nat) : Int)) = ((i + wd s i : Nat) : Int) := by
      rw [wrap_id (by omega) (by omega)]
      omega
    (conv => whnf)
    refine ⟨by omega, by omega, by omega, ?_⟩
    (conv => whnf)
    have hexs : (s.extract i s.size).size = s.size - i := by rw [ByteArray.size_extract]; omega
    refine FCalls.mono (dec_c (hG.more (h.kept 1 rfl)).1 (s := s.extract i s.size) (by omega) (by omega)) ?_
    rintro v M2 ⟨rfl, rfl⟩
    rw [hdc]
    (conv => whnf)
    refine join_keep [0, 6] (Nat × Item × Option Addr × Nat × Mem) (fun t => [(8, .v (.int .i64 ((t.1 : Nat) : Int))), (5, .v (.slice t.2.2.1 (byts (its ++ [t.2.1])).length t.2.2.2.1))]) (fun t => t.2.2.2.2)
      (fun t => stepl ((bl s).drop i) = .inl (t.2.1, t.1) ∧ Sep [sl t.2.2.1 (byts (its ++ [t.2.1])).length t.2.2.2.1 1 (byteVals (byts (its ++ [t.2.1]))), kp m] t.2.2.2.2) ?_
    (conv => whnf)
    have bad : ¬ plainC (cd s i) → (Value.tuple #[.string ⟨#[]⟩, .int .i64 20, .int .i64 ((i : Nat) : Int)] = readV (bl s) ∧ m.le M2) := fun hnp => by
      have hs1 : stepl ((bl s).drop i) = .inr (20, 0) := by unfold stepl; rw [hcd, if_neg hnp]
      refine ⟨?_, h.kept 1 rfl⟩
      unfold readV
      rw [rd_err hR hne hs1, Nat.zero_add]
      rfl
    refine ⟨?_, ?_⟩
    · (conv => whnf)
      refine FCalls.mono valid_c ?_
      rintro v M1 ⟨rfl, rfl⟩
      (conv => whnf)
      by_cases hv : (Utf8.decode s i).1 = 65533 ∧ (Utf8.decode s i).2 ≤ 1
      · have hnp : ¬ plainC (cd s i) := by rw [hcdr, if_pos hv]; unfold plainC; omega
        refine brk_false (by rw [decide_eq_true hv]; rfl) ?_
        (conv => whnf)
        exact bad hnp
      · have hce : cd s i = (((Utf8.decode s i).1 : Nat) : Int) := by rw [hcdr, if_neg hv]
        refine brk_true (by rw [decide_eq_false hv]; rfl) ?_
        (conv => whnf)
        refine FCalls.mono plain_c ?_
        rintro v M4 ⟨rfl, rfl⟩
        rw [← hce]
        (conv => whnf)
        by_cases hpl : plainC (cd s i)
        · refine brk_false (by rw [decide_eq_true hpl]; rfl) ?_
          have h0 : 0 ≤ cdl ((bl s).drop i) := by rw [hcd]; unfold plainC at hpl; omega
          obtain ⟨g1, g2⟩ := enc_take hne h0
          rw [hcd] at g1 g2
          (conv => whnf)
          refine brk_intro (fun c1 => ?_) (fun c1 => ?_)
          · have c1 : cd s i ≠ 92 := by rintro hq; rw [hq] at c1; exact absurd c1 (by decide)
            have hs1 : stepl ((bl s).drop i) = .inl (.pl (cd s i).toNat, wd s i) := by unfold stepl; rw [hcd, if_pos hpl, if_neg c1, hwd]
            have hwi : IntKind.i64.wrap (((i : Nat) : Int) + (((Utf8.decode s i).2 : Nat) : Int)) = ((i + wd s i : Nat) : Int) := hwi
            (conv => whnf)
            rw [hwi]
            refine ⟨by omega, by omega, by omega, ?_⟩
            have hbt : (s.extract (Int.toNat ((i : Nat) : Int)) (Int.toNat ((i + wd s i : Nat) : Int))).data.toList = enc (cd s i).toNat := (bl_cut (s := s) (i := i) hwl).trans (by rw [Nat.add_sub_cancel_left, g2, hwd])
            generalize s.extract (Int.toNat ((i : Nat) : Int)) (Int.toNat ((i + wd s i : Nat) : Int)) = t at hbt ⊢
            have hts : t.size = (enc (cd s i).toNat).length := by rw [← hbt]; rfl
            have htl := enc_len (cd s i).toNat
            have htl : t.size ≤ 4 := by rw [hts, htl]; repeat' split
                                        all_goals omega
            (conv => whnf)
            have eb : byts (its ++ [.pl (cd s i).toNat]) = byts its ++ enc (cd s i).toNat := by rw [byts_snoc]; rfl
            obtain ⟨ok, hR2⟩ := h.appS 0 (T := tbl) (e := 5) (news := byteVals t.data.toList) (k := t.size) rfl (by rw [show (tbl.at 5).size = 1 from rfl, Nat.mul_one]; simp [byteVals]) oneB rfl (by show 2 * (_ + _) * 1 ≤ 2 ^ 48; omega) rfl
            refine append_str tbl_ok (e := 5) rfl rfl rfl ok fun A' c' m3 hr3 => ?_
            have h3 := hR2 _ _ _ hr3
            have e2 : byteVals (byts its) ++ byteVals t.data.toList = byteVals (byts (its ++ [.pl (cd s i).toNat])) := by rw [eb, hbt]; simp [byteVals]
            have e1 : (byts its).length + t.size = (byts (its ++ [.pl (cd s i).toNat])).length := by rw [eb, List.length_append, hts]
            replace h3 : Sep [sl A' ((byts its).length + t.size) c' 1 (byteVals (byts its) ++ byteVals t.data.toList), kp m] m3 := h3
            rw [e2, e1] at h3
            (conv => whnf)
            rw [e1]
            exact ⟨(wd s i, .pl (cd s i).toNat, A', c', m3), le_eq ⟨rfl, rfl, rfl, rfl, trivial⟩ rfl rfl rfl, ⟨hs1, h3⟩⟩
          · have c1 : cd s i = 92 := by
              apply Classical.byContradiction
              intro hq
              simp [hq] at c1
            have hsl : stepl ((bl s).drop i) = escl ((bl s).drop i) := by unfold stepl; rw [hcd, if_pos hpl, if_pos c1]
            (conv => whnf)
            refine ⟨by omega, by omega, by omega, ?_⟩
            (conv => whnf)
            have hL : s.extract (Int.toNat ((i : Nat) : Int)) (Int.toNat ((s.size : Nat) : Int)) = ⟨((bl s).drop i).toArray⟩ := by
              rw [← mk_bl (s.extract (Int.toNat ((i : Nat) : Int)) (Int.toNat ((s.size : Nat) : Int)))]
              rw [show bl (s.extract (Int.toNat ((i : Nat) : Int)) (Int.toNat ((s.size : Nat) : Int))) = _ from bl_cut (s := s) (i := i) (Nat.le_refl _), List.take_of_length_le (by rw [List.length_drop, bl_len]; exact Nat.le_refl _)]
            rw [hL]
            refine FCalls.mono (escaped_c (L := (bl s).drop i) (by rw [List.length_drop, bl_len]; omega)) ?_
            rintro v M4 ⟨rfl, rfl⟩
            cases hE : escl ((bl s).drop i) with
            | inr e =>
              obtain ⟨e, o⟩ := e
              have he0 := escl_err hE
              have ho := escl_off hE
              rw [List.length_drop, bl_len] at ho
              simp only at he0 ho
              (conv => whnf)
              refine brk_true (by simp; omega) ?_
              (conv => whnf)
              rw [wrap_id (by omega) (by omega)]
              refine ⟨?_, h.kept 1 rfl⟩
              unfold readV
              rw [rd_err hR hne (hsl.trans hE), Nat.add_comm o i]
              rfl
            | inl p =>
              obtain ⟨it, k⟩ := p
              (conv => whnf)
              have eb : byts (its ++ [it]) = byts its ++ [itB it] := by rw [byts_snoc, esc_byt hE]
              (conv => whnf)
              intro nb m5 hb he
              replace h := h.new' (l := byteVals [itB it]) hb (he.trans rfl)
              have hBn : m5.holds ⟨nb, 0, none⟩ (byteVals [itB it]) := (h.blk 0 rfl).holds fun k v hk => by rw [Nat.zero_add]; exact hk
              clear hb he
              (conv => whnf)
              obtain ⟨ok, hR2⟩ := h.app 1 (T := tbl) (e := 5) (news := byteVals [itB it]) (k := 1) (B := some ⟨nb, 0, none⟩) rfl rfl (.inr ⟨_, rfl, hBn⟩) rfl rfl (by show 2 * (_ + _) * 1 ≤ 2 ^ 48; omega) rfl
              refine ⟨_, _, ok, fun A2 c5 m6 hr2 => ?_⟩
              have h3 := (hR2 _ _ _ hr2).drop 0
              have e2 : byteVals (byts its) ++ byteVals [itB it] = byteVals (byts (its ++ [it])) := by rw [eb]; simp [byteVals]
              have e1 : (byts its).length + 1 = (byts (its ++ [it])).length := by rw [eb, List.length_append]; rfl
              replace h3 : Sep [sl A2 ((byts its).length + 1) c5 1 (byteVals (byts its) ++ byteVals [itB it]), kp m] m6 := h3
              rw [e2, e1] at h3
              (conv => whnf)
              rw [e1]
              exact ⟨(k, it, A2, c5, m6), le_eq ⟨rfl, rfl, rfl, rfl, trivial⟩ rfl rfl rfl, ⟨hsl.trans hE, h3⟩⟩
        · refine brk_true (by rw [decide_eq_false hpl]; rfl) ?_
          (conv => whnf)
          exact bad hpl
    · rintro ⟨k, it, A2, c2, M3⟩ ⟨hs1, h'⟩
      simp only at hs1 h'
      obtain ⟨g1, g2, g3, g4⟩ := stepl_ok hne hs1
      rw [List.length_drop, bl_len] at g4
      have hsl := step_len hne hs1
      (conv => whnf)
      have e2 : IntKind.i64.wrap (((i : Nat) : Int) + ((k : Nat) : Int)) = ((i + k : Nat) : Int) := by rw [wrap_id (by omega) (by omega)]; omega
      rw [e2]
      exact ⟨(i + k, its ++ [it], A2, c2, M3), le_eq ⟨rfl, rfl, rfl, trivial⟩ rfl rfl rfl, ⟨by simp only; omega, rd_next hR hne hs1, by simp only; rw [byts_snoc, List.length_append]; omega, h'⟩, by simp only; omega⟩
  · have hi2 : i = s.size := by have : ¬ ((i : Nat) : Int) < ((s.size : Nat) : Int) := of_decide_eq_false c0; omega
    subst hi2
    have hend : rdl (bl s) = .inl its := rd_end hR (by rw [List.drop_eq_nil_iff, bl_len]; exact Nat.le_refl _)
    (conv => whnf)
    refine ⟨byts its, rfl, ?_, ?_⟩
    · have h2 := sl_olds (h.asn 0 rfl)
      rcases h2 with ⟨h2, h3⟩ | h2
      · refine .inl ⟨h3, ?_⟩
        exact List.length_eq_zero_iff.1 (by omega)
      · exact .inr h2
    (conv => whnf)
    refine FCalls.mono (shown_c (hG.more (h.kept 1 rfl)) (s := ⟨(byts its).toArray⟩) (by rw [size_mk]; omega)) ?_
    rintro v M2 ⟨rfl, hm2⟩
    rw [bl_mk]
    have hkm : m.le M2 := Mem.le_trans (h.kept 1 rfl) hm2
    (conv => whnf)
    intro cap b2 M3 hcap hb he
    have h3 := ob_new (Sep.init M2) hb he
    have hkm3 : m.le M3 := Mem.le_trans hkm (h3.kept 1 rfl)
    clear hb he hcap
    (conv => whnf)
    have hA := read_alike hend
    refine loop_keep [0, 13, 76, 77] Nat (fun j => [(78, .v (.int .i64 ((j : Nat) : Int)))]) (fun _ => []) (fun _ => M3) (fun j => Upto (shl (byts its)) (bl s) j) (fun j => (shl (byts its)).length - j) 0 ⟨rfl, trivial⟩ rfl rfl (Upto.zero _ _) ?_
    (conv => whnf)
    refine ⟨rfl, ?_⟩
    intro j hJ
    (conv => whnf)
    have hls := shl_len _ (byts its) (Nat.le_refl _)
    refine brk_intro (fun d1 => ?_) (fun d1 => ?_)
    · have d1 : j < (shl (byts its)).length := by have : ((j : Nat) : Int) < (((shl (byts its)).length : Nat) : Int) := of_decide_eq_true d1; omega
      obtain ⟨x, hx⟩ : ∃ x, (shl (byts its))[j]? = some x := ⟨_, List.getElem?_eq_getElem d1⟩
      have d2 := hJ.lt hA d1
      obtain ⟨y, hy⟩ : ∃ y, (bl s)[j]? = some y := ⟨_, List.getElem?_eq_getElem d2⟩
      have hcl := bytes_cell (ob_get h3 0 rfl) (show (bl ⟨(shl (byts its)).toArray⟩)[j]? = some x from hx)
      have hby : bt s ((j : Nat) : Int) = ((y.toNat : Nat) : Int) := by
        have := bt_list (L := bl s) hy
        rw [mk_bl] at this
        exact this
      have d3 : j < s.size := d2
      (conv => whnf)
      refine ⟨_, rfl, by omega, by show _ < (((shl (byts its)).length : Nat) : Int); omega, ?_⟩
      (conv => whnf)
      refine ⟨_, by show M3.cell (Addr.add ⟨b2, 0, none⟩ (j * 1)) = _; rw [Nat.mul_one, add_mk, Nat.zero_add]; exact hcl, ?_⟩
      (conv => whnf)
      refine ⟨by omega, by omega, ?_⟩
      (conv => whnf)
      rw [hby]
      refine brk_intro (fun d4 => ?_) (fun d4 => ?_)
      · have hxy : x ≠ y := by rintro rfl; simp at d4
        (conv => whnf)
        refine ⟨?_, hkm3⟩
        unfold readV readR
        rw [hend]
        simp only
        rw [hJ.stop hx hy hxy]
        rfl
      · have hxy : x = y := by
          have h1 : ((x.toNat : Nat) : Int) = ((y.toNat : Nat) : Int) := by simpa using d4
          exact UInt8.toNat_inj.1 (by omega)
        subst hxy
        (conv => whnf)
        have e2 : IntKind.i64.wrap (((j : Nat) : Int) + 1) = ((j + 1 : Nat) : Int) := by rw [wrap_id (by omega) (by omega)]; omega
        rw [e2]
        exact ⟨j + 1, le_eq ⟨rfl, rfl, rfl, rfl, rfl, trivial⟩ rfl rfl rfl, hJ.next hx hy, by omega⟩
    · have d1 : ¬ j < (shl (byts its)).length := by have : ¬ ((j : Nat) : Int) < (((shl (byts its)).length : Nat) : Int) := of_decide_eq_false d1; omega
      (conv => whnf)
      refine ⟨?_, hkm3⟩
      unfold readV readR
      rw [hend]
      simp only
      rw [hJ.fin (.inl (by omega))]
      rfl
end Go.Proofs.YtlnekbdcbkndbaaDoor
