/- Chars: the document's Read. -/
import Derived.Test.YtlnekbdcbkndbaaDoorChR
namespace Go.Proofs.YtlnekbdcbkndbaaDoor
open Go Go.Mv
set_option maxHeartbeats 2000000
set_option maxRecDepth 10000
set_option linter.unusedVariables false
set_option linter.unusedSimpArgs false
attribute [local irreducible] FCalls IntKind.wrap bits Mem.set Mem.setCell Mem.setCells YCalls RunP NextP
theorem refread_c {m : Mem} {s : ByteArray} (hs : s.size < 2 ^ 40) : FCalls Tryd.prog 14 [.string s] m fun v m' => v = readV (bl s) ∧ m.le m' := by
  refine fcalls_of_vc (T := tbl) (B := bodies) (pr := [99999]) (DR := dr14) (args := [.v (.string s)]) tbl_ok bodies_ok mixed Tryd.func14 rfl (by decide +kernel) (by simp [Tryd.f14]) rfl ?_
  (conv => whnf)
  refine loop_keep [0] (Nat × List Item × Option Addr × Nat × Mem) (fun t => [(6, .v (.int .i64 ((t.1 : Nat) : Int))), (5, .v (.slice t.2.2.1 (byts t.2.1).length t.2.2.2.1))]) (fun _ => []) (fun t => t.2.2.2.2)
    (fun t => t.1 ≤ s.size ∧ rdl (bl s) = addR t.2.1 t.1 (rdl ((bl s).drop t.1)) ∧ (byts t.2.1).length ≤ t.1 ∧ Sep [sl t.2.2.1 (byts t.2.1).length t.2.2.2.1 1 (byteVals (byts t.2.1)), kp m] t.2.2.2.2) (fun t => s.size - t.1) (0, [], none, 0, m) ⟨rfl, rfl, trivial⟩ rfl rfl ⟨Nat.zero_le _, by
      show rdl (bl s) = addR [] 0 (rdl ((bl s).drop 0))
      rw [List.drop_zero]
      cases rdl (bl s) with
      | inl r => rfl
      | inr e => rfl, Nat.zero_le _, Sep.free (A := sl none 0 0 1 []) (Sep.init m) sl_nil⟩ ?_
  (conv => whnf)
  refine ⟨rfl, ?_⟩
  rintro ⟨i, its, A, c, M⟩ ⟨hi, hR, hbl, h⟩
  simp only at hi hR hbl h
  (conv => whnf)
  refine brk_intro (fun c0 => ?_) (fun c0 => ?_)
  · have hp : i < s.size := by have : ((i : Nat) : Int) < ((s.size : Nat) : Int) := of_decide_eq_true c0; omega
    have hw := wd_pos hp
    have hwl := wd_le hp
    have hcd : cdl ((bl s).drop i) = cd s i := (cdl_eq hi).symm
    have hwd : wdl ((bl s).drop i) = wd s i := (wdl_eq hi).symm
    have hne : (bl s).drop i ≠ [] := by
      intro hn
      have := congrArg List.length hn
      rw [List.length_drop, bl_len] at this
      simp at this
      omega
    have hdc := dec_cut (s := s) (a := i) hi
    have hr0 := (dec_facts hp).2.2.2
    have hcdr : cd s i = if (Utf8.decode s i).1 = 65533 ∧ (Utf8.decode s i).2 ≤ 1 then (-1 : Int) else (((Utf8.decode s i).1 : Nat) : Int) := rfl
    have hwi : IntKind.i64.wrap (((i : Nat) : Int) + ((wd s i : Nat) : Int)) = ((i + wd s i : Nat) : Int) := by
      rw [wrap_id (by omega) (by omega)]
      omega
    (conv => whnf)
    refine FCalls.mono (refnext_c (by omega)) ?_
    rintro v M1 ⟨rfl, rfl⟩
    rw [if_pos ⟨by omega, by omega⟩, Int.toNat_natCast]
    (conv => whnf)
    refine FCalls.mono refplain_c ?_
    rintro v M1 ⟨rfl, rfl⟩
    (conv => whnf)
    by_cases hpl : plainC (cd s i)
    · refine brk_false (by rw [decide_eq_true hpl]; rfl) ?_
      have h0 : 0 ≤ cdl ((bl s).drop i) := by rw [hcd]; unfold plainC at hpl; omega
      obtain ⟨g1, g2⟩ := enc_take hne h0
      rw [hcd] at g1 g2
      (conv => whnf)
      refine brk_intro (fun c1 => ?_) (fun c1 => ?_)
      · have c1 : cd s i ≠ 92 := by rintro hq; rw [hq] at c1; exact absurd c1 (by decide)
        have hs1 : stepl ((bl s).drop i) = .inl (.pl (cd s i).toNat, wd s i) := by unfold stepl; rw [hcd, if_pos hpl, if_neg c1, hwd]
        (conv => whnf)
        rw [hwi]
        refine ⟨by omega, by omega, by omega, ?_⟩
        have hbt : (s.extract (Int.toNat ((i : Nat) : Int)) (Int.toNat ((i + wd s i : Nat) : Int))).data.toList = enc (cd s i).toNat := (bl_cut (s := s) (i := i) hwl).trans (by rw [Nat.add_sub_cancel_left, g2, hwd])
        generalize s.extract (Int.toNat ((i : Nat) : Int)) (Int.toNat ((i + wd s i : Nat) : Int)) = t at hbt ⊢
        have hts : t.size = (enc (cd s i).toNat).length := by rw [← hbt]; rfl
        have htw : t.size = wd s i := by rw [hts, g2, wdl_enc_le hne, hwd]
        have htl := enc_len (cd s i).toNat
        have htl : t.size ≤ 4 := by rw [hts, htl]; repeat' split
                                    all_goals omega
        (conv => whnf)
        have eb : byts (its ++ [.pl (cd s i).toNat]) = byts its ++ enc (cd s i).toNat := by rw [byts_snoc]; rfl
        obtain ⟨ok, hR2⟩ := h.appS 0 (T := tbl) (e := 5) (news := byteVals t.data.toList) (k := t.size) rfl (by rw [show (tbl.at 5).size = 1 from rfl, Nat.mul_one]; simp [byteVals]) oneB rfl (by show 2 * (_ + _) * 1 ≤ 2 ^ 48; omega) rfl
        refine append_str tbl_ok (e := 5) rfl rfl rfl ok fun A' c' m3 hr3 => ?_
        have h3 := hR2 _ _ _ hr3
        have e2 : byteVals (byts its) ++ byteVals t.data.toList = byteVals (byts (its ++ [.pl (cd s i).toNat])) := by rw [eb, hbt]; simp [byteVals]
        have e1 : (byts its).length + t.size = (byts (its ++ [.pl (cd s i).toNat])).length := by rw [eb, List.length_append, hts]
        replace h3 : Sep [sl A' ((byts its).length + t.size) c' 1 (byteVals (byts its) ++ byteVals t.data.toList), kp m] m3 := h3
        rw [e2, e1] at h3
        (conv => whnf)
        rw [e1]
        rw [hwi]
        exact ⟨(i + wd s i, its ++ [.pl (cd s i).toNat], A', c', m3), le_eq ⟨rfl, rfl, rfl, trivial⟩ rfl rfl rfl, ⟨by simp only; omega, rd_next hR hne hs1, by simp only; rw [← e1]; omega, h3⟩, by simp only; omega⟩
      · have c1 : cd s i = 92 := by
          apply Classical.byContradiction
          intro hq
          simp [hq] at c1
        have hsl : stepl ((bl s).drop i) = escl ((bl s).drop i) := by unfold stepl; rw [hcd, if_pos hpl, if_pos c1]
        obtain ⟨r, hr, hw1⟩ := first_ascii (x := 92) (by decide) (by rw [hcd, c1]; rfl) hne
        have hrl : s.size = i + (1 + r.length) := by
          have := congrArg List.length hr
          rw [List.length_drop, bl_len] at this
          simp at this
          omega
        have hwi1 : IntKind.i64.wrap (((i : Nat) : Int) + 1) = ((i + 1 : Nat) : Int) := by rw [wrap_id (by omega) (by omega)]; omega
        (conv => whnf)
        rw [hwi1]
        match r, hr, hrl with
        | [], hr, hrl =>
          refine brk_true (by simp at hrl; simp; omega) ?_
          (conv => whnf)
          refine ⟨?_, h.kept 1 rfl⟩
          have hE : escl ((bl s).drop i) = .inr (31, 1) := by rw [hr]; rfl
          unfold readV
          rw [rd_err hR hne (hsl.trans hE), hrl, Nat.add_comm 1 i]
          rfl
        | x :: r2, hr, hrl =>
          simp at hrl
          refine brk_false (by simp; omega) ?_
          (conv => whnf)
          rw [hwi1]
          refine ⟨by omega, by omega, ?_⟩
          (conv => whnf)
          rw [show bt s ((i + 1 : Nat) : Int) = ((x.toNat : Nat) : Int) from bt_drop (j := 1) hr rfl]
          have lb := x.toNat_lt
          have nb : ∀ (c : UInt8), ((((x.toNat : Nat) : Int) == ((c.toNat : Nat) : Int)) = true) → x = c := fun c h => UInt8.toNat_inj.1 (by have : ((x.toNat : Nat) : Int) = ((c.toNat : Nat) : Int) := (by simpa using h); omega)
          have nb' : ∀ (c : UInt8), ((((x.toNat : Nat) : Int) == ((c.toNat : Nat) : Int)) = false) → x ≠ c := fun c h => by rintro rfl; simp at h
          refine brk_intro (fun c2 => ?_) (fun c2 => ?_)
          · obtain rfl := nb 92 c2
            have hE : escl ((bl s).drop i) = .inl (.bs, 2) := by rw [hr]; rfl
            have hs1 : stepl ((bl s).drop i) = .inl (.bs, 2) := hsl.trans hE
            have hln : s.size = i + ((bl s).drop i).length := by rw [List.length_drop, bl_len]; omega
            obtain ⟨k1, k2, k3, k4⟩ := stepl_ok hne hs1
            have eb : byts (its ++ [.bs]) = byts its ++ [92] := by rw [byts_snoc]; rfl
            (conv => whnf)
            intro nb m5 hb he
            replace h := h.new' (l := byteVals [92]) hb (he.trans rfl)
            have hBn : m5.holds ⟨nb, 0, none⟩ (byteVals [92]) := (h.blk 0 rfl).holds fun k v hk => by rw [Nat.zero_add]; exact hk
            clear hb he
            (conv => whnf)
            obtain ⟨ok, hR2⟩ := h.app 1 (T := tbl) (e := 5) (news := byteVals [92]) (k := 1) (B := some ⟨nb, 0, none⟩) rfl rfl (.inr ⟨_, rfl, hBn⟩) rfl rfl (by show 2 * (_ + _) * 1 ≤ 2 ^ 48; omega) rfl
            refine ⟨_, _, ok, fun A2 c5 m6 hr2 => ?_⟩
            have h3 := (hR2 _ _ _ hr2).drop 0
            have e2 : byteVals (byts its) ++ byteVals [92] = byteVals (byts (its ++ [.bs])) := by rw [eb]; simp [byteVals]
            have e1 : (byts its).length + 1 = (byts (its ++ [.bs])).length := by rw [eb, List.length_append]; rfl
            replace h3 : Sep [sl A2 ((byts its).length + 1) c5 1 (byteVals (byts its) ++ byteVals [92]), kp m] m6 := h3
            rw [e2, e1] at h3
            (conv => whnf)
            have e3 : IntKind.i64.wrap (((i : Nat) : Int) + 2) = ((i + 2 : Nat) : Int) := by rw [wrap_id (by omega) (by omega)]; omega
            rw [e1, e3]
            exact ⟨(i + 2, its ++ [.bs], A2, c5, m6), le_eq ⟨rfl, rfl, rfl, trivial⟩ rfl rfl rfl, ⟨by simp only; omega, rd_next hR hne hs1, by simp only; rw [← e1]; omega, h3⟩, by simp only; omega⟩
          · have c2 := nb' 92 c2
            (conv => whnf)
            refine brk_intro (fun c3 => ?_) (fun c3 => ?_)
            · obtain rfl := nb 110 c3
              have hE : escl ((bl s).drop i) = .inl (.nl, 2) := by rw [hr]; rfl
              have hs1 : stepl ((bl s).drop i) = .inl (.nl, 2) := hsl.trans hE
              have hln : s.size = i + ((bl s).drop i).length := by rw [List.length_drop, bl_len]; omega
              obtain ⟨k1, k2, k3, k4⟩ := stepl_ok hne hs1
              have eb : byts (its ++ [.nl]) = byts its ++ [10] := by rw [byts_snoc]; rfl
              (conv => whnf)
              intro nb m5 hb he
              replace h := h.new' (l := byteVals [10]) hb (he.trans rfl)
              have hBn : m5.holds ⟨nb, 0, none⟩ (byteVals [10]) := (h.blk 0 rfl).holds fun k v hk => by rw [Nat.zero_add]; exact hk
              clear hb he
              (conv => whnf)
              obtain ⟨ok, hR2⟩ := h.app 1 (T := tbl) (e := 5) (news := byteVals [10]) (k := 1) (B := some ⟨nb, 0, none⟩) rfl rfl (.inr ⟨_, rfl, hBn⟩) rfl rfl (by show 2 * (_ + _) * 1 ≤ 2 ^ 48; omega) rfl
              refine ⟨_, _, ok, fun A2 c5 m6 hr2 => ?_⟩
              have h3 := (hR2 _ _ _ hr2).drop 0
              have e2 : byteVals (byts its) ++ byteVals [10] = byteVals (byts (its ++ [.nl])) := by rw [eb]; simp [byteVals]
              have e1 : (byts its).length + 1 = (byts (its ++ [.nl])).length := by rw [eb, List.length_append]; rfl
              replace h3 : Sep [sl A2 ((byts its).length + 1) c5 1 (byteVals (byts its) ++ byteVals [10]), kp m] m6 := h3
              rw [e2, e1] at h3
              (conv => whnf)
              have e3 : IntKind.i64.wrap (((i : Nat) : Int) + 2) = ((i + 2 : Nat) : Int) := by rw [wrap_id (by omega) (by omega)]; omega
              rw [e1, e3]
              exact ⟨(i + 2, its ++ [.nl], A2, c5, m6), le_eq ⟨rfl, rfl, rfl, trivial⟩ rfl rfl rfl, ⟨by simp only; omega, rd_next hR hne hs1, by simp only; rw [← e1]; omega, h3⟩, by simp only; omega⟩
            · have c3 := nb' 110 c3
              (conv => whnf)
              refine brk_intro (fun c4 => ?_) (fun c4 => ?_)
              · obtain rfl := nb 120 c4
                (conv => whnf)
                refine FCalls.mono (hex_c (by omega) hr) ?_
                rintro v M1 ⟨rfl, rfl⟩
                rw [← hr]
                cases hE : escl ((bl s).drop i) with
                | inr e =>
                  obtain ⟨e, o⟩ := e
                  have he0 := escl_err hE
                  simp only at he0
                  (conv => whnf)
                  refine brk_true (by simp; omega) ?_
                  (conv => whnf)
                  refine ⟨?_, h.kept 1 rfl⟩
                  unfold readV
                  rw [rd_err hR hne (hsl.trans hE), Nat.add_comm o i]
                  rfl
                | inl p =>
                  obtain ⟨it, k⟩ := p
                  obtain ⟨b, rfl, rfl⟩ : ∃ b, it = .hx b ∧ k = 4 := by
                    rw [hr] at hE
                    unfold escl at hE
                    simp only at hE
                    rw [if_neg (by decide), if_neg (by decide), if_pos trivial] at hE
                    repeat' split at hE
                    all_goals first | (cases hE; done) | (injection hE with hE; injection hE with h1 h2; exact ⟨_, h1.symm, h2.symm⟩)
                  have hs1 : stepl ((bl s).drop i) = .inl ((.hx b), 4) := hsl.trans hE
                  have hln : s.size = i + ((bl s).drop i).length := by rw [List.length_drop, bl_len]; omega
                  obtain ⟨k1, k2, k3, k4⟩ := stepl_ok hne hs1
                  have eb : byts (its ++ [(.hx b)]) = byts its ++ [b] := by rw [byts_snoc]; rfl
                  (conv => whnf)
                  intro nb m5 hb he
                  replace h := h.new' (l := byteVals [b]) hb (he.trans rfl)
                  have hBn : m5.holds ⟨nb, 0, none⟩ (byteVals [b]) := (h.blk 0 rfl).holds fun k v hk => by rw [Nat.zero_add]; exact hk
                  clear hb he
                  (conv => whnf)
                  obtain ⟨ok, hR2⟩ := h.app 1 (T := tbl) (e := 5) (news := byteVals [b]) (k := 1) (B := some ⟨nb, 0, none⟩) rfl rfl (.inr ⟨_, rfl, hBn⟩) rfl rfl (by show 2 * (_ + _) * 1 ≤ 2 ^ 48; omega) rfl
                  refine ⟨_, _, ok, fun A2 c5 m6 hr2 => ?_⟩
                  have h3 := (hR2 _ _ _ hr2).drop 0
                  have e2 : byteVals (byts its) ++ byteVals [b] = byteVals (byts (its ++ [(.hx b)])) := by rw [eb]; simp [byteVals]
                  have e1 : (byts its).length + 1 = (byts (its ++ [(.hx b)])).length := by rw [eb, List.length_append]; rfl
                  replace h3 : Sep [sl A2 ((byts its).length + 1) c5 1 (byteVals (byts its) ++ byteVals [b]), kp m] m6 := h3
                  rw [e2, e1] at h3
                  (conv => whnf)
                  have e3 : IntKind.i64.wrap (((i : Nat) : Int) + 4) = ((i + 4 : Nat) : Int) := by rw [wrap_id (by omega) (by omega)]; omega
                  rw [e1, e3]
                  exact ⟨(i + 4, its ++ [(.hx b)], A2, c5, m6), le_eq ⟨rfl, rfl, rfl, trivial⟩ rfl rfl rfl, ⟨by simp only; omega, rd_next hR hne hs1, by simp only; rw [← e1]; omega, h3⟩, by simp only; omega⟩
              · have c4 := nb' 120 c4
                (conv => whnf)
                refine ⟨?_, h.kept 1 rfl⟩
                have hE : escl ((bl s).drop i) = .inr (32, 0) := by rw [hr]; unfold escl; simp [c2, c3, c4]
                unfold readV
                rw [rd_err hR hne (hsl.trans hE), Nat.zero_add]
                rfl
    · refine brk_true (by rw [decide_eq_false hpl]; rfl) ?_
      (conv => whnf)
      have hs1 : stepl ((bl s).drop i) = .inr (20, 0) := by unfold stepl; rw [hcd, if_neg hpl]
      refine ⟨?_, h.kept 1 rfl⟩
      unfold readV
      rw [rd_err hR hne hs1, Nat.zero_add]
      rfl
  · have hi2 : i = s.size := by have : ¬ ((i : Nat) : Int) < ((s.size : Nat) : Int) := of_decide_eq_false c0; omega
    subst hi2
    have hend : rdl (bl s) = .inl its := rd_end hR (by rw [List.drop_eq_nil_iff, bl_len]; exact Nat.le_refl _)
    (conv => whnf)
    refine ⟨byts its, rfl, ?_, ?_⟩
    · have h2 := sl_olds (h.asn 0 rfl)
      rcases h2 with ⟨h2, h3⟩ | h2
      · refine .inl ⟨h3, ?_⟩
        exact List.length_eq_zero_iff.1 (by omega)
      · exact .inr h2
    (conv => whnf)
    refine FCalls.mono (refshown_c (s := ⟨(byts its).toArray⟩) (by rw [size_mk]; omega)) ?_
    rintro v M2 ⟨rfl, rfl⟩
    rw [bl_mk]
    have hA := read_alike hend
    (conv => whnf)
    refine loop_keep [0, 5, 13] Nat (fun j => [(14, .v (.int .i64 ((j : Nat) : Int)))]) (fun _ => []) (fun _ => M2) (fun j => Upto (shl (byts its)) (bl s) j) (fun j => (shl (byts its)).length - j) 0 ⟨rfl, trivial⟩ rfl rfl (Upto.zero _ _) ?_
    (conv => whnf)
    refine ⟨rfl, ?_⟩
    intro j hJ
    (conv => whnf)
    have hls := shl_len _ (byts its) (Nat.le_refl _)
    have fin : (shl (byts its)).length ≤ j ∨ (bl s).length ≤ j → readV (bl s) = .tuple #[.string ⟨(byts its).toArray⟩, .int .i64 0, .int .i64 0] := fun hq => by
      unfold readV readR
      rw [hend]
      simp only
      rw [hJ.fin hq]
      rfl
    refine brk_intro (fun d1 => ?_) (fun d1 => ?_)
    · have d1 : j < (shl (byts its)).length := by have : ((j : Nat) : Int) < (((shl (byts its)).length : Nat) : Int) := of_decide_eq_true (eq_of_beq d1); omega
      have d2 := hJ.lt hA d1
      have d3 : j < s.size := d2
      (conv => whnf)
      refine brk_true (by simp; omega) ?_
      obtain ⟨x, hx⟩ : ∃ x, (shl (byts its))[j]? = some x := ⟨_, List.getElem?_eq_getElem d1⟩
      obtain ⟨y, hy⟩ : ∃ y, (bl s)[j]? = some y := ⟨_, List.getElem?_eq_getElem d2⟩
      have hby : bt s ((j : Nat) : Int) = ((y.toNat : Nat) : Int) := by
        have := bt_list (L := bl s) hy
        rw [mk_bl] at this
        exact this
      have hbx : bt ⟨(shl (byts its)).toArray⟩ ((j : Nat) : Int) = ((x.toNat : Nat) : Int) := bt_list hx
      (conv => whnf)
      refine ⟨by omega, by show _ < (((shl (byts its)).length : Nat) : Int); omega, ?_⟩
      (conv => whnf)
      refine ⟨by omega, by omega, ?_⟩
      (conv => whnf)
      rw [hby, hbx]
      refine brk_intro (fun d4 => ?_) (fun d4 => ?_)
      · have hxy : x ≠ y := by rintro rfl; simp at d4
        (conv => whnf)
        refine ⟨?_, h.kept 1 rfl⟩
        unfold readV readR
        rw [hend]
        simp only
        rw [hJ.stop hx hy hxy]
        rfl
      · have hxy : x = y := by
          have h1 : ((x.toNat : Nat) : Int) = ((y.toNat : Nat) : Int) := by simpa using d4
          exact UInt8.toNat_inj.1 (by omega)
        subst hxy
        (conv => whnf)
        have e2 : IntKind.i64.wrap (((j : Nat) : Int) + 1) = ((j + 1 : Nat) : Int) := by rw [wrap_id (by omega) (by omega)]; omega
        rw [e2]
        exact ⟨j + 1, le_eq ⟨rfl, rfl, rfl, rfl, trivial⟩ rfl rfl rfl, hJ.next hx hy, by omega⟩
    · have d1 : ¬ j < (shl (byts its)).length := by have : ¬ ((j : Nat) : Int) < (((shl (byts its)).length : Nat) : Int) := fun q => ne_of_beq_false d1 (decide_eq_true q); omega
      (conv => whnf)
      refine ⟨byts its, rfl, ?_, ?_⟩
      · have h2 := sl_olds (h.asn 0 rfl)
        rcases h2 with ⟨h2, h3⟩ | h2
        · refine .inl ⟨h3, ?_⟩
          exact List.length_eq_zero_iff.1 (by omega)
        · exact .inr h2
      (conv => whnf)
      refine ⟨(fin (.inl (by omega))).symm, h.kept 1 rfl⟩
end Go.Proofs.YtlnekbdcbkndbaaDoor
