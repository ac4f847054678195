/- Law 16: ProofGrows. -/
import Derived.Test.YtigfmnfdphijaaaGreatDoorPfJ
import Derived.Test.YtigfmnfdphijaaaGreatDoorPgA
namespace Go.Proofs.YtigfmnfdphijaaaGreatDoor
open Go.RowKit
set_option linter.unusedVariables false
set_option linter.unusedSimpArgs false
set_option linter.unnecessarySimpa false
def u8s (zs : List Nat) : List Value := zs.map fun (z : Nat) => Value.int .u8 (z : Int)
/-- A row of the call's own beside one that was made later: what is known but for the first. -/
theorem Own.apart {M M' M1 : Mm} {e e1 : TypeId} {sz n sz1 n1 : Nat} {v v1 : Value} {xs xs1 : List Value} (hl : M.le M') (h : Own M M' e sz v n xs) (hl1 : M'.le M1) (h1 : Own M' M1 e1 sz1 v1 n1 xs1) : ∃ K : Mm, M.le K ∧ K.le M1 ∧ Own K M1 e sz v n xs ∧ Rd K sz1 v1 n1 xs1 := by
  obtain ⟨hx, ⟨rfl, rfl⟩ | ⟨g, cap, cur, rfl, hg, hh, hc, hm, hs, ht⟩⟩ := h
  · exact ⟨M1, Mm.le_trans hl hl1, Mm.le_refl _, ⟨hx, .inl ⟨rfl, rfl⟩⟩, h1.rd⟩
  · exact ⟨M1.drop g, Mm.le_drop hg (Mm.le_trans hl hl1), Mm.drop_le _ _, ⟨hx, .inr ⟨g, cap, cur, rfl, Mm.drop_none _ _, hl1 _ _ hh, hc, hm, hs, ht⟩⟩, h1.rd_drop hh⟩
def GwA (σ : World) (M : Mm) (n : Nat) (l : List OpS) (d i : Value) (wr : World) : Prop := ∃ k : Nat, k ≤ n ∧ i = .int .i64 k ∧ d = .int .i64 (cntO (doneO l) k : Nat) ∧ Has σ M wr ∧ ∀ (j : Nat) (o : OpS), j < k → l[j]? = some o → 0 ≤ o.tt → 0 ≤ o.fr ∧ o.fr < o.tt
def GwB (σ : World) (M : Mm) (n : Nat) (l : List OpS) (v g i : Value) (wr : World) : Prop := ∃ (j : Nat) (order : List Int), j ≤ n ∧ i = .int .i64 j ∧ g = .int .i64 (gotO l order : Nat) ∧ GrO l order ∧ order.length = j ∧ Acc σ M wr 3 1 v j (ints1 order)
set_option maxHeartbeats 8000000 in
set_option maxRecDepth 20000 in
theorem proofGrows_eq {σ w : World} {M : Mm} (h : Has σ M w) (va vp : Value) (l : List OpS) (zs : List Nat) (n m : Nat) (hl : l.length = n) (hm : zs.length = m) (hz255 : ∀ (i z : Nat), zs[i]? = some z → z ≤ 255) (ha : Rd M 16 va n (l.flatMap encO)) (hp : Rd M 1 vp m (u8s zs)) :
    Calls Tryz.prog 4 #[va, vp] w fun r w' => r = .returned (.bool true) ∧ Has σ M w' := by
  have LV := Lib.hid (fun (M' : Mm) (w : World) (h : Has σ M' w) => lives_eq h)
  by_cases hn : n ≤ 30
  · have MY := Lib.hid (fun (M' : Mm) (hM : M.le M') (w : World) (h : Has σ M' w) (vo : Value) (order : List Int) (m : Nat) (hm : order.length = m) (ho : Rd M' 1 vo m (ints1 order)) (hmm : m ≤ 1000000) => may_eq h va vo l order n m hl hm (ha.le hM) ho (by omega) hmm)
    have NX := Lib.hid (fun (M' : Mm) (hM : M.le M') (w : World) (h : Has σ M' w) (vo : Value) (order : List Int) (m : Nat) (hm : order.length = m) (ho : Rd M' 1 vo m (ints1 order)) (hmm : m ≤ 1000000) => next_eq h va vo l order n m hl hm (ha.le hM) ho (by omega) hmm)
    have HA := Lib.hid ha
    have HP := Lib.hid hp
    obtain ⟨A, c, rfl⟩ := ha.form
    obtain ⟨B, d, rfl⟩ := hp.form
    have HL := Lib.hid hl
    have HM := Lib.hid hm
    have HN := Lib.hid hn
    have HZ := Lib.hid hz255
    clear hz255
    have d1 : decide ((30 : Int) < (n : Int)) = false := decide_eq_false (by omega)
    have d3 : decide (30 < n) = false := decide_eq_false (by omega)
    clear ha hp hl hm
    go_enter Tryz.func4, Tryz.ntmps4
    go_wp2
    clear d1 d3
    go_loopw [5, 6] (fun d i wr => GwA σ M n l d i wr) (fun _ i _ => n - (intOf i).toNat)
    case atStart => exact ⟨0, Nat.zero_le _, rfl, rfl, h, fun j o hj => absurd hj (by omega)⟩
    case round =>
      clear h w
      obtain ⟨w, rfl⟩ : ∃ x : World, x = wr := ⟨_, rfl⟩
      obtain ⟨k, hk, rfl, rfl, h, hw⟩ := hrel
      have HW := Lib.hid hw
      clear hw
      by_cases hlt : k < n
      · obtain ⟨o, ho⟩ : ∃ o, l[k]? = some o := ⟨_, List.getElem?_eq_getElem (by have := HL.out; omega)⟩
        obtain ⟨bl, ol, cl, csl, tl, fl, e1, hMl, hxl⟩ := HA.out.elem encO_len hlt ho
        cases e1
        have g14 : csl[ol + k * 16 + 14]? = some (.int .i64 o.fr) := hxl 14 _ rfl
        have g15 : csl[ol + k * 16 + 15]? = some (.int .i64 o.tt) := hxl 15 _ rfl
        have HO := Lib.hid ho
        have hlt' : (k : Int) < (n : Int) := by omega
        clear hxl ho
        have HC : ∀ b : Bool, doneO l k = b → cntO (doneO l) (k + 1) = cntO (doneO l) k + if b then 1 else 0 := fun b hb => by simp only [cntO, hb]
        have HC := Lib.hid HC
        have hcl := cntO_le (doneO l) k
        obtain ⟨ck, hck⟩ : ∃ ck, cntO (doneO l) k = ck := ⟨_, rfl⟩
        rw [hck] at hcl
        have HCK := Lib.hid hck
        try rw [hck]
        clear hck
        have HD : doneO l k = decide (0 ≤ o.tt) := by unfold doneO; rw [HO.out]
        by_cases htt : 0 ≤ o.tt
        · have d2 : decide (0 ≤ o.tt) = true := decide_eq_true htt
          have HC1 := Lib.hid (HC.out true (HD.trans d2))
          clear HD
          by_cases h0 : o.fr < 0
          · have d4 : decide (o.fr < 0) = true := decide_eq_true h0
            clear h0 htt
            go_upto_region 9 with (first
              | (with_reducible show wpList _ _ _ ({ dst := _, op := Op.load 3 _, type := _, pos := _, after := _, guard := _ } :: _) _ _; go_loud (refine wpList_load1_has h rfl 3 _ rfl rfl hMl g15 Tryz.underlying3 rfl ?_)))
            refine wp_region_class (Has σ M) (by kernel_rfl) (by kernel_rfl) h.drew ?_
            clear h
            repeat (first
              | go_big_quiet_skip
              | (go_big_quiet_want; first
                | (refine quiet_load_has 3 _ rfl rfl hMl g14 Tryz.underlying3 rfl ?_; simp only [Act.put, List.setIfInBounds_toArray, List.set_cons_zero, List.set_cons_succ]; go_big_quiet_on)
                | (refine quiet_load_has 3 _ rfl rfl hMl g15 Tryz.underlying3 rfl ?_; simp only [Act.put, List.setIfInBounds_toArray, List.set_cons_zero, List.set_cons_succ]; go_big_quiet_on)
                | (go_big_quiet_op; first | go_big_quiet_on | go_big_quiet_call (first | with_reducible exact fun _ => rfl))))
            refine wpQuiet_nil ?_
            try clear w
            intro w h
            go_wp2_with (first
              | (go_at_call 5; go_loud (refine (LV.out _ _ h).mono ?_); clear h; rintro _ w ⟨rfl, h⟩))
            go_ret
            exact ⟨rfl, h⟩
          have d4 : decide (o.fr < 0) = false := decide_eq_false h0
          by_cases h1 : o.tt ≤ o.fr
          · have d5 : decide (o.tt ≤ o.fr) = true := decide_eq_true h1
            clear h0 htt h1
            go_upto_region 9 with (first
              | (with_reducible show wpList _ _ _ ({ dst := _, op := Op.load 3 _, type := _, pos := _, after := _, guard := _ } :: _) _ _; go_loud (refine wpList_load1_has h rfl 3 _ rfl rfl hMl g15 Tryz.underlying3 rfl ?_)))
            refine wp_region_class (Has σ M) (by kernel_rfl) (by kernel_rfl) h.drew ?_
            clear h
            repeat (first
              | go_big_quiet_skip
              | (go_big_quiet_want; first
                | (refine quiet_load_has 3 _ rfl rfl hMl g14 Tryz.underlying3 rfl ?_; simp only [Act.put, List.setIfInBounds_toArray, List.set_cons_zero, List.set_cons_succ]; go_big_quiet_on)
                | (refine quiet_load_has 3 _ rfl rfl hMl g15 Tryz.underlying3 rfl ?_; simp only [Act.put, List.setIfInBounds_toArray, List.set_cons_zero, List.set_cons_succ]; go_big_quiet_on)
                | (go_big_quiet_op; first | go_big_quiet_on | go_big_quiet_call (first | with_reducible exact fun _ => rfl))))
            refine wpQuiet_nil ?_
            try clear w
            intro w h
            go_wp2_with (first
              | (go_at_call 5; go_loud (refine (LV.out _ _ h).mono ?_); clear h; rintro _ w ⟨rfl, h⟩))
            go_ret
            exact ⟨rfl, h⟩
          have d5 : decide (o.tt ≤ o.fr) = false := decide_eq_false h1
          have HF : Hid (∀ w, Has σ M w → GwA σ M n l (.int .i64 ((ck : Nat) + 1)) (.int .i64 ((k : Int) + 1)) w) := fun w h => ⟨k + 1, hlt, rfl, by rw [HC1.out, HCK.out]; rfl, h, fun j o' hj ho' ht => by
            by_cases e : j = k
            · subst e; rw [HO.out] at ho'; cases ho'; exact ⟨by omega, by omega⟩
            · exact HW.out j o' (by omega) ho' ht⟩
          clear h0 htt h1
          go_upto_region 9 with (first
            | (with_reducible show wpList _ _ _ ({ dst := _, op := Op.load 3 _, type := _, pos := _, after := _, guard := _ } :: _) _ _; go_loud (refine wpList_load1_has h rfl 3 _ rfl rfl hMl g15 Tryz.underlying3 rfl ?_)))
          refine wp_region_class (Has σ M) (by kernel_rfl) (by kernel_rfl) h.drew ?_
          clear h
          repeat (first
            | go_big_quiet_skip
            | (go_big_quiet_want; first
              | (refine quiet_load_has 3 _ rfl rfl hMl g14 Tryz.underlying3 rfl ?_; simp only [Act.put, List.setIfInBounds_toArray, List.set_cons_zero, List.set_cons_succ]; go_big_quiet_on)
              | (refine quiet_load_has 3 _ rfl rfl hMl g15 Tryz.underlying3 rfl ?_; simp only [Act.put, List.setIfInBounds_toArray, List.set_cons_zero, List.set_cons_succ]; go_big_quiet_on)
              | (go_big_quiet_op; first | go_big_quiet_on | go_big_quiet_call (first | with_reducible exact fun _ => rfl))))
          refine wpQuiet_nil ?_
          try clear w
          intro w h
          go_wp2
          first
            | exact ⟨HF.out _ h, by simp [intOf]; omega⟩
            | (go_roundw
               case rel => exact HF.out _ h
               case measure => simp [intOf]; omega)
        · have d2 : decide (0 ≤ o.tt) = false := decide_eq_false htt
          have HC1 := Lib.hid (HC.out false (HD.trans d2))
          have HF : Hid (∀ w, Has σ M w → GwA σ M n l (.int .i64 (ck : Nat)) (.int .i64 ((k : Int) + 1)) w) := fun w h => ⟨k + 1, hlt, rfl, by rw [HC1.out, HCK.out]; rfl, h, fun j o' hj ho' ht => by
            by_cases e : j = k
            · subst e; rw [HO.out] at ho'; cases ho'; exact absurd ht htt
            · exact HW.out j o' (by omega) ho' ht⟩
          clear HD htt
          go_wp2_with (first
            | (with_reducible show wpList _ _ _ ({ dst := _, op := Op.load 3 _, type := _, pos := _, after := _, guard := _ } :: _) _ _; go_loud (refine wpList_load1_has h rfl 3 _ rfl rfl hMl g15 Tryz.underlying3 rfl ?_)))
          first
            | exact ⟨HF.out _ h, by simp [intOf]; omega⟩
            | (go_roundw
               case rel => exact HF.out _ h
               case measure => simp [intOf]; omega)
      · obtain rfl : k = n := by omega
        have WO : Hid (WellO l) := fun i o ho ht => HW.out i o (by have := HL.out; have := (List.getElem?_eq_some_iff.1 ho).1; omega) ho ht
        obtain ⟨n, rfl⟩ : ∃ q : Nat, q = k := ⟨_, rfl⟩
        obtain ⟨dn, hdn⟩ : ∃ dn, cntO (doneO l) n = dn := ⟨_, rfl⟩
        have HDN : Hid (cntO (doneO l) l.length = dn) := by show cntO (doneO l) l.length = dn; rw [HL.out]; exact hdn
        have hdl : dn ≤ n := by rw [← hdn]; exact cntO_le _ _
        rw [hdn]
        clear hdn
        go_wp2
        go_loopw [7, 8, 9] (fun v g i wr => GwB σ M n l v g i wr) (fun _ _ i _ => n - (intOf i).toNat)
        case atStart => exact ⟨0, [], Nat.zero_le _, rfl, by
          have : gotO l [] = 0 := (cntO_zero (p := fun i => inO [] i && doneO l i) l.length).2 fun i _ => rfl
          rw [this]; rfl, GrO.first l, rfl, Acc.nil h _ _⟩
        case round =>
          clear h w
          obtain ⟨w, rfl⟩ : ∃ x : World, x = wr := ⟨_, rfl⟩
          obtain ⟨j, order, hj, rfl, rfl, hg, hlen, M1, h, hle1, hown1⟩ := hrel
          obtain ⟨v, rfl⟩ : ∃ x : Value, x = u7 := ⟨_, rfl⟩
          have HG := Lib.hid hg
          have HJ := Lib.hid hlen
          have HO1 := Lib.hid hown1
          obtain ⟨gn, hgn⟩ : ∃ gn, gotO l order = gn := ⟨_, rfl⟩
          have hgl : gn ≤ n := by rw [← hgn, ← HL.out]; exact cntO_le _ _
          rw [hgn]
          have HGO := Lib.hid hgn
          have NX1 := Lib.hid (fun (w : World) (h : Has σ M1 w) => NX.out M1 hle1 w h v order j hlen HO1.out.rd (by omega))
          clear hg hlen hown1 hgn
          by_cases hlt : j < n
          · have HPOS := Lib.hid (HG.out.nextO_pos WO.out (by have := HJ.out; have := HL.out; omega))
            obtain ⟨nl, hnl⟩ : ∃ nl, (NextO l order).length = nl := ⟨_, rfl⟩
            have hnl0 : 0 < nl := by rw [← hnl]; exact HPOS.out
            have hnlm : nl ≤ n := by rw [← hnl, ← HL.out]; exact nextO_len l order
            have HNL := Lib.hid hnl
            have z1 : ((nl : Int) == 0) = false := beq_eq_false_iff_ne.2 (by omega)
            have z2 : (nl == 0) = false := beq_eq_false_iff_ne.2 (by omega)
            clear hnl
            have NXP : Hid (∀ w, Has σ M1 w → Calls Tryz.prog 9 #[.slice A n c, v] w fun r w' => ∃ (A1 : Option Addr) (c1 : Nat) (M2 : Mm), r = .returned (.slice A1 nl c1) ∧ Has σ M2 w' ∧ M1.le M2 ∧ Own M1 M2 3 1 (.slice A1 nl c1) nl (ints1 (NextO l order))) := fun w h => (NX1.out w h).mono fun r w' hr => by
              obtain ⟨v1, e, M2, h2, hl2, ho2⟩ := hr
              rw [HNL.out] at ho2
              obtain ⟨A1, c1, rfl⟩ := ho2.form
              exact ⟨A1, c1, M2, e, h2, hl2, ho2⟩
            by_cases hjm : j < m
            · obtain ⟨z, hz⟩ : ∃ z, zs[j]? = some z := ⟨_, List.getElem?_eq_getElem (by have := HM.out; omega)⟩
              obtain ⟨_, B', d', e, hd, hB⟩ := HP.out
              cases e
              obtain ⟨bp, op, csp, tp, fp, rfl, hP0, hxp⟩ := hB (by omega)
              have ez := hxp j (.int .u8 (z : Int)) (by simp [u8s, hz])
              have hP1 := hle1 _ _ hP0
              have hjm' : (j : Int) < (m : Int) := by omega
              have HZJ := Lib.hid hz
              clear hB hxp hz hP0
              go_upto_region 22 with (first
                | (go_at_call 9; go_loud (refine (NXP.out _ h).mono ?_); clear h; rintro _ w ⟨A1, c1, M2, rfl, h, hl2, ho2⟩)
                | ((with_reducible show wpList _ _ _ ({ dst := _, op := Op.load 5 _, type := _, pos := _, after := _, guard := _ } :: _) _ _); have hP2 := hl2 _ _ hP1; refine wpList_load1_has h rfl 5 _ rfl rfl hP2 ez Tryz.underlying5 rfl ?_))
              have hz1 := HZ.out j z HZJ.out
              have ew : (wrap64 (z : Int)).tmod (nl : Int) = ((z % nl : Nat) : Int) := by rw [show wrap64 (z : Int) = (z : Int) from by unfold wrap64; omega]; exact (Int.ofNat_tmod z nl).symm
              have hkl : z % nl < nl := Nat.mod_lt _ hnl0
              rw [ew]
              clear ew
              generalize z % nl = kk at hkl ⊢
              clear NXP NX1 z1 z2 hP1 ez
              obtain ⟨K, hMK, hK2, hoK, hrK⟩ := Own.apart hle1 HO1.out hl2 ho2
              have HRK := Lib.hid hrK
              obtain ⟨x, hx⟩ : ∃ x, (NextO l order)[kk]? = some x := ⟨_, List.getElem?_eq_getElem (by rw [HNL.out]; exact hkl)⟩
              obtain ⟨q, rfl, hq, hfr⟩ := nextO_mem (List.mem_of_getElem? hx)
              have hqn : q < n := by have := HL.out; omega
              have HG2 := Lib.hid (HG.out.next hq hfr)
              have HP0 : Hid (posO (q : Nat) order = 0) := by
                show posO (q : Nat) order = 0
                rw [freeO_eq] at hfr
                simp only [Bool.and_eq_true, decide_eq_true_eq] at hfr
                exact hfr.1
              have HGN := Lib.hid (gotO_next hq HP0.out)
              obtain ⟨o, ho⟩ : ∃ o, l[q]? = some o := ⟨_, List.getElem?_eq_getElem hq⟩
              have HDQ : Hid (doneO l q = decide (0 ≤ o.tt)) := by show doneO l q = _; unfold doneO; rw [ho]
              obtain ⟨bl, ol, cl, csl, tl, fl, e2, hMl, hxl⟩ := HA.out.elem encO_len hqn ho
              cases e2
              have g15 : csl[ol + q * 16 + 15]? = some (.int .i64 o.tt) := hxl 15 _ rfl
              obtain ⟨_, A1', c1', e3, _, hN⟩ := HRK.out
              cases e3
              obtain ⟨b1, o1, cs1, t1, f1, rfl, hO1, hx1⟩ := hN hnl0
              have ex := hx1 kk (.int .i64 (q : Int)) (by simp [ints1, hx])
              have hO12 := hK2 _ _ hO1
              have q0 : decide ((q : Int) < 0) = false := decide_eq_false (by omega)
              have q1 : decide ((n : Int) ≤ (q : Int)) = false := decide_eq_false (by omega)
              have q2 : decide (n ≤ q) = false := decide_eq_false (by omega)
              have hqn' : (q : Int) < (n : Int) := by omega
              have hkk' : (kk : Int) < (nl : Int) := by omega
              have HLEN : Hid ((order ++ [(q : Int)]).length = j + 1) := by show (order ++ [(q : Int)]).length = j + 1; simp [HJ.out]
              have hMl2 := hMK _ _ hMl
              have HO1K := Lib.hid hO1
              clear hx hfr hq hxl ho hN hx1 hO1 ho2 hrK hMl
              go_upto_region 23 with (first
                | (with_reducible show wpList _ _ _ ({ dst := _, op := Op.load 3 _, type := _, pos := _, after := _, guard := _ } :: _) _ _; go_loud (refine wpList_load1_has h rfl 3 _ rfl rfl hO12 ex Tryz.underlying3 rfl ?_))
                | (at_builtin; go_loud (refine wpList_append_lit h hK2 rfl _ _ _ rfl rfl Tryz.underlying23 info_int rfl (by omega) rfl hoK rfl rfl rfl (by omega) (by omega) ?_); clear h hK2 hoK; intro v w hacc))
              obtain ⟨M4, h, hK4, hown4⟩ := hacc
              obtain ⟨A4, c4, rfl⟩ := hown4.form
              have hO14 := hK4 _ _ HO1K.out
              have hMl4 := hK4 _ _ hMl2
              have hM4 := Mm.le_trans hMK hK4
              have hown5 : Own K M4 3 1 (.slice A4 (j + 1) c4) (j + 1) (ints1 (order ++ [(q : Int)])) := by simpa [ints1] using hown4
              have HACC := Lib.hid (hown5.base (M' := M) fun b hb => Mm.none_of hMK hb)
              have MY4 := Lib.hid (fun (w : World) (h : Has σ M4 w) => MY.out M4 hM4 w h _ (order ++ [(q : Int)]) (j + 1) HLEN.out hown5.rd (by omega))
              clear hown4 hown5 hO12 hMl2
              by_cases htt : 0 ≤ o.tt
              · have d2 : decide (0 ≤ o.tt) = true := decide_eq_true htt
                have HG3 : Hid (gotO l (order ++ [(q : Int)]) = gn + 1) := by show gotO l (order ++ [(q : Int)]) = gn + 1; rw [HGN.out, HDQ.out, d2, HGO.out]; rfl
                clear htt
                by_cases hme : gn + 1 = dn
                · have me : ((gn : Int) + 1 == (dn : Int)) = true := beq_iff_eq.2 (by omega)
                  have MYB : Hid (∀ w, Has σ M4 w → Calls Tryz.prog 6 #[.slice (some ⟨bl, ol, none⟩) n c, .slice A4 (j + 1) c4] w fun r w' => r = .returned (.bool true) ∧ Has σ M4 w') := fun w h => (MY4.out w h).mono fun r w' ⟨b, e, hb, h'⟩ => ⟨by rw [e, hb.2 (HG2.out.may.2 (by rw [HG3.out, HDN.out]; exact hme))], h'⟩
                  clear hme
                  go_wp2_with (first
                    | (with_reducible show wpList _ _ _ ({ dst := _, op := Op.load 3 _, type := _, pos := _, after := _, guard := _ } :: _) _ _; go_loud (refine wpList_load1_has h rfl 3 _ rfl rfl hO14 ex Tryz.underlying3 rfl ?_))
                    | (with_reducible show wpList _ _ _ ({ dst := _, op := Op.load 3 _, type := _, pos := _, after := _, guard := _ } :: _) _ _; go_loud (refine wpList_load1_has h rfl 3 _ rfl rfl hMl4 g15 Tryz.underlying3 rfl ?_))
                    | (go_at_call 6; go_loud (refine (MYB.out _ h).mono ?_); clear h; rintro _ w ⟨rfl, h⟩))
                  all_goals first
                    | exact ⟨⟨j + 1, order ++ [(q : Int)], hlt, by go_num, by rw [HG3.out]; try rfl, HG2.out, HLEN.out, M4, h, hM4, HACC.out⟩, by simp [intOf]; omega⟩
                    | (go_roundw
                       case rel => exact ⟨j + 1, order ++ [(q : Int)], hlt, by go_num, by rw [HG3.out]; try rfl, HG2.out, HLEN.out, M4, h, hM4, HACC.out⟩
                       case measure => simp [intOf]; omega)
                · have me : ((gn : Int) + 1 == (dn : Int)) = false := beq_eq_false_iff_ne.2 (by omega)
                  have MYB : Hid (∀ w, Has σ M4 w → Calls Tryz.prog 6 #[.slice (some ⟨bl, ol, none⟩) n c, .slice A4 (j + 1) c4] w fun r w' => r = .returned (.bool false) ∧ Has σ M4 w') := fun w h => (MY4.out w h).mono fun r w' ⟨b, e, hb, h'⟩ => ⟨by
                    cases b
                    · exact e
                    · exfalso; have := HG2.out.may.1 (hb.1 rfl); rw [HG3.out, HDN.out] at this; exact hme this, h'⟩
                  clear hme
                  go_wp2_with (first
                    | (with_reducible show wpList _ _ _ ({ dst := _, op := Op.load 3 _, type := _, pos := _, after := _, guard := _ } :: _) _ _; go_loud (refine wpList_load1_has h rfl 3 _ rfl rfl hO14 ex Tryz.underlying3 rfl ?_))
                    | (with_reducible show wpList _ _ _ ({ dst := _, op := Op.load 3 _, type := _, pos := _, after := _, guard := _ } :: _) _ _; go_loud (refine wpList_load1_has h rfl 3 _ rfl rfl hMl4 g15 Tryz.underlying3 rfl ?_))
                    | (go_at_call 6; go_loud (refine (MYB.out _ h).mono ?_); clear h; rintro _ w ⟨rfl, h⟩))
                  all_goals first
                    | exact ⟨⟨j + 1, order ++ [(q : Int)], hlt, by go_num, by rw [HG3.out]; try rfl, HG2.out, HLEN.out, M4, h, hM4, HACC.out⟩, by simp [intOf]; omega⟩
                    | (go_roundw
                       case rel => exact ⟨j + 1, order ++ [(q : Int)], hlt, by go_num, by rw [HG3.out]; try rfl, HG2.out, HLEN.out, M4, h, hM4, HACC.out⟩
                       case measure => simp [intOf]; omega)
              · have d2 : decide (0 ≤ o.tt) = false := decide_eq_false htt
                have HG3 : Hid (gotO l (order ++ [(q : Int)]) = gn) := by show gotO l (order ++ [(q : Int)]) = gn; rw [HGN.out, HDQ.out, d2, HGO.out]; rfl
                clear htt
                by_cases hme : gn = dn
                · have me : ((gn : Int) == (dn : Int)) = true := beq_iff_eq.2 (by omega)
                  have MYB : Hid (∀ w, Has σ M4 w → Calls Tryz.prog 6 #[.slice (some ⟨bl, ol, none⟩) n c, .slice A4 (j + 1) c4] w fun r w' => r = .returned (.bool true) ∧ Has σ M4 w') := fun w h => (MY4.out w h).mono fun r w' ⟨b, e, hb, h'⟩ => ⟨by rw [e, hb.2 (HG2.out.may.2 (by rw [HG3.out, HDN.out]; exact hme))], h'⟩
                  clear hme
                  go_wp2_with (first
                    | (with_reducible show wpList _ _ _ ({ dst := _, op := Op.load 3 _, type := _, pos := _, after := _, guard := _ } :: _) _ _; go_loud (refine wpList_load1_has h rfl 3 _ rfl rfl hO14 ex Tryz.underlying3 rfl ?_))
                    | (with_reducible show wpList _ _ _ ({ dst := _, op := Op.load 3 _, type := _, pos := _, after := _, guard := _ } :: _) _ _; go_loud (refine wpList_load1_has h rfl 3 _ rfl rfl hMl4 g15 Tryz.underlying3 rfl ?_))
                    | (go_at_call 6; go_loud (refine (MYB.out _ h).mono ?_); clear h; rintro _ w ⟨rfl, h⟩))
                  all_goals first
                    | exact ⟨⟨j + 1, order ++ [(q : Int)], hlt, by go_num, by rw [HG3.out]; try rfl, HG2.out, HLEN.out, M4, h, hM4, HACC.out⟩, by simp [intOf]; omega⟩
                    | (go_roundw
                       case rel => exact ⟨j + 1, order ++ [(q : Int)], hlt, by go_num, by rw [HG3.out]; try rfl, HG2.out, HLEN.out, M4, h, hM4, HACC.out⟩
                       case measure => simp [intOf]; omega)
                · have me : ((gn : Int) == (dn : Int)) = false := beq_eq_false_iff_ne.2 (by omega)
                  have MYB : Hid (∀ w, Has σ M4 w → Calls Tryz.prog 6 #[.slice (some ⟨bl, ol, none⟩) n c, .slice A4 (j + 1) c4] w fun r w' => r = .returned (.bool false) ∧ Has σ M4 w') := fun w h => (MY4.out w h).mono fun r w' ⟨b, e, hb, h'⟩ => ⟨by
                    cases b
                    · exact e
                    · exfalso; have := HG2.out.may.1 (hb.1 rfl); rw [HG3.out, HDN.out] at this; exact hme this, h'⟩
                  clear hme
                  go_wp2_with (first
                    | (with_reducible show wpList _ _ _ ({ dst := _, op := Op.load 3 _, type := _, pos := _, after := _, guard := _ } :: _) _ _; go_loud (refine wpList_load1_has h rfl 3 _ rfl rfl hO14 ex Tryz.underlying3 rfl ?_))
                    | (with_reducible show wpList _ _ _ ({ dst := _, op := Op.load 3 _, type := _, pos := _, after := _, guard := _ } :: _) _ _; go_loud (refine wpList_load1_has h rfl 3 _ rfl rfl hMl4 g15 Tryz.underlying3 rfl ?_))
                    | (go_at_call 6; go_loud (refine (MYB.out _ h).mono ?_); clear h; rintro _ w ⟨rfl, h⟩))
                  all_goals first
                    | exact ⟨⟨j + 1, order ++ [(q : Int)], hlt, by go_num, by rw [HG3.out]; try rfl, HG2.out, HLEN.out, M4, h, hM4, HACC.out⟩, by simp [intOf]; omega⟩
                    | (go_roundw
                       case rel => exact ⟨j + 1, order ++ [(q : Int)], hlt, by go_num, by rw [HG3.out]; try rfl, HG2.out, HLEN.out, M4, h, hM4, HACC.out⟩
                       case measure => simp [intOf]; omega)
            · have jm : decide ((j : Int) < (m : Int)) = false := decide_eq_false (by omega)
              go_upto_region 22 with (first
                | (go_at_call 9; go_loud (refine (NXP.out _ h).mono ?_); clear h; rintro _ w ⟨A1, c1, M2, rfl, h, hl2, ho2⟩))
              obtain ⟨kk, hkk0⟩ : ∃ kk : Nat, kk = 0 := ⟨0, rfl⟩
              have hkl : kk < nl := by omega
              rw [show (Value.int .i64 0) = Value.int .i64 ((kk : Nat) : Int) from by rw [hkk0]; rfl]
              clear hkk0 NXP NX1 z1 z2 jm
              obtain ⟨K, hMK, hK2, hoK, hrK⟩ := Own.apart hle1 HO1.out hl2 ho2
              have HRK := Lib.hid hrK
              obtain ⟨x, hx⟩ : ∃ x, (NextO l order)[kk]? = some x := ⟨_, List.getElem?_eq_getElem (by rw [HNL.out]; exact hkl)⟩
              obtain ⟨q, rfl, hq, hfr⟩ := nextO_mem (List.mem_of_getElem? hx)
              have hqn : q < n := by have := HL.out; omega
              have HG2 := Lib.hid (HG.out.next hq hfr)
              have HP0 : Hid (posO (q : Nat) order = 0) := by
                show posO (q : Nat) order = 0
                rw [freeO_eq] at hfr
                simp only [Bool.and_eq_true, decide_eq_true_eq] at hfr
                exact hfr.1
              have HGN := Lib.hid (gotO_next hq HP0.out)
              obtain ⟨o, ho⟩ : ∃ o, l[q]? = some o := ⟨_, List.getElem?_eq_getElem hq⟩
              have HDQ : Hid (doneO l q = decide (0 ≤ o.tt)) := by show doneO l q = _; unfold doneO; rw [ho]
              obtain ⟨bl, ol, cl, csl, tl, fl, e2, hMl, hxl⟩ := HA.out.elem encO_len hqn ho
              cases e2
              have g15 : csl[ol + q * 16 + 15]? = some (.int .i64 o.tt) := hxl 15 _ rfl
              obtain ⟨_, A1', c1', e3, _, hN⟩ := HRK.out
              cases e3
              obtain ⟨b1, o1, cs1, t1, f1, rfl, hO1, hx1⟩ := hN hnl0
              have ex := hx1 kk (.int .i64 (q : Int)) (by simp [ints1, hx])
              have hO12 := hK2 _ _ hO1
              have q0 : decide ((q : Int) < 0) = false := decide_eq_false (by omega)
              have q1 : decide ((n : Int) ≤ (q : Int)) = false := decide_eq_false (by omega)
              have q2 : decide (n ≤ q) = false := decide_eq_false (by omega)
              have hqn' : (q : Int) < (n : Int) := by omega
              have hkk' : (kk : Int) < (nl : Int) := by omega
              have HLEN : Hid ((order ++ [(q : Int)]).length = j + 1) := by show (order ++ [(q : Int)]).length = j + 1; simp [HJ.out]
              have hMl2 := hMK _ _ hMl
              have HO1K := Lib.hid hO1
              clear hx hfr hq hxl ho hN hx1 hO1 ho2 hrK hMl
              go_upto_region 23 with (first
                | (with_reducible show wpList _ _ _ ({ dst := _, op := Op.load 3 _, type := _, pos := _, after := _, guard := _ } :: _) _ _; go_loud (refine wpList_load1_has h rfl 3 _ rfl rfl hO12 ex Tryz.underlying3 rfl ?_))
                | (at_builtin; go_loud (refine wpList_append_lit h hK2 rfl _ _ _ rfl rfl Tryz.underlying23 info_int rfl (by omega) rfl hoK rfl rfl rfl (by omega) (by omega) ?_); clear h hK2 hoK; intro v w hacc))
              obtain ⟨M4, h, hK4, hown4⟩ := hacc
              obtain ⟨A4, c4, rfl⟩ := hown4.form
              have hO14 := hK4 _ _ HO1K.out
              have hMl4 := hK4 _ _ hMl2
              have hM4 := Mm.le_trans hMK hK4
              have hown5 : Own K M4 3 1 (.slice A4 (j + 1) c4) (j + 1) (ints1 (order ++ [(q : Int)])) := by simpa [ints1] using hown4
              have HACC := Lib.hid (hown5.base (M' := M) fun b hb => Mm.none_of hMK hb)
              have MY4 := Lib.hid (fun (w : World) (h : Has σ M4 w) => MY.out M4 hM4 w h _ (order ++ [(q : Int)]) (j + 1) HLEN.out hown5.rd (by omega))
              clear hown4 hown5 hO12 hMl2
              by_cases htt : 0 ≤ o.tt
              · have d2 : decide (0 ≤ o.tt) = true := decide_eq_true htt
                have HG3 : Hid (gotO l (order ++ [(q : Int)]) = gn + 1) := by show gotO l (order ++ [(q : Int)]) = gn + 1; rw [HGN.out, HDQ.out, d2, HGO.out]; rfl
                clear htt
                by_cases hme : gn + 1 = dn
                · have me : ((gn : Int) + 1 == (dn : Int)) = true := beq_iff_eq.2 (by omega)
                  have MYB : Hid (∀ w, Has σ M4 w → Calls Tryz.prog 6 #[.slice (some ⟨bl, ol, none⟩) n c, .slice A4 (j + 1) c4] w fun r w' => r = .returned (.bool true) ∧ Has σ M4 w') := fun w h => (MY4.out w h).mono fun r w' ⟨b, e, hb, h'⟩ => ⟨by rw [e, hb.2 (HG2.out.may.2 (by rw [HG3.out, HDN.out]; exact hme))], h'⟩
                  clear hme
                  go_wp2_with (first
                    | (with_reducible show wpList _ _ _ ({ dst := _, op := Op.load 3 _, type := _, pos := _, after := _, guard := _ } :: _) _ _; go_loud (refine wpList_load1_has h rfl 3 _ rfl rfl hO14 ex Tryz.underlying3 rfl ?_))
                    | (with_reducible show wpList _ _ _ ({ dst := _, op := Op.load 3 _, type := _, pos := _, after := _, guard := _ } :: _) _ _; go_loud (refine wpList_load1_has h rfl 3 _ rfl rfl hMl4 g15 Tryz.underlying3 rfl ?_))
                    | (go_at_call 6; go_loud (refine (MYB.out _ h).mono ?_); clear h; rintro _ w ⟨rfl, h⟩))
                  all_goals first
                    | exact ⟨⟨j + 1, order ++ [(q : Int)], hlt, by go_num, by rw [HG3.out]; try rfl, HG2.out, HLEN.out, M4, h, hM4, HACC.out⟩, by simp [intOf]; omega⟩
                    | (go_roundw
                       case rel => exact ⟨j + 1, order ++ [(q : Int)], hlt, by go_num, by rw [HG3.out]; try rfl, HG2.out, HLEN.out, M4, h, hM4, HACC.out⟩
                       case measure => simp [intOf]; omega)
                · have me : ((gn : Int) + 1 == (dn : Int)) = false := beq_eq_false_iff_ne.2 (by omega)
                  have MYB : Hid (∀ w, Has σ M4 w → Calls Tryz.prog 6 #[.slice (some ⟨bl, ol, none⟩) n c, .slice A4 (j + 1) c4] w fun r w' => r = .returned (.bool false) ∧ Has σ M4 w') := fun w h => (MY4.out w h).mono fun r w' ⟨b, e, hb, h'⟩ => ⟨by
                    cases b
                    · exact e
                    · exfalso; have := HG2.out.may.1 (hb.1 rfl); rw [HG3.out, HDN.out] at this; exact hme this, h'⟩
                  clear hme
                  go_wp2_with (first
                    | (with_reducible show wpList _ _ _ ({ dst := _, op := Op.load 3 _, type := _, pos := _, after := _, guard := _ } :: _) _ _; go_loud (refine wpList_load1_has h rfl 3 _ rfl rfl hO14 ex Tryz.underlying3 rfl ?_))
                    | (with_reducible show wpList _ _ _ ({ dst := _, op := Op.load 3 _, type := _, pos := _, after := _, guard := _ } :: _) _ _; go_loud (refine wpList_load1_has h rfl 3 _ rfl rfl hMl4 g15 Tryz.underlying3 rfl ?_))
                    | (go_at_call 6; go_loud (refine (MYB.out _ h).mono ?_); clear h; rintro _ w ⟨rfl, h⟩))
                  all_goals first
                    | exact ⟨⟨j + 1, order ++ [(q : Int)], hlt, by go_num, by rw [HG3.out]; try rfl, HG2.out, HLEN.out, M4, h, hM4, HACC.out⟩, by simp [intOf]; omega⟩
                    | (go_roundw
                       case rel => exact ⟨j + 1, order ++ [(q : Int)], hlt, by go_num, by rw [HG3.out]; try rfl, HG2.out, HLEN.out, M4, h, hM4, HACC.out⟩
                       case measure => simp [intOf]; omega)
              · have d2 : decide (0 ≤ o.tt) = false := decide_eq_false htt
                have HG3 : Hid (gotO l (order ++ [(q : Int)]) = gn) := by show gotO l (order ++ [(q : Int)]) = gn; rw [HGN.out, HDQ.out, d2, HGO.out]; rfl
                clear htt
                by_cases hme : gn = dn
                · have me : ((gn : Int) == (dn : Int)) = true := beq_iff_eq.2 (by omega)
                  have MYB : Hid (∀ w, Has σ M4 w → Calls Tryz.prog 6 #[.slice (some ⟨bl, ol, none⟩) n c, .slice A4 (j + 1) c4] w fun r w' => r = .returned (.bool true) ∧ Has σ M4 w') := fun w h => (MY4.out w h).mono fun r w' ⟨b, e, hb, h'⟩ => ⟨by rw [e, hb.2 (HG2.out.may.2 (by rw [HG3.out, HDN.out]; exact hme))], h'⟩
                  clear hme
                  go_wp2_with (first
                    | (with_reducible show wpList _ _ _ ({ dst := _, op := Op.load 3 _, type := _, pos := _, after := _, guard := _ } :: _) _ _; go_loud (refine wpList_load1_has h rfl 3 _ rfl rfl hO14 ex Tryz.underlying3 rfl ?_))
                    | (with_reducible show wpList _ _ _ ({ dst := _, op := Op.load 3 _, type := _, pos := _, after := _, guard := _ } :: _) _ _; go_loud (refine wpList_load1_has h rfl 3 _ rfl rfl hMl4 g15 Tryz.underlying3 rfl ?_))
                    | (go_at_call 6; go_loud (refine (MYB.out _ h).mono ?_); clear h; rintro _ w ⟨rfl, h⟩))
                  all_goals first
                    | exact ⟨⟨j + 1, order ++ [(q : Int)], hlt, by go_num, by rw [HG3.out]; try rfl, HG2.out, HLEN.out, M4, h, hM4, HACC.out⟩, by simp [intOf]; omega⟩
                    | (go_roundw
                       case rel => exact ⟨j + 1, order ++ [(q : Int)], hlt, by go_num, by rw [HG3.out]; try rfl, HG2.out, HLEN.out, M4, h, hM4, HACC.out⟩
                       case measure => simp [intOf]; omega)
                · have me : ((gn : Int) == (dn : Int)) = false := beq_eq_false_iff_ne.2 (by omega)
                  have MYB : Hid (∀ w, Has σ M4 w → Calls Tryz.prog 6 #[.slice (some ⟨bl, ol, none⟩) n c, .slice A4 (j + 1) c4] w fun r w' => r = .returned (.bool false) ∧ Has σ M4 w') := fun w h => (MY4.out w h).mono fun r w' ⟨b, e, hb, h'⟩ => ⟨by
                    cases b
                    · exact e
                    · exfalso; have := HG2.out.may.1 (hb.1 rfl); rw [HG3.out, HDN.out] at this; exact hme this, h'⟩
                  clear hme
                  go_wp2_with (first
                    | (with_reducible show wpList _ _ _ ({ dst := _, op := Op.load 3 _, type := _, pos := _, after := _, guard := _ } :: _) _ _; go_loud (refine wpList_load1_has h rfl 3 _ rfl rfl hO14 ex Tryz.underlying3 rfl ?_))
                    | (with_reducible show wpList _ _ _ ({ dst := _, op := Op.load 3 _, type := _, pos := _, after := _, guard := _ } :: _) _ _; go_loud (refine wpList_load1_has h rfl 3 _ rfl rfl hMl4 g15 Tryz.underlying3 rfl ?_))
                    | (go_at_call 6; go_loud (refine (MYB.out _ h).mono ?_); clear h; rintro _ w ⟨rfl, h⟩))
                  all_goals first
                    | exact ⟨⟨j + 1, order ++ [(q : Int)], hlt, by go_num, by rw [HG3.out]; try rfl, HG2.out, HLEN.out, M4, h, hM4, HACC.out⟩, by simp [intOf]; omega⟩
                    | (go_roundw
                       case rel => exact ⟨j + 1, order ++ [(q : Int)], hlt, by go_num, by rw [HG3.out]; try rfl, HG2.out, HLEN.out, M4, h, hM4, HACC.out⟩
                       case measure => simp [intOf]; omega)
          · obtain rfl : j = n := by omega
            have HE := Lib.hid (HG.out.nextO_end (by have := HJ.out; have := HL.out; omega))
            have NXP : Hid (∀ w, Has σ M1 w → Calls Tryz.prog 9 #[.slice A j c, v] w fun r w' => ∃ (A1 : Option Addr) (c1 : Nat) (M2 : Mm), r = .returned (.slice A1 0 c1) ∧ Has σ M2 w' ∧ M1.le M2) := fun w h => (NX1.out w h).mono fun r w' hr => by
              obtain ⟨v1, e, M2, h2, hl2, ho2⟩ := hr
              rw [HE.out] at ho2
              obtain ⟨A1, c1, rfl⟩ := ho2.form
              exact ⟨A1, c1, M2, e, h2, hl2⟩
            go_wp2_with (first
              | (go_at_call 9; go_loud (refine (NXP.out _ h).mono ?_); clear h; rintro _ w ⟨A1, c1, M2, rfl, h, hl2⟩)
              | (go_at_call 5; go_loud (refine (LV.out _ _ h).mono ?_); clear h; rintro _ w ⟨rfl, h⟩))
            go_ret
            exact ⟨rfl, h.le (Mm.le_trans hle1 hl2)⟩
  · obtain ⟨A, c, rfl⟩ := ha.form
    obtain ⟨B, d, rfl⟩ := hp.form
    have d1 : decide ((30 : Int) < (n : Int)) = true := decide_eq_true (by omega)
    have d3 : decide (30 < n) = true := decide_eq_true (by omega)
    clear hl hm ha hp hn
    go_enter Tryz.func4, Tryz.ntmps4
    go_wp2_with (first
      | (go_at_call 5; go_loud (refine (LV.out _ _ h).mono ?_); clear h; rintro _ w ⟨rfl, h⟩))
    go_ret
    exact ⟨rfl, h⟩
end Go.Proofs.YtigfmnfdphijaaaGreatDoor
