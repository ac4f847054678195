/- Law 25, MintCrowd: the law's walk. -/
import Derived.Test.YtjeeldacnllipaaGreatMgE
namespace Go.Proofs.YtjeeldacnllipaaGreat
set_option linter.unusedVariables false
set_option linter.unusedSimpArgs false
set_option linter.unnecessarySimpa false
section
open Go.RowKit
set_option maxHeartbeats 100000000 in
set_option maxRecDepth 20000 in
theorem mCrowd_long {σ w : World} {M : Mm} (h : Has σ M w) (c : Nat → Int) (hc : ConfMay c) {L B S gens T : Nat} (hn : Nums c L B S) (hg : c 12 = (gens : Nat)) (hT : c 1 = (T : Nat)) {A : Option Addr} {n cap : Nat} {lst : List DeedS} (hr : Rd M 6 (.slice A n cap) n (lst.flatMap encD)) (hl : lst.length = n) (h600 : n ≤ 600) :
  Calls Tryz.prog 7 #[confV c, .slice A n cap] w fun r w' => r = .returned (.bool true) ∧ Has σ M w' := by
 have NW := Lib.hid (fun (M' : Mm) (w : World) (h : Has σ M' w) => mNew_yes h c hc hn)
 have LI := Lib.hid (fun (M' : Mm) (w : World) (h : Has σ M' w) => mi_lives h)
 have hx : (ints .i64 14 c).extract 0 (0 + 14) = ints .i64 14 c := rfl
 have hz : (ints .i64 14 c).size = 14 := rfl
 have r0 : (ints .i64 14 c)[0]? = some (.int .i64 (L : Nat)) := by rw [← hn.lev]; rfl
 have r1 : (ints .i64 14 c)[1]? = some (.int .i64 (T : Nat)) := by rw [← hT]; rfl
 have g600 : decide ((600 : Int) < (n : Int)) = false := decide_eq_false (by omega)
 have g600' : ¬ (600 : Int) < (n : Int) := by omega
 have hl0 := hn.l0
 have hT8 : 1 ≤ T ∧ T ≤ 8 := by have := hc.2.1; omega
 have MA := mk_mades T (by omega)
 have MB := mk_deeds T (by omega)
 have HC := Lib.hid hc
 have HNU := Lib.hid hn
 have HG := Lib.hid hg
 have HT := Lib.hid hT
 have HR := Lib.hid hr
 have HL := Lib.hid hl
 have hn600 : n ≤ 600 := h600
 unfold confV at NW ⊢
 clear hc hn hg hT hr hl h600
 generalize hrw : ints .i64 14 c = row at NW hx hz r0 r1 ⊢
 have HRW := Lib.hid hrw
 clear hrw
 go_enter Tryz.func7, Tryz.ntmps7
 go_upto_region 1 with (fail)
 obtain ⟨M1, hbx, hle1, hbf, hnf⟩ := h.box (.cells row 24)
 generalize w.alloc _ = wx at hbx ⊢
 generalize w.heap.size = bf at hbf hnf ⊢
 clear h
 try clear w
 have h := hbx
 clear hbx
 obtain ⟨w, rfl⟩ : ∃ x : World, x = wx := ⟨_, rfl⟩
 go_upto_region 4 with (first
  | ((with_reducible show wpList _ _ _ ({ dst := _, op := Op.load 24 _, type := _, pos := _, after := _, guard := _ } :: _) _ _); refine wpList_agg_has h rfl 24 _ rfl rfl hbf hx hz Tryz.underlying24 rfl (by kernel_rfl) ?_; try simp only [Act.put, List.setIfInBounds_toArray, List.set_cons_zero, List.set_cons_succ])
  | ((go_at_call 9; refine (NW.out _ _ h).mono ?_; clear h; rintro _ w ⟨p, M2, lab2, s, rfl, h, hB2, hM2, hN⟩)))
 obtain ⟨tp, HTP⟩ : ∃ tp, Hid (tp = s.tp) := ⟨_, rfl⟩
 have hA2 := McS.first (T := T) HNU.out HC.out HG.out hN hM2.wsz
 rw [← HTP.out] at hA2
 obtain ⟨tlen, HTL⟩ : ∃ tl, Hid (tl = tp.length ∧ (tl : Int) = c 1) := ⟨_, Lib.hid ⟨rfl, by rw [HTP.out, hM2.tlen, hN.c]⟩⟩
 have hbf2 := hB2.le _ _ hbf
 have HM2 := Lib.hid hM2
 have HB2 := Lib.hid hB2
 have HA2 := Lib.hid hA2
 have HLE1 := Lib.hid hle1
 clear hM2 hB2 hN hA2 HTP NW hle1 hnf
 go_upto_region 5 with (first
  | (with_reducible show wpList _ _ _ ({ dst := _, op := Op.load 3 _, type := _, pos := _, after := _, guard := _ } :: _) _ _; refine wpList_load1_has h rfl 3 _ rfl rfl hbf2 r1 Tryz.underlying3 rfl ?_))
 clear MA
 obtain ⟨M3, hbx, hle3, hbh, hnh⟩ := h.box (.cells (nils T).toArray 87)
 generalize w.alloc _ = wx at hbx ⊢
 generalize w.heap.size = bh at hbh hnh ⊢
 clear h
 try clear w
 have h := hbx
 clear hbx
 obtain ⟨w, rfl⟩ : ∃ x : World, x = wx := ⟨_, rfl⟩
 have hO3 : Own (outK M1 M2 (fun _ => 0) 2) M3 87 1 (.slice (some ⟨bh, 0, none⟩) T T) T (nils T) := by
  rw [outK_self (fun c o hc => by show (0 : Nat) ≠ 2; decide)]
  exact ⟨by simp [nils], .inr ⟨bh, T, _, rfl, hnh, hbh, Nat.le_refl _, by unfold maxLen; omega, by simp [nils], by rw [Nat.mul_one]; exact List.take_of_length_le (by simp [nils])⟩⟩
 obtain ⟨lab3, K3, labK3, hM3, hB3, hK3, hR3⟩ := HM2.out.rowTo HB2.out (by rw [outK_self (fun c o hc => by show (0 : Nat) ≠ 2; decide)]; exact hle3) hO3
 have hS3 : M1.le (stable K3 labK3) := fun c o hc => by
  obtain ⟨a, b⟩ := hK3 c o hc (by show ¬ (0 : Nat) = 2; decide)
  unfold stable
  rw [if_pos (show labK3 c = 0 from b)]
  exact a
 have hbf3 := hle3 _ _ hbf2
 have HM3 := Lib.hid hM3
 have HB3 := Lib.hid hB3
 have HS3 := Lib.hid hS3
 have HR3 := Lib.hid hR3
 clear hO3 hM3 hB3 hK3 hR3 hS3 hbf2 hle3 hbh hnh HM2 HB2
 go_upto_region 6 with (first
  | (with_reducible show wpList _ _ _ ({ dst := _, op := Op.load 3 _, type := _, pos := _, after := _, guard := _ } :: _) _ _; refine wpList_load1_has h rfl 3 _ rfl rfl hbf3 r1 Tryz.underlying3 rfl ?_))
 clear MB
 obtain ⟨M4, hbx, hle4, hbn, hnn⟩ := h.box (.cells (((List.range T).map fun _ => dz).flatMap encD).toArray 86)
 generalize w.alloc _ = wx at hbx ⊢
 generalize w.heap.size = bn at hbn hnn ⊢
 clear h
 try clear w
 have h := hbx
 clear hbx
 obtain ⟨w, rfl⟩ : ∃ x : World, x = wx := ⟨_, rfl⟩
 have hO4 : Own (outK K3 M3 labK3 3) M4 86 6 (.slice (some ⟨bn, 0, none⟩) T T) T (((List.range T).map fun _ => dz).flatMap encD) := by
  have e0 : (((List.range T).map fun _ => dz).flatMap encD).length = T * 6 := by rw [flat_length encD_len]; simp
  exact ⟨e0, .inr ⟨bn, T, _, rfl, Mm.none_of (outK_le _ _ _ _) hnn, hbn, Nat.le_refl _, by unfold maxLen; omega, by rw [List.size_toArray, e0], List.take_of_length_le (by rw [List.toList_toArray, e0]; exact Nat.le_refl _)⟩⟩
 obtain ⟨lab4, K4, labK4, hM4, hB4, hK4, hR4⟩ := HM3.out.rowTo HB3.out (Mm.le_trans (outK_le _ _ _ _) hle4) hO4
 have hS4 := Mm.le_trans HS3.out (stable_kp hK4 (by omega))
 have hE4 : LawT K4 labK4 T bn (.slice (some ⟨bh, 0, none⟩) T T) (fun _ => .slice none 0 0) (fun _ => []) (fun _ => dz) := ⟨HR3.out.keep hK4 (by omega), fun k hk => Row.nil _ _ _ _ _, hR4⟩
 have HM4 := Lib.hid hM4
 have HB4 := Lib.hid hB4
 have HS4 := Lib.hid hS4
 have HE4 := Lib.hid hE4
 clear hO4 hM4 hB4 hK4 hR4 hS4 hE4 hbf3 hle4 hbn hnn HM3 HB3 HS3 HR3
 go_upto_region 7 with (fail)
 go_loopw [9] (fun u wr => ∃ (i : Nat) (M : Mm) (lab : Nat → Nat) (K : Mm) (labK : Nat → Nat) (s : MachS) (fh : Nat → Value) (md : Nat → List Mk) (nw : Nat → DeedS), i ≤ n ∧ u = .int .i64 (i : Nat) ∧ Has σ M wr ∧ Mach M lab p s ∧ Base K M lab ∧ M1.le (stable K labK) ∧ LawT K labK T bn (.slice (some ⟨bh, 0, none⟩) T T) fh md nw ∧ McS c B S gens L T tp i s md nw) (fun u _ => n - (intOf u).toNat)
 case atStart => exact ⟨0, M4, lab4, K4, labK4, s, _, _, _, Nat.zero_le _, rfl, h, HM4.out, HB4.out, HS4.out, HE4.out, HA2.out⟩
 case round =>
  clear h w HM4 HB4 HS4 HE4 HA2 lab4 K4 labK4 M4 M3 M2 lab3 lab2 K3 labK3
  obtain ⟨w, rfl⟩ : ∃ x : World, x = wr := ⟨_, rfl⟩
  obtain ⟨i, M2, lab2, K2, labK2, s, fh, md, nw, hi, rfl, h, hM2, hB2, hS2, hE2, hA2⟩ := hrel
  have hle12 := Mm.le_trans hS2 (Mm.le_trans (stable_le _ _) hB2.le)
  have hbf2 := hle12 _ _ hbf
  have HM2 := Lib.hid hM2
  have HB2 := Lib.hid hB2
  have HS2 := Lib.hid hS2
  have HE2 := Lib.hid hE2
  have HA2 := Lib.hid hA2
  have HLE12 := Lib.hid hle12
  clear hM2 hB2 hS2 hE2 hA2 hle12
  by_cases hlt : i < n
  ·as_aux_lemma =>
    have hrd : Rd M2 6 (.slice A n cap) n (lst.flatMap encD) := HR.out.le (Mm.le_trans HLE1.out HLE12.out)
    obtain ⟨en, he⟩ : ∃ e, lst[i]? = some e := ⟨_, List.getElem?_eq_getElem (by rw [HL.out]; exact hlt)⟩
    obtain ⟨bl, ol, cl, csl, tl2, fzl, hle, hbl, hcl⟩ := hrd.elem (enc := encD) encD_len hlt he
    obtain ⟨et, het⟩ : ∃ x, en.th = x := ⟨_, rfl⟩
    obtain ⟨eg, heg⟩ : ∃ x, en.gi = x := ⟨_, rfl⟩
    obtain ⟨est, hes⟩ : ∃ x, en.st = x := ⟨_, rfl⟩
    obtain ⟨ek, hek⟩ : ∃ x, en.key = x := ⟨_, rfl⟩
    obtain ⟨ea, hea⟩ : ∃ x, en.a = x := ⟨_, rfl⟩
    obtain ⟨eb, heb⟩ : ∃ x, en.b = x := ⟨_, rfl⟩
    have HET := Lib.hid het
    have HEG := Lib.hid heg
    have HES := Lib.hid hes
    have HEK := Lib.hid hek
    have HEA := Lib.hid hea
    have HEB := Lib.hid heb
    obtain ⟨drow, hdr⟩ : ∃ r : Array Value, (encD en).toArray = r := ⟨_, rfl⟩
    have hxD : csl.extract (ol + i * 6) (ol + i * 6 + 6) = drow := by rw [← hdr]; exact extract_of (xs := encD en) hcl rfl
    have hzD : drow.size = 6 := by rw [← hdr]; rfl
    have hoD : drow.toList.all (·.oneCell') = true := by rw [← hdr]; rfl
    have dd0 : drow[0]? = some (.int .i64 et) := by rw [← hdr, ← HET.out]; rfl
    have dd1 : drow[1]? = some (.int .i64 eg) := by rw [← hdr, ← HEG.out]; rfl
    have dd2 : drow[2]? = some (.int .u8 (est : Nat)) := by rw [← hdr, ← HES.out]; rfl
    have dd3 : drow[3]? = some (.int .u64 (ek : Nat)) := by rw [← hdr, ← HEK.out]; rfl
    have dd4 : drow[4]? = some (.int .u64 (ea : Nat)) := by rw [← hdr, ← HEA.out]; rfl
    have dd5 : drow[5]? = some (.int .u64 (eb : Nat)) := by rw [← hdr, ← HEB.out]; rfl
    have HDR : Hid (drow.toList = encD en) := Lib.hid (by rw [← hdr])
    cases hle
    have hlt' : (i : Int) < (n : Int) := by omega
    have wi : IntKind.i64.wrap ((i : Int) + 1) = ((i + 1 : Nat) : Int) := by rw [show (i : Int) + 1 = ((i + 1 : Nat) : Int) by omega]; exact IntWalk.i64_in _ (by omega)
    have HLT := Lib.hid hlt
    clear hcl hrd he hlt hi hdr het heg hes hek hea heb
    go_upto_region 10 with (first
     | ((with_reducible show wpList _ _ _ ({ dst := _, op := Op.load 86 _, type := _, pos := _, after := _, guard := _ } :: _) _ _); refine wpList_agg_has h rfl 86 _ rfl rfl hbl hxD hzD Tryz.underlying86 rfl (by kernel_rfl) ?_; try simp only [Act.put, List.setIfInBounds_toArray, List.set_cons_zero, List.set_cons_succ])
     | ((with_reducible show wpList _ _ _ ({ dst := _, op := Op.alloc 86, type := _, pos := _, after := _, guard := _ } :: _) _ _); refine wpList_alloc_has h rfl 86 rfl _ zD ?_; clear h; intro b11 w h hn11; try simp only [Act.put, List.setIfInBounds_toArray, List.set_cons_zero, List.set_cons_succ])
     | ((with_reducible show wpList _ _ _ ({ dst := _, op := Op.store 86 _ _, type := _, pos := _, after := _, guard := _ } :: _) _ _); (refine wpList_storeAll_has (cells := drow) h rfl 86 _ _ rfl rfl rfl (Mm.upd_same _ _ _) rfl rfl hzD (by kernel_rfl) hoD ?_); clear h; intro w h))
    rw [Mm.upd_upd] at h
    have hle3 := Mm.le_upd' hn11 (.cells drow 86)
    have hb11 := Mm.upd_same M2 b11 (.cells drow 86)
    generalize M2.upd b11 _ = M3 at h hle3 hb11
    have hO3 : Own (outK K2 M2 labK2 4) M3 86 6 (.slice (some ⟨b11, 0, none⟩) 1 1) 1 (encD en) := ⟨rfl, .inr ⟨b11, 1, _, rfl, Mm.none_of (outK_le _ _ _ _) hn11, hb11, Nat.le_refl _, by unfold maxLen; omega, hzD, by rw [HDR.out]; rfl⟩⟩
    obtain ⟨lab3, K3, labK3, hM3, hB3, hK3, hR3⟩ := HM2.out.rowTo HB2.out (j := 4) (Mm.le_trans (outK_le _ _ _ _) hle3) hO3
    have hL3 : McL M1 T bh bn b11 p M3 lab3 K3 labK3 s fh md nw en := ⟨hM3, hB3, Mm.le_trans HS2.out (stable_kp hK3 (by omega)), ⟨HE2.out.hrow.keep hK3 (by omega), fun k hk => (HE2.out.each k hk).keep hK3 (by omega), HE2.out.nrow.keep hK3 (by omega)⟩, hR3⟩
    have HL3 := Lib.hid hL3
    clear hO3 hM3 hB3 hK3 hR3 hL3 hle3 hn11 hbl hbf2 HM2 HB2 HS2 HE2 HLE12 K2 labK2 lab2 M2
    obtain ⟨a, m, g, ha, hm, hA, hI⟩ := HA2.out.all
    by_cases htt : 0 ≤ et ∧ et < (T : Int)
    ·obtain ⟨tn, hte⟩ : ∃ tn : Nat, et = (tn : Nat) := ⟨et.toNat, by omega⟩
     subst hte
     have htn : tn < T := by omega
     obtain ⟨elv, ll⟩ := levT_of HC.out HNU.out HT.out htn
     obtain ⟨q, hq⟩ : ∃ q, tp[tn]? = some q := ⟨_, List.getElem?_eq_getElem (by have h1 := HTL.out; have h2 := HT.out; omega)⟩
     have htc : (tn : Int) < c 1 := by have := HT.out; omega
     have TH := Lib.hid (fun (w : World) (h : Has σ M3 w) => mThread_yes h HL3.out.mach (t := tn) (q := q) (by rw [hA.ttp]; exact hq))
     have LV := Lib.hid (fun (w : World) (h : Has σ M3 w) => mLevel_eq h HL3.out.mach (tn : Int))
     rw [hA.cc, elv] at LV
     have DP := Lib.hid (mc_deep (σ := σ) HL3.out.mach hA htc hq)
     obtain ⟨lv, hlv⟩ : ∃ lv, levT c tn = lv := ⟨_, rfl⟩
     rw [hlv] at ll elv LV
     have HAL := Lib.hid (⟨ha, hm, hA, hI⟩ : a ≤ i ∧ m ≤ 2 * i ∧ AbsM c tp a s g ∧ McI B S gens L T (levT c) m g md nw)
     have HLV := Lib.hid hlv
     have HQ := Lib.hid hq
     have HTN := Lib.hid htn
     have HTC := Lib.hid htc
     have HLL := Lib.hid ll
     have hll : (lv : Int) < (L : Int) := by omega
     have ht8 : (tn : Int) < 8 := by omega
     clear ha hm hA hI hlv elv hq htt htn htc ll
     go_upto_region 14 with (first
      | (with_reducible show wpList _ _ _ ({ dst := _, op := Op.load 3 _, type := _, pos := _, after := _, guard := _ } :: _) _ _; refine wpList_load1_has h rfl 3 _ rfl rfl hb11 dd0 Tryz.underlying3 rfl ?_)
      | (go_at_call 13; refine (TH.out _ h).mono ?_; clear h; rintro _ w ⟨rfl, h⟩)
      | (go_at_call 12; refine (LV.out _ h).mono ?_; clear h; rintro _ w ⟨rfl, h⟩))
     clear TH LV
     obtain ⟨dn, hdn⟩ : ∃ dn : Nat, (g.thr tn).length = dn := ⟨_, rfl⟩
     rw [hdn] at DP
     have HDN := Lib.hid hdn
     clear hdn
     go_upto_if 72 with (first | (go_at_call 30; refine (DP.out _ h).mono ?_; clear h; rintro _ w ⟨rfl, h⟩))
     go_cut [] from 49 to 245 (fun wx => ∃ (M3 : Mm) (lab3 : Nat → Nat) (K3 : Mm) (labK3 : Nat → Nat) (s3 : MachS) (fh3 : Nat → Value) (md3 : Nat → List Mk) (nw3 : Nat → DeedS) (g3 : GM) (m3 : Nat), Has σ M3 wx ∧ McL M1 T bh bn b11 p M3 lab3 K3 labK3 s3 fh3 md3 nw3 en ∧ AbsM c tp a s3 g3 ∧ m3 ≤ m + 1 ∧ McI B S gens L T (levT c) m3 g3 md3 nw3 ∧ g3.thr tn ≠ [])
     case first =>
      as_aux_lemma =>
       by_cases hgt : g.thr tn = []
       ·obtain rfl : dn = 0 := by rw [← HDN.out, hgt]; rfl
        have HGT := Lib.hid hgt
        clear hgt
        obtain ⟨curH5, Ah5, ch5, hcb5, hfe5, eH5, hszH, hE⟩ := HL3.out.atH HTN.out
        have hbm5 := HL3.out.base.le _ _ hcb5
        obtain ⟨nh, hnh⟩ : ∃ nh, (md tn).length = nh := ⟨_, rfl⟩
        rw [hnh] at eH5 hE
        have HNH := Lib.hid hnh
        have htT : (tn : Int) < (T : Int) := by have := HTN.out; omega
        have hn60h : nh ≤ 60 := by
         have h1 := HAL.out.2.2.2.short HTN.out
         rw [HNH.out] at h1
         have := HNU.out.s0.2
         omega
        clear hfe5 hnh hcb5 hE hszH
        go_upto_region 15 with (fail)
        refine wp_region_class (Has σ M3) (by kernel_rfl) (by kernel_rfl) h.drew ?_
        clear h
        repeat (first
         | go_big_quiet_skip
         | (go_big_quiet_want; first
          | (refine quiet_load_has 3 _ rfl rfl hb11 dd1 Tryz.underlying3 rfl ?_; simp only [Act.put, List.setIfInBounds_toArray, List.set_cons_zero, List.set_cons_succ]; go_big_quiet_on)
          | (refine quiet_load_has 87 _ rfl rfl hbm5 eH5 Tryz.underlying87 rfl ?_; simp only [Act.put, List.setIfInBounds_toArray, List.set_cons_zero, List.set_cons_succ]; go_big_quiet_on)
          | (go_big_quiet_op; first | go_big_quiet_on | go_big_quiet_call (first | with_reducible exact fun _ => rfl))))
        refine wpQuiet_nil ?_
        try clear w
        intro w h
        clear hbm5 eH5
        by_cases hw : (nh : Int) ≤ eg
        ·have hw2 : decide ((nh : Int) ≤ eg) = true := decide_eq_true hw
         go_wp2
         go_roundw
         case rel => exact ⟨i + 1, M3, lab3, K3, labK3, s, fh, md, nw, by have := HLT.out; omega, by first | rfl | go_num, h, HL3.out.mach, HL3.out.base, HL3.out.m1, HL3.out.law, HA2.out.mono (Nat.le_succ _)⟩
         case measure => have := HLT.out; simp [intOf]; omega
        ·have hw2 : decide ((nh : Int) ≤ eg) = false := decide_eq_false hw
         have hO := HL3.out.law.nrow.up HL3.out.base.le
         have hOle := outK_le K3 M3 labK3 3
         obtain ⟨curD, hbD, hcD, hxD11⟩ := HL3.out.atD
         have hxD6 : curD.extract 0 (0 + 6) = drow := by rw [hxD11, ← HDR.out]
         clear hcD hxD11 hb11
         go_upto_region 17 with (first
          | ((with_reducible show wpList _ _ _ ({ dst := _, op := Op.load 86 _, type := _, pos := _, after := _, guard := _ } :: _) _ _); refine wpList_agg_has h rfl 86 _ rfl rfl hbD hxD6 hzD Tryz.underlying86 rfl (by kernel_rfl) ?_; try simp only [Act.put, List.setIfInBounds_toArray, List.set_cons_zero, List.set_cons_succ])
          | ((with_reducible show wpList _ _ _ ({ dst := _, op := Op.store 86 _ _, type := _, pos := _, after := _, guard := _ } :: _) _ _; refine wpList_putRow (L := (List.range T).map nw) encD_len h hOle hO (by simp) rfl 86 _ _ rfl rfl (k := tn) rfl rfl HTN.out en HDR.out (encD_one en) (by kernel_rfl) ?_; clear h hOle hO; intro w M4 h hle4 hown4)))
         clear hw2 hbD hxD6 hzD hoD dd0 dd1 dd2 dd3 dd4 dd5
         obtain ⟨lab4, K4, labK4, hL4⟩ := HL3.out.putN (d2 := en) hle4 hown4
         have HL4 := Lib.hid hL4
         obtain ⟨curD, hbD, hcD, _⟩ := hL4.atD
         have dd1 : curD[1]? = some (.int .i64 eg) := hcD 1 _ (by rw [← HEG.out]; rfl)
         have dd2 : curD[2]? = some (.int .u8 (est : Nat)) := hcD 2 _ (by rw [← HES.out]; rfl)
         have dd3 : curD[3]? = some (.int .u64 (ek : Nat)) := hcD 3 _ (by rw [← HEK.out]; rfl)
         have dd4 : curD[4]? = some (.int .u64 (ea : Nat)) := hcD 4 _ (by rw [← HEA.out]; rfl)
         have dd5 : curD[5]? = some (.int .u64 (eb : Nat)) := hcD 5 _ (by rw [← HEB.out]; rfl)
         clear hL4 hcD hle4 hown4 HL3
         by_cases hneg : eg < 0
         ·as_aux_lemma =>
           have st4 : est % 4 < 4 := Nat.mod_lt _ (by decide)
           have t1 : ((est : Int)).tmod 4 = ((est % 4 : Nat) : Int) := by rw [Int.tmod_eq_emod_of_nonneg (by omega)]; omega
           obtain ⟨sm, hsm⟩ : ∃ x, est % 4 = x := ⟨_, rfl⟩
           rw [hsm] at st4 t1
           have w1 : IntKind.u8.wrap (sm : Int) = (sm : Int) := IntWalk.u8_in _ (by omega)
           have w3 : IntKind.u64.wrap (sm : Int) = (sm : Int) := IntWalk.u64_in _ (by omega)
           have hneg' : ¬ 0 ≤ eg := by omega
           have HSM := Lib.hid hsm
           have HNEG := Lib.hid hneg
           have CALm : Hid (∀ w, Has σ M4 w → Calls Tryz.prog 34 #[.pointer (some ⟨q, 0, none⟩), .int .i64 30, .slice (some ⟨w.heap.size, 0, none⟩) 4 4] (w.alloc (.cells #[.int .u64 (sm : Nat), .int .u64 (ek : Nat), .int .u64 (ea : Nat), .int .u64 (eb : Nat)] 42)) fun r w' => r = .returned (.tuple #[]) ∧ ∃ M' lab' s', Has σ M' w' ∧ Mach M' lab' p s' ∧ Base K4 M' lab' ∧ AbsM c tp a s' (g.top tn [] ⟨30, 0, fun i => [sm, ek, ea, eb].getD i 0⟩)) := Lib.hid fun w h => by
            obtain ⟨M8, h8, hle8, hb8, hn8⟩ := h.box (.cells #[.int .u64 (sm : Nat), .int .u64 (ek : Nat), .int .u64 (ea : Nat), .int .u64 (eb : Nat)] 42)
            exact mc_call h8 (HL4.out.mach.keep (Kp.le hle8 fun _ => 0) fun _ _ h => h) (HL4.out.base.keep (Kp.le hle8 fun _ => 0) fun h => h) HAL.out.2.2.1 HTC.out HQ.out HGT.out 30 (us := [sm, ek, ea, eb]) (rv := .slice (some ⟨w.heap.size, 0, none⟩) 4 4) ⟨rfl, some ⟨w.heap.size, 0, none⟩, 4, rfl, Nat.le_refl _, fun _ => ⟨w.heap.size, 0, _, _, _, rfl, hb8, fun j y hy => by rw [Nat.zero_add]; simpa [u64s] using hy⟩⟩ (by simp)
           clear hw hneg hsm st4
           go_wp2_with (first
            | (with_reducible show wpList _ _ _ ({ dst := _, op := Op.load 3 _, type := _, pos := _, after := _, guard := _ } :: _) _ _; refine wpList_load1_has h rfl 3 _ rfl rfl hbD dd1 Tryz.underlying3 rfl ?_)
            | (with_reducible show wpList _ _ _ ({ dst := _, op := Op.load 5 _, type := _, pos := _, after := _, guard := _ } :: _) _ _; refine wpList_load1_has h rfl 5 _ rfl rfl hbD dd2 Tryz.underlying5 rfl ?_)
            | (with_reducible show wpList _ _ _ ({ dst := _, op := Op.load 42 _, type := _, pos := _, after := _, guard := _ } :: _) _ _; refine wpList_load1_has h rfl 42 _ rfl rfl hbD dd3 Tryz.underlying42 rfl ?_)
            | (with_reducible show wpList _ _ _ ({ dst := _, op := Op.load 42 _, type := _, pos := _, after := _, guard := _ } :: _) _ _; refine wpList_load1_has h rfl 42 _ rfl rfl hbD dd4 Tryz.underlying42 rfl ?_)
            | (with_reducible show wpList _ _ _ ({ dst := _, op := Op.load 42 _, type := _, pos := _, after := _, guard := _ } :: _) _ _; refine wpList_load1_has h rfl 42 _ rfl rfl hbD dd5 Tryz.underlying42 rfl ?_)
            | ((go_at_call 34; refine (CALm.out _ h).mono ?_; clear h; rintro _ w ⟨rfl, M5, lab5, s5, h, hM5, hB5, hA5⟩)))
           have hI5 := HAL.out.2.2.2.mint HTN.out HGT.out (d := en) (by rw [HEG.out]; exact HNEG.out)
           rw [HES.out, HSM.out, HEK.out, HEA.out, HEB.out] at hI5
           have hne5 : (g.top tn [] ⟨30, 0, fun i => [sm, ek, ea, eb].getD i 0⟩).thr tn ≠ [] := by
            show put1 g.thr tn _ tn ≠ []
            rw [put1_same]; simp
           go_meet
           case rel => exact ⟨M5, lab5, K4, labK4, s5, fh, md, put1 nw tn en, _, m, h, HL4.out.on hM5 hB5, hA5, Nat.le_succ _, hI5, hne5⟩
         ·as_aux_lemma =>
           obtain ⟨wn, hwe⟩ : ∃ wn : Nat, eg = (wn : Nat) := ⟨eg.toNat, by omega⟩
           subst hwe
           have hwn : wn < nh := by omega
           obtain ⟨curH5, Ah5, ch5, hcb5, hfe5, eH5, hszH, hE⟩ := HL4.out.atH HTN.out
           rw [HNH.out] at eH5 hE
           obtain ⟨gh, cgh, hce⟩ := Own.pos hE (by omega)
           cases hce
           obtain ⟨curE, hgE, hcE⟩ := Own.at_ hE
           obtain ⟨y, hyq⟩ : ∃ y, (md tn)[wn]? = some y := ⟨_, List.getElem?_eq_getElem (by rw [HNH.out]; exact hwn)⟩
           obtain ⟨x, hyx⟩ : ∃ x, y.1 = x := ⟨_, rfl⟩
           have ex : curE[wn * 6 + 0]? = some (.int .i64 (x : Nat)) := hcE (wn * 6 + 0) _ ((flat_get encM_len (md tn) wn y hyq 0 (by decide)).trans (by rw [← hyx]; rfl))
           rw [Nat.add_zero] at ex
           have hbm5 := HL4.out.base.le _ _ hcb5
           have hgE5 := HL4.out.base.le _ _ hgE
           have HYQ := Lib.hid hyq
           have HYX := Lib.hid hyx
           have HCUR := Lib.hid hcb5
           have HEE := Lib.hid hE
           have hwn' : (wn : Int) < (nh : Int) := by omega
           obtain ⟨x1, x2, _⟩ := HAL.out.2.2.2.each HTN.out y (List.mem_of_getElem? hyq)
           rw [hyx] at x1 x2
           have hS60 := HNU.out.s0.2
           have wx : IntKind.u64.wrap (x : Int) = (x : Int) := IntWalk.u64_in _ (by omega)
           have CALg : Hid (∀ w, Has σ M4 w → Calls Tryz.prog 34 #[.pointer (some ⟨q, 0, none⟩), .int .i64 2, .slice (some ⟨w.heap.size, 0, none⟩) 1 1] (w.alloc (.cells #[.int .u64 (x : Nat)] 42)) fun r w' => r = .returned (.tuple #[]) ∧ ∃ M' lab' s', Has σ M' w' ∧ Mach M' lab' p s' ∧ Base K4 M' lab' ∧ AbsM c tp a s' (g.top tn [] ⟨2, 0, fun i => [x].getD i 0⟩)) := Lib.hid fun w h => by
            obtain ⟨M8, h8, hle8, hb8, hn8⟩ := h.box (.cells #[.int .u64 (x : Nat)] 42)
            exact mc_call h8 (HL4.out.mach.keep (Kp.le hle8 fun _ => 0) fun _ _ h => h) (HL4.out.base.keep (Kp.le hle8 fun _ => 0) fun h => h) HAL.out.2.2.1 HTC.out HQ.out HGT.out 2 (us := [x]) (rv := .slice (some ⟨w.heap.size, 0, none⟩) 1 1) ⟨rfl, some ⟨w.heap.size, 0, none⟩, 1, rfl, Nat.le_refl _, fun _ => ⟨w.heap.size, 0, _, _, _, rfl, hb8, fun j y hy => by rw [Nat.zero_add]; simpa [u64s] using hy⟩⟩ (by simp)
           clear hw hneg hcE hyq hyx hE x1 x2 hfe5 hgE5 hbm5
           obtain ⟨curK, hKb, hcK⟩ := Own.at_ HL4.out.drow
           have dk1 : curK[1]? = some (.int .i64 (wn : Nat)) := hcK 1 _ (by rw [← HEG.out]; rfl)
           go_upto_region 18 with (first
            | (with_reducible show wpList _ _ _ ({ dst := _, op := Op.load 3 _, type := _, pos := _, after := _, guard := _ } :: _) _ _; refine wpList_load1_has h rfl 3 _ rfl rfl hbD dd1 Tryz.underlying3 rfl ?_))
           clear hcK hbD dd1 dd2 dd3 dd4 dd5
           refine wp_region_held_drew (S := Has σ (K4)) (by kernel_rfl) (h.drew.le HL4.out.base.le) (fun hHeld => ?_)
           refine wpAnyH_take (i := 0) (v := ?_) rfl (by kernel_rfl) (by kernel_rfl) (by kernel_rfl) (fun _ _ _ h => h) (Or.inl ⟨by rfl, ?_⟩) hHeld ?_
           rotate_left
           ·(intro wz _; go_simp; try with_reducible rfl)
           try simp only [List.getElem_toArray, List.getElem_cons_succ, List.getElem_cons_zero, Act.put, List.setIfInBounds_toArray, List.set_cons_zero, List.set_cons_succ]
           refine wpAnyH_take (i := 1) (v := ?_) rfl (by kernel_rfl) (by kernel_rfl) (by kernel_rfl) (fun _ _ _ h => h) (Or.inl ⟨by rfl, ?_⟩) hHeld ?_
           rotate_left
           ·(intro wz _; go_simp; try with_reducible rfl)
           try simp only [List.getElem_toArray, List.getElem_cons_succ, List.getElem_cons_zero, Act.put, List.setIfInBounds_toArray, List.set_cons_zero, List.set_cons_succ]
           refine wpAnyH_take (i := 2) (v := ?_) rfl (by kernel_rfl) (by kernel_rfl) (by kernel_rfl) (fun _ _ _ h => h) (Or.inl ⟨by rfl, ?_⟩) hHeld ?_
           rotate_left
           ·(intro wz _; go_simp; try with_reducible rfl)
           try simp only [List.getElem_toArray, List.getElem_cons_succ, List.getElem_cons_zero, Act.put, List.setIfInBounds_toArray, List.set_cons_zero, List.set_cons_succ]
           refine wpAnyH_take (i := 3) (v := ?_) rfl (by kernel_rfl) (by kernel_rfl) (by kernel_rfl) (fun _ _ _ h => h) (Or.inl ⟨by rfl, ?_⟩) hHeld ?_
           rotate_left
           ·(intro wz _; go_simp; try with_reducible rfl)
           try simp only [List.getElem_toArray, List.getElem_cons_succ, List.getElem_cons_zero, Act.put, List.setIfInBounds_toArray, List.set_cons_zero, List.set_cons_succ]
           refine wpAnyH_take (i := 4) (v := _) rfl (by kernel_rfl) (by kernel_rfl) (by kernel_rfl) (fun _ _ _ h => h) (yields_load1 rfl 87 _ rfl rfl hcb5 eH5 Tryz.underlying87 rfl) hHeld ?_
           try simp only [List.getElem_toArray, List.getElem_cons_succ, List.getElem_cons_zero, Act.put, List.setIfInBounds_toArray, List.set_cons_zero, List.set_cons_succ]
           refine wpAnyH_take (i := 5) (v := ?_) rfl (by kernel_rfl) (by kernel_rfl) (by kernel_rfl) (fun _ _ _ h => h) (Or.inl ⟨by rfl, ?_⟩) hHeld ?_
           rotate_left
           ·(intro wz _; go_simp; try with_reducible rfl)
           try simp only [List.getElem_toArray, List.getElem_cons_succ, List.getElem_cons_zero, Act.put, List.setIfInBounds_toArray, List.set_cons_zero, List.set_cons_succ]
           refine wpAnyH_take (i := 6) (v := _) rfl (by kernel_rfl) (by kernel_rfl) (by kernel_rfl) (fun _ _ _ h => h) (yields_load1 rfl 3 _ rfl rfl hKb dk1 Tryz.underlying3 rfl) hHeld ?_
           try simp only [List.getElem_toArray, List.getElem_cons_succ, List.getElem_cons_zero, Act.put, List.setIfInBounds_toArray, List.set_cons_zero, List.set_cons_succ]
           refine wpAnyH_take (i := 7) (v := ?_) rfl (by kernel_rfl) (by kernel_rfl) (by kernel_rfl) (fun _ _ _ h => h) (Or.inl ⟨by rfl, ?_⟩) hHeld ?_
           rotate_left
           ·(intro wz _; go_simp; try with_reducible rfl)
           try simp only [List.getElem_toArray, List.getElem_cons_succ, List.getElem_cons_zero, Act.put, List.setIfInBounds_toArray, List.set_cons_zero, List.set_cons_succ]
           refine wpAnyH_take (i := 8) (v := ?_) rfl (by kernel_rfl) (by kernel_rfl) (by kernel_rfl) (fun _ _ _ h => h) (Or.inl ⟨by rfl, ?_⟩) hHeld ?_
           rotate_left
           ·(intro wz _; go_simp; try with_reducible rfl)
           try simp only [List.getElem_toArray, List.getElem_cons_succ, List.getElem_cons_zero, Act.put, List.setIfInBounds_toArray, List.set_cons_zero, List.set_cons_succ]
           refine wpAnyH_take (i := 9) (v := _) rfl (by kernel_rfl) (by kernel_rfl) (by kernel_rfl) (fun _ _ _ h => h) (yields_load1 rfl 3 _ rfl rfl hgE ex Tryz.underlying3 rfl) hHeld ?_
           try simp only [List.getElem_toArray, List.getElem_cons_succ, List.getElem_cons_zero, Act.put, List.setIfInBounds_toArray, List.set_cons_zero, List.set_cons_succ]
           refine wpAnyH_take (i := 10) (v := ?_) rfl (by kernel_rfl) (by kernel_rfl) (by kernel_rfl) (fun _ _ _ h => h) (Or.inl ⟨by rfl, ?_⟩) hHeld ?_
           rotate_left
           ·(intro wz _; go_simp; try with_reducible rfl)
           try simp only [List.getElem_toArray, List.getElem_cons_succ, List.getElem_cons_zero, Act.put, List.setIfInBounds_toArray, List.set_cons_zero, List.set_cons_succ]
           replace h := h.drew
           generalize w.drew = wq at h hHeld ⊢
           obtain ⟨w, rfl⟩ : ∃ q : World, q = wq := ⟨_, rfl⟩
           refine wpAnyH_ready (rs := [11]) (by kernel_rfl) (by simp) ?_
           refine AllReadyH.cons rfl (fun K hK => ?_) AllReadyH.nil
           go_simp
           refine hK.out _ _ ((h.quietAlloc _).le HL4.out.base.le) (fun hHeld => ?_)
           clear hK K
           try simp only [Act.put, List.setIfInBounds_toArray, List.set_cons_zero, List.set_cons_succ]
           refine wpAnyH_ready (rs := [12]) (by kernel_rfl) (by simp) ?_
           refine AllReadyH.cons rfl (fun K hK => ?_) AllReadyH.nil
           (go_simp; go_wp2_with (go_at_call 34; refine (CALg.out _ h).mono ?_; clear h hHeld; rintro _ w ⟨rfl, M5, lab5, s5, h, hM5, hB5, hA5⟩))
           refine hK.out _ _ (h.le hB5.le) (fun hHeld => ?_)
           clear hK K
           try simp only [Act.put, List.setIfInBounds_toArray, List.set_cons_zero, List.set_cons_succ]
           refine wpAnyH_done (by kernel_rfl) ?_ _
           clear hHeld
           go_upto_region 19 with (fail)
           clear ex hgE hcb5 hKb dk1 CALg wx
           have hL5 := HL4.out.on hM5 hB5
           have hbm5 := hB5.le _ _ HCUR.out
           obtain ⟨curD, hbD, hcD, _⟩ := hL5.atD
           have dd1 : curD[1]? = some (.int .i64 (wn : Nat)) := hcD 1 _ (by rw [← HEG.out]; rfl)
           have hrdE : Rd M5 6 (.slice (some ⟨gh, 0, none⟩) nh ch5) nh ((md tn).flatMap encM) := HEE.out.rd.le hB5.le
           have hr1 : Rd M5 6 (.slice (some ⟨gh, 0, none⟩) wn ch5) wn (((md tn).flatMap encM).take (wn * 6)) := by
            have := hrdE.upto_n (k := wn) (by decide) (by omega)
            simpa [sliced, Addr.add_mid] using this
           have hr2 : Rd M5 6 (.slice (if ch5 = wn + 1 then some ⟨gh, 0, none⟩ else some ⟨gh, (wn + 1) * 6, none⟩) (nh - (wn + 1)) (ch5 - (wn + 1))) (nh - (wn + 1)) (((md tn).flatMap encM).drop ((wn + 1) * 6)) := by
            have := hrdE.from_n (l := wn + 1) (by decide) (by omega)
            simpa [sliced, Addr.add_mid] using this
           have one1 : ∀ v ∈ ((md tn).flatMap encM).take (wn * 6), v.oneCell' = true := fun v hv => encM_one _ v (List.mem_of_mem_take hv)
           have one2 : ∀ v ∈ ((md tn).flatMap encM).drop ((wn + 1) * 6), v.oneCell' = true := fun v hv => encM_one _ v (List.mem_of_mem_drop hv)
           have hch : nh ≤ ch5 := by obtain ⟨_, A', c', e, hc, _⟩ := hrdE; cases e; exact hc
           have hKS : (outK K4 M5 labK4 2).le M5 := outK_le _ _ _ _
           have hKd : outK K4 M5 labK4 2 b11 = some (.cells curD 86) := row_out hL5.drow hL5.base (by decide) hbD
           have hKbh : outK K4 M5 labK4 2 bh = none := by
            obtain ⟨_, ⟨hv, _⟩ | ⟨g', cap', cur', hv, hg', _⟩⟩ := hL5.law.hrow.up hL5.base.le
            ·cases hv
            ·cases hv; exact hg'
           have HL5 := Lib.hid hL5
           have HA5 := Lib.hid hA5
           have HM5 := Lib.hid hM5
           have HB5 := Lib.hid hB5
           generalize outK K4 M5 labK4 2 = KS at hKS hKbh hKd
           have wq1 : IntKind.i64.wrap ((wn : Int) + 1) = ((wn + 1 : Nat) : Int) := by rw [show (wn : Int) + 1 = ((wn + 1 : Nat) : Int) by omega]; exact IntWalk.i64_in _ (by omega)
           have s1 : (0 : Int) ≤ (wn : Int) ∧ (wn : Int) ≤ (ch5 : Int) := by omega
           have s2 : ((wn + 1 : Nat) : Int) ≤ (nh : Int) := by omega
           have s4 : 0 ≤ (wn : Int) + 1 ∧ (wn : Int) + 1 ≤ (nh : Int) := by omega
           have HXS : Hid (((md tn).eraseIdx wn).flatMap encM = ((md tn).flatMap encM).take (wn * 6) ++ ((md tn).flatMap encM).drop ((wn + 1) * 6)) := Lib.hid (flatM_erase _ _ (by rw [HNH.out]; exact hwn))
           clear hrdE hL5 hA5 hM5 hB5 hbD hcD
           generalize ((md tn).flatMap encM).take (wn * 6) = xs1 at *
           generalize ((md tn).flatMap encM).drop ((wn + 1) * 6) = xs2 at *
           go_cut [] from 49 to 245 (fun wx => ∃ (M6 : Mm) (v : Value), M5.le M6 ∧ Own M5 M6 91 6 v (nh - 1) (xs1 ++ xs2) ∧ Has σ (M6.upd bh (.cells (curH5.setIfInBounds tn v) 87)) wx)
           case first =>
            as_aux_lemma =>
             refine wp_region_held_drew (S := Has σ (KS)) (by kernel_rfl) (h.drew.le hKS) (fun hHeld => ?_)
             refine wpAnyH_take (i := 0) (v := ?_) rfl (by kernel_rfl) (by kernel_rfl) (by kernel_rfl) (fun _ _ _ h => h) (Or.inl ⟨by rfl, ?_⟩) hHeld ?_
             rotate_left
             ·(intro wz _; go_simp; try with_reducible rfl)
             try simp only [List.getElem_toArray, List.getElem_cons_succ, List.getElem_cons_zero, Act.put, List.setIfInBounds_toArray, List.set_cons_zero, List.set_cons_succ]
             refine wpAnyH_take (i := 1) (v := ?_) rfl (by kernel_rfl) (by kernel_rfl) (by kernel_rfl) (fun _ _ _ h => h) (Or.inl ⟨by rfl, ?_⟩) hHeld ?_
             rotate_left
             ·(intro wz _; go_simp; try with_reducible rfl)
             try simp only [List.getElem_toArray, List.getElem_cons_succ, List.getElem_cons_zero, Act.put, List.setIfInBounds_toArray, List.set_cons_zero, List.set_cons_succ]
             refine wpAnyH_take (i := 3) (v := ?_) rfl (by kernel_rfl) (by kernel_rfl) (by kernel_rfl) (fun _ _ _ h => h) (Or.inl ⟨by rfl, ?_⟩) hHeld ?_
             rotate_left
             ·(intro wz _; go_simp; try with_reducible rfl)
             try simp only [List.getElem_toArray, List.getElem_cons_succ, List.getElem_cons_zero, Act.put, List.setIfInBounds_toArray, List.set_cons_zero, List.set_cons_succ]
             refine wpAnyH_take (i := 4) (v := ?_) rfl (by kernel_rfl) (by kernel_rfl) (by kernel_rfl) (fun _ _ _ h => h) (Or.inl ⟨by rfl, ?_⟩) hHeld ?_
             rotate_left
             ·(intro wz _; go_simp; try with_reducible rfl)
             try simp only [List.getElem_toArray, List.getElem_cons_succ, List.getElem_cons_zero, Act.put, List.setIfInBounds_toArray, List.set_cons_zero, List.set_cons_succ]
             refine wpAnyH_take (i := 5) (v := ?_) rfl (by kernel_rfl) (by kernel_rfl) (by kernel_rfl) (fun _ _ _ h => h) (Or.inl ⟨by rfl, ?_⟩) hHeld ?_
             rotate_left
             ·(intro wz _; go_simp; try with_reducible rfl)
             try simp only [List.getElem_toArray, List.getElem_cons_succ, List.getElem_cons_zero, Act.put, List.setIfInBounds_toArray, List.set_cons_zero, List.set_cons_succ]
             refine wpAnyH_take (i := 7) (v := ?_) rfl (by kernel_rfl) (by kernel_rfl) (by kernel_rfl) (fun _ _ _ h => h) (Or.inl ⟨by rfl, ?_⟩) hHeld ?_
             rotate_left
             ·(intro wz _; go_simp; try with_reducible rfl)
             try simp only [List.getElem_toArray, List.getElem_cons_succ, List.getElem_cons_zero, Act.put, List.setIfInBounds_toArray, List.set_cons_zero, List.set_cons_succ]
             refine wpAnyH_take (i := 8) (v := _) rfl (by kernel_rfl) (by kernel_rfl) (by kernel_rfl) (fun _ _ _ h => h) (yields_load1 rfl 3 _ rfl rfl hKd dd1 Tryz.underlying3 rfl) hHeld ?_
             try simp only [List.getElem_toArray, List.getElem_cons_succ, List.getElem_cons_zero, Act.put, List.setIfInBounds_toArray, List.set_cons_zero, List.set_cons_succ]
             refine wpAnyH_take (i := 11) (v := ?_) rfl (by kernel_rfl) (by kernel_rfl) (by kernel_rfl) (fun _ _ _ h => h) (Or.inl ⟨by rfl, ?_⟩) hHeld ?_
             rotate_left
             ·(intro wz _; go_simp; try with_reducible rfl)
             try simp only [List.getElem_toArray, List.getElem_cons_succ, List.getElem_cons_zero, Act.put, List.setIfInBounds_toArray, List.set_cons_zero, List.set_cons_succ]
             refine wpAnyH_take (i := 12) (v := ?_) rfl (by kernel_rfl) (by kernel_rfl) (by kernel_rfl) (fun _ _ _ h => h) (Or.inl ⟨by rfl, ?_⟩) hHeld ?_
             rotate_left
             ·(intro wz _; go_simp; try with_reducible rfl)
             try simp only [List.getElem_toArray, List.getElem_cons_succ, List.getElem_cons_zero, Act.put, List.setIfInBounds_toArray, List.set_cons_zero, List.set_cons_succ]
             refine wpAnyH_take (i := 13) (v := ?_) rfl (by kernel_rfl) (by kernel_rfl) (by kernel_rfl) (fun _ _ _ h => h) (Or.inl ⟨by rfl, ?_⟩) hHeld ?_
             rotate_left
             ·(intro wz _; go_simp; try with_reducible rfl)
             try simp only [List.getElem_toArray, List.getElem_cons_succ, List.getElem_cons_zero, Act.put, List.setIfInBounds_toArray, List.set_cons_zero, List.set_cons_succ]
             refine wpAnyH_take (i := 15) (v := ?_) rfl (by kernel_rfl) (by kernel_rfl) (by kernel_rfl) (fun _ _ _ h => h) (Or.inl ⟨by rfl, ?_⟩) hHeld ?_
             rotate_left
             ·(intro wz _; go_simp; try with_reducible rfl)
             try simp only [List.getElem_toArray, List.getElem_cons_succ, List.getElem_cons_zero, Act.put, List.setIfInBounds_toArray, List.set_cons_zero, List.set_cons_succ]
             refine wpAnyH_take (i := 16) (v := _) rfl (by kernel_rfl) (by kernel_rfl) (by kernel_rfl) (fun _ _ _ h => h) (yields_load1 rfl 3 _ rfl rfl hKd dd1 Tryz.underlying3 rfl) hHeld ?_
             try simp only [List.getElem_toArray, List.getElem_cons_succ, List.getElem_cons_zero, Act.put, List.setIfInBounds_toArray, List.set_cons_zero, List.set_cons_succ]
             refine wpAnyH_take (i := 17) (v := ?_) rfl (by kernel_rfl) (by kernel_rfl) (by kernel_rfl) (fun _ _ _ h => h) (Or.inl ⟨by rfl, ?_⟩) hHeld ?_
             rotate_left
             ·(intro wz _; go_simp; try with_reducible rfl)
             try simp only [List.getElem_toArray, List.getElem_cons_succ, List.getElem_cons_zero, Act.put, List.setIfInBounds_toArray, List.set_cons_zero, List.set_cons_succ]
             replace h := h.drew
             generalize w.drew = wq at h hHeld ⊢
             obtain ⟨w, rfl⟩ : ∃ q : World, q = wq := ⟨_, rfl⟩
             have hbmC := hbm5
             refine wpAnyH_ready (rs := [2, 6, 14]) (by kernel_rfl) (by simp) ?_
             refine AllReadyH.cons rfl (fun K hK => ?_) (AllReadyH.cons rfl (fun K hK => ?_) (AllReadyH.cons rfl (fun K hK => ?_) AllReadyH.nil))
             ·skip
              go_simp
              refine hK.out _ _ ((h.quietAlloc _).le hKS) (fun hHeld => ?_)
              clear hK K
              try simp only [Act.put, List.setIfInBounds_toArray, List.set_cons_zero, List.set_cons_succ]
              clear hHeld
              obtain ⟨Mq, hbx, hlen, hb2, hn2⟩ := h.box (.cells #[] 91)
              generalize w.alloc _ = wx at hbx ⊢
              generalize w.heap.size = b2 at hb2 hn2 ⊢
              clear h
              try clear w
              have h := hbx
              clear hbx
              obtain ⟨w, rfl⟩ : ∃ x : World, x = wx := ⟨_, rfl⟩
              have hHeld := h.le (Mm.le_trans hKS hlen)
              replace hbmC := hlen _ _ hbm5
              have hown1 : Own M5 Mq 91 6 (.slice (some ⟨b2, 0, none⟩) 0 0) 0 [] := ⟨rfl, .inr ⟨b2, 0, #[], rfl, hn2, hb2, Nat.le_refl _, by unfold maxLen; omega, rfl, rfl⟩⟩
              refine wpAnyH_ready (rs := [6, 14]) (by kernel_rfl) (by simp) ?_
              refine AllReadyH.cons rfl (fun K hK => ?_) (AllReadyH.cons rfl (fun K hK => ?_) AllReadyH.nil)
              ·skip
               refine step_yields rfl (yields_load1 rfl 87 _ rfl rfl hbmC eH5 Tryz.underlying87 rfl) h ?_
               refine hK.out _ _ hHeld (fun hHeld => ?_)
               clear hK K
               simp only [Act.put, List.setIfInBounds_toArray, List.set_cons_zero, List.set_cons_succ]
               refine wpAnyH_take (i := 9) (v := ?_) rfl (by kernel_rfl) (by kernel_rfl) (by kernel_rfl) (fun _ _ _ h => h) (Or.inl ⟨by rfl, ?_⟩) hHeld ?_
               rotate_left
               ·(intro wz _; go_simp; try with_reducible rfl)
               try simp only [List.getElem_toArray, List.getElem_cons_succ, List.getElem_cons_zero, Act.put, List.setIfInBounds_toArray, List.set_cons_zero, List.set_cons_succ]
               refine wpAnyH_ready (rs := [10, 14]) (by kernel_rfl) (by simp) ?_
               refine AllReadyH.cons rfl (fun K hK => ?_) (AllReadyH.cons rfl (fun K hK => ?_) AllReadyH.nil)
               ·skip
                refine step_append_rd (M0 := M5) h hlen rfl _ _ 87 rfl Tryz.underlying87 info_M rfl (by omega) rfl hown1 rfl (hr1.le hlen) one1 (by omega) (by omega) ?_
                clear h hHeld hown1 hb2 hn2 hbmC hlen
                intro v4 w hacc4
                obtain ⟨M4, h, hle4, hown4⟩ := hacc4
                rw [Nat.zero_add, List.nil_append] at hown4
                refine hK.out _ _ (h.le (Mm.le_trans hKS hle4)) (fun hHeld => ?_)
                clear hK K
                simp only [Act.put, List.setIfInBounds_toArray, List.set_cons_zero, List.set_cons_succ]
                have hbmC := hle4 _ _ hbm5
                refine wpAnyH_ready (rs := [14]) (by kernel_rfl) (by simp) ?_
                refine AllReadyH.cons rfl (fun K hK => ?_) AllReadyH.nil
                refine step_yields rfl (yields_load1 rfl 87 _ rfl rfl hbmC eH5 Tryz.underlying87 rfl) h ?_
                refine hK.out _ _ hHeld (fun hHeld => ?_)
                clear hK K
                simp only [Act.put, List.setIfInBounds_toArray, List.set_cons_zero, List.set_cons_succ]
                refine wpAnyH_take (i := 18) (v := ?_) rfl (by kernel_rfl) (by kernel_rfl) (by kernel_rfl) (fun _ _ _ h => h) (Or.inl ⟨by rfl, ?_⟩) hHeld ?_
                rotate_left
                ·(intro wz _; go_simp; try with_reducible rfl)
                try simp only [List.getElem_toArray, List.getElem_cons_succ, List.getElem_cons_zero, Act.put, List.setIfInBounds_toArray, List.set_cons_zero, List.set_cons_succ]
                refine wpAnyH_ready (rs := [19]) (by kernel_rfl) (by simp) ?_
                refine AllReadyH.cons rfl (fun K hK => ?_) AllReadyH.nil
                refine step_append_rd (M0 := M5) h hle4 rfl _ _ 87 rfl Tryz.underlying87 info_M rfl (by omega) rfl hown4 rfl (hr2.le hle4) one2 (by omega) (by omega) ?_
                clear h hHeld hown4 hbmC hle4
                intro v6 w hacc6
                obtain ⟨M6, h, hle6, hown6⟩ := hacc6
                rw [show wn + (nh - (wn + 1)) = nh - 1 by omega] at hown6
                obtain ⟨A6, c6, rfl⟩ := hown6.form
                refine hK.out _ _ (h.le (Mm.le_trans hKS hle6)) (fun hHeld => ?_)
                clear hK K
                simp only [Act.put, List.setIfInBounds_toArray, List.set_cons_zero, List.set_cons_succ]
                have hbmC := hle6 _ _ hbm5
                refine wpAnyH_take (i := 20) (v := ?_) rfl (by kernel_rfl) (by kernel_rfl) (by kernel_rfl) (fun _ _ _ h => h) (Or.inl ⟨by rfl, ?_⟩) hHeld ?_
                rotate_left
                ·(intro wz _; go_simp; try with_reducible rfl)
                try simp only [List.getElem_toArray, List.getElem_cons_succ, List.getElem_cons_zero, Act.put, List.setIfInBounds_toArray, List.set_cons_zero, List.set_cons_succ]
                refine wpAnyH_ready (rs := [21]) (by kernel_rfl) (by simp) ?_
                refine AllReadyH.cons rfl (fun K hK => ?_) AllReadyH.nil
                refine step_store1 h rfl 87 _ _ rfl rfl rfl hbmC hszH rfl rfl (by kernel_rfl) ?_
                clear h hHeld
                intro w h
                refine hK.out _ _ (h.le (Mm.le_upd (Mm.le_trans hKS hle6) hKbh _)) (fun hHeld => ?_)
                clear hK K
                refine wpAnyH_done (by kernel_rfl) ?_ _
                have hEnd := h
                go_wp2
                all_goals (go_meet; (case rel => exact ⟨M6, _, hle6, hown6, hEnd⟩))
               ·skip
                refine step_yields rfl (yields_load1 rfl 87 _ rfl rfl hbmC eH5 Tryz.underlying87 rfl) h ?_
                refine hK.out _ _ hHeld (fun hHeld => ?_)
                clear hK K
                simp only [Act.put, List.setIfInBounds_toArray, List.set_cons_zero, List.set_cons_succ]
                refine wpAnyH_take (i := 18) (v := ?_) rfl (by kernel_rfl) (by kernel_rfl) (by kernel_rfl) (fun _ _ _ h => h) (Or.inl ⟨by rfl, ?_⟩) hHeld ?_
                rotate_left
                ·(intro wz _; go_simp; try with_reducible rfl)
                try simp only [List.getElem_toArray, List.getElem_cons_succ, List.getElem_cons_zero, Act.put, List.setIfInBounds_toArray, List.set_cons_zero, List.set_cons_succ]
                refine wpAnyH_ready (rs := [10]) (by kernel_rfl) (by simp) ?_
                refine AllReadyH.cons rfl (fun K hK => ?_) AllReadyH.nil
                refine step_append_rd (M0 := M5) h hlen rfl _ _ 87 rfl Tryz.underlying87 info_M rfl (by omega) rfl hown1 rfl (hr1.le hlen) one1 (by omega) (by omega) ?_
                clear h hHeld hown1 hb2 hn2 hbmC hlen
                intro v4 w hacc4
                obtain ⟨M4, h, hle4, hown4⟩ := hacc4
                rw [Nat.zero_add, List.nil_append] at hown4
                refine hK.out _ _ (h.le (Mm.le_trans hKS hle4)) (fun hHeld => ?_)
                clear hK K
                simp only [Act.put, List.setIfInBounds_toArray, List.set_cons_zero, List.set_cons_succ]
                have hbmC := hle4 _ _ hbm5
                refine wpAnyH_ready (rs := [19]) (by kernel_rfl) (by simp) ?_
                refine AllReadyH.cons rfl (fun K hK => ?_) AllReadyH.nil
                refine step_append_rd (M0 := M5) h hle4 rfl _ _ 87 rfl Tryz.underlying87 info_M rfl (by omega) rfl hown4 rfl (hr2.le hle4) one2 (by omega) (by omega) ?_
                clear h hHeld hown4 hbmC hle4
                intro v6 w hacc6
                obtain ⟨M6, h, hle6, hown6⟩ := hacc6
                rw [show wn + (nh - (wn + 1)) = nh - 1 by omega] at hown6
                obtain ⟨A6, c6, rfl⟩ := hown6.form
                refine hK.out _ _ (h.le (Mm.le_trans hKS hle6)) (fun hHeld => ?_)
                clear hK K
                simp only [Act.put, List.setIfInBounds_toArray, List.set_cons_zero, List.set_cons_succ]
                have hbmC := hle6 _ _ hbm5
                refine wpAnyH_take (i := 20) (v := ?_) rfl (by kernel_rfl) (by kernel_rfl) (by kernel_rfl) (fun _ _ _ h => h) (Or.inl ⟨by rfl, ?_⟩) hHeld ?_
                rotate_left
                ·(intro wz _; go_simp; try with_reducible rfl)
                try simp only [List.getElem_toArray, List.getElem_cons_succ, List.getElem_cons_zero, Act.put, List.setIfInBounds_toArray, List.set_cons_zero, List.set_cons_succ]
                refine wpAnyH_ready (rs := [21]) (by kernel_rfl) (by simp) ?_
                refine AllReadyH.cons rfl (fun K hK => ?_) AllReadyH.nil
                refine step_store1 h rfl 87 _ _ rfl rfl rfl hbmC hszH rfl rfl (by kernel_rfl) ?_
                clear h hHeld
                intro w h
                refine hK.out _ _ (h.le (Mm.le_upd (Mm.le_trans hKS hle6) hKbh _)) (fun hHeld => ?_)
                clear hK K
                refine wpAnyH_done (by kernel_rfl) ?_ _
                have hEnd := h
                go_wp2
                all_goals (go_meet; (case rel => exact ⟨M6, _, hle6, hown6, hEnd⟩))
              ·skip
               refine step_yields rfl (yields_load1 rfl 87 _ rfl rfl hbmC eH5 Tryz.underlying87 rfl) h ?_
               refine hK.out _ _ hHeld (fun hHeld => ?_)
               clear hK K
               simp only [Act.put, List.setIfInBounds_toArray, List.set_cons_zero, List.set_cons_succ]
               refine wpAnyH_take (i := 18) (v := ?_) rfl (by kernel_rfl) (by kernel_rfl) (by kernel_rfl) (fun _ _ _ h => h) (Or.inl ⟨by rfl, ?_⟩) hHeld ?_
               rotate_left
               ·(intro wz _; go_simp; try with_reducible rfl)
               try simp only [List.getElem_toArray, List.getElem_cons_succ, List.getElem_cons_zero, Act.put, List.setIfInBounds_toArray, List.set_cons_zero, List.set_cons_succ]
               refine wpAnyH_ready (rs := [6]) (by kernel_rfl) (by simp) ?_
               refine AllReadyH.cons rfl (fun K hK => ?_) AllReadyH.nil
               refine step_yields rfl (yields_load1 rfl 87 _ rfl rfl hbmC eH5 Tryz.underlying87 rfl) h ?_
               refine hK.out _ _ hHeld (fun hHeld => ?_)
               clear hK K
               simp only [Act.put, List.setIfInBounds_toArray, List.set_cons_zero, List.set_cons_succ]
               refine wpAnyH_take (i := 9) (v := ?_) rfl (by kernel_rfl) (by kernel_rfl) (by kernel_rfl) (fun _ _ _ h => h) (Or.inl ⟨by rfl, ?_⟩) hHeld ?_
               rotate_left
               ·(intro wz _; go_simp; try with_reducible rfl)
               try simp only [List.getElem_toArray, List.getElem_cons_succ, List.getElem_cons_zero, Act.put, List.setIfInBounds_toArray, List.set_cons_zero, List.set_cons_succ]
               refine wpAnyH_ready (rs := [10]) (by kernel_rfl) (by simp) ?_
               refine AllReadyH.cons rfl (fun K hK => ?_) AllReadyH.nil
               refine step_append_rd (M0 := M5) h hlen rfl _ _ 87 rfl Tryz.underlying87 info_M rfl (by omega) rfl hown1 rfl (hr1.le hlen) one1 (by omega) (by omega) ?_
               clear h hHeld hown1 hb2 hn2 hbmC hlen
               intro v4 w hacc4
               obtain ⟨M4, h, hle4, hown4⟩ := hacc4
               rw [Nat.zero_add, List.nil_append] at hown4
               refine hK.out _ _ (h.le (Mm.le_trans hKS hle4)) (fun hHeld => ?_)
               clear hK K
               simp only [Act.put, List.setIfInBounds_toArray, List.set_cons_zero, List.set_cons_succ]
               have hbmC := hle4 _ _ hbm5
               refine wpAnyH_ready (rs := [19]) (by kernel_rfl) (by simp) ?_
               refine AllReadyH.cons rfl (fun K hK => ?_) AllReadyH.nil
               refine step_append_rd (M0 := M5) h hle4 rfl _ _ 87 rfl Tryz.underlying87 info_M rfl (by omega) rfl hown4 rfl (hr2.le hle4) one2 (by omega) (by omega) ?_
               clear h hHeld hown4 hbmC hle4
               intro v6 w hacc6
               obtain ⟨M6, h, hle6, hown6⟩ := hacc6
               rw [show wn + (nh - (wn + 1)) = nh - 1 by omega] at hown6
               obtain ⟨A6, c6, rfl⟩ := hown6.form
               refine hK.out _ _ (h.le (Mm.le_trans hKS hle6)) (fun hHeld => ?_)
               clear hK K
               simp only [Act.put, List.setIfInBounds_toArray, List.set_cons_zero, List.set_cons_succ]
               have hbmC := hle6 _ _ hbm5
               refine wpAnyH_take (i := 20) (v := ?_) rfl (by kernel_rfl) (by kernel_rfl) (by kernel_rfl) (fun _ _ _ h => h) (Or.inl ⟨by rfl, ?_⟩) hHeld ?_
               rotate_left
               ·(intro wz _; go_simp; try with_reducible rfl)
               try simp only [List.getElem_toArray, List.getElem_cons_succ, List.getElem_cons_zero, Act.put, List.setIfInBounds_toArray, List.set_cons_zero, List.set_cons_succ]
               refine wpAnyH_ready (rs := [21]) (by kernel_rfl) (by simp) ?_
               refine AllReadyH.cons rfl (fun K hK => ?_) AllReadyH.nil
               refine step_store1 h rfl 87 _ _ rfl rfl rfl hbmC hszH rfl rfl (by kernel_rfl) ?_
               clear h hHeld
               intro w h
               refine hK.out _ _ (h.le (Mm.le_upd (Mm.le_trans hKS hle6) hKbh _)) (fun hHeld => ?_)
               clear hK K
               refine wpAnyH_done (by kernel_rfl) ?_ _
               have hEnd := h
               go_wp2
               all_goals (go_meet; (case rel => exact ⟨M6, _, hle6, hown6, hEnd⟩))
             ·skip
              refine step_yields rfl (yields_load1 rfl 87 _ rfl rfl hbmC eH5 Tryz.underlying87 rfl) h ?_
              refine hK.out _ _ hHeld (fun hHeld => ?_)
              clear hK K
              simp only [Act.put, List.setIfInBounds_toArray, List.set_cons_zero, List.set_cons_succ]
              refine wpAnyH_take (i := 9) (v := ?_) rfl (by kernel_rfl) (by kernel_rfl) (by kernel_rfl) (fun _ _ _ h => h) (Or.inl ⟨by rfl, ?_⟩) hHeld ?_
              rotate_left
              ·(intro wz _; go_simp; try with_reducible rfl)
              try simp only [List.getElem_toArray, List.getElem_cons_succ, List.getElem_cons_zero, Act.put, List.setIfInBounds_toArray, List.set_cons_zero, List.set_cons_succ]
              refine wpAnyH_ready (rs := [2, 14]) (by kernel_rfl) (by simp) ?_
              refine AllReadyH.cons rfl (fun K hK => ?_) (AllReadyH.cons rfl (fun K hK => ?_) AllReadyH.nil)
              ·skip
               go_simp
               refine hK.out _ _ ((h.quietAlloc _).le hKS) (fun hHeld => ?_)
               clear hK K
               try simp only [Act.put, List.setIfInBounds_toArray, List.set_cons_zero, List.set_cons_succ]
               clear hHeld
               obtain ⟨Mq, hbx, hlen, hb2, hn2⟩ := h.box (.cells #[] 91)
               generalize w.alloc _ = wx at hbx ⊢
               generalize w.heap.size = b2 at hb2 hn2 ⊢
               clear h
               try clear w
               have h := hbx
               clear hbx
               obtain ⟨w, rfl⟩ : ∃ x : World, x = wx := ⟨_, rfl⟩
               have hHeld := h.le (Mm.le_trans hKS hlen)
               replace hbmC := hlen _ _ hbm5
               have hown1 : Own M5 Mq 91 6 (.slice (some ⟨b2, 0, none⟩) 0 0) 0 [] := ⟨rfl, .inr ⟨b2, 0, #[], rfl, hn2, hb2, Nat.le_refl _, by unfold maxLen; omega, rfl, rfl⟩⟩
               refine wpAnyH_ready (rs := [10, 14]) (by kernel_rfl) (by simp) ?_
               refine AllReadyH.cons rfl (fun K hK => ?_) (AllReadyH.cons rfl (fun K hK => ?_) AllReadyH.nil)
               ·skip
                refine step_append_rd (M0 := M5) h hlen rfl _ _ 87 rfl Tryz.underlying87 info_M rfl (by omega) rfl hown1 rfl (hr1.le hlen) one1 (by omega) (by omega) ?_
                clear h hHeld hown1 hb2 hn2 hbmC hlen
                intro v4 w hacc4
                obtain ⟨M4, h, hle4, hown4⟩ := hacc4
                rw [Nat.zero_add, List.nil_append] at hown4
                refine hK.out _ _ (h.le (Mm.le_trans hKS hle4)) (fun hHeld => ?_)
                clear hK K
                simp only [Act.put, List.setIfInBounds_toArray, List.set_cons_zero, List.set_cons_succ]
                have hbmC := hle4 _ _ hbm5
                refine wpAnyH_ready (rs := [14]) (by kernel_rfl) (by simp) ?_
                refine AllReadyH.cons rfl (fun K hK => ?_) AllReadyH.nil
                refine step_yields rfl (yields_load1 rfl 87 _ rfl rfl hbmC eH5 Tryz.underlying87 rfl) h ?_
                refine hK.out _ _ hHeld (fun hHeld => ?_)
                clear hK K
                simp only [Act.put, List.setIfInBounds_toArray, List.set_cons_zero, List.set_cons_succ]
                refine wpAnyH_take (i := 18) (v := ?_) rfl (by kernel_rfl) (by kernel_rfl) (by kernel_rfl) (fun _ _ _ h => h) (Or.inl ⟨by rfl, ?_⟩) hHeld ?_
                rotate_left
                ·(intro wz _; go_simp; try with_reducible rfl)
                try simp only [List.getElem_toArray, List.getElem_cons_succ, List.getElem_cons_zero, Act.put, List.setIfInBounds_toArray, List.set_cons_zero, List.set_cons_succ]
                refine wpAnyH_ready (rs := [19]) (by kernel_rfl) (by simp) ?_
                refine AllReadyH.cons rfl (fun K hK => ?_) AllReadyH.nil
                refine step_append_rd (M0 := M5) h hle4 rfl _ _ 87 rfl Tryz.underlying87 info_M rfl (by omega) rfl hown4 rfl (hr2.le hle4) one2 (by omega) (by omega) ?_
                clear h hHeld hown4 hbmC hle4
                intro v6 w hacc6
                obtain ⟨M6, h, hle6, hown6⟩ := hacc6
                rw [show wn + (nh - (wn + 1)) = nh - 1 by omega] at hown6
                obtain ⟨A6, c6, rfl⟩ := hown6.form
                refine hK.out _ _ (h.le (Mm.le_trans hKS hle6)) (fun hHeld => ?_)
                clear hK K
                simp only [Act.put, List.setIfInBounds_toArray, List.set_cons_zero, List.set_cons_succ]
                have hbmC := hle6 _ _ hbm5
                refine wpAnyH_take (i := 20) (v := ?_) rfl (by kernel_rfl) (by kernel_rfl) (by kernel_rfl) (fun _ _ _ h => h) (Or.inl ⟨by rfl, ?_⟩) hHeld ?_
                rotate_left
                ·(intro wz _; go_simp; try with_reducible rfl)
                try simp only [List.getElem_toArray, List.getElem_cons_succ, List.getElem_cons_zero, Act.put, List.setIfInBounds_toArray, List.set_cons_zero, List.set_cons_succ]
                refine wpAnyH_ready (rs := [21]) (by kernel_rfl) (by simp) ?_
                refine AllReadyH.cons rfl (fun K hK => ?_) AllReadyH.nil
                refine step_store1 h rfl 87 _ _ rfl rfl rfl hbmC hszH rfl rfl (by kernel_rfl) ?_
                clear h hHeld
                intro w h
                refine hK.out _ _ (h.le (Mm.le_upd (Mm.le_trans hKS hle6) hKbh _)) (fun hHeld => ?_)
                clear hK K
                refine wpAnyH_done (by kernel_rfl) ?_ _
                have hEnd := h
                go_wp2
                all_goals (go_meet; (case rel => exact ⟨M6, _, hle6, hown6, hEnd⟩))
               ·skip
                refine step_yields rfl (yields_load1 rfl 87 _ rfl rfl hbmC eH5 Tryz.underlying87 rfl) h ?_
                refine hK.out _ _ hHeld (fun hHeld => ?_)
                clear hK K
                simp only [Act.put, List.setIfInBounds_toArray, List.set_cons_zero, List.set_cons_succ]
                refine wpAnyH_take (i := 18) (v := ?_) rfl (by kernel_rfl) (by kernel_rfl) (by kernel_rfl) (fun _ _ _ h => h) (Or.inl ⟨by rfl, ?_⟩) hHeld ?_
                rotate_left
                ·(intro wz _; go_simp; try with_reducible rfl)
                try simp only [List.getElem_toArray, List.getElem_cons_succ, List.getElem_cons_zero, Act.put, List.setIfInBounds_toArray, List.set_cons_zero, List.set_cons_succ]
                refine wpAnyH_ready (rs := [10]) (by kernel_rfl) (by simp) ?_
                refine AllReadyH.cons rfl (fun K hK => ?_) AllReadyH.nil
                refine step_append_rd (M0 := M5) h hlen rfl _ _ 87 rfl Tryz.underlying87 info_M rfl (by omega) rfl hown1 rfl (hr1.le hlen) one1 (by omega) (by omega) ?_
                clear h hHeld hown1 hb2 hn2 hbmC hlen
                intro v4 w hacc4
                obtain ⟨M4, h, hle4, hown4⟩ := hacc4
                rw [Nat.zero_add, List.nil_append] at hown4
                refine hK.out _ _ (h.le (Mm.le_trans hKS hle4)) (fun hHeld => ?_)
                clear hK K
                simp only [Act.put, List.setIfInBounds_toArray, List.set_cons_zero, List.set_cons_succ]
                have hbmC := hle4 _ _ hbm5
                refine wpAnyH_ready (rs := [19]) (by kernel_rfl) (by simp) ?_
                refine AllReadyH.cons rfl (fun K hK => ?_) AllReadyH.nil
                refine step_append_rd (M0 := M5) h hle4 rfl _ _ 87 rfl Tryz.underlying87 info_M rfl (by omega) rfl hown4 rfl (hr2.le hle4) one2 (by omega) (by omega) ?_
                clear h hHeld hown4 hbmC hle4
                intro v6 w hacc6
                obtain ⟨M6, h, hle6, hown6⟩ := hacc6
                rw [show wn + (nh - (wn + 1)) = nh - 1 by omega] at hown6
                obtain ⟨A6, c6, rfl⟩ := hown6.form
                refine hK.out _ _ (h.le (Mm.le_trans hKS hle6)) (fun hHeld => ?_)
                clear hK K
                simp only [Act.put, List.setIfInBounds_toArray, List.set_cons_zero, List.set_cons_succ]
                have hbmC := hle6 _ _ hbm5
                refine wpAnyH_take (i := 20) (v := ?_) rfl (by kernel_rfl) (by kernel_rfl) (by kernel_rfl) (fun _ _ _ h => h) (Or.inl ⟨by rfl, ?_⟩) hHeld ?_
                rotate_left
                ·(intro wz _; go_simp; try with_reducible rfl)
                try simp only [List.getElem_toArray, List.getElem_cons_succ, List.getElem_cons_zero, Act.put, List.setIfInBounds_toArray, List.set_cons_zero, List.set_cons_succ]
                refine wpAnyH_ready (rs := [21]) (by kernel_rfl) (by simp) ?_
                refine AllReadyH.cons rfl (fun K hK => ?_) AllReadyH.nil
                refine step_store1 h rfl 87 _ _ rfl rfl rfl hbmC hszH rfl rfl (by kernel_rfl) ?_
                clear h hHeld
                intro w h
                refine hK.out _ _ (h.le (Mm.le_upd (Mm.le_trans hKS hle6) hKbh _)) (fun hHeld => ?_)
                clear hK K
                refine wpAnyH_done (by kernel_rfl) ?_ _
                have hEnd := h
                go_wp2
                all_goals (go_meet; (case rel => exact ⟨M6, _, hle6, hown6, hEnd⟩))
              ·skip
               refine step_yields rfl (yields_load1 rfl 87 _ rfl rfl hbmC eH5 Tryz.underlying87 rfl) h ?_
               refine hK.out _ _ hHeld (fun hHeld => ?_)
               clear hK K
               simp only [Act.put, List.setIfInBounds_toArray, List.set_cons_zero, List.set_cons_succ]
               refine wpAnyH_take (i := 18) (v := ?_) rfl (by kernel_rfl) (by kernel_rfl) (by kernel_rfl) (fun _ _ _ h => h) (Or.inl ⟨by rfl, ?_⟩) hHeld ?_
               rotate_left
               ·(intro wz _; go_simp; try with_reducible rfl)
               try simp only [List.getElem_toArray, List.getElem_cons_succ, List.getElem_cons_zero, Act.put, List.setIfInBounds_toArray, List.set_cons_zero, List.set_cons_succ]
               refine wpAnyH_ready (rs := [2]) (by kernel_rfl) (by simp) ?_
               refine AllReadyH.cons rfl (fun K hK => ?_) AllReadyH.nil
               go_simp
               refine hK.out _ _ ((h.quietAlloc _).le hKS) (fun hHeld => ?_)
               clear hK K
               try simp only [Act.put, List.setIfInBounds_toArray, List.set_cons_zero, List.set_cons_succ]
               clear hHeld
               obtain ⟨Mq, hbx, hlen, hb2, hn2⟩ := h.box (.cells #[] 91)
               generalize w.alloc _ = wx at hbx ⊢
               generalize w.heap.size = b2 at hb2 hn2 ⊢
               clear h
               try clear w
               have h := hbx
               clear hbx
               obtain ⟨w, rfl⟩ : ∃ x : World, x = wx := ⟨_, rfl⟩
               have hHeld := h.le (Mm.le_trans hKS hlen)
               replace hbmC := hlen _ _ hbm5
               have hown1 : Own M5 Mq 91 6 (.slice (some ⟨b2, 0, none⟩) 0 0) 0 [] := ⟨rfl, .inr ⟨b2, 0, #[], rfl, hn2, hb2, Nat.le_refl _, by unfold maxLen; omega, rfl, rfl⟩⟩
               refine wpAnyH_ready (rs := [10]) (by kernel_rfl) (by simp) ?_
               refine AllReadyH.cons rfl (fun K hK => ?_) AllReadyH.nil
               refine step_append_rd (M0 := M5) h hlen rfl _ _ 87 rfl Tryz.underlying87 info_M rfl (by omega) rfl hown1 rfl (hr1.le hlen) one1 (by omega) (by omega) ?_
               clear h hHeld hown1 hb2 hn2 hbmC hlen
               intro v4 w hacc4
               obtain ⟨M4, h, hle4, hown4⟩ := hacc4
               rw [Nat.zero_add, List.nil_append] at hown4
               refine hK.out _ _ (h.le (Mm.le_trans hKS hle4)) (fun hHeld => ?_)
               clear hK K
               simp only [Act.put, List.setIfInBounds_toArray, List.set_cons_zero, List.set_cons_succ]
               have hbmC := hle4 _ _ hbm5
               refine wpAnyH_ready (rs := [19]) (by kernel_rfl) (by simp) ?_
               refine AllReadyH.cons rfl (fun K hK => ?_) AllReadyH.nil
               refine step_append_rd (M0 := M5) h hle4 rfl _ _ 87 rfl Tryz.underlying87 info_M rfl (by omega) rfl hown4 rfl (hr2.le hle4) one2 (by omega) (by omega) ?_
               clear h hHeld hown4 hbmC hle4
               intro v6 w hacc6
               obtain ⟨M6, h, hle6, hown6⟩ := hacc6
               rw [show wn + (nh - (wn + 1)) = nh - 1 by omega] at hown6
               obtain ⟨A6, c6, rfl⟩ := hown6.form
               refine hK.out _ _ (h.le (Mm.le_trans hKS hle6)) (fun hHeld => ?_)
               clear hK K
               simp only [Act.put, List.setIfInBounds_toArray, List.set_cons_zero, List.set_cons_succ]
               have hbmC := hle6 _ _ hbm5
               refine wpAnyH_take (i := 20) (v := ?_) rfl (by kernel_rfl) (by kernel_rfl) (by kernel_rfl) (fun _ _ _ h => h) (Or.inl ⟨by rfl, ?_⟩) hHeld ?_
               rotate_left
               ·(intro wz _; go_simp; try with_reducible rfl)
               try simp only [List.getElem_toArray, List.getElem_cons_succ, List.getElem_cons_zero, Act.put, List.setIfInBounds_toArray, List.set_cons_zero, List.set_cons_succ]
               refine wpAnyH_ready (rs := [21]) (by kernel_rfl) (by simp) ?_
               refine AllReadyH.cons rfl (fun K hK => ?_) AllReadyH.nil
               refine step_store1 h rfl 87 _ _ rfl rfl rfl hbmC hszH rfl rfl (by kernel_rfl) ?_
               clear h hHeld
               intro w h
               refine hK.out _ _ (h.le (Mm.le_upd (Mm.le_trans hKS hle6) hKbh _)) (fun hHeld => ?_)
               clear hK K
               refine wpAnyH_done (by kernel_rfl) ?_ _
               have hEnd := h
               go_wp2
               all_goals (go_meet; (case rel => exact ⟨M6, _, hle6, hown6, hEnd⟩))
             ·skip
              refine step_yields rfl (yields_load1 rfl 87 _ rfl rfl hbmC eH5 Tryz.underlying87 rfl) h ?_
              refine hK.out _ _ hHeld (fun hHeld => ?_)
              clear hK K
              simp only [Act.put, List.setIfInBounds_toArray, List.set_cons_zero, List.set_cons_succ]
              refine wpAnyH_take (i := 18) (v := ?_) rfl (by kernel_rfl) (by kernel_rfl) (by kernel_rfl) (fun _ _ _ h => h) (Or.inl ⟨by rfl, ?_⟩) hHeld ?_
              rotate_left
              ·(intro wz _; go_simp; try with_reducible rfl)
              try simp only [List.getElem_toArray, List.getElem_cons_succ, List.getElem_cons_zero, Act.put, List.setIfInBounds_toArray, List.set_cons_zero, List.set_cons_succ]
              refine wpAnyH_ready (rs := [2, 6]) (by kernel_rfl) (by simp) ?_
              refine AllReadyH.cons rfl (fun K hK => ?_) (AllReadyH.cons rfl (fun K hK => ?_) AllReadyH.nil)
              ·skip
               go_simp
               refine hK.out _ _ ((h.quietAlloc _).le hKS) (fun hHeld => ?_)
               clear hK K
               try simp only [Act.put, List.setIfInBounds_toArray, List.set_cons_zero, List.set_cons_succ]
               clear hHeld
               obtain ⟨Mq, hbx, hlen, hb2, hn2⟩ := h.box (.cells #[] 91)
               generalize w.alloc _ = wx at hbx ⊢
               generalize w.heap.size = b2 at hb2 hn2 ⊢
               clear h
               try clear w
               have h := hbx
               clear hbx
               obtain ⟨w, rfl⟩ : ∃ x : World, x = wx := ⟨_, rfl⟩
               have hHeld := h.le (Mm.le_trans hKS hlen)
               replace hbmC := hlen _ _ hbm5
               have hown1 : Own M5 Mq 91 6 (.slice (some ⟨b2, 0, none⟩) 0 0) 0 [] := ⟨rfl, .inr ⟨b2, 0, #[], rfl, hn2, hb2, Nat.le_refl _, by unfold maxLen; omega, rfl, rfl⟩⟩
               refine wpAnyH_ready (rs := [6]) (by kernel_rfl) (by simp) ?_
               refine AllReadyH.cons rfl (fun K hK => ?_) AllReadyH.nil
               refine step_yields rfl (yields_load1 rfl 87 _ rfl rfl hbmC eH5 Tryz.underlying87 rfl) h ?_
               refine hK.out _ _ hHeld (fun hHeld => ?_)
               clear hK K
               simp only [Act.put, List.setIfInBounds_toArray, List.set_cons_zero, List.set_cons_succ]
               refine wpAnyH_take (i := 9) (v := ?_) rfl (by kernel_rfl) (by kernel_rfl) (by kernel_rfl) (fun _ _ _ h => h) (Or.inl ⟨by rfl, ?_⟩) hHeld ?_
               rotate_left
               ·(intro wz _; go_simp; try with_reducible rfl)
               try simp only [List.getElem_toArray, List.getElem_cons_succ, List.getElem_cons_zero, Act.put, List.setIfInBounds_toArray, List.set_cons_zero, List.set_cons_succ]
               refine wpAnyH_ready (rs := [10]) (by kernel_rfl) (by simp) ?_
               refine AllReadyH.cons rfl (fun K hK => ?_) AllReadyH.nil
               refine step_append_rd (M0 := M5) h hlen rfl _ _ 87 rfl Tryz.underlying87 info_M rfl (by omega) rfl hown1 rfl (hr1.le hlen) one1 (by omega) (by omega) ?_
               clear h hHeld hown1 hb2 hn2 hbmC hlen
               intro v4 w hacc4
               obtain ⟨M4, h, hle4, hown4⟩ := hacc4
               rw [Nat.zero_add, List.nil_append] at hown4
               refine hK.out _ _ (h.le (Mm.le_trans hKS hle4)) (fun hHeld => ?_)
               clear hK K
               simp only [Act.put, List.setIfInBounds_toArray, List.set_cons_zero, List.set_cons_succ]
               have hbmC := hle4 _ _ hbm5
               refine wpAnyH_ready (rs := [19]) (by kernel_rfl) (by simp) ?_
               refine AllReadyH.cons rfl (fun K hK => ?_) AllReadyH.nil
               refine step_append_rd (M0 := M5) h hle4 rfl _ _ 87 rfl Tryz.underlying87 info_M rfl (by omega) rfl hown4 rfl (hr2.le hle4) one2 (by omega) (by omega) ?_
               clear h hHeld hown4 hbmC hle4
               intro v6 w hacc6
               obtain ⟨M6, h, hle6, hown6⟩ := hacc6
               rw [show wn + (nh - (wn + 1)) = nh - 1 by omega] at hown6
               obtain ⟨A6, c6, rfl⟩ := hown6.form
               refine hK.out _ _ (h.le (Mm.le_trans hKS hle6)) (fun hHeld => ?_)
               clear hK K
               simp only [Act.put, List.setIfInBounds_toArray, List.set_cons_zero, List.set_cons_succ]
               have hbmC := hle6 _ _ hbm5
               refine wpAnyH_take (i := 20) (v := ?_) rfl (by kernel_rfl) (by kernel_rfl) (by kernel_rfl) (fun _ _ _ h => h) (Or.inl ⟨by rfl, ?_⟩) hHeld ?_
               rotate_left
               ·(intro wz _; go_simp; try with_reducible rfl)
               try simp only [List.getElem_toArray, List.getElem_cons_succ, List.getElem_cons_zero, Act.put, List.setIfInBounds_toArray, List.set_cons_zero, List.set_cons_succ]
               refine wpAnyH_ready (rs := [21]) (by kernel_rfl) (by simp) ?_
               refine AllReadyH.cons rfl (fun K hK => ?_) AllReadyH.nil
               refine step_store1 h rfl 87 _ _ rfl rfl rfl hbmC hszH rfl rfl (by kernel_rfl) ?_
               clear h hHeld
               intro w h
               refine hK.out _ _ (h.le (Mm.le_upd (Mm.le_trans hKS hle6) hKbh _)) (fun hHeld => ?_)
               clear hK K
               refine wpAnyH_done (by kernel_rfl) ?_ _
               have hEnd := h
               go_wp2
               all_goals (go_meet; (case rel => exact ⟨M6, _, hle6, hown6, hEnd⟩))
              ·skip
               refine step_yields rfl (yields_load1 rfl 87 _ rfl rfl hbmC eH5 Tryz.underlying87 rfl) h ?_
               refine hK.out _ _ hHeld (fun hHeld => ?_)
               clear hK K
               simp only [Act.put, List.setIfInBounds_toArray, List.set_cons_zero, List.set_cons_succ]
               refine wpAnyH_take (i := 9) (v := ?_) rfl (by kernel_rfl) (by kernel_rfl) (by kernel_rfl) (fun _ _ _ h => h) (Or.inl ⟨by rfl, ?_⟩) hHeld ?_
               rotate_left
               ·(intro wz _; go_simp; try with_reducible rfl)
               try simp only [List.getElem_toArray, List.getElem_cons_succ, List.getElem_cons_zero, Act.put, List.setIfInBounds_toArray, List.set_cons_zero, List.set_cons_succ]
               refine wpAnyH_ready (rs := [2]) (by kernel_rfl) (by simp) ?_
               refine AllReadyH.cons rfl (fun K hK => ?_) AllReadyH.nil
               go_simp
               refine hK.out _ _ ((h.quietAlloc _).le hKS) (fun hHeld => ?_)
               clear hK K
               try simp only [Act.put, List.setIfInBounds_toArray, List.set_cons_zero, List.set_cons_succ]
               clear hHeld
               obtain ⟨Mq, hbx, hlen, hb2, hn2⟩ := h.box (.cells #[] 91)
               generalize w.alloc _ = wx at hbx ⊢
               generalize w.heap.size = b2 at hb2 hn2 ⊢
               clear h
               try clear w
               have h := hbx
               clear hbx
               obtain ⟨w, rfl⟩ : ∃ x : World, x = wx := ⟨_, rfl⟩
               have hHeld := h.le (Mm.le_trans hKS hlen)
               replace hbmC := hlen _ _ hbm5
               have hown1 : Own M5 Mq 91 6 (.slice (some ⟨b2, 0, none⟩) 0 0) 0 [] := ⟨rfl, .inr ⟨b2, 0, #[], rfl, hn2, hb2, Nat.le_refl _, by unfold maxLen; omega, rfl, rfl⟩⟩
               refine wpAnyH_ready (rs := [10]) (by kernel_rfl) (by simp) ?_
               refine AllReadyH.cons rfl (fun K hK => ?_) AllReadyH.nil
               refine step_append_rd (M0 := M5) h hlen rfl _ _ 87 rfl Tryz.underlying87 info_M rfl (by omega) rfl hown1 rfl (hr1.le hlen) one1 (by omega) (by omega) ?_
               clear h hHeld hown1 hb2 hn2 hbmC hlen
               intro v4 w hacc4
               obtain ⟨M4, h, hle4, hown4⟩ := hacc4
               rw [Nat.zero_add, List.nil_append] at hown4
               refine hK.out _ _ (h.le (Mm.le_trans hKS hle4)) (fun hHeld => ?_)
               clear hK K
               simp only [Act.put, List.setIfInBounds_toArray, List.set_cons_zero, List.set_cons_succ]
               have hbmC := hle4 _ _ hbm5
               refine wpAnyH_ready (rs := [19]) (by kernel_rfl) (by simp) ?_
               refine AllReadyH.cons rfl (fun K hK => ?_) AllReadyH.nil
               refine step_append_rd (M0 := M5) h hle4 rfl _ _ 87 rfl Tryz.underlying87 info_M rfl (by omega) rfl hown4 rfl (hr2.le hle4) one2 (by omega) (by omega) ?_
               clear h hHeld hown4 hbmC hle4
               intro v6 w hacc6
               obtain ⟨M6, h, hle6, hown6⟩ := hacc6
               rw [show wn + (nh - (wn + 1)) = nh - 1 by omega] at hown6
               obtain ⟨A6, c6, rfl⟩ := hown6.form
               refine hK.out _ _ (h.le (Mm.le_trans hKS hle6)) (fun hHeld => ?_)
               clear hK K
               simp only [Act.put, List.setIfInBounds_toArray, List.set_cons_zero, List.set_cons_succ]
               have hbmC := hle6 _ _ hbm5
               refine wpAnyH_take (i := 20) (v := ?_) rfl (by kernel_rfl) (by kernel_rfl) (by kernel_rfl) (fun _ _ _ h => h) (Or.inl ⟨by rfl, ?_⟩) hHeld ?_
               rotate_left
               ·(intro wz _; go_simp; try with_reducible rfl)
               try simp only [List.getElem_toArray, List.getElem_cons_succ, List.getElem_cons_zero, Act.put, List.setIfInBounds_toArray, List.set_cons_zero, List.set_cons_succ]
               refine wpAnyH_ready (rs := [21]) (by kernel_rfl) (by simp) ?_
               refine AllReadyH.cons rfl (fun K hK => ?_) AllReadyH.nil
               refine step_store1 h rfl 87 _ _ rfl rfl rfl hbmC hszH rfl rfl (by kernel_rfl) ?_
               clear h hHeld
               intro w h
               refine hK.out _ _ (h.le (Mm.le_upd (Mm.le_trans hKS hle6) hKbh _)) (fun hHeld => ?_)
               clear hK K
               refine wpAnyH_done (by kernel_rfl) ?_ _
               have hEnd := h
               go_wp2
               all_goals (go_meet; (case rel => exact ⟨M6, _, hle6, hown6, hEnd⟩))
           case rest =>
            as_aux_lemma =>
             obtain ⟨M6, v6, hle6, hown6, hC⟩ := hcut
             clear h hr1 hr2 one1 one2 hKS hKbh hKd wq1 s1 s2 s4 hbm5 eH5
             obtain ⟨A6, c6, rfl⟩ := hown6.form
             obtain ⟨lab6, K6, labK6, hM6, hB6, hK6, hR6⟩ := HL5.out.mach.rowTo HL5.out.base (j := 10 + tn) (Mm.le_trans (outK_le _ _ _ _) hle6) (hown6.base fun b hb => Mm.none_of (outK_le _ _ _ _) hb)
             have hH6 := ((HL5.out.law.hrow).keep hK6 (by omega)).up hB6.le
             obtain ⟨curZ, hgZ, hltZ, hownZ, hngZ⟩ := hH6.put tn (.slice A6 (nh - 1) c6)
             have eZ := (hle6 _ _ (HB5.out.le _ _ HCUR.out)).symm.trans hgZ
             cases eZ
             obtain ⟨lab7, K7, labK7, hM7, hB7, hK7, hR7⟩ := hM6.rowTo hB6 (j := 2) (Mm.le_upd (outK_le _ _ _ _) hngZ _) hownZ
             have hA7 := HL5.out.law.setH HTN.out hK6 (h2 := (md tn).eraseIdx wn) (by rw [HXS.out, List.length_eraseIdx, HNH.out, if_pos hwn]; exact hR6) hK7 hR7
             have hL7 : McL M1 T bh bn b11 p (M6.upd bh (.cells (curH5.setIfInBounds tn (.slice A6 (nh - 1) c6)) 87)) lab7 K7 labK7 s5 _ _ _ en := ⟨hM7, hB7, Mm.le_trans HL5.out.m1 (Mm.le_trans (stable_kp hK6 (by omega)) (stable_kp hK7 (by omega))), hA7, (HL5.out.drow.keep hK6 (by omega)).keep hK7 (by omega)⟩
             have HL7 := Lib.hid hL7
             clear hR6 hH6 hgZ hltZ hownZ hngZ hK7 hR7 hK6 hM6 hB6 hown6 hle6 HXS hA7 hM7 hB7 hL7 HL5 HL4
             obtain ⟨w, rfl⟩ : ∃ q : World, q = wc := ⟨_, rfl⟩
             have h := hC
             clear hC
             have hI7 := HAL.out.2.2.2.give HTN.out (by rw [HLV.out]; exact HLL.out) HGT.out (d := en) (by rw [HEG.out]; omega) HYQ.out
             rw [HYX.out] at hI7
             have hne7 : (g.top tn [] ⟨2, 0, fun i => [x].getD i 0⟩).thr tn ≠ [] := by
              show put1 g.thr tn _ tn ≠ []
              rw [put1_same]; simp
             go_wp2
             go_meet
             case rel => exact ⟨_, lab7, K7, labK7, s5, _, _, _, _, m + 1, h, HL7.out, HA5.out, Nat.le_refl _, hI7, hne7⟩
       ·have hd1 : 0 < dn := by rw [← HDN.out]; exact List.length_pos_iff.2 hgt
        have hd2 : ((dn : Int) == 0) = false := by rw [beq_eq_false_iff_ne]; omega
        have HGT := Lib.hid hgt
        clear hgt hd1
        go_wp2
        go_meet
        case rel => exact ⟨M3, lab3, K3, labK3, s, fh, md, nw, g, m, h, HL3.out, HAL.out.2.2.1, Nat.le_succ _, HAL.out.2.2.2, HGT.out⟩
     case rest =>
      as_aux_lemma =>
       obtain ⟨M4, lab4, K4, labK4, s4, fh4, md4, nw4, g4, m4, h4, hL4, hA4, hm4, hI4, hne4⟩ := hcut
       clear h DP HDN hb11 dd0 dd1 dd2 dd3 dd4 dd5 hxD hzD hoD HL3 HDR HET HEG HES HEK HEA HEB
       obtain ⟨w, rfl⟩ : ∃ q : World, q = wc := ⟨_, rfl⟩
       have h := h4
       have STP := Lib.hid (fun (w : World) (h : Has σ M4 w) => mc_step h hL4.mach hL4.base HC.out HNU.out HG.out HT.out (by have := HAL.out.1; have := HLT.out; omega) (by have := HAL.out.2.1; have := HLT.out; omega) HTN.out HQ.out hA4 hI4 hne4)
       have HL4 := Lib.hid hL4
       have HM4 := Lib.hid hm4
       clear h4 hL4 hA4 hm4 hI4 hne4
       go_upto_region 22 with (first
        | ((go_at_call 33; refine (STP.out _ h).mono ?_; clear h; rintro _ w ⟨M5, lab5, s5, g5, md5, m5, rfl, h, hM5, hB5, hA5, hm5, hI5, _, hO5, _⟩)))
       clear STP
       have hL5 := HL4.out.on hM5 hB5
       obtain ⟨lft, hlft⟩ : ∃ b : Bool, (g5.thr tn).isEmpty = b := ⟨_, rfl⟩
       rw [hlft]
       obtain ⟨ng, hng⟩ : ∃ x, (nw4 tn).gi = x := ⟨_, rfl⟩
       obtain ⟨curN, hbN, hcN, hxN⟩ := hL5.atN HTN.out
       have eN1 : curN[tn * 6 + 1]? = some (.int .i64 ng) := hcN 1 _ (by rw [← hng]; rfl)
       obtain ⟨trow, tty, hqb, d0, d1⟩ := m_told hM5 hA5 HQ.out
       obtain ⟨x0, hx0⟩ : ∃ x, g5.told tn 0 = x := ⟨_, rfl⟩
       obtain ⟨y0, hy0⟩ : ∃ x, g5.told tn 1 = x := ⟨_, rfl⟩
       rw [hx0] at d0
       rw [hy0] at d1
       have htT : (tn : Int) < (T : Int) := by have := HTN.out; omega
       obtain ⟨bC, hbC⟩ : ∃ b : Bool, (lft && (decide (ng < 0) && !decide (x0 = 0))) = b := ⟨_, rfl⟩
       have HBC := Lib.hid hbC
       have HLFT := Lib.hid hlft
       have HNG := Lib.hid hng
       have HX0 := Lib.hid hx0
       have HY0 := Lib.hid hy0
       have HL5 := Lib.hid hL5
       have HA5 := Lib.hid hA5
       have HI5 := Lib.hid (⟨hm5, hI5⟩ : m5 ≤ m4 + 1 ∧ McI B S gens L T (levT c) m5 g5 md5 nw4)
       have HO5 := Lib.hid hO5
       clear hbC hlft hng hx0 hy0 hL5 hA5 hI5 hm5 hO5 hM5 hB5 hcN HL4
       go_cut [155] from 49 to 245 (fun u wx => u = .bool bC ∧ Has σ M5 wx)
       case first =>
        as_aux_lemma =>
         cases lft
         ·obtain rfl : bC = false := by rw [← HBC.out]; rfl
          go_wp2
          go_meet
          case rel => exact ⟨rfl, h⟩
         ·by_cases hng : ng < 0
          ·have hng2 : decide (ng < 0) = true := decide_eq_true hng
           by_cases hx : x0 = 0
           ·subst hx
            obtain rfl : bC = false := by rw [← HBC.out]; simp
            go_wp2_with (first
             | (with_reducible show wpList _ _ _ ({ dst := _, op := Op.load 3 _, type := _, pos := _, after := _, guard := _ } :: _) _ _; refine wpList_load1_has h rfl 3 _ rfl rfl hbN eN1 Tryz.underlying3 rfl ?_)
             | (with_reducible show wpList _ _ _ ({ dst := _, op := Op.load 42 _, type := _, pos := _, after := _, guard := _ } :: _) _ _; refine wpList_load1_has h rfl 42 _ rfl rfl hqb d0 Tryz.underlying42 rfl ?_))
            go_meet
            case rel => exact ⟨rfl, h⟩
           ·obtain rfl : bC = true := by rw [← HBC.out]; simp [hng, hx]
            have hx2 : ((x0 : Int) != 0) = true := by simp; omega
            go_wp2_with (first
             | (with_reducible show wpList _ _ _ ({ dst := _, op := Op.load 3 _, type := _, pos := _, after := _, guard := _ } :: _) _ _; refine wpList_load1_has h rfl 3 _ rfl rfl hbN eN1 Tryz.underlying3 rfl ?_)
             | (with_reducible show wpList _ _ _ ({ dst := _, op := Op.load 42 _, type := _, pos := _, after := _, guard := _ } :: _) _ _; refine wpList_load1_has h rfl 42 _ rfl rfl hqb d0 Tryz.underlying42 rfl ?_))
            go_meet
            case rel => exact ⟨by first | rfl | rw [hx2], h⟩
          ·have hng2 : decide (ng < 0) = false := decide_eq_false hng
           obtain rfl : bC = false := by rw [← HBC.out]; simp [hng]
           go_wp2_with (first
            | (with_reducible show wpList _ _ _ ({ dst := _, op := Op.load 3 _, type := _, pos := _, after := _, guard := _ } :: _) _ _; refine wpList_load1_has h rfl 3 _ rfl rfl hbN eN1 Tryz.underlying3 rfl ?_))
           go_meet
           case rel => exact ⟨by first | rfl | rw [hng2], h⟩
       case rest =>
       obtain ⟨rfl, h6⟩ := hcut
       clear h
       obtain ⟨w, rfl⟩ : ∃ q : World, q = wc := ⟨_, rfl⟩
       have h := h6
       clear h6
       go_upto_if 155 with (fail)
       go_cut [] from 49 to 245 (fun wx => ∃ (M8 : Mm) (lab8 : Nat → Nat) (K8 : Mm) (labK8 : Nat → Nat) (fh8 : Nat → Value) (d8 : DeedS), Has σ M8 wx ∧ McL M1 T bh bn b11 p M8 lab8 K8 labK8 s5 fh8 md5 nw4 d8)
       case first =>
        as_aux_lemma =>
         cases bC
         ·have hmd : md5 = md4 := by
           rcases HO5.out with ⟨e, _⟩ | ⟨e, e2, x, gn, e3, _, _, e4, _⟩
           ·exact e
           ·exfalso
            have h1 := HBC.out
            have h2 : lft = true := by rw [← HLFT.out, e]; rfl
            rw [HX0.out] at e3
            rw [HNG.out] at e2
            rw [h2, e3] at h1
            simp at h1
            have := h1 e2
            omega
          have hL5 : McL M1 T bh bn b11 p M5 lab5 K4 labK4 s5 fh4 md5 nw4 en := by rw [hmd]; exact HL5.out
          go_wp2
          go_meet
          case rel => exact ⟨M5, lab5, K4, labK4, fh4, en, h, hL5⟩
         ·obtain ⟨hl1, hn1, hxz⟩ : lft = true ∧ ng < 0 ∧ x0 ≠ 0 := by
           have h1 := HBC.out
           simp at h1
           exact ⟨h1.1, h1.2.1, h1.2.2⟩
          obtain ⟨hyg, x1, xS, hmd5, hfr⟩ : y0 < 4294967296 ∧ 1 ≤ x0 ∧ x0 ≤ S ∧ md5 = put1 md4 tn (md4 tn ++ [(x0, mkHead y0 ((nw4 tn).st % 4), (nw4 tn).key, (nw4 tn).a, (nw4 tn).b)]) ∧ ∀ y, y < T → levT c y = lv → ∀ u ∈ md4 y, u.1 ≠ x0 := by
           rcases HO5.out with ⟨_, e⟩ | ⟨e, e2, x, gn, e3, e4, e5, e6, e7, e8, e9⟩
           ·exfalso
            have := e (by rw [← List.isEmpty_iff, HLFT.out]; exact hl1) (by rw [HNG.out]; exact hn1)
            rw [HX0.out] at this
            exact hxz this
           ·rw [HX0.out] at e3
            rw [HY0.out] at e4
            subst e3
            subst e4
            exact ⟨e5, e6, e7, e8, fun y hy hl => e9 y hy (by rw [hl, HLV.out])⟩
          have hS60 := HNU.out.s0.2
          have wx : IntKind.i64.wrap (x0 : Int) = (x0 : Int) := IntWalk.i64_in _ (by omega)
          have wy : IntKind.i64.wrap (y0 : Int) = (y0 : Int) := IntWalk.i64_in _ (by omega)
          have HYG := Lib.hid (⟨hyg, x1, xS⟩ : y0 < 4294967296 ∧ 1 ≤ x0 ∧ x0 ≤ S)
          have HMD5 := Lib.hid hmd5
          have HFR := Lib.hid hfr
          have hx60 : x0 ≤ 60 := by omega
          have hbf5 := HL5.out.m1le _ _ hbf
          clear hl1 hn1 hxz hyg x1 xS hmd5 hfr
          go_upto_region 24 with (first
           | (with_reducible show wpList _ _ _ ({ dst := _, op := Op.load 42 _, type := _, pos := _, after := _, guard := _ } :: _) _ _; refine wpList_load1_has h rfl 42 _ rfl rfl hqb d0 Tryz.underlying42 rfl ?_))
          clear d0
          go_upto_region 25 with (fail)
          go_loopw [16] (fun u wr => ∃ y : Nat, y ≤ T ∧ u = .int .i64 (y : Nat) ∧ Has σ M5 wr) (fun u _ => T - (intOf u).toNat)
          case atStart => exact ⟨0, Nat.zero_le _, rfl, h⟩
          case round =>
           clear h w
           obtain ⟨w, rfl⟩ : ∃ x : World, x = wr := ⟨_, rfl⟩
           obtain ⟨y, hy, rfl, h⟩ := hrel
           by_cases hyl : y < T
           ·as_aux_lemma =>
             have hyl' : (y : Int) < (T : Int) := by omega
             have hy8 : (y : Int) < 8 := by omega
             have wyy : IntKind.i64.wrap ((y : Int) + 1) = ((y + 1 : Nat) : Int) := by rw [show (y : Int) + 1 = ((y + 1 : Nat) : Int) by omega]; exact IntWalk.i64_in _ (by omega)
             have e2y : row[2 + y]? = some (.int .i64 (levT c y : Nat)) := by
              rw [← HRW.out, ints_get (by omega), lev_cell HC.out HNU.out HT.out hyl]
             have hfy := HFR.out y hyl
             obtain ⟨ly, hly⟩ : ∃ ly, levT c y = ly := ⟨_, rfl⟩
             rw [hly] at e2y hfy
             obtain ⟨curH, Ah, ch, hcb, _, eH, _, hE⟩ := HL5.out.atH hyl
             have hbm := HL5.out.base.le _ _ hcb
             obtain ⟨nh, hnh⟩ : ∃ nh, (md4 y).length = nh := ⟨_, rfl⟩
             rw [hnh] at eH hE
             have HNH := Lib.hid hnh
             have HEE := Lib.hid hE
             have HFY := Lib.hid hfy
             have HYL := Lib.hid hyl
             have hnh60 : nh ≤ 1000 := by
              have h1 : (md4 y).length ≤ (md5 y).length := by
               rw [HMD5.out]
               by_cases e : y = tn
               ·subst e; rw [put1_same]; simp
               ·rw [put1_ne e]; exact Nat.le_refl _
              have h2 := HI5.out.2.short hyl
              omega
             clear hyl hy hly hcb hE hnh hfy
             go_upto_region 28 with (first
              | (with_reducible show wpList _ _ _ ({ dst := _, op := Op.load 3 _, type := _, pos := _, after := _, guard := _ } :: _) _ _; refine wpList_load1_has h rfl 3 _ rfl rfl hbf5 r1 Tryz.underlying3 rfl ?_))
             go_loopw [17] (fun u wr => ∃ j : Nat, j ≤ nh ∧ u = .int .i64 (j : Nat) ∧ Has σ M5 wr) (fun u _ => nh - (intOf u).toNat)
             case atStart => exact ⟨0, Nat.zero_le _, rfl, h⟩
             case round =>
              clear h w
              obtain ⟨w, rfl⟩ : ∃ x : World, x = wr := ⟨_, rfl⟩
              obtain ⟨j, hj, rfl, h⟩ := hrel
              by_cases hjl : j < nh
              ·have hjl' : (j : Int) < (nh : Int) := by omega
               have wj : IntKind.i64.wrap ((j : Int) + 1) = ((j + 1 : Nat) : Int) := by rw [show (j : Int) + 1 = ((j + 1 : Nat) : Int) by omega]; exact IntWalk.i64_in _ (by omega)
               obtain ⟨u, hu⟩ : ∃ u, (md4 y)[j]? = some u := ⟨_, List.getElem?_eq_getElem (by rw [HNH.out]; exact hjl)⟩
               obtain ⟨gh, cgh, hce⟩ := Own.pos HEE.out (by omega)
               cases hce
               obtain ⟨curE, hgE, hcE⟩ := Own.at_ HEE.out
               obtain ⟨ux, hux⟩ : ∃ x, u.1 = x := ⟨_, rfl⟩
               have ex : curE[j * 6 + 0]? = some (.int .i64 (ux : Nat)) := hcE (j * 6 + 0) _ ((flat_get encM_len (md4 y) j u hu 0 (by decide)).trans (by rw [← hux]; rfl))
               rw [Nat.add_zero] at ex
               have hgE5 := HL5.out.base.le _ _ hgE
               have hne : ly = lv → ux ≠ x0 := fun e => by rw [← hux]; exact HFY.out e u (List.mem_of_getElem? hu)
               have HJL := Lib.hid hjl
               clear hjl hj hu hux hcE hgE
               go_upto_region 30 with (first
                | (with_reducible show wpList _ _ _ ({ dst := _, op := Op.load 87 _, type := _, pos := _, after := _, guard := _ } :: _) _ _; refine wpList_load1_has h rfl 87 _ rfl rfl hbm eH Tryz.underlying87 rfl ?_))
               by_cases hl : ly = lv
               ·have hux2 : ((ux : Int) == (x0 : Int)) = false := by
                 rw [beq_eq_false_iff_ne]; have := hne hl; omega
                subst hl
                clear hne
                go_wp2_with (first
                 | (with_reducible show wpList _ _ _ ({ dst := _, op := Op.load 3 _, type := _, pos := _, after := _, guard := _ } :: _) _ _; refine wpList_load1_has h rfl 3 _ rfl rfl hbf5 e2y Tryz.underlying3 rfl ?_)
                 | (with_reducible show wpList _ _ _ ({ dst := _, op := Op.load 87 _, type := _, pos := _, after := _, guard := _ } :: _) _ _; refine wpList_load1_has h rfl 87 _ rfl rfl hbm eH Tryz.underlying87 rfl ?_)
                 | (with_reducible show wpList _ _ _ ({ dst := _, op := Op.load 3 _, type := _, pos := _, after := _, guard := _ } :: _) _ _; refine wpList_load1_has h rfl 3 _ rfl rfl hgE5 ex Tryz.underlying3 rfl ?_))
                go_roundw
                case rel => exact ⟨j + 1, by have := HJL.out; omega, by first | rfl | go_num, h⟩
                case measure => have := HJL.out; simp [intOf]; omega
               ·have hl2 : ((ly : Int) == (lv : Int)) = false := by
                 rw [beq_eq_false_iff_ne]; omega
                clear hne hl
                go_wp2_with (first
                 | (with_reducible show wpList _ _ _ ({ dst := _, op := Op.load 3 _, type := _, pos := _, after := _, guard := _ } :: _) _ _; refine wpList_load1_has h rfl 3 _ rfl rfl hbf5 e2y Tryz.underlying3 rfl ?_))
                go_roundw
                case rel => exact ⟨j + 1, by have := HJL.out; omega, by first | rfl | go_num, h⟩
                case measure => have := HJL.out; simp [intOf]; omega
              ·obtain rfl : nh = j := by omega
               have hjl' : ¬ (nh : Int) < (nh : Int) := by omega
               clear hjl hj
               go_wp2_with (first
                | (with_reducible show wpList _ _ _ ({ dst := _, op := Op.load 87 _, type := _, pos := _, after := _, guard := _ } :: _) _ _; refine wpList_load1_has h rfl 87 _ rfl rfl hbm eH Tryz.underlying87 rfl ?_))
               go_roundw
               case rel => exact ⟨y + 1, by have := HYL.out; omega, by first | rfl | go_num, h⟩
               case measure => have := HYL.out; simp [intOf]; omega
           ·as_aux_lemma =>
             obtain rfl : T = y := by omega
             have hyl' : ¬ (T : Int) < (T : Int) := by omega
             go_upto_region 32 with (first
              | (with_reducible show wpList _ _ _ ({ dst := _, op := Op.load 3 _, type := _, pos := _, after := _, guard := _ } :: _) _ _; refine wpList_load1_has h rfl 3 _ rfl rfl hbf5 r1 Tryz.underlying3 rfl ?_))
             clear eN1 hbf5 hyl hy hyl'
             obtain ⟨drow, hdr⟩ : ∃ r : Array Value, (encD (nw4 tn)).toArray = r := ⟨_, rfl⟩
             rw [hdr] at hxN
             have hzD : drow.size = 6 := by rw [← hdr]; rfl
             have HDR : Hid (drow.toList = encD (nw4 tn)) := Lib.hid (by rw [← hdr])
             have hO := HL5.out.ownD
             have hOle := outK_le K4 M5 labK4 4
             clear hdr
             go_upto_region 33 with (first
              | ((with_reducible show wpList _ _ _ ({ dst := _, op := Op.load 86 _, type := _, pos := _, after := _, guard := _ } :: _) _ _); refine wpList_agg_has h rfl 86 _ rfl rfl hbN hxN hzD Tryz.underlying86 rfl (by kernel_rfl) ?_; try simp only [Act.put, List.setIfInBounds_toArray, List.set_cons_zero, List.set_cons_succ])
              | ((with_reducible show wpList _ _ _ ({ dst := _, op := Op.store 86 _ _, type := _, pos := _, after := _, guard := _ } :: _) _ _; refine wpList_putRow (L := [en]) encD_len h hOle hO rfl rfl 86 _ _ rfl rfl (k := 0) rfl rfl (by decide) (nw4 tn) HDR.out (encD_one _) (by kernel_rfl) ?_; clear h hOle hO; intro w M6 h hle6 hown6)))
             obtain ⟨lab6, K6, labK6, hL6⟩ := HL5.out.putD (d2 := nw4 tn) hle6 hown6
             clear hle6 hown6 hbN hxN hzD HDR HL5 hqb d1
             obtain ⟨est, hes⟩ : ∃ x, (nw4 tn).st = x := ⟨_, rfl⟩
             obtain ⟨ek, hek⟩ : ∃ x, (nw4 tn).key = x := ⟨_, rfl⟩
             obtain ⟨ea, hea⟩ : ∃ x, (nw4 tn).a = x := ⟨_, rfl⟩
             obtain ⟨eb, heb⟩ : ∃ x, (nw4 tn).b = x := ⟨_, rfl⟩
             obtain ⟨curD, hbD, hcD, _⟩ := hL6.atD
             have dd2 : curD[2]? = some (.int .u8 (est : Nat)) := hcD 2 _ (by rw [← hes]; rfl)
             have dd3 : curD[3]? = some (.int .u64 (ek : Nat)) := hcD 3 _ (by rw [← hek]; rfl)
             have dd4 : curD[4]? = some (.int .u64 (ea : Nat)) := hcD 4 _ (by rw [← hea]; rfl)
             have dd5 : curD[5]? = some (.int .u64 (eb : Nat)) := hcD 5 _ (by rw [← heb]; rfl)
             obtain ⟨trow, tty, hqb, d0, d1⟩ := m_told hL6.mach HA5.out HQ.out
             rw [HY0.out] at d1
             have htq : s5.tp[tn]? = some q := by rw [HA5.out.ttp]; exact HQ.out
             have st4 : est % 4 < 4 := Nat.mod_lt _ (by decide)
             have t1 : ((est : Int)).tmod 4 = ((est % 4 : Nat) : Int) := by rw [Int.tmod_eq_emod_of_nonneg (by omega)]; omega
             obtain ⟨sm, hsm⟩ : ∃ x, est % 4 = x := ⟨_, rfl⟩
             rw [hsm] at st4 t1
             have w1 : IntKind.u8.wrap (sm : Int) = (sm : Int) := IntWalk.u8_in _ (by omega)
             have w2 : IntKind.i64.wrap (sm : Int) = (sm : Int) := IntWalk.i64_in _ (by omega)
             have RM := Lib.hid fun (w : World) (h : Has σ M6 w) => refMade_eq h y0 sm ek ea eb HYG.out.1 (by omega)
             obtain ⟨hd, hhd⟩ : ∃ hd, mkHead y0 sm = hd := ⟨_, rfl⟩
             rw [hhd] at RM
             have HMD : Hid (md5 = put1 md4 tn (md4 tn ++ [(x0, hd, ek, ea, eb)])) := Lib.hid (by rw [HMD5.out, ← hhd, ← hsm, hes, hek, hea, heb])
             obtain ⟨curH5, Ah5, ch5, hcb5, _, eH5, hszH, hE5⟩ := hL6.atH HTN.out
             have hbm5 := hL6.base.le _ _ hcb5
             obtain ⟨nh, hnh⟩ : ∃ nh, (md4 tn).length = nh := ⟨_, rfl⟩
             have hO5 := hE5.up hL6.base.le
             rw [hnh] at eH5 hO5
             have hOle5 := outK_le K6 M6 labK6 (10 + tn)
             have hn60h : nh ≤ 60 := by
              have h2 := HI5.out.2.short HTN.out
              rw [HMD.out, put1_same, List.length_append, hnh] at h2
              omega
             have hPP : (Mm.pair M6 b11 q).le M6 := Mm.pair_le (fun _ h => h) fun _ h => h
             have hg11 : (Mm.pair M6 b11 q) b11 = some (.cells curD 86) := by rw [Mm.pair_a]; exact hbD
             have hgq : (Mm.pair M6 b11 q) q = some (.cells trow tty) := by rw [Mm.pair_b]; exact hqb
             have hPO : (Mm.pair M6 b11 q).le (outK K6 M6 labK6 (10 + tn)) := Mm.pair_le (fun o ho => row_out hL6.drow hL6.base (by omega) ho) fun o ho => q_out hL6.mach hL6.base htq ho
             have HL6 := Lib.hid hL6
             have HNH := Lib.hid hnh
             have HTQ := Lib.hid htq
             have HBD := Lib.hid hbD
             have HQB := Lib.hid hqb
             have HPQ : Hid (∀ cc oo, (Mm.pair M6 b11 q) cc = some oo → cc ≠ b11 → cc = q) := Lib.hid fun cc oo hcc hne => by
              unfold Mm.pair at hcc
              split at hcc
              ·next hc => exact hc.resolve_left hne
              ·cases hcc
             generalize Mm.pair M6 b11 q = PP at hPP hg11 hgq hPO HPQ
             clear hcD hes hek hea heb hsm hhd hnh hE5 hcb5 hL6 hbD hqb htq d0
             go_cut [] from 49 to 245 (fun wx => ∃ (M8 : Mm) (lab8 : Nat → Nat) (K8 : Mm) (labK8 : Nat → Nat) (fh8 : Nat → Value) (d8 : DeedS), Has σ M8 wx ∧ McL M1 T bh bn b11 p M8 lab8 K8 labK8 s5 fh8 md5 nw4 d8)
             case first =>
              as_aux_lemma =>
               refine wp_region_held_drew (S := Has σ (PP)) (by kernel_rfl) (h.drew.le hPP) (fun hHeld => ?_)
               refine wpAnyH_take (i := 0) (v := ?_) rfl (by kernel_rfl) (by kernel_rfl) (by kernel_rfl) (fun _ _ _ h => h) (Or.inl ⟨by rfl, ?_⟩) hHeld ?_
               rotate_left
               ·(intro wz _; go_simp; try with_reducible rfl)
               try simp only [List.getElem_toArray, List.getElem_cons_succ, List.getElem_cons_zero, Act.put, List.setIfInBounds_toArray, List.set_cons_zero, List.set_cons_succ]
               refine wpAnyH_take (i := 1) (v := ?_) rfl (by kernel_rfl) (by kernel_rfl) (by kernel_rfl) (fun _ _ _ h => h) (Or.inl ⟨by rfl, ?_⟩) hHeld ?_
               rotate_left
               ·(intro wz _; go_simp; try with_reducible rfl)
               try simp only [List.getElem_toArray, List.getElem_cons_succ, List.getElem_cons_zero, Act.put, List.setIfInBounds_toArray, List.set_cons_zero, List.set_cons_succ]
               refine wpAnyH_take (i := 2) (v := ?_) rfl (by kernel_rfl) (by kernel_rfl) (by kernel_rfl) (fun _ _ _ h => h) (Or.inl ⟨by rfl, ?_⟩) hHeld ?_
               rotate_left
               ·(intro wz _; go_simp; try with_reducible rfl)
               try simp only [List.getElem_toArray, List.getElem_cons_succ, List.getElem_cons_zero, Act.put, List.setIfInBounds_toArray, List.set_cons_zero, List.set_cons_succ]
               refine wpAnyH_take (i := 3) (v := ?_) rfl (by kernel_rfl) (by kernel_rfl) (by kernel_rfl) (fun _ _ _ h => h) (Or.inl ⟨by rfl, ?_⟩) hHeld ?_
               rotate_left
               ·(intro wz _; go_simp; try with_reducible rfl)
               try simp only [List.getElem_toArray, List.getElem_cons_succ, List.getElem_cons_zero, Act.put, List.setIfInBounds_toArray, List.set_cons_zero, List.set_cons_succ]
               refine wpAnyH_take (i := 4) (v := ?_) rfl (by kernel_rfl) (by kernel_rfl) (by kernel_rfl) (fun _ _ _ h => h) (Or.inl ⟨by rfl, ?_⟩) hHeld ?_
               rotate_left
               ·(intro wz _; go_simp; try with_reducible rfl)
               try simp only [List.getElem_toArray, List.getElem_cons_succ, List.getElem_cons_zero, Act.put, List.setIfInBounds_toArray, List.set_cons_zero, List.set_cons_succ]
               refine wpAnyH_take (i := 6) (v := ?_) rfl (by kernel_rfl) (by kernel_rfl) (by kernel_rfl) (fun _ _ _ h => h) (Or.inl ⟨by rfl, ?_⟩) hHeld ?_
               rotate_left
               ·(intro wz _; go_simp; try with_reducible rfl)
               try simp only [List.getElem_toArray, List.getElem_cons_succ, List.getElem_cons_zero, Act.put, List.setIfInBounds_toArray, List.set_cons_zero, List.set_cons_succ]
               refine wpAnyH_take (i := 7) (v := ?_) rfl (by kernel_rfl) (by kernel_rfl) (by kernel_rfl) (fun _ _ _ h => h) (Or.inl ⟨by rfl, ?_⟩) hHeld ?_
               rotate_left
               ·(intro wz _; go_simp; try with_reducible rfl)
               try simp only [List.getElem_toArray, List.getElem_cons_succ, List.getElem_cons_zero, Act.put, List.setIfInBounds_toArray, List.set_cons_zero, List.set_cons_succ]
               refine wpAnyH_take (i := 8) (v := _) rfl (by kernel_rfl) (by kernel_rfl) (by kernel_rfl) (fun _ _ _ h => h) (yields_load1 rfl 5 _ rfl rfl hg11 dd2 Tryz.underlying5 rfl) hHeld ?_
               try simp only [List.getElem_toArray, List.getElem_cons_succ, List.getElem_cons_zero, Act.put, List.setIfInBounds_toArray, List.set_cons_zero, List.set_cons_succ]
               refine wpAnyH_take (i := 9) (v := ?_) rfl (by kernel_rfl) (by kernel_rfl) (by kernel_rfl) (fun _ _ _ h => h) (Or.inl ⟨by rfl, ?_⟩) hHeld ?_
               rotate_left
               ·(intro wz _; go_simp; try with_reducible rfl)
               try simp only [List.getElem_toArray, List.getElem_cons_succ, List.getElem_cons_zero, Act.put, List.setIfInBounds_toArray, List.set_cons_zero, List.set_cons_succ]
               refine wpAnyH_take (i := 10) (v := ?_) rfl (by kernel_rfl) (by kernel_rfl) (by kernel_rfl) (fun _ _ _ h => h) (Or.inl ⟨by rfl, ?_⟩) hHeld ?_
               rotate_left
               ·(intro wz _; go_simp; try with_reducible rfl)
               try simp only [List.getElem_toArray, List.getElem_cons_succ, List.getElem_cons_zero, Act.put, List.setIfInBounds_toArray, List.set_cons_zero, List.set_cons_succ]
               refine wpAnyH_take (i := 11) (v := ?_) rfl (by kernel_rfl) (by kernel_rfl) (by kernel_rfl) (fun _ _ _ h => h) (Or.inl ⟨by rfl, ?_⟩) hHeld ?_
               rotate_left
               ·(intro wz _; go_simp; try with_reducible rfl)
               try simp only [List.getElem_toArray, List.getElem_cons_succ, List.getElem_cons_zero, Act.put, List.setIfInBounds_toArray, List.set_cons_zero, List.set_cons_succ]
               refine wpAnyH_take (i := 12) (v := ?_) rfl (by kernel_rfl) (by kernel_rfl) (by kernel_rfl) (fun _ _ _ h => h) (Or.inl ⟨by rfl, ?_⟩) hHeld ?_
               rotate_left
               ·(intro wz _; go_simp; try with_reducible rfl)
               try simp only [List.getElem_toArray, List.getElem_cons_succ, List.getElem_cons_zero, Act.put, List.setIfInBounds_toArray, List.set_cons_zero, List.set_cons_succ]
               refine wpAnyH_take (i := 13) (v := ?_) rfl (by kernel_rfl) (by kernel_rfl) (by kernel_rfl) (fun _ _ _ h => h) (Or.inl ⟨by rfl, ?_⟩) hHeld ?_
               rotate_left
               ·(intro wz _; go_simp; try with_reducible rfl)
               try simp only [List.getElem_toArray, List.getElem_cons_succ, List.getElem_cons_zero, Act.put, List.setIfInBounds_toArray, List.set_cons_zero, List.set_cons_succ]
               refine wpAnyH_take (i := 14) (v := ?_) rfl (by kernel_rfl) (by kernel_rfl) (by kernel_rfl) (fun _ _ _ h => h) (Or.inl ⟨by rfl, ?_⟩) hHeld ?_
               rotate_left
               ·(intro wz _; go_simp; try with_reducible rfl)
               try simp only [List.getElem_toArray, List.getElem_cons_succ, List.getElem_cons_zero, Act.put, List.setIfInBounds_toArray, List.set_cons_zero, List.set_cons_succ]
               refine wpAnyH_take (i := 15) (v := _) rfl (by kernel_rfl) (by kernel_rfl) (by kernel_rfl) (fun _ _ _ h => h) (yields_load1 rfl 42 _ rfl rfl hgq d1 Tryz.underlying42 rfl) hHeld ?_
               try simp only [List.getElem_toArray, List.getElem_cons_succ, List.getElem_cons_zero, Act.put, List.setIfInBounds_toArray, List.set_cons_zero, List.set_cons_succ]
               refine wpAnyH_take (i := 16) (v := ?_) rfl (by kernel_rfl) (by kernel_rfl) (by kernel_rfl) (fun _ _ _ h => h) (Or.inl ⟨by rfl, ?_⟩) hHeld ?_
               rotate_left
               ·(intro wz _; go_simp; try with_reducible rfl)
               try simp only [List.getElem_toArray, List.getElem_cons_succ, List.getElem_cons_zero, Act.put, List.setIfInBounds_toArray, List.set_cons_zero, List.set_cons_succ]
               refine wpAnyH_take (i := 17) (v := ?_) rfl (by kernel_rfl) (by kernel_rfl) (by kernel_rfl) (fun _ _ _ h => h) (Or.inl ⟨by rfl, ?_⟩) hHeld ?_
               rotate_left
               ·(intro wz _; go_simp; try with_reducible rfl)
               try simp only [List.getElem_toArray, List.getElem_cons_succ, List.getElem_cons_zero, Act.put, List.setIfInBounds_toArray, List.set_cons_zero, List.set_cons_succ]
               refine wpAnyH_take (i := 18) (v := _) rfl (by kernel_rfl) (by kernel_rfl) (by kernel_rfl) (fun _ _ _ h => h) (yields_load1 rfl 42 _ rfl rfl hg11 dd3 Tryz.underlying42 rfl) hHeld ?_
               try simp only [List.getElem_toArray, List.getElem_cons_succ, List.getElem_cons_zero, Act.put, List.setIfInBounds_toArray, List.set_cons_zero, List.set_cons_succ]
               refine wpAnyH_take (i := 19) (v := ?_) rfl (by kernel_rfl) (by kernel_rfl) (by kernel_rfl) (fun _ _ _ h => h) (Or.inl ⟨by rfl, ?_⟩) hHeld ?_
               rotate_left
               ·(intro wz _; go_simp; try with_reducible rfl)
               try simp only [List.getElem_toArray, List.getElem_cons_succ, List.getElem_cons_zero, Act.put, List.setIfInBounds_toArray, List.set_cons_zero, List.set_cons_succ]
               refine wpAnyH_take (i := 20) (v := _) rfl (by kernel_rfl) (by kernel_rfl) (by kernel_rfl) (fun _ _ _ h => h) (yields_load1 rfl 42 _ rfl rfl hg11 dd4 Tryz.underlying42 rfl) hHeld ?_
               try simp only [List.getElem_toArray, List.getElem_cons_succ, List.getElem_cons_zero, Act.put, List.setIfInBounds_toArray, List.set_cons_zero, List.set_cons_succ]
               refine wpAnyH_take (i := 21) (v := ?_) rfl (by kernel_rfl) (by kernel_rfl) (by kernel_rfl) (fun _ _ _ h => h) (Or.inl ⟨by rfl, ?_⟩) hHeld ?_
               rotate_left
               ·(intro wz _; go_simp; try with_reducible rfl)
               try simp only [List.getElem_toArray, List.getElem_cons_succ, List.getElem_cons_zero, Act.put, List.setIfInBounds_toArray, List.set_cons_zero, List.set_cons_succ]
               refine wpAnyH_take (i := 22) (v := _) rfl (by kernel_rfl) (by kernel_rfl) (by kernel_rfl) (fun _ _ _ h => h) (yields_load1 rfl 42 _ rfl rfl hg11 dd5 Tryz.underlying42 rfl) hHeld ?_
               try simp only [List.getElem_toArray, List.getElem_cons_succ, List.getElem_cons_zero, Act.put, List.setIfInBounds_toArray, List.set_cons_zero, List.set_cons_succ]
               replace h := h.drew
               generalize w.drew = wq at h hHeld ⊢
               clear w hg11 hgq
               obtain ⟨w, rfl⟩ : ∃ q : World, q = wq := ⟨_, rfl⟩
               refine wpAnyH_ready (rs := [5, 23]) (by kernel_rfl) (by simp) ?_
               refine AllReadyH.cons rfl (fun K hK => ?_) (AllReadyH.cons rfl (fun K hK => ?_) AllReadyH.nil)
               ·skip
                refine step_yields rfl (yields_load1 rfl 87 _ rfl rfl hbm5 eH5 Tryz.underlying87 rfl) h ?_
                refine hK.out _ _ hHeld (fun hHeld => ?_); clear hK K; simp only [Act.put, List.setIfInBounds_toArray, List.set_cons_zero, List.set_cons_succ]
                refine wpAnyH_ready (rs := [23]) (by kernel_rfl) (by simp) ?_
                refine AllReadyH.cons rfl (fun K hK => ?_) AllReadyH.nil
                (go_simp; go_wp2_with (go_at_call 43; refine (RM.out _ h).mono ?_; clear h; rintro _ w ⟨rfl, h⟩))
                refine hK.out _ _ (h.le hPP) (fun hHeld => ?_)
                clear hK K
                try simp only [Act.put, List.setIfInBounds_toArray, List.set_cons_zero, List.set_cons_succ]
                refine wpAnyH_take (i := 24) (v := .agg #[.int .i64 (x0 : Nat), .int .u64 (hd : Nat), .int .u64 0, .int .u64 (ek : Nat), .int .u64 (ea : Nat), .int .u64 (eb : Nat)]) rfl (by kernel_rfl) (by kernel_rfl) (by kernel_rfl) (fun _ _ _ h => h) (Or.inl ⟨by rfl, fun wz _ => exec_build2 91 _ _ _ _ rfl (.int .i64 (x0 : Nat)) (.agg #[.int .u64 (hd : Nat), .int .u64 0, .int .u64 (ek : Nat), .int .u64 (ea : Nat), .int .u64 (eb : Nat)]) rfl rfl _ (by kernel_rfl) wz⟩) hHeld ?_; try simp only [List.getElem_toArray, List.getElem_cons_succ, List.getElem_cons_zero, Act.put, List.setIfInBounds_toArray, List.set_cons_zero, List.set_cons_succ]
                refine wpAnyH_ready (rs := [25]) (by kernel_rfl) (by simp) ?_
                refine AllReadyH.cons rfl (fun K hK => ?_) AllReadyH.nil
                (refine step_lit1 rfl 87 _ rfl Tryz.underlying87 info_M rfl (by decide) (by decide) (by kernel_rfl) ?_)
                refine hK.out _ _ ((h.quietAlloc _).le hPP) (fun hHeld => ?_)
                clear hK K
                try simp only [Act.put, List.setIfInBounds_toArray, List.set_cons_zero, List.set_cons_succ]
                refine wpAnyH_ready (rs := [26]) (by kernel_rfl) (by simp) ?_
                refine AllReadyH.cons rfl (fun K hK => ?_) AllReadyH.nil
                (refine step_applit h hOle5 rfl _ _ _ rfl rfl Tryz.underlying87 info_M rfl (by omega) rfl hO5 rfl rfl rfl (by omega) (by omega) ?_; clear h hHeld hOle5 hO5; intro v w hacc; obtain ⟨M8, h, hle8, hown8⟩ := hacc)
                refine hK.out _ _ (h.le (Mm.le_trans hPO hle8)) (fun hHeld => ?_)
                clear hK K
                try simp only [Act.put, List.setIfInBounds_toArray, List.set_cons_zero, List.set_cons_succ]
                obtain ⟨A8, c8, rfl⟩ := hown8.form
                obtain ⟨lab8, K8, labK8, hM8, hB8, hK8, hR8⟩ := HL6.out.mach.rowTo HL6.out.base hle8 hown8
                have hH8 := ((HL6.out.law.hrow).keep hK8 (by omega)).up hB8.le
                have hHle8 := outK_le K8 M8 labK8 2
                have hPO8 : PP.le (outK K8 M8 labK8 2) := by
                 intro cc oo hcc
                 by_cases e1 : cc = b11
                 ·subst e1
                  exact row_out (HL6.out.drow.keep hK8 (by omega)) hB8 (by decide) (hle8 _ _ (hPO _ _ hcc))
                 ·have e2 : cc = q := HPQ.out cc oo hcc e1
                  subst e2
                  exact q_out hM8 hB8 HTQ.out (hle8 _ _ (hPO _ _ hcc))
                refine wpAnyH_take (i := 27) (v := ?_) rfl (by kernel_rfl) (by kernel_rfl) (by kernel_rfl) (fun _ _ _ h => h) (Or.inl ⟨by rfl, ?_⟩) hHeld ?_
                rotate_left
                ·(intro wz _; go_simp; try with_reducible rfl)
                try simp only [List.getElem_toArray, List.getElem_cons_succ, List.getElem_cons_zero, Act.put, List.setIfInBounds_toArray, List.set_cons_zero, List.set_cons_succ]
                refine wpAnyH_ready (rs := [28]) (by kernel_rfl) (by simp) ?_
                refine AllReadyH.cons rfl (fun K hK => ?_) AllReadyH.nil
                (refine step_putOne h hHle8 hH8 rfl 87 _ _ rfl rfl (k := tn) rfl HTN.out (u := .slice A8 (nh + 1) c8) rfl rfl (by kernel_rfl) ?_; clear h hHeld hHle8 hH8; intro w M10 h hle10 hown10)
                refine hK.out _ _ (h.le (Mm.le_trans hPO8 hle10)) (fun hHeld => ?_)
                clear hK K
                try simp only [Act.put, List.setIfInBounds_toArray, List.set_cons_zero, List.set_cons_succ]
                refine wpAnyH_done (by kernel_rfl) ?_ _
                clear hHeld
                obtain ⟨lab10, K10, labK10, hM10, hB10, hK10, hR10⟩ := hM8.rowTo hB8 hle10 hown10
                have eF : (md4 tn ++ [(x0, hd, ek, ea, eb)]).flatMap encM = (md4 tn).flatMap encM ++ (#[.int .i64 (x0 : Nat), .int .u64 (hd : Nat), .int .u64 0, .int .u64 (ek : Nat), .int .u64 (ea : Nat), .int .u64 (eb : Nat)] : Array Value).toList := by rw [List.flatMap_append]; rfl
                have hA10 := HL6.out.law.setH HTN.out hK8 (h2 := md4 tn ++ [(x0, hd, ek, ea, eb)]) (by rw [eF, List.length_append, HNH.out]; exact hR8) hK10 hR10
                rw [← HMD.out] at hA10
                have hL10 : McL M1 T bh bn b11 p M10 lab10 K10 labK10 s5 _ md5 nw4 (nw4 tn) := ⟨hM10, hB10, Mm.le_trans HL6.out.m1 (Mm.le_trans (stable_kp hK8 (by omega)) (stable_kp hK10 (by omega))), hA10, (HL6.out.drow.keep hK8 (by omega)).keep hK10 (by omega)⟩
                have hEnd := h
                go_wp2
                all_goals (go_meet; (case rel => exact ⟨M10, lab10, K10, labK10, _, _, hEnd, hL10⟩))
               ·skip
                (go_simp; go_wp2_with (go_at_call 43; refine (RM.out _ h).mono ?_; clear h; rintro _ w ⟨rfl, h⟩))
                refine hK.out _ _ (h.le hPP) (fun hHeld => ?_)
                clear hK K
                try simp only [Act.put, List.setIfInBounds_toArray, List.set_cons_zero, List.set_cons_succ]
                refine wpAnyH_take (i := 24) (v := .agg #[.int .i64 (x0 : Nat), .int .u64 (hd : Nat), .int .u64 0, .int .u64 (ek : Nat), .int .u64 (ea : Nat), .int .u64 (eb : Nat)]) rfl (by kernel_rfl) (by kernel_rfl) (by kernel_rfl) (fun _ _ _ h => h) (Or.inl ⟨by rfl, fun wz _ => exec_build2 91 _ _ _ _ rfl (.int .i64 (x0 : Nat)) (.agg #[.int .u64 (hd : Nat), .int .u64 0, .int .u64 (ek : Nat), .int .u64 (ea : Nat), .int .u64 (eb : Nat)]) rfl rfl _ (by kernel_rfl) wz⟩) hHeld ?_; try simp only [List.getElem_toArray, List.getElem_cons_succ, List.getElem_cons_zero, Act.put, List.setIfInBounds_toArray, List.set_cons_zero, List.set_cons_succ]
                refine wpAnyH_ready (rs := [5, 25]) (by kernel_rfl) (by simp) ?_
                refine AllReadyH.cons rfl (fun K hK => ?_) (AllReadyH.cons rfl (fun K hK => ?_) AllReadyH.nil)
                ·skip
                 refine step_yields rfl (yields_load1 rfl 87 _ rfl rfl hbm5 eH5 Tryz.underlying87 rfl) h ?_
                 refine hK.out _ _ hHeld (fun hHeld => ?_); clear hK K; simp only [Act.put, List.setIfInBounds_toArray, List.set_cons_zero, List.set_cons_succ]
                 refine wpAnyH_ready (rs := [25]) (by kernel_rfl) (by simp) ?_
                 refine AllReadyH.cons rfl (fun K hK => ?_) AllReadyH.nil
                 (refine step_lit1 rfl 87 _ rfl Tryz.underlying87 info_M rfl (by decide) (by decide) (by kernel_rfl) ?_)
                 refine hK.out _ _ ((h.quietAlloc _).le hPP) (fun hHeld => ?_)
                 clear hK K
                 try simp only [Act.put, List.setIfInBounds_toArray, List.set_cons_zero, List.set_cons_succ]
                 refine wpAnyH_ready (rs := [26]) (by kernel_rfl) (by simp) ?_
                 refine AllReadyH.cons rfl (fun K hK => ?_) AllReadyH.nil
                 (refine step_applit h hOle5 rfl _ _ _ rfl rfl Tryz.underlying87 info_M rfl (by omega) rfl hO5 rfl rfl rfl (by omega) (by omega) ?_; clear h hHeld hOle5 hO5; intro v w hacc; obtain ⟨M8, h, hle8, hown8⟩ := hacc)
                 refine hK.out _ _ (h.le (Mm.le_trans hPO hle8)) (fun hHeld => ?_)
                 clear hK K
                 try simp only [Act.put, List.setIfInBounds_toArray, List.set_cons_zero, List.set_cons_succ]
                 obtain ⟨A8, c8, rfl⟩ := hown8.form
                 obtain ⟨lab8, K8, labK8, hM8, hB8, hK8, hR8⟩ := HL6.out.mach.rowTo HL6.out.base hle8 hown8
                 have hH8 := ((HL6.out.law.hrow).keep hK8 (by omega)).up hB8.le
                 have hHle8 := outK_le K8 M8 labK8 2
                 have hPO8 : PP.le (outK K8 M8 labK8 2) := by
                  intro cc oo hcc
                  by_cases e1 : cc = b11
                  ·subst e1
                   exact row_out (HL6.out.drow.keep hK8 (by omega)) hB8 (by decide) (hle8 _ _ (hPO _ _ hcc))
                  ·have e2 : cc = q := HPQ.out cc oo hcc e1
                   subst e2
                   exact q_out hM8 hB8 HTQ.out (hle8 _ _ (hPO _ _ hcc))
                 refine wpAnyH_take (i := 27) (v := ?_) rfl (by kernel_rfl) (by kernel_rfl) (by kernel_rfl) (fun _ _ _ h => h) (Or.inl ⟨by rfl, ?_⟩) hHeld ?_
                 rotate_left
                 ·(intro wz _; go_simp; try with_reducible rfl)
                 try simp only [List.getElem_toArray, List.getElem_cons_succ, List.getElem_cons_zero, Act.put, List.setIfInBounds_toArray, List.set_cons_zero, List.set_cons_succ]
                 refine wpAnyH_ready (rs := [28]) (by kernel_rfl) (by simp) ?_
                 refine AllReadyH.cons rfl (fun K hK => ?_) AllReadyH.nil
                 (refine step_putOne h hHle8 hH8 rfl 87 _ _ rfl rfl (k := tn) rfl HTN.out (u := .slice A8 (nh + 1) c8) rfl rfl (by kernel_rfl) ?_; clear h hHeld hHle8 hH8; intro w M10 h hle10 hown10)
                 refine hK.out _ _ (h.le (Mm.le_trans hPO8 hle10)) (fun hHeld => ?_)
                 clear hK K
                 try simp only [Act.put, List.setIfInBounds_toArray, List.set_cons_zero, List.set_cons_succ]
                 refine wpAnyH_done (by kernel_rfl) ?_ _
                 clear hHeld
                 obtain ⟨lab10, K10, labK10, hM10, hB10, hK10, hR10⟩ := hM8.rowTo hB8 hle10 hown10
                 have eF : (md4 tn ++ [(x0, hd, ek, ea, eb)]).flatMap encM = (md4 tn).flatMap encM ++ (#[.int .i64 (x0 : Nat), .int .u64 (hd : Nat), .int .u64 0, .int .u64 (ek : Nat), .int .u64 (ea : Nat), .int .u64 (eb : Nat)] : Array Value).toList := by rw [List.flatMap_append]; rfl
                 have hA10 := HL6.out.law.setH HTN.out hK8 (h2 := md4 tn ++ [(x0, hd, ek, ea, eb)]) (by rw [eF, List.length_append, HNH.out]; exact hR8) hK10 hR10
                 rw [← HMD.out] at hA10
                 have hL10 : McL M1 T bh bn b11 p M10 lab10 K10 labK10 s5 _ md5 nw4 (nw4 tn) := ⟨hM10, hB10, Mm.le_trans HL6.out.m1 (Mm.le_trans (stable_kp hK8 (by omega)) (stable_kp hK10 (by omega))), hA10, (HL6.out.drow.keep hK8 (by omega)).keep hK10 (by omega)⟩
                 have hEnd := h
                 go_wp2
                 all_goals (go_meet; (case rel => exact ⟨M10, lab10, K10, labK10, _, _, hEnd, hL10⟩))
                ·skip
                 (refine step_lit1 rfl 87 _ rfl Tryz.underlying87 info_M rfl (by decide) (by decide) (by kernel_rfl) ?_)
                 refine hK.out _ _ ((h.quietAlloc _).le hPP) (fun hHeld => ?_)
                 clear hK K
                 try simp only [Act.put, List.setIfInBounds_toArray, List.set_cons_zero, List.set_cons_succ]
                 refine wpAnyH_ready (rs := [5]) (by kernel_rfl) (by simp) ?_
                 refine AllReadyH.cons rfl (fun K hK => ?_) AllReadyH.nil
                 refine step_yields rfl (yields_load1 rfl 87 _ rfl rfl hbm5 eH5 Tryz.underlying87 rfl) (h.quietAlloc _) ?_
                 refine hK.out _ _ hHeld (fun hHeld => ?_); clear hK K; simp only [Act.put, List.setIfInBounds_toArray, List.set_cons_zero, List.set_cons_succ]
                 refine wpAnyH_ready (rs := [26]) (by kernel_rfl) (by simp) ?_
                 refine AllReadyH.cons rfl (fun K hK => ?_) AllReadyH.nil
                 (refine step_applit h hOle5 rfl _ _ _ rfl rfl Tryz.underlying87 info_M rfl (by omega) rfl hO5 rfl rfl rfl (by omega) (by omega) ?_; clear h hHeld hOle5 hO5; intro v w hacc; obtain ⟨M8, h, hle8, hown8⟩ := hacc)
                 refine hK.out _ _ (h.le (Mm.le_trans hPO hle8)) (fun hHeld => ?_)
                 clear hK K
                 try simp only [Act.put, List.setIfInBounds_toArray, List.set_cons_zero, List.set_cons_succ]
                 obtain ⟨A8, c8, rfl⟩ := hown8.form
                 obtain ⟨lab8, K8, labK8, hM8, hB8, hK8, hR8⟩ := HL6.out.mach.rowTo HL6.out.base hle8 hown8
                 have hH8 := ((HL6.out.law.hrow).keep hK8 (by omega)).up hB8.le
                 have hHle8 := outK_le K8 M8 labK8 2
                 have hPO8 : PP.le (outK K8 M8 labK8 2) := by
                  intro cc oo hcc
                  by_cases e1 : cc = b11
                  ·subst e1
                   exact row_out (HL6.out.drow.keep hK8 (by omega)) hB8 (by decide) (hle8 _ _ (hPO _ _ hcc))
                  ·have e2 : cc = q := HPQ.out cc oo hcc e1
                   subst e2
                   exact q_out hM8 hB8 HTQ.out (hle8 _ _ (hPO _ _ hcc))
                 refine wpAnyH_take (i := 27) (v := ?_) rfl (by kernel_rfl) (by kernel_rfl) (by kernel_rfl) (fun _ _ _ h => h) (Or.inl ⟨by rfl, ?_⟩) hHeld ?_
                 rotate_left
                 ·(intro wz _; go_simp; try with_reducible rfl)
                 try simp only [List.getElem_toArray, List.getElem_cons_succ, List.getElem_cons_zero, Act.put, List.setIfInBounds_toArray, List.set_cons_zero, List.set_cons_succ]
                 refine wpAnyH_ready (rs := [28]) (by kernel_rfl) (by simp) ?_
                 refine AllReadyH.cons rfl (fun K hK => ?_) AllReadyH.nil
                 (refine step_putOne h hHle8 hH8 rfl 87 _ _ rfl rfl (k := tn) rfl HTN.out (u := .slice A8 (nh + 1) c8) rfl rfl (by kernel_rfl) ?_; clear h hHeld hHle8 hH8; intro w M10 h hle10 hown10)
                 refine hK.out _ _ (h.le (Mm.le_trans hPO8 hle10)) (fun hHeld => ?_)
                 clear hK K
                 try simp only [Act.put, List.setIfInBounds_toArray, List.set_cons_zero, List.set_cons_succ]
                 refine wpAnyH_done (by kernel_rfl) ?_ _
                 clear hHeld
                 obtain ⟨lab10, K10, labK10, hM10, hB10, hK10, hR10⟩ := hM8.rowTo hB8 hle10 hown10
                 have eF : (md4 tn ++ [(x0, hd, ek, ea, eb)]).flatMap encM = (md4 tn).flatMap encM ++ (#[.int .i64 (x0 : Nat), .int .u64 (hd : Nat), .int .u64 0, .int .u64 (ek : Nat), .int .u64 (ea : Nat), .int .u64 (eb : Nat)] : Array Value).toList := by rw [List.flatMap_append]; rfl
                 have hA10 := HL6.out.law.setH HTN.out hK8 (h2 := md4 tn ++ [(x0, hd, ek, ea, eb)]) (by rw [eF, List.length_append, HNH.out]; exact hR8) hK10 hR10
                 rw [← HMD.out] at hA10
                 have hL10 : McL M1 T bh bn b11 p M10 lab10 K10 labK10 s5 _ md5 nw4 (nw4 tn) := ⟨hM10, hB10, Mm.le_trans HL6.out.m1 (Mm.le_trans (stable_kp hK8 (by omega)) (stable_kp hK10 (by omega))), hA10, (HL6.out.drow.keep hK8 (by omega)).keep hK10 (by omega)⟩
                 have hEnd := h
                 go_wp2
                 all_goals (go_meet; (case rel => exact ⟨M10, lab10, K10, labK10, _, _, hEnd, hL10⟩))
             case rest =>
              as_aux_lemma =>
               obtain ⟨M8, lab8, K8, labK8, fh8, d8, h8, hL8⟩ := hcut
               clear h
               obtain ⟨w, rfl⟩ : ∃ q : World, q = wc := ⟨_, rfl⟩
               go_wp2
               go_meet
               case rel => exact ⟨M8, lab8, K8, labK8, fh8, d8, h8, hL8⟩
       case rest =>
       obtain ⟨M8, lab8, K8, labK8, fh8, d8, h8, hL8⟩ := hcut
       clear h HL5 hqb d0 d1 hbN hxN eN1
       obtain ⟨w, rfl⟩ : ∃ q : World, q = wc := ⟨_, rfl⟩
       have h := h8
       have hbf8 := hL8.m1le _ _ hbf
       have HL8 := Lib.hid hL8
       have FT := Lib.hid (fun (w : World) (h : Has σ M8 w) => mFault_eq h HL8.out.mach)
       rw [HA5.out.good] at FT
       clear h8 hL8
       go_upto_region 35 with (fail)
       go_loopw [18] (fun u wr => ∃ y : Nat, y ≤ T ∧ u = .int .i64 (y : Nat) ∧ Has σ M8 wr) (fun u _ => T - (intOf u).toNat)
       case atStart => exact ⟨0, Nat.zero_le _, rfl, h⟩
       case round =>
        clear h w
        obtain ⟨w, rfl⟩ : ∃ x : World, x = wr := ⟨_, rfl⟩
        obtain ⟨y, hy, rfl, h⟩ := hrel
        by_cases hyl : y < T
        ·as_aux_lemma =>
          have hyl' : (y : Int) < (T : Int) := by omega
          have hy8 : (y : Int) < 8 := by omega
          have wy : IntKind.i64.wrap ((y : Int) + 1) = ((y + 1 : Nat) : Int) := by rw [show (y : Int) + 1 = ((y + 1 : Nat) : Int) by omega]; exact IntWalk.i64_in _ (by omega)
          have e2y : row[2 + y]? = some (.int .i64 (levT c y : Nat)) := by
           rw [← HRW.out, ints_get (by omega), lev_cell HC.out HNU.out HT.out hyl]
          obtain ⟨elv, lly⟩ := levT_of HC.out HNU.out HT.out hyl
          obtain ⟨curH, Ah, ch, hcb, hfe, eH, _, hE⟩ := HL8.out.atH hyl
          have hbm := HL8.out.base.le _ _ hcb
          have hI5 := HI5.out.2
          have HS8 := Lib.hid (fun (w : World) (h : Has σ M8 w) => has_eq (lst := md5 y) h HL8.out.mach HA5.out HNU.out lly (hE.rd.le HL8.out.base.le) rfl (by have := hI5.short hyl; have := HNU.out.s0.2; omega) (hI5.each hyl))
          obtain ⟨ly, hly⟩ : ∃ ly, levT c y = ly := ⟨_, rfl⟩
          rw [hly] at e2y HS8
          obtain ⟨nh, hnh⟩ : ∃ nh, (md5 y).length = nh := ⟨_, rfl⟩
          rw [hnh] at eH HS8
          have HYL := Lib.hid hyl
          clear hyl hy hly hcb hE hnh hfe elv lly hI5
          go_upto_region 37 with (first
           | (with_reducible show wpList _ _ _ ({ dst := _, op := Op.load 3 _, type := _, pos := _, after := _, guard := _ } :: _) _ _; refine wpList_load1_has h rfl 3 _ rfl rfl hbf8 r1 Tryz.underlying3 rfl ?_))
          refine wp_region_class (Has σ M8) (by kernel_rfl) (by kernel_rfl) h.drew ?_
          clear h
          repeat (first
           | go_big_quiet_skip
           | (go_big_quiet_want; first
            | (refine quiet_load_has 3 _ rfl rfl hbf8 e2y Tryz.underlying3 rfl ?_; simp only [Act.put, List.setIfInBounds_toArray, List.set_cons_zero, List.set_cons_succ]; go_big_quiet_on)
            | (refine quiet_load_has 87 _ rfl rfl hbm eH Tryz.underlying87 rfl ?_; simp only [Act.put, List.setIfInBounds_toArray, List.set_cons_zero, List.set_cons_succ]; go_big_quiet_on)
            | (go_big_quiet_op; first | go_big_quiet_on | go_big_quiet_call (first | with_reducible exact fun _ => rfl | with_reducible exact HS8.out _))))
          refine wpQuiet_nil ?_
          try clear w
          intro w h
          go_wp2
          go_roundw
          case rel => exact ⟨y + 1, by have := HYL.out; omega, by first | rfl | go_num, h⟩
          case measure => have := HYL.out; simp [intOf]; omega
        ·obtain rfl : T = y := by omega
         have hyl' : ¬ (T : Int) < (T : Int) := by omega
         clear hyl hy
         go_wp2_with (first
          | (with_reducible show wpList _ _ _ ({ dst := _, op := Op.load 3 _, type := _, pos := _, after := _, guard := _ } :: _) _ _; refine wpList_load1_has h rfl 3 _ rfl rfl hbf8 r1 Tryz.underlying3 rfl ?_)
          | (go_at_call 24; refine (FT.out _ h).mono ?_; clear h; rintro _ w ⟨rfl, h⟩))
         go_roundw
         case rel => exact ⟨i + 1, M8, lab8, K8, labK8, s5, fh8, md5, nw4, by have := HLT.out; omega, by first | rfl | (have := HLT.out; go_num), h, HL8.out.mach, HL8.out.base, HL8.out.m1, HL8.out.law, ⟨⟨a + 1, m5, g5, by have := HAL.out.1; omega, by have := HAL.out.2.1; have h1 := HI5.out.1; have h2 := HM4.out; omega, HA5.out, HI5.out.2⟩⟩⟩
         case measure => have := HLT.out; simp [intOf]; omega
    ·have TH := Lib.hid (fun (w : World) (h : Has σ M3 w) => mThread_no h HL3.out.mach et (by rw [hA.ttp]; have h1 := HTL.out; have h2 := HT.out; omega))
     clear htt hA hI
     go_wp2_with (first
      | (with_reducible show wpList _ _ _ ({ dst := _, op := Op.load 3 _, type := _, pos := _, after := _, guard := _ } :: _) _ _; refine wpList_load1_has h rfl 3 _ rfl rfl hb11 dd0 Tryz.underlying3 rfl ?_)
      | (go_at_call 13; refine (TH.out _ h).mono ?_; clear h; rintro _ w ⟨rfl, h⟩))
     go_roundw
     case rel => exact ⟨i + 1, M3, lab3, K3, labK3, s, fh, md, nw, by have := HLT.out; omega, by first | rfl | go_num, h, HL3.out.mach, HL3.out.base, HL3.out.m1, HL3.out.law, HA2.out.mono (Nat.le_succ _)⟩
     case measure => have := HLT.out; simp [intOf]; omega
  ·obtain rfl : i = n := by omega
   have hlt3 : ¬ (i : Int) < (i : Int) := by omega
   obtain ⟨a, m, g, ha, hm, hA, hI⟩ := HA2.out.all
   have htp : tp.length = T := by have h1 := HTL.out; have h2 := HT.out; omega
   have OP := Lib.hid (fun (w : World) (h : Has σ M2 w) => open_rel h HM2.out HB2.out (mc_open HC.out HNU.out HG.out HT.out htp) (x := g) ⟨a, m, md, nw, hA, hI, by rw [htp]; omega, by rw [htp]; omega⟩ (by omega) (by omega))
   clear hlt hi hA hI ha hm
   have e30 : ((30 : Nat) : Int) = 30 := rfl
   rw [e30] at OP
   go_upto_region 41 with (fail)
   go_upto_if 252 with (first | (go_at_call 45; refine (OP.out _ h).mono ?_; clear h; rintro _ w ⟨rfl, M3, lab3, g3, s3, h, hM3, hB3, hJ3, hR3⟩; obtain ⟨a3, m3, md3, nw3, hA3, hI3, hb3, _⟩ := hJ3; have FT := Lib.hid (fun (w : World) (h : Has σ M3 w) => mFault_eq h hM3); rw [hA3.good] at FT) | (go_at_call 24; refine (FT.out _ h).mono ?_; clear h; rintro _ w ⟨rfl, h⟩))
   have hrest : ∀ t, t < T → g3.thr t = [] := fun t ht => (mc_idle hA3 (by have := HT.out; omega)).1 (hR3 t (by rw [htp]; exact ht))
   have OD : Hid (∀ (M' : Mm) (w : World) (l : Nat), l < L → Has σ M' w → M3.le M' → Calls Tryz.prog 29 #[.pointer (some ⟨p, 0, none⟩), .int .i64 (l : Nat)] w fun r w' => r = .returned (.int .i64 0) ∧ ∃ M'', Has σ M'' w' ∧ M'.le M'') := Lib.hid fun M' w l ll h hle => mc_odd h (hM3.keep (Kp.le hle fun _ => 0) fun _ _ h => h) hA3 (by omega) HNU.out HG.out ll hI3 hrest
   have hbf3 := hB3.le _ _ (stable_le _ _ _ _ (HS2.out _ _ hbf))
   have HB3 := Lib.hid hB3
   clear hA3 hI3 hR3 hrest hM3 hB3 FT OP hbf2 htp e30 hlt3
   go_upto_region 44 with (fail)
   go_loopw [19] (fun u wr => ∃ (l : Nat) (M' : Mm), l ≤ L ∧ u = .int .i64 (l : Nat) ∧ M3.le M' ∧ Has σ M' wr) (fun u _ => L - (intOf u).toNat)
   case atStart => exact ⟨0, M3, Nat.zero_le _, rfl, Mm.le_refl _, h⟩
   case round =>
    clear h w
    obtain ⟨w, rfl⟩ : ∃ x : World, x = wr := ⟨_, rfl⟩
    obtain ⟨l, M4, hl4, rfl, hle4, h⟩ := hrel
    have hbf4 := hle4 _ _ hbf3
    by_cases hll : l < L
    ·have ODl := Lib.hid (fun (w : World) (h : Has σ M4 w) => OD.out M4 w l hll h hle4)
     have hll' : (l : Int) < (L : Int) := by omega
     have HLL := Lib.hid hll
     clear hll hl4
     go_wp2_with (first
      | (with_reducible show wpList _ _ _ ({ dst := _, op := Op.load 3 _, type := _, pos := _, after := _, guard := _ } :: _) _ _; refine wpList_load1_has h rfl 3 _ rfl rfl hbf4 r0 Tryz.underlying3 rfl ?_)
      | (go_at_call 29; refine (ODl.out _ h).mono ?_; clear h; rintro _ w ⟨rfl, M5, h, hle5⟩))
     go_roundw
     case rel => exact ⟨l + 1, M5, by have := HLL.out; omega, by have := HLL.out; go_num, Mm.le_trans hle4 hle5, h⟩
     case measure => have := HLL.out; simp [intOf]; omega
    ·obtain rfl : L = l := by omega
     have hll' : ¬ (L : Int) < (L : Int) := by omega
     clear hll hl4
     go_wp2_with (first
      | (with_reducible show wpList _ _ _ ({ dst := _, op := Op.load 3 _, type := _, pos := _, after := _, guard := _ } :: _) _ _; refine wpList_load1_has h rfl 3 _ rfl rfl hbf4 r0 Tryz.underlying3 rfl ?_)
      | (go_at_call 38; refine (LI.out M4 _ h).mono ?_; clear h; rintro _ w ⟨rfl, h⟩))
     go_ret
     exact ⟨rfl, h.le (Mm.le_trans HLE1.out (Mm.le_trans HS2.out (Mm.le_trans (stable_le _ _) (Mm.le_trans HB3.out.le hle4))))⟩
end
end Go.Proofs.YtjeeldacnllipaaGreat
