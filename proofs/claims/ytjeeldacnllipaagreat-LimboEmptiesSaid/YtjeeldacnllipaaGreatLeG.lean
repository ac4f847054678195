import Derived.Test.YtjeeldacnllipaaGreatLeE
namespace Go.Proofs.YtjeeldacnllipaaGreat
set_option linter.unusedVariables false
set_option linter.unusedSimpArgs false
set_option linter.unnecessarySimpa false
section
open Go.RowKit
set_option maxHeartbeats 2000000 in
set_option maxRecDepth 20000 in
theorem lEmp_no {σ w : World} {M : Mm} (h : Has σ M w) (c : Nat → Int) (many t : Int) (hm : confMayB c = false) :
  Calls Tryz.prog 5 #[confV c, .int .i64 many, .int .i64 t] w fun r w' => r = .returned (.bool true) ∧ Has σ M w' := by
 have NW := Lib.hid (fun (M' : Mm) (w : World) (h : Has σ M' w) => mNew_no h c hm)
 have NL := Lib.hid (fun (M' : Mm) (w : World) (h : Has σ M' w) => nLevel_eq h t)
 have LI := Lib.hid (fun (M' : Mm) (w : World) (h : Has σ M' w) => lb_lives h)
 have hx : (ints .i64 14 c).extract 0 (0 + 14) = ints .i64 14 c := rfl
 have hz : (ints .i64 14 c).size = 14 := rfl
 unfold errV at NW
 unfold confV at NW ⊢
 generalize ints .i64 14 c = row at NW hx hz ⊢
 clear hm
 go_enter Tryz.func5, Tryz.ntmps5
 go_upto_region 1 with (fail)
 obtain ⟨M1, hbx, hle1, hbf, hnf⟩ := h.box (.cells row 24)
 generalize w.alloc _ = wx at hbx ⊢
 generalize w.heap.size = bf at hbf hnf ⊢
 clear h
 try clear w
 have h := hbx
 clear hbx
 obtain ⟨w, rfl⟩ : ∃ x : World, x = wx := ⟨_, rfl⟩
 go_wp2_with (first
  | ((with_reducible show wpList _ _ _ ({ dst := _, op := Op.load 24 _, type := _, pos := _, after := _, guard := _ } :: _) _ _); refine wpList_agg_has h rfl 24 _ rfl rfl hbf hx hz Tryz.underlying24 rfl (by kernel_rfl) ?_; try simp only [Act.put, List.setIfInBounds_toArray, List.set_cons_zero, List.set_cons_succ])
  | ((go_at_call 9; refine (NW.out _ _ h).mono ?_; clear h; rintro _ w ⟨b, M2, rfl, h, hle2, hn⟩; have hbf := hle2 _ _ hbf))
  | (go_at_call 12; refine (NL.out _ _ h).mono ?_; clear h; rintro _ w ⟨rfl, h⟩)
  | (go_at_call 11; refine (LI.out _ _ h).mono ?_; clear h; rintro _ w ⟨rfl, h⟩))
 go_ret
 exact ⟨rfl, h.le (Mm.le_trans hle1 hle2)⟩
set_option maxHeartbeats 2000000 in
set_option maxRecDepth 20000 in
theorem lEmp_out {σ w : World} {M : Mm} (h : Has σ M w) (c : Nat → Int) (hc : ConfMay c) {L B S T : Nat} (hn : Nums c L B S) (hT : c 1 = (T : Nat)) (many t : Int) (ht : ¬ (many ≤ 100 ∧ 0 ≤ t ∧ t < (T : Int))) :
  Calls Tryz.prog 5 #[confV c, .int .i64 many, .int .i64 t] w fun r w' => r = .returned (.bool true) ∧ Has σ M w' := by
 have NW := Lib.hid (fun (M' : Mm) (w : World) (h : Has σ M' w) => mNew_yes h c hc hn)
 have LI := Lib.hid (fun (M' : Mm) (w : World) (h : Has σ M' w) => lb_lives h)
 have hx : (ints .i64 14 c).extract 0 (0 + 14) = ints .i64 14 c := rfl
 have hz : (ints .i64 14 c).size = 14 := rfl
 have ELV : Hid (100 < many ∨ levelOf c t = -1) := Lib.hid (by
  by_cases hm : 100 < many
  ·exact .inl hm
  ·exact .inr (levT_out hT fun hh => ht ⟨by omega, hh⟩))
 unfold confV at NW ⊢
 generalize ints .i64 14 c = row at NW hx hz ⊢
 clear hc hn hT ht
 go_enter Tryz.func5, Tryz.ntmps5
 go_upto_region 1 with (fail)
 obtain ⟨M1, hbx, hle1, hbf, hnf⟩ := h.box (.cells row 24)
 generalize w.alloc _ = wx at hbx ⊢
 generalize w.heap.size = bf at hbf hnf ⊢
 clear h
 try clear w
 have h := hbx
 clear hbx
 obtain ⟨w, rfl⟩ : ∃ x : World, x = wx := ⟨_, rfl⟩
 go_upto_region 2 with (first
  | ((with_reducible show wpList _ _ _ ({ dst := _, op := Op.load 24 _, type := _, pos := _, after := _, guard := _ } :: _) _ _); refine wpList_agg_has h rfl 24 _ rfl rfl hbf hx hz Tryz.underlying24 rfl (by kernel_rfl) ?_; try simp only [Act.put, List.setIfInBounds_toArray, List.set_cons_zero, List.set_cons_succ])
  | ((go_at_call 9; refine (NW.out _ _ h).mono ?_; clear h; rintro _ w ⟨p, M2, lab2, s, rfl, h, hB2, hM2, hN⟩)))
 have LV := Lib.hid (fun (w : World) (h : Has σ M2 w) => mLevel_eq h hM2 t)
 rw [hN.c] at LV
 have hle2 := hB2.le
 clear hM2 hB2 hN
 rcases ELV.out with h1 | h1
 ·clear ELV
  have g1 : decide ((100 : Int) < many) = true := decide_eq_true h1
  clear h1
  generalize levelOf c t = lv at LV
  go_wp2_with (first
   | (go_at_call 12; refine (LV.out _ h).mono ?_; clear h; rintro _ w ⟨rfl, h⟩)
   | (go_at_call 11; refine (LI.out _ _ h).mono ?_; clear h; rintro _ w ⟨rfl, h⟩))
  go_ret
  exact ⟨rfl, h.le (Mm.le_trans hle1 hle2)⟩
 ·rw [h1] at LV
  clear ELV h1
  by_cases hm : 100 < many
  ·have g1 : decide ((100 : Int) < many) = true := decide_eq_true hm
   clear hm
   go_wp2_with (first
    | (go_at_call 12; refine (LV.out _ h).mono ?_; clear h; rintro _ w ⟨rfl, h⟩)
    | (go_at_call 11; refine (LI.out _ _ h).mono ?_; clear h; rintro _ w ⟨rfl, h⟩))
   go_ret
   exact ⟨rfl, h.le (Mm.le_trans hle1 hle2)⟩
  ·have g1 : decide ((100 : Int) < many) = false := decide_eq_false hm
   clear hm
   go_wp2_with (first
    | (go_at_call 12; refine (LV.out _ h).mono ?_; clear h; rintro _ w ⟨rfl, h⟩)
    | (go_at_call 11; refine (LI.out _ _ h).mono ?_; clear h; rintro _ w ⟨rfl, h⟩))
   go_ret
   exact ⟨rfl, h.le (Mm.le_trans hle1 hle2)⟩
/- What follows the loop. -/
set_option maxHeartbeats 8000000 in
set_option maxRecDepth 20000 in
theorem lEmp_yes {σ w : World} {M : Mm} (h : Has σ M w) (c : Nat → Int) (hc : ConfMay c) {L B S T gens tn : Nat} (hn : Nums c L B S) (hT : c 1 = (T : Nat)) (hg : c 12 = (gens : Nat)) (htn : tn < T) (many : Int) (hmany : many ≤ 100) :
  Calls Tryz.prog 5 #[confV c, .int .i64 many, .int .i64 (tn : Nat)] w fun r w' => r = .returned (.bool true) ∧ Has σ M w' := by
 have NW := Lib.hid (fun (M' : Mm) (w : World) (h : Has σ M' w) => mNew_yes h c hc hn)
 have LI := Lib.hid (fun (M' : Mm) (w : World) (h : Has σ M' w) => lb_lives h)
 have hx : (ints .i64 14 c).extract 0 (0 + 14) = ints .i64 14 c := rfl
 have hz : (ints .i64 14 c).size = 14 := rfl
 have r11 : (ints .i64 14 c)[11]? = some (.int .i64 (B : Nat)) := by rw [← hn.lim]; rfl
 obtain ⟨elv, ll⟩ := levT_of hc hn hT htn
 obtain ⟨lv, hlv⟩ : ∃ lv, levT c tn = lv := ⟨_, rfl⟩
 rw [hlv] at elv ll
 have hs0 := hn.s0
 have hb0 := hn.b0
 have hgn : 1 ≤ gens := by have := hc.2.2.2.2.2.2.1; omega
 have glv : ¬ (lv : Int) < 0 := by omega
 have gmn : ¬ (100 : Int) < many := by omega
 have HC := Lib.hid hc
 have HNU := Lib.hid hn
 have HT := Lib.hid hT
 have HG := Lib.hid hg
 have HGN := Lib.hid hgn
 have HTN := Lib.hid htn
 have HLV := Lib.hid hlv
 have HLL := Lib.hid ll
 have ELV := Lib.hid elv
 have HMANY := Lib.hid hmany
 have HS0 := Lib.hid hs0
 have HB0 := Lib.hid hb0
 obtain ⟨z13, hz13⟩ : ∃ z, 13 * B + 2 = z := ⟨_, rfl⟩
 obtain ⟨z2, hz2⟩ : ∃ z, 2 * B + 1 = z := ⟨_, rfl⟩
 have wa : IntKind.i64.wrap (13 * (B : Int)) = 13 * (B : Int) := IntWalk.i64_in _ (by omega)
 have wb : IntKind.i64.wrap (13 * (B : Int) + 2) = (z13 : Int) := by rw [show 13 * (B : Int) + 2 = (z13 : Int) by omega]; exact IntWalk.i64_in _ (by omega)
 have wc : IntKind.i64.wrap (2 * (B : Int)) = 2 * (B : Int) := IntWalk.i64_in _ (by omega)
 have wd : IntKind.i64.wrap (2 * (B : Int) + 1) = (z2 : Int) := by rw [show 2 * (B : Int) + 1 = (z2 : Int) by omega]; exact IntWalk.i64_in _ (by omega)
 have HZ := Lib.hid hz13
 have HZ2 := Lib.hid hz2
 unfold confV at NW ⊢
 clear hc hn hT hg htn hlv elv ll hgn hmany hs0 hb0 hz13 hz2
 generalize hrw : ints .i64 14 c = row at NW hx hz r11 ⊢
 clear hrw
 go_enter Tryz.func5, Tryz.ntmps5
 go_upto_region 1 with (fail)
 obtain ⟨M1, hbx, hle1, hbf, hnf⟩ := h.box (.cells row 24)
 generalize w.alloc _ = wx at hbx ⊢
 generalize w.heap.size = bf at hbf hnf ⊢
 clear h
 try clear w
 have h := hbx
 clear hbx
 obtain ⟨w, rfl⟩ : ∃ x : World, x = wx := ⟨_, rfl⟩
 go_upto_region 2 with (first
  | ((with_reducible show wpList _ _ _ ({ dst := _, op := Op.load 24 _, type := _, pos := _, after := _, guard := _ } :: _) _ _); refine wpList_agg_has h rfl 24 _ rfl rfl hbf hx hz Tryz.underlying24 rfl (by kernel_rfl) ?_; try simp only [Act.put, List.setIfInBounds_toArray, List.set_cons_zero, List.set_cons_succ])
  | ((go_at_call 9; refine (NW.out _ _ h).mono ?_; clear h; rintro _ w ⟨p, M2, lab2, s, rfl, h, hB2, hM2, hN⟩)))
 obtain ⟨q, hq0⟩ : ∃ q, s.tp[tn]? = some q := ⟨_, List.getElem?_eq_getElem (by have h1 := hM2.tlen; rw [hN.c, HT.out] at h1; have := HTN.out; omega)⟩
 have hA2 := absM_first HNU.out HC.out hN hM2.wsz
 have LV := Lib.hid (fun (w : World) (h : Has σ M2 w) => mLevel_eq h hM2 (tn : Int))
 have TH := Lib.hid (fun (w : World) (h : Has σ M2 w) => mThread_yes h hM2 (t := tn) (q := q) hq0)
 rw [hN.c, ELV.out] at LV
 generalize htp : s.tp = tp at hA2 hq0
 have HQ := Lib.hid hq0
 have HM2 := Lib.hid hM2
 have HB2 := Lib.hid hB2
 have HA2 := Lib.hid hA2
 have HLE1 := Lib.hid hle1
 clear hM2 hB2 hN hA2 NW hle1 hnf hq0 htp
 go_upto_region 10 with (first
  | (go_at_call 12; refine (LV.out _ h).mono ?_; clear h; rintro _ w ⟨rfl, h⟩)
  | (go_at_call 13; refine (TH.out _ h).mono ?_; clear h; rintro _ w ⟨rfl, h⟩))
 clear LV TH
 go_loopw [11, 12] (fun u v wr => ∃ (i j n : Nat) (M : Mm) (lab : Nat → Nat) (s : MachS) (g : GM), i ≤ 100 ∧ n ≤ 99 * i ∧ u = .int .i64 (j : Nat) ∧ v = .int .i64 (i : Nat) ∧ Has σ M wr ∧ Mach M lab p s ∧ Base M1 M lab ∧ AbsM c tp n s g ∧ EmI S B gens L T lv i g j 2 []) (fun _ v _ => 100 - (intOf v).toNat)
 case atStart => exact ⟨0, 0, 0, M2, lab2, s, gm0 B S, by omega, by omega, rfl, rfl, h, HM2.out, HB2.out, HA2.out, EmI.first HS0.out.1 HGN.out⟩
 case round =>
  clear h w HM2 HB2 HA2 M2 lab2 s
  obtain ⟨w, rfl⟩ : ∃ x : World, x = wr := ⟨_, rfl⟩
  obtain ⟨i, j, n, M', lab', s', g, hi, hni, rfl, rfl, h, hM, hB, hA, hI⟩ := hrel
  by_cases hlt : (i : Int) < many
  ·have HIN := Lib.hid (show i < 100 ∧ n ≤ 99 * i by have := HMANY.out; omega)
   have hbf2 := hB.le _ _ hbf
   have P1 := Lib.hid (fun (w : World) (h : Has σ M' w) => em_take h hM hB hA HC.out HNU.out HT.out HG.out (by have := HIN.out; omega) (by have := HIN.out; omega) HTN.out HLV.out HQ.out hI (most := 9) (by omega) (by omega))
   clear hM hB hA hI hi hni
   go_upto_region 13 with (first
    | ((go_at_call 14; refine (P1.out _ h).mono ?_; clear h P1; rintro _ w ⟨k, g2, rfl, k0, kk, M3, lab3, s3, h, hM, hB, hA, hI⟩)))
   obtain ⟨trow, ty, hqb, d0, d1⟩ := m_told hM hA HQ.out
   clear hbf2 k0
   rcases hI with ⟨t0, hI⟩ | ⟨x, x1, x2, t0, t1, hI⟩
   ·rw [t0] at d0
    clear t0
    have HBD := Lib.hid (show n + k ≤ 10500 ∧ i + 1 ≤ 110 by have := HIN.out; omega)
    clear kk
    have HI := Lib.hid hI
    have HM := Lib.hid hM
    have HB := Lib.hid hB
    have HA := Lib.hid hA
    have HJ := Lib.hid (show j ≤ 40 by obtain ⟨_, _, _, _, _, _, _, hp⟩ := hI; have := hp.le; have := HNU.out.b0; omega)
    have hbf2 := hB.le _ _ hbf
    have P1 := Lib.hid (fun (w : World) (h : Has σ M3 w) => em_sweep h HM.out HB.out HA.out HC.out HNU.out HT.out HG.out (by have := HBD.out; omega) (by have := HBD.out; omega) HTN.out HLV.out HQ.out HI.out (.inl rfl) (most := z13) (by rw [← HZ.out]; omega) (by rw [← HZ.out]; have := HNU.out.b0; omega))
    clear hI hM hB hA
    go_wp2_with (first
     | (with_reducible show wpList _ _ _ ({ dst := _, op := Op.load 3 _, type := _, pos := _, after := _, guard := _ } :: _) _ _; refine wpList_load1_has h rfl 3 _ rfl rfl hbf2 r11 Tryz.underlying3 rfl ?_)
     | (with_reducible show wpList _ _ _ ({ dst := _, op := Op.load 42 _, type := _, pos := _, after := _, guard := _ } :: _) _ _; refine wpList_load1_has h rfl 42 _ rfl rfl hqb d0 Tryz.underlying42 rfl ?_)
     | (with_reducible show wpList _ _ _ ({ dst := _, op := Op.load 42 _, type := _, pos := _, after := _, guard := _ } :: _) _ _; refine wpList_load1_has h rfl 42 _ rfl rfl hqb d1 Tryz.underlying42 rfl ?_))
    refine (P1.out _ h).mono ?_
    clear h P1
    rintro _ w ⟨k, g2, rfl, k0, kk, M3, lab3, s3, h, hM3, hB3, hA3, hI3⟩
    replace hI3 := hI3.resolve_right fun hh => absurd hh.1 (by decide)
    obtain ⟨_, t0, hI3⟩ := hI3
    obtain ⟨trow, ty, hqb, d0, d1⟩ := m_told hM3 hA3 HQ.out
    rw [t0] at d0
    have gk : decide ((0 : Int) < (k : Int)) = true := decide_eq_true (by omega)
    have gk2 : decide (0 < k) = true := decide_eq_true k0
    have HKK := Lib.hid (show k ≤ 522 by have := HZ.out; have := HNU.out.b0; omega)
    have HM3 := Lib.hid hM3
    have HB3 := Lib.hid hB3
    have HA3 := Lib.hid hA3
    have HI3 := Lib.hid hI3
    clear hM3 hB3 hA3 hI3 HM HB HA HI hbf2 k0 kk
    go_wp2_with (first
     | (with_reducible show wpList _ _ _ ({ dst := _, op := Op.load 42 _, type := _, pos := _, after := _, guard := _ } :: _) _ _; refine wpList_load1_has h rfl 42 _ rfl rfl hqb d0 Tryz.underlying42 rfl ?_))
    clear hqb d0 d1
    have P2 := Lib.hid (fun (w : World) (h : Has σ M3 w) => em_adv h HM3.out HB3.out HA3.out HC.out HNU.out HT.out HG.out (by have := HBD.out; have := HKK.out; omega) (by have := HBD.out; have := HNU.out.b0; omega) HTN.out HLV.out HQ.out HI3.out (most := 20) (by omega) (by omega))
    refine (P2.out _ h).mono ?_
    clear h P2
    rintro _ w ⟨k2, g4, rfl, k20, kk2, M4, lab4, s4, h, hM4, hB4, hA4, hI4⟩
    have HKK2 := Lib.hid kk2
    have P3 := Lib.hid (fun (w : World) (h : Has σ M4 w) => em_adv h hM4 hB4 hA4 HC.out HNU.out HT.out HG.out (by have := HBD.out; have := HKK.out; omega) (by have := HBD.out; have := HNU.out.b0; omega) HTN.out HLV.out HQ.out hI4 (most := 20) (by omega) (by omega))
    clear hM4 hB4 hA4 hI4 HM3 HB3 HA3 HI3 k20 kk2
    go_wp2_with (fail)
    refine (P3.out _ h).mono ?_
    clear h P3
    rintro _ w ⟨k3, g5, rfl, k30, kk3, M5, lab5, s5, h, hM5, hB5, hA5, hI5⟩
    have HKK3 := Lib.hid kk3
    have hbf5 := hB5.le _ _ hbf
    have P4 := Lib.hid (fun (w : World) (h : Has σ M5 w) => em_sweep h hM5 hB5 hA5 HC.out HNU.out HT.out HG.out (by have := HBD.out; have := HKK.out; have := HKK2.out; omega) (by have := HBD.out; have := HNU.out.b0; omega) HTN.out HLV.out HQ.out hI5 (.inr rfl) (most := z13) (by rw [← HZ.out]; omega) (by rw [← HZ.out]; have := HNU.out.b0; omega))
    clear hM5 hB5 hA5 hI5 k30 kk3
    go_wp2_with (first
     | (with_reducible show wpList _ _ _ ({ dst := _, op := Op.load 3 _, type := _, pos := _, after := _, guard := _ } :: _) _ _; refine wpList_load1_has h rfl 3 _ rfl rfl hbf5 r11 Tryz.underlying3 rfl ?_))
    refine (P4.out _ h).mono ?_
    clear h P4
    rintro _ w ⟨k4, g6, rfl, k40, kk4, M6, lab6, s6, h, hM6, hB6, hA6, hI6⟩
    replace hI6 := hI6.resolve_left fun hh => absurd hh.1 (by decide)
    obtain ⟨_, t0', hI6⟩ := hI6
    obtain ⟨trow, ty, hqb, d0, d1⟩ := m_told hM6 hA6 HQ.out
    rw [t0'] at d0
    obtain ⟨Lf, C, had, ep, I6, b1, b2, b3⟩ := hI6
    have X6 := I6.lv lv HLL.out
    have TH6 := Lib.hid (fun (w : World) (h : Has σ M6 w) => mThread_yes h hM6 (t := tn) (q := q) (by rw [hA6.ttp]; exact HQ.out))
    have CE6 := Lib.hid (fun (w : World) (h : Has σ M6 w) => cells24_eq h hM6 hA6 HNU.out HLL.out X6.len X6.w)
    have WA6 := Lib.hid (fun (M' : Mm) (hle : M6.le M') (w : World) (h : Has σ M' w) => mWarden_eq h (hM6.keep (Kp.le hle fun _ => 0) fun _ _ h => h))
    have HE6 := Lib.hid (fun (M' : Mm) (hle : M6.le M') (w : World) (h : Has σ M' w) => held_eq h (hM6.keep (Kp.le hle fun _ => 0) fun _ _ h => h) hA6 HNU.out HLL.out)
    rw [X6.hx.count, b1, b3.zero.2] at HE6
    have OD6 := Lib.hid (fun (M' : Mm) (hle : M6.le M') (w : World) (h : Has σ M' w) => lb_odd h (hM6.keep (Kp.le hle fun _ => 0) fun _ _ h => h) hA6 (by have := HBD.out; have := HKK.out; have := HKK2.out; have := HKK3.out; have := HZ.out; have := HNU.out.b0; omega) HNU.out HG.out HLL.out X6)
    have FT6 := Lib.hid (fun (M' : Mm) (hle : M6.le M') (w : World) (h : Has σ M' w) => mFault_eq h (hM6.keep (Kp.le hle fun _ => 0) fun _ _ h => h))
    rw [hA6.good] at FT6
    have wj : IntKind.u64.wrap ((j : Nat) : Int) = ((j : Nat) : Int) := IntWalk.u64_in _ (by have := HJ.out; omega)
    have ej : ((j : Int) == (j : Int)) = true := beq_self_eq_true _
    have gk4 : decide ((0 : Int) < (k4 : Int)) = true := decide_eq_true (by omega)
    have gk5 : decide (0 < k4) = true := decide_eq_true k40
    have FI := Lib.hid (fun (M' : Mm) (w : World) (v : Value) (h : Has σ M' w) (hr : Rd M' 1 v B (cu (C lv))) => refFilled_eq h hr (by have := HNU.out.b0; omega) (fun u hu => by
     by_cases e : u = 0
     ·subst e; decide
     ·exact (X6.ok u hu e).1))
    rw [b3.zero.1] at FI
    have HB6 := Lib.hid hB6
    clear hM6 hB6 hA6 I6 b1 b2 b3 X6 k40 kk4 hbf5 t0 t0'
    go_wp2_with (first
     | (go_at_call 13; refine (TH6.out _ h).mono ?_; clear h; rintro _ w ⟨rfl, h⟩)
     | (with_reducible show wpList _ _ _ ({ dst := _, op := Op.load 42 _, type := _, pos := _, after := _, guard := _ } :: _) _ _; refine wpList_load1_has h rfl 42 _ rfl rfl hqb d0 Tryz.underlying42 rfl ?_)
     | ((go_at_call 26; refine (CE6.out _ h).mono ?_; clear h; rintro _ w ⟨v, M7, rfl, h, hle7, hrd⟩))
     | ((go_at_call 28; refine (FI.out _ _ _ h hrd).mono ?_; clear h; rintro _ w ⟨rfl, h⟩))
     | ((go_at_call 17; refine (WA6.out _ hle7 _ h).mono ?_; clear h; rintro _ w ⟨rfl, h⟩))
     | ((go_at_call 27; refine (HE6.out _ hle7 _ h).mono ?_; clear h; rintro _ w ⟨rfl, h⟩))
     | ((go_at_call 29; refine (OD6.out _ hle7 _ h).mono ?_; clear h; rintro _ w ⟨rfl, M8, h, hle8⟩; have hle68 := Mm.le_trans hle7 hle8))
     | ((go_at_call 24; refine (FT6.out _ hle68 _ h).mono ?_; clear h; rintro _ w ⟨rfl, h⟩))
     | (go_at_call 11; refine (LI.out _ _ h).mono ?_; clear h; rintro _ w ⟨rfl, h⟩))
    go_ret
    exact ⟨rfl, h.le (Mm.le_trans HLE1.out (Mm.le_trans HB6.out.le hle68))⟩
   ·rw [t0] at d0
    generalize g2.told tn 1 = gn at d1 t1
    clear t0
    have HX := Lib.hid (⟨x1, x2, t1⟩ : 1 ≤ x ∧ x ≤ S ∧ gn ≤ i)
    have HK := Lib.hid kk
    have ne0 : ((x : Int) == 0) = false := beq_eq_false_iff_ne.2 (by omega)
    have ne1 : (x == 0) = false := by simp; omega
    have ne2 : decide ((x : Int) = 0) = false := decide_eq_false (by omega)
    have ne3 : decide (x = 0) = false := decide_eq_false (by omega)
    have hbf3 := hB.le _ _ hbf
    have P2 := Lib.hid (fun (w : World) (h : Has σ M3 w) => em_rsv h hM hB hA HC.out HNU.out HT.out HG.out (by have := HIN.out; have := HK.out; omega) (by have := HIN.out; omega) HTN.out HLV.out HQ.out hI (most := z2) (by rw [← HZ2.out]; omega) (by rw [← HZ2.out]; have := HNU.out.b0; omega))
    have HI3 := Lib.hid hI
    clear hM hB hA hI x1 x2 t1 kk
    go_upto_region 16 with (first
     | (with_reducible show wpList _ _ _ ({ dst := _, op := Op.load 42 _, type := _, pos := _, after := _, guard := _ } :: _) _ _; refine wpList_load1_has h rfl 42 _ rfl rfl hqb d0 Tryz.underlying42 rfl ?_)
     | (with_reducible show wpList _ _ _ ({ dst := _, op := Op.load 42 _, type := _, pos := _, after := _, guard := _ } :: _) _ _; refine wpList_load1_has h rfl 42 _ rfl rfl hqb d1 Tryz.underlying42 rfl ?_))
    clear hqb d0 d1
    go_upto_region 17 with (first
     | (with_reducible show wpList _ _ _ ({ dst := _, op := Op.load 3 _, type := _, pos := _, after := _, guard := _ } :: _) _ _; refine wpList_load1_has h rfl 3 _ rfl rfl hbf3 r11 Tryz.underlying3 rfl ?_)
     | ((go_at_call 14; refine (P2.out _ h).mono ?_; clear h P2; rintro _ w ⟨k2, g3, rfl, k20, kk2, M4, lab4, s4, h, hM, hB, hA, hI⟩)))
    obtain ⟨trow, ty, hqb, d0, d1⟩ := m_told hM hA HQ.out
    have hbf4 := hB.le _ _ hbf
    have HK2 := Lib.hid (show k2 ≤ 81 by have := HZ2.out; have := HNU.out.b0; omega)
    have HM := Lib.hid hM
    have HB := Lib.hid hB
    clear k20 kk2 hbf3 hM hB
    rcases hI with ⟨t0, hjB, hI⟩ | ⟨hj, rfl⟩
    ·rw [t0] at d0
     have eB : ((j : Int) != (B : Int)) = false := by rw [hjB]; simp
     have HA := Lib.hid hA
     have HI := Lib.hid hI
     clear t0 hA hI hjB
     go_wp2_with (first
      | (with_reducible show wpList _ _ _ ({ dst := _, op := Op.load 42 _, type := _, pos := _, after := _, guard := _ } :: _) _ _; refine wpList_load1_has h rfl 42 _ rfl rfl hqb d0 Tryz.underlying42 rfl ?_)
      | (with_reducible show wpList _ _ _ ({ dst := _, op := Op.load 3 _, type := _, pos := _, after := _, guard := _ } :: _) _ _; refine wpList_load1_has h rfl 3 _ rfl rfl hbf4 r11 Tryz.underlying3 rfl ?_))
     obtain ⟨M5, hbx, hle5, hbl, hnl⟩ := h.box (.cells #[.int .u64 (x : Nat)] 42)
     generalize w.alloc _ = wx at hbx ⊢
     generalize w.heap.size = bl at hbl hnl ⊢
     clear h
     try clear w
     have h := hbx
     clear hbx
     obtain ⟨w, rfl⟩ : ∃ x : World, x = wx := ⟨_, rfl⟩
     have P3 := Lib.hid (fun (w : World) (h : Has σ M5 w) => em_give h (HM.out.keep (Kp.le hle5 fun _ => 0) fun _ _ h => h) (HB.out.keep (Kp.le hle5 fun _ => 0) fun h => h) HA.out HC.out HNU.out HT.out HG.out (by have := HIN.out; have := HK.out; have := HK2.out; omega) (by have := HIN.out; omega) HTN.out HLV.out HQ.out HI.out (most := 10) (by omega) (by omega) hbl)
     clear hbl hle5 hnl
     go_at_call 14
     refine (P3.out _ h).mono ?_
     clear h P3 HM HB HA HI HI3 d0 d1 hqb hbf4
     rintro _ w ⟨k3, g4, rfl, k30, kk3, M6, lab6, s6, h, hM, hB, hA, hI⟩
     have HBD := Lib.hid (show n + k + k2 + k3 ≤ 10500 ∧ i + 1 + 1 ≤ 110 by have := HIN.out; have := HK.out; have := HK2.out; omega)
     clear k30 kk3 HIN HK HK2 HX ne0 ne1 ne2 ne3 eB
     have HI := Lib.hid hI
     have HM := Lib.hid hM
     have HB := Lib.hid hB
     have HA := Lib.hid hA
     have HJ := Lib.hid (show j ≤ 40 by obtain ⟨_, _, _, _, _, _, _, hp⟩ := hI; have := hp.le; have := HNU.out.b0; omega)
     have hbf2 := hB.le _ _ hbf
     have P1 := Lib.hid (fun (w : World) (h : Has σ M6 w) => em_sweep h HM.out HB.out HA.out HC.out HNU.out HT.out HG.out (by have := HBD.out; omega) (by have := HBD.out; omega) HTN.out HLV.out HQ.out HI.out (.inl rfl) (most := z13) (by rw [← HZ.out]; omega) (by rw [← HZ.out]; have := HNU.out.b0; omega))
     clear hI hM hB hA
     go_wp2_with (first
      | (with_reducible show wpList _ _ _ ({ dst := _, op := Op.load 3 _, type := _, pos := _, after := _, guard := _ } :: _) _ _; refine wpList_load1_has h rfl 3 _ rfl rfl hbf2 r11 Tryz.underlying3 rfl ?_))
     refine (P1.out _ h).mono ?_
     clear h P1
     rintro _ w ⟨k, g2, rfl, k0, kk, M3, lab3, s3, h, hM3, hB3, hA3, hI3⟩
     replace hI3 := hI3.resolve_right fun hh => absurd hh.1 (by decide)
     obtain ⟨_, t0, hI3⟩ := hI3
     obtain ⟨trow, ty, hqb, d0, d1⟩ := m_told hM3 hA3 HQ.out
     rw [t0] at d0
     have gk : decide ((0 : Int) < (k : Int)) = true := decide_eq_true (by omega)
     have gk2 : decide (0 < k) = true := decide_eq_true k0
     have HKK := Lib.hid (show k ≤ 522 by have := HZ.out; have := HNU.out.b0; omega)
     have HM3 := Lib.hid hM3
     have HB3 := Lib.hid hB3
     have HA3 := Lib.hid hA3
     have HI3 := Lib.hid hI3
     clear hM3 hB3 hA3 hI3 HM HB HA HI hbf2 k0 kk
     go_wp2_with (first
      | (with_reducible show wpList _ _ _ ({ dst := _, op := Op.load 42 _, type := _, pos := _, after := _, guard := _ } :: _) _ _; refine wpList_load1_has h rfl 42 _ rfl rfl hqb d0 Tryz.underlying42 rfl ?_))
     clear hqb d0 d1
     have P2 := Lib.hid (fun (w : World) (h : Has σ M3 w) => em_adv h HM3.out HB3.out HA3.out HC.out HNU.out HT.out HG.out (by have := HBD.out; have := HKK.out; omega) (by have := HBD.out; have := HNU.out.b0; omega) HTN.out HLV.out HQ.out HI3.out (most := 20) (by omega) (by omega))
     refine (P2.out _ h).mono ?_
     clear h P2
     rintro _ w ⟨k2, g4, rfl, k20, kk2, M4, lab4, s4, h, hM4, hB4, hA4, hI4⟩
     have HKK2 := Lib.hid kk2
     have P3 := Lib.hid (fun (w : World) (h : Has σ M4 w) => em_adv h hM4 hB4 hA4 HC.out HNU.out HT.out HG.out (by have := HBD.out; have := HKK.out; omega) (by have := HBD.out; have := HNU.out.b0; omega) HTN.out HLV.out HQ.out hI4 (most := 20) (by omega) (by omega))
     clear hM4 hB4 hA4 hI4 HM3 HB3 HA3 HI3 k20 kk2
     go_wp2_with (fail)
     refine (P3.out _ h).mono ?_
     clear h P3
     rintro _ w ⟨k3, g5, rfl, k30, kk3, M5, lab5, s5, h, hM5, hB5, hA5, hI5⟩
     have HKK3 := Lib.hid kk3
     have hbf5 := hB5.le _ _ hbf
     have P4 := Lib.hid (fun (w : World) (h : Has σ M5 w) => em_sweep h hM5 hB5 hA5 HC.out HNU.out HT.out HG.out (by have := HBD.out; have := HKK.out; have := HKK2.out; omega) (by have := HBD.out; have := HNU.out.b0; omega) HTN.out HLV.out HQ.out hI5 (.inr rfl) (most := z13) (by rw [← HZ.out]; omega) (by rw [← HZ.out]; have := HNU.out.b0; omega))
     clear hM5 hB5 hA5 hI5 k30 kk3
     go_wp2_with (first
      | (with_reducible show wpList _ _ _ ({ dst := _, op := Op.load 3 _, type := _, pos := _, after := _, guard := _ } :: _) _ _; refine wpList_load1_has h rfl 3 _ rfl rfl hbf5 r11 Tryz.underlying3 rfl ?_))
     refine (P4.out _ h).mono ?_
     clear h P4
     rintro _ w ⟨k4, g6, rfl, k40, kk4, M6, lab6, s6, h, hM6, hB6, hA6, hI6⟩
     replace hI6 := hI6.resolve_left fun hh => absurd hh.1 (by decide)
     obtain ⟨_, t0', hI6⟩ := hI6
     obtain ⟨trow, ty, hqb, d0, d1⟩ := m_told hM6 hA6 HQ.out
     rw [t0'] at d0
     obtain ⟨Lf, C, had, ep, I6, b1, b2, b3⟩ := hI6
     have X6 := I6.lv lv HLL.out
     have TH6 := Lib.hid (fun (w : World) (h : Has σ M6 w) => mThread_yes h hM6 (t := tn) (q := q) (by rw [hA6.ttp]; exact HQ.out))
     have CE6 := Lib.hid (fun (w : World) (h : Has σ M6 w) => cells24_eq h hM6 hA6 HNU.out HLL.out X6.len X6.w)
     have WA6 := Lib.hid (fun (M' : Mm) (hle : M6.le M') (w : World) (h : Has σ M' w) => mWarden_eq h (hM6.keep (Kp.le hle fun _ => 0) fun _ _ h => h))
     have HE6 := Lib.hid (fun (M' : Mm) (hle : M6.le M') (w : World) (h : Has σ M' w) => held_eq h (hM6.keep (Kp.le hle fun _ => 0) fun _ _ h => h) hA6 HNU.out HLL.out)
     rw [X6.hx.count, b1, b3.zero.2] at HE6
     have OD6 := Lib.hid (fun (M' : Mm) (hle : M6.le M') (w : World) (h : Has σ M' w) => lb_odd h (hM6.keep (Kp.le hle fun _ => 0) fun _ _ h => h) hA6 (by have := HBD.out; have := HKK.out; have := HKK2.out; have := HKK3.out; have := HZ.out; have := HNU.out.b0; omega) HNU.out HG.out HLL.out X6)
     have FT6 := Lib.hid (fun (M' : Mm) (hle : M6.le M') (w : World) (h : Has σ M' w) => mFault_eq h (hM6.keep (Kp.le hle fun _ => 0) fun _ _ h => h))
     rw [hA6.good] at FT6
     have wj : IntKind.u64.wrap ((j : Nat) : Int) = ((j : Nat) : Int) := IntWalk.u64_in _ (by have := HJ.out; omega)
     have ej : ((j : Int) == (j : Int)) = true := beq_self_eq_true _
     have gk4 : decide ((0 : Int) < (k4 : Int)) = true := decide_eq_true (by omega)
     have gk5 : decide (0 < k4) = true := decide_eq_true k40
     have FI := Lib.hid (fun (M' : Mm) (w : World) (v : Value) (h : Has σ M' w) (hr : Rd M' 1 v B (cu (C lv))) => refFilled_eq h hr (by have := HNU.out.b0; omega) (fun u hu => by
      by_cases e : u = 0
      ·subst e; decide
      ·exact (X6.ok u hu e).1))
     rw [b3.zero.1] at FI
     have HB6 := Lib.hid hB6
     clear hM6 hB6 hA6 I6 b1 b2 b3 X6 k40 kk4 hbf5 t0 t0'
     go_wp2_with (first
      | (go_at_call 13; refine (TH6.out _ h).mono ?_; clear h; rintro _ w ⟨rfl, h⟩)
      | (with_reducible show wpList _ _ _ ({ dst := _, op := Op.load 42 _, type := _, pos := _, after := _, guard := _ } :: _) _ _; refine wpList_load1_has h rfl 42 _ rfl rfl hqb d0 Tryz.underlying42 rfl ?_)
      | ((go_at_call 26; refine (CE6.out _ h).mono ?_; clear h; rintro _ w ⟨v, M7, rfl, h, hle7, hrd⟩))
      | ((go_at_call 28; refine (FI.out _ _ _ h hrd).mono ?_; clear h; rintro _ w ⟨rfl, h⟩))
      | ((go_at_call 17; refine (WA6.out _ hle7 _ h).mono ?_; clear h; rintro _ w ⟨rfl, h⟩))
      | ((go_at_call 27; refine (HE6.out _ hle7 _ h).mono ?_; clear h; rintro _ w ⟨rfl, h⟩))
      | ((go_at_call 29; refine (OD6.out _ hle7 _ h).mono ?_; clear h; rintro _ w ⟨rfl, M8, h, hle8⟩; have hle68 := Mm.le_trans hle7 hle8))
      | ((go_at_call 24; refine (FT6.out _ hle68 _ h).mono ?_; clear h; rintro _ w ⟨rfl, h⟩))
      | (go_at_call 11; refine (LI.out _ _ h).mono ?_; clear h; rintro _ w ⟨rfl, h⟩))
     go_ret
     exact ⟨rfl, h.le (Mm.le_trans HLE1.out (Mm.le_trans HB6.out.le hle68))⟩
    ·replace d0 : trow[0]? = some (.int .u64 1) := by
      rw [d0]
      show some (Value.int .u64 ((put1 g2.told tn _ tn 0 : Nat) : Int)) = _
      rw [put1_same]; rfl
     replace d1 : trow[1]? = some (.int .u64 (j : Nat)) := by
      rw [d1]
      show some (Value.int .u64 ((put1 g2.told tn _ tn 1 : Nat) : Int)) = _
      rw [put1_same]; rfl
     have HA := Lib.hid hA
     have HJ := Lib.hid hj
     clear hA hj
     go_upto_region 21 with (first
      | (with_reducible show wpList _ _ _ ({ dst := _, op := Op.load 42 _, type := _, pos := _, after := _, guard := _ } :: _) _ _; refine wpList_load1_has h rfl 42 _ rfl rfl hqb d0 Tryz.underlying42 rfl ?_))
     go_wp2_with (first
      | (with_reducible show wpList _ _ _ ({ dst := _, op := Op.load 42 _, type := _, pos := _, after := _, guard := _ } :: _) _ _; refine wpList_load1_has h rfl 42 _ rfl rfl hqb d1 Tryz.underlying42 rfl ?_))
     obtain ⟨M5, hbx, hle5, hbl, hnl⟩ := h.box (.cells #[.int .u64 (j : Nat), .int .u64 (x : Nat), .int .u64 (gn : Nat)] 42)
     generalize w.alloc _ = wx at hbx ⊢
     generalize w.heap.size = bl at hbl hnl ⊢
     clear h
     try clear w
     have h := hbx
     clear hbx
     obtain ⟨w, rfl⟩ : ∃ x : World, x = wx := ⟨_, rfl⟩
     have P3 := Lib.hid (fun (w : World) (h : Has σ M5 w) => em_fill h (HM.out.keep (Kp.le hle5 fun _ => 0) fun _ _ h => h) (HB.out.keep (Kp.le hle5 fun _ => 0) fun h => h) HA.out HC.out HNU.out HT.out HG.out (by have := HIN.out; have := HK.out; have := HK2.out; omega) (by have := HIN.out; omega) HTN.out HLV.out HQ.out HI3.out HJ.out HX.out.2.1 (by have := HX.out; have := HIN.out; omega) (most := 9) (by omega) (by omega) hbl)
     clear hbl hle5 hnl
     go_at_call 14
     refine (P3.out _ h).mono ?_
     clear h P3 HM HB HA HI3 d0 d1 hqb hbf4
     rintro _ w ⟨k3, g4, rfl, k30, kk3, M6, lab6, s6, h, hM, hB, hA, hI⟩
     have HM := Lib.hid hM
     have HB := Lib.hid hB
     have HA := Lib.hid hA
     have HI := Lib.hid hI
     have HK3 := Lib.hid kk3
     have wj : IntKind.i64.wrap ((j : Int) + 1) = ((j + 1 : Nat) : Int) := by rw [show (j : Int) + 1 = ((j + 1 : Nat) : Int) by omega]; exact IntWalk.i64_in _ (by have := HJ.out; have := HNU.out.b0; omega)
     have wi : IntKind.i64.wrap ((i : Int) + 1) = ((i + 1 : Nat) : Int) := by rw [show (i : Int) + 1 = ((i + 1 : Nat) : Int) by omega]; exact IntWalk.i64_in _ (by have := HIN.out; omega)
     clear hM hB hA hI kk3 k30
     go_wp2_with (first
      | (fail))
     go_roundw
     case rel => exact ⟨i + 1, j + 1, n + k + k2 + k3, M6, lab6, s6, g4, by have := HIN.out; omega, by have := HIN.out; have := HK.out; have := HK2.out; have := HK3.out; omega, by go_num, by go_num, h, HM.out, HB.out, HA.out, HI.out⟩
     case measure => have := HIN.out; simp [intOf]; omega
  ·have HBD := Lib.hid (show n ≤ 10500 ∧ i ≤ 110 by omega)
   clear hi hni
   have HI := Lib.hid hI
   have HM := Lib.hid hM
   have HB := Lib.hid hB
   have HA := Lib.hid hA
   have HJ := Lib.hid (show j ≤ 40 by obtain ⟨_, _, _, _, _, _, _, hp⟩ := hI; have := hp.le; have := HNU.out.b0; omega)
   have hbf2 := hB.le _ _ hbf
   have P1 := Lib.hid (fun (w : World) (h : Has σ M' w) => em_sweep h HM.out HB.out HA.out HC.out HNU.out HT.out HG.out (by have := HBD.out; omega) (by have := HBD.out; omega) HTN.out HLV.out HQ.out HI.out (.inl rfl) (most := z13) (by rw [← HZ.out]; omega) (by rw [← HZ.out]; have := HNU.out.b0; omega))
   clear hI hM hB hA
   go_wp2_with (first
    | (with_reducible show wpList _ _ _ ({ dst := _, op := Op.load 3 _, type := _, pos := _, after := _, guard := _ } :: _) _ _; refine wpList_load1_has h rfl 3 _ rfl rfl hbf2 r11 Tryz.underlying3 rfl ?_))
   refine (P1.out _ h).mono ?_
   clear h P1
   rintro _ w ⟨k, g2, rfl, k0, kk, M3, lab3, s3, h, hM3, hB3, hA3, hI3⟩
   replace hI3 := hI3.resolve_right fun hh => absurd hh.1 (by decide)
   obtain ⟨_, t0, hI3⟩ := hI3
   obtain ⟨trow, ty, hqb, d0, d1⟩ := m_told hM3 hA3 HQ.out
   rw [t0] at d0
   have gk : decide ((0 : Int) < (k : Int)) = true := decide_eq_true (by omega)
   have gk2 : decide (0 < k) = true := decide_eq_true k0
   have HKK := Lib.hid (show k ≤ 522 by have := HZ.out; have := HNU.out.b0; omega)
   have HM3 := Lib.hid hM3
   have HB3 := Lib.hid hB3
   have HA3 := Lib.hid hA3
   have HI3 := Lib.hid hI3
   clear hM3 hB3 hA3 hI3 HM HB HA HI hbf2 k0 kk
   go_wp2_with (first
    | (with_reducible show wpList _ _ _ ({ dst := _, op := Op.load 42 _, type := _, pos := _, after := _, guard := _ } :: _) _ _; refine wpList_load1_has h rfl 42 _ rfl rfl hqb d0 Tryz.underlying42 rfl ?_))
   clear hqb d0 d1
   have P2 := Lib.hid (fun (w : World) (h : Has σ M3 w) => em_adv h HM3.out HB3.out HA3.out HC.out HNU.out HT.out HG.out (by have := HBD.out; have := HKK.out; omega) (by have := HBD.out; have := HNU.out.b0; omega) HTN.out HLV.out HQ.out HI3.out (most := 20) (by omega) (by omega))
   refine (P2.out _ h).mono ?_
   clear h P2
   rintro _ w ⟨k2, g4, rfl, k20, kk2, M4, lab4, s4, h, hM4, hB4, hA4, hI4⟩
   have HKK2 := Lib.hid kk2
   have P3 := Lib.hid (fun (w : World) (h : Has σ M4 w) => em_adv h hM4 hB4 hA4 HC.out HNU.out HT.out HG.out (by have := HBD.out; have := HKK.out; omega) (by have := HBD.out; have := HNU.out.b0; omega) HTN.out HLV.out HQ.out hI4 (most := 20) (by omega) (by omega))
   clear hM4 hB4 hA4 hI4 HM3 HB3 HA3 HI3 k20 kk2
   go_wp2_with (fail)
   refine (P3.out _ h).mono ?_
   clear h P3
   rintro _ w ⟨k3, g5, rfl, k30, kk3, M5, lab5, s5, h, hM5, hB5, hA5, hI5⟩
   have HKK3 := Lib.hid kk3
   have hbf5 := hB5.le _ _ hbf
   have P4 := Lib.hid (fun (w : World) (h : Has σ M5 w) => em_sweep h hM5 hB5 hA5 HC.out HNU.out HT.out HG.out (by have := HBD.out; have := HKK.out; have := HKK2.out; omega) (by have := HBD.out; have := HNU.out.b0; omega) HTN.out HLV.out HQ.out hI5 (.inr rfl) (most := z13) (by rw [← HZ.out]; omega) (by rw [← HZ.out]; have := HNU.out.b0; omega))
   clear hM5 hB5 hA5 hI5 k30 kk3
   go_wp2_with (first
    | (with_reducible show wpList _ _ _ ({ dst := _, op := Op.load 3 _, type := _, pos := _, after := _, guard := _ } :: _) _ _; refine wpList_load1_has h rfl 3 _ rfl rfl hbf5 r11 Tryz.underlying3 rfl ?_))
   refine (P4.out _ h).mono ?_
   clear h P4
   rintro _ w ⟨k4, g6, rfl, k40, kk4, M6, lab6, s6, h, hM6, hB6, hA6, hI6⟩
   replace hI6 := hI6.resolve_left fun hh => absurd hh.1 (by decide)
   obtain ⟨_, t0', hI6⟩ := hI6
   obtain ⟨trow, ty, hqb, d0, d1⟩ := m_told hM6 hA6 HQ.out
   rw [t0'] at d0
   obtain ⟨Lf, C, had, ep, I6, b1, b2, b3⟩ := hI6
   have X6 := I6.lv lv HLL.out
   have TH6 := Lib.hid (fun (w : World) (h : Has σ M6 w) => mThread_yes h hM6 (t := tn) (q := q) (by rw [hA6.ttp]; exact HQ.out))
   have CE6 := Lib.hid (fun (w : World) (h : Has σ M6 w) => cells24_eq h hM6 hA6 HNU.out HLL.out X6.len X6.w)
   have WA6 := Lib.hid (fun (M' : Mm) (hle : M6.le M') (w : World) (h : Has σ M' w) => mWarden_eq h (hM6.keep (Kp.le hle fun _ => 0) fun _ _ h => h))
   have HE6 := Lib.hid (fun (M' : Mm) (hle : M6.le M') (w : World) (h : Has σ M' w) => held_eq h (hM6.keep (Kp.le hle fun _ => 0) fun _ _ h => h) hA6 HNU.out HLL.out)
   rw [X6.hx.count, b1, b3.zero.2] at HE6
   have OD6 := Lib.hid (fun (M' : Mm) (hle : M6.le M') (w : World) (h : Has σ M' w) => lb_odd h (hM6.keep (Kp.le hle fun _ => 0) fun _ _ h => h) hA6 (by have := HBD.out; have := HKK.out; have := HKK2.out; have := HKK3.out; have := HZ.out; have := HNU.out.b0; omega) HNU.out HG.out HLL.out X6)
   have FT6 := Lib.hid (fun (M' : Mm) (hle : M6.le M') (w : World) (h : Has σ M' w) => mFault_eq h (hM6.keep (Kp.le hle fun _ => 0) fun _ _ h => h))
   rw [hA6.good] at FT6
   have wj : IntKind.u64.wrap ((j : Nat) : Int) = ((j : Nat) : Int) := IntWalk.u64_in _ (by have := HJ.out; omega)
   have ej : ((j : Int) == (j : Int)) = true := beq_self_eq_true _
   have gk4 : decide ((0 : Int) < (k4 : Int)) = true := decide_eq_true (by omega)
   have gk5 : decide (0 < k4) = true := decide_eq_true k40
   have FI := Lib.hid (fun (M' : Mm) (w : World) (v : Value) (h : Has σ M' w) (hr : Rd M' 1 v B (cu (C lv))) => refFilled_eq h hr (by have := HNU.out.b0; omega) (fun u hu => by
    by_cases e : u = 0
    ·subst e; decide
    ·exact (X6.ok u hu e).1))
   rw [b3.zero.1] at FI
   have HB6 := Lib.hid hB6
   clear hM6 hB6 hA6 I6 b1 b2 b3 X6 k40 kk4 hbf5 t0 t0'
   go_wp2_with (first
    | (go_at_call 13; refine (TH6.out _ h).mono ?_; clear h; rintro _ w ⟨rfl, h⟩)
    | (with_reducible show wpList _ _ _ ({ dst := _, op := Op.load 42 _, type := _, pos := _, after := _, guard := _ } :: _) _ _; refine wpList_load1_has h rfl 42 _ rfl rfl hqb d0 Tryz.underlying42 rfl ?_)
    | ((go_at_call 26; refine (CE6.out _ h).mono ?_; clear h; rintro _ w ⟨v, M7, rfl, h, hle7, hrd⟩))
    | ((go_at_call 28; refine (FI.out _ _ _ h hrd).mono ?_; clear h; rintro _ w ⟨rfl, h⟩))
    | ((go_at_call 17; refine (WA6.out _ hle7 _ h).mono ?_; clear h; rintro _ w ⟨rfl, h⟩))
    | ((go_at_call 27; refine (HE6.out _ hle7 _ h).mono ?_; clear h; rintro _ w ⟨rfl, h⟩))
    | ((go_at_call 29; refine (OD6.out _ hle7 _ h).mono ?_; clear h; rintro _ w ⟨rfl, M8, h, hle8⟩; have hle68 := Mm.le_trans hle7 hle8))
    | ((go_at_call 24; refine (FT6.out _ hle68 _ h).mono ?_; clear h; rintro _ w ⟨rfl, h⟩))
    | (go_at_call 11; refine (LI.out _ _ h).mono ?_; clear h; rintro _ w ⟨rfl, h⟩))
   go_ret
   exact ⟨rfl, h.le (Mm.le_trans HLE1.out (Mm.le_trans HB6.out.le hle68))⟩
end
end Go.Proofs.YtjeeldacnllipaaGreat
