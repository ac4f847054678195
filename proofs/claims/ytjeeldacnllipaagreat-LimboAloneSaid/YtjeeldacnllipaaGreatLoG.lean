import Derived.Test.YtjeeldacnllipaaGreatLoF
namespace Go.Proofs.YtjeeldacnllipaaGreat
set_option linter.unusedVariables false
set_option linter.unusedSimpArgs false
set_option linter.unnecessarySimpa false
open List renaming getElem_toArray → qA, getElem_cons_succ → qB, getElem_cons_zero → qC, setIfInBounds_toArray → qD, set_cons_zero → qE, set_cons_succ → qF
section
open Go.RowKit
/- Take. -/
/- Advance. -/
/- Sweep. -/
/- Reserve, and what is empty. -/
/- Release. -/
/- Fill. -/
set_option maxHeartbeats 100000000 in
set_option maxRecDepth 20000 in
theorem laAlone_long {σ w : World} {M : Mm} (h : Has σ M w) (c : Nat → Int) (hc : ConfMay c) {L B S gens T : Nat} (hn : Nums c L B S) (hg : c 12 = (gens : Nat)) (hT : c 1 = (T : Nat)) {A : Option Addr} {n cap : Nat} {lst : List (Int × Int)} (hr : Rd M 2 (.slice A n cap) n (lst.flatMap enc2)) (hl : lst.length = n) (h60 : n ≤ 80) :
    Calls Tryz.prog 3 #[confV c, .slice A n cap] w fun r w' => r = .returned (.bool true) ∧ Has σ M w' := by
  have NW := Lib.hid (fun (M' : Mm) (w : World) (h : Has σ M' w) => mNew_yes h c hc hn)
  have LI := Lib.hid (fun (M' : Mm) (w : World) (h : Has σ M' w) => lb_lives h)
  have hx : (ints .i64 14 c).extract 0 (0 + 14) = ints .i64 14 c := rfl
  have hz : (ints .i64 14 c).size = 14 := rfl
  have r0 : (ints .i64 14 c)[0]? = some (.int .i64 (L : Nat)) := by rw [← hn.lev]; rfl
  have r11 : (ints .i64 14 c)[11]? = some (.int .i64 (B : Nat)) := by rw [← hn.lim]; rfl
  have g60 : decide ((80 : Int) < (n : Int)) = false := decide_eq_false (by omega)
  have g60' : ¬ (80 : Int) < (n : Int) := by omega
  have hl0 := hn.l0
  have hb0 := hn.b0
  have hgn : 1 ≤ gens := by have := hc.2.2.2.2.2.2.1; omega
  have MS := mk_ints L (by omega)
  have MW := mk_uss L (by omega)
  have MU := mk_us B (by omega)
  obtain ⟨z13, hz13⟩ : ∃ z, 13 * B + 2 = z := ⟨_, rfl⟩
  obtain ⟨z2, hz2⟩ : ∃ z, 2 * B + 1 = z := ⟨_, rfl⟩
  have wa : IntKind.i64.wrap (13 * (B : Int)) = 13 * (B : Int) := IntWalk.i64_in _ (by omega)
  have wb : IntKind.i64.wrap (13 * (B : Int) + 2) = (z13 : Int) := by rw [show 13 * (B : Int) + 2 = (z13 : Int) by omega]; exact IntWalk.i64_in _ (by omega)
  have wc : IntKind.i64.wrap (2 * (B : Int)) = 2 * (B : Int) := IntWalk.i64_in _ (by omega)
  have wd : IntKind.i64.wrap (2 * (B : Int) + 1) = (z2 : Int) := by rw [show 2 * (B : Int) + 1 = (z2 : Int) by omega]; exact IntWalk.i64_in _ (by omega)
  have HZ := Lib.hid hz13
  have HZ2 := Lib.hid hz2
  have HC := Lib.hid hc
  have HNU := Lib.hid hn
  have HG := Lib.hid hg
  have HGN := Lib.hid hgn
  have HT := Lib.hid hT
  have HR := Lib.hid hr
  have HL := Lib.hid hl
  have HL0 := Lib.hid hl0
  have HB0 := Lib.hid hb0
  have hn60 : n ≤ 80 := h60
  unfold confV at NW ⊢
  clear hc hn hg hT hr hl h60 hgn hz13 hz2 hl0 hb0
  generalize hrw : ints .i64 14 c = row at NW hx hz r0 r11 ⊢
  clear hrw
  go_enter Tryz.func3, Tryz.ntmps3
  go_upto_region 1 with (fail)
  obtain ⟨M1, hbx, hle1, hbf, hnf⟩ := h.box (.cells row 24)
  generalize w.alloc _ = wx at hbx ⊢
  generalize w.heap.size = bf at hbf hnf ⊢
  clear h
  try clear w
  have h := hbx
  clear hbx
  obtain ⟨w, rfl⟩ : ∃ x : World, x = wx := ⟨_, rfl⟩
  go_upto_region 4 with (first
    | ((with_reducible show wpList _ _ _ ({ dst := _, op := Op.load 24 _, type := _, pos := _, after := _, guard := _ } :: _) _ _); refine wpList_agg_has h rfl 24 _ rfl rfl hbf hx hz Tryz.underlying24 rfl (by kernel_rfl) ?_; try simp only [Act.put, qD, qE, qF])
    | ((go_at_call 9; refine (NW.out _ _ h).mono ?_; clear h; rintro _ w ⟨p, M2, lab2, s, rfl, h, hB2, hM2, hN⟩)))
  have HM2 := Lib.hid hM2
  have HB2 := Lib.hid hB2
  have HN := Lib.hid hN
  have hbf2 := hB2.le _ _ hbf
  clear hM2 hB2 hN NW
  go_upto_region 5 with (first
    | (with_reducible show wpList _ _ _ ({ dst := _, op := Op.load 3 _, type := _, pos := _, after := _, guard := _ } :: _) _ _; refine wpList_load1_has h rfl 3 _ rfl rfl hbf2 r0 Tryz.underlying3 rfl ?_))
  clear MS
  obtain ⟨M3, hbx, hle3, hbh, hnh⟩ := h.box (.cells (nils L).toArray 47)
  generalize w.alloc _ = wx at hbx ⊢
  generalize w.heap.size = bh at hbh hnh ⊢
  clear h
  try clear w
  have h := hbx
  clear hbx
  obtain ⟨w, rfl⟩ : ∃ x : World, x = wx := ⟨_, rfl⟩
  have hO3 : Own (outK M1 M2 (fun _ => 0) 2) M3 47 1 (.slice (some ⟨bh, 0, none⟩) L L) L (nils L) := by
    rw [outK_self (fun c o hc => by show (0 : Nat) ≠ 2; decide)]
    exact ⟨by simp [nils], .inr ⟨bh, L, _, rfl, hnh, hbh, Nat.le_refl _, by have := HL0.out; unfold maxLen; omega, by simp [nils], by rw [Nat.mul_one]; exact List.take_of_length_le (by simp [nils])⟩⟩
  obtain ⟨lab3, K3, labK3, hM3, hB3, hK3, hR3⟩ := HM2.out.rowTo HB2.out (by rw [outK_self (fun c o hc => by show (0 : Nat) ≠ 2; decide)]; exact hle3) hO3
  have hS3 : M1.le (stable K3 labK3) := fun c o hc => by
    obtain ⟨a, b⟩ := hK3 c o hc (by show ¬ (0 : Nat) = 2; decide)
    unfold stable
    rw [if_pos (show labK3 c = 0 from b)]
    exact a
  have hbf3 := hle3 _ _ hbf2
  have HM3 := Lib.hid hM3
  have HB3 := Lib.hid hB3
  have HS3 := Lib.hid hS3
  have HR3 := Lib.hid hR3
  have HLE1 := Lib.hid hle1
  clear hO3 hM3 hB3 hK3 hR3 hS3 hbf2 hle3 hbh hnh HM2 HB2 hle1
  go_upto_region 6 with (first
    | (with_reducible show wpList _ _ _ ({ dst := _, op := Op.load 3 _, type := _, pos := _, after := _, guard := _ } :: _) _ _; refine wpList_load1_has h rfl 3 _ rfl rfl hbf3 r0 Tryz.underlying3 rfl ?_))
  clear MW
  obtain ⟨M4, hbx, hle4, hbw, hnw⟩ := h.box (.cells (nils L).toArray 35)
  generalize w.alloc _ = wx at hbx ⊢
  generalize w.heap.size = bw at hbw hnw ⊢
  clear h
  try clear w
  have h := hbx
  clear hbx
  obtain ⟨w, rfl⟩ : ∃ x : World, x = wx := ⟨_, rfl⟩
  have hO4 : Own (outK K3 M3 labK3 3) M4 35 1 (.slice (some ⟨bw, 0, none⟩) L L) L (nils L) :=
    ⟨by simp [nils], .inr ⟨bw, L, _, rfl, Mm.none_of (outK_le _ _ _ _) hnw, hbw, Nat.le_refl _, by have := HL0.out; unfold maxLen; omega, by simp [nils], by rw [Nat.mul_one]; exact List.take_of_length_le (by simp [nils])⟩⟩
  obtain ⟨lab4, K4, labK4, hM4, hB4, hK4, hR4⟩ := HM3.out.rowTo HB3.out (Mm.le_trans (outK_le _ _ _ _) hle4) hO4
  have hS4 := Mm.le_trans HS3.out (stable_kp hK4 (by omega))
  have hA4 : LawW K4 labK4 L B 0 (.slice (some ⟨bh, 0, none⟩) L L) (.slice (some ⟨bw, 0, none⟩) L L) (fun _ => .slice none 0 0) (fun _ => .slice none 0 0) (fun _ => []) (fun _ => List.replicate B 0) :=
    ⟨HR3.out.keep hK4 (by omega), fun k hk => RowF.nil _ _ _ _, hR4, fun k hk => absurd hk (Nat.not_lt_zero _)⟩
  have HM4 := Lib.hid hM4
  have HB4 := Lib.hid hB4
  have HS4 := Lib.hid hS4
  have HA4 := Lib.hid hA4
  clear hO4 hM4 hB4 hK4 hR4 hS4 hA4 hbf3 hle4 hbw hnw HM3 HB3 HS3 HR3
  go_upto_region 7 with (fail)
  go_loopw [9] (fun u wr => ∃ (k : Nat) (M : Mm) (lab : Nat → Nat) (K : Mm) (labK : Nat → Nat) (fw : Nat → Value), k ≤ L ∧ u = .int .i64 (k : Nat) ∧ Has σ M wr ∧ Mach M lab p s ∧ Base K M lab ∧ M1.le (stable K labK) ∧ LawW K labK L B k (.slice (some ⟨bh, 0, none⟩) L L) (.slice (some ⟨bw, 0, none⟩) L L) (fun _ => .slice none 0 0) fw (fun _ => []) (fun _ => List.replicate B 0)) (fun u _ => L - (intOf u).toNat)
  case atStart => exact ⟨0, M4, lab4, K4, labK4, _, Nat.zero_le _, rfl, h, HM4.out, HB4.out, HS4.out, HA4.out⟩
  case round =>
    clear h w HM4 HB4 HS4 HA4 lab4 K4 labK4 M4 M3 M2
    obtain ⟨w, rfl⟩ : ∃ x : World, x = wr := ⟨_, rfl⟩
    obtain ⟨k, M2, lab2, K2, labK2, fw, hk, rfl, h, hM2, hB2, hS2, hA2⟩ := hrel
    have hbf2 := hB2.le _ _ (stable_le _ _ _ _ (hS2 _ _ hbf))
    by_cases hlt : k < L
    · have HM2 := Lib.hid hM2
      have HB2 := Lib.hid hB2
      have HS2 := Lib.hid hS2
      have HA2 := Lib.hid hA2
      have HLT := Lib.hid hlt
      have hlt' : (k : Int) < (L : Int) := by omega
      have wk : IntKind.i64.wrap ((k : Int) + 1) = ((k + 1 : Nat) : Int) := by rw [show (k : Int) + 1 = ((k + 1 : Nat) : Int) by omega]; exact IntWalk.i64_in _ (by have := HL0.out; omega)
      clear hM2 hB2 hS2 hA2 hlt hk
      go_wp2_with (first
        | (with_reducible show wpList _ _ _ ({ dst := _, op := Op.load 3 _, type := _, pos := _, after := _, guard := _ } :: _) _ _; refine wpList_load1_has h rfl 3 _ rfl rfl hbf2 r0 Tryz.underlying3 rfl ?_)
        | (with_reducible show wpList _ _ _ ({ dst := _, op := Op.load 3 _, type := _, pos := _, after := _, guard := _ } :: _) _ _; refine wpList_load1_has h rfl 3 _ rfl rfl hbf2 r11 Tryz.underlying3 rfl ?_)
        | ((with_reducible show wpList _ _ _ ({ dst := _, op := Op.store 35 _ _, type := _, pos := _, after := _, guard := _ } :: _) _ _); (obtain ⟨M5, h5, hle5, hb5, hn5⟩ := h.box (.cells (cu (List.replicate B 0)).toArray 42)); (obtain ⟨lab5, hM5, hB5⟩ := HM2.out.learn HB2.out hle5); (have hA5 := HA2.out.keep (learn_kp HB2.out.le M5 labK2)); (have rU := learn_rd HB2.out.le labK2 (⟨by rw [cu_len, List.length_replicate, Nat.mul_one], .inr ⟨_, B, _, rfl, hn5, hb5, Nat.le_refl _, by have := HB0.out; unfold maxLen; omega, by rw [List.size_toArray, cu_len, List.length_replicate, Nat.mul_one], by rw [Nat.mul_one]; exact List.take_of_length_le (by rw [cu_len, List.length_replicate]; exact Nat.le_refl _)⟩⟩ : Own M2 M5 42 1 (.slice (some ⟨w.heap.size, 0, none⟩) B B) B (cu (List.replicate B 0)))); (have hS5 := Mm.le_trans HS2.out (stable_kp (learn_kp HB2.out.le M5 labK2) (fun h => h))); (have hO := hA5.wrow.up hB5.le); (have hOle := outK_le (learn K2 M2 M5) M5 (relab K2 labK2 fun _ => 0) 3); (refine wpList_putOne (u := .slice (some ⟨w.heap.size, 0, none⟩) B B) h5 hOle hO rfl 35 _ _ rfl rfl (k := k) rfl HLT.out rfl rfl (by kernel_rfl) ?_); (clear h h5 hOle hO); intro w7 M7 h hle7 hown7))
      obtain ⟨w, rfl⟩ : ∃ x : World, x = w7 := ⟨_, rfl⟩
      obtain ⟨lab7, K7, labK7, hM7, hB7, hK7, hR7⟩ := hM5.rowTo hB5 hle7 hown7
      have hA7 := hA5.push hK7 hR7 rU
      have hS7 := Mm.le_trans hS5 (stable_kp hK7 (by omega))
      clear rU hA5 hM5 hB5 hK7 hR7 hS5 hle5 hb5 hn5
      go_wp2
      go_roundw
      case rel => exact ⟨k + 1, M7, lab7, K7, labK7, _, by have := HLT.out; omega, by go_num, h, hM7, hB7, hS7, hA7⟩
      case measure => have := HLT.out; simp [intOf]; omega
    · have e : L = k := by omega
      subst e
      have hAI : LaJ c S B gens L T s.tp 0 s (fun _ => []) (fun _ => List.replicate B 0) := ⟨⟨0, 0, gm0 B S, _, _, Nat.le_refl _, absM_first HNU.out HC.out HN.out hM2.wsz, Nat.le_refl _, LiI.first HNU.out.s0.1 HGN.out⟩⟩
      have HM2 := Lib.hid hM2
      have HB2 := Lib.hid hB2
      have HS2 := Lib.hid hS2
      have HA2 := Lib.hid hA2
      have HAI := Lib.hid hAI
      have hlt' : ¬ (L : Int) < (L : Int) := by omega
      obtain ⟨tp, HTP⟩ : ∃ tp, Hid (tp = s.tp) := ⟨_, rfl⟩
      obtain ⟨tlen, HTL⟩ : ∃ tl, Hid (tl = tp.length ∧ (tl : Int) = c 1) := ⟨_, Lib.hid ⟨rfl, by rw [HTP.out, hM2.tlen, HN.out.c]⟩⟩
      rw [← HTP.out] at HAI
      clear hM2 hB2 hS2 hA2 hk hlt hAI
      go_upto_region 11 with (first
        | (with_reducible show wpList _ _ _ ({ dst := _, op := Op.load 3 _, type := _, pos := _, after := _, guard := _ } :: _) _ _; refine wpList_load1_has h rfl 3 _ rfl rfl hbf2 r0 Tryz.underlying3 rfl ?_))
      clear hbf2 MU
      go_loopw [10] (fun u wr => ∃ (i : Nat) (M : Mm) (lab : Nat → Nat) (K : Mm) (labK : Nat → Nat) (s : MachS) (fh fw : Nat → Value) (had C : Nat → List Nat), i ≤ n ∧ u = .int .i64 (i : Nat) ∧ Has σ M wr ∧ Mach M lab p s ∧ Base K M lab ∧ M1.le (stable K labK) ∧ LawW K labK L B L (.slice (some ⟨bh, 0, none⟩) L L) (.slice (some ⟨bw, 0, none⟩) L L) fh fw had C ∧ LaJ c S B gens L T tp i s had C) (fun u _ => n - (intOf u).toNat)
      case atStart => exact ⟨0, M2, lab2, K2, labK2, s, _, _, _, _, Nat.zero_le _, rfl, h, HM2.out, HB2.out, HS2.out, HA2.out, HAI.out⟩
      case round =>
        clear h w HM2 HB2 HS2 HA2 HAI HN HTP lab2 K2 labK2 M2 fw
        obtain ⟨w, rfl⟩ : ∃ x : World, x = wr := ⟨_, rfl⟩
        obtain ⟨i, M3, lab3, K3, labK3, s, fh, fw, had, C, hi, rfl, h, hM3, hB3, hS3, hA3, hAI⟩ := hrel
        have HK3 := Lib.hid hB3.le
        have HM3 := Lib.hid hM3
        have HB3 := Lib.hid hB3
        have HS3 := Lib.hid hS3
        have HA3 := Lib.hid hA3
        have HAI := Lib.hid hAI
        clear hM3 hB3 hS3 hA3 hAI
        by_cases hlt : i < n
        · have hrd : Rd K3 2 (.slice A n cap) n (lst.flatMap enc2) := HR.out.le (Mm.le_trans HLE1.out (Mm.le_trans HS3.out (stable_le _ _)))
          obtain ⟨en, he⟩ : ∃ e, lst[i]? = some e := ⟨_, List.getElem?_eq_getElem (by rw [HL.out]; exact hlt)⟩
          obtain ⟨bl, ol, cl, csl, tl2, fzl, hle, hblK, hcl⟩ := hrd.elem (enc := enc2) (fun _ => rfl) hlt he
          have hbl := HK3.out _ _ hblK
          have HBLK := Lib.hid hblK
          obtain ⟨et, ew⟩ := en
          have e0 : csl[ol + i * 2 + 0]? = some (.int .i64 et) := hcl 0 _ rfl
          have e1 : csl[ol + i * 2 + 1]? = some (.int .i64 ew) := hcl 1 _ rfl
          rw [Nat.add_zero] at e0
          cases hle
          have hlt' : (i : Int) < (n : Int) := by omega
          have wi : IntKind.i64.wrap ((i : Int) + 1) = ((i + 1 : Nat) : Int) := by rw [show (i : Int) + 1 = ((i + 1 : Nat) : Int) by omega]; exact IntWalk.i64_in _ (by omega)
          have HLT := Lib.hid hlt
          have LV := Lib.hid (fun (w : World) (h : Has σ M3 w) => mLevel_eq h HM3.out et)
          obtain ⟨a, m, g, Lf, ep, ha, hA, hm, hI⟩ := HAI.out.all
          rw [hA.cc] at LV
          clear hcl hrd he hlt hi hblK
          by_cases htt : 0 ≤ et ∧ et < (T : Int)
          · obtain ⟨tn, rfl⟩ : ∃ tn : Nat, et = (tn : Nat) := ⟨et.toNat, by omega⟩
            have htn : tn < T := by omega
            obtain ⟨elv, ll⟩ := levT_of HC.out HNU.out HT.out htn
            rw [elv] at LV
            obtain ⟨lv, hlv⟩ : ∃ lv, levT c tn = lv := ⟨_, rfl⟩
            rw [hlv] at ll elv LV
            have gl0 : decide ((lv : Int) < 0) = false := decide_eq_false (by omega)
            have gl1 : ¬ (lv : Int) < 0 := by omega
            have hll : (lv : Int) < (L : Int) := by omega
            obtain ⟨q, hq⟩ : ∃ q, tp[tn]? = some q := ⟨_, List.getElem?_eq_getElem (by have h1 := HTL.out; have h2 := HT.out; omega)⟩
            have HQ := Lib.hid hq
            have HALL := Lib.hid (⟨ha, hA, hm, hI⟩ : a ≤ 523 * i ∧ AbsM c tp a s g ∧ m ≤ 41 * i ∧ LiI S B gens L T m g Lf C had ep)
            have HLV := Lib.hid hlv
            have HTN := Lib.hid htn
            have HLL := Lib.hid ll
            have TH := Lib.hid (fun (w : World) (h : Has σ M3 w) => mThread_yes h HM3.out (t := tn) (q := q) (by rw [hA.ttp]; exact hq))
            clear ha hA hm hI hlv elv htt htn hq ll
            go_upto_block 4 with (first
              | (with_reducible show wpList _ _ _ ({ dst := _, op := Op.load 3 _, type := _, pos := _, after := _, guard := _ } :: _) _ _; refine wpList_load1_has h rfl 3 _ rfl rfl hbl e0 Tryz.underlying3 rfl ?_)
              | (with_reducible show wpList _ _ _ ({ dst := _, op := Op.load 3 _, type := _, pos := _, after := _, guard := _ } :: _) _ _; refine wpList_load1_has h rfl 3 _ rfl rfl hbl e1 Tryz.underlying3 rfl ?_)
              | (go_at_call 12; refine (LV.out _ h).mono ?_; clear h; rintro _ w ⟨rfl, h⟩)
              | (go_at_call 13; refine (TH.out _ h).mono ?_; clear h; rintro _ w ⟨rfl, h⟩))
            clear LV TH
            simp only [Act.put, qD, qE, qF]
            go_cut [14, 15, 16, 17, 18, 19] from 62 to 314 (fun n9 _ _ _ _ _ wx => ∃ (k9 : Nat) (M9 : Mm) (lab9 : Nat → Nat) (K9 : Mm) (labK9 : Nat → Nat) (s9 : MachS) (fh9 fw9 : Nat → Value) (had9 C9 : Nat → List Nat), n9 = .int .i64 (k9 : Nat) ∧ Has σ M9 wx ∧ Hid (Mach M9 lab9 p s9 ∧ Base K9 M9 lab9 ∧ M1.le (stable K9 labK9) ∧ LawW K9 labK9 L B L (.slice (some ⟨bh, 0, none⟩) L L) (.slice (some ⟨bw, 0, none⟩) L L) fh9 fw9 had9 C9 ∧ LaJ c S B gens L T tp (i + 1) s9 had9 C9))
            case first =>
             as_aux_lemma =>
              have hbf3 := HK3.out _ _ (stable_le _ _ _ _ (HS3.out _ _ hbf))
              by_cases h0 : ew = 0
              · subst h0
                as_aux_lemma =>
                  have P1 := Lib.hid (fun (w : World) (h : Has σ M3 w) => li_take (most := 4) (t := tn) (m := m) h HM3.out HB3.out HALL.out.2.1 HC.out HNU.out HT.out HG.out (by have := HALL.out.1; have := HLT.out; omega) (by have := HALL.out.2.2.1; have := HLT.out; omega) HTN.out HQ.out HALL.out.2.2.2 (by omega) (by omega))
                  rw [HLV.out] at P1
                  go_wp2_with (first
                    | (fail))
                  refine (P1.out _ h).mono ?_
                  clear h P1
                  rintro _ w ⟨k, g2, rfl, k0, kk, M4, lab4, s4, h, hM4, hB4, hA4, hI4⟩
                  obtain ⟨trow, ty, hqb, d0, d1⟩ := m_told hM4 hA4 HQ.out
                  rcases hI4 with ⟨_, t0, hI4⟩ | ⟨x, r, _, x1, x2, t0, _, hI4⟩
                  · have hAI4 : LaJ c S B gens L T tp (i + 1) s4 had C := ⟨⟨a + k, m + 1, _, _, _, by have := HALL.out.1; omega, hA4, by have := HALL.out.2.2.1; omega, hI4⟩⟩
                    rw [t0] at d0
                    have H4 := Lib.hid (⟨hM4, hB4, HS3.out, HA3.out, hAI4⟩ : _ ∧ _ ∧ _ ∧ _ ∧ _)
                    clear hM4 hB4 hA4 hI4 hAI4 t0 d1
                    go_wp2_with (first
                      | (with_reducible show wpList _ _ _ ({ dst := _, op := Op.load 42 _, type := _, pos := _, after := _, guard := _ } :: _) _ _; refine wpList_load1_has h rfl 42 _ rfl rfl hqb d0 Tryz.underlying42 rfl ?_))
                    go_meet
                    case rel => exact ⟨k, M4, lab4, K3, labK3, s4, fh, fw, had, C, rfl, h, H4⟩
                  · have hAI4 : LaJ c S B gens L T tp (i + 1) s4 (put1 had lv (had lv ++ [x])) C := ⟨⟨a + k, m + 1, _, _, _, by have := HALL.out.1; omega, hA4, by have := HALL.out.2.2.1; omega, hI4⟩⟩
                    have HAI4 := Lib.hid hAI4
                    rw [t0] at d0
                    have hx60 : x ≤ 60 := by have := HNU.out.s0.2; omega
                    have gz : ((x : Int) != 0) = true := by simp; omega
                    have wx : IntKind.i64.wrap (x : Int) = (x : Int) := IntWalk.i64_in _ (by omega)
                    have hTT : s4.tp[tn]? = some q := by rw [hA4.ttp]; exact HQ.out
                    obtain ⟨curH, Ah, ch, hbm, eH, hf⟩ := HA3.out.have_ hB4.le rfl HLL.out
                    have hO4 : OwnF (outK K3 M4 labK3 (10 + lv)) M4 3 (.slice Ah (had lv).length ch) (had lv).length (natv (had lv)) := by rw [← hf]; exact (HA3.out.each lv HLL.out).up hB4.le
                    have hOle4 := outK_le K3 M4 labK3 (10 + lv)
                    have hq4 := told_out (labK := labK3) (j := 10 + lv) hM4 hB4 hTT hqb
                    have hn60h : (had lv).length ≤ 100 := by
                      have X := HALL.out.2.2.2.lv lv HLL.out
                      have h1 := X.hx.count
                      rw [List.length_cons, List.length_append] at h1
                      have h2 : nHeld (g.held lv) S ≤ S := Nat.le_trans (List.length_filter_le _ _) (by simp)
                      have h3 := HNU.out.s0.2
                      omega
                    obtain ⟨nh, hnh⟩ : ∃ nh, (had lv).length = nh := ⟨_, rfl⟩
                    rw [hnh] at eH hO4 hn60h
                    have HNH := Lib.hid hnh
                    have HM4 := Lib.hid hM4
                    have HB4 := Lib.hid hB4
                    have HTT := Lib.hid hTT
                    have hll : (lv : Int) < (L : Int) := by have := HLL.out; omega
                    clear hM4 hB4 hA4 hI4 hAI4 t0 d1 hnh hTT hf
                    go_upto_region 25 with (first
                      | (with_reducible show wpList _ _ _ ({ dst := _, op := Op.load 42 _, type := _, pos := _, after := _, guard := _ } :: _) _ _; refine wpList_load1_has h rfl 42 _ rfl rfl hqb d0 Tryz.underlying42 rfl ?_))
                    clear gz
                    have hg11 := Mm.one_get q (.cells trow ty (0, 0))
                    have hD4 : (Mm.one q (.cells trow ty (0, 0))).le M4 := Mm.one_le hqb
                    refine wp_region_held_drew (S := Has σ (Mm.one q (.cells trow ty (0, 0)))) (by kernel_rfl) (h.drew.le hD4) (fun hHeld => ?_)
                    refine wpAnyH_take (i := 0) (v := ?_) rfl (by kernel_rfl) (by kernel_rfl) (by kernel_rfl) (fun _ _ _ h => h) (Or.inl ⟨by rfl, ?_⟩) hHeld ?_
                    rotate_left
                    · (intro wz _; go_simp; try with_reducible rfl)
                    try simp only [qA, qB, qC, Act.put, qD, qE, qF]
                    refine wpAnyH_take (i := 1) (v := ?_) rfl (by kernel_rfl) (by kernel_rfl) (by kernel_rfl) (fun _ _ _ h => h) (Or.inl ⟨by rfl, ?_⟩) hHeld ?_
                    rotate_left
                    · (intro wz _; go_simp; try with_reducible rfl)
                    try simp only [qA, qB, qC, Act.put, qD, qE, qF]
                    refine wpAnyH_take (i := 2) (v := ?_) rfl (by kernel_rfl) (by kernel_rfl) (by kernel_rfl) (fun _ _ _ h => h) (Or.inl ⟨by rfl, ?_⟩) hHeld ?_
                    rotate_left
                    · (intro wz _; go_simp; try with_reducible rfl)
                    try simp only [qA, qB, qC, Act.put, qD, qE, qF]
                    refine wpAnyH_take (i := 3) (v := ?_) rfl (by kernel_rfl) (by kernel_rfl) (by kernel_rfl) (fun _ _ _ h => h) (Or.inl ⟨by rfl, ?_⟩) hHeld ?_
                    rotate_left
                    · (intro wz _; go_simp; try with_reducible rfl)
                    try simp only [qA, qB, qC, Act.put, qD, qE, qF]
                    refine wpAnyH_take (i := 4) (v := ?_) rfl (by kernel_rfl) (by kernel_rfl) (by kernel_rfl) (fun _ _ _ h => h) (Or.inl ⟨by rfl, ?_⟩) hHeld ?_
                    rotate_left
                    · (intro wz _; go_simp; try with_reducible rfl)
                    try simp only [qA, qB, qC, Act.put, qD, qE, qF]
                    refine wpAnyH_take (i := 6) (v := ?_) rfl (by kernel_rfl) (by kernel_rfl) (by kernel_rfl) (fun _ _ _ h => h) (Or.inl ⟨by rfl, ?_⟩) hHeld ?_
                    rotate_left
                    · (intro wz _; go_simp; try with_reducible rfl)
                    try simp only [qA, qB, qC, Act.put, qD, qE, qF]
                    refine wpAnyH_take (i := 7) (v := ?_) rfl (by kernel_rfl) (by kernel_rfl) (by kernel_rfl) (fun _ _ _ h => h) (Or.inl ⟨by rfl, ?_⟩) hHeld ?_
                    rotate_left
                    · (intro wz _; go_simp; try with_reducible rfl)
                    try simp only [qA, qB, qC, Act.put, qD, qE, qF]
                    refine wpAnyH_take (i := 8) (v := ?_) rfl (by kernel_rfl) (by kernel_rfl) (by kernel_rfl) (fun _ _ _ h => h) (Or.inl ⟨by rfl, ?_⟩) hHeld ?_
                    rotate_left
                    · (intro wz _; go_simp; try with_reducible rfl)
                    try simp only [qA, qB, qC, Act.put, qD, qE, qF]
                    refine wpAnyH_take (i := 9) (v := ?_) rfl (by kernel_rfl) (by kernel_rfl) (by kernel_rfl) (fun _ _ _ h => h) (Or.inl ⟨by rfl, ?_⟩) hHeld ?_
                    rotate_left
                    · (intro wz _; go_simp; try with_reducible rfl)
                    try simp only [qA, qB, qC, Act.put, qD, qE, qF]
                    refine wpAnyH_take (i := 10) (v := _) rfl (by kernel_rfl) (by kernel_rfl) (by kernel_rfl) (fun _ _ _ h => h) (yields_load1 rfl 42 _ rfl rfl hg11 d0 Tryz.underlying42 rfl) hHeld ?_
                    try simp only [qA, qB, qC, Act.put, qD, qE, qF]
                    refine wpAnyH_take (i := 11) (v := ?_) rfl (by kernel_rfl) (by kernel_rfl) (by kernel_rfl) (fun _ _ _ h => h) (Or.inl ⟨by rfl, ?_⟩) hHeld ?_
                    rotate_left
                    · (intro wz _; go_simp; try with_reducible rfl)
                    try simp only [qA, qB, qC, Act.put, qD, qE, qF]
                    replace h := h.drew
                    generalize w.drew = wq at h hHeld ⊢
                    clear w hg11
                    obtain ⟨w, rfl⟩ : ∃ q : World, q = wq := ⟨_, rfl⟩
                    refine wpAnyH_ready (rs := [5, 12]) (by kernel_rfl) (by simp) ?_
                    refine AllReadyH.cons rfl (fun K hK => ?_) (AllReadyH.cons rfl (fun K hK => ?_) AllReadyH.nil)
                    · skip
                      refine step_yields rfl (yields_load1 rfl 47 _ rfl rfl hbm eH Tryz.underlying47 rfl) h ?_
                      refine hK.out _ _ hHeld (fun hHeld => ?_); clear hK K; try simp only [Act.put, qD, qE, qF]
                      refine wpAnyH_ready (rs := [12]) (by kernel_rfl) (by simp) ?_
                      refine AllReadyH.cons rfl (fun K hK => ?_) AllReadyH.nil
                      go_simp
                      refine hK.out _ _ ((h.quietAlloc _).le hD4) (fun hHeld => ?_)
                      clear hK K
                      try simp only [Act.put, qD, qE, qF]
                      refine wpAnyH_ready (rs := [13]) (by kernel_rfl) (by simp) ?_
                      refine AllReadyH.cons rfl (fun K hK => ?_) AllReadyH.nil
                      (refine step_applitF h hOle4 rfl _ _ _ rfl rfl Tryz.underlying47 info_int rfl rfl hO4 rfl rfl (by omega) (by omega) ?_; clear h hHeld hOle4 hO4; intro v w M5 h hle5 hown5)
                      refine hK.out _ _ (h.le (Mm.one_le (hle5 _ _ hq4))) (fun hHeld => ?_)
                      clear hK K
                      try simp only [Act.put, qD, qE, qF]
                      obtain ⟨A5, c5, rfl⟩ := hown5.rd.form
                      obtain ⟨lab5, K5, labK5, hM5, hB5, hK5, hR5⟩ := HM4.out.rowToF HB4.out hle5 hown5
                      have hq5 := hle5 _ _ hq4
                      have hH5 := ((HA3.out.hrow).keep hK5 (by omega)).up hB5.le
                      have hHle5 := outK_le K5 M5 labK5 2
                      have hq6 := told_out (labK := labK5) (j := 2) hM5 hB5 HTT.out hq5
                      refine wpAnyH_take (i := 14) (v := ?_) rfl (by kernel_rfl) (by kernel_rfl) (by kernel_rfl) (fun _ _ _ h => h) (Or.inl ⟨by rfl, ?_⟩) hHeld ?_
                      rotate_left
                      · (intro wz _; go_simp; try with_reducible rfl)
                      try simp only [qA, qB, qC, Act.put, qD, qE, qF]
                      refine wpAnyH_ready (rs := [15]) (by kernel_rfl) (by simp) ?_
                      refine AllReadyH.cons rfl (fun K hK => ?_) AllReadyH.nil
                      (refine step_putOne h hHle5 hH5 rfl 47 _ _ rfl rfl (k := lv) rfl HLL.out (u := .slice A5 (nh + 1) c5) rfl rfl (by kernel_rfl) ?_; clear h hHeld hHle5 hH5; intro w M6 h hle6 hown6)
                      refine hK.out _ _ (h.le (Mm.one_le (hle6 _ _ hq6))) (fun hHeld => ?_)
                      clear hK K
                      try simp only [Act.put, qD, qE, qF]
                      refine wpAnyH_done (by kernel_rfl) ?_ _
                      clear hHeld
                      obtain ⟨lab6, K6, labK6, hM6, hB6, hK6, hR6⟩ := hM5.rowTo hB5 hle6 hown6
                      have hA6 := HA3.out.setH HLL.out hK5 (h2 := had lv ++ [x]) (by rw [natv_snoc', List.length_append, HNH.out]; exact hR5) hK6 hR6
                      have hS6 := Mm.le_trans (Mm.le_trans HS3.out (stable_kp hK5 (by omega))) (stable_kp hK6 (by omega))
                      have H6 := Lib.hid (⟨hM6, hB6, hS6, hA6, HAI4.out⟩ : _ ∧ _ ∧ _ ∧ _ ∧ _)
                      clear hM6 hB6 hS6 hA6 hM5 hB5 hK5 hR5 hK6 hR6 hq6 hq5 hle5 hown5 hle6 hown6
                      go_wp2
                      go_meet
                      case rel => exact ⟨k, M6, lab6, K6, labK6, s4, _, fw, _, C, rfl, h, H6⟩
                    · skip
                      go_simp
                      refine hK.out _ _ ((h.quietAlloc _).le hD4) (fun hHeld => ?_)
                      clear hK K
                      try simp only [Act.put, qD, qE, qF]
                      refine wpAnyH_ready (rs := [5]) (by kernel_rfl) (by simp) ?_
                      refine AllReadyH.cons rfl (fun K hK => ?_) AllReadyH.nil
                      refine step_yields rfl (yields_load1 rfl 47 _ rfl rfl hbm eH Tryz.underlying47 rfl) (h.quietAlloc _) ?_
                      refine hK.out _ _ hHeld (fun hHeld => ?_); clear hK K; try simp only [Act.put, qD, qE, qF]
                      refine wpAnyH_ready (rs := [13]) (by kernel_rfl) (by simp) ?_
                      refine AllReadyH.cons rfl (fun K hK => ?_) AllReadyH.nil
                      (refine step_applitF h hOle4 rfl _ _ _ rfl rfl Tryz.underlying47 info_int rfl rfl hO4 rfl rfl (by omega) (by omega) ?_; clear h hHeld hOle4 hO4; intro v w M5 h hle5 hown5)
                      refine hK.out _ _ (h.le (Mm.one_le (hle5 _ _ hq4))) (fun hHeld => ?_)
                      clear hK K
                      try simp only [Act.put, qD, qE, qF]
                      obtain ⟨A5, c5, rfl⟩ := hown5.rd.form
                      obtain ⟨lab5, K5, labK5, hM5, hB5, hK5, hR5⟩ := HM4.out.rowToF HB4.out hle5 hown5
                      have hq5 := hle5 _ _ hq4
                      have hH5 := ((HA3.out.hrow).keep hK5 (by omega)).up hB5.le
                      have hHle5 := outK_le K5 M5 labK5 2
                      have hq6 := told_out (labK := labK5) (j := 2) hM5 hB5 HTT.out hq5
                      refine wpAnyH_take (i := 14) (v := ?_) rfl (by kernel_rfl) (by kernel_rfl) (by kernel_rfl) (fun _ _ _ h => h) (Or.inl ⟨by rfl, ?_⟩) hHeld ?_
                      rotate_left
                      · (intro wz _; go_simp; try with_reducible rfl)
                      try simp only [qA, qB, qC, Act.put, qD, qE, qF]
                      refine wpAnyH_ready (rs := [15]) (by kernel_rfl) (by simp) ?_
                      refine AllReadyH.cons rfl (fun K hK => ?_) AllReadyH.nil
                      (refine step_putOne h hHle5 hH5 rfl 47 _ _ rfl rfl (k := lv) rfl HLL.out (u := .slice A5 (nh + 1) c5) rfl rfl (by kernel_rfl) ?_; clear h hHeld hHle5 hH5; intro w M6 h hle6 hown6)
                      refine hK.out _ _ (h.le (Mm.one_le (hle6 _ _ hq6))) (fun hHeld => ?_)
                      clear hK K
                      try simp only [Act.put, qD, qE, qF]
                      refine wpAnyH_done (by kernel_rfl) ?_ _
                      clear hHeld
                      obtain ⟨lab6, K6, labK6, hM6, hB6, hK6, hR6⟩ := hM5.rowTo hB5 hle6 hown6
                      have hA6 := HA3.out.setH HLL.out hK5 (h2 := had lv ++ [x]) (by rw [natv_snoc', List.length_append, HNH.out]; exact hR5) hK6 hR6
                      have hS6 := Mm.le_trans (Mm.le_trans HS3.out (stable_kp hK5 (by omega))) (stable_kp hK6 (by omega))
                      have H6 := Lib.hid (⟨hM6, hB6, hS6, hA6, HAI4.out⟩ : _ ∧ _ ∧ _ ∧ _ ∧ _)
                      clear hM6 hB6 hS6 hA6 hM5 hB5 hK5 hR5 hK6 hR6 hq6 hq5 hle5 hown5 hle6 hown6
                      go_wp2
                      go_meet
                      case rel => exact ⟨k, M6, lab6, K6, labK6, s4, _, fw, _, C, rfl, h, H6⟩
              · have f0 : (ew == 0) = false := by simpa using h0
                by_cases h12 : ew = 1 ∨ ew = 2
                · rcases h12 with rfl | rfl
                  · clear f0 h0
                    as_aux_lemma =>
                      have P1 := Lib.hid (fun (w : World) (h : Has σ M3 w) => li_rsv (most := z2) (t := tn) (m := m) h HM3.out HB3.out HALL.out.2.1 HC.out HNU.out HT.out HG.out (by have := HALL.out.1; have := HLT.out; omega) (by have := HALL.out.2.2.1; have := HLT.out; omega) HTN.out HQ.out HALL.out.2.2.2 (by have := HZ2.out; have := HB0.out; omega) (by have := HZ2.out; omega) (by have := HZ2.out; have := HB0.out; omega))
                      rw [HLV.out] at P1
                      go_wp2_with (first
                        | (with_reducible show wpList _ _ _ ({ dst := _, op := Op.load 3 _, type := _, pos := _, after := _, guard := _ } :: _) _ _; refine wpList_load1_has h rfl 3 _ rfl rfl hbf3 r11 Tryz.underlying3 rfl ?_))
                      refine (P1.out _ h).mono ?_
                      clear h P1
                      rintro _ w ⟨k, g2, rfl, k0, kk, M4, lab4, s4, h, hM4, hB4, hA4, hI4⟩
                      obtain ⟨trow, ty, hqb, d0, d1⟩ := m_told hM4 hA4 HQ.out
                      obtain ⟨curW, Aw, cw, hbw4, eW, hfW⟩ := HA3.out.wants hB4.le rfl HLL.out HLL.out
                      have hrW := (HA3.out.want lv HLL.out).le (Mm.le_trans (stable_le _ _) hB4.le)
                      rw [hfW] at hrW
                      have EM := Lib.hid (fun (w : World) (h : Has σ M4 w) => refEmpty_eq h hrW (by have := HB0.out; omega))
                      have hll : (lv : Int) < (L : Int) := by have := HLL.out; omega
                      have gk : decide ((k : Int) < 0) = false := decide_eq_false (by omega)
                      have gk' : ¬ (k : Int) < 0 := by omega
                      have hbl4 := hB4.le _ _ HBLK.out
                      have HM4 := Lib.hid hM4
                      have HB4 := Lib.hid hB4
                      have HA4 := Lib.hid hA4
                      have HI4 := Lib.hid hI4
                      have HKK := Lib.hid (show k ≤ 121 by have := HZ2.out; have := HB0.out; omega)
                      have HRW := Lib.hid hrW
                      clear hM4 hB4 hA4 hI4 kk k0 hrW hfW hbl
                      go_upto_region 30 with (first
                        | (with_reducible show wpList _ _ _ ({ dst := _, op := Op.load 35 _, type := _, pos := _, after := _, guard := _ } :: _) _ _; refine wpList_load1_has h rfl 35 _ rfl rfl hbw4 eW Tryz.underlying35 rfl ?_)
                        | ((go_at_call 16; refine (EM.out _ h).mono ?_; clear h; rintro _ w ⟨z, rfl, h, hz⟩)))
                      clear EM
                      rcases HI4.out with ⟨hall, t0, hI4⟩ | ⟨j, j1, j2, j3, hg2⟩
                      · obtain rfl : z = -1 := by
                          rcases hz with ⟨_, e⟩ | ⟨i, i1, _, i3, _⟩
                          · exact e
                          · exact absurd i3 (hall i i1)
                        have hAI4 : LaJ c S B gens L T tp (i + 1) s4 had C := ⟨⟨a + k, m, _, _, _, by have := HALL.out.1; have := HKK.out; omega, HA4.out, by have := HALL.out.2.2.1; omega, hI4⟩⟩
                        rw [t0] at d0
                        have H4 := Lib.hid (⟨HM4.out, HB4.out, HS3.out, HA3.out, hAI4⟩ : _ ∧ _ ∧ _ ∧ _ ∧ _)
                        clear hI4 hAI4 t0 d1 hall hz
                        go_wp2_with (first
                          | (with_reducible show wpList _ _ _ ({ dst := _, op := Op.load 42 _, type := _, pos := _, after := _, guard := _ } :: _) _ _; refine wpList_load1_has h rfl 42 _ rfl rfl hqb d0 Tryz.underlying42 rfl ?_))
                        go_meet
                        case rel => exact ⟨k, M4, lab4, K3, labK3, s4, fh, fw, had, C, rfl, h, H4⟩
                      subst hg2
                      obtain rfl : z = (j : Nat) := by
                        rcases hz with ⟨e, _⟩ | ⟨i, i1, i2, i3, e⟩
                        · exact absurd j3 (e j j1)
                        · rw [e]
                          rcases Nat.lt_trichotomy i j with h1 | h1 | h1
                          · exact absurd i3 (j2 i h1)
                          · rw [h1]
                          · exact absurd j3 (i2 j h1)
                      replace d0 : trow[0]? = some (.int .u64 1) := by
                        rw [d0]
                        show some (Value.int .u64 ((put1 g.told tn _ tn 0 : Nat) : Int)) = _
                        rw [put1_same]; rfl
                      replace d1 : trow[1]? = some (.int .u64 (j : Nat)) := by
                        rw [d1]
                        show some (Value.int .u64 ((put1 g.told tn _ tn 1 : Nat) : Int)) = _
                        rw [put1_same]; rfl
                      have HJ := Lib.hid (⟨j1, j3⟩ : j < B ∧ (C lv).getD j 0 = 0)
                      have wj : IntKind.u64.wrap (j : Int) = (j : Int) := IntWalk.u64_in _ (by have := HB0.out; omega)
                      have ej : ((j : Int) != (j : Int)) = false := by simp
                      have gj : decide ((j : Int) < 0) = false := decide_eq_false (by omega)
                      have gj2 : ¬ (j : Int) < 0 := by omega
                      have gj3 : decide ((0 : Int) ≤ (j : Int)) = true := decide_eq_true (by omega)
                      have gj4 : (0 : Int) ≤ (j : Int) := by omega
                      clear hz j1 j2 j3
                      go_upto_region 33 with (first
                        | (with_reducible show wpList _ _ _ ({ dst := _, op := Op.load 42 _, type := _, pos := _, after := _, guard := _ } :: _) _ _; refine wpList_load1_has h rfl 42 _ rfl rfl hqb d0 Tryz.underlying42 rfl ?_)
                        | (with_reducible show wpList _ _ _ ({ dst := _, op := Op.load 42 _, type := _, pos := _, after := _, guard := _ } :: _) _ _; refine wpList_load1_has h rfl 42 _ rfl rfl hqb d1 Tryz.underlying42 rfl ?_))
                      clear hqb d0 d1 ej gj gj2 gj3 gj4 gk gk'
                      as_aux_lemma =>
                        obtain ⟨hl, hhd⟩ : ∃ hl, had lv = hl := ⟨_, rfl⟩
                        obtain ⟨curH, Ah, ch, hbh4, eH, hfH⟩ := HA3.out.have_ HB4.out.le rfl HLL.out
                        cases hl with
                        | nil =>
                          rw [hhd, List.length_nil] at eH
                          clear hhd hfH
                          go_wp2_with (first
                            | (with_reducible show wpList _ _ _ ({ dst := _, op := Op.load 3 _, type := _, pos := _, after := _, guard := _ } :: _) _ _; refine wpList_load1_has h rfl 3 _ rfl rfl hbl4 e1 Tryz.underlying3 rfl ?_)
                            | (with_reducible show wpList _ _ _ ({ dst := _, op := Op.load 47 _, type := _, pos := _, after := _, guard := _ } :: _) _ _; refine wpList_load1_has h rfl 47 _ rfl rfl hbh4 eH Tryz.underlying47 rfl ?_))
                          obtain ⟨M5, hbx, hle5, hb5, hn5⟩ := h.box (.cells #[.int .u64 (j : Nat)] 42)
                          generalize w.alloc _ = wx at hbx ⊢
                          generalize w.heap.size = b5 at hb5 hn5 ⊢
                          clear h
                          try clear w
                          have h := hbx
                          clear hbx
                          obtain ⟨w, rfl⟩ : ∃ x : World, x = wx := ⟨_, rfl⟩
                          have hrd5 : Rd M5 1 (.slice (some ⟨b5, 0, none⟩) 1 1) 1 (u64s ([j].map fun u : Nat => (u : Int))) := ⟨rfl, _, _, rfl, Nat.le_refl _, fun _ => ⟨b5, 0, _, _, _, rfl, hb5, fun i u hu => by simpa [u64s] using hu⟩⟩
                          have P3 := Lib.hid (fun (w : World) (h : Has σ M5 w) => li_rel (most := 2) (t := tn) (m := m) h (HM4.out.keep (Kp.le hle5 fun _ => 0) fun _ _ h => h) (HB4.out.keep (Kp.le hle5 fun _ => 0) fun h => h) (by rw [HLV.out]; exact HA4.out) HC.out HNU.out HT.out HG.out (by have := HALL.out.1; have := HLT.out; have := HKK.out; omega) (by have := HALL.out.2.2.1; have := HLT.out; omega) HTN.out HQ.out HALL.out.2.2.2 (by omega) (by omega) (by rw [HLV.out]; exact HJ.out.2) HJ.out.1 hrd5)
                          clear hb5 hle5 hn5 hrd5
                          go_at_call 14
                          refine (P3.out _ h).mono ?_
                          clear h P3
                          rintro _ w ⟨k3, g4, rfl, k30, kk3, M6, lab6, s6, h, hM6, hB6, hA6, hI6⟩
                          have hAI6 : LaJ c S B gens L T tp (i + 1) s6 had C := ⟨⟨a + k + k3, m, _, _, _, by have := HALL.out.1; have := HKK.out; omega, hA6, by have := HALL.out.2.2.1; omega, hI6⟩⟩
                          have H6 := Lib.hid (⟨hM6, hB6, HS3.out, HA3.out, hAI6⟩ : _ ∧ _ ∧ _ ∧ _ ∧ _)
                          clear hM6 hB6 hA6 hI6 hAI6 kk3 k30
                          go_wp2_with (first
                            | (fail))
                          go_meet
                          case rel => exact ⟨k3, M6, lab6, K3, labK3, s6, fh, fw, had, C, rfl, h, H6⟩
                        | cons x rest =>
                          have hR := HA3.out.each lv HLL.out
                          rw [hfH, hhd, List.length_cons] at hR
                          rw [hhd, List.length_cons] at eH
                          obtain ⟨nr, hnr⟩ : ∃ nr, rest.length = nr := ⟨_, rfl⟩
                          rw [hnr] at hR eH
                          obtain ⟨gH, oH, curx, hAh, hgH, hx0⟩ : ∃ gH oH curx, Ah = some ⟨gH, oH, none⟩ ∧ K3 gH = some (.cells curx 3) ∧ curx[oH]? = some (.int .i64 (x : Nat)) := by
                            obtain ⟨_, ⟨_, h0⟩ | ⟨g, o, cap, cur, hv, _, hh, _, _, _, ht⟩⟩ := hR
                            · omega
                            · cases hv; exact ⟨g, o, cur, rfl, hh, by have := ht 0 _ rfl; rwa [Nat.add_zero] at this⟩
                          subst hAh
                          have hgH4 := HB4.out.le _ _ hgH
                          have hRT : RowF K3 labK3 (10 + lv) 3 (.slice (if ch = 1 then some ⟨gH, oH, none⟩ else some ⟨gH, oH + 1, none⟩) nr (ch - 1)) rest.length (natv rest) := by rw [hnr]; exact RowF.tail1 hR
                          have HRT := Lib.hid hRT
                          obtain ⟨x1, x2, _⟩ := (HALL.out.2.2.2.lv lv HLL.out).busy (x := x) (List.mem_cons_of_mem _ (List.mem_append_left _ (by rw [hhd]; exact List.mem_cons_self)))
                          have HX := Lib.hid (⟨x1, x2⟩ : 1 ≤ x ∧ x ≤ S)
                          have HHD := Lib.hid hhd
                          have hj2 : (C lv)[j]? = some 0 := by
                            have h1 := HJ.out.2
                            have h2 : j < (C lv).length := by rw [(HALL.out.2.2.2.lv lv HLL.out).len]; exact HJ.out.1
                            rw [List.getD_eq_getElem?_getD, List.getElem?_eq_getElem h2] at h1
                            rw [List.getElem?_eq_getElem h2]
                            exact congrArg some h1
                          have HJ2 := Lib.hid hj2
                          have gl : (((nr + 1 : Nat) : Int) == 0) = false := beq_eq_false_iff_ne.2 (by omega)
                          have gl2 : ((nr : Int) + 1 == 0) = false := beq_eq_false_iff_ne.2 (by omega)
                          clear hRT hR hgH hfH hhd hj2 x1 x2
                          go_upto_region 35 with (first
                            | (with_reducible show wpList _ _ _ ({ dst := _, op := Op.load 3 _, type := _, pos := _, after := _, guard := _ } :: _) _ _; refine wpList_load1_has h rfl 3 _ rfl rfl hbl4 e1 Tryz.underlying3 rfl ?_)
                            | (with_reducible show wpList _ _ _ ({ dst := _, op := Op.load 47 _, type := _, pos := _, after := _, guard := _ } :: _) _ _; refine wpList_load1_has h rfl 47 _ rfl rfl hbh4 eH Tryz.underlying47 rfl ?_))
                          clear hbl4
                          have hH4 := (HA3.out.hrow).up HB4.out.le
                          have hHle4 := outK_le K3 M4 labK3 2
                          go_upto_region 37 with (first
                            | (with_reducible show wpList _ _ _ ({ dst := _, op := Op.load 47 _, type := _, pos := _, after := _, guard := _ } :: _) _ _; refine wpList_load1_has h rfl 47 _ rfl rfl hbh4 eH Tryz.underlying47 rfl ?_)
                            | (with_reducible show wpList _ _ _ ({ dst := _, op := Op.load 3 _, type := _, pos := _, after := _, guard := _ } :: _) _ _; refine wpList_load1_has h rfl 3 _ rfl rfl hgH4 hx0 Tryz.underlying3 rfl ?_)
                            | ((with_reducible show wpList _ _ _ ({ dst := _, op := Op.store 47 _ _, type := _, pos := _, after := _, guard := _ } :: _) _ _); (refine wpList_putOne (u := (.slice (if ch = 1 then some ⟨gH, oH, none⟩ else some ⟨gH, oH + 1, none⟩) nr (ch - 1))) h hHle4 hH4 rfl 47 _ _ rfl rfl (k := lv) rfl HLL.out rfl rfl (by kernel_rfl) ?_); (clear h hH4); intro w7 M7 h hle7 hown7; (generalize hVad : (if ch = 1 then (some ⟨gH, oH, none⟩ : Option Addr) else some ⟨gH, oH + 1, none⟩) = Vad at hown7 HRT ⊢); (clear hVad)))
                          clear hbh4 eH hgH4 hx0 gl gl2
                          obtain ⟨w, rfl⟩ : ∃ q : World, q = w7 := ⟨_, rfl⟩
                          obtain ⟨lab7, K7, labK7, hM7, hB7, hK7, hR7⟩ := HM4.out.rowTo HB4.out hle7 hown7
                          have hA7 := HA3.out.setH HLL.out (K' := K3) (labK' := labK3) (fun c o hc _ => ⟨hc, rfl⟩) (h2 := rest) HRT.out hK7 hR7
                          have hS7 := Mm.le_trans HS3.out (stable_kp hK7 (by omega))
                          obtain ⟨lk, hlk, hlk64⟩ : ∃ lk : Nat, s4.ward.link (lv : Nat) (x : Nat) = (lk : Int) ∧ lk < 18446744073709551616 := by
                            unfold WardS.link
                            split
                            · exact ⟨_, rfl, by rw [mkLink_eq]; omega⟩
                            · exact ⟨0, rfl, by omega⟩
                          have WD7 := Lib.hid (fun (w : World) (h : Has σ M7 w) => mWarden_eq h hM7)
                          have LK7 := Lib.hid (fun (w : World) (h : Has σ M7 w) => wardLink_eq h hM7.ward (lv : Nat) (x : Nat) (by rw [HA4.out.ward.sl, HNU.out.slo]; have := HNU.out.s0.2; omega) (by have := HA4.out.ward.gens (lv : Nat) (x : Nat); have := HALL.out.1; have := HKK.out; have := HLT.out; omega))
                          rw [hlk] at LK7
                          have LG7 := Lib.hid (linkGen_any lk hlk64)
                          obtain ⟨gn, hgn⟩ : ∃ gn, cutN lk 8 32 = gn := ⟨_, rfl⟩
                          have hgn32 : gn < 4294967296 := by rw [← hgn]; exact cutN_lt lk 8 32
                          rw [hgn] at LG7
                          clear hgn hlk hlk64
                          have wx : IntKind.u64.wrap (x : Int) = (x : Int) := IntWalk.u64_in _ (by have := HX.out; have := HNU.out.s0.2; omega)
                          have wg : IntKind.u64.wrap (gn : Int) = (gn : Int) := IntWalk.u64_in _ (by omega)
                          have HGN32 := Lib.hid hgn32
                          have HM7 := Lib.hid hM7
                          have HB7 := Lib.hid hB7
                          have HA7 := Lib.hid hA7
                          have HS7 := Lib.hid hS7
                          clear hgn32 hM7 hB7 hA7 hS7 hK7 hR7 hle7 hown7
                          go_upto_region 38 with (first
                            | (go_at_call 17; refine (WD7.out _ h).mono ?_; clear h; rintro _ w ⟨rfl, h⟩)
                            | (go_at_call 18; refine (LK7.out _ h).mono ?_; clear h; rintro _ w ⟨rfl, h⟩)
                            | ((go_at_call 19; refine (LG7.out _).mono ?_; rintro _ w' ⟨rfl, rfl⟩)))
                          clear WD7 LK7 LG7
                          go_wp2_with (first
                            | (fail))
                          obtain ⟨M8, hbx, hle8, hb8, hn8⟩ := h.box (.cells #[.int .u64 (j : Nat), .int .u64 (x : Nat), .int .u64 (gn : Nat)] 42)
                          generalize w.alloc _ = wx at hbx ⊢
                          generalize w.heap.size = b8 at hb8 hn8 ⊢
                          clear h
                          try clear w
                          have h := hbx
                          clear hbx
                          obtain ⟨w, rfl⟩ : ∃ x : World, x = wx := ⟨_, rfl⟩
                          have hrd8 : Rd M8 1 (.slice (some ⟨b8, 0, none⟩) 3 3) 3 (u64s ([j, x, gn].map fun u : Nat => (u : Int))) := ⟨rfl, _, _, rfl, Nat.le_refl _, fun _ => ⟨b8, 0, _, _, _, rfl, hb8, fun i u hu => by simpa [u64s] using hu⟩⟩
                          have P3 := Lib.hid (fun (w : World) (h : Has σ M8 w) => li_fill (most := 3) (t := tn) (m := m) (had2 := rest) h (HM7.out.keep (Kp.le hle8 fun _ => 0) fun _ _ h => h) (HB7.out.keep (Kp.le hle8 fun _ => 0) fun h => h) (by rw [HLV.out]; exact HA4.out) HC.out HNU.out HT.out HG.out (by have := HALL.out.1; have := HLT.out; have := HKK.out; omega) (by have := HALL.out.2.2.1; have := HLT.out; omega) HTN.out HQ.out HALL.out.2.2.2 (by omega) (by omega) (by rw [HLV.out]; exact HJ2.out) (by have := HX.out; have := HNU.out.s0.2; omega) (by have := HGN32.out; omega) (by rw [HLV.out, HHD.out]) hrd8)
                          rw [HLV.out] at P3
                          clear hb8 hle8 hn8 hrd8
                          go_at_call 14
                          refine (P3.out _ h).mono ?_
                          clear h P3
                          rintro _ w ⟨k3, g4, rfl, k30, kk3, M9, lab9, s9, h, hM9, hB9, hA9, hI9⟩
                          have hAI9 : LaJ c S B gens L T tp (i + 1) s9 (put1 had lv rest) (put1 C lv ((C lv).set j (mkCell x gn (ep lv)))) := ⟨⟨a + k + k3, m, _, _, _, by have := HALL.out.1; have := HKK.out; omega, hA9, by have := HALL.out.2.2.1; omega, hI9⟩⟩
                          have hep := (hI9.ep lv HLL.out).1
                          have hepm := (hI9.ep lv HLL.out).2
                          obtain ⟨curW9, Aw9, cw9, hbw9, eW, hfW9⟩ := HA7.out.wants hB9.le rfl HLL.out HLL.out
                          have hrW9 := (HA7.out.want lv HLL.out).le (Mm.le_trans (stable_le _ _) hB9.le)
                          rw [hfW9] at hrW9
                          have NO := Lib.hid (fun (w : World) (h : Has σ M9 w) => now24_eq h hM9 hA9 HNU.out HLL.out)
                          rw [hep] at NO
                          have CL := Lib.hid (fun (w : World) (h : Has σ M9 w) => refCell_eq h x gn (ep lv) (by have := HX.out; have := HNU.out.s0.2; omega) (by have := HGN32.out; omega) (by have := HALL.out.2.2.1; have := HLT.out; omega))
                          generalize mkCell x gn (ep lv) = cell at *
                          have SE := Lib.hid (fun (w : World) (h : Has σ M9 w) => refSet_eq (x := cell) h hrW9 (by have := HB0.out; omega) HJ.out.1)
                          have HAI9 := Lib.hid hAI9
                          have HM9 := Lib.hid hM9
                          have HB9 := Lib.hid hB9
                          generalize ep lv = epl at *
                          clear hM9 hB9 hA9 hI9 hAI9 kk3 k30 hep hepm hfW9 hrW9 wx wg
                          go_upto_region 39 with (fail)
                          have hnil := Mm.nil_le M9
                          refine wp_region_held_drew (S := Has σ (Mm.nil)) (by kernel_rfl) (h.drew.le hnil) (fun hHeld => ?_)
                          refine wpAnyH_take (i := 0) (v := ?_) rfl (by kernel_rfl) (by kernel_rfl) (by kernel_rfl) (fun _ _ _ h => h) (Or.inl ⟨by rfl, ?_⟩) hHeld ?_
                          rotate_left
                          · (intro wz _; go_simp; try with_reducible rfl)
                          try simp only [qA, qB, qC, Act.put, qD, qE, qF]
                          refine wpAnyH_take (i := 1) (v := ?_) rfl (by kernel_rfl) (by kernel_rfl) (by kernel_rfl) (fun _ _ _ h => h) (Or.inl ⟨by rfl, ?_⟩) hHeld ?_
                          rotate_left
                          · (intro wz _; go_simp; try with_reducible rfl)
                          try simp only [qA, qB, qC, Act.put, qD, qE, qF]
                          refine wpAnyH_take (i := 2) (v := ?_) rfl (by kernel_rfl) (by kernel_rfl) (by kernel_rfl) (fun _ _ _ h => h) (Or.inl ⟨by rfl, ?_⟩) hHeld ?_
                          rotate_left
                          · (intro wz _; go_simp; try with_reducible rfl)
                          try simp only [qA, qB, qC, Act.put, qD, qE, qF]
                          refine wpAnyH_take (i := 3) (v := ?_) rfl (by kernel_rfl) (by kernel_rfl) (by kernel_rfl) (fun _ _ _ h => h) (Or.inl ⟨by rfl, ?_⟩) hHeld ?_
                          rotate_left
                          · (intro wz _; go_simp; try with_reducible rfl)
                          try simp only [qA, qB, qC, Act.put, qD, qE, qF]
                          refine wpAnyH_take (i := 4) (v := ?_) rfl (by kernel_rfl) (by kernel_rfl) (by kernel_rfl) (fun _ _ _ h => h) (Or.inl ⟨by rfl, ?_⟩) hHeld ?_
                          rotate_left
                          · (intro wz _; go_simp; try with_reducible rfl)
                          try simp only [qA, qB, qC, Act.put, qD, qE, qF]
                          refine wpAnyH_take (i := 6) (v := ?_) rfl (by kernel_rfl) (by kernel_rfl) (by kernel_rfl) (fun _ _ _ h => h) (Or.inl ⟨by rfl, ?_⟩) hHeld ?_
                          rotate_left
                          · (intro wz _; go_simp; try with_reducible rfl)
                          try simp only [qA, qB, qC, Act.put, qD, qE, qF]
                          refine wpAnyH_take (i := 7) (v := ?_) rfl (by kernel_rfl) (by kernel_rfl) (by kernel_rfl) (fun _ _ _ h => h) (Or.inl ⟨by rfl, ?_⟩) hHeld ?_
                          rotate_left
                          · (intro wz _; go_simp; try with_reducible rfl)
                          try simp only [qA, qB, qC, Act.put, qD, qE, qF]
                          refine wpAnyH_take (i := 8) (v := ?_) rfl (by kernel_rfl) (by kernel_rfl) (by kernel_rfl) (fun _ _ _ h => h) (Or.inl ⟨by rfl, ?_⟩) hHeld ?_
                          rotate_left
                          · (intro wz _; go_simp; try with_reducible rfl)
                          try simp only [qA, qB, qC, Act.put, qD, qE, qF]
                          refine wpAnyH_take (i := 9) (v := ?_) rfl (by kernel_rfl) (by kernel_rfl) (by kernel_rfl) (fun _ _ _ h => h) (Or.inl ⟨by rfl, ?_⟩) hHeld ?_
                          rotate_left
                          · (intro wz _; go_simp; try with_reducible rfl)
                          try simp only [qA, qB, qC, Act.put, qD, qE, qF]
                          refine wpAnyH_take (i := 10) (v := ?_) rfl (by kernel_rfl) (by kernel_rfl) (by kernel_rfl) (fun _ _ _ h => h) (Or.inl ⟨by rfl, ?_⟩) hHeld ?_
                          rotate_left
                          · (intro wz _; go_simp; try with_reducible rfl)
                          try simp only [qA, qB, qC, Act.put, qD, qE, qF]
                          replace h := h.drew
                          generalize w.drew = wq at h hHeld ⊢
                          clear w
                          obtain ⟨w, rfl⟩ : ∃ q : World, q = wq := ⟨_, rfl⟩
                          refine wpAnyH_ready (rs := [5, 11]) (by kernel_rfl) (by simp) ?_
                          refine AllReadyH.cons rfl (fun K hK => ?_) (AllReadyH.cons rfl (fun K hK => ?_) AllReadyH.nil)
                          · skip
                            refine step_yields rfl (yields_load1 rfl 35 _ rfl rfl hbw9 eW Tryz.underlying35 rfl) h ?_
                            refine hK.out _ _ hHeld (fun hHeld => ?_); clear hK K; try simp only [Act.put, qD, qE, qF]
                            refine wpAnyH_ready (rs := [11]) (by kernel_rfl) (by simp) ?_
                            refine AllReadyH.cons rfl (fun K hK => ?_) AllReadyH.nil
                            (go_simp; go_wp2_with (go_at_call 22; refine (NO.out _ h).mono ?_; clear h; rintro _ w ⟨rfl, h⟩))
                            refine hK.out _ _ (h.le hnil) (fun hHeld => ?_)
                            clear hK K
                            try simp only [Act.put, qD, qE, qF]
                            refine wpAnyH_take (i := 12) (v := ?_) rfl (by kernel_rfl) (by kernel_rfl) (by kernel_rfl) (fun _ _ _ h => h) (Or.inl ⟨by rfl, ?_⟩) hHeld ?_
                            rotate_left
                            · (intro wz _; go_simp; try with_reducible rfl)
                            try simp only [qA, qB, qC, Act.put, qD, qE, qF]
                            refine wpAnyH_ready (rs := [13]) (by kernel_rfl) (by simp) ?_
                            refine AllReadyH.cons rfl (fun K hK => ?_) AllReadyH.nil
                            (go_simp; go_wp2_with (go_at_call 21; refine (CL.out _ h).mono ?_; clear h; rintro _ w ⟨rfl, h⟩))
                            refine hK.out _ _ (h.le hnil) (fun hHeld => ?_)
                            clear hK K
                            try simp only [Act.put, qD, qE, qF]
                            refine wpAnyH_ready (rs := [14]) (by kernel_rfl) (by simp) ?_
                            refine AllReadyH.cons rfl (fun K hK => ?_) AllReadyH.nil
                            (go_simp; go_wp2_with (go_at_call 20; refine (SE.out _ h).mono ?_; clear h; rintro _ w ⟨v10, rfl, M10, h, hle10, hown10⟩))
                            refine hK.out _ _ (h.le (Mm.nil_le _)) (fun hHeld => ?_)
                            clear hK K
                            try simp only [Act.put, qD, qE, qF]
                            obtain ⟨A5, c5, rfl⟩ := hown10.form
                            obtain ⟨lab10, hM10, hB10⟩ := HM9.out.learn HB9.out hle10
                            have hA10 := HA7.out.keep (learn_kp HB9.out.le M10 labK7)
                            have rU := learn_rd HB9.out.le labK7 hown10
                            have hS10 := Mm.le_trans HS7.out (stable_kp (learn_kp HB9.out.le M10 labK7) (fun h => h))
                            have hO := hA10.wrow.up hB10.le
                            have hOle := outK_le (learn K7 M9 M10) M10 (relab K7 labK7 fun _ => 0) 3
                            refine wpAnyH_take (i := 15) (v := ?_) rfl (by kernel_rfl) (by kernel_rfl) (by kernel_rfl) (fun _ _ _ h => h) (Or.inl ⟨by rfl, ?_⟩) hHeld ?_
                            rotate_left
                            · (intro wz _; go_simp; try with_reducible rfl)
                            try simp only [qA, qB, qC, Act.put, qD, qE, qF]
                            refine wpAnyH_ready (rs := [16]) (by kernel_rfl) (by simp) ?_
                            refine AllReadyH.cons rfl (fun K hK => ?_) AllReadyH.nil
                            (refine step_putOne h hOle hO rfl 35 _ _ rfl rfl (k := lv) rfl HLL.out (u := .slice A5 B c5) rfl rfl (by kernel_rfl) ?_; clear h hHeld hOle hO; intro w M11 h hle11 hown11)
                            refine hK.out _ _ (h.le (Mm.nil_le _)) (fun hHeld => ?_)
                            clear hK K
                            try simp only [Act.put, qD, qE, qF]
                            refine wpAnyH_done (by kernel_rfl) ?_ _
                            clear hHeld
                            obtain ⟨lab11, K11, labK11, hM11, hB11, hK11, hR11⟩ := hM10.rowTo hB10 hle11 hown11
                            have hA11 := hA10.setW hK11 hR11 rU
                            have hS11 := Mm.le_trans hS10 (stable_kp hK11 (by omega))
                            have H11 := Lib.hid (⟨hM11, hB11, hS11, hA11, HAI9.out⟩ : _ ∧ _ ∧ _ ∧ _ ∧ _)
                            clear hM11 hB11 hK11 hR11 hA11 hS11 hle11 hown11 hM10 hB10 hA10 hS10 rU hle10 hown10
                            go_wp2
                            go_meet
                            case rel => exact ⟨k3, M11, lab11, K11, labK11, s9, _, _, _, _, rfl, h, H11⟩
                          · skip
                            (go_simp; go_wp2_with (go_at_call 22; refine (NO.out _ h).mono ?_; clear h; rintro _ w ⟨rfl, h⟩))
                            refine hK.out _ _ (h.le hnil) (fun hHeld => ?_)
                            clear hK K
                            try simp only [Act.put, qD, qE, qF]
                            refine wpAnyH_take (i := 12) (v := ?_) rfl (by kernel_rfl) (by kernel_rfl) (by kernel_rfl) (fun _ _ _ h => h) (Or.inl ⟨by rfl, ?_⟩) hHeld ?_
                            rotate_left
                            · (intro wz _; go_simp; try with_reducible rfl)
                            try simp only [qA, qB, qC, Act.put, qD, qE, qF]
                            refine wpAnyH_ready (rs := [5, 13]) (by kernel_rfl) (by simp) ?_
                            refine AllReadyH.cons rfl (fun K hK => ?_) (AllReadyH.cons rfl (fun K hK => ?_) AllReadyH.nil)
                            · skip
                              refine step_yields rfl (yields_load1 rfl 35 _ rfl rfl hbw9 eW Tryz.underlying35 rfl) h ?_
                              refine hK.out _ _ hHeld (fun hHeld => ?_); clear hK K; try simp only [Act.put, qD, qE, qF]
                              refine wpAnyH_ready (rs := [13]) (by kernel_rfl) (by simp) ?_
                              refine AllReadyH.cons rfl (fun K hK => ?_) AllReadyH.nil
                              (go_simp; go_wp2_with (go_at_call 21; refine (CL.out _ h).mono ?_; clear h; rintro _ w ⟨rfl, h⟩))
                              refine hK.out _ _ (h.le hnil) (fun hHeld => ?_)
                              clear hK K
                              try simp only [Act.put, qD, qE, qF]
                              refine wpAnyH_ready (rs := [14]) (by kernel_rfl) (by simp) ?_
                              refine AllReadyH.cons rfl (fun K hK => ?_) AllReadyH.nil
                              (go_simp; go_wp2_with (go_at_call 20; refine (SE.out _ h).mono ?_; clear h; rintro _ w ⟨v10, rfl, M10, h, hle10, hown10⟩))
                              refine hK.out _ _ (h.le (Mm.nil_le _)) (fun hHeld => ?_)
                              clear hK K
                              try simp only [Act.put, qD, qE, qF]
                              obtain ⟨A5, c5, rfl⟩ := hown10.form
                              obtain ⟨lab10, hM10, hB10⟩ := HM9.out.learn HB9.out hle10
                              have hA10 := HA7.out.keep (learn_kp HB9.out.le M10 labK7)
                              have rU := learn_rd HB9.out.le labK7 hown10
                              have hS10 := Mm.le_trans HS7.out (stable_kp (learn_kp HB9.out.le M10 labK7) (fun h => h))
                              have hO := hA10.wrow.up hB10.le
                              have hOle := outK_le (learn K7 M9 M10) M10 (relab K7 labK7 fun _ => 0) 3
                              refine wpAnyH_take (i := 15) (v := ?_) rfl (by kernel_rfl) (by kernel_rfl) (by kernel_rfl) (fun _ _ _ h => h) (Or.inl ⟨by rfl, ?_⟩) hHeld ?_
                              rotate_left
                              · (intro wz _; go_simp; try with_reducible rfl)
                              try simp only [qA, qB, qC, Act.put, qD, qE, qF]
                              refine wpAnyH_ready (rs := [16]) (by kernel_rfl) (by simp) ?_
                              refine AllReadyH.cons rfl (fun K hK => ?_) AllReadyH.nil
                              (refine step_putOne h hOle hO rfl 35 _ _ rfl rfl (k := lv) rfl HLL.out (u := .slice A5 B c5) rfl rfl (by kernel_rfl) ?_; clear h hHeld hOle hO; intro w M11 h hle11 hown11)
                              refine hK.out _ _ (h.le (Mm.nil_le _)) (fun hHeld => ?_)
                              clear hK K
                              try simp only [Act.put, qD, qE, qF]
                              refine wpAnyH_done (by kernel_rfl) ?_ _
                              clear hHeld
                              obtain ⟨lab11, K11, labK11, hM11, hB11, hK11, hR11⟩ := hM10.rowTo hB10 hle11 hown11
                              have hA11 := hA10.setW hK11 hR11 rU
                              have hS11 := Mm.le_trans hS10 (stable_kp hK11 (by omega))
                              have H11 := Lib.hid (⟨hM11, hB11, hS11, hA11, HAI9.out⟩ : _ ∧ _ ∧ _ ∧ _ ∧ _)
                              clear hM11 hB11 hK11 hR11 hA11 hS11 hle11 hown11 hM10 hB10 hA10 hS10 rU hle10 hown10
                              go_wp2
                              go_meet
                              case rel => exact ⟨k3, M11, lab11, K11, labK11, s9, _, _, _, _, rfl, h, H11⟩
                            · skip
                              (go_simp; go_wp2_with (go_at_call 21; refine (CL.out _ h).mono ?_; clear h; rintro _ w ⟨rfl, h⟩))
                              refine hK.out _ _ (h.le hnil) (fun hHeld => ?_)
                              clear hK K
                              try simp only [Act.put, qD, qE, qF]
                              refine wpAnyH_ready (rs := [5]) (by kernel_rfl) (by simp) ?_
                              refine AllReadyH.cons rfl (fun K hK => ?_) AllReadyH.nil
                              refine step_yields rfl (yields_load1 rfl 35 _ rfl rfl hbw9 eW Tryz.underlying35 rfl) h ?_
                              refine hK.out _ _ hHeld (fun hHeld => ?_); clear hK K; try simp only [Act.put, qD, qE, qF]
                              refine wpAnyH_ready (rs := [14]) (by kernel_rfl) (by simp) ?_
                              refine AllReadyH.cons rfl (fun K hK => ?_) AllReadyH.nil
                              (go_simp; go_wp2_with (go_at_call 20; refine (SE.out _ h).mono ?_; clear h; rintro _ w ⟨v10, rfl, M10, h, hle10, hown10⟩))
                              refine hK.out _ _ (h.le (Mm.nil_le _)) (fun hHeld => ?_)
                              clear hK K
                              try simp only [Act.put, qD, qE, qF]
                              obtain ⟨A5, c5, rfl⟩ := hown10.form
                              obtain ⟨lab10, hM10, hB10⟩ := HM9.out.learn HB9.out hle10
                              have hA10 := HA7.out.keep (learn_kp HB9.out.le M10 labK7)
                              have rU := learn_rd HB9.out.le labK7 hown10
                              have hS10 := Mm.le_trans HS7.out (stable_kp (learn_kp HB9.out.le M10 labK7) (fun h => h))
                              have hO := hA10.wrow.up hB10.le
                              have hOle := outK_le (learn K7 M9 M10) M10 (relab K7 labK7 fun _ => 0) 3
                              refine wpAnyH_take (i := 15) (v := ?_) rfl (by kernel_rfl) (by kernel_rfl) (by kernel_rfl) (fun _ _ _ h => h) (Or.inl ⟨by rfl, ?_⟩) hHeld ?_
                              rotate_left
                              · (intro wz _; go_simp; try with_reducible rfl)
                              try simp only [qA, qB, qC, Act.put, qD, qE, qF]
                              refine wpAnyH_ready (rs := [16]) (by kernel_rfl) (by simp) ?_
                              refine AllReadyH.cons rfl (fun K hK => ?_) AllReadyH.nil
                              (refine step_putOne h hOle hO rfl 35 _ _ rfl rfl (k := lv) rfl HLL.out (u := .slice A5 B c5) rfl rfl (by kernel_rfl) ?_; clear h hHeld hOle hO; intro w M11 h hle11 hown11)
                              refine hK.out _ _ (h.le (Mm.nil_le _)) (fun hHeld => ?_)
                              clear hK K
                              try simp only [Act.put, qD, qE, qF]
                              refine wpAnyH_done (by kernel_rfl) ?_ _
                              clear hHeld
                              obtain ⟨lab11, K11, labK11, hM11, hB11, hK11, hR11⟩ := hM10.rowTo hB10 hle11 hown11
                              have hA11 := hA10.setW hK11 hR11 rU
                              have hS11 := Mm.le_trans hS10 (stable_kp hK11 (by omega))
                              have H11 := Lib.hid (⟨hM11, hB11, hS11, hA11, HAI9.out⟩ : _ ∧ _ ∧ _ ∧ _ ∧ _)
                              clear hM11 hB11 hK11 hR11 hA11 hS11 hle11 hown11 hM10 hB10 hA10 hS10 rU hle10 hown10
                              go_wp2
                              go_meet
                              case rel => exact ⟨k3, M11, lab11, K11, labK11, s9, _, _, _, _, rfl, h, H11⟩
                  · clear f0 h0
                    as_aux_lemma =>
                      have P1 := Lib.hid (fun (w : World) (h : Has σ M3 w) => li_rsv (most := z2) (t := tn) (m := m) h HM3.out HB3.out HALL.out.2.1 HC.out HNU.out HT.out HG.out (by have := HALL.out.1; have := HLT.out; omega) (by have := HALL.out.2.2.1; have := HLT.out; omega) HTN.out HQ.out HALL.out.2.2.2 (by have := HZ2.out; have := HB0.out; omega) (by have := HZ2.out; omega) (by have := HZ2.out; have := HB0.out; omega))
                      rw [HLV.out] at P1
                      go_wp2_with (first
                        | (with_reducible show wpList _ _ _ ({ dst := _, op := Op.load 3 _, type := _, pos := _, after := _, guard := _ } :: _) _ _; refine wpList_load1_has h rfl 3 _ rfl rfl hbf3 r11 Tryz.underlying3 rfl ?_))
                      refine (P1.out _ h).mono ?_
                      clear h P1
                      rintro _ w ⟨k, g2, rfl, k0, kk, M4, lab4, s4, h, hM4, hB4, hA4, hI4⟩
                      obtain ⟨trow, ty, hqb, d0, d1⟩ := m_told hM4 hA4 HQ.out
                      obtain ⟨curW, Aw, cw, hbw4, eW, hfW⟩ := HA3.out.wants hB4.le rfl HLL.out HLL.out
                      have hrW := (HA3.out.want lv HLL.out).le (Mm.le_trans (stable_le _ _) hB4.le)
                      rw [hfW] at hrW
                      have EM := Lib.hid (fun (w : World) (h : Has σ M4 w) => refEmpty_eq h hrW (by have := HB0.out; omega))
                      have hll : (lv : Int) < (L : Int) := by have := HLL.out; omega
                      have gk : decide ((k : Int) < 0) = false := decide_eq_false (by omega)
                      have gk' : ¬ (k : Int) < 0 := by omega
                      have hbl4 := hB4.le _ _ HBLK.out
                      have HM4 := Lib.hid hM4
                      have HB4 := Lib.hid hB4
                      have HA4 := Lib.hid hA4
                      have HI4 := Lib.hid hI4
                      have HKK := Lib.hid (show k ≤ 121 by have := HZ2.out; have := HB0.out; omega)
                      have HRW := Lib.hid hrW
                      clear hM4 hB4 hA4 hI4 kk k0 hrW hfW hbl
                      go_upto_region 30 with (first
                        | (with_reducible show wpList _ _ _ ({ dst := _, op := Op.load 35 _, type := _, pos := _, after := _, guard := _ } :: _) _ _; refine wpList_load1_has h rfl 35 _ rfl rfl hbw4 eW Tryz.underlying35 rfl ?_)
                        | ((go_at_call 16; refine (EM.out _ h).mono ?_; clear h; rintro _ w ⟨z, rfl, h, hz⟩)))
                      clear EM
                      rcases HI4.out with ⟨hall, t0, hI4⟩ | ⟨j, j1, j2, j3, hg2⟩
                      · obtain rfl : z = -1 := by
                          rcases hz with ⟨_, e⟩ | ⟨i, i1, _, i3, _⟩
                          · exact e
                          · exact absurd i3 (hall i i1)
                        have hAI4 : LaJ c S B gens L T tp (i + 1) s4 had C := ⟨⟨a + k, m, _, _, _, by have := HALL.out.1; have := HKK.out; omega, HA4.out, by have := HALL.out.2.2.1; omega, hI4⟩⟩
                        rw [t0] at d0
                        have H4 := Lib.hid (⟨HM4.out, HB4.out, HS3.out, HA3.out, hAI4⟩ : _ ∧ _ ∧ _ ∧ _ ∧ _)
                        clear hI4 hAI4 t0 d1 hall hz
                        go_wp2_with (first
                          | (with_reducible show wpList _ _ _ ({ dst := _, op := Op.load 42 _, type := _, pos := _, after := _, guard := _ } :: _) _ _; refine wpList_load1_has h rfl 42 _ rfl rfl hqb d0 Tryz.underlying42 rfl ?_))
                        go_meet
                        case rel => exact ⟨k, M4, lab4, K3, labK3, s4, fh, fw, had, C, rfl, h, H4⟩
                      subst hg2
                      obtain rfl : z = (j : Nat) := by
                        rcases hz with ⟨e, _⟩ | ⟨i, i1, i2, i3, e⟩
                        · exact absurd j3 (e j j1)
                        · rw [e]
                          rcases Nat.lt_trichotomy i j with h1 | h1 | h1
                          · exact absurd i3 (j2 i h1)
                          · rw [h1]
                          · exact absurd j3 (i2 j h1)
                      replace d0 : trow[0]? = some (.int .u64 1) := by
                        rw [d0]
                        show some (Value.int .u64 ((put1 g.told tn _ tn 0 : Nat) : Int)) = _
                        rw [put1_same]; rfl
                      replace d1 : trow[1]? = some (.int .u64 (j : Nat)) := by
                        rw [d1]
                        show some (Value.int .u64 ((put1 g.told tn _ tn 1 : Nat) : Int)) = _
                        rw [put1_same]; rfl
                      have HJ := Lib.hid (⟨j1, j3⟩ : j < B ∧ (C lv).getD j 0 = 0)
                      have wj : IntKind.u64.wrap (j : Int) = (j : Int) := IntWalk.u64_in _ (by have := HB0.out; omega)
                      have ej : ((j : Int) != (j : Int)) = false := by simp
                      have gj : decide ((j : Int) < 0) = false := decide_eq_false (by omega)
                      have gj2 : ¬ (j : Int) < 0 := by omega
                      have gj3 : decide ((0 : Int) ≤ (j : Int)) = true := decide_eq_true (by omega)
                      have gj4 : (0 : Int) ≤ (j : Int) := by omega
                      clear hz j1 j2 j3
                      go_upto_region 33 with (first
                        | (with_reducible show wpList _ _ _ ({ dst := _, op := Op.load 42 _, type := _, pos := _, after := _, guard := _ } :: _) _ _; refine wpList_load1_has h rfl 42 _ rfl rfl hqb d0 Tryz.underlying42 rfl ?_)
                        | (with_reducible show wpList _ _ _ ({ dst := _, op := Op.load 42 _, type := _, pos := _, after := _, guard := _ } :: _) _ _; refine wpList_load1_has h rfl 42 _ rfl rfl hqb d1 Tryz.underlying42 rfl ?_))
                      clear hqb d0 d1 ej gj gj2 gj3 gj4 gk gk'
                      go_wp2_with (first
                        | (with_reducible show wpList _ _ _ ({ dst := _, op := Op.load 3 _, type := _, pos := _, after := _, guard := _ } :: _) _ _; refine wpList_load1_has h rfl 3 _ rfl rfl hbl4 e1 Tryz.underlying3 rfl ?_))
                      obtain ⟨M5, hbx, hle5, hb5, hn5⟩ := h.box (.cells #[.int .u64 (j : Nat)] 42)
                      generalize w.alloc _ = wx at hbx ⊢
                      generalize w.heap.size = b5 at hb5 hn5 ⊢
                      clear h
                      try clear w
                      have h := hbx
                      clear hbx
                      obtain ⟨w, rfl⟩ : ∃ x : World, x = wx := ⟨_, rfl⟩
                      have hrd5 : Rd M5 1 (.slice (some ⟨b5, 0, none⟩) 1 1) 1 (u64s ([j].map fun u : Nat => (u : Int))) := ⟨rfl, _, _, rfl, Nat.le_refl _, fun _ => ⟨b5, 0, _, _, _, rfl, hb5, fun i u hu => by simpa [u64s] using hu⟩⟩
                      have P3 := Lib.hid (fun (w : World) (h : Has σ M5 w) => li_rel (most := 2) (t := tn) (m := m) h (HM4.out.keep (Kp.le hle5 fun _ => 0) fun _ _ h => h) (HB4.out.keep (Kp.le hle5 fun _ => 0) fun h => h) (by rw [HLV.out]; exact HA4.out) HC.out HNU.out HT.out HG.out (by have := HALL.out.1; have := HLT.out; have := HKK.out; omega) (by have := HALL.out.2.2.1; have := HLT.out; omega) HTN.out HQ.out HALL.out.2.2.2 (by omega) (by omega) (by rw [HLV.out]; exact HJ.out.2) HJ.out.1 hrd5)
                      clear hb5 hle5 hn5 hrd5
                      go_at_call 14
                      refine (P3.out _ h).mono ?_
                      clear h P3
                      rintro _ w ⟨k3, g4, rfl, k30, kk3, M6, lab6, s6, h, hM6, hB6, hA6, hI6⟩
                      have hAI6 : LaJ c S B gens L T tp (i + 1) s6 had C := ⟨⟨a + k + k3, m, _, _, _, by have := HALL.out.1; have := HKK.out; omega, hA6, by have := HALL.out.2.2.1; omega, hI6⟩⟩
                      have H6 := Lib.hid (⟨hM6, hB6, HS3.out, HA3.out, hAI6⟩ : _ ∧ _ ∧ _ ∧ _ ∧ _)
                      clear hM6 hB6 hA6 hI6 hAI6 kk3 k30
                      go_wp2_with (first
                        | (fail))
                      go_meet
                      case rel => exact ⟨k3, M6, lab6, K3, labK3, s6, fh, fw, had, C, rfl, h, H6⟩
                · have f1 : (ew == 1) = false := by simp; omega
                  have f2 : (ew == 2) = false := by simp; omega
                  by_cases h3 : ew = 3
                  · subst h3
                    clear f0 f1 f2 h12 h0
                    as_aux_lemma =>
                      have P1 := Lib.hid (fun (w : World) (h : Has σ M3 w) => li_sweep (most := z13) (t := tn) (m := m) h HM3.out HB3.out HALL.out.2.1 HC.out HNU.out HT.out HG.out (by have := HALL.out.1; have := HLT.out; omega) (by have := HALL.out.2.2.1; have := HLT.out; omega) HTN.out HQ.out HALL.out.2.2.2 (by have := HZ.out; have := HB0.out; omega) (by have := HZ.out; omega))
                      rw [HLV.out] at P1
                      go_wp2_with (first
                        | (with_reducible show wpList _ _ _ ({ dst := _, op := Op.load 3 _, type := _, pos := _, after := _, guard := _ } :: _) _ _; refine wpList_load1_has h rfl 3 _ rfl rfl hbf3 r11 Tryz.underlying3 rfl ?_))
                      refine (P1.out _ h).mono ?_
                      clear h P1
                      rintro _ w ⟨k, g2, rfl, k0, kk, M4, lab4, s4, h, hM4, hB4, hA4, t0, L2, hI4⟩
                      obtain ⟨trow, ty, hqb, d0, d1⟩ := m_told hM4 hA4 HQ.out
                      rw [t0] at d0
                      obtain ⟨C2, n2, hC2⟩ : ∃ C2 n2, swN (ep lv) B 0 (C lv) = (C2, n2) := ⟨_, _, rfl⟩
                      rw [hC2] at d0 hI4
                      have hAI4 : LaJ c S B gens L T tp (i + 1) s4 had (put1 C lv C2) := ⟨⟨a + k, m + B, _, _, _, by have := HALL.out.1; have := HZ.out; have := HB0.out; omega, hA4, by have := HALL.out.2.2.1; have := HB0.out; omega, hI4⟩⟩
                      have hep := (hI4.ep lv HLL.out).1
                      obtain ⟨curW, Aw, cw, hbw4, eW, hf⟩ := HA3.out.wants hB4.le rfl HLL.out HLL.out
                      have hrW := (HA3.out.want lv HLL.out).le (Mm.le_trans (stable_le _ _) hB4.le)
                      rw [hf] at hrW
                      have NO := Lib.hid (fun (w : World) (h : Has σ M4 w) => now24_eq h hM4 hA4 HNU.out HLL.out)
                      rw [hep] at NO
                      have SWE := Lib.hid (fun (w : World) (h : Has σ M4 w) => refSweep_eq (e := ep lv) h hrW (by have := HB0.out; omega) (HALL.out.2.2.2.lv lv HLL.out).ok)
                      rw [hC2] at SWE
                      have hn2 : n2 ≤ 60 := by
                        have h1 : n2 ≤ B := by
                          have := sw_count (ep lv) B 0 (C lv)
                          rw [hC2] at this; exact this
                        have := HB0.out; omega
                      have wn : IntKind.u64.wrap (n2 : Int) = (n2 : Int) := IntWalk.u64_in _ (by omega)
                      have en : ((n2 : Int) != (n2 : Int)) = false := by simp
                      have hTT : s4.tp[tn]? = some q := by rw [hA4.ttp]; exact HQ.out
                      have HTT := Lib.hid hTT
                      have HAI4 := Lib.hid hAI4
                      have HM4 := Lib.hid hM4
                      have HB4 := Lib.hid hB4
                      have HC2 := Lib.hid hC2
                      have hll : (lv : Int) < (L : Int) := by have := HLL.out; omega
                      clear hM4 hB4 hA4 hI4 hAI4 t0 d1 hep hf hn2 hTT hC2 hrW
                      go_upto_region 42 with (fail)
                      refine wp_region_held_drew (S := Has σ (M4)) (by kernel_rfl) (h.drew) (fun hHeld => ?_)
                      refine wpAnyH_take (i := 0) (v := ?_) rfl (by kernel_rfl) (by kernel_rfl) (by kernel_rfl) (fun _ _ _ h => h) (Or.inl ⟨by rfl, ?_⟩) hHeld ?_
                      rotate_left
                      · (intro wz _; go_simp; try with_reducible rfl)
                      try simp only [qA, qB, qC, Act.put, qD, qE, qF]
                      refine wpAnyH_take (i := 1) (v := ?_) rfl (by kernel_rfl) (by kernel_rfl) (by kernel_rfl) (fun _ _ _ h => h) (Or.inl ⟨by rfl, ?_⟩) hHeld ?_
                      rotate_left
                      · (intro wz _; go_simp; try with_reducible rfl)
                      try simp only [qA, qB, qC, Act.put, qD, qE, qF]
                      refine wpAnyH_take (i := 2) (v := ?_) rfl (by kernel_rfl) (by kernel_rfl) (by kernel_rfl) (fun _ _ _ h => h) (Or.inl ⟨by rfl, ?_⟩) hHeld ?_
                      rotate_left
                      · (intro wz _; go_simp; try with_reducible rfl)
                      try simp only [qA, qB, qC, Act.put, qD, qE, qF]
                      refine wpAnyH_take (i := 3) (v := _) rfl (by kernel_rfl) (by kernel_rfl) (by kernel_rfl) (fun _ _ _ h => h) (yields_load1 rfl 35 _ rfl rfl hbw4 eW Tryz.underlying35 rfl) hHeld ?_
                      try simp only [qA, qB, qC, Act.put, qD, qE, qF]
                      refine wpAnyH_take (i := 4) (v := ?_) rfl (by kernel_rfl) (by kernel_rfl) (by kernel_rfl) (fun _ _ _ h => h) (Or.inl ⟨by rfl, ?_⟩) hHeld ?_
                      rotate_left
                      · (intro wz _; go_simp; try with_reducible rfl)
                      try simp only [qA, qB, qC, Act.put, qD, qE, qF]
                      refine wpAnyH_take (i := 5) (v := ?_) rfl (by kernel_rfl) (by kernel_rfl) (by kernel_rfl) (fun _ _ _ h => h) (Or.inl ⟨by rfl, ?_⟩) hHeld ?_
                      rotate_left
                      · (intro wz _; go_simp; try with_reducible rfl)
                      try simp only [qA, qB, qC, Act.put, qD, qE, qF]
                      replace h := h.drew
                      generalize w.drew = wq at h hHeld ⊢
                      clear w
                      obtain ⟨w, rfl⟩ : ∃ q : World, q = wq := ⟨_, rfl⟩
                      refine wpAnyH_ready (rs := [6]) (by kernel_rfl) (by simp) ?_
                      refine AllReadyH.cons rfl (fun K hK => ?_) AllReadyH.nil
                      (go_simp; go_wp2_with (go_at_call 22; refine (NO.out _ h).mono ?_; clear h; rintro _ w ⟨rfl, h⟩))
                      refine hK.out _ _ (h) (fun hHeld => ?_)
                      clear hK K
                      try simp only [Act.put, qD, qE, qF]
                      refine wpAnyH_ready (rs := [7]) (by kernel_rfl) (by simp) ?_
                      refine AllReadyH.cons rfl (fun K hK => ?_) AllReadyH.nil
                      (go_simp; go_wp2_with (go_at_call 23; refine (SWE.out _ h).mono ?_; clear h; rintro _ w ⟨v5, A6, c6, rfl, M5, h, hle5, hown5⟩))
                      refine hK.out _ _ (h.le hle5) (fun hHeld => ?_)
                      clear hK K
                      try simp only [Act.put, qD, qE, qF]
                      refine wpAnyH_take (i := 8) (v := ?_) rfl (by kernel_rfl) (by kernel_rfl) (by kernel_rfl) (fun _ _ _ h => h) (Or.inl ⟨by rfl, ?_⟩) hHeld ?_
                      rotate_left
                      · (intro wz _; go_simp; try with_reducible rfl)
                      try simp only [qA, qB, qC, Act.put, qD, qE, qF]
                      refine wpAnyH_take (i := 9) (v := ?_) rfl (by kernel_rfl) (by kernel_rfl) (by kernel_rfl) (fun _ _ _ h => h) (Or.inl ⟨by rfl, ?_⟩) hHeld ?_
                      rotate_left
                      · (intro wz _; go_simp; try with_reducible rfl)
                      try simp only [qA, qB, qC, Act.put, qD, qE, qF]
                      refine wpAnyH_take (i := 10) (v := ?_) rfl (by kernel_rfl) (by kernel_rfl) (by kernel_rfl) (fun _ _ _ h => h) (Or.inl ⟨by rfl, ?_⟩) hHeld ?_
                      rotate_left
                      · (intro wz _; go_simp; try with_reducible rfl)
                      try simp only [qA, qB, qC, Act.put, qD, qE, qF]
                      refine wpAnyH_take (i := 11) (v := ?_) rfl (by kernel_rfl) (by kernel_rfl) (by kernel_rfl) (fun _ _ _ h => h) (Or.inl ⟨by rfl, ?_⟩) hHeld ?_
                      rotate_left
                      · (intro wz _; go_simp; try with_reducible rfl)
                      try simp only [qA, qB, qC, Act.put, qD, qE, qF]
                      refine wpAnyH_take (i := 12) (v := ?_) rfl (by kernel_rfl) (by kernel_rfl) (by kernel_rfl) (fun _ _ _ h => h) (Or.inl ⟨by rfl, ?_⟩) hHeld ?_
                      rotate_left
                      · (intro wz _; go_simp; try with_reducible rfl)
                      try simp only [qA, qB, qC, Act.put, qD, qE, qF]
                      refine wpAnyH_done (by kernel_rfl) ?_ _
                      clear hHeld NO SWE
                      obtain ⟨A5, c5, rfl⟩ := hown5.form
                      obtain ⟨lab5, hM5, hB5⟩ := HM4.out.learn HB4.out hle5
                      have hA5 := HA3.out.keep (learn_kp HB4.out.le M5 labK3)
                      have rU := learn_rd HB4.out.le labK3 hown5
                      have hS5 := Mm.le_trans HS3.out (stable_kp (learn_kp HB4.out.le M5 labK3) (fun h => h))
                      have hO := hA5.wrow.up hB5.le
                      have hOle := outK_le (learn K3 M4 M5) M5 (relab K3 labK3 fun _ => 0) 3
                      have hqb5 := hle5 _ _ hqb
                      have HM5 := Lib.hid hM5
                      have HB5 := Lib.hid hB5
                      have HS5 := Lib.hid hS5
                      have HA5 := Lib.hid hA5
                      have HRU := Lib.hid rU
                      clear hM5 hB5 hS5 hA5 rU hown5 hle5 hqb hbw4 eW
                      go_upto_region 44 with (first
                        | ((with_reducible show wpList _ _ _ ({ dst := _, op := Op.store 35 _ _, type := _, pos := _, after := _, guard := _ } :: _) _ _); (refine wpList_putOne (u := .slice A5 B c5) h hOle hO rfl 35 _ _ rfl rfl (k := lv) rfl HLL.out rfl rfl (by kernel_rfl) ?_); (clear h hO); intro w M7 h hle7 hown7))
                      have hq7 := hle7 _ _ (told_out (labK := relab K3 labK3 fun _ => 0) (j := 3) HM5.out HB5.out HTT.out hqb5)
                      obtain ⟨lab7, K7, labK7, hM7, hB7, hK7, hR7⟩ := HM5.out.rowTo HB5.out hle7 hown7
                      have hA7 := HA5.out.setW hK7 hR7 HRU.out
                      have hS7 := Mm.le_trans HS5.out (stable_kp hK7 (by omega))
                      have H7 := Lib.hid (⟨hM7, hB7, hS7, hA7, HAI4.out⟩ : _ ∧ _ ∧ _ ∧ _ ∧ _)
                      clear hM7 hB7 hK7 hR7 hA7 hS7 hle7 hown7 hqb5 hOle
                      go_wp2_with (first
                        | (with_reducible show wpList _ _ _ ({ dst := _, op := Op.load 42 _, type := _, pos := _, after := _, guard := _ } :: _) _ _; refine wpList_load1_has h rfl 42 _ rfl rfl hq7 d0 Tryz.underlying42 rfl ?_))
                      go_meet
                      case rel => exact ⟨k, M7, lab7, K7, labK7, s4, fh, _, had, _, rfl, h, H7⟩
                  · have f3 : (ew == 3) = false := by simpa using h3
                    clear h0 h12 h3
                    as_aux_lemma =>
                      have P1 := Lib.hid (fun (w : World) (h : Has σ M3 w) => li_adv (most := 20) (t := tn) (m := m) h HM3.out HB3.out HALL.out.2.1 HC.out HNU.out HT.out HG.out (by have := HALL.out.1; have := HLT.out; omega) (by have := HALL.out.2.2.1; have := HLT.out; omega) HTN.out HQ.out HALL.out.2.2.2 (by omega) (by omega))
                      go_wp2_with (first
                        | (fail))
                      refine (P1.out _ h).mono ?_
                      clear h P1
                      rintro _ w ⟨k, g2, rfl, k0, kk, M4, lab4, s4, h, hM4, hB4, hA4, hI4⟩
                      have hAI4 : LaJ c S B gens L T tp (i + 1) s4 had C := ⟨⟨a + k, m + 1, _, _, _, by have := HALL.out.1; omega, hA4, by have := HALL.out.2.2.1; omega, hI4⟩⟩
                      have H4 := Lib.hid (⟨hM4, hB4, HS3.out, HA3.out, hAI4⟩ : _ ∧ _ ∧ _ ∧ _ ∧ _)
                      clear hM4 hB4 hA4 hI4 hAI4
                      go_wp2_with (first
                        | (fail))
                      go_meet
                      case rel => exact ⟨k, M4, lab4, K3, labK3, s4, fh, fw, had, C, rfl, h, H4⟩
            case rest =>
             as_aux_lemma =>
              obtain ⟨k9, M9, lab9, K9, labK9, s9, fh9, fw9, had9, C9, rfl, h9, H9⟩ := hcut
              clear h
              obtain ⟨w, rfl⟩ : ∃ q : World, q = wc := ⟨_, rfl⟩
              have h := h9
              clear h9 HM3 HB3 HA3 HAI HALL e0 e1 hbl HS3 HK3
              obtain ⟨a9, m9, g9, Lf9, ep9, ha9, hA9, hm9, hI9⟩ := H9.out.2.2.2.2.all
              have hbf9 := H9.out.2.1.le _ _ (stable_le _ _ _ _ (H9.out.2.2.1 _ _ hbf))
              have FT9 := Lib.hid (fun (w : World) (h : Has σ M9 w) => mFault_eq h H9.out.1)
              rw [hA9.good] at FT9
              have gk9 : decide ((k9 : Int) < 0) = false := decide_eq_false (by omega)
              have gk9' : ¬ (k9 : Int) < 0 := by omega
              have HE9 : Hid (∀ y, y < L → ∀ (M' : Mm), M9.le M' → ∀ w : World, Has σ M' w → Calls Tryz.prog 27 #[.pointer (some ⟨s9.wp, 0, none⟩), .int .i64 (y : Nat)] w fun r w' => r = .returned (.int .i64 ((1 + (had9 y).length + filN (C9 y) : Nat) : Int)) ∧ Has σ M' w') := Lib.hid fun y hy M' hle w h => by
                have X := hI9.lv y hy
                have := held_eq h (H9.out.1.keep (Kp.le hle fun _ => 0) fun _ _ h => h) hA9 HNU.out hy
                rw [X.hx.count, List.length_cons, List.length_append, fil_cells X.ok] at this
                rw [show (had9 y).length + filN (C9 y) + 1 = 1 + (had9 y).length + filN (C9 y) by omega] at this
                exact this
              have CE9 : Hid (∀ y, y < L → ∀ w : World, Has σ M9 w → Calls Tryz.prog 26 #[.pointer (some ⟨p, 0, none⟩), .int .i64 (y : Nat)] w fun r w' => ∃ v M', r = .returned v ∧ Has σ M' w' ∧ M9.le M' ∧ Rd M' 1 v B (cu (C9 y))) := Lib.hid fun y hy w h => cells24_eq h H9.out.1 hA9 HNU.out hy (hI9.lv y hy).len (hI9.lv y hy).w
              have OD9 : Hid (∀ y, y < L → ∀ (M' : Mm), M9.le M' → ∀ w : World, Has σ M' w → Calls Tryz.prog 29 #[.pointer (some ⟨p, 0, none⟩), .int .i64 (y : Nat)] w fun r w' => r = .returned (.int .i64 0) ∧ ∃ M2, Has σ M2 w' ∧ M'.le M2) := Lib.hid fun y hy M' hle w h => lb_odd h (H9.out.1.keep (Kp.le hle fun _ => 0) fun _ _ h => h) hA9 (by have := HLT.out; omega) HNU.out HG.out hy (hI9.lv y hy)
              have WA9 := Lib.hid (fun (M' : Mm) (hle : M9.le M') (w : World) (h : Has σ M' w) => mWarden_eq h (H9.out.1.keep (Kp.le hle fun _ => 0) fun _ _ h => h))
              have FI9 : Hid (∀ y, y < L → ∀ (M' : Mm) (w : World) (v : Value), Has σ M' w → Rd M' 1 v B (cu (C9 y)) → Calls Tryz.prog 28 #[v] w fun r w' => r = .returned (.int .i64 (filN (C9 y) : Nat)) ∧ Has σ M' w') := Lib.hid fun y hy M' w v h hr => refFilled_eq h hr (by have := HB0.out; omega) (fun u hu => by
                by_cases e : u = 0
                · subst e; decide
                · exact ((hI9.lv y hy).ok u hu e).1)
              have BN9 : Hid (∀ y, y < L → (had9 y).length ≤ 60 ∧ filN (C9 y) ≤ 60) := Lib.hid fun y hy => by
                have X := hI9.lv y hy
                have h1 := X.hx.count
                rw [List.length_cons, List.length_append, fil_cells X.ok] at h1
                have h2 : nHeld (g9.held y) S ≤ S := Nat.le_trans (List.length_filter_le _ _) (by simp)
                have h3 := HNU.out.s0.2
                omega
              clear ha9 hA9 hm9 hI9
              go_upto_region 49 with (first
                | (go_at_call 24; refine (FT9.out _ h).mono ?_; clear h; rintro _ w ⟨rfl, h⟩))
              clear FT9 gk9 gk9'
              go_loopw [20] (fun u wr => ∃ y : Nat, y ≤ L ∧ u = .int .i64 (y : Nat) ∧ Has σ M9 wr) (fun u _ => L - (intOf u).toNat)
              case atStart => exact ⟨0, Nat.zero_le _, rfl, h⟩
              case round =>
                clear h w
                obtain ⟨w, rfl⟩ : ∃ x : World, x = wr := ⟨_, rfl⟩
                obtain ⟨y, hy, rfl, h⟩ := hrel
                by_cases hyL : y < L
                · have hyL' : (y : Int) < (L : Int) := by omega
                  have wy : IntKind.i64.wrap ((y : Int) + 1) = ((y + 1 : Nat) : Int) := by rw [show (y : Int) + 1 = ((y + 1 : Nat) : Int) by omega]; exact IntWalk.i64_in _ (by have := HL0.out; omega)
                  obtain ⟨cur1, A1, c1, hbh9, eH9, _⟩ := H9.out.2.2.2.1.have_ H9.out.2.1.le rfl hyL
                  obtain ⟨cur2, A2, c2, hbw9, eW9, hfw⟩ := H9.out.2.2.2.1.wants H9.out.2.1.le rfl hyL hyL
                  have hrW := (H9.out.2.2.2.1.want y hyL).le (Mm.le_trans (stable_le _ _) H9.out.2.1.le)
                  rw [hfw] at hrW
                  have HE := Lib.hid (HE9.out y hyL)
                  have CE := Lib.hid (CE9.out y hyL)
                  have OD := Lib.hid (OD9.out y hyL)
                  have FI := Lib.hid (FI9.out y hyL)
                  obtain ⟨b1, b2⟩ := BN9.out y hyL
                  have HYL := Lib.hid hyL
                  have hB1000 : B ≤ 100000 := by have := HB0.out; omega
                  have HBB := Lib.hid hB1000
                  generalize (had9 y).length = nh at *
                  generalize filN (C9 y) = fc at *
                  have SA : Hid (∀ (M' : Mm) (w : World) (v : Value), Has σ M' w → Rd M' 1 v B (cu (C9 y)) → Rd M' 1 (.slice A2 B c2) B (cu (C9 y)) → Calls Tryz.prog 25 #[v, .slice A2 B c2] w fun r w' => r = .returned (.bool true) ∧ Has σ M' w') := Lib.hid fun M' w v h h1 h2 => refSame_eq h h1 h2 hB1000
                  generalize cu (C9 y) = cy at *
                  have v1 : IntKind.i64.wrap (1 + (nh : Int)) = ((1 + nh : Nat) : Int) := by rw [show 1 + (nh : Int) = ((1 + nh : Nat) : Int) by omega]; exact IntWalk.i64_in _ (by omega)
                  have v2 : IntKind.i64.wrap (((1 + nh : Nat) : Int) + (fc : Int)) = ((1 + nh + fc : Nat) : Int) := by rw [show ((1 + nh : Nat) : Int) + (fc : Int) = ((1 + nh + fc : Nat) : Int) by omega]; exact IntWalk.i64_in _ (by omega)
                  generalize 1 + nh + fc = tot at *
                  generalize 1 + nh = tot1 at *
                  have v3 : ((tot : Int) != (tot : Int)) = false := by simp
                  clear hy hyL b1 b2 hfw hB1000
                  go_upto_region 51 with (first
                    | (with_reducible show wpList _ _ _ ({ dst := _, op := Op.load 3 _, type := _, pos := _, after := _, guard := _ } :: _) _ _; refine wpList_load1_has h rfl 3 _ rfl rfl hbf9 r0 Tryz.underlying3 rfl ?_))
                  refine wp_region_held_drew (S := Has σ (M9)) (by kernel_rfl) (h.drew) (fun hHeld => ?_)
                  refine wpAnyH_take (i := 0) (v := ?_) rfl (by kernel_rfl) (by kernel_rfl) (by kernel_rfl) (fun _ _ _ h => h) (Or.inl ⟨by rfl, ?_⟩) hHeld ?_
                  rotate_left
                  · (intro wz _; go_simp; try with_reducible rfl)
                  try simp only [qA, qB, qC, Act.put, qD, qE, qF]
                  refine wpAnyH_take (i := 1) (v := ?_) rfl (by kernel_rfl) (by kernel_rfl) (by kernel_rfl) (fun _ _ _ h => h) (Or.inl ⟨by rfl, ?_⟩) hHeld ?_
                  rotate_left
                  · (intro wz _; go_simp; try with_reducible rfl)
                  try simp only [qA, qB, qC, Act.put, qD, qE, qF]
                  refine wpAnyH_take (i := 3) (v := ?_) rfl (by kernel_rfl) (by kernel_rfl) (by kernel_rfl) (fun _ _ _ h => h) (Or.inl ⟨by rfl, ?_⟩) hHeld ?_
                  rotate_left
                  · (intro wz _; go_simp; try with_reducible rfl)
                  try simp only [qA, qB, qC, Act.put, qD, qE, qF]
                  refine wpAnyH_take (i := 4) (v := ?_) rfl (by kernel_rfl) (by kernel_rfl) (by kernel_rfl) (fun _ _ _ h => h) (Or.inl ⟨by rfl, ?_⟩) hHeld ?_
                  rotate_left
                  · (intro wz _; go_simp; try with_reducible rfl)
                  try simp only [qA, qB, qC, Act.put, qD, qE, qF]
                  refine wpAnyH_take (i := 5) (v := ?_) rfl (by kernel_rfl) (by kernel_rfl) (by kernel_rfl) (fun _ _ _ h => h) (Or.inl ⟨by rfl, ?_⟩) hHeld ?_
                  rotate_left
                  · (intro wz _; go_simp; try with_reducible rfl)
                  try simp only [qA, qB, qC, Act.put, qD, qE, qF]
                  refine wpAnyH_take (i := 6) (v := _) rfl (by kernel_rfl) (by kernel_rfl) (by kernel_rfl) (fun _ _ _ h => h) (yields_load1 rfl 35 _ rfl rfl hbw9 eW9 Tryz.underlying35 rfl) hHeld ?_
                  try simp only [qA, qB, qC, Act.put, qD, qE, qF]
                  replace h := h.drew
                  generalize w.drew = wq at h hHeld ⊢
                  clear w
                  obtain ⟨w, rfl⟩ : ∃ q : World, q = wq := ⟨_, rfl⟩
                  refine wpAnyH_ready (rs := [2]) (by kernel_rfl) (by simp) ?_
                  refine AllReadyH.cons rfl (fun K hK => ?_) AllReadyH.nil
                  (go_simp; go_wp2_with (go_at_call 26; refine (CE.out _ h).mono ?_; clear h; rintro _ w ⟨v10, M10, rfl, h, hle10, hv10⟩))
                  refine hK.out _ _ (h.le hle10) (fun hHeld => ?_)
                  clear hK K
                  try simp only [Act.put, qD, qE, qF]
                  refine wpAnyH_ready (rs := [7]) (by kernel_rfl) (by simp) ?_
                  refine AllReadyH.cons rfl (fun K hK => ?_) AllReadyH.nil
                  (go_simp; go_wp2_with (go_at_call 25; refine (SA.out _ _ _ h hv10 (hrW.le hle10)).mono ?_; clear h; rintro _ w ⟨rfl, h⟩))
                  refine hK.out _ _ (h.le hle10) (fun hHeld => ?_)
                  clear hK K
                  try simp only [Act.put, qD, qE, qF]
                  refine wpAnyH_take (i := 8) (v := ?_) rfl (by kernel_rfl) (by kernel_rfl) (by kernel_rfl) (fun _ _ _ h => h) (Or.inl ⟨by rfl, ?_⟩) hHeld ?_
                  rotate_left
                  · (intro wz _; go_simp; try with_reducible rfl)
                  try simp only [qA, qB, qC, Act.put, qD, qE, qF]
                  refine wpAnyH_take (i := 9) (v := ?_) rfl (by kernel_rfl) (by kernel_rfl) (by kernel_rfl) (fun _ _ _ h => h) (Or.inl ⟨by rfl, ?_⟩) hHeld ?_
                  rotate_left
                  · (intro wz _; go_simp; try with_reducible rfl)
                  try simp only [qA, qB, qC, Act.put, qD, qE, qF]
                  refine wpAnyH_take (i := 10) (v := ?_) rfl (by kernel_rfl) (by kernel_rfl) (by kernel_rfl) (fun _ _ _ h => h) (Or.inl ⟨by rfl, ?_⟩) hHeld ?_
                  rotate_left
                  · (intro wz _; go_simp; try with_reducible rfl)
                  try simp only [qA, qB, qC, Act.put, qD, qE, qF]
                  refine wpAnyH_take (i := 12) (v := ?_) rfl (by kernel_rfl) (by kernel_rfl) (by kernel_rfl) (fun _ _ _ h => h) (Or.inl ⟨by rfl, ?_⟩) hHeld ?_
                  rotate_left
                  · (intro wz _; go_simp; try with_reducible rfl)
                  try simp only [qA, qB, qC, Act.put, qD, qE, qF]
                  refine wpAnyH_take (i := 14) (v := ?_) rfl (by kernel_rfl) (by kernel_rfl) (by kernel_rfl) (fun _ _ _ h => h) (Or.inl ⟨by rfl, ?_⟩) hHeld ?_
                  rotate_left
                  · (intro wz _; go_simp; try with_reducible rfl)
                  try simp only [qA, qB, qC, Act.put, qD, qE, qF]
                  refine wpAnyH_take (i := 15) (v := ?_) rfl (by kernel_rfl) (by kernel_rfl) (by kernel_rfl) (fun _ _ _ h => h) (Or.inl ⟨by rfl, ?_⟩) hHeld ?_
                  rotate_left
                  · (intro wz _; go_simp; try with_reducible rfl)
                  try simp only [qA, qB, qC, Act.put, qD, qE, qF]
                  refine wpAnyH_take (i := 16) (v := ?_) rfl (by kernel_rfl) (by kernel_rfl) (by kernel_rfl) (fun _ _ _ h => h) (Or.inl ⟨by rfl, ?_⟩) hHeld ?_
                  rotate_left
                  · (intro wz _; go_simp; try with_reducible rfl)
                  try simp only [qA, qB, qC, Act.put, qD, qE, qF]
                  refine wpAnyH_take (i := 17) (v := _) rfl (by kernel_rfl) (by kernel_rfl) (by kernel_rfl) (fun _ _ _ h => h) (yields_load1 rfl 47 _ rfl rfl hbh9 eH9 Tryz.underlying47 rfl) hHeld ?_
                  try simp only [qA, qB, qC, Act.put, qD, qE, qF]
                  refine wpAnyH_take (i := 18) (v := ?_) rfl (by kernel_rfl) (by kernel_rfl) (by kernel_rfl) (fun _ _ _ h => h) (Or.inl ⟨by rfl, ?_⟩) hHeld ?_
                  rotate_left
                  · (intro wz _; go_simp; try with_reducible rfl)
                  try simp only [qA, qB, qC, Act.put, qD, qE, qF]
                  refine wpAnyH_take (i := 19) (v := ?_) rfl (by kernel_rfl) (by kernel_rfl) (by kernel_rfl) (fun _ _ _ h => h) (Or.inl ⟨by rfl, ?_⟩) hHeld ?_
                  rotate_left
                  · (intro wz _; go_simp; try with_reducible rfl)
                  try simp only [qA, qB, qC, Act.put, qD, qE, qF]
                  refine wpAnyH_take (i := 20) (v := ?_) rfl (by kernel_rfl) (by kernel_rfl) (by kernel_rfl) (fun _ _ _ h => h) (Or.inl ⟨by rfl, ?_⟩) hHeld ?_
                  rotate_left
                  · (intro wz _; go_simp; try with_reducible rfl)
                  try simp only [qA, qB, qC, Act.put, qD, qE, qF]
                  refine wpAnyH_take (i := 21) (v := ?_) rfl (by kernel_rfl) (by kernel_rfl) (by kernel_rfl) (fun _ _ _ h => h) (Or.inl ⟨by rfl, ?_⟩) hHeld ?_
                  rotate_left
                  · (intro wz _; go_simp; try with_reducible rfl)
                  try simp only [qA, qB, qC, Act.put, qD, qE, qF]
                  refine wpAnyH_take (i := 22) (v := ?_) rfl (by kernel_rfl) (by kernel_rfl) (by kernel_rfl) (fun _ _ _ h => h) (Or.inl ⟨by rfl, ?_⟩) hHeld ?_
                  rotate_left
                  · (intro wz _; go_simp; try with_reducible rfl)
                  try simp only [qA, qB, qC, Act.put, qD, qE, qF]
                  refine wpAnyH_take (i := 23) (v := _) rfl (by kernel_rfl) (by kernel_rfl) (by kernel_rfl) (fun _ _ _ h => h) (yields_load1 rfl 35 _ rfl rfl hbw9 eW9 Tryz.underlying35 rfl) hHeld ?_
                  try simp only [qA, qB, qC, Act.put, qD, qE, qF]
                  refine wpAnyH_ready (rs := [11]) (by kernel_rfl) (by simp) ?_
                  refine AllReadyH.cons rfl (fun K hK => ?_) AllReadyH.nil
                  (go_simp; go_wp2_with (go_at_call 17; refine (WA9.out _ hle10 _ h).mono ?_; clear h; rintro _ w ⟨rfl, h⟩))
                  refine hK.out _ _ (h.le hle10) (fun hHeld => ?_)
                  clear hK K
                  try simp only [Act.put, qD, qE, qF]
                  refine wpAnyH_ready (rs := [13]) (by kernel_rfl) (by simp) ?_
                  refine AllReadyH.cons rfl (fun K hK => ?_) AllReadyH.nil
                  (go_simp; go_wp2_with (go_at_call 27; refine (HE.out _ hle10 _ h).mono ?_; clear h; rintro _ w ⟨rfl, h⟩))
                  refine hK.out _ _ (h.le hle10) (fun hHeld => ?_)
                  clear hK K
                  try simp only [Act.put, qD, qE, qF]
                  refine wpAnyH_ready (rs := [24]) (by kernel_rfl) (by simp) ?_
                  refine AllReadyH.cons rfl (fun K hK => ?_) AllReadyH.nil
                  (go_simp; go_wp2_with (go_at_call 28; refine (FI.out _ _ _ h (hrW.le hle10)).mono ?_; clear h; rintro _ w ⟨rfl, h⟩))
                  refine hK.out _ _ (h.le hle10) (fun hHeld => ?_)
                  clear hK K
                  try simp only [Act.put, qD, qE, qF]
                  refine wpAnyH_take (i := 25) (v := ?_) rfl (by kernel_rfl) (by kernel_rfl) (by kernel_rfl) (fun _ _ _ h => h) (Or.inl ⟨by rfl, ?_⟩) hHeld ?_
                  rotate_left
                  · (intro wz _; go_simp; try with_reducible rfl)
                  try simp only [qA, qB, qC, Act.put, qD, qE, qF]
                  refine wpAnyH_take (i := 26) (v := ?_) rfl (by kernel_rfl) (by kernel_rfl) (by kernel_rfl) (fun _ _ _ h => h) (Or.inl ⟨by rfl, ?_⟩) hHeld ?_
                  rotate_left
                  · (intro wz _; go_simp; try with_reducible rfl)
                  try simp only [qA, qB, qC, Act.put, qD, qE, qF]
                  refine wpAnyH_take (i := 27) (v := ?_) rfl (by kernel_rfl) (by kernel_rfl) (by kernel_rfl) (fun _ _ _ h => h) (Or.inl ⟨by rfl, ?_⟩) hHeld ?_
                  rotate_left
                  · (intro wz _; go_simp; try with_reducible rfl)
                  try simp only [qA, qB, qC, Act.put, qD, qE, qF]
                  refine wpAnyH_take (i := 28) (v := ?_) rfl (by kernel_rfl) (by kernel_rfl) (by kernel_rfl) (fun _ _ _ h => h) (Or.inl ⟨by rfl, ?_⟩) hHeld ?_
                  rotate_left
                  · (intro wz _; go_simp; try with_reducible rfl)
                  try simp only [qA, qB, qC, Act.put, qD, qE, qF]
                  refine wpAnyH_take (i := 29) (v := ?_) rfl (by kernel_rfl) (by kernel_rfl) (by kernel_rfl) (fun _ _ _ h => h) (Or.inl ⟨by rfl, ?_⟩) hHeld ?_
                  rotate_left
                  · (intro wz _; go_simp; try with_reducible rfl)
                  try simp only [qA, qB, qC, Act.put, qD, qE, qF]
                  refine wpAnyH_take (i := 30) (v := ?_) rfl (by kernel_rfl) (by kernel_rfl) (by kernel_rfl) (fun _ _ _ h => h) (Or.inl ⟨by rfl, ?_⟩) hHeld ?_
                  rotate_left
                  · (intro wz _; go_simp; try with_reducible rfl)
                  try simp only [qA, qB, qC, Act.put, qD, qE, qF]
                  refine wpAnyH_ready (rs := [31]) (by kernel_rfl) (by simp) ?_
                  refine AllReadyH.cons rfl (fun K hK => ?_) AllReadyH.nil
                  (go_simp; go_wp2_with (go_at_call 29; refine (OD.out _ hle10 _ h).mono ?_; clear h; rintro _ w ⟨rfl, M11, h, hle11⟩))
                  refine hK.out _ _ (h.le (Mm.le_trans hle10 hle11)) (fun hHeld => ?_)
                  clear hK K
                  try simp only [Act.put, qD, qE, qF]
                  refine wpAnyH_take (i := 32) (v := ?_) rfl (by kernel_rfl) (by kernel_rfl) (by kernel_rfl) (fun _ _ _ h => h) (Or.inl ⟨by rfl, ?_⟩) hHeld ?_
                  rotate_left
                  · (intro wz _; go_simp; try with_reducible rfl)
                  try simp only [qA, qB, qC, Act.put, qD, qE, qF]
                  refine wpAnyH_take (i := 33) (v := ?_) rfl (by kernel_rfl) (by kernel_rfl) (by kernel_rfl) (fun _ _ _ h => h) (Or.inl ⟨by rfl, ?_⟩) hHeld ?_
                  rotate_left
                  · (intro wz _; go_simp; try with_reducible rfl)
                  try simp only [qA, qB, qC, Act.put, qD, qE, qF]
                  refine wpAnyH_done (by kernel_rfl) ?_ _
                  clear hHeld
                  replace h := h.le (Mm.le_trans hle10 hle11)
                  clear hle11 hle10 hv10 M10 M11
                  go_wp2
                  go_roundw
                  case rel => exact ⟨y + 1, by have := HYL.out; omega, by go_num, h⟩
                  case measure => have := HYL.out; simp [intOf]; omega
                · obtain rfl : y = L := by omega
                  have hyL' : ¬ (y : Int) < (y : Int) := by omega
                  clear hyL hy
                  go_wp2_with (first
                    | (with_reducible show wpList _ _ _ ({ dst := _, op := Op.load 3 _, type := _, pos := _, after := _, guard := _ } :: _) _ _; refine wpList_load1_has h rfl 3 _ rfl rfl hbf9 r0 Tryz.underlying3 rfl ?_))
                  go_roundw
                  case rel => exact ⟨i + 1, M9, lab9, K9, labK9, s9, fh9, fw9, had9, C9, by have := HLT.out; omega, by go_num, h, H9.out.1, H9.out.2.1, H9.out.2.2.1, H9.out.2.2.2.1, H9.out.2.2.2.2⟩
                  case measure => have := HLT.out; simp [intOf]; omega
          · rw [levT_out HT.out htt] at LV
            clear ha hA hm hI htt
            go_wp2_with (first
              | (with_reducible show wpList _ _ _ ({ dst := _, op := Op.load 3 _, type := _, pos := _, after := _, guard := _ } :: _) _ _; refine wpList_load1_has h rfl 3 _ rfl rfl hbl e0 Tryz.underlying3 rfl ?_)
              | (go_at_call 12; refine (LV.out _ h).mono ?_; clear h; rintro _ w ⟨rfl, h⟩))
            go_roundw
            case rel => exact ⟨i + 1, M3, lab3, K3, labK3, s, fh, fw, had, C, by have := HLT.out; omega, by go_num, h, HM3.out, HB3.out, HS3.out, HA3.out, HAI.out.mono⟩
            case measure => have := HLT.out; simp [intOf]; omega
        · obtain rfl : i = n := by omega
          have hlt' : ¬ (i : Int) < (i : Int) := by omega
          clear hlt hi
          go_wp2_with (first
            | (go_at_call 11; refine (LI.out _ _ h).mono ?_; clear h; rintro _ w ⟨rfl, h⟩))
          go_ret
          exact ⟨rfl, h.le (Mm.le_trans HLE1.out (Mm.le_trans HS3.out (Mm.le_trans (stable_le _ _) HK3.out)))⟩
end
end Go.Proofs.YtjeeldacnllipaaGreat
