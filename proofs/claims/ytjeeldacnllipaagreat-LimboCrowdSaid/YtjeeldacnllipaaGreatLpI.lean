import Derived.Test.YtjeeldacnllipaaGreatLpH
namespace Go.Proofs.YtjeeldacnllipaaGreat
set_option maxHeartbeats 100000000
set_option maxRecDepth 20000
set_option linter.unusedVariables false
set_option linter.unusedSimpArgs false
set_option linter.unnecessarySimpa false
open List renaming getElem_toArray → qA, getElem_cons_succ → qB, getElem_cons_zero → qC, setIfInBounds_toArray → qD, set_cons_zero → qE, set_cons_succ → qF
section
open Go.RowKit
theorem lcCrowd_long {σ w : World} {M : Mm} (h : Has σ M w) (c : Nat → Int) (hc : zF c) {L B S gens T : Nat} (hn : Nums c L B S) (hg : c 12 = (gens : Nat)) (hT : c 1 = (T : Nat)) {A : Option Addr} {n cap : Nat} {lst : List (Int × Int)} (hr : Rd M 2 (.slice A n cap) n (lst.flatMap enc2)) (hl : lst.length = n) (h60 : n ≤ 1200) :
  Calls Tryz.prog 4 #[yM c, .slice A n cap] w fun r w' => r = .returned (.bool true) ∧ Has σ M w' := by
 have NW := Lib.hid (fun (M' : Mm) (w : World) (h : Has σ M' w) => lX h c hc hn)
 have LI := Lib.hid (fun (M' : Mm) (w : World) (h : Has σ M' w) => lV h)
 have hx : (ints .i64 14 c).extract 0 (0 + 14) = ints .i64 14 c := rfl
 have hz : (ints .i64 14 c).size = 14 := rfl
 have r1 : (ints .i64 14 c)[1]? = some (.int .i64 (T : Nat)) := by rw [← hT]; rfl
 have g60 : decide ((1200 : Int) < (n : Int)) = false := decide_eq_false (by omega)
 have g60' : ¬ (1200 : Int) < (n : Int) := by omega
 have hT8 : 1 ≤ T ∧ T ≤ 8 := by have := hc.2.1; omega
 have MS := mk_ints T (by omega)
 have HC := Lib.hid hc
 have HNU := Lib.hid hn
 have HG := Lib.hid hg
 have HT := Lib.hid hT
 have HR := Lib.hid hr
 have HL := Lib.hid hl
 have hn60 : n ≤ 1200 := h60
 unfold yM at NW ⊢
 clear hc hn hg hT hr hl h60
 generalize hrw : ints .i64 14 c = row at NW hx hz r1 ⊢
 clear hrw
 go_enter Tryz.func4, Tryz.ntmps4
 go_upto_region 1 with (fail)
 obtain ⟨M1, hbx, hle1, hbf, hnf⟩ := h.box (.cells row 24)
 generalize w.alloc _ = wx at hbx ⊢
 generalize w.heap.size = bf at hbf hnf ⊢
 clear h
 try clear w
 have h := hbx
 clear hbx
 obtain ⟨w, rfl⟩ : ∃ x : World, x = wx := ⟨_, rfl⟩
 go_upto_region 4 with (first
  | ((with_reducible show wpList _ _ _ (⟨_, .load 24 _, _, _, _, _⟩ :: _) _ _); refine zR h rfl 24 _ rfl rfl hbf hx hz Tryz.underlying24 rfl (by kernel_rfl) ?_; try simp only [Act.put, qD, qE, qF])
  | ((go_at_call 9; refine (NW.out _ _ h).mono ?_; clear h; rintro _ w ⟨p, M2, lab2, s, rfl, h, hB2, hM2, hN⟩)))
 obtain ⟨tp, HTP⟩ : ∃ tp, Hid (tp = s.tp) := ⟨_, rfl⟩
 have hA2 := LcJ.first (T := T) HNU.out HC.out HG.out hN hM2.wsz
 rw [← HTP.out] at hA2
 obtain ⟨tlen, HTL⟩ : ∃ tl, Hid (tl = tp.length ∧ (tl : Int) = c 1) := ⟨_, Lib.hid ⟨rfl, by rw [HTP.out, hM2.tlen, hN.c]⟩⟩
 have hbf2 := hB2.le _ _ hbf
 have HM2 := Lib.hid hM2
 have HB2 := Lib.hid hB2
 have HA2 := Lib.hid hA2
 have HLE1 := Lib.hid hle1
 clear hM2 hB2 hN hA2 HTP NW hle1 hnf
 go_upto_region 5 with (first
  | (with_reducible show wpList _ _ _ (⟨_, .load 3 _, _, _, _, _⟩ :: _) _ _; refine zZ h rfl 3 _ rfl rfl hbf2 r1 Tryz.underlying3 rfl ?_))
 clear MS
 obtain ⟨M3, hbx, hle3, hbh, hnh⟩ := h.box (.cells (nils T).toArray 47)
 generalize w.alloc _ = wx at hbx ⊢
 generalize w.heap.size = bh at hbh hnh ⊢
 clear h
 try clear w
 have h := hbx
 clear hbx
 obtain ⟨w, rfl⟩ : ∃ x : World, x = wx := ⟨_, rfl⟩
 have hO3 : Own (outK M1 M2 (fun _ => 0) 2) M3 47 1 (.slice (some ⟨bh, 0, none⟩) T T) T (nils T) := by
  rw [jY (fun c o hc => by show (0 : Nat) ≠ 2; decide)]
  exact ⟨by simp [nils], .inr ⟨bh, T, _, rfl, hnh, hbh, Nat.le_refl _, by unfold maxLen; omega, by simp [nils], by rw [Nat.mul_one]; exact List.take_of_length_le (by simp [nils])⟩⟩
 obtain ⟨lab3, K3, labK3, hM3, hB3, hK3, hR3⟩ := HM2.out.rowTo HB2.out (by rw [jY (fun c o hc => by show (0 : Nat) ≠ 2; decide)]; exact hle3) hO3
 have hS3 : M1.le (stable K3 labK3) := fun c o hc => by
  obtain ⟨a, b⟩ := hK3 c o hc (by show ¬ (0 : Nat) = 2; decide)
  unfold stable
  rw [if_pos (show labK3 c = 0 from b)]
  exact a
 have hL3 : LcL M1 T bh p M3 lab3 K3 labK3 s (fun _ => .slice none 0 0) (fun _ => []) 3 (.slice none 0 0) [] := ⟨hM3, hB3, hS3, ⟨hR3, fun k hk => RowF.nil _ _ _ _⟩, .inl rfl, Row.nil _ _ _ _ _⟩
 have HL3 := Lib.hid hL3
 clear hO3 hM3 hB3 hK3 hR3 hS3 hL3 hbf2 hle3 hbh hnh HM2 HB2
 go_upto_region 7 with (fail)
 go_loopw [8, 9] (fun v8 u wr => ∃ (i : Nat) (M : Mm) (lab : Nat → Nat) (K : Mm) (labK : Nat → Nat) (s : MachS) (fh : Nat → Value) (md : Nat → List Nat) (ja : Nat) (aw : List AwE), i ≤ n ∧ u = .int .i64 (i : Nat) ∧ Has σ M wr ∧ LcL M1 T bh p M lab K labK s fh md ja v8 aw ∧ LcJ c B S gens L T tp i s md aw) (fun _ u _ => n - (intOf u).toNat)
 case atStart => exact ⟨0, M3, lab3, K3, labK3, s, _, _, 3, [], Nat.zero_le _, rfl, h, HL3.out, HA2.out⟩
 clear h w HL3 HA2 lab3 K3 labK3 M3 M2 lab2 s
 obtain ⟨w, rfl⟩ : ∃ x : World, x = wr := ⟨_, rfl⟩
 obtain ⟨i, M3, lab3, K3, labK3, s, fh, md, ja, aw, hi, rfl, h, hL3, hA3⟩ := hrel
 have HL3 := Lib.hid hL3
 have HA3 := Lib.hid hA3
 have hbf3 := hL3.m1le _ _ hbf
 obtain ⟨avA, avc, rfl⟩ := hL3.arow.form
 clear hL3 hA3
 by_cases hlt : i < n
 ·have hrd : Rd K3 2 (.slice A n cap) n (lst.flatMap enc2) := HR.out.le (Mm.le_trans HLE1.out (Mm.le_trans HL3.out.m1 (tC _ _)))
  obtain ⟨en, he⟩ : ∃ e, lst[i]? = some e := ⟨_, List.getElem?_eq_getElem (by rw [HL.out]; exact hlt)⟩
  obtain ⟨bl, ol, cl, csl, tl2, fzl, hle, hblK, hcl⟩ := hrd.elem (enc := enc2) (fun _ => rfl) hlt he
  have hbl := HL3.out.base.le _ _ hblK
  have HBLK := Lib.hid hblK
  obtain ⟨et, ew⟩ := en
  have e0 : csl[ol + i * 2 + 0]? = some (.int .i64 et) := hcl 0 _ rfl
  have e1 : csl[ol + i * 2 + 1]? = some (.int .i64 ew) := hcl 1 _ rfl
  rw [Nat.add_zero] at e0
  cases hle
  have hlt' : (i : Int) < (n : Int) := by omega
  have wi : IntKind.i64.wrap ((i : Int) + 1) = ((i + 1 : Nat) : Int) := by rw [show (i : Int) + 1 = ((i + 1 : Nat) : Int) by omega]; exact IntWalk.i64_in _ (by omega)
  have HLT := Lib.hid hlt
  obtain ⟨a, m, g, ha, hm, hA, hI, hE⟩ := HA3.out.all
  clear hcl hrd he hlt hi hblK
  by_cases htt : 0 ≤ et ∧ et < (T : Int)
  ·obtain ⟨tn, rfl⟩ : ∃ tn : Nat, et = (tn : Nat) := ⟨et.toNat, by omega⟩
   have htn : tn < T := by omega
   obtain ⟨elv, ll⟩ := uP HC.out HNU.out HT.out htn
   obtain ⟨q, hq⟩ : ∃ q, tp[tn]? = some q := ⟨_, List.getElem?_eq_getElem (by have h1 := HTL.out; have h2 := HT.out; omega)⟩
   have htc : (tn : Int) < c 1 := by have := HT.out; omega
   have TH := Lib.hid (fun (w : World) (h : Has σ M3 w) => yT h HL3.out.mach (t := tn) (q := q) (by rw [hA.ttp]; exact hq))
   have LV := Lib.hid (fun (w : World) (h : Has σ M3 w) => vV h HL3.out.mach (tn : Int))
   rw [hA.cc, elv] at LV
   have DP := Lib.hid (mX (σ := σ) HL3.out.mach hA htc hq)
   obtain ⟨lv, hlv⟩ : ∃ lv, levT c tn = lv := ⟨_, rfl⟩
   rw [hlv] at ll elv LV
   have HAL := Lib.hid (⟨ha, hm, hA, hI, hE⟩ : a ≤ i ∧ m ≤ 2 * i ∧ AbsM c tp a s g ∧ LcI B S gens L T (nThr c T) (levT c) m g md ∧ ∀ e ∈ aw, AwH S L T B (levT c) g e)
   have HLV := Lib.hid hlv
   have HQ := Lib.hid hq
   have HTN := Lib.hid htn
   have HTC := Lib.hid htc
   have HLL := Lib.hid ll
   have hll : (lv : Int) < (L : Int) := by omega
   have htT : (tn : Int) < (T : Int) := by omega
   clear ha hm hA hI hE hlv elv hq htt htn htc ll
   go_upto_region 13 with (first
    | (with_reducible show wpList _ _ _ (⟨_, .load 3 _, _, _, _, _⟩ :: _) _ _; refine zZ h rfl 3 _ rfl rfl hbl e0 Tryz.underlying3 rfl ?_)
    | (go_at_call 13; refine (TH.out _ h).mono ?_; clear h; rintro _ w ⟨rfl, h⟩)
    | (go_at_call 12; refine (LV.out _ h).mono ?_; clear h; rintro _ w ⟨rfl, h⟩))
   clear TH LV
   obtain ⟨dn, hdn⟩ : ∃ dn : Nat, (g.thr tn).length = dn := ⟨_, rfl⟩
   rw [hdn] at DP
   have HDN := Lib.hid hdn
   clear hdn
   go_upto_if 67 with (first | (go_at_call 30; refine (DP.out _ h).mono ?_; clear h; rintro _ w ⟨rfl, h⟩))
   go_cut [] from 68 to 80 (fun wx => ∃ (M3 : Mm) (lab3 : Nat → Nat) (s3 : MachS) (m3 : Nat) (g3 : GM), Has σ M3 wx ∧ LcL M1 T bh p M3 lab3 K3 labK3 s3 fh md ja (.slice avA aw.length avc) aw ∧ Hid (AbsM c tp a s3 g3 ∧ m3 ≤ m + 1 ∧ LcI B S gens L T (nThr c T) (levT c) m3 g3 md ∧ (∀ e ∈ aw, AwH S L T B (levT c) g3 e) ∧ g3.thr tn ≠ []))
   case first =>
    as_aux_lemma =>
     by_cases hgt : g.thr tn = []
     ·obtain rfl : dn = 0 := by rw [← HDN.out, hgt]; rfl
      obtain ⟨curH, Ah, ch, hbm, eH, hfH⟩ := HL3.out.law.have_ (Mm.le_refl K3) rfl HTN.out
      have BG := Lib.hid (fun (w : World) (h : Has σ M3 w) => lcBegin_eq h HL3.out.mach HL3.out.base HAL.out.2.2.1 HTC.out HQ.out hgt ew (md tn).length)
      have hfn := fnB_ok ew (md tn)
      obtain ⟨nh, hnh⟩ : ∃ nh, (md tn).length = nh := ⟨_, rfl⟩
      rw [hnh] at eH BG hfn
      have HFN := Lib.hid hfn
      have HGT := Lib.hid hgt
      have hblK := HBLK.out
      clear hgt hnh hfn hfH hbl
      go_upto_region 14 with (fail)
      refine wp_region_held_drew (S := Has σ (K3)) (by kernel_rfl) ((h.le HL3.out.base.le).drew) (fun hHeld => ?_)
      refine tkB 0 ?_
      try simp only [qA, qB, qC, Act.put, qD, qE, qF]
      refine tkB 1 ?_
      try simp only [qA, qB, qC, Act.put, qD, qE, qF]
      refine tkB 2 ?_
      try simp only [qA, qB, qC, Act.put, qD, qE, qF]
      refine tkB 3 ?_
      try simp only [qA, qB, qC, Act.put, qD, qE, qF]
      refine tkB 4 ?_
      try simp only [qA, qB, qC, Act.put, qD, qE, qF]
      refine tkB 5 ?_
      try simp only [qA, qB, qC, Act.put, qD, qE, qF]
      refine tkA 6 rfl hHeld (zU rfl 3 _ rfl rfl hblK e1 Tryz.underlying3 rfl) ?_
      try simp only [qA, qB, qC, Act.put, qD, qE, qF]
      refine tkB 7 ?_
      try simp only [qA, qB, qC, Act.put, qD, qE, qF]
      refine tkB 8 ?_
      try simp only [qA, qB, qC, Act.put, qD, qE, qF]
      refine tkB 9 ?_
      try simp only [qA, qB, qC, Act.put, qD, qE, qF]
      refine tkA 10 rfl hHeld (zU rfl 47 _ rfl rfl hbm eH Tryz.underlying47 rfl) ?_
      try simp only [qA, qB, qC, Act.put, qD, qE, qF]
      refine tkB 11 ?_
      try simp only [qA, qB, qC, Act.put, qD, qE, qF]
      replace h := h.drew
      generalize w.drew = wq at h hHeld ⊢
      clear w
      obtain ⟨w, rfl⟩ : ∃ q : World, q = wq := ⟨_, rfl⟩
      refine op1 12 rfl fun K hK => ?_
      (go_simp; go_wp2_with (go_at_call 31; refine (BG.out _ h).mono ?_; clear h; rintro _ w ⟨rfl, M4, lab4, s4, h, hM4, hB4, hA4⟩))
      refine hK.out _ _ (h.le hB4.le) (fun hHeld => ?_)
      clear hK K
      try simp only [Act.put, qD, qE, qF]
      refine wpAnyH_done (by kernel_rfl) ?_ _
      clear hHeld
      have C := uE (gens := gens) (m := 0) (n := 0) HC.out HNU.out HG.out HT.out (by omega) (by omega) HTN.out HQ.out
      have H4 := Lib.hid (⟨hA4, Nat.le_refl _, HAL.out.2.2.2.1.begin C.hT8 HTN.out C.lev HGT.out HFN.out, fun e he => (HAL.out.2.2.2.2 e he).begin HGT.out, by rw [zO]; simp⟩ : AbsM c tp a s4 (g.top tn [] ⟨fnB ew nh, 0, fun i => ([] : List Nat).getD i 0⟩) ∧ m + 1 ≤ m + 1 ∧ LcI B S gens L T (nThr c T) (levT c) (m + 1) (g.top tn [] ⟨fnB ew nh, 0, fun i => ([] : List Nat).getD i 0⟩) md ∧ (∀ e ∈ aw, AwH S L T B (levT c) (g.top tn [] ⟨fnB ew nh, 0, fun i => ([] : List Nat).getD i 0⟩) e) ∧ (g.top tn [] ⟨fnB ew nh, 0, fun i => ([] : List Nat).getD i 0⟩).thr tn ≠ [])
      have HL4 := Lib.hid (HL3.out.on hM4 hB4)
      clear hA4 hM4 hB4 hbm hblK eH C BG
      go_wp2
      go_meet
      case rel => exact ⟨M4, lab4, s4, m + 1, _, h, HL4.out, H4⟩
     have hd1 : 0 < dn := by rw [← HDN.out]; exact List.length_pos_iff.2 hgt
     have hd2 : ((dn : Int) == 0) = false := by rw [beq_eq_false_iff_ne]; omega
     have HGT := Lib.hid hgt
     clear hgt hd1
     go_wp2
     go_meet
     case rel => exact ⟨M3, lab3, s, m, g, h, HL3.out, Lib.hid ⟨HAL.out.2.2.1, Nat.le_succ _, HAL.out.2.2.2.1, HAL.out.2.2.2.2, HGT.out⟩⟩
   obtain ⟨M4, lab4, s4, m4, g4, h4, hL4, H4⟩ := hcut
   clear h
   obtain ⟨w, rfl⟩ : ∃ q : World, q = wc := ⟨_, rfl⟩
   have h := h4
   have HL4 := Lib.hid hL4
   clear h4 hL4 HL3 e0 e1 hbl hbf3 DP HDN
   /- D: x.Top().Fn; E: the step. -/
   obtain ⟨hA4, hm4, hI4, hE4, hne4⟩ := H4.out
   obtain ⟨fs, F, hFF, hlen⟩ : ∃ fs F, g4.thr tn = fs ++ [F] ∧ fs.length < 1000 := by
    rcases List.eq_nil_or_concat (g4.thr tn) with e | ⟨l, x, e⟩
    ·exact absurd e hne4
    rw [List.concat_eq_append] at e
    refine ⟨l, x, e, ?_⟩
    have := hI4.len HTN.out
    rw [e, List.length_append] at this
    omega
   obtain ⟨bt, TPT, csf, tyf, hbt, efn⟩ := lc_top (σ := σ) HL4.out.mach hA4 HTC.out HQ.out hFF (by omega)
   have TP := Lib.hid TPT
   have DP4 := Lib.hid (mX (σ := σ) HL4.out.mach hA4 HTC.out HQ.out)
   have NO := Lib.hid (fun (w : World) (h : Has σ M4 w) => now24_eq h HL4.out.mach hA4 HNU.out HLL.out)
   have ST := Lib.hid (fun (w : World) (h : Has σ M4 w) => lc_step h HL4.out.mach HL4.out.base HC.out HNU.out HG.out HT.out (by have := HAL.out.1; have := HLT.out; omega) (by have := HAL.out.2.1; have := HLT.out; omega) HTN.out HQ.out hA4 hI4 hne4)
   obtain ⟨fn, hfn⟩ : ∃ fn, F.fn = fn := ⟨_, rfl⟩
   rw [hfn] at efn
   obtain ⟨dn4, hdn4⟩ : ∃ d, (g4.thr tn).length = d := ⟨_, rfl⟩
   rw [hdn4] at DP4
   obtain ⟨ep, hep⟩ : ∃ e, g4.w lv 1 = e := ⟨_, rfl⟩
   rw [hep] at NO
   obtain ⟨curH, Ah, ch, hbm, eH, hfH⟩ := HL4.out.law.have_ HL4.out.base.le rfl HTN.out
   obtain ⟨nh, hnh⟩ : ∃ nh, (md tn).length = nh := ⟨_, rfl⟩
   rw [hnh] at eH
   have HF := Lib.hid (⟨hFF, hfn, hdn4, hep, hnh⟩ : g4.thr tn = fs ++ [F] ∧ F.fn = fn ∧ (g4.thr tn).length = dn4 ∧ g4.w lv 1 = ep ∧ (md tn).length = nh)
   have hrs : fn = 20 → nh ≠ 0 := fun e e2 => by
    obtain ⟨z, L', ow, had, ev, emp, hI, hZ, _⟩ := hI4.ex
    have hmd : md tn = [] := List.length_eq_zero_iff.1 (hnh.trans e2)
    rcases hZ.thr tn HTN.out with ⟨h0, _⟩ | ⟨F', h0, h1, _⟩ | ⟨F', h0, _, _, hF⟩ | ⟨F', x, h0, _, _, hF⟩ | ⟨F', G, h0, h2, _⟩
    ·exact hne4 h0
    ·rw [hFF] at h0
     have := List.append_inj_right' (h0.trans (List.nil_append _).symm) rfl
     cases this; omega
    ·rw [hFF] at h0
     have := List.append_inj_right' (h0.trans (List.nil_append _).symm) rfl
     cases this
     rcases hF with ⟨k, _⟩ | ⟨_, k, _⟩ | ⟨k, _⟩ | ⟨k, _⟩
     ·omega
     ·exact k hmd
     ·omega
     omega
    ·rw [hFF] at h0
     have := List.append_inj_right' (h0.trans (List.nil_append _).symm) rfl
     cases this
     have := hF.1; omega
    rw [hFF] at h0
    have h0 : fs ++ [F] = [F'] ++ [G] := h0
    have := List.append_inj_right' h0 rfl
    cases this; omega
   obtain ⟨b20, hb20⟩ : ∃ b : Bool, ((fn : Int) == 20) = b := ⟨_, rfl⟩
   have gnh : b20 = true → ((nh : Int) == 0) = false := fun e => by
    have : fn = 20 := by rw [e, beq_iff_eq] at hb20; omega
    have := hrs this
    rw [beq_eq_false_iff_ne]; omega
   have HRS := Lib.hid hrs
   clear hA4 hm4 hI4 hE4 hne4 TPT hFF hfn hdn4 hep hnh hrs hlen hfH
   go_upto_region 15 with (fail)
   go_cut [94] from 81 to 94 (fun v94 wx => v94 = .bool false ∧ Has σ M4 wx)
   case first =>
    as_aux_lemma =>
     cases b20 with
     | false =>
      clear gnh
      go_wp2_with (first
       | (go_at_call 32; refine (TP.out _ h).mono ?_; clear h; rintro _ w ⟨rfl, h⟩)
       | (with_reducible show wpList _ _ _ (⟨_, .load 3 _, _, _, _, _⟩ :: _) _ _; refine zZ h rfl 3 _ rfl rfl hbt efn Tryz.underlying3 rfl ?_))
      go_meet
      case rel => exact ⟨rfl, h⟩
     | true =>
      have gnh := gnh rfl
      go_wp2_with (first
       | (go_at_call 32; refine (TP.out _ h).mono ?_; clear h; rintro _ w ⟨rfl, h⟩)
       | (with_reducible show wpList _ _ _ (⟨_, .load 3 _, _, _, _, _⟩ :: _) _ _; refine zZ h rfl 3 _ rfl rfl hbt efn Tryz.underlying3 rfl ?_)
       | (with_reducible show wpList _ _ _ (⟨_, .load 47 _, _, _, _, _⟩ :: _) _ _; refine zZ h rfl 47 _ rfl rfl hbm eH Tryz.underlying47 rfl ?_))
      go_meet
      case rel => exact ⟨rfl, h⟩
   obtain ⟨rfl, h2⟩ := hcut
   clear h
   obtain ⟨w, rfl⟩ : ∃ q : World, q = wc := ⟨_, rfl⟩
   have h := h2
   clear h2 gnh hb20 b20 hbm eH
   obtain ⟨bd, hbd⟩ : ∃ b : Bool, ((dn4 : Int) == 1) = b := ⟨_, rfl⟩
   go_upto_region 21 with (first
    | (go_at_call 32; refine (TP.out _ h).mono ?_; clear h; rintro _ w ⟨rfl, h⟩)
    | (with_reducible show wpList _ _ _ (⟨_, .load 3 _, _, _, _, _⟩ :: _) _ _; refine zZ h rfl 3 _ rfl rfl hbt efn Tryz.underlying3 rfl ?_)
    | (go_at_call 30; refine (DP4.out _ h).mono ?_; clear h; rintro _ w ⟨rfl, h⟩)
    | (go_at_call 22; refine (NO.out _ h).mono ?_; clear h; rintro _ w ⟨rfl, h⟩)
    | ((go_at_call 33; refine (ST.out _ h).mono ?_; clear h; rintro _ w ⟨M5, lab5, s5, g5, md5, m5, rfl, h, hM5, hB5, hA5, hm5, hI5, hu5, hO5, hp5, hE5, hb5⟩; generalize hge : (g5.thr tn).isEmpty = eb)))
   have HEB := Lib.hid hge
   have HBD := Lib.hid hbd
   have HL5 := Lib.hid (HL4.out.on hM5 hB5)
   obtain ⟨t0, ht0⟩ : ∃ x, g5.told tn 0 = x := ⟨_, rfl⟩
   obtain ⟨c1, hc1⟩ : ∃ b, ((g5.thr tn).isEmpty && decide ((g4.thr tn).length = 1) && decide (F.fn = 1) && decide (g5.told tn 0 ≠ 0)) = b := ⟨_, rfl⟩
   obtain ⟨c2, hc2⟩ : ∃ b, ((g5.thr tn).isEmpty && decide ((g4.thr tn).length = 1) && decide (F.fn = 20) && decide (g5.told tn 0 = 1)) = b := ⟨_, rfl⟩
   have HPU := Lib.hid (lcO_push hO5 HF.out.1 hc1)
   have HRV := Lib.hid (lcO_rsv hO5 HF.out.1 hc2)
   obtain ⟨trow, ty, hqb, d0, d1⟩ := m_told HL5.out.mach hA5 HQ.out
   rw [ht0] at d0
   have HC1 : Hid ((eb && bd && ((fn : Int) == 1) && ((t0 : Int) != 0)) = c1) := Lib.hid (by
    rw [← hc1, hge, HF.out.2.2.1, HF.out.2.1, ht0, ← hbd]
    congr 1
    ·congr 1
     ·congr 1
      rw [Bool.eq_iff_iff, beq_iff_eq, decide_eq_true_eq]; omega
     rw [Bool.eq_iff_iff, beq_iff_eq, decide_eq_true_eq]; omega
    rw [Bool.eq_iff_iff, bne_iff_ne, decide_eq_true_eq]; omega)
   have HC2 : Hid ((eb && bd && ((fn : Int) == 20) && ((t0 : Int) == 1)) = c2) := Lib.hid (by
    rw [← hc2, hge, HF.out.2.2.1, HF.out.2.1, ht0, ← hbd]
    congr 1
    ·congr 1
     ·congr 1
      rw [Bool.eq_iff_iff, beq_iff_eq, decide_eq_true_eq]; omega
     rw [Bool.eq_iff_iff, beq_iff_eq, decide_eq_true_eq]; omega
    rw [Bool.eq_iff_iff, beq_iff_eq, decide_eq_true_eq]; omega)
   have H5 := Lib.hid (⟨hA5, hm5, hI5, hE5, ht0⟩ : AbsM c tp (a + 1) s5 g5 ∧ m5 ≤ m4 + 1 ∧ LcI B S gens L T (nThr c T) (levT c) m5 g5 md5 ∧ (∀ e, AwH S L T B (levT c) g4 e → AwH S L T B (levT c) g5 e ∨ uC (levT c) tn g4 g5 e) ∧ g5.told tn 0 = t0)
   clear hM5 hB5 hA5 hm5 hI5 hu5 hO5 hp5 hE5 hb5 hge hbd ht0 hc1 hc2 TP DP4 NO ST hbt efn HL4
   go_cut [125] from 109 to 125 (fun v wx => v = .bool c1 ∧ Has σ M5 wx)
   case first =>
    as_aux_lemma =>
     clear d1
     obtain ⟨ke, hke⟩ : ∃ b, ((fn : Int) == 1) = b := ⟨_, rfl⟩
     obtain ⟨te, hte⟩ : ∃ b, ((t0 : Int) != 0) = b := ⟨_, rfl⟩
     have hcc := HC1.out
     rw [hke, hte] at hcc
     cases eb with
     | false =>
      obtain rfl : c1 = false := by rw [← hcc]; rfl
      clear hcc hqb d0
      go_wp2
      go_meet
      case rel => exact ⟨rfl, h⟩
     | true =>
      cases bd with
      | false =>
       obtain rfl : c1 = false := by rw [← hcc]; rfl
       clear hcc hqb d0
       go_wp2
       go_meet
       case rel => exact ⟨rfl, h⟩
      | true =>
       cases ke with
       | false =>
        obtain rfl : c1 = false := by rw [← hcc]; rfl
        clear hcc hqb d0
        go_wp2
        go_meet
        case rel => exact ⟨rfl, h⟩
       | true =>
        obtain rfl : te = c1 := by rw [← hcc]; rfl
        clear hcc
        go_wp2_with (first
         | (with_reducible show wpList _ _ _ (⟨_, .load 42 _, _, _, _, _⟩ :: _) _ _; refine zZ h rfl 42 _ rfl rfl hqb d0 Tryz.underlying42 rfl ?_))
        go_meet
        case rel => exact ⟨rfl, h⟩
   obtain ⟨rfl, h2⟩ := hcut
   clear h
   obtain ⟨w, rfl⟩ : ∃ q : World, q = wc := ⟨_, rfl⟩
   have h := h2
   clear h2
   go_upto_if 125 with (fail)
   go_cut [] from 126 to 140 (fun wx => ∃ (M6 : Mm) (lab6 : Nat → Nat) (K6 : Mm) (labK6 : Nat → Nat) (fh6 : Nat → Value), Has σ M6 wx ∧ LcL M1 T bh p M6 lab6 K6 labK6 s5 fh6 md5 ja (.slice avA aw.length avc) aw)
   case first =>
    as_aux_lemma =>
     cases c1 with
     | false =>
      have e := HPU.out.2 rfl
      clear hqb d0 d1
      go_wp2
      go_meet
      case rel => exact ⟨M5, lab5, K3, labK3, fh, h, by rw [e]; exact HL5.out⟩
     | true =>
      obtain ⟨hmd5, x1, x2⟩ := HPU.out.1 rfl
      rw [H5.out.2.2.2.2] at hmd5 x1 x2
      obtain ⟨x, hx⟩ : ∃ x, t0 = x := ⟨_, rfl⟩
      subst hx
      have hS60 := HNU.out.s0.2
      have HM4 := Lib.hid HL5.out.mach
      have HB4 := Lib.hid HL5.out.base
      have HV3 := Lib.hid HL5.out.law
      have HS3 := Lib.hid HL5.out.m1
      have hTT : s5.tp[tn]? = some q := by rw [H5.out.1.ttp]; exact HQ.out
      have HTT := Lib.hid hTT
      have wx : IntKind.i64.wrap (t0 : Int) = (t0 : Int) := IntWalk.i64_in _ (by omega)
      have C := uE (gens := gens) (m := 0) (n := 0) HC.out HNU.out HG.out HT.out (by omega) (by omega) HTN.out HQ.out
      have hmdl : (md tn).length ≤ 100 := by
       have := (H5.out.2.2.1.has C.hT8 HTN.out C.hNL).1
       rw [hmd5, zY, List.length_append] at this
       omega
      have HMDL := Lib.hid hmdl
      have HMD5 := Lib.hid hmd5
      clear hmdl hTT C hmd5 x1 x2 hS60 d1 HPU HRV HC1 HC2
      obtain ⟨curH, Ah, ch, hbm, eH, hfH⟩ := HV3.out.have_ HB4.out.le rfl HTN.out
      have hO4 : OwnF (outK K3 M5 labK3 (10 + tn)) M5 3 (.slice Ah (md tn).length ch) (md tn).length (natv (md tn)) := by rw [← hfH]; exact (HV3.out.each tn HTN.out).up HB4.out.le
      have hOle4 := vM K3 M5 labK3 (10 + tn)
      have hq4 := uI (labK := labK3) (j := 10 + tn) HM4.out HB4.out HTT.out hqb
      obtain ⟨nh, hnh⟩ : ∃ nh, (md tn).length = nh := ⟨_, rfl⟩
      rw [hnh] at eH hO4
      have hn60h : nh ≤ 100 := by rw [← hnh]; exact HMDL.out
      have HNH := Lib.hid hnh
      have htT : (tn : Int) < (T : Int) := by have := HTN.out; omega
      clear hnh hfH
      go_upto_region 22 with (fail)
      have hg11 := Mm.one_get q (.cells trow ty (0, 0))
      have hD4 : (Mm.one q (.cells trow ty (0, 0))).le M5 := Mm.one_le hqb
      refine wp_region_held_drew (S := Has σ (Mm.one q (.cells trow ty (0, 0)))) (by kernel_rfl) (h.drew.le hD4) (fun hHeld => ?_)
      refine tkB 0 ?_
      try simp only [qA, qB, qC, Act.put, qD, qE, qF]
      refine tkB 1 ?_
      try simp only [qA, qB, qC, Act.put, qD, qE, qF]
      refine tkB 2 ?_
      try simp only [qA, qB, qC, Act.put, qD, qE, qF]
      refine tkB 3 ?_
      try simp only [qA, qB, qC, Act.put, qD, qE, qF]
      refine tkB 4 ?_
      try simp only [qA, qB, qC, Act.put, qD, qE, qF]
      refine tkB 6 ?_
      try simp only [qA, qB, qC, Act.put, qD, qE, qF]
      refine tkB 7 ?_
      try simp only [qA, qB, qC, Act.put, qD, qE, qF]
      refine tkB 8 ?_
      try simp only [qA, qB, qC, Act.put, qD, qE, qF]
      refine tkB 9 ?_
      try simp only [qA, qB, qC, Act.put, qD, qE, qF]
      refine tkA 10 rfl hHeld (zU rfl 42 _ rfl rfl hg11 d0 Tryz.underlying42 rfl) ?_
      try simp only [qA, qB, qC, Act.put, qD, qE, qF]
      refine tkB 11 ?_
      try simp only [qA, qB, qC, Act.put, qD, qE, qF]
      replace h := h.drew
      generalize w.drew = wq at h hHeld ⊢
      clear w hg11
      obtain ⟨w, rfl⟩ : ∃ q : World, q = wq := ⟨_, rfl⟩
      refine wpAnyH_ready (rs := [5, 12]) (by kernel_rfl) (by simp) ?_
      refine AllReadyH.cons rfl (fun K hK => ?_) (AllReadyH.cons rfl (fun K hK => ?_) AllReadyH.nil)
      ·skip
       refine yX rfl (zU rfl 47 _ rfl rfl hbm eH Tryz.underlying47 rfl) h ?_
       refine hK.out _ _ hHeld (fun hHeld => ?_); clear hK K; try simp only [Act.put, qD, qE, qF]
       refine op1 12 rfl fun K hK => ?_
       go_simp
       refine hK.out _ _ ((h.quietAlloc _).le hD4) (fun hHeld => ?_)
       clear hK K
       try simp only [Act.put, qD, qE, qF]
       refine op1 13 rfl fun K hK => ?_
       (refine uR h hOle4 rfl _ _ _ rfl rfl Tryz.underlying47 sQ rfl rfl hO4 rfl rfl (by omega) (by omega) ?_; clear h hHeld hOle4 hO4; intro v w M5 h hle5 hown5)
       refine hK.out _ _ (h.le (Mm.one_le (hle5 _ _ hq4))) (fun hHeld => ?_)
       clear hK K
       try simp only [Act.put, qD, qE, qF]
       obtain ⟨A5, c5, rfl⟩ := hown5.rd.form
       obtain ⟨lab5, K5, labK5, hM5, hB5, hK5, hR5⟩ := HM4.out.rowToF HB4.out hle5 hown5
       have hq5 := hle5 _ _ hq4
       have hH5 := ((HV3.out.hrow).keep hK5 (by omega)).up hB5.le
       have hHle5 := vM K5 M5 labK5 2
       have hq6 := uI (labK := labK5) (j := 2) hM5 hB5 HTT.out hq5
       refine tkB 14 ?_
       try simp only [qA, qB, qC, Act.put, qD, qE, qF]
       refine op1 15 rfl fun K hK => ?_
       (refine tV h hHle5 hH5 rfl 47 _ _ rfl rfl (k := tn) rfl HTN.out (u := .slice A5 (nh + 1) c5) rfl rfl (by kernel_rfl) ?_; clear h hHeld hHle5 hH5; intro w M6 h hle6 hown6)
       refine hK.out _ _ (h.le (Mm.one_le (hle6 _ _ hq6))) (fun hHeld => ?_)
       clear hK K
       try simp only [Act.put, qD, qE, qF]
       refine wpAnyH_done (by kernel_rfl) ?_ _
       clear hHeld
       obtain ⟨lab6, K6, labK6, hM6, hB6, hK6, hR6⟩ := hM5.rowTo hB5 hle6 hown6
       have hV6 := HV3.out.setH HTN.out hK5 (h2 := md tn ++ [t0]) (by rw [uG, List.length_append, HNH.out]; exact hR5) hK6 hR6
       have hS6 := Mm.le_trans (Mm.le_trans HS3.out (xS hK5 (by omega))) (xS hK6 (by omega))
       have hKK6 : Kp (fun j => j = 2 ∨ 10 ≤ j) K3 labK3 K6 labK6 := fun c o hc hA => by
        obtain ⟨a, b⟩ := hK5 c o hc (fun e => hA (.inr (by omega)))
        obtain ⟨a2, b2⟩ := hK6 c o a (fun e => hA (.inl (by rw [← b]; exact e)))
        exact ⟨a2, b2.trans b⟩
       clear hM5 hB5 hK5 hR5 hK6 hR6 hq6 hq5 hle5 hown5 hle6 hown6
       have hjb := HL5.out.hja
       have hA6 := HL5.out.arow.keep hKK6 (by omega)
       have HX6 := Lib.hid (⟨hM6, hB6, hS6, by rw [HMD5.out]; exact hV6, hjb, hA6⟩ : LcL M1 T bh p M6 lab6 K6 labK6 s5 _ md5 ja (.slice avA aw.length avc) aw)
       clear hM6 hB6 hV6 hS6 hKK6 hA6 hjb
       go_wp2
       go_meet
       case rel => exact ⟨M6, lab6, K6, labK6, _, h, HX6.out⟩
      skip
      go_simp
      refine hK.out _ _ ((h.quietAlloc _).le hD4) (fun hHeld => ?_)
      clear hK K
      try simp only [Act.put, qD, qE, qF]
      refine op1 5 rfl fun K hK => ?_
      refine yX rfl (zU rfl 47 _ rfl rfl hbm eH Tryz.underlying47 rfl) (h.quietAlloc _) ?_
      refine hK.out _ _ hHeld (fun hHeld => ?_); clear hK K; try simp only [Act.put, qD, qE, qF]
      refine op1 13 rfl fun K hK => ?_
      (refine uR h hOle4 rfl _ _ _ rfl rfl Tryz.underlying47 sQ rfl rfl hO4 rfl rfl (by omega) (by omega) ?_; clear h hHeld hOle4 hO4; intro v w M5 h hle5 hown5)
      refine hK.out _ _ (h.le (Mm.one_le (hle5 _ _ hq4))) (fun hHeld => ?_)
      clear hK K
      try simp only [Act.put, qD, qE, qF]
      obtain ⟨A5, c5, rfl⟩ := hown5.rd.form
      obtain ⟨lab5, K5, labK5, hM5, hB5, hK5, hR5⟩ := HM4.out.rowToF HB4.out hle5 hown5
      have hq5 := hle5 _ _ hq4
      have hH5 := ((HV3.out.hrow).keep hK5 (by omega)).up hB5.le
      have hHle5 := vM K5 M5 labK5 2
      have hq6 := uI (labK := labK5) (j := 2) hM5 hB5 HTT.out hq5
      refine tkB 14 ?_
      try simp only [qA, qB, qC, Act.put, qD, qE, qF]
      refine op1 15 rfl fun K hK => ?_
      (refine tV h hHle5 hH5 rfl 47 _ _ rfl rfl (k := tn) rfl HTN.out (u := .slice A5 (nh + 1) c5) rfl rfl (by kernel_rfl) ?_; clear h hHeld hHle5 hH5; intro w M6 h hle6 hown6)
      refine hK.out _ _ (h.le (Mm.one_le (hle6 _ _ hq6))) (fun hHeld => ?_)
      clear hK K
      try simp only [Act.put, qD, qE, qF]
      refine wpAnyH_done (by kernel_rfl) ?_ _
      clear hHeld
      obtain ⟨lab6, K6, labK6, hM6, hB6, hK6, hR6⟩ := hM5.rowTo hB5 hle6 hown6
      have hV6 := HV3.out.setH HTN.out hK5 (h2 := md tn ++ [t0]) (by rw [uG, List.length_append, HNH.out]; exact hR5) hK6 hR6
      have hS6 := Mm.le_trans (Mm.le_trans HS3.out (xS hK5 (by omega))) (xS hK6 (by omega))
      have hKK6 : Kp (fun j => j = 2 ∨ 10 ≤ j) K3 labK3 K6 labK6 := fun c o hc hA => by
       obtain ⟨a, b⟩ := hK5 c o hc (fun e => hA (.inr (by omega)))
       obtain ⟨a2, b2⟩ := hK6 c o a (fun e => hA (.inl (by rw [← b]; exact e)))
       exact ⟨a2, b2.trans b⟩
      clear hM5 hB5 hK5 hR5 hK6 hR6 hq6 hq5 hle5 hown5 hle6 hown6
      have hjb := HL5.out.hja
      have hA6 := HL5.out.arow.keep hKK6 (by omega)
      have HX6 := Lib.hid (⟨hM6, hB6, hS6, by rw [HMD5.out]; exact hV6, hjb, hA6⟩ : LcL M1 T bh p M6 lab6 K6 labK6 s5 _ md5 ja (.slice avA aw.length avc) aw)
      clear hM6 hB6 hV6 hS6 hKK6 hA6 hjb
      go_wp2
      go_meet
      case rel => exact ⟨M6, lab6, K6, labK6, _, h, HX6.out⟩
   obtain ⟨M6, lab6, K6, labK6, fh6, h6, hL6⟩ := hcut
   clear h
   obtain ⟨w, rfl⟩ : ∃ q : World, q = wc := ⟨_, rfl⟩
   have h := h6
   have HL6 := Lib.hid hL6
   clear h6 hL6 hqb d0 d1
   obtain ⟨trow, ty, hqb, d0, d1⟩ := m_told HL6.out.mach H5.out.1 HQ.out
   rw [H5.out.2.2.2.2] at d0
   have hlv := HLV.out
   go_upto_region 23 with (fail)
   go_cut [157] from 141 to 157 (fun v wx => v = .bool c2 ∧ Has σ M6 wx)
   case first =>
    as_aux_lemma =>
     clear d1
     obtain ⟨ke, hke⟩ : ∃ b, ((fn : Int) == 20) = b := ⟨_, rfl⟩
     obtain ⟨te, hte⟩ : ∃ b, ((t0 : Int) == 1) = b := ⟨_, rfl⟩
     have hcc := HC2.out
     rw [hke, hte] at hcc
     cases eb with
     | false =>
      obtain rfl : c2 = false := by rw [← hcc]; rfl
      clear hcc hqb d0
      go_wp2
      go_meet
      case rel => exact ⟨rfl, h⟩
     | true =>
      cases bd with
      | false =>
       obtain rfl : c2 = false := by rw [← hcc]; rfl
       clear hcc hqb d0
       go_wp2
       go_meet
       case rel => exact ⟨rfl, h⟩
      | true =>
       cases ke with
       | false =>
        obtain rfl : c2 = false := by rw [← hcc]; rfl
        clear hcc hqb d0
        go_wp2
        go_meet
        case rel => exact ⟨rfl, h⟩
       | true =>
        obtain rfl : te = c2 := by rw [← hcc]; rfl
        clear hcc
        go_wp2_with (first
         | (with_reducible show wpList _ _ _ (⟨_, .load 42 _, _, _, _, _⟩ :: _) _ _; refine zZ h rfl 42 _ rfl rfl hqb d0 Tryz.underlying42 rfl ?_))
        go_meet
        case rel => exact ⟨rfl, h⟩
   obtain ⟨rfl, h2⟩ := hcut
   clear h
   obtain ⟨w, rfl⟩ : ∃ q : World, q = wc := ⟨_, rfl⟩
   have h := h2
   clear h2
   go_upto_if 157 with (fail)
   go_cut [8] from 158 to 198 (fun v8 wx => ∃ (M7 : Mm) (lab7 : Nat → Nat) (K7 : Mm) (labK7 : Nat → Nat) (fh7 : Nat → Value) (md7 : Nat → List Nat) (aw7 : List AwE) (s7 : MachS) (g7 : GM), Has σ M7 wx ∧ LcL M1 T bh p M7 lab7 K7 labK7 s7 fh7 md7 ja v8 aw7 ∧ Hid (AbsM c tp (a + 1) s7 g7 ∧ LcI B S gens L T (nThr c T) (levT c) m5 g7 md7 ∧ (∀ e ∈ aw7, AwH S L T B (levT c) g7 e ∨ uC (levT c) tn g4 g7 e) ∧ (∀ e ∈ aw7, AwN S L e) ∧ aw7.length ≤ i + 1))
   case first =>
    as_aux_lemma =>
     cases c2 with
     | false =>
      clear hqb d0 d1
      go_wp2
      go_meet
      case rel => exact ⟨M6, lab6, K6, labK6, fh6, md5, aw, s5, g5, h, HL6.out, Lib.hid ⟨H5.out.1, H5.out.2.2.1, fun e he => H5.out.2.2.2.1 e (H4.out.2.2.2.1 e he), HA3.out.num, Nat.le_succ_of_le HA3.out.len⟩⟩
     | true =>
      obtain ⟨hmd5, j1, j2, hi5, h20⟩ := HRV.out rfl
      obtain ⟨j, hj⟩ : ∃ j, g5.told tn 1 = j := ⟨_, rfl⟩
      rw [hj] at j1 j2 d1
      have hnh := HRS.out (HF.out.2.1.symm.trans h20)
      obtain ⟨x, rest, hmd⟩ : ∃ x rest, md tn = x :: rest := by
       cases e : md tn with
       | nil => exact absurd (by rw [← HF.out.2.2.2.2, e]; rfl) hnh
       | cons x r => exact ⟨x, r, rfl⟩
      rw [hmd5] at HL6 H5
      have C := uE (gens := gens) (m := 0) (n := 0) HC.out HNU.out HG.out HT.out (by omega) (by omega) HTN.out HQ.out
      obtain ⟨x1, x2, _⟩ := (H5.out.2.2.1.has C.hT8 HTN.out C.hNL).2 x (by rw [hmd]; exact List.mem_cons_self)
      have ha1 : a + 1 < 90000 := by have := HAL.out.1; have := HLT.out; omega
      have hS60 := HNU.out.s0.2
      have WA6 := Lib.hid (fun (w : World) (h : Has σ M6 w) => vF h HL6.out.mach)
      have LK6 := Lib.hid (fun (w : World) (h : Has σ M6 w) => lcLink_eq h HL6.out.mach H5.out.1 HNU.out (by omega) HLL.out x1 x2)
      have NO6 := Lib.hid (fun (w : World) (h : Has σ M6 w) => now24_eq h HL6.out.mach H5.out.1 HNU.out HLL.out)
      have hgn := wg_le H5.out.1 HNU.out HLL.out x1 x2
      obtain ⟨gn, hgn2⟩ : ∃ gn, g5.wg lv x = gn := ⟨_, rfl⟩
      rw [hgn2] at LK6 hgn
      have hep := H5.out.2.2.1.epoch HLL.out
      obtain ⟨ep5, hep5⟩ : ∃ e, g5.w lv 1 = e := ⟨_, rfl⟩
      rw [hep5] at NO6 hep
      have hls : cutN (xQ x gn) 0 8 = x := by rw [uM]; unfold cutN; omega
      have hlk64 : xQ x gn < 18446744073709551616 := by rw [uM]; omega
      have SLC := Lib.hid (uQ (xQ x gn) hlk64)
      rw [hls] at SLC
      have GEC := Lib.hid (nQ (xQ x gn) hlk64)
      have hgq := yG (xQ x gn) 8 32
      generalize cutN (xQ x gn) 8 32 = gq at GEC hgq
      have hAN : AwN S L (⟨lv, x, gn, ep5⟩ : AwE) := ⟨HLL.out, x1, x2, by show gn < _; omega, by show ep5 < _; have := HAL.out.2.1; have := H5.out.2.1; have := H4.out.2.1; have := HLT.out; omega⟩
      have HEA : Hid (encA (⟨lv, x, gn, ep5⟩ : AwE) = [.int .i64 (lv : Nat), .int .u64 (xQ x gn : Nat), .int .u64 (ep5 : Nat)]) := Lib.hid rfl
      have wx : IntKind.u64.wrap (x : Int) = (x : Int) := IntWalk.u64_in _ (by omega)
      have wg : IntKind.u64.wrap (gq : Int) = (gq : Int) := IntWalk.u64_in _ (by omega)
      have HE7 := Lib.hid (⟨hi5, j1, j2, hmd5, hgn2, hep5, hgq, hj, hAN⟩ : g5.thr tn = [] ∧ j < B ∧ g5.w (levT c tn) (18 + j) = zI tn ∧ md5 = md ∧ g5.wg lv x = gn ∧ g5.w lv 1 = ep5 ∧ gq < 2 ^ 32 ∧ g5.told tn 1 = j ∧ AwN S L (⟨lv, x, gn, ep5⟩ : AwE))
      have HMD := Lib.hid hmd
      obtain ⟨curH, Ah, ch, hbm, eH, hfH⟩ := HL6.out.law.have_ HL6.out.base.le rfl HTN.out
      have hR := HL6.out.law.each tn HTN.out
      rw [hfH, hmd, List.length_cons] at hR
      rw [hmd, List.length_cons] at eH
      obtain ⟨nr, hnr⟩ : ∃ nr, rest.length = nr := ⟨_, rfl⟩
      rw [hnr] at hR eH
      obtain ⟨gH, oH, curx, hAh, hgH, hx0⟩ : ∃ gH oH curx, Ah = some ⟨gH, oH, none⟩ ∧ K6 gH = some (.cells curx 3) ∧ curx[oH]? = some (.int .i64 (x : Nat)) := by
       obtain ⟨_, ⟨_, h0⟩ | ⟨g, o, cap, cur, hv, _, hh, _, _, _, ht⟩⟩ := hR
       ·omega
       cases hv; exact ⟨g, o, cur, rfl, hh, by have := ht 0 _ rfl; rwa [Nat.add_zero] at this⟩
      subst hAh
      have hgH6 := HL6.out.base.le _ _ hgH
      have gl : decide ((0 : Int) < ((nr + 1 : Nat) : Int)) = true := decide_eq_true (by omega)
      have gl2 : (0 : Int) < ((nr + 1 : Nat) : Int) := by omega
      generalize xQ x gn = lnk at *
      clear hR hgH hnr hfH hmd hi5 j1 j2 hmd5 h20 hnh C x1 x2 ha1 hS60 hgn hep hgn2 hep5 hls hlk64 hgq hj hAN HRV HPU HC1 HC2 HRS
      have hq6 := hqb
      go_upto_region 24 with (fail)
      refine wp_region_held_drew (S := Has σ (M6)) (by kernel_rfl) (h.drew) (fun hHeld => ?_)
      refine tkB 0 ?_
      try simp only [qA, qB, qC, Act.put, qD, qE, qF]
      refine tkB 2 ?_
      try simp only [qA, qB, qC, Act.put, qD, qE, qF]
      refine tkB 3 ?_
      try simp only [qA, qB, qC, Act.put, qD, qE, qF]
      refine tkB 4 ?_
      try simp only [qA, qB, qC, Act.put, qD, qE, qF]
      refine tkB 5 ?_
      try simp only [qA, qB, qC, Act.put, qD, qE, qF]
      refine tkA 6 rfl hHeld (zU rfl 47 _ rfl rfl hbm eH Tryz.underlying47 rfl) ?_
      try simp only [qA, qB, qC, Act.put, qD, qE, qF]
      refine tkB 7 ?_
      try simp only [qA, qB, qC, Act.put, qD, qE, qF]
      refine tkA 8 rfl hHeld (zU rfl 3 _ rfl rfl hgH6 hx0 Tryz.underlying3 rfl) ?_
      try simp only [qA, qB, qC, Act.put, qD, qE, qF]
      replace h := h.drew
      generalize w.drew = wq at h hHeld ⊢
      clear w
      obtain ⟨w, rfl⟩ : ∃ q : World, q = wq := ⟨_, rfl⟩
      refine op1 1 rfl fun K hK => ?_
      (go_simp; go_wp2_with (go_at_call 17; refine (WA6.out _ h).mono ?_; clear h; rintro _ w ⟨rfl, h⟩))
      refine hK.out _ _ (h) (fun hHeld => ?_)
      clear hK K
      try simp only [Act.put, qD, qE, qF]
      refine op1 9 rfl fun K hK => ?_
      (go_simp; go_wp2_with (go_at_call 18; refine (LK6.out _ h).mono ?_; clear h; rintro _ w ⟨rfl, h⟩))
      refine hK.out _ _ (h) (fun hHeld => ?_)
      clear hK K
      try simp only [Act.put, qD, qE, qF]
      refine tkB 10 ?_
      try simp only [qA, qB, qC, Act.put, qD, qE, qF]
      refine wpAnyH_done (by kernel_rfl) ?_ _
      clear hHeld hbm eH hgH6 hx0 gl gl2 WA6 LK6
      have hOA := HL6.out.arow.up HL6.out.base.le
      have hOleA := vM K6 M6 labK6 ja
      have hlen60 : aw.length ≤ 1200 := by have := HA3.out.len; have := HLT.out; omega
      have HTT6 : Hid (s5.tp[tn]? = some q) := Lib.hid (by rw [H5.out.1.ttp]; exact HQ.out)
      have hqo := uI (labK := labK6) (j := ja) HL6.out.mach HL6.out.base HTT6.out hqb
      go_upto_region 26 with (first
       | (go_at_call 22; refine (NO6.out _ h).mono ?_; clear h; rintro _ w ⟨rfl, h⟩)
       | (at_builtin; refine xH h hOleA rfl _ _ _ rfl rfl Tryz.underlying65 info_A rfl (by omega) rfl hOA rfl rfl rfl (by omega) (by omega) ?_; clear h hOleA hOA; intro v w hacc))
      obtain ⟨M8, h, hle8, hown8⟩ := hacc
      obtain ⟨A8, c8, rfl⟩ := hown8.form
      have hO8 : Own (outK K6 M6 labK6 ja) M8 74 3 (.slice A8 (aw.length + 1) c8) (aw ++ [(⟨lv, x, gn, ep5⟩ : AwE)]).length ((aw ++ [(⟨lv, x, gn, ep5⟩ : AwE)]).flatMap encA) := by
       rw [List.length_append, List.flatMap_append, List.flatMap_cons, List.flatMap_nil, List.append_nil, HEA.out]; exact hown8
      obtain ⟨lab8, K8, labK8, hL8, _, _⟩ := HL6.out.setA HL6.out.hja hle8 hO8
      have hq8 := hle8 _ _ hqo
      have HL8 := Lib.hid hL8
      have CAL : Hid (∀ w, Has σ M8 w → Calls Tryz.prog 34 #[.pointer (some ⟨q, 0, none⟩), .int .i64 22, .slice (some ⟨w.heap.size, 0, none⟩) 3 3] (w.alloc (.cells #[.int .u64 (j : Nat), .int .u64 (x : Nat), .int .u64 (gq : Nat)] 42)) fun r w' => r = .returned (.tuple #[]) ∧ ∃ M' lab' s', Has σ M' w' ∧ Mach M' lab' p s' ∧ Base K8 M' lab' ∧ AbsM c tp (a + 1) s' (g5.top tn [] ⟨22, 0, fun i => [j, x, gq].getD i 0⟩)) := Lib.hid fun w h => by
       obtain ⟨M9, h9, hle9, hb9, hn9⟩ := h.box (.cells #[.int .u64 (j : Nat), .int .u64 (x : Nat), .int .u64 (gq : Nat)] 42)
       refine qR h9 (HL8.out.mach.keep (Kp.le hle9 fun _ => 0) fun _ _ h => h) (HL8.out.base.keep (Kp.le hle9 fun _ => 0) fun h => h) H5.out.1 HTC.out HQ.out HE7.out.1 22 (us := [j, x, gq]) (rv := .slice (some ⟨w.heap.size, 0, none⟩) 3 3) ?_ (by simp)
       exact ⟨rfl, some ⟨w.heap.size, 0, none⟩, 3, rfl, Nat.le_refl _, fun _ => ⟨w.heap.size, 0, _, _, _, rfl, hb9, fun i y hy => by rw [Nat.zero_add]; simpa [u64s] using hy⟩⟩
      clear hown8 hO8 hle8 hL8 hqb hqo d0 NO6 HL6
      go_upto_region 26 with (fail)
      have hnil8 := Mm.nil_le M8
      refine wp_region_held_drew (S := Has σ (Mm.nil)) (by kernel_rfl) (h.drew.le hnil8) (fun hHeld => ?_)
      refine tkB 0 ?_
      try simp only [qA, qB, qC, Act.put, qD, qE, qF]
      refine tkB 1 ?_
      try simp only [qA, qB, qC, Act.put, qD, qE, qF]
      refine tkB 2 ?_
      try simp only [qA, qB, qC, Act.put, qD, qE, qF]
      refine tkB 3 ?_
      try simp only [qA, qB, qC, Act.put, qD, qE, qF]
      refine tkB 4 ?_
      try simp only [qA, qB, qC, Act.put, qD, qE, qF]
      refine tkB 6 ?_
      try simp only [qA, qB, qC, Act.put, qD, qE, qF]
      refine tkB 9 ?_
      try simp only [qA, qB, qC, Act.put, qD, qE, qF]
      replace h := h.drew
      generalize w.drew = wq at h hHeld ⊢
      clear w
      obtain ⟨w, rfl⟩ : ∃ q : World, q = wq := ⟨_, rfl⟩
      refine wpAnyH_ready (rs := [5, 7]) (by kernel_rfl) (by simp) ?_
      refine AllReadyH.cons rfl (fun K hK => ?_) (AllReadyH.cons rfl (fun K hK => ?_) AllReadyH.nil)
      ·skip
       refine yX rfl (zU rfl 42 _ rfl rfl hq8 d1 Tryz.underlying42 rfl) h ?_
       refine hK.out _ _ hHeld (fun hHeld => ?_); clear hK K; try simp only [Act.put, qD, qE, qF]
       refine op1 7 rfl fun K hK => ?_
       (go_simp; go_wp2_with (go_at_call 35; refine (SLC.out _).mono ?_; rintro _ w' ⟨rfl, rfl⟩))
       refine hK.out _ _ (h.le hnil8) (fun hHeld => ?_)
       clear hK K
       try simp only [Act.put, qD, qE, qF]
       refine tkB 8 ?_
       try simp only [qA, qB, qC, Act.put, qD, qE, qF]
       refine op1 10 rfl fun K hK => ?_
       (go_simp; go_wp2_with (go_at_call 19; refine (GEC.out _).mono ?_; rintro _ w' ⟨rfl, rfl⟩))
       refine hK.out _ _ (h.le hnil8) (fun hHeld => ?_)
       clear hK K
       try simp only [Act.put, qD, qE, qF]
       refine tkB 11 ?_
       try simp only [qA, qB, qC, Act.put, qD, qE, qF]
       refine op1 12 rfl fun K hK => ?_
       go_simp
       refine hK.out _ _ ((h.quietAlloc _).le hnil8) (fun hHeld => ?_)
       clear hK K
       try simp only [Act.put, qD, qE, qF]
       refine op1 13 rfl fun K hK => ?_
       (go_simp; go_wp2_with (go_at_call 34; refine (CAL.out _ h).mono ?_; clear h; rintro _ w ⟨rfl, M9, lab9, s9, h, hM9, hB9, hA9⟩))
       refine hK.out _ _ (h.le (Mm.nil_le _)) (fun hHeld => ?_)
       clear hK K
       try simp only [Act.put, qD, qE, qF]
       refine wpAnyH_done (by kernel_rfl) ?_ _
       clear hHeld hq8 d1
       have HL9 := Lib.hid (HL8.out.on hM9 hB9)
       have HA9 := Lib.hid hA9
       clear hM9 hB9 hA9
       obtain ⟨curH, Ah, ch, hbm, eH, hfH⟩ := HL9.out.law.have_ HL9.out.base.le rfl HTN.out
       have hR := HL9.out.law.each tn HTN.out
       rw [hfH, HMD.out, List.length_cons] at hR
       rw [HMD.out, List.length_cons] at eH
       obtain ⟨nr, hnr⟩ : ∃ nr, rest.length = nr := ⟨_, rfl⟩
       rw [hnr] at hR eH
       obtain ⟨gH, oH, hAh⟩ : ∃ gH oH, Ah = some ⟨gH, oH, none⟩ := by
        obtain ⟨_, ⟨_, h0⟩ | ⟨g, o, cap, cur, hv, _⟩⟩ := hR
        ·omega
        cases hv; exact ⟨g, o, rfl⟩
       subst hAh
       have hRT : RowF K8 labK8 (10 + tn) 3 (.slice (if ch = 1 then some ⟨gH, oH, none⟩ else some ⟨gH, oH + 1, none⟩) nr (ch - 1)) rest.length (natv rest) := by rw [hnr]; exact RowF.tail1 hR
       have HRT := Lib.hid hRT
       have hH9 := (HL9.out.law.hrow).up HL9.out.base.le
       have hHle9 := vM K8 M9 labK8 2
       clear hRT hR hfH hnr
       go_wp2_with (first
        | (with_reducible show wpList _ _ _ (⟨_, .load 47 _, _, _, _, _⟩ :: _) _ _; refine zZ h rfl 47 _ rfl rfl hbm eH Tryz.underlying47 rfl ?_)
        | ((with_reducible show wpList _ _ _ (⟨_, .store 47 _ _, _, _, _, _⟩ :: _) _ _); (refine tK (u := (.slice (if ch = 1 then some ⟨gH, oH, none⟩ else some ⟨gH, oH + 1, none⟩) nr (ch - 1))) h hHle9 hH9 rfl 47 _ _ rfl rfl (k := tn) rfl HTN.out rfl rfl (by kernel_rfl) ?_); (clear h hH9); intro w7 M10 h hle10 hown10; (generalize hVad : (if ch = 1 then (some ⟨gH, oH, none⟩ : Option Addr) else some ⟨gH, oH + 1, none⟩) = Vad at hown10 HRT ⊢); (clear hVad)))
       obtain ⟨lab10, K10, labK10, hM10, hB10, hK10, hR10⟩ := HL9.out.mach.rowTo HL9.out.base hle10 hown10
       have hV10 := HL9.out.law.setH HTN.out (K' := K8) (labK' := labK8) (fun c o hc _ => ⟨hc, rfl⟩) (h2 := rest) HRT.out hK10 hR10
       have hL10 : LcL M1 T bh p M10 lab10 K10 labK10 s9 _ (put1 md tn rest) ja (.slice A8 (aw.length + 1) c8) (aw ++ [(⟨lv, x, gn, ep5⟩ : AwE)]) := ⟨hM10, hB10, Mm.le_trans HL9.out.m1 (xS hK10 (by omega)), hV10, HL9.out.hja, HL9.out.arow.keep hK10 (by have := HL9.out.hja; omega)⟩
       have HL10 := Lib.hid hL10
       have C := uE (gens := gens) (m := 0) (n := 0) HC.out HNU.out HG.out HT.out (by omega) (by omega) HTN.out HQ.out
       have H10 := Lib.hid (⟨HA9.out, H5.out.2.2.1.fill C.hT8 HTN.out C.lev HE7.out.1 HE7.out.2.1 HE7.out.2.2.1 HMD.out (by have := HE7.out.2.2.2.2.2.2.1; omega), fun e he => (by
        rcases List.mem_append.1 he with he | he
        ·rcases H5.out.2.2.2.1 e (H4.out.2.2.2.1 e he) with q | ⟨q1, q2, q3⟩
         ·exact .inl (q.begin HE7.out.1)
         exact .inr ⟨q1, q2, q3⟩
        ·obtain rfl := List.mem_singleton.1 he
         have := AwH.new (j := j) (gn := gq) H5.out.2.2.1 C.hT8 HTN.out C.hNL HE7.out.1 HMD.out
         rw [HLV.out, HE7.out.2.2.2.2.1, HE7.out.2.2.2.2.2.1] at this
         exact .inl this), fun e he => (by
        rcases List.mem_append.1 he with he | he
        ·exact HA3.out.num e he
        obtain rfl := List.mem_singleton.1 he
        exact HE7.out.2.2.2.2.2.2.2.2), by rw [List.length_append, List.length_singleton]; have := HA3.out.len; omega⟩ : AbsM c tp (a + 1) s9 (g5.top tn [] ⟨22, 0, fun i => [j, x, gq].getD i 0⟩) ∧ LcI B S gens L T (nThr c T) (levT c) m5 (g5.top tn [] ⟨22, 0, fun i => [j, x, gq].getD i 0⟩) (put1 md tn rest) ∧ (∀ e ∈ aw ++ [(⟨lv, x, gn, ep5⟩ : AwE)], AwH S L T B (levT c) (g5.top tn [] ⟨22, 0, fun i => [j, x, gq].getD i 0⟩) e ∨ uC (levT c) tn g4 (g5.top tn [] ⟨22, 0, fun i => [j, x, gq].getD i 0⟩) e) ∧ (∀ e ∈ aw ++ [(⟨lv, x, gn, ep5⟩ : AwE)], AwN S L e) ∧ (aw ++ [(⟨lv, x, gn, ep5⟩ : AwE)]).length ≤ i + 1)
       clear hM10 hB10 hK10 hR10 hV10 hL10 hle10 hown10 C
       go_meet
       case rel => exact ⟨M10, lab10, K10, labK10, _, _, _, s9, _, h, HL10.out, H10⟩
      skip
      (go_simp; go_wp2_with (go_at_call 35; refine (SLC.out _).mono ?_; rintro _ w' ⟨rfl, rfl⟩))
      refine hK.out _ _ (h.le hnil8) (fun hHeld => ?_)
      clear hK K
      try simp only [Act.put, qD, qE, qF]
      refine tkB 8 ?_
      try simp only [qA, qB, qC, Act.put, qD, qE, qF]
      refine wpAnyH_ready (rs := [5, 10]) (by kernel_rfl) (by simp) ?_
      refine AllReadyH.cons rfl (fun K hK => ?_) (AllReadyH.cons rfl (fun K hK => ?_) AllReadyH.nil)
      ·skip
       refine yX rfl (zU rfl 42 _ rfl rfl hq8 d1 Tryz.underlying42 rfl) h ?_
       refine hK.out _ _ hHeld (fun hHeld => ?_); clear hK K; try simp only [Act.put, qD, qE, qF]
       refine op1 10 rfl fun K hK => ?_
       (go_simp; go_wp2_with (go_at_call 19; refine (GEC.out _).mono ?_; rintro _ w' ⟨rfl, rfl⟩))
       refine hK.out _ _ (h.le hnil8) (fun hHeld => ?_)
       clear hK K
       try simp only [Act.put, qD, qE, qF]
       refine tkB 11 ?_
       try simp only [qA, qB, qC, Act.put, qD, qE, qF]
       refine op1 12 rfl fun K hK => ?_
       go_simp
       refine hK.out _ _ ((h.quietAlloc _).le hnil8) (fun hHeld => ?_)
       clear hK K
       try simp only [Act.put, qD, qE, qF]
       refine op1 13 rfl fun K hK => ?_
       (go_simp; go_wp2_with (go_at_call 34; refine (CAL.out _ h).mono ?_; clear h; rintro _ w ⟨rfl, M9, lab9, s9, h, hM9, hB9, hA9⟩))
       refine hK.out _ _ (h.le (Mm.nil_le _)) (fun hHeld => ?_)
       clear hK K
       try simp only [Act.put, qD, qE, qF]
       refine wpAnyH_done (by kernel_rfl) ?_ _
       clear hHeld hq8 d1
       have HL9 := Lib.hid (HL8.out.on hM9 hB9)
       have HA9 := Lib.hid hA9
       clear hM9 hB9 hA9
       obtain ⟨curH, Ah, ch, hbm, eH, hfH⟩ := HL9.out.law.have_ HL9.out.base.le rfl HTN.out
       have hR := HL9.out.law.each tn HTN.out
       rw [hfH, HMD.out, List.length_cons] at hR
       rw [HMD.out, List.length_cons] at eH
       obtain ⟨nr, hnr⟩ : ∃ nr, rest.length = nr := ⟨_, rfl⟩
       rw [hnr] at hR eH
       obtain ⟨gH, oH, hAh⟩ : ∃ gH oH, Ah = some ⟨gH, oH, none⟩ := by
        obtain ⟨_, ⟨_, h0⟩ | ⟨g, o, cap, cur, hv, _⟩⟩ := hR
        ·omega
        cases hv; exact ⟨g, o, rfl⟩
       subst hAh
       have hRT : RowF K8 labK8 (10 + tn) 3 (.slice (if ch = 1 then some ⟨gH, oH, none⟩ else some ⟨gH, oH + 1, none⟩) nr (ch - 1)) rest.length (natv rest) := by rw [hnr]; exact RowF.tail1 hR
       have HRT := Lib.hid hRT
       have hH9 := (HL9.out.law.hrow).up HL9.out.base.le
       have hHle9 := vM K8 M9 labK8 2
       clear hRT hR hfH hnr
       go_wp2_with (first
        | (with_reducible show wpList _ _ _ (⟨_, .load 47 _, _, _, _, _⟩ :: _) _ _; refine zZ h rfl 47 _ rfl rfl hbm eH Tryz.underlying47 rfl ?_)
        | ((with_reducible show wpList _ _ _ (⟨_, .store 47 _ _, _, _, _, _⟩ :: _) _ _); (refine tK (u := (.slice (if ch = 1 then some ⟨gH, oH, none⟩ else some ⟨gH, oH + 1, none⟩) nr (ch - 1))) h hHle9 hH9 rfl 47 _ _ rfl rfl (k := tn) rfl HTN.out rfl rfl (by kernel_rfl) ?_); (clear h hH9); intro w7 M10 h hle10 hown10; (generalize hVad : (if ch = 1 then (some ⟨gH, oH, none⟩ : Option Addr) else some ⟨gH, oH + 1, none⟩) = Vad at hown10 HRT ⊢); (clear hVad)))
       obtain ⟨lab10, K10, labK10, hM10, hB10, hK10, hR10⟩ := HL9.out.mach.rowTo HL9.out.base hle10 hown10
       have hV10 := HL9.out.law.setH HTN.out (K' := K8) (labK' := labK8) (fun c o hc _ => ⟨hc, rfl⟩) (h2 := rest) HRT.out hK10 hR10
       have hL10 : LcL M1 T bh p M10 lab10 K10 labK10 s9 _ (put1 md tn rest) ja (.slice A8 (aw.length + 1) c8) (aw ++ [(⟨lv, x, gn, ep5⟩ : AwE)]) := ⟨hM10, hB10, Mm.le_trans HL9.out.m1 (xS hK10 (by omega)), hV10, HL9.out.hja, HL9.out.arow.keep hK10 (by have := HL9.out.hja; omega)⟩
       have HL10 := Lib.hid hL10
       have C := uE (gens := gens) (m := 0) (n := 0) HC.out HNU.out HG.out HT.out (by omega) (by omega) HTN.out HQ.out
       have H10 := Lib.hid (⟨HA9.out, H5.out.2.2.1.fill C.hT8 HTN.out C.lev HE7.out.1 HE7.out.2.1 HE7.out.2.2.1 HMD.out (by have := HE7.out.2.2.2.2.2.2.1; omega), fun e he => (by
        rcases List.mem_append.1 he with he | he
        ·rcases H5.out.2.2.2.1 e (H4.out.2.2.2.1 e he) with q | ⟨q1, q2, q3⟩
         ·exact .inl (q.begin HE7.out.1)
         exact .inr ⟨q1, q2, q3⟩
        ·obtain rfl := List.mem_singleton.1 he
         have := AwH.new (j := j) (gn := gq) H5.out.2.2.1 C.hT8 HTN.out C.hNL HE7.out.1 HMD.out
         rw [HLV.out, HE7.out.2.2.2.2.1, HE7.out.2.2.2.2.2.1] at this
         exact .inl this), fun e he => (by
        rcases List.mem_append.1 he with he | he
        ·exact HA3.out.num e he
        obtain rfl := List.mem_singleton.1 he
        exact HE7.out.2.2.2.2.2.2.2.2), by rw [List.length_append, List.length_singleton]; have := HA3.out.len; omega⟩ : AbsM c tp (a + 1) s9 (g5.top tn [] ⟨22, 0, fun i => [j, x, gq].getD i 0⟩) ∧ LcI B S gens L T (nThr c T) (levT c) m5 (g5.top tn [] ⟨22, 0, fun i => [j, x, gq].getD i 0⟩) (put1 md tn rest) ∧ (∀ e ∈ aw ++ [(⟨lv, x, gn, ep5⟩ : AwE)], AwH S L T B (levT c) (g5.top tn [] ⟨22, 0, fun i => [j, x, gq].getD i 0⟩) e ∨ uC (levT c) tn g4 (g5.top tn [] ⟨22, 0, fun i => [j, x, gq].getD i 0⟩) e) ∧ (∀ e ∈ aw ++ [(⟨lv, x, gn, ep5⟩ : AwE)], AwN S L e) ∧ (aw ++ [(⟨lv, x, gn, ep5⟩ : AwE)]).length ≤ i + 1)
       clear hM10 hB10 hK10 hR10 hV10 hL10 hle10 hown10 C
       go_meet
       case rel => exact ⟨M10, lab10, K10, labK10, _, _, _, s9, _, h, HL10.out, H10⟩
      skip
      (go_simp; go_wp2_with (go_at_call 19; refine (GEC.out _).mono ?_; rintro _ w' ⟨rfl, rfl⟩))
      refine hK.out _ _ (h.le hnil8) (fun hHeld => ?_)
      clear hK K
      try simp only [Act.put, qD, qE, qF]
      refine tkB 11 ?_
      try simp only [qA, qB, qC, Act.put, qD, qE, qF]
      refine op1 5 rfl fun K hK => ?_
      refine yX rfl (zU rfl 42 _ rfl rfl hq8 d1 Tryz.underlying42 rfl) h ?_
      refine hK.out _ _ hHeld (fun hHeld => ?_); clear hK K; try simp only [Act.put, qD, qE, qF]
      refine op1 12 rfl fun K hK => ?_
      go_simp
      refine hK.out _ _ ((h.quietAlloc _).le hnil8) (fun hHeld => ?_)
      clear hK K
      try simp only [Act.put, qD, qE, qF]
      refine op1 13 rfl fun K hK => ?_
      (go_simp; go_wp2_with (go_at_call 34; refine (CAL.out _ h).mono ?_; clear h; rintro _ w ⟨rfl, M9, lab9, s9, h, hM9, hB9, hA9⟩))
      refine hK.out _ _ (h.le (Mm.nil_le _)) (fun hHeld => ?_)
      clear hK K
      try simp only [Act.put, qD, qE, qF]
      refine wpAnyH_done (by kernel_rfl) ?_ _
      clear hHeld hq8 d1
      have HL9 := Lib.hid (HL8.out.on hM9 hB9)
      have HA9 := Lib.hid hA9
      clear hM9 hB9 hA9
      obtain ⟨curH, Ah, ch, hbm, eH, hfH⟩ := HL9.out.law.have_ HL9.out.base.le rfl HTN.out
      have hR := HL9.out.law.each tn HTN.out
      rw [hfH, HMD.out, List.length_cons] at hR
      rw [HMD.out, List.length_cons] at eH
      obtain ⟨nr, hnr⟩ : ∃ nr, rest.length = nr := ⟨_, rfl⟩
      rw [hnr] at hR eH
      obtain ⟨gH, oH, hAh⟩ : ∃ gH oH, Ah = some ⟨gH, oH, none⟩ := by
       obtain ⟨_, ⟨_, h0⟩ | ⟨g, o, cap, cur, hv, _⟩⟩ := hR
       ·omega
       cases hv; exact ⟨g, o, rfl⟩
      subst hAh
      have hRT : RowF K8 labK8 (10 + tn) 3 (.slice (if ch = 1 then some ⟨gH, oH, none⟩ else some ⟨gH, oH + 1, none⟩) nr (ch - 1)) rest.length (natv rest) := by rw [hnr]; exact RowF.tail1 hR
      have HRT := Lib.hid hRT
      have hH9 := (HL9.out.law.hrow).up HL9.out.base.le
      have hHle9 := vM K8 M9 labK8 2
      clear hRT hR hfH hnr
      go_wp2_with (first
       | (with_reducible show wpList _ _ _ (⟨_, .load 47 _, _, _, _, _⟩ :: _) _ _; refine zZ h rfl 47 _ rfl rfl hbm eH Tryz.underlying47 rfl ?_)
       | ((with_reducible show wpList _ _ _ (⟨_, .store 47 _ _, _, _, _, _⟩ :: _) _ _); (refine tK (u := (.slice (if ch = 1 then some ⟨gH, oH, none⟩ else some ⟨gH, oH + 1, none⟩) nr (ch - 1))) h hHle9 hH9 rfl 47 _ _ rfl rfl (k := tn) rfl HTN.out rfl rfl (by kernel_rfl) ?_); (clear h hH9); intro w7 M10 h hle10 hown10; (generalize hVad : (if ch = 1 then (some ⟨gH, oH, none⟩ : Option Addr) else some ⟨gH, oH + 1, none⟩) = Vad at hown10 HRT ⊢); (clear hVad)))
      obtain ⟨lab10, K10, labK10, hM10, hB10, hK10, hR10⟩ := HL9.out.mach.rowTo HL9.out.base hle10 hown10
      have hV10 := HL9.out.law.setH HTN.out (K' := K8) (labK' := labK8) (fun c o hc _ => ⟨hc, rfl⟩) (h2 := rest) HRT.out hK10 hR10
      have hL10 : LcL M1 T bh p M10 lab10 K10 labK10 s9 _ (put1 md tn rest) ja (.slice A8 (aw.length + 1) c8) (aw ++ [(⟨lv, x, gn, ep5⟩ : AwE)]) := ⟨hM10, hB10, Mm.le_trans HL9.out.m1 (xS hK10 (by omega)), hV10, HL9.out.hja, HL9.out.arow.keep hK10 (by have := HL9.out.hja; omega)⟩
      have HL10 := Lib.hid hL10
      have C := uE (gens := gens) (m := 0) (n := 0) HC.out HNU.out HG.out HT.out (by omega) (by omega) HTN.out HQ.out
      have H10 := Lib.hid (⟨HA9.out, H5.out.2.2.1.fill C.hT8 HTN.out C.lev HE7.out.1 HE7.out.2.1 HE7.out.2.2.1 HMD.out (by have := HE7.out.2.2.2.2.2.2.1; omega), fun e he => (by
       rcases List.mem_append.1 he with he | he
       ·rcases H5.out.2.2.2.1 e (H4.out.2.2.2.1 e he) with q | ⟨q1, q2, q3⟩
        ·exact .inl (q.begin HE7.out.1)
        exact .inr ⟨q1, q2, q3⟩
       ·obtain rfl := List.mem_singleton.1 he
        have := AwH.new (j := j) (gn := gq) H5.out.2.2.1 C.hT8 HTN.out C.hNL HE7.out.1 HMD.out
        rw [HLV.out, HE7.out.2.2.2.2.1, HE7.out.2.2.2.2.2.1] at this
        exact .inl this), fun e he => (by
       rcases List.mem_append.1 he with he | he
       ·exact HA3.out.num e he
       obtain rfl := List.mem_singleton.1 he
       exact HE7.out.2.2.2.2.2.2.2.2), by rw [List.length_append, List.length_singleton]; have := HA3.out.len; omega⟩ : AbsM c tp (a + 1) s9 (g5.top tn [] ⟨22, 0, fun i => [j, x, gq].getD i 0⟩) ∧ LcI B S gens L T (nThr c T) (levT c) m5 (g5.top tn [] ⟨22, 0, fun i => [j, x, gq].getD i 0⟩) (put1 md tn rest) ∧ (∀ e ∈ aw ++ [(⟨lv, x, gn, ep5⟩ : AwE)], AwH S L T B (levT c) (g5.top tn [] ⟨22, 0, fun i => [j, x, gq].getD i 0⟩) e ∨ uC (levT c) tn g4 (g5.top tn [] ⟨22, 0, fun i => [j, x, gq].getD i 0⟩) e) ∧ (∀ e ∈ aw ++ [(⟨lv, x, gn, ep5⟩ : AwE)], AwN S L e) ∧ (aw ++ [(⟨lv, x, gn, ep5⟩ : AwE)]).length ≤ i + 1)
      clear hM10 hB10 hK10 hR10 hV10 hL10 hle10 hown10 C
      go_meet
      case rel => exact ⟨M10, lab10, K10, labK10, _, _, _, s9, _, h, HL10.out, H10⟩
   obtain ⟨M7, lab7, K7, labK7, fh7, md7, aw7, s7, g7, h7, hL7, H7⟩ := hcut
   clear h
   obtain ⟨w, rfl⟩ : ∃ q : World, q = wc := ⟨_, rfl⟩
   have h := h7
   have HL7 := Lib.hid hL7
   clear h7 hL7 hqb d0 d1
   as_aux_lemma =>
    obtain ⟨avB, avd, rfl⟩ := HL7.out.arow.form
    obtain ⟨jb, hjb, hjab⟩ : ∃ jb, (jb = 3 ∨ jb = 4) ∧ jb ≠ ja := by
     rcases HL7.out.hja with e | e
     ·exact ⟨4, .inr rfl, by omega⟩
     exact ⟨3, .inl rfl, by omega⟩
    have HJB := Lib.hid (⟨hjb, hjab⟩ : _ ∧ _)
    have hlen7 : aw7.length ≤ 1300 := by have := H7.out.2.2.2.2; have := HLT.out; omega
    have HLEN := Lib.hid hlen7
    have HEP : Hid (g4.w (levT c tn) 1 = ep) := Lib.hid (by rw [HLV.out]; exact HF.out.2.2.2.1)
    clear hjb hjab HL6 HL5 HPU HRV HC1 HC2 hlen7
    obtain ⟨na, hna⟩ : ∃ k, aw7.length = k := ⟨_, rfl⟩
    have HNA := Lib.hid hna
    rw [hna] at HL7 HLEN ⊢
    clear hna
    go_upto_region 30 with (fail)
    go_loopw [18, 19] (fun v18 v19 wr => ∃ (y : Nat) (M : Mm) (lab : Nat → Nat) (K : Mm) (labK : Nat → Nat), y ≤ na ∧ v19 = .int .i64 (y : Nat) ∧ Has σ M wr ∧ LcL M1 T bh p M lab K labK s7 fh7 md7 ja (.slice avB na avd) aw7 ∧ Row K labK jb 74 3 v18 ((aw7.take y).filter (fun e : AwE => g7.held e.l e.x)).length (((aw7.take y).filter (fun e : AwE => g7.held e.l e.x)).flatMap encA)) (fun _ v19 _ => na - (intOf v19).toNat)
    case atStart => exact ⟨0, M7, lab7, K7, labK7, Nat.zero_le _, rfl, h, HL7.out, Row.nil _ _ _ _ _⟩
    clear h w HL7 M7 lab7 K7 labK7
    obtain ⟨w, rfl⟩ : ∃ x : World, x = wr := ⟨_, rfl⟩
    obtain ⟨y, M8, lab8, K8, labK8, hy, rfl, h, hL8, hR8⟩ := hrel
    have HL8 := Lib.hid hL8
    have HR8 := Lib.hid hR8
    clear hL8 hR8
    by_cases hlt2 : y < na
    ·obtain ⟨e, he⟩ : ∃ e, aw7[y]? = some e := ⟨_, List.getElem?_eq_getElem (by rw [HNA.out]; exact hlt2)⟩
     have hm : e ∈ aw7 := List.mem_of_getElem? he
     have HN := Lib.hid (H7.out.2.2.2.1 e hm)
     have HE := Lib.hid (H7.out.2.2.1 e hm)
     have hrd : Rd M8 3 (.slice avB na avd) na (aw7.flatMap encA) := by have := HL8.out.arow.rd.le HL8.out.base.le; rw [HNA.out] at this; exact this
     obtain ⟨bA, oA, cA, csA, tA, fA, hle, hbA, hcA⟩ := hrd.elem (enc := encA) encA_len hlt2 he
     have LD := Lib.hid (fun (w : World) (h : Has σ M8 w) => lcLeads_eq h HL8.out.mach H7.out.1 HNU.out (by have := HAL.out.1; have := HLT.out; omega) HN.out HE.out)
     have WA8 := Lib.hid (fun (w : World) (h : Has σ M8 w) => vF h HL8.out.mach)
     have hen := HN.out.e
     obtain ⟨el, hel⟩ : ∃ k, e.l = k := ⟨_, rfl⟩
     obtain ⟨ek, hek⟩ : ∃ k, xQ e.x e.gn = k := ⟨_, rfl⟩
     obtain ⟨ee, hee⟩ : ∃ k, e.e = k := ⟨_, rfl⟩
     obtain ⟨kb, hkb⟩ : ∃ b, g7.held e.l e.x = b := ⟨_, rfl⟩
     rw [hkb, hel, hek] at LD
     have a0 : csA[oA + y * 3 + 0]? = some (.int .i64 (el : Nat)) := by rw [← hel]; exact hcA 0 _ rfl
     have a1 : csA[oA + y * 3 + 1]? = some (.int .u64 (ek : Nat)) := by rw [← hek]; exact hcA 1 _ rfl
     have a2 : csA[oA + y * 3 + 2]? = some (.int .u64 (ee : Nat)) := by rw [← hee]; exact hcA 2 _ rfl
     rw [Nat.add_zero] at a0
     have HEA : Hid (encA e = [.int .i64 (el : Nat), .int .u64 (ek : Nat), .int .u64 (ee : Nat)]) := Lib.hid (by rw [← hel, ← hek, ← hee]; rfl)
     have hxA : csA.extract (oA + y * 3) (oA + y * 3 + 3) = #[.int .i64 (el : Nat), .int .u64 (ek : Nat), .int .u64 (ee : Nat)] := extract_of (xs := [.int .i64 (el : Nat), .int .u64 (ek : Nat), .int .u64 (ee : Nat)]) (fun j u hu => hcA j u (by rw [HEA.out]; exact hu)) rfl
     have HGO : Hid (kb = false → el = lv ∧ ee + 2 ≤ ep ∧ ep < 1000000) := Lib.hid fun e0 => by
      rcases oC HE.out with ⟨q, _⟩ | ⟨_, q1, q2⟩
      ·rw [hkb, e0] at q; cases q
      rw [HEP.out] at q2
      rw [HLV.out] at q1
      refine ⟨by rw [← hel]; exact q1, by rw [← hee]; exact q2, ?_⟩
      have := (HF.out.2.2.2.1)
      have h9 := H4.out.2.2.1.epoch HLL.out
      have := HAL.out.2.1; have := H4.out.2.1; have := HLT.out
      omega
     have HST : Hid ((aw7.take (y + 1)).filter (fun e : AwE => g7.held e.l e.x) = ((aw7.take y).filter (fun e : AwE => g7.held e.l e.x)) ++ if kb then [e] else []) := Lib.hid (by
      rw [List.take_add_one, he, List.filter_append]
      congr 1
      show List.filter _ [e] = _
      rw [List.filter_cons, hkb, List.filter_nil])
     cases hle
     have hy2 : (y : Int) < (na : Int) := by omega
     have wy : IntKind.i64.wrap ((y : Int) + 1) = ((y + 1 : Nat) : Int) := by rw [show (y : Int) + 1 = ((y + 1 : Nat) : Int) by omega]; exact IntWalk.i64_in _ (by have := HLEN.out; omega)
     rw [hee] at hen
     have HY := Lib.hid hlt2
     clear hcA hrd he hm hel hek hee hkb hlt2 hy
     go_upto_region 32 with (fail)
     refine wp_region_held_drew (S := Has σ (M8)) (by kernel_rfl) (h.drew) (fun hHeld => ?_)
     refine tkB 0 ?_
     try simp only [qA, qB, qC, Act.put, qD, qE, qF]
     refine tkB 2 ?_
     try simp only [qA, qB, qC, Act.put, qD, qE, qF]
     refine tkB 3 ?_
     try simp only [qA, qB, qC, Act.put, qD, qE, qF]
     refine tkB 4 ?_
     try simp only [qA, qB, qC, Act.put, qD, qE, qF]
     refine tkB 5 ?_
     try simp only [qA, qB, qC, Act.put, qD, qE, qF]
     refine tkA 6 rfl hHeld (zU rfl 3 _ rfl rfl hbA a0 Tryz.underlying3 rfl) ?_
     try simp only [qA, qB, qC, Act.put, qD, qE, qF]
     refine tkB 7 ?_
     try simp only [qA, qB, qC, Act.put, qD, qE, qF]
     refine tkB 8 ?_
     try simp only [qA, qB, qC, Act.put, qD, qE, qF]
     refine tkB 9 ?_
     try simp only [qA, qB, qC, Act.put, qD, qE, qF]
     refine tkB 10 ?_
     try simp only [qA, qB, qC, Act.put, qD, qE, qF]
     refine tkA 11 rfl hHeld (zU rfl 49 _ rfl rfl hbA a1 Tryz.underlying49 rfl) ?_
     try simp only [qA, qB, qC, Act.put, qD, qE, qF]
     replace h := h.drew
     generalize w.drew = wq at h hHeld ⊢
     clear w
     obtain ⟨w, rfl⟩ : ∃ q : World, q = wq := ⟨_, rfl⟩
     refine op1 1 rfl fun K hK => ?_
     (go_simp; go_wp2_with (go_at_call 17; refine (WA8.out _ h).mono ?_; clear h; rintro _ w ⟨rfl, h⟩))
     refine hK.out _ _ (h) (fun hHeld => ?_)
     clear hK K
     try simp only [Act.put, qD, qE, qF]
     refine op1 12 rfl fun K hK => ?_
     (go_simp; go_wp2_with (go_at_call 36; refine (LD.out _ h).mono ?_; clear h; rintro _ w ⟨rfl, h⟩))
     refine hK.out _ _ (h) (fun hHeld => ?_)
     clear hK K
     try simp only [Act.put, qD, qE, qF]
     refine wpAnyH_done (by kernel_rfl) ?_ _
     clear hHeld LD WA8
     obtain ⟨vB, cB, hvB⟩ := HR8.out.form
     rw [hvB] at HR8
     cases kb with
     | true =>
      have hOB := HR8.out.up HL8.out.base.le
      have hOleB := vM K8 M8 labK8 jb
      have hn60 : ((aw7.take y).filter (fun e : AwE => g7.held e.l e.x)).length ≤ 1300 := by
       have h1 : ((aw7.take y).filter (fun e : AwE => g7.held e.l e.x)).length ≤ (aw7.take y).length := List.length_filter_le _ _
       have h2 := List.length_take_le y aw7
       have := HY.out; have := HLEN.out
       omega
      obtain ⟨ns, hns⟩ : ∃ k, ((aw7.take y).filter (fun e : AwE => g7.held e.l e.x)).length = k := ⟨_, rfl⟩
      rw [hns] at hOB hn60 hvB
      subst hvB
      have HNS := Lib.hid hns
      clear hns hen HGO
      go_wp2_with (first
       | ((with_reducible show wpList _ _ _ (⟨_, .load 74 _, _, _, _, _⟩ :: _) _ _); refine zR h rfl 74 _ rfl rfl hbA hxA rfl Tryz.underlying74 rfl (by kernel_rfl) ?_; try simp only [Act.put, qD, qE, qF])
       | (at_builtin; refine xH h hOleB rfl _ _ _ rfl rfl Tryz.underlying65 info_A rfl (by omega) rfl hOB rfl rfl rfl (by omega) (by omega) ?_; clear h hOleB hOB; intro v w hacc))
      obtain ⟨M9, h, hle9, hown9⟩ := hacc
      have hO9 : Own (outK K8 M8 labK8 jb) M9 74 3 v ((aw7.take (y + 1)).filter (fun e : AwE => g7.held e.l e.x)).length (((aw7.take (y + 1)).filter (fun e : AwE => g7.held e.l e.x)).flatMap encA) := by
       rw [HST.out, if_pos rfl, List.length_append, List.flatMap_append, List.flatMap_cons, List.flatMap_nil, List.append_nil, HEA.out, HNS.out]; exact hown9
      obtain ⟨lab9, K9, labK9, hM9, hB9, hK9, hR9⟩ := HL8.out.mach.rowTo HL8.out.base hle9 hO9
      have hL9 : LcL M1 T bh p M9 lab9 K9 labK9 s7 fh7 md7 ja (.slice (some ⟨bA, oA, none⟩) na avd) aw7 := ⟨hM9, hB9, Mm.le_trans HL8.out.m1 (xS hK9 (by have := HJB.out.1; omega)), HL8.out.law.keep hK9 (by have := HJB.out.1; omega) (fun k e => by have := HJB.out.1; omega), HL8.out.hja, HL8.out.arow.keep hK9 fun e => HJB.out.2 e.symm⟩
      have HL9 := Lib.hid hL9
      have HR9 := Lib.hid hR9
      clear hO9 hle9 hown9 hM9 hB9 hK9 hR9 hL9 hbA hxA a0 a1 a2
      go_roundw
      case rel => exact ⟨y + 1, M9, lab9, K9, labK9, by have := HY.out; omega, by go_num, h, HL9.out, HR9.out⟩
      case measure => have := HY.out; simp [intOf]; omega
     | false =>
      subst hvB
      obtain ⟨g1, g2, g3⟩ := HGO.out rfl
      subst g1
      have q1 : ((el : Int) != (el : Int)) = false := by simp
      have w2 : IntKind.u64.wrap ((ee : Int) + 2) = ((ee + 2 : Nat) : Int) := by rw [show (ee : Int) + 2 = ((ee + 2 : Nat) : Int) by omega]; exact IntWalk.u64_in _ (by omega)
      have q2 : decide ((ep : Int) < ((ee + 2 : Nat) : Int)) = false := decide_eq_false (by omega)
      have q3 : ¬ (ep : Int) < ((ee + 2 : Nat) : Int) := by omega
      have HRN : Hid (Row K8 labK8 jb 74 3 (.slice vB ((aw7.take y).filter (fun e : AwE => g7.held e.l e.x)).length cB) ((aw7.take (y + 1)).filter (fun e : AwE => g7.held e.l e.x)).length (((aw7.take (y + 1)).filter (fun e : AwE => g7.held e.l e.x)).flatMap encA)) := Lib.hid (by rw [HST.out, if_neg (by decide), List.append_nil]; exact HR8.out)
      clear g2 g3 hen a1 hxA
      generalize ((ee + 2 : Nat) : Int) = e2 at w2 q2 q3
      go_wp2_with (first
       | (with_reducible show wpList _ _ _ (⟨_, .load 3 _, _, _, _, _⟩ :: _) _ _; refine zZ h rfl 3 _ rfl rfl hbA a0 Tryz.underlying3 rfl ?_)
       | (with_reducible show wpList _ _ _ (⟨_, .load 42 _, _, _, _, _⟩ :: _) _ _; refine zZ h rfl 42 _ rfl rfl hbA a2 Tryz.underlying42 rfl ?_))
      go_roundw
      case rel => exact ⟨y + 1, M8, lab8, K8, labK8, by have := HY.out; omega, by go_num, h, HL8.out, HRN.out⟩
      case measure => have := HY.out; simp [intOf]; omega
    obtain rfl : y = na := by omega
    have hy2 : ¬ (y : Int) < (y : Int) := by omega
    have FT := Lib.hid (fun (w : World) (h : Has σ M8 w) => jV h HL8.out.mach)
    rw [H7.out.1.good] at FT
    have HTA : Hid ((aw7.take y).filter (fun e : AwE => g7.held e.l e.x) = aw7.filter (fun e : AwE => g7.held e.l e.x)) := Lib.hid (by rw [← HNA.out, List.take_length])
    have hRF := HR8.out
    rw [HTA.out] at hRF
    have hLF : LcL M1 T bh p M8 lab8 K8 labK8 s7 fh7 md7 jb _ (aw7.filter (fun e : AwE => g7.held e.l e.x)) := ⟨HL8.out.mach, HL8.out.base, HL8.out.m1, HL8.out.law, HJB.out.1, hRF⟩
    have HLF := Lib.hid hLF
    have HJ : Hid (LcJ c B S gens L T tp (i + 1) s7 md7 (aw7.filter (fun e : AwE => g7.held e.l e.x))) := Lib.hid ⟨⟨a + 1, m5, g7, by have := HAL.out.1; omega, by have := HAL.out.2.1; have := H5.out.2.1; have := H4.out.2.1; omega, H7.out.1, H7.out.2.1, fun e he => by
     obtain ⟨h1, h2⟩ := List.mem_filter.1 he
     rcases oC (H7.out.2.2.1 e h1) with ⟨_, q⟩ | ⟨q, _⟩
     ·exact q
     rw [q] at h2; cases h2⟩, fun e he => H7.out.2.2.2.1 e (List.mem_filter.1 he).1, Nat.le_trans (List.length_filter_le _ _) H7.out.2.2.2.2⟩
    clear hlt2 hy hRF hLF
    go_wp2_with (first
     | (go_at_call 24; refine (FT.out _ h).mono ?_; clear h; rintro _ w ⟨rfl, h⟩))
    go_roundw
    case rel => exact ⟨i + 1, M8, lab8, K8, labK8, s7, fh7, md7, jb, _, by have := HLT.out; omega, by first | rfl | go_num, h, HLF.out, HJ.out⟩
    case measure => have := HLT.out; simp [intOf]; omega
  have TH := Lib.hid (fun (w : World) (h : Has σ M3 w) => mThread_no h HL3.out.mach et (by rw [hA.ttp]; have h1 := HTL.out; have h2 := HT.out; omega))
  clear htt hA hI hE
  go_wp2_with (first
   | (with_reducible show wpList _ _ _ (⟨_, .load 3 _, _, _, _, _⟩ :: _) _ _; refine zZ h rfl 3 _ rfl rfl hbl e0 Tryz.underlying3 rfl ?_)
   | (go_at_call 13; refine (TH.out _ h).mono ?_; clear h; rintro _ w ⟨rfl, h⟩))
  go_roundw
  case rel => exact ⟨i + 1, M3, lab3, K3, labK3, s, fh, md, ja, aw, by have := HLT.out; omega, by first | rfl | go_num, h, HL3.out, HA3.out.mono (Nat.le_succ _)⟩
  case measure => have := HLT.out; simp [intOf]; omega
 obtain rfl : i = n := by omega
 have hlt' : ¬ (i : Int) < (i : Int) := by omega
 obtain ⟨a, m, g, ha, hm, hA, hI, _⟩ := HA3.out.all
 have htp : tp.length = T := by have h1 := HTL.out; have h2 := HT.out; omega
 have EN := Lib.hid (fun (w : World) (h : Has σ M3 w) => lcEnds_eq h HL3.out.mach HL3.out.base HL3.out.m1 c HC.out HNU.out HG.out HT.out HL3.out.law hA hI (by omega) (by omega) htp)
 clear hlt hi hA hI ha hm htp
 go_wp2_with (first
  | (go_at_call 37; refine (EN.out _ h).mono ?_; clear h; rintro _ w ⟨rfl, h⟩)
  | (go_at_call 11; refine (LI.out _ _ h).mono ?_; clear h; rintro _ w ⟨rfl, h⟩))
 go_ret
 exact ⟨rfl, h.le HLE1.out⟩
end
end Go.Proofs.YtjeeldacnllipaaGreat
