import Derived.Test.YtjeeldacnllipaaGreatLpF
namespace Go.Proofs.YtjeeldacnllipaaGreat
set_option maxHeartbeats 100000000
set_option maxRecDepth 20000
set_option linter.unusedVariables false
set_option linter.unusedSimpArgs false
set_option linter.unnecessarySimpa false
open List renaming getElem_toArray → qA, getElem_cons_succ → qB, getElem_cons_zero → qC, setIfInBounds_toArray → qD, set_cons_zero → qE, set_cons_succ → qF
section
open Go.RowKit
def LcTold (B S : Nat) (lev : Nat → Nat) (t b : Nat) (g : GM) (md md2 : Nat → List Nat) : Prop :=
 (b ≠ 1 ∧ md2 = md ∧ (b = 20 → g.told t 0 = 0 ∨ (g.told t 0 = 1 ∧ g.told t 1 < B ∧ g.w (lev t) (18 + g.told t 1) = zI t)))
 ∨ (b = 1 ∧ ((g.told t 0 = 0 ∧ md2 = md) ∨ ∃ x, g.told t 0 = x ∧ 1 ≤ x ∧ x ≤ S ∧ md2 = put1 md t (md t ++ [x])))
def LcGo (B S N : Nat) (lev : Nat → Nat) (t b i : Nat) (g : GM) (md md2 : Nat → List Nat) : Prop :=
 (g.thr t ≠ [] ∧ md2 = md ∧ botF g t = b ∧ i + potL B N (lev t) t g ≤ 20 * B + 60) ∨ (g.thr t = [] ∧ LcTold B S lev t b g md md2)
theorem LcGo.step {B S N t b i : Nat} {lev : Nat → Nat} {g g2 : GM} {md md2 : Nat → List Nat} (hne : g.thr t ≠ []) (hlen : ∀ F G, g.thr t = [F, G] → F.fn = 23) (hb : botF g t = b) (hp : i + potL B N (lev t) t g ≤ 20 * B + 60) (hl2 : (g.thr t).length ≤ 2) (hO : LcO B S lev t g g2 md md2) (h1 : g2.thr t = [] ∨ potL B N (lev t) t g2 + 1 ≤ potL B N (lev t) t g) (h2 : g2.thr t = [] ∨ botF g2 t = botF g t) : LcGo B S N lev t b (i + 1) g2 md md2 := by
 by_cases he : g2.thr t = []
 ·refine .inr ⟨he, ?_⟩
  rcases hO with ⟨a, a1, a2⟩ | ⟨F, x, a, a1, a2, a3, a4, a5, a6⟩
  ·by_cases hb1 : b = 1
   ·refine .inr ⟨hb1, .inl ⟨?_, a⟩⟩
    match hg : g.thr t, hl2 with
    | [], _ => exact absurd hg hne
    | [F], _ => exact a1 F hg (by rw [← xW hg, hb, hb1]) he
    | [F, G], _ => rw [xW hg, hlen F G hg] at hb; omega
   refine .inl ⟨hb1, a, fun hb2 => ?_⟩
   match hg : g.thr t, hl2 with
   | [], _ => exact absurd hg hne
   | [F], _ => exact a2 F hg (by rw [← xW hg, hb, hb2]) he
   | [F, G], _ => rw [xW hg, hlen F G hg] at hb; omega
  exact .inr ⟨by rw [← hb, xW a, a1], .inr ⟨x, a3, a4, a5, a6⟩⟩
 rcases h1 with h1 | h1
 ·exact absurd h1 he
 rcases h2 with h2 | h2
 ·exact absurd h2 he
 refine .inl ⟨he, ?_, by rw [h2, hb], by omega⟩
 rcases hO with ⟨a, _⟩ | ⟨F, x, _, _, a2, _⟩
 ·exact a
 exact absurd a2 he
theorem LcI.two {B S gens NL T m t : Nat} {N lev : Nat → Nat} {g : GM} {md : Nat → List Nat} (h : LcI B S gens NL T N lev m g md) (ht : t < T) : ∀ F G, g.thr t = [F, G] → F.fn = 23 := fun F G e => by
 obtain ⟨z, L, ow, had, ev, emp, hI, hZ, hK, hH⟩ := h.ex
 rcases hZ.thr t ht with ⟨h0, _⟩ | ⟨F, h0, _⟩ | ⟨F, h0, _⟩ | ⟨F, x, h0, _⟩ | ⟨F, G, h0, _, _, _, h23, _⟩ <;> (rw [e] at h0; cases h0)
 exact h23
def wD (md : Nat → List Nat) (lev : Nat → Nat) (t : Nat) : Array Value := #[.int .i64 (vW md lev 0 t : Nat), .int .i64 (vW md lev 1 t : Nat), .int .i64 (vW md lev 2 t : Nat), .int .i64 (vW md lev 3 t : Nat)]
theorem nM {md : Nat → List Nat} {lev : Nat → Nat} {t k : Nat} (hk : k < 4) : (wD md lev t)[k]? = some (.int .i64 (vW md lev k t : Nat)) := by
 rcases (show k = 0 ∨ k = 1 ∨ k = 2 ∨ k = 3 by omega) with rfl | rfl | rfl | rfl <;> rfl
theorem heldRow_next {md : Nat → List Nat} {lev : Nat → Nat} {t : Nat} (hk : lev t < 4) : (wD md lev t).setIfInBounds (lev t) (.int .i64 ((vW md lev (lev t) t + (md t).length : Nat) : Int)) = wD md lev (t + 1) := by
 have h : ∀ k, vW md lev k (t + 1) = vW md lev k t + if lev t = k then (md t).length else 0 := fun _ => rfl
 unfold wD
 rw [h, h, h, h]
 rcases (show lev t = 0 ∨ lev t = 1 ∨ lev t = 2 ∨ lev t = 3 by omega) with e | e | e | e <;> (rw [e]; simp)
theorem sumMd_le {md : Nat → List Nat} {lev : Nat → Nat} {l S : Nat} : ∀ t, (∀ u, u < t → (md u).length ≤ S) → vW md lev l t ≤ t * S
 | 0, _ => Nat.zero_le _
 | t + 1, h => by
  have := sumMd_le (lev := lev) (l := l) t fun u hu => h u (by omega)
  have h2 := h t (Nat.lt_succ_self _)
  show vW md lev l t + _ ≤ _
  rw [Nat.succ_mul]
  split <;> omega
theorem lcEnds_eq {σ w : World} {M K MB : Mm} {lab labK : Nat → Nat} {p bh a m : Nat} {s : MachS} {g : GM} {fh : Nat → Value} {md : Nat → List Nat} {tp : List Nat} (h : Has σ M w) (hM : Mach M lab p s) (hB : Base K M lab) (hS : MB.le (stable K labK)) (c : Nat → Int) (hc : zF c) {L B S gens T : Nat} (hn : Nums c L B S) (hg : c 12 = (gens : Nat)) (hT : c 1 = (T : Nat)) (hV : LawV K labK T (.slice (some ⟨bh, 0, none⟩) T T) fh md) (hA : AbsM c tp a s g) (hI : LcI B S gens L T (nThr c T) (levT c) m g md) (ha : a ≤ 2000) (hm : m ≤ 5000) (htp : tp.length = T) :
  Calls Tryz.prog 37 #[.pointer (some ⟨p, 0, none⟩), (.slice (some ⟨bh, 0, none⟩) T T)] w fun r w' => r = .returned (.bool true) ∧ Has σ MB w' := by
 have PL := Lib.hid (fun (w : World) (h : Has σ M w) => wU h hM)
 have CF := Lib.hid (fun (w : World) (h : Has σ M w) => wR h s.c hM.plan)
 rw [hA.cc] at CF
 have hx : (ints .i64 14 c).extract 0 (0 + 14) = ints .i64 14 c := rfl
 have hz : (ints .i64 14 c).size = 14 := rfl
 have r0 : (ints .i64 14 c)[0]? = some (.int .i64 (L : Nat)) := by rw [← hn.lev]; rfl
 have r1 : (ints .i64 14 c)[1]? = some (.int .i64 (T : Nat)) := by rw [← hT]; rfl
 have r11 : (ints .i64 14 c)[11]? = some (.int .i64 (B : Nat)) := by rw [← hn.lim]; rfl
 have RL : Hid (∀ t, t < T → (ints .i64 14 c)[2 + t]? = some (.int .i64 (levT c t : Nat))) := Lib.hid fun t ht => by
  rw [← lev_cell hc hn hT ht]
  have hT8 : T ≤ 8 := by have := hc.2.1; omega
  rcases (show t = 0 ∨ t = 1 ∨ t = 2 ∨ t = 3 ∨ t = 4 ∨ t = 5 ∨ t = 6 ∨ t = 7 by omega) with rfl | rfl | rfl | rfl | rfl | rfl | rfl | rfl <;> rfl
 have O14 := lT c
 have zconf : (Tryz.prog.info? 24).bind (·.zero) = some (.agg #[.int .i64 0, .int .i64 0, .int .i64 0, .int .i64 0, .int .i64 0, .int .i64 0, .int .i64 0, .int .i64 0, .int .i64 0, .int .i64 0, .int .i64 0, .int .i64 0, .int .i64 0, .int .i64 0]) := by kernel_rfl
 have hT8 : 1 ≤ T ∧ T ≤ 8 := by have := hc.2.1; omega
 have hb0 := hn.b0
 have hl0 := hn.l0
 have hb60 : B ≤ 60 := by have h1 := yU hc; have h2 := hn.lim; omega
 obtain ⟨z20, hz20⟩ : ∃ z, 20 * B + 60 = z := ⟨_, rfl⟩
 have wa : IntKind.i64.wrap (20 * (B : Int)) = 20 * (B : Int) := IntWalk.i64_in _ (by omega)
 have wb : IntKind.i64.wrap (20 * (B : Int) + 60) = (z20 : Int) := by rw [show 20 * (B : Int) + 60 = (z20 : Int) by omega]; exact IntWalk.i64_in _ (by omega)
 have HZ := Lib.hid hz20
 have HC := Lib.hid hc
 have HNU := Lib.hid hn
 have HG := Lib.hid hg
 have HT := Lib.hid hT
 have HTP := Lib.hid htp
 have HM := Lib.hid hM
 have HB := Lib.hid hB
 have HS := Lib.hid hS
 have HV := Lib.hid hV
 have HAI := Lib.hid (⟨hA, hI, ha, hm⟩ : AbsM c tp a s g ∧ LcI B S gens L T (nThr c T) (levT c) m g md ∧ a ≤ 2000 ∧ m ≤ 5000)
 have HB60 := Lib.hid hb60
 have HL0 := Lib.hid hl0
 clear hc hn hg hT htp hM hB hS hV hA hI ha hm hb0 hl0 hb60 hz20
 unfold yM at *
 generalize hrw : ints .i64 14 c = row at *
 clear hrw
 go_enter Tryz.func37, Tryz.ntmps37
 go_upto_region 2 with (first
  | (go_at_call 57; refine (PL.out _ h).mono ?_; clear h; rintro _ w ⟨rfl, h⟩)
  | (go_at_call 58; refine (CF.out _ h).mono ?_; clear h; rintro _ w ⟨rfl, h⟩)
  | ((with_reducible show wpList _ _ _ (⟨_, .alloc 24, _, _, _, _⟩ :: _) _ _); refine zK h rfl 24 rfl _ zconf ?_; clear h; intro bc w h hnc; try simp only [Act.put, qD, qE, qF])
  | ((with_reducible show wpList _ _ _ (⟨_, .store 24 _ _, _, _, _, _⟩ :: _) _ _); refine zP (cells := row) h rfl 24 _ _ rfl rfl rfl (Mm.upd_same _ _ _) rfl hz.symm rfl (by rw [hz]; kernel_rfl) O14 ?_; clear h; intro w h))
 rw [Mm.upd_upd] at h
 have hle1 := Mm.le_upd' hnc (.cells row 24)
 have hbc1 := Mm.upd_same M bc (.cells row 24)
 generalize M.upd bc _ = M1 at h hle1 hbc1
 clear PL CF O14 zconf
 obtain ⟨lab1, hM1, hB1⟩ := HM.out.learn HB.out hle1
 have hV1 := HV.out.keep (learn_kp HB.out.le M1 labK) (fun h => h) (fun _ h => h)
 have hS1 := Mm.le_trans HS.out (xS (learn_kp HB.out.le M1 labK) (fun h => h))
 have hbs : stable (learn K M M1) (sW K labK fun _ => 0) bc = some (.cells row 24) := by
  have hk : K bc = none := Mm.none_of HB.out.le hnc
  unfold stable sW
  rw [hk]
  simp only [if_true]
  unfold learn
  rw [hnc]; exact hbc1
 generalize learn K M M1 = K1 at hB1 hV1 hS1 hbs
 generalize sW K labK (fun _ => 0) = labK1 at hV1 hS1 hbs
 obtain ⟨MB1, HMB1⟩ : ∃ MB1, Hid (MB1 = stable K1 labK1) := ⟨_, rfl⟩
 have hbs1 : MB1 bc = some (.cells row 24) := by rw [HMB1.out]; exact hbs
 have HSB : Hid (MB.le MB1) := Lib.hid (by rw [HMB1.out]; exact hS1)
 have hS11 : MB1.le (stable K1 labK1) := by rw [HMB1.out]; exact Mm.le_refl _
 have HM1 := Lib.hid hM1
 have HB1 := Lib.hid hB1
 have HV1 := Lib.hid hV1
 have HS1 := Lib.hid hS11
 clear hM1 hB1 hV1 hS1 hS11 hbs hbc1 hle1 hnc HM HB HS HV HMB1
 go_upto_region 3 with (fail)
 go_loopw [6] (fun u wr => ∃ (t : Nat) (M : Mm) (lab : Nat → Nat) (K : Mm) (labK : Nat → Nat) (s : MachS) (fh : Nat → Value) (md : Nat → List Nat) (a m : Nat) (g : GM), t ≤ T ∧ u = .int .i64 (t : Nat) ∧ Has σ M wr ∧ Mach M lab p s ∧ Base K M lab ∧ MB1.le (stable K labK) ∧ LawV K labK T (.slice (some ⟨bh, 0, none⟩) T T) fh md ∧ Hid (AbsM c tp a s g ∧ LcI B S gens L T (nThr c T) (levT c) m g md ∧ (∀ v, v < t → g.thr v = []) ∧ a ≤ 2000 + 1300 * t ∧ m ≤ 5000 + 1300 * t)) (fun u _ => T - (intOf u).toNat)
 case atStart => exact ⟨0, M1, lab1, K1, labK1, s, fh, md, a, m, g, Nat.zero_le _, rfl, h, HM1.out, HB1.out, HS1.out, HV1.out, Lib.hid ⟨HAI.out.1, HAI.out.2.1, fun v hv => absurd hv (Nat.not_lt_zero _), HAI.out.2.2.1, HAI.out.2.2.2⟩⟩
 clear h w HM1 HB1 HV1 HS1 HAI lab1 K1 labK1 M1 fh md a m g lab labK K M
 obtain ⟨w, rfl⟩ : ∃ x : World, x = wr := ⟨_, rfl⟩
 obtain ⟨tn, M3, lab3, K3, labK3, s, fh, md, a, m, g, htn, rfl, h, hM3, hB3, hS3, hV3, HAL⟩ := hrel
 have hbc3 := hB3.le _ _ (tC _ _ _ _ (hS3 _ _ hbs1))
 have HM3 := Lib.hid hM3
 have HB3 := Lib.hid hB3
 have HS3 := Lib.hid hS3
 have HV3 := Lib.hid hV3
 clear hM3 hB3 hS3 hV3
 by_cases hlt : tn < T
 ·as_aux_lemma =>
   have hlt' : (tn : Int) < (T : Int) := by omega
   have HTN := Lib.hid hlt
   have wt : IntKind.i64.wrap ((tn : Int) + 1) = ((tn + 1 : Nat) : Int) := by rw [show (tn : Int) + 1 = ((tn + 1 : Nat) : Int) by omega]; exact IntWalk.i64_in _ (by have := hT8.2; omega)
   obtain ⟨q, hq⟩ : ∃ q, tp[tn]? = some q := ⟨_, List.getElem?_eq_getElem (by rw [HTP.out]; exact hlt)⟩
   have HQ := Lib.hid hq
   have HTC : Hid ((tn : Int) < c 1) := Lib.hid (by rw [HT.out]; omega)
   have TH := Lib.hid (fun (w : World) (h : Has σ M3 w) => yT h HM3.out (t := tn) (q := q) (by rw [HAL.out.1.ttp]; exact HQ.out))
   have DP := Lib.hid (mX (σ := σ) HM3.out HAL.out.1 HTC.out hq)
   obtain ⟨b0, hb0⟩ : ∃ b, botF g tn = b := ⟨_, rfl⟩
   obtain ⟨tk, htk⟩ : ∃ b : Bool, decide (b0 = 1) = b := ⟨_, rfl⟩
   obtain ⟨rs, hrs⟩ : ∃ b : Bool, decide (b0 = 20) = b := ⟨_, rfl⟩
   have HBT := Lib.hid hb0
   have HTK := Lib.hid htk
   have HRS := Lib.hid hrs
   clear hlt htn hq hb0 htk hrs
   go_upto_region 6 with (first
    | (with_reducible show wpList _ _ _ (⟨_, .load 3 _, _, _, _, _⟩ :: _) _ _; refine zZ h rfl 3 _ rfl rfl hbc3 r1 Tryz.underlying3 rfl ?_)
    | (go_at_call 13; refine (TH.out _ h).mono ?_; clear h; rintro _ w ⟨rfl, h⟩))
   clear TH
   go_cut [8] from 26 to 36 (fun v8 wx => v8 = .bool tk ∧ Has σ M3 wx)
   case first =>
    as_aux_lemma =>
     match hgt : g.thr tn, HAL.out.2.1.len HTN.out with
     | [F], _ =>
      have e1 : F.fn = b0 := by rw [← HBT.out, xW hgt]
      obtain ⟨bt, TPT, csf, tyf, hbt, efn⟩ := lc_top (σ := σ) (fs := []) HM3.out HAL.out.1 HTC.out HQ.out (F := F) hgt (by simp)
      have TP := Lib.hid TPT
      have DP1 : Hid (∀ w, Has σ M3 w → Calls Tryz.prog 30 #[.pointer (some ⟨q, 0, none⟩)] w fun r w' => r = .returned (.int .i64 1) ∧ Has σ M3 w') := Lib.hid fun w h => by have := DP.out w h; rw [hgt] at this; exact this
      rw [e1] at efn
      have ek : ((b0 : Int) == 1) = tk := by
       rw [← HTK.out, Bool.eq_iff_iff, beq_iff_eq, decide_eq_true_eq]; omega
      have HGT := Lib.hid hgt
      clear DP TPT hgt e1
      go_wp2_with (first
       | (go_at_call 30; refine (DP1.out _ h).mono ?_; clear h; rintro _ w ⟨rfl, h⟩)
       | (go_at_call 32; refine (TP.out _ h).mono ?_; clear h; rintro _ w ⟨rfl, h⟩)
       | (with_reducible show wpList _ _ _ (⟨_, .load 3 _, _, _, _, _⟩ :: _) _ _; refine zZ h rfl 3 _ rfl rfl hbt efn Tryz.underlying3 rfl ?_))
      go_meet
      case rel => exact ⟨rfl, h⟩
     | [], _ =>
      have e1 : b0 = 0 := by rw [← HBT.out]; unfold botF; rw [hgt]
      have e2 : tk = false := by rw [← HTK.out, e1]; rfl
      have DP1 : Hid (∀ w, Has σ M3 w → Calls Tryz.prog 30 #[.pointer (some ⟨q, 0, none⟩)] w fun r w' => r = .returned (.int .i64 0) ∧ Has σ M3 w') := Lib.hid fun w h => by have := DP.out w h; rw [hgt] at this; exact this
      have HGT := Lib.hid hgt
      clear DP hgt e1
      subst e2
      go_wp2_with (first
       | (go_at_call 30; refine (DP1.out _ h).mono ?_; clear h; rintro _ w ⟨rfl, h⟩))
      go_meet
      case rel => exact ⟨rfl, h⟩
     | [F, G], _ =>
      have e1 : b0 = 23 := by rw [← HBT.out, xW hgt]; exact HAL.out.2.1.two HTN.out F G hgt
      have e2 : tk = false := by rw [← HTK.out, e1]; rfl
      have DP1 : Hid (∀ w, Has σ M3 w → Calls Tryz.prog 30 #[.pointer (some ⟨q, 0, none⟩)] w fun r w' => r = .returned (.int .i64 2) ∧ Has σ M3 w') := Lib.hid fun w h => by have := DP.out w h; rw [hgt] at this; exact this
      have HGT := Lib.hid hgt
      clear DP hgt e1
      subst e2
      go_wp2_with (first
       | (go_at_call 30; refine (DP1.out _ h).mono ?_; clear h; rintro _ w ⟨rfl, h⟩))
      go_meet
      case rel => exact ⟨rfl, h⟩
   obtain ⟨rfl, h2⟩ := hcut
   clear h
   obtain ⟨w, rfl⟩ : ∃ q : World, q = wc := ⟨_, rfl⟩
   have h := h2
   clear h2
   go_upto_region 7 with (fail)
   go_cut [9] from 37 to 47 (fun v9 wx => v9 = .bool rs ∧ Has σ M3 wx)
   case first =>
    as_aux_lemma =>
     match hgt : g.thr tn, HAL.out.2.1.len HTN.out with
     | [F], _ =>
      have e1 : F.fn = b0 := by rw [← HBT.out, xW hgt]
      obtain ⟨bt, TPT, csf, tyf, hbt, efn⟩ := lc_top (σ := σ) (fs := []) HM3.out HAL.out.1 HTC.out HQ.out (F := F) hgt (by simp)
      have TP := Lib.hid TPT
      have DP1 : Hid (∀ w, Has σ M3 w → Calls Tryz.prog 30 #[.pointer (some ⟨q, 0, none⟩)] w fun r w' => r = .returned (.int .i64 1) ∧ Has σ M3 w') := Lib.hid fun w h => by have := DP.out w h; rw [hgt] at this; exact this
      rw [e1] at efn
      have ek : ((b0 : Int) == 20) = rs := by
       rw [← HRS.out, Bool.eq_iff_iff, beq_iff_eq, decide_eq_true_eq]; omega
      have HGT := Lib.hid hgt
      clear DP TPT hgt e1
      go_wp2_with (first
       | (go_at_call 30; refine (DP1.out _ h).mono ?_; clear h; rintro _ w ⟨rfl, h⟩)
       | (go_at_call 32; refine (TP.out _ h).mono ?_; clear h; rintro _ w ⟨rfl, h⟩)
       | (with_reducible show wpList _ _ _ (⟨_, .load 3 _, _, _, _, _⟩ :: _) _ _; refine zZ h rfl 3 _ rfl rfl hbt efn Tryz.underlying3 rfl ?_))
      go_meet
      case rel => exact ⟨rfl, h⟩
     | [], _ =>
      have e1 : b0 = 0 := by rw [← HBT.out]; unfold botF; rw [hgt]
      have e2 : rs = false := by rw [← HRS.out, e1]; rfl
      have DP1 : Hid (∀ w, Has σ M3 w → Calls Tryz.prog 30 #[.pointer (some ⟨q, 0, none⟩)] w fun r w' => r = .returned (.int .i64 0) ∧ Has σ M3 w') := Lib.hid fun w h => by have := DP.out w h; rw [hgt] at this; exact this
      have HGT := Lib.hid hgt
      clear DP hgt e1
      subst e2
      go_wp2_with (first
       | (go_at_call 30; refine (DP1.out _ h).mono ?_; clear h; rintro _ w ⟨rfl, h⟩))
      go_meet
      case rel => exact ⟨rfl, h⟩
     | [F, G], _ =>
      have e1 : b0 = 23 := by rw [← HBT.out, xW hgt]; exact HAL.out.2.1.two HTN.out F G hgt
      have e2 : rs = false := by rw [← HRS.out, e1]; rfl
      have DP1 : Hid (∀ w, Has σ M3 w → Calls Tryz.prog 30 #[.pointer (some ⟨q, 0, none⟩)] w fun r w' => r = .returned (.int .i64 2) ∧ Has σ M3 w') := Lib.hid fun w h => by have := DP.out w h; rw [hgt] at this; exact this
      have HGT := Lib.hid hgt
      clear DP hgt e1
      subst e2
      go_wp2_with (first
       | (go_at_call 30; refine (DP1.out _ h).mono ?_; clear h; rintro _ w ⟨rfl, h⟩))
      go_meet
      case rel => exact ⟨rfl, h⟩
   obtain ⟨rfl, h2⟩ := hcut
   clear h
   obtain ⟨w, rfl⟩ : ∃ q : World, q = wc := ⟨_, rfl⟩
   have h := h2
   clear h2 DP
   as_aux_lemma =>
    go_upto_region 9 with (fail)
    go_loopw [10] (fun u wr => ∃ (i : Nat) (M : Mm) (lab : Nat → Nat) (s : MachS) (md2 : Nat → List Nat) (a2 m2 : Nat) (g : GM), i ≤ 20 * B + 60 ∧ u = .int .i64 (i : Nat) ∧ Has σ M wr ∧ Mach M lab p s ∧ Base K3 M lab ∧ Hid (AbsM c tp a2 s g ∧ LcI B S gens L T (nThr c T) (levT c) m2 g md2 ∧ (∀ v, v < tn → g.thr v = []) ∧ a2 ≤ 2000 + 1300 * tn + i ∧ m2 ≤ 5000 + 1300 * tn + i ∧ LcGo B S (nThr c T (levT c tn)) (levT c) tn b0 i g md md2)) (fun u _ => 20 * B + 60 - (intOf u).toNat)
    case atStart =>
     refine ⟨0, M3, lab3, s, md, a, m, g, Nat.zero_le _, rfl, h, HM3.out, HB3.out, Lib.hid ⟨HAL.out.1, HAL.out.2.1, HAL.out.2.2.1, HAL.out.2.2.2.1, HAL.out.2.2.2.2, ?_⟩⟩
     by_cases hi : g.thr tn = []
     ·have e0 : b0 = 0 := by rw [← HBT.out]; unfold botF; rw [hi]
      exact .inr ⟨hi, .inl ⟨by omega, rfl, fun e => by omega⟩⟩
     refine .inl ⟨hi, rfl, HBT.out, ?_⟩
     have C := uE (gens := gens) (m := 0) (n := 0) HC.out HNU.out HG.out HT.out (by omega) (by omega) HTN.out HQ.out
     have := (HAL.out.2.1.pot HTN.out C.hN8.2).2
     omega
    clear h w HAL HBT HM3 HB3 lab3 hbc3 M3
    obtain ⟨w, rfl⟩ : ∃ x : World, x = wr := ⟨_, rfl⟩
    obtain ⟨i, M4, lab4, s4, md2, a4, m4, g4, hi, rfl, h, hM4, hB4, HAL4⟩ := hrel
    have hbc4 := hB4.le _ _ (tC _ _ _ _ (HS3.out _ _ hbs1))
    have DP4 := Lib.hid (mX (σ := σ) hM4 HAL4.out.1 HTC.out HQ.out)
    have HM4 := Lib.hid hM4
    have HB4 := Lib.hid hB4
    clear hM4 hB4
    by_cases hgt : g4.thr tn = []
    ·have DP5 : Hid (∀ w, Has σ M4 w → Calls Tryz.prog 30 #[.pointer (some ⟨q, 0, none⟩)] w fun r w' => r = .returned (.int .i64 0) ∧ Has σ M4 w') := Lib.hid fun w h => by have := DP4.out w h; rw [hgt] at this; exact this
     have hld : LcTold B S (levT c) tn b0 g4 md md2 := by
      rcases HAL4.out.2.2.2.2.2 with ⟨e, _⟩ | ⟨_, e⟩
      ·exact absurd hgt e
      exact e
     have HTD := Lib.hid hld
     have HI := Lib.hid hi
     have HGT := Lib.hid hgt
     obtain ⟨bl, hbl⟩ : ∃ b : Bool, decide ((i : Int) < (z20 : Int)) = b := ⟨_, rfl⟩
     have hb2 : ∀ P : Prop, bl = false → P → P := fun _ _ h => h
     clear DP4 hld hgt hi hb2
     cases bl
     all_goals
      first
      | have hli : ¬ (i : Int) < (z20 : Int) := of_decide_eq_false hbl
      | have hli : (i : Int) < (z20 : Int) := of_decide_eq_true hbl
      go_upto_region 14 with (first
       | (with_reducible show wpList _ _ _ (⟨_, .load 3 _, _, _, _, _⟩ :: _) _ _; refine zZ h rfl 3 _ rfl rfl hbc4 r11 Tryz.underlying3 rfl ?_)
       | (go_at_call 30; refine (DP5.out _ h).mono ?_; clear h; rintro _ w ⟨rfl, h⟩))
      as_aux_lemma =>
       clear hbl DP5
       have HEND := Lib.hid (⟨HAL4.out.1, HAL4.out.2.1, fun v hv => (by
        by_cases e : v = tn
        ·subst e; exact HGT.out
        exact HAL4.out.2.2.1 v (by omega)), by have := HAL4.out.2.2.2.1; have := HI.out; have := HB60.out; omega, by have := HAL4.out.2.2.2.2.1; have := HI.out; have := HB60.out; omega⟩ : AbsM c tp a4 s4 g4 ∧ LcI B S gens L T (nThr c T) (levT c) m4 g4 md2 ∧ (∀ v, v < tn + 1 → g4.thr v = []) ∧ a4 ≤ 2000 + 1300 * (tn + 1) ∧ m4 ≤ 5000 + 1300 * (tn + 1))
       obtain ⟨trow, ty, hqb, d0, d1⟩ := m_told HM4.out HAL4.out.1 HQ.out
       have hlt1 : (tn : Int) < (T : Int) := by have := HTN.out; omega
       rcases HTD.out with ⟨hb1, hmd, h20⟩ | ⟨hb1, hmd⟩
       ·obtain rfl : tk = false := by rw [← HTK.out]; exact decide_eq_false hb1
        subst hmd
        cases rs with
        | false =>
         clear hqb d0 d1 h20 hb1 hbc4
         go_wp2
         go_roundw
         case rel => exact ⟨tn + 1, M4, lab4, K3, labK3, s4, fh, md2, a4, m4, g4, by have := HTN.out; omega, by go_num, h, HM4.out, HB4.out, HS3.out, HV3.out, HEND.out⟩
         case measure => have := HTN.out; simp [intOf]; omega
        | true =>
         have h20 := h20 (of_decide_eq_true HRS.out)
         rcases h20 with t0 | ⟨t0, t1, t2⟩
         ·rw [t0] at d0
          clear d1 t0 hb1 hbc4
          go_wp2_with (first
           | (with_reducible show wpList _ _ _ (⟨_, .load 42 _, _, _, _, _⟩ :: _) _ _; refine zZ h rfl 42 _ rfl rfl hqb d0 Tryz.underlying42 rfl ?_))
          go_roundw
          case rel => exact ⟨tn + 1, M4, lab4, K3, labK3, s4, fh, md2, a4, m4, g4, by have := HTN.out; omega, by go_num, h, HM4.out, HB4.out, HS3.out, HV3.out, HEND.out⟩
          case measure => have := HTN.out; simp [intOf]; omega
         rw [t0] at d0
         obtain ⟨j, hj⟩ : ∃ j, g4.told tn 1 = j := ⟨_, rfl⟩
         rw [hj] at d1 t1 t2
         have HJ := Lib.hid (⟨t1, t2⟩ : j < B ∧ g4.w (levT c tn) (18 + j) = zI tn)
         clear t0 t1 t2 hb1 hbc4 hj
         go_upto_region 17 with (first
          | (with_reducible show wpList _ _ _ (⟨_, .load 42 _, _, _, _, _⟩ :: _) _ _; refine zZ h rfl 42 _ rfl rfl hqb d0 Tryz.underlying42 rfl ?_))
         go_wp2_with (first
          | (with_reducible show wpList _ _ _ (⟨_, .load 42 _, _, _, _, _⟩ :: _) _ _; refine zZ h rfl 42 _ rfl rfl hqb d1 Tryz.underlying42 rfl ?_))
         obtain ⟨M5, hbx, hle5, hb5, hn5⟩ := h.box (.cells #[.int .u64 (j : Nat)] 42)
         generalize w.alloc _ = wx at hbx ⊢
         generalize w.heap.size = b5 at hb5 hn5 ⊢
         clear h
         try clear w
         have h := hbx
         clear hbx
         obtain ⟨w, rfl⟩ : ∃ x : World, x = wx := ⟨_, rfl⟩
         have hrd5 : Rd M5 1 (.slice (some ⟨b5, 0, none⟩) 1 1) 1 (u64s ([j].map fun u : Nat => (u : Int))) := ⟨rfl, _, _, rfl, Nat.le_refl _, fun _ => ⟨b5, 0, _, _, _, rfl, hb5, fun i u hu => by simpa [u64s] using hu⟩⟩
         have P3 := Lib.hid (fun (w : World) (h : Has σ M5 w) => lc_release h (HM4.out.keep (Kp.le hle5 fun _ => 0) fun _ _ h => h) (HB4.out.keep (Kp.le hle5 fun _ => 0) fun h => h) HC.out HNU.out HG.out HT.out (by have := HEND.out.2.2.2.1; have := HTN.out; have := hT8.2; omega) (by have := HEND.out.2.2.2.2; have := HTN.out; have := hT8.2; omega) HTN.out HQ.out HAL4.out.1 HAL4.out.2.1 HGT.out HJ.out.1 HJ.out.2 hrd5)
         clear hb5 hle5 hn5 hrd5 hqb d0 d1
         go_at_call 14
         refine (P3.out _ h).mono ?_
         clear h P3
         rintro _ w ⟨k5, rfl, M6, lab6, s6, g6, h, hM6, hB6, hA6, hI6, hu6, hi6⟩
         have HEND6 := Lib.hid (⟨hA6, hI6, fun v hv => (by
          by_cases e : v = tn
          ·subst e; exact hi6
          exact (hu6 v e).trans (HAL4.out.2.2.1 v (by omega))), by have := HAL4.out.2.2.2.1; have := HI.out; have := HB60.out; omega, by have := HAL4.out.2.2.2.2.1; have := HI.out; have := HB60.out; omega⟩ : AbsM c tp (a4 + 1) s6 g6 ∧ LcI B S gens L T (nThr c T) (levT c) (m4 + 1) g6 md2 ∧ (∀ v, v < tn + 1 → g6.thr v = []) ∧ a4 + 1 ≤ 2000 + 1300 * (tn + 1) ∧ m4 + 1 ≤ 5000 + 1300 * (tn + 1))
         have HM6 := Lib.hid hM6
         have HB6 := Lib.hid hB6
         clear hM6 hB6 hA6 hI6 hu6 hi6
         go_wp2_with (first
          | (fail))
         go_roundw
         case rel => exact ⟨tn + 1, M6, lab6, K3, labK3, s6, fh, md2, a4 + 1, m4 + 1, g6, by have := HTN.out; omega, by go_num, h, HM6.out, HB6.out, HS3.out, HV3.out, HEND6.out⟩
         case measure => have := HTN.out; simp [intOf]; omega
       obtain rfl : tk = true := by rw [← HTK.out]; exact decide_eq_true hb1
       obtain rfl : rs = false := by rw [← HRS.out, hb1]; rfl
       rcases hmd with ⟨t0, hmd⟩ | ⟨x, t0, x1, x2, hmd⟩
       ·subst hmd
        rw [t0] at d0
        clear d1 t0 hb1 hbc4
        go_wp2_with (first
         | (with_reducible show wpList _ _ _ (⟨_, .load 42 _, _, _, _, _⟩ :: _) _ _; refine zZ h rfl 42 _ rfl rfl hqb d0 Tryz.underlying42 rfl ?_))
        go_roundw
        case rel => exact ⟨tn + 1, M4, lab4, K3, labK3, s4, fh, md2, a4, m4, g4, by have := HTN.out; omega, by go_num, h, HM4.out, HB4.out, HS3.out, HV3.out, HEND.out⟩
        case measure => have := HTN.out; simp [intOf]; omega
       rw [t0] at d0
       have hS60 := HNU.out.s0.2
       have gz : ((x : Int) != 0) = true := by simp; omega
       have wx : IntKind.i64.wrap (x : Int) = (x : Int) := IntWalk.i64_in _ (by omega)
       have hTT : s4.tp[tn]? = some q := by rw [HAL4.out.1.ttp]; exact HQ.out
       have HTT := Lib.hid hTT
       have hmdl : (md tn).length ≤ 100 := by
        have C := uE (gens := gens) (m := 0) (n := 0) HC.out HNU.out HG.out HT.out (by omega) (by omega) HTN.out HQ.out
        have := (HAL4.out.2.1.has C.hT8 HTN.out C.hNL).1
        rw [hmd, zY, List.length_append] at this
        omega
       have HMDL := Lib.hid hmdl
       rw [hmd] at HEND
       clear d1 t0 hb1 hbc4 hTT hmdl x1 x2 hmd hS60
       obtain ⟨curH, Ah, ch, hbm, eH, hfH⟩ := HV3.out.have_ HB4.out.le rfl HTN.out
       have hO4 : OwnF (outK K3 M4 labK3 (10 + tn)) M4 3 (.slice Ah (md tn).length ch) (md tn).length (natv (md tn)) := by rw [← hfH]; exact (HV3.out.each tn HTN.out).up HB4.out.le
       have hOle4 := vM K3 M4 labK3 (10 + tn)
       have hq4 := uI (labK := labK3) (j := 10 + tn) HM4.out HB4.out HTT.out hqb
       obtain ⟨nh, hnh⟩ : ∃ nh, (md tn).length = nh := ⟨_, rfl⟩
       rw [hnh] at eH hO4
       have hn60h : nh ≤ 100 := by rw [← hnh]; exact HMDL.out
       have HNH := Lib.hid hnh
       have htT : (tn : Int) < (T : Int) := by have := HTN.out; omega
       clear hnh hfH
       go_upto_region 15 with (first
        | (with_reducible show wpList _ _ _ (⟨_, .load 42 _, _, _, _, _⟩ :: _) _ _; refine zZ h rfl 42 _ rfl rfl hqb d0 Tryz.underlying42 rfl ?_))
       clear gz
       have hg11 := Mm.one_get q (.cells trow ty (0, 0))
       have hD4 : (Mm.one q (.cells trow ty (0, 0))).le M4 := Mm.one_le hqb
       refine wp_region_held_drew (S := Has σ (Mm.one q (.cells trow ty (0, 0)))) (by kernel_rfl) (h.drew.le hD4) (fun hHeld => ?_)
       refine tkB 0 ?_
       try simp only [qA, qB, qC, Act.put, qD, qE, qF]
       refine tkB 1 ?_
       try simp only [qA, qB, qC, Act.put, qD, qE, qF]
       refine tkB 2 ?_
       try simp only [qA, qB, qC, Act.put, qD, qE, qF]
       refine tkB 3 ?_
       try simp only [qA, qB, qC, Act.put, qD, qE, qF]
       refine tkB 4 ?_
       try simp only [qA, qB, qC, Act.put, qD, qE, qF]
       refine tkB 6 ?_
       try simp only [qA, qB, qC, Act.put, qD, qE, qF]
       refine tkB 7 ?_
       try simp only [qA, qB, qC, Act.put, qD, qE, qF]
       refine tkB 8 ?_
       try simp only [qA, qB, qC, Act.put, qD, qE, qF]
       refine tkB 9 ?_
       try simp only [qA, qB, qC, Act.put, qD, qE, qF]
       refine tkA 10 rfl hHeld (zU rfl 42 _ rfl rfl hg11 d0 Tryz.underlying42 rfl) ?_
       try simp only [qA, qB, qC, Act.put, qD, qE, qF]
       refine tkB 11 ?_
       try simp only [qA, qB, qC, Act.put, qD, qE, qF]
       replace h := h.drew
       generalize w.drew = wq at h hHeld ⊢
       clear w hg11
       obtain ⟨w, rfl⟩ : ∃ q : World, q = wq := ⟨_, rfl⟩
       refine wpAnyH_ready (rs := [5, 12]) (by kernel_rfl) (by simp) ?_
       refine AllReadyH.cons rfl (fun K hK => ?_) (AllReadyH.cons rfl (fun K hK => ?_) AllReadyH.nil)
       ·skip
        refine yX rfl (zU rfl 47 _ rfl rfl hbm eH Tryz.underlying47 rfl) h ?_
        refine hK.out _ _ hHeld (fun hHeld => ?_); clear hK K; try simp only [Act.put, qD, qE, qF]
        refine op1 12 rfl fun K hK => ?_
        go_simp
        refine hK.out _ _ ((h.quietAlloc _).le hD4) (fun hHeld => ?_)
        clear hK K
        try simp only [Act.put, qD, qE, qF]
        refine op1 13 rfl fun K hK => ?_
        (refine uR h hOle4 rfl _ _ _ rfl rfl Tryz.underlying47 sQ rfl rfl hO4 rfl rfl (by omega) (by omega) ?_; clear h hHeld hOle4 hO4; intro v w M5 h hle5 hown5)
        refine hK.out _ _ (h.le (Mm.one_le (hle5 _ _ hq4))) (fun hHeld => ?_)
        clear hK K
        try simp only [Act.put, qD, qE, qF]
        obtain ⟨A5, c5, rfl⟩ := hown5.rd.form
        obtain ⟨lab5, K5, labK5, hM5, hB5, hK5, hR5⟩ := HM4.out.rowToF HB4.out hle5 hown5
        have hq5 := hle5 _ _ hq4
        have hH5 := ((HV3.out.hrow).keep hK5 (by omega)).up hB5.le
        have hHle5 := vM K5 M5 labK5 2
        have hq6 := uI (labK := labK5) (j := 2) hM5 hB5 HTT.out hq5
        refine tkB 14 ?_
        try simp only [qA, qB, qC, Act.put, qD, qE, qF]
        refine op1 15 rfl fun K hK => ?_
        (refine tV h hHle5 hH5 rfl 47 _ _ rfl rfl (k := tn) rfl HTN.out (u := .slice A5 (nh + 1) c5) rfl rfl (by kernel_rfl) ?_; clear h hHeld hHle5 hH5; intro w M6 h hle6 hown6)
        refine hK.out _ _ (h.le (Mm.one_le (hle6 _ _ hq6))) (fun hHeld => ?_)
        clear hK K
        try simp only [Act.put, qD, qE, qF]
        refine wpAnyH_done (by kernel_rfl) ?_ _
        clear hHeld
        obtain ⟨lab6, K6, labK6, hM6, hB6, hK6, hR6⟩ := hM5.rowTo hB5 hle6 hown6
        have hV6 := HV3.out.setH HTN.out hK5 (h2 := md tn ++ [x]) (by rw [uG, List.length_append, HNH.out]; exact hR5) hK6 hR6
        have hS6 := Mm.le_trans (Mm.le_trans HS3.out (xS hK5 (by omega))) (xS hK6 (by omega))
        have hKK6 : Kp (fun j => j = 2 ∨ 10 ≤ j) K3 labK3 K6 labK6 := fun c o hc hA => by
         obtain ⟨a, b⟩ := hK5 c o hc (fun e => hA (.inr (by omega)))
         obtain ⟨a2, b2⟩ := hK6 c o a (fun e => hA (.inl (by rw [← b]; exact e)))
         exact ⟨a2, b2.trans b⟩
        clear hM5 hB5 hK5 hR5 hK6 hR6 hq6 hq5 hle5 hown5 hle6 hown6
        have HX6 := Lib.hid (⟨hM6, hB6, hV6, hS6⟩ : _ ∧ _ ∧ _ ∧ _)
        clear hM6 hB6 hV6 hS6 hKK6
        go_wp2
        go_roundw
        case rel => exact ⟨tn + 1, M6, lab6, K6, labK6, s4, _, put1 md tn (md tn ++ [x]), a4, m4, g4, by have := HTN.out; omega, by go_num, h, HX6.out.1, HX6.out.2.1, HX6.out.2.2.2, HX6.out.2.2.1, HEND.out⟩
        case measure => have := HTN.out; simp [intOf]; omega
       skip
       go_simp
       refine hK.out _ _ ((h.quietAlloc _).le hD4) (fun hHeld => ?_)
       clear hK K
       try simp only [Act.put, qD, qE, qF]
       refine op1 5 rfl fun K hK => ?_
       refine yX rfl (zU rfl 47 _ rfl rfl hbm eH Tryz.underlying47 rfl) (h.quietAlloc _) ?_
       refine hK.out _ _ hHeld (fun hHeld => ?_); clear hK K; try simp only [Act.put, qD, qE, qF]
       refine op1 13 rfl fun K hK => ?_
       (refine uR h hOle4 rfl _ _ _ rfl rfl Tryz.underlying47 sQ rfl rfl hO4 rfl rfl (by omega) (by omega) ?_; clear h hHeld hOle4 hO4; intro v w M5 h hle5 hown5)
       refine hK.out _ _ (h.le (Mm.one_le (hle5 _ _ hq4))) (fun hHeld => ?_)
       clear hK K
       try simp only [Act.put, qD, qE, qF]
       obtain ⟨A5, c5, rfl⟩ := hown5.rd.form
       obtain ⟨lab5, K5, labK5, hM5, hB5, hK5, hR5⟩ := HM4.out.rowToF HB4.out hle5 hown5
       have hq5 := hle5 _ _ hq4
       have hH5 := ((HV3.out.hrow).keep hK5 (by omega)).up hB5.le
       have hHle5 := vM K5 M5 labK5 2
       have hq6 := uI (labK := labK5) (j := 2) hM5 hB5 HTT.out hq5
       refine tkB 14 ?_
       try simp only [qA, qB, qC, Act.put, qD, qE, qF]
       refine op1 15 rfl fun K hK => ?_
       (refine tV h hHle5 hH5 rfl 47 _ _ rfl rfl (k := tn) rfl HTN.out (u := .slice A5 (nh + 1) c5) rfl rfl (by kernel_rfl) ?_; clear h hHeld hHle5 hH5; intro w M6 h hle6 hown6)
       refine hK.out _ _ (h.le (Mm.one_le (hle6 _ _ hq6))) (fun hHeld => ?_)
       clear hK K
       try simp only [Act.put, qD, qE, qF]
       refine wpAnyH_done (by kernel_rfl) ?_ _
       clear hHeld
       obtain ⟨lab6, K6, labK6, hM6, hB6, hK6, hR6⟩ := hM5.rowTo hB5 hle6 hown6
       have hV6 := HV3.out.setH HTN.out hK5 (h2 := md tn ++ [x]) (by rw [uG, List.length_append, HNH.out]; exact hR5) hK6 hR6
       have hS6 := Mm.le_trans (Mm.le_trans HS3.out (xS hK5 (by omega))) (xS hK6 (by omega))
       have hKK6 : Kp (fun j => j = 2 ∨ 10 ≤ j) K3 labK3 K6 labK6 := fun c o hc hA => by
        obtain ⟨a, b⟩ := hK5 c o hc (fun e => hA (.inr (by omega)))
        obtain ⟨a2, b2⟩ := hK6 c o a (fun e => hA (.inl (by rw [← b]; exact e)))
        exact ⟨a2, b2.trans b⟩
       clear hM5 hB5 hK5 hR5 hK6 hR6 hq6 hq5 hle5 hown5 hle6 hown6
       have HX6 := Lib.hid (⟨hM6, hB6, hV6, hS6⟩ : _ ∧ _ ∧ _ ∧ _)
       clear hM6 hB6 hV6 hS6 hKK6
       go_wp2
       go_roundw
       case rel => exact ⟨tn + 1, M6, lab6, K6, labK6, s4, _, put1 md tn (md tn ++ [x]), a4, m4, g4, by have := HTN.out; omega, by go_num, h, HX6.out.1, HX6.out.2.1, HX6.out.2.2.2, HX6.out.2.2.1, HEND.out⟩
       case measure => have := HTN.out; simp [intOf]; omega
    have hne := hgt
    obtain ⟨ge, hg1, hg2, hg3⟩ : LcGo B S (nThr c T (levT c tn)) (levT c) tn b0 i g4 md md2 ∧ i < 20 * B + 60 ∧ (g4.thr tn ≠ [] ∧ md2 = md ∧ botF g4 tn = b0 ∧ i + potL B (nThr c T (levT c tn)) (levT c tn) tn g4 ≤ 20 * B + 60) ∧ True := by
     have e := HAL4.out.2.2.2.2.2
     have C := uE (gens := gens) (m := 0) (n := 0) HC.out HNU.out HG.out HT.out (by omega) (by omega) HTN.out HQ.out
     have hp := (HAL4.out.2.1.pot HTN.out C.hN8.2).1
     rcases e with e | ⟨e, _⟩
     ·exact ⟨.inl e, by omega, e, trivial⟩
     exact absurd e hne
    have hli : (i : Int) < (z20 : Int) := by rw [← HZ.out]; omega
    obtain ⟨dn, hdn⟩ : ∃ dn, (g4.thr tn).length = dn := ⟨_, rfl⟩
    rw [hdn] at DP4
    have hd0 : 0 < dn := by rw [← hdn]; exact List.length_pos_iff.2 hne
    have hd1 : (0 : Int) < (dn : Int) := by omega
    have hd2 : decide ((0 : Int) < (dn : Int)) = true := decide_eq_true hd1
    have wi : IntKind.i64.wrap ((i : Int) + 1) = ((i + 1 : Nat) : Int) := by rw [show (i : Int) + 1 = ((i + 1 : Nat) : Int) by omega]; exact IntWalk.i64_in _ (by have := HB60.out; omega)
    have ST := Lib.hid (fun (w : World) (h : Has σ M4 w) => lc_step h HM4.out HB4.out HC.out HNU.out HG.out HT.out (by have := HAL4.out.2.2.2.1; have := HB60.out; have := hT8.2; have := HTN.out; omega) (by have := HAL4.out.2.2.2.2.1; have := HB60.out; have := hT8.2; have := HTN.out; omega) HTN.out HQ.out HAL4.out.1 HAL4.out.2.1 hne)
    have HI := Lib.hid hg1
    have HGE := Lib.hid hg2
    have HNE := Lib.hid hne
    clear ge hg1 hg2 hg3 hgt hne hi hd0 hdn
    go_wp2_with (first
     | (with_reducible show wpList _ _ _ (⟨_, .load 3 _, _, _, _, _⟩ :: _) _ _; refine zZ h rfl 3 _ rfl rfl hbc4 r11 Tryz.underlying3 rfl ?_)
     | (go_at_call 30; refine (DP4.out _ h).mono ?_; clear h; rintro _ w ⟨rfl, h⟩)
     | ((go_at_call 33; refine (ST.out _ h).mono ?_; clear h; rintro _ w ⟨M5, lab5, s5, g5, md5, m5, rfl, h, hM5, hB5, hA5, hm5, hI5, hu5, hO5, hp5, _, hb5⟩)))
    have hgo5 := LcGo.step HNE.out (HAL4.out.2.1.two HTN.out) HGE.out.2.2.1 HGE.out.2.2.2 (HAL4.out.2.1.len HTN.out) (by rw [HGE.out.2.1] at hO5; exact hO5) hp5 hb5
    have H5 := Lib.hid (⟨hA5, hI5, fun v hv => (hu5 v (by omega)).trans (HAL4.out.2.2.1 v hv), by have := HAL4.out.2.2.2.1; omega, by have := HAL4.out.2.2.2.2.1; omega, hgo5⟩ : AbsM c tp (a4 + 1) s5 g5 ∧ LcI B S gens L T (nThr c T) (levT c) m5 g5 md5 ∧ (∀ v, v < tn → g5.thr v = []) ∧ a4 + 1 ≤ 2000 + 1300 * tn + (i + 1) ∧ m5 ≤ 5000 + 1300 * tn + (i + 1) ∧ LcGo B S (nThr c T (levT c tn)) (levT c) tn b0 (i + 1) g5 md md5)
    clear hA5 hI5 hu5 hO5 hp5 hb5 hgo5 hm5 ST DP4
    go_roundw
    case rel => exact ⟨i + 1, M5, lab5, s5, md5, a4 + 1, m5, g5, by have := HI.out; omega, by go_num, h, hM5, hB5, H5⟩
    case measure => have := HI.out; simp [intOf]; omega
 as_aux_lemma =>
  obtain rfl : tn = T := by omega
  have hlt' : ¬ (tn : Int) < (tn : Int) := by omega
  clear hlt htn
  have hrest : ∀ v, v < tn → g.thr v = [] := HAL.out.2.2.1
  have CNT : Hid (∀ l, l < L → mF (g.held l) S = 1 + vW md (levT c) l tn + (xL (cellsOf g B l)).length) := Lib.hid (fun l hl => HAL.out.2.1.count HNU.out.s0.1 hT8.2 hrest hl)
  have HHAS : Hid (∀ v, v < tn → (md v).length ≤ 60) := Lib.hid (fun v hv => Nat.le_trans (HAL.out.2.1.has hT8.2 hv (uP HC.out HNU.out HT.out hv).2).1 HNU.out.s0.2)
  have LEV : Hid (∀ v, v < tn → levT c v < L) := Lib.hid fun v hv => (uP HC.out HNU.out HT.out hv).2
  have HL4 : Hid (1 ≤ L ∧ L ≤ 4) := HL0
  have FT := Lib.hid (fun (M' : Mm) (hle : M3.le M') (w : World) (h : Has σ M' w) => jV h (HM3.out.keep (Kp.le hle fun _ => 0) fun _ _ h => h))
  rw [HAL.out.1.good] at FT
  have WA := Lib.hid (fun (M' : Mm) (hle : M3.le M') (w : World) (h : Has σ M' w) => vF h (HM3.out.keep (Kp.le hle fun _ => 0) fun _ _ h => h))
  have HE : Hid (∀ y, y < L → ∀ (M' : Mm), M3.le M' → ∀ w : World, Has σ M' w → Calls Tryz.prog 27 #[.pointer (some ⟨s.wp, 0, none⟩), .int .i64 (y : Nat)] w fun r w' => r = .returned (.int .i64 ((1 + vW md (levT c) y tn + filN (cellsOf g B y) : Nat) : Int)) ∧ Has σ M' w') := Lib.hid fun y hy M' hle w h => by
   have := held_eq h (HM3.out.keep (Kp.le hle fun _ => 0) fun _ _ h => h) HAL.out.1 HNU.out hy
   rw [CNT.out y hy] at this
   have e : (xL (cellsOf g B y)).length = filN (cellsOf g B y) := by unfold xL filN; rw [List.length_map]
   rw [e] at this
   exact this
  have CE : Hid (∀ y, y < L → ∀ (M' : Mm), M3.le M' → ∀ w : World, Has σ M' w → Calls Tryz.prog 26 #[.pointer (some ⟨p, 0, none⟩), .int .i64 (y : Nat)] w fun r w' => ∃ v M2, r = .returned v ∧ Has σ M2 w' ∧ M'.le M2 ∧ Rd M2 1 v B (cu (cellsOf g B y))) := Lib.hid fun y hy M' hle w h => kZ h (HM3.out.keep (Kp.le hle fun _ => 0) fun _ _ h => h) HAL.out.1 HNU.out hy (by unfold cellsOf; simp) fun i hi => by rw [List.getD_eq_getElem?_getD, wI hi]; rfl
  have FI : Hid (∀ y, y < L → ∀ (M' : Mm) (w : World) (v : Value), Has σ M' w → Rd M' 1 v B (cu (cellsOf g B y)) → Calls Tryz.prog 28 #[v] w fun r w' => r = .returned (.int .i64 (filN (cellsOf g B y) : Nat)) ∧ Has σ M' w') := Lib.hid fun y hy M' w v h hr => refFilled_eq h hr (by have := HB60.out; omega) fun u hu => by
   obtain ⟨j, hj, rfl⟩ := List.mem_map.1 hu
   exact HAL.out.2.1.kinds hT8.2 hy (List.mem_range.1 hj)
  have OD : Hid (∀ y, y < L → ∀ (M' : Mm), M3.le M' → ∀ w : World, Has σ M' w → Calls Tryz.prog 29 #[.pointer (some ⟨p, 0, none⟩), .int .i64 (y : Nat)] w fun r w' => r = .returned (.int .i64 0) ∧ ∃ M2, Has σ M2 w' ∧ M'.le M2) := Lib.hid fun y hy M' hle w h => lc_odd h (HM3.out.keep (Kp.le hle fun _ => 0) fun _ _ h => h) HAL.out.1 (by have := HAL.out.2.2.2.1; have := hT8.2; omega) HNU.out HG.out hy HAL.out.2.1 hrest
  have BN : Hid (∀ y, y < L → filN (cellsOf g B y) ≤ 60) := Lib.hid fun y hy => by
   have : (cellsOf g B y).length = B := by unfold cellsOf; simp
   have h2 : filN (cellsOf g B y) ≤ (cellsOf g B y).length := List.length_filter_le _ _
   have := HB60.out
   omega
  have BS : Hid (∀ y t, t ≤ tn → vW md (levT c) y t ≤ t * 60) := Lib.hid fun y t ht => sumMd_le t fun u hu => HHAS.out u (by omega)
  have HKM := Lib.hid HB3.out.le
  clear hrest CNT HAL
  go_upto_region 19 with (first
   | (with_reducible show wpList _ _ _ (⟨_, .load 3 _, _, _, _, _⟩ :: _) _ _; refine zZ h rfl 3 _ rfl rfl hbc3 r1 Tryz.underlying3 rfl ?_))
  obtain ⟨M4, hbx, hle4, hbz, hnx⟩ := h.box (.cells #[.int .i64 0, .int .i64 0, .int .i64 0, .int .i64 0] 112)
  generalize w.alloc _ = wx at hbx ⊢
  generalize w.heap.size = bx at hbz hnx ⊢
  clear h
  try clear w
  have h := hbx
  clear hbx
  obtain ⟨w, rfl⟩ : ∃ x : World, x = wx := ⟨_, rfl⟩
  replace hbz : M4 bx = some (.cells (wD md (levT c) 0) 112) := hbz
  have HNX := Lib.hid hnx
  have HX4 := Lib.hid (⟨hle4, hbz⟩ : M3.le M4 ∧ M4 bx = some (.cells (wD md (levT c) 0) 112))
  clear hnx hle4 hbz
  go_upto_region 20 with (fail)
  go_loopw [12] (fun u wr => ∃ (t : Nat) (M' : Mm), t ≤ tn ∧ u = .int .i64 (t : Nat) ∧ Has σ M' wr ∧ M3.le M' ∧ M' bx = some (.cells (wD md (levT c) t) 112)) (fun u _ => tn - (intOf u).toNat)
  case atStart => exact ⟨0, M4, Nat.zero_le _, rfl, h, HX4.out.1, HX4.out.2⟩
  clear h w HX4 M4
  obtain ⟨w, rfl⟩ : ∃ x : World, x = wr := ⟨_, rfl⟩
  obtain ⟨t, M4, ht, rfl, h, hle4, hbz⟩ := hrel
  have hbc4 := hle4 _ _ hbc3
  by_cases hlt : t < tn
  ·have hlt2 : (t : Int) < (tn : Int) := by omega
   have hl3 := LEV.out t hlt
   have rl := RL.out t hlt
   obtain ⟨lv, hlv⟩ : ∃ lv, levT c t = lv := ⟨_, rfl⟩
   rw [hlv] at hl3 rl
   have hl4 : lv < 4 := by have := HL4.out.2; omega
   have hl4' : (lv : Int) < 4 := by omega
   have wt : IntKind.i64.wrap ((t : Int) + 1) = ((t + 1 : Nat) : Int) := by rw [show (t : Int) + 1 = ((t + 1 : Nat) : Int) by omega]; exact IntWalk.i64_in _ (by have := hT8.2; omega)
   obtain ⟨curH, Ah, ch, hbm, eH, hfH⟩ := HV3.out.have_ HKM.out rfl hlt
   have hbm3 := hbm
   have hnl := HHAS.out t hlt
   have hsm := BS.out lv t (by omega)
   have hgt := nM (md := md) (lev := levT c) (t := t) hl4
   have HNXT : Hid ((wD md (levT c) t).setIfInBounds lv (.int .i64 ((vW md (levT c) lv t + (md t).length : Nat) : Int)) = wD md (levT c) (t + 1)) := Lib.hid (by rw [← hlv]; exact heldRow_next (by rw [hlv]; exact hl4))
   have hsz : lv < (wD md (levT c) t).size := by show lv < 4; exact hl4
   generalize wD md (levT c) t = hrow at hbz hgt HNXT hsz
   obtain ⟨hrow2, hr2⟩ : ∃ r, wD md (levT c) (t + 1) = r := ⟨_, rfl⟩
   rw [hr2] at HNXT
   have HR2 := Lib.hid hr2.symm
   clear hr2
   obtain ⟨nl, hnl2⟩ : ∃ n, (md t).length = n := ⟨_, rfl⟩
   rw [hnl2] at eH hnl HNXT
   obtain ⟨sm, hsm2⟩ : ∃ n, vW md (levT c) lv t = n := ⟨_, rfl⟩
   rw [hsm2] at hsm hgt HNXT
   have wS : IntKind.i64.wrap ((sm : Int) + (nl : Int)) = ((sm + nl : Nat) : Int) := by rw [show (sm : Int) + (nl : Int) = ((sm + nl : Nat) : Int) by omega]; exact IntWalk.i64_in _ (by have := hT8.2; omega)
   have HLT := Lib.hid hlt
   have HLE4 := Lib.hid hle4
   clear hl3 hfH hnl hsm hnl2 hsm2 hlv hlt ht hle4
   go_upto_region 22 with (first
    | (with_reducible show wpList _ _ _ (⟨_, .load 3 _, _, _, _, _⟩ :: _) _ _; refine zZ h rfl 3 _ rfl rfl hbc4 r1 Tryz.underlying3 rfl ?_))
   have ht8 : (t : Int) < 8 := by have := HLT.out; have := hT8.2; omega
   have hM3 := HLE4.out
   obtain ⟨hbmA, hbcA⟩ : M3 bh = some (.cells curH 47) ∧ M3 bc = some (.cells row 24) := ⟨hbm3, hbc3⟩
   refine wp_region_held_drew (S := Has σ (M3)) (by kernel_rfl) ((h.le HLE4.out).drew) (fun hHeld => ?_)
   refine tkB 0 ?_
   try simp only [qA, qB, qC, Act.put, qD, qE, qF]
   refine tkB 1 ?_
   try simp only [qA, qB, qC, Act.put, qD, qE, qF]
   refine tkB 2 ?_
   try simp only [qA, qB, qC, Act.put, qD, qE, qF]
   refine tkA 3 rfl hHeld (zU rfl 3 _ rfl rfl hbcA rl Tryz.underlying3 rfl) ?_
   try simp only [qA, qB, qC, Act.put, qD, qE, qF]
   refine tkB 4 ?_
   try simp only [qA, qB, qC, Act.put, qD, qE, qF]
   refine tkB 5 ?_
   try simp only [qA, qB, qC, Act.put, qD, qE, qF]
   refine tkB 6 ?_
   try simp only [qA, qB, qC, Act.put, qD, qE, qF]
   refine tkA 7 rfl hHeld (zU rfl 3 _ rfl rfl hbcA rl Tryz.underlying3 rfl) ?_
   try simp only [qA, qB, qC, Act.put, qD, qE, qF]
   refine tkB 8 ?_
   try simp only [qA, qB, qC, Act.put, qD, qE, qF]
   refine tkB 10 ?_
   try simp only [qA, qB, qC, Act.put, qD, qE, qF]
   refine tkB 11 ?_
   try simp only [qA, qB, qC, Act.put, qD, qE, qF]
   refine tkB 12 ?_
   try simp only [qA, qB, qC, Act.put, qD, qE, qF]
   refine tkA 13 rfl hHeld (zU rfl 47 _ rfl rfl hbmA eH Tryz.underlying47 rfl) ?_
   try simp only [qA, qB, qC, Act.put, qD, qE, qF]
   refine tkB 14 ?_
   try simp only [qA, qB, qC, Act.put, qD, qE, qF]
   replace h := h.drew
   generalize w.drew = wq at h hHeld ⊢
   clear w
   obtain ⟨w, rfl⟩ : ∃ q : World, q = wq := ⟨_, rfl⟩
   refine op1 9 rfl fun K hK => ?_
   refine yX rfl (zU rfl 3 _ rfl rfl hbz hgt Tryz.underlying3 rfl) h ?_
   refine hK.out _ _ hHeld (fun hHeld => ?_); clear hK K; try simp only [Act.put, qD, qE, qF]
   refine tkB 15 ?_
   try simp only [qA, qB, qC, Act.put, qD, qE, qF]
   refine tkB 16 ?_
   try simp only [qA, qB, qC, Act.put, qD, qE, qF]
   refine op1 17 rfl fun K hK => ?_
   (refine yR (v := .int .i64 ((sm + nl : Nat) : Int)) h rfl 3 _ _ rfl rfl rfl hbz hsz rfl rfl (by kernel_rfl) fun w' h' => ?_; clear h hHeld; have h := h'; clear h'; obtain ⟨w, rfl⟩ : ∃ q : World, q = w' := ⟨_, rfl⟩)
   refine hK.out _ _ (h.le (Mm.le_upd HLE4.out HNX.out _)) (fun hHeld => ?_)
   clear hK K
   try simp only [Act.put, qD, qE, qF]
   refine wpAnyH_done (by kernel_rfl) ?_ _
   clear hHeld
   rw [HNXT.out] at h
   have hle5 := Mm.le_upd HLE4.out HNX.out (.cells hrow2 112)
   have hbz5 := Mm.upd_same M4 bx (.cells hrow2 112)
   generalize M4.upd bx _ = M5 at h hle5 hbz5
   have H5 := Lib.hid (⟨hle5, hbz5⟩ : _ ∧ _)
   clear hle5 hbz5 hbz hgt
   go_wp2
   go_roundw
   case rel => exact ⟨t + 1, M5, by have := HLT.out; omega, by go_num, h, H5.out.1, by rw [H5.out.2, HR2.out]⟩
   case measure => have := HLT.out; simp [intOf]; omega
  obtain rfl : t = tn := by omega
  have hlt2 : ¬ (t : Int) < (t : Int) := by omega
  have HLE4 := Lib.hid hle4
  clear hlt ht hle4
  go_upto_region 24 with (first
   | (with_reducible show wpList _ _ _ (⟨_, .load 3 _, _, _, _, _⟩ :: _) _ _; refine zZ h rfl 3 _ rfl rfl hbc4 r1 Tryz.underlying3 rfl ?_))
  have H4 := Lib.hid hbz
  clear hbz
  go_loopw [13] (fun u wr => ∃ (y : Nat) (M' : Mm), y ≤ L ∧ u = .int .i64 (y : Nat) ∧ Has σ M' wr ∧ M4.le M') (fun u _ => L - (intOf u).toNat)
  case atStart => exact ⟨0, M4, Nat.zero_le _, rfl, h, Mm.le_refl _⟩
  clear h w
  obtain ⟨w, rfl⟩ : ∃ x : World, x = wr := ⟨_, rfl⟩
  obtain ⟨y, M5, hy, rfl, h, hle5⟩ := hrel
  have hle35 := Mm.le_trans HLE4.out hle5
  have hbc5 := hle5 _ _ hbc4
  have hbz5 := hle5 _ _ H4.out
  by_cases hyL : y < L
  ·have hyL' : (y : Int) < (L : Int) := by omega
   have hy4 : y < 4 := by have := HL4.out.2; omega
   have hy4' : (y : Int) < 4 := by omega
   have wy : IntKind.i64.wrap ((y : Int) + 1) = ((y + 1 : Nat) : Int) := by rw [show (y : Int) + 1 = ((y + 1 : Nat) : Int) by omega]; exact IntWalk.i64_in _ (by omega)
   have WA5 := Lib.hid (WA.out M5 hle35)
   have HE5 := Lib.hid (HE.out y hyL M5 hle35)
   have CE5 := Lib.hid (CE.out y hyL M5 hle35)
   have OD5 : Hid (∀ M', M5.le M' → ∀ w : World, Has σ M' w → Calls Tryz.prog 29 #[.pointer (some ⟨p, 0, none⟩), .int .i64 (y : Nat)] w fun r w' => r = .returned (.int .i64 0) ∧ ∃ M2, Has σ M2 w' ∧ M'.le M2) := Lib.hid fun M' hle => OD.out y hyL M' (Mm.le_trans hle35 hle)
   have FI5 := Lib.hid (FI.out y hyL)
   have hgy := nM (md := md) (lev := levT c) (t := t) hy4
   have hsm := BS.out y t (Nat.le_refl _)
   have hfc := BN.out y hyL
   generalize vW md (levT c) y t = sm at HE5 hgy hsm
   generalize filN (cellsOf g B y) = fc at HE5 FI5 hfc
   generalize cu (cellsOf g B y) = cy at CE5 FI5
   have v1 : IntKind.i64.wrap (1 + (sm : Int)) = ((1 + sm : Nat) : Int) := by rw [show 1 + (sm : Int) = ((1 + sm : Nat) : Int) by omega]; exact IntWalk.i64_in _ (by have := hT8.2; omega)
   have v2 : IntKind.i64.wrap (((1 + sm : Nat) : Int) + (fc : Int)) = ((1 + sm + fc : Nat) : Int) := by rw [show ((1 + sm : Nat) : Int) + (fc : Int) = ((1 + sm + fc : Nat) : Int) by omega]; exact IntWalk.i64_in _ (by have := hT8.2; omega)
   generalize 1 + sm + fc = tot at *
   generalize 1 + sm = tot1 at *
   have v3 : ((tot : Int) != (tot : Int)) = false := by simp
   have HYL := Lib.hid hyL
   have HLE5 := Lib.hid hle5
   clear hle35 hsm hfc hyL hy hle5
   go_upto_region 26 with (first
    | (with_reducible show wpList _ _ _ (⟨_, .load 3 _, _, _, _, _⟩ :: _) _ _; refine zZ h rfl 3 _ rfl rfl hbc5 r0 Tryz.underlying3 rfl ?_))
   refine wp_region_held_drew (S := Has σ (M5)) (by kernel_rfl) (h.drew) (fun hHeld => ?_)
   refine tkB 0 ?_
   try simp only [qA, qB, qC, Act.put, qD, qE, qF]
   refine tkB 2 ?_
   try simp only [qA, qB, qC, Act.put, qD, qE, qF]
   refine tkB 4 ?_
   try simp only [qA, qB, qC, Act.put, qD, qE, qF]
   refine tkB 5 ?_
   try simp only [qA, qB, qC, Act.put, qD, qE, qF]
   refine tkA 6 rfl hHeld (zU rfl 3 _ rfl rfl hbz5 hgy Tryz.underlying3 rfl) ?_
   try simp only [qA, qB, qC, Act.put, qD, qE, qF]
   refine tkB 7 ?_
   try simp only [qA, qB, qC, Act.put, qD, qE, qF]
   refine tkB 8 ?_
   try simp only [qA, qB, qC, Act.put, qD, qE, qF]
   refine tkB 9 ?_
   try simp only [qA, qB, qC, Act.put, qD, qE, qF]
   replace h := h.drew
   generalize w.drew = wq at h hHeld ⊢
   clear w
   obtain ⟨w, rfl⟩ : ∃ q : World, q = wq := ⟨_, rfl⟩
   refine op1 1 rfl fun K hK => ?_
   (go_simp; go_wp2_with (go_at_call 17; refine (WA5.out _ h).mono ?_; clear h; rintro _ w ⟨rfl, h⟩))
   refine hK.out _ _ (h) (fun hHeld => ?_)
   clear hK K
   try simp only [Act.put, qD, qE, qF]
   refine op1 3 rfl fun K hK => ?_
   (go_simp; go_wp2_with (go_at_call 27; refine (HE5.out _ h).mono ?_; clear h; rintro _ w ⟨rfl, h⟩))
   refine hK.out _ _ (h) (fun hHeld => ?_)
   clear hK K
   try simp only [Act.put, qD, qE, qF]
   refine op1 10 rfl fun K hK => ?_
   (go_simp; go_wp2_with (go_at_call 26; refine (CE5.out _ h).mono ?_; clear h; rintro _ w ⟨v6, M6, rfl, h, hle6, hv6⟩))
   refine hK.out _ _ (h.le hle6) (fun hHeld => ?_)
   clear hK K
   try simp only [Act.put, qD, qE, qF]
   refine op1 11 rfl fun K hK => ?_
   (go_simp; go_wp2_with (go_at_call 28; refine (FI5.out _ _ _ h hv6).mono ?_; clear h; rintro _ w ⟨rfl, h⟩))
   refine hK.out _ _ (h.le hle6) (fun hHeld => ?_)
   clear hK K
   try simp only [Act.put, qD, qE, qF]
   refine tkB 12 ?_
   try simp only [qA, qB, qC, Act.put, qD, qE, qF]
   refine tkB 13 ?_
   try simp only [qA, qB, qC, Act.put, qD, qE, qF]
   refine tkB 14 ?_
   try simp only [qA, qB, qC, Act.put, qD, qE, qF]
   refine tkB 15 ?_
   try simp only [qA, qB, qC, Act.put, qD, qE, qF]
   refine tkB 16 ?_
   try simp only [qA, qB, qC, Act.put, qD, qE, qF]
   refine op1 17 rfl fun K hK => ?_
   (go_simp; go_wp2_with (go_at_call 29; refine (OD5.out _ hle6 _ h).mono ?_; clear h; rintro _ w ⟨rfl, M7, h, hle7⟩))
   refine hK.out _ _ (h.le (Mm.le_trans hle6 hle7)) (fun hHeld => ?_)
   clear hK K
   try simp only [Act.put, qD, qE, qF]
   refine tkB 18 ?_
   try simp only [qA, qB, qC, Act.put, qD, qE, qF]
   refine tkB 19 ?_
   try simp only [qA, qB, qC, Act.put, qD, qE, qF]
   refine wpAnyH_done (by kernel_rfl) ?_ _
   clear hHeld
   have HLE7 := Lib.hid (Mm.le_trans HLE5.out (Mm.le_trans hle6 hle7))
   clear hle6 hle7 hv6 hbz5 hgy
   go_wp2
   go_roundw
   case rel => exact ⟨y + 1, M7, by have := HYL.out; omega, by go_num, h, HLE7.out⟩
   case measure => have := HYL.out; simp [intOf]; omega
  obtain rfl : y = L := by omega
  have hyL' : ¬ (y : Int) < (y : Int) := by omega
  have FT5 := Lib.hid (FT.out M5 hle35)
  have HLE5 := Lib.hid hle5
  clear hle35 hyL hy hle5
  go_wp2_with (first
   | (with_reducible show wpList _ _ _ (⟨_, .load 3 _, _, _, _, _⟩ :: _) _ _; refine zZ h rfl 3 _ rfl rfl hbc5 r0 Tryz.underlying3 rfl ?_)
   | (go_at_call 24; refine (FT5.out _ h).mono ?_; clear h; rintro _ w ⟨rfl, h⟩))
  go_ret
  exact ⟨rfl, h.le (Mm.le_trans HSB.out (Mm.le_trans HS3.out (Mm.le_trans (tC _ _) (Mm.le_trans HKM.out (Mm.le_trans HLE4.out HLE5.out)))))⟩
end
end Go.Proofs.YtjeeldacnllipaaGreat
