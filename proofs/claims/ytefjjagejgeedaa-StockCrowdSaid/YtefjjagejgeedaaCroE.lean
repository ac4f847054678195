/- Law 22, StockCrowd: the law's walk. -/
import Derived.Test.YtefjjagejgeedaaCroD
namespace Go.Proofs.Ytefjjagejgeedaa
section
open Go.RowKit
set_option linter.unusedVariables false
set_option linter.unusedSimpArgs false
set_option linter.unnecessarySimpa false
/-- What holds of the machine ahead of the law's next round. -/
structure CwInv (c : Nat → Int) (S gens L T : Nat) (tp : List Nat) (i : Nat) (s : MachS) (had : Nat → List Nat) (ev : Nat → List (Nat × Nat)) (emp : Nat → Bool) : Prop where
  evl : ∀ l, (ev l).length ≤ i
  all : ∃ n m g Lf ow, n ≤ i ∧ m ≤ 2 * i ∧ AbsG c tp n s g ∧ CrI S gens L T (levT c) m g Lf ow had ev emp
theorem CwInv.mono {c : Nat → Int} {S gens L T i j : Nat} {tp : List Nat} {s : MachS} {had : Nat → List Nat} {ev : Nat → List (Nat × Nat)} {emp : Nat → Bool} (h : CwInv c S gens L T tp i s had ev emp) (hij : i ≤ j) : CwInv c S gens L T tp j s had ev emp := by
  obtain ⟨n, m, g, Lf, ow, h1, h2, h3, h4⟩ := h.all
  exact ⟨fun l => Nat.le_trans (h.evl l) hij, ⟨n, m, g, Lf, ow, by omega, by omega, h3, h4⟩⟩
theorem CwInv.first {c : Nat → Int} {L B S gens T : Nat} {s : MachS} (hn : Nums c L B S) (hc : ConfMay c) (hg : c 12 = (gens : Nat)) (h : s.New c L B S) (hw : s.ward.lv = s.c 0 ∧ s.ward.sl = s.c 10) : CwInv c S gens L T s.tp 0 s (fun _ => []) (fun _ => []) (fun _ => false) :=
  ⟨fun l => Nat.le_refl _, ⟨0, 0, g00 S, _, ow0, Nat.le_refl _, Nat.le_refl _, abs_first hn hc h hw, ginv_first hn.s0.1 (by have := hc.2.2.2.2.2.2.1.1; omega), fun l x h => absurd h (by unfold ow0; split <;> decide), fun t _ F h => by cases h⟩⟩
set_option maxHeartbeats 4000000 in
set_option maxRecDepth 20000 in
theorem stCrowd_long {σ w : World} {M : Mm} (h : Has σ M w) (c : Nat → Int) (hc : ConfMay c) {L B S gens T : Nat} (hn : Nums c L B S) (hg : c 12 = (gens : Nat)) (hT : c 1 = (T : Nat)) {A : Option Addr} {n cap : Nat} {lst : List (Int × Int)} (hr : Rd M 2 (.slice A n cap) n (lst.flatMap enc2)) (hl : lst.length = n) (h600 : n ≤ 600) :
    Calls Try.prog 5 #[confV c, .slice A n cap] w fun r w' => r = .returned (.bool true) ∧ Has σ M w' := by
  have NW := Lib.hid (fun (M' : Mm) (w : World) (h : Has σ M' w) => mNew_yes h c hc hn)
  have LI := Lib.hid (fun (M' : Mm) (w : World) (h : Has σ M' w) => lives_eq h)
  have hx : (ints .i64 14 c).extract 0 (0 + 14) = ints .i64 14 c := rfl
  have hz : (ints .i64 14 c).size = 14 := rfl
  have r0 : (ints .i64 14 c)[0]? = some (.int .i64 (L : Nat)) := by rw [← hn.lev]; rfl
  have r1 : (ints .i64 14 c)[1]? = some (.int .i64 (T : Nat)) := by rw [← hT]; rfl
  have g600 : decide ((600 : Int) < (n : Int)) = false := decide_eq_false (by omega)
  have g600' : ¬ (600 : Int) < (n : Int) := by omega
  have hl0 := hn.l0
  have hT8 : 1 ≤ T ∧ T ≤ 8 := by have := hc.2.1; omega
  have MS := mk_ints T (by omega)
  have MB := mk_bools T (by omega)
  have MV := mk_helds L (by omega)
  have HC := Lib.hid hc
  have HNU := Lib.hid hn
  have HG := Lib.hid hg
  have HT := Lib.hid hT
  have HR := Lib.hid hr
  have HL := Lib.hid hl
  have hn600 : n ≤ 600 := h600
  unfold confV at NW ⊢
  clear hc hn hg hT hr hl h600
  generalize hrw : ints .i64 14 c = row at NW hx hz r0 r1 ⊢
  have HRW := Lib.hid hrw
  clear hrw
  go_enter Try.func5, Try.ntmps5
  go_upto_region 1 with (fail)
  obtain ⟨M1, hbx, hle1, hbf, hnf⟩ := h.box (.cells row 24)
  generalize w.alloc _ = wx at hbx ⊢
  generalize w.heap.size = bf at hbf hnf ⊢
  clear h
  try clear w
  have h := hbx
  clear hbx
  obtain ⟨w, rfl⟩ : ∃ x : World, x = wx := ⟨_, rfl⟩
  go_upto_region 4 with (first
    | ((with_reducible show wpList _ _ _ ({ dst := _, op := Op.load 24 _, type := _, pos := _, after := _, guard := _ } :: _) _ _); refine wpList_agg_has h rfl 24 _ rfl rfl hbf hx hz Try.underlying24 rfl (by kernel_rfl) ?_; try simp only [Act.put, List.setIfInBounds_toArray, List.set_cons_zero, List.set_cons_succ])
    | ((go_at_call 7; refine (NW.out _ _ h).mono ?_; clear h; rintro _ w ⟨p, M2, lab2, s, rfl, h, hB2, hM2, hN⟩)))
  have HM2 := Lib.hid hM2
  have HB2 := Lib.hid hB2
  have HN := Lib.hid hN
  have hbf2 := hB2.le _ _ hbf
  clear hM2 hB2 hN NW
  go_upto_region 5 with (first
    | (with_reducible show wpList _ _ _ ({ dst := _, op := Op.load 3 _, type := _, pos := _, after := _, guard := _ } :: _) _ _; refine wpList_load1_has h rfl 3 _ rfl rfl hbf2 r1 Try.underlying3 rfl ?_))
  clear MS
  obtain ⟨M3, hbx, hle3, hbh, hnh⟩ := h.box (.cells (nils T).toArray 47)
  generalize w.alloc _ = wx at hbx ⊢
  generalize w.heap.size = bh at hbh hnh ⊢
  clear h
  try clear w
  have h := hbx
  clear hbx
  obtain ⟨w, rfl⟩ : ∃ x : World, x = wx := ⟨_, rfl⟩
  have hO3 : Own (outK M1 M2 (fun _ => 0) 2) M3 47 1 (.slice (some ⟨bh, 0, none⟩) T T) T (nils T) := by
    rw [outK_self (fun c o hc => by show (0 : Nat) ≠ 2; decide)]
    exact ⟨by simp [nils], .inr ⟨bh, T, _, rfl, hnh, hbh, Nat.le_refl _, by unfold maxLen; omega, by simp [nils], by rw [Nat.mul_one]; exact List.take_of_length_le (by simp [nils])⟩⟩
  obtain ⟨lab3, K3, labK3, hM3, hB3, hK3, hR3⟩ := HM2.out.rowTo HB2.out (by rw [outK_self (fun c o hc => by show (0 : Nat) ≠ 2; decide)]; exact hle3) hO3
  have hS3 : M1.le (stable K3 labK3) := fun c o hc => by
    obtain ⟨a, b⟩ := hK3 c o hc (by show ¬ (0 : Nat) = 2; decide)
    unfold stable
    rw [if_pos (show labK3 c = 0 from b)]
    exact a
  have hbf3 := hle3 _ _ hbf2
  have HM3 := Lib.hid hM3
  have HB3 := Lib.hid hB3
  have HS3 := Lib.hid hS3
  have HR3 := Lib.hid hR3
  have HLE1 := Lib.hid hle1
  clear hO3 hM3 hB3 hK3 hR3 hS3 hbf2 hle3 hbh hnh HM2 HB2 hle1
  go_upto_region 6 with (first
    | (with_reducible show wpList _ _ _ ({ dst := _, op := Op.load 3 _, type := _, pos := _, after := _, guard := _ } :: _) _ _; refine wpList_load1_has h rfl 3 _ rfl rfl hbf3 r1 Try.underlying3 rfl ?_))
  clear MB
  obtain ⟨M4, hbx, hle4, hbb, hnb⟩ := h.box (.cells ((List.range T).map fun _ => Value.bool false).toArray 4)
  generalize w.alloc _ = wx at hbx ⊢
  generalize w.heap.size = bb at hbb hnb ⊢
  clear h
  try clear w
  have h := hbx
  clear hbx
  obtain ⟨w, rfl⟩ : ∃ x : World, x = wx := ⟨_, rfl⟩
  have hO4 : Own (outK K3 M3 labK3 3) M4 4 1 (.slice (some ⟨bb, 0, none⟩) T T) T ((List.range T).map fun _ => Value.bool false) :=
    ⟨by simp, .inr ⟨bb, T, _, rfl, Mm.none_of (outK_le _ _ _ _) hnb, hbb, Nat.le_refl _, by unfold maxLen; omega, by simp, by rw [Nat.mul_one]; exact List.take_of_length_le (by simp)⟩⟩
  obtain ⟨lab4, K4, labK4, hM4, hB4, hK4, hR4⟩ := HM3.out.rowTo HB3.out (Mm.le_trans (outK_le _ _ _ _) hle4) hO4
  have hS4 := Mm.le_trans HS3.out (stable_kp hK4 (by omega))
  have hR34 := HR3.out.keep hK4 (by omega)
  have hbf4 := hle4 _ _ hbf3
  have HM4 := Lib.hid hM4
  have HB4 := Lib.hid hB4
  have HS4 := Lib.hid hS4
  have HR4 := Lib.hid hR4
  have HR34 := Lib.hid hR34
  clear hO4 hM4 hB4 hK4 hR4 hS4 hR34 hbf3 hle4 hbb hnb HM3 HB3 HS3 HR3
  go_upto_region 7 with (first
    | (with_reducible show wpList _ _ _ ({ dst := _, op := Op.load 3 _, type := _, pos := _, after := _, guard := _ } :: _) _ _; refine wpList_load1_has h rfl 3 _ rfl rfl hbf4 r0 Try.underlying3 rfl ?_))
  clear MV
  obtain ⟨M5, hbx, hle5, hbv, hnv⟩ := h.box (.cells (nils L).toArray 76)
  generalize w.alloc _ = wx at hbx ⊢
  generalize w.heap.size = bv at hbv hnv ⊢
  clear h
  try clear w
  have h := hbx
  clear hbx
  obtain ⟨w, rfl⟩ : ∃ x : World, x = wx := ⟨_, rfl⟩
  have hO5 : Own (outK K4 M4 labK4 4) M5 76 1 (.slice (some ⟨bv, 0, none⟩) L L) L (nils L) :=
    ⟨by simp [nils], .inr ⟨bv, L, _, rfl, Mm.none_of (outK_le _ _ _ _) hnv, hbv, Nat.le_refl _, by unfold maxLen; omega, by simp [nils], by rw [Nat.mul_one]; exact List.take_of_length_le (by simp [nils])⟩⟩
  obtain ⟨lab5, K5, labK5, hM5, hB5, hK5, hR5⟩ := HM4.out.rowTo HB4.out (Mm.le_trans (outK_le _ _ _ _) hle5) hO5
  have hS5 := Mm.le_trans HS4.out (stable_kp hK5 (by omega))
  have hA5 : LawC K5 labK5 T L (.slice (some ⟨bh, 0, none⟩) T T) (.slice (some ⟨bb, 0, none⟩) T T) (.slice (some ⟨bv, 0, none⟩) L L) (fun _ => .slice none 0 0) (fun _ => .slice none 0 0) (fun _ => []) (fun _ => []) (fun _ => false) :=
    ⟨HR34.out.keep hK5 (by omega), fun k hk => Row.nil _ _ _ _ _, HR4.out.keep hK5 (by omega), hR5, fun k hk => Row.nil _ _ _ _ _⟩
  have hAI : CwInv c S gens L T s.tp 0 s (fun _ => []) (fun _ => []) (fun _ => false) := CwInv.first HNU.out HC.out HG.out HN.out hM5.wsz
  obtain ⟨tp, HTP⟩ : ∃ tp, Hid (tp = s.tp) := ⟨_, rfl⟩
  obtain ⟨tlen, HTL⟩ : ∃ tl, Hid (tl = tp.length ∧ (tl : Int) = c 1) := ⟨_, Lib.hid ⟨rfl, by rw [HTP.out, hM5.tlen, HN.out.c]⟩⟩
  rw [← HTP.out] at hAI
  have HAI := Lib.hid hAI
  have HM5 := Lib.hid hM5
  have HB5 := Lib.hid hB5
  have HS5 := Lib.hid hS5
  have HA5 := Lib.hid hA5
  clear hO5 hM5 hB5 hK5 hR5 hS5 hA5 hAI hbf4 hle5 hbv hnv HM4 HB4 HS4 HR4 HR34
  go_upto_region 8 with (fail)
  go_loopw [10] (fun u wr => ∃ (i : Nat) (M : Mm) (lab : Nat → Nat) (K : Mm) (labK : Nat → Nat) (s : MachS) (fh fv : Nat → Value) (had : Nat → List Nat) (ev : Nat → List (Nat × Nat)) (emp : Nat → Bool), i ≤ n ∧ u = .int .i64 (i : Nat) ∧ Has σ M wr ∧ Mach M lab p s ∧ Base K M lab ∧ M1.le (stable K labK) ∧ LawC K labK T L (.slice (some ⟨bh, 0, none⟩) T T) (.slice (some ⟨bb, 0, none⟩) T T) (.slice (some ⟨bv, 0, none⟩) L L) fh fv had ev emp ∧ CwInv c S gens L T tp i s had ev emp) (fun u _ => n - (intOf u).toNat)
  case atStart => exact ⟨0, M5, lab5, K5, labK5, s, _, _, _, _, _, Nat.zero_le _, rfl, h, HM5.out, HB5.out, HS5.out, HA5.out, HAI.out⟩
  case round =>
    clear h w HM5 HB5 HS5 HA5 HAI HN HTP lab5 K5 labK5 M5 M4 M3 M2 lab4 lab3 lab2 K3 K4 labK3 labK4
    obtain ⟨w, rfl⟩ : ∃ x : World, x = wr := ⟨_, rfl⟩
    obtain ⟨i, M2, lab2, K2, labK2, s, fh, fv, had, ev, emp, hi, rfl, h, hM2, hB2, hS2, hA2, hAI⟩ := hrel
    have hKM := hB2.le
    have hbf2 := hKM _ _ (stable_le _ _ _ _ (hS2 _ _ hbf))
    have HM2 := Lib.hid hM2
    have HB2 := Lib.hid hB2
    have HS2 := Lib.hid hS2
    have HA2 := Lib.hid hA2
    have HAI := Lib.hid hAI
    have HKM := Lib.hid hKM
    clear hM2 hB2 hS2 hA2 hAI hKM
    by_cases hlt : i < n
    · have hrd : Rd M2 2 (.slice A n cap) n (lst.flatMap enc2) := HR.out.le (Mm.le_trans HLE1.out (Mm.le_trans HS2.out (Mm.le_trans (stable_le _ _) HKM.out)))
      obtain ⟨e, he⟩ : ∃ e, lst[i]? = some e := ⟨_, List.getElem?_eq_getElem (by rw [HL.out]; exact hlt)⟩
      obtain ⟨bl, ol, cl, csl, tl2, fzl, hle, hbl, hcl⟩ := hrd.elem (enc := enc2) (fun _ => rfl) hlt he
      obtain ⟨et, ew⟩ := e
      have e0 : csl[ol + i * 2 + 0]? = some (.int .i64 et) := hcl 0 _ rfl
      have e1 : csl[ol + i * 2 + 1]? = some (.int .i64 ew) := hcl 1 _ rfl
      rw [Nat.add_zero] at e0
      cases hle
      have hlt' : (i : Int) < (n : Int) := by omega
      have wi : IntKind.i64.wrap ((i : Int) + 1) = ((i + 1 : Nat) : Int) := by rw [show (i : Int) + 1 = ((i + 1 : Nat) : Int) by omega]; exact IntWalk.i64_in _ (by omega)
      have HLT := Lib.hid hlt
      clear hcl hrd he hlt hi
      go_upto_region 10 with (fail)
      refine wp_region_class (Has σ M2) (by kernel_rfl) (by kernel_rfl) h.drew ?_
      clear h
      repeat (first
        | go_big_quiet_skip
        | (go_big_quiet_want; first
          | (refine quiet_load_has 3 _ rfl rfl hbl e0 Try.underlying3 rfl ?_; simp only [Act.put, List.setIfInBounds_toArray, List.set_cons_zero, List.set_cons_succ]; go_big_quiet_on)
          | (refine quiet_load_has 3 _ rfl rfl hbl e1 Try.underlying3 rfl ?_; simp only [Act.put, List.setIfInBounds_toArray, List.set_cons_zero, List.set_cons_succ]; go_big_quiet_on)
          | (go_big_quiet_op; first | go_big_quiet_on | go_big_quiet_call (first | with_reducible exact fun _ => rfl))))
      refine wpQuiet_nil ?_
      try clear w
      intro w h
      clear e0 e1 hbl
      by_cases htt : 0 ≤ et ∧ et < (T : Int)
      · obtain ⟨tn, rfl⟩ : ∃ tn : Nat, et = (tn : Nat) := ⟨et.toNat, by omega⟩
        have htn : tn < T := by omega
        obtain ⟨elv, ll⟩ := levT_of HC.out HNU.out HT.out htn
        obtain ⟨a, m, g, Lf, ow, ha, hm, hA, hI⟩ := HAI.out.all
        obtain ⟨q, hq⟩ : ∃ q, tp[tn]? = some q := ⟨_, List.getElem?_eq_getElem (by have h1 := HTL.out; have h2 := HT.out; omega)⟩
        have TH := Lib.hid (fun (w : World) (h : Has σ M2 w) => mThread_yes h HM2.out (t := tn) (q := q) (by rw [hA.ttp]; exact hq))
        have LV := Lib.hid (fun (w : World) (h : Has σ M2 w) => mLevel_eq h HM2.out (tn : Int))
        rw [hA.cc, elv] at LV
        have DP := Lib.hid (cw_deep (σ := σ) HM2.out hA (by have := HT.out; omega) hq)
        obtain ⟨lv, hlv⟩ : ∃ lv, levT c tn = lv := ⟨_, rfl⟩
        rw [hlv] at ll elv LV
        have HAL := Lib.hid (⟨ha, hm, hA, hI⟩ : a ≤ i ∧ m ≤ 2 * i ∧ AbsG c tp a s g ∧ CrI S gens L T (levT c) m g Lf ow had ev emp)
        have HLV := Lib.hid hlv
        have HELV := Lib.hid elv
        have HQ := Lib.hid hq
        have HTN := Lib.hid htn
        clear ha hm hA hI hlv elv hq htt htn
        go_upto_region 14 with (first
          | (go_at_call 12; refine (TH.out _ h).mono ?_; clear h; rintro _ w ⟨rfl, h⟩)
          | (go_at_call 14; refine (LV.out _ h).mono ?_; clear h; rintro _ w ⟨rfl, h⟩))
        clear TH LV
        obtain ⟨dn, hdn⟩ : ∃ dn : Nat, (if (g.thr tn).isSome then 1 else 0) = dn := ⟨_, rfl⟩
        rw [hdn] at DP
        have HDN := Lib.hid hdn
        clear hdn
        go_upto_if 80 with (first | (go_at_call 15; refine (DP.out _ h).mono ?_; clear h; rintro _ w ⟨rfl, h⟩))
        go_cut [] from 54 to 253 (fun wx => ∃ (M3 : Mm) (lab3 : Nat → Nat) (K3 : Mm) (labK3 : Nat → Nat) (s3 : MachS) (fh3 : Nat → Value) (had3 : Nat → List Nat) (emp3 : Nat → Bool) (g3 : StG) (m3 : Nat) (ow3 : Nat → Nat → Nat × Nat) (F : StF), Has σ M3 wx ∧ Mach M3 lab3 p s3 ∧ Base K3 M3 lab3 ∧ M1.le (stable K3 labK3) ∧ LawC K3 labK3 T L (.slice (some ⟨bh, 0, none⟩) T T) (.slice (some ⟨bb, 0, none⟩) T T) (.slice (some ⟨bv, 0, none⟩) L L) fh3 fv had3 ev emp3 ∧ AbsG c tp a s3 g3 ∧ m3 ≤ m + 1 ∧ CrI S gens L T (levT c) m3 g3 Lf ow3 had3 ev emp3 ∧ g3.thr tn = some F)
        case first =>
          as_aux_lemma =>
            cases hgt : g.thr tn with
            | some F =>
              obtain rfl : dn = 1 := by rw [← HDN.out, hgt]; rfl
              have HGT := Lib.hid hgt
              clear hgt
              go_wp2
              go_meet
              case rel => exact ⟨M2, lab2, K2, labK2, s, fh, had, emp, g, m, ow, F, h, HM2.out, HB2.out, HS2.out, HA2.out, HAL.out.2.2.1, Nat.le_succ _, HAL.out.2.2.2, HGT.out⟩
            | none =>
              obtain rfl : dn = 0 := by rw [← HDN.out, hgt]; rfl
              have HGT := Lib.hid hgt
              clear hgt
              obtain ⟨curH5, hcb5, hcu5⟩ := Own.at_ HA2.out.hrow
              have hE := HA2.out.each tn HTN.out
              obtain ⟨Ah5, ch5, hfe5⟩ := hE.form
              have eH5 : curH5[tn]? = some (.slice Ah5 (had tn).length ch5) := by
                rw [← hfe5]
                exact hcu5 tn _ (by rw [List.getElem?_map, List.getElem?_range HTN.out]; rfl)
              have hbm5 := HKM.out _ _ hcb5
              have htT : (tn : Int) < (T : Int) := by have := HTN.out; omega
              obtain ⟨nh, hnh⟩ : ∃ nh, (had tn).length = nh := ⟨_, rfl⟩
              rw [hfe5] at hE
              rw [hnh] at eH5 hE
              have HNH := Lib.hid hnh
              have HCUR := Lib.hid hcb5
              have HEE := Lib.hid hE
              have hszH : tn < curH5.size := (Array.getElem?_eq_some_iff.1 eH5).1
              clear hcu5 hfe5 hnh hcb5 hE
              by_cases hw : (nh : Int) ≤ ew
              · have hw2 : decide ((nh : Int) ≤ ew) = true := decide_eq_true hw
                go_wp2_with (first
                  | (with_reducible show wpList _ _ _ ({ dst := _, op := Op.load 47 _, type := _, pos := _, after := _, guard := _ } :: _) _ _; refine wpList_load1_has h rfl 47 _ rfl rfl hbm5 eH5 Try.underlying47 rfl ?_))
                go_roundw
                case rel => exact ⟨i + 1, M2, lab2, K2, labK2, s, fh, fv, had, ev, emp, by have := HLT.out; omega, by first | rfl | go_num, h, HM2.out, HB2.out, HS2.out, HA2.out, HAI.out.mono (Nat.le_succ _)⟩
                case measure => have := HLT.out; simp [intOf]; omega
              · have hw2 : decide ((nh : Int) ≤ ew) = false := decide_eq_false hw
                by_cases hneg : ew < 0
                · have CAL := Lib.hid (fun (w : World) (h : Has σ M2 w) => cw_call (fn := 1) (u := 0) (us := []) (rv := .slice none 0 0) h HM2.out HB2.out HAL.out.2.2.1 (by have h1 := HTN.out; have h2 := HT.out; omega) HQ.out HGT.out (Rd.nil _ _ _) (.inl ⟨rfl, rfl⟩))
                  go_upto_region 18 with (first
                    | (with_reducible show wpList _ _ _ ({ dst := _, op := Op.load 47 _, type := _, pos := _, after := _, guard := _ } :: _) _ _; refine wpList_load1_has h rfl 47 _ rfl rfl hbm5 eH5 Try.underlying47 rfl ?_)
                    | ((go_at_call 13; refine (CAL.out _ h).mono ?_; clear h; rintro _ w ⟨rfl, M3, lab3, s3, h, hM3, hB3, hA3⟩)))
                  have hO := HA2.out.brow.up hB3.le
                  have hOle := outK_le K2 M3 labK2 3
                  have HM3 := Lib.hid hM3
                  have HB3 := Lib.hid hB3
                  have HA3 := Lib.hid hA3
                  clear hM3 hB3 hA3 CAL hw hw2 hneg hbm5 eH5 hszH
                  go_wp2_with (first
                    | ((with_reducible show wpList _ _ _ ({ dst := _, op := Op.store 4 _ _, type := _, pos := _, after := _, guard := _ } :: _) _ _; refine wpList_putOne h hOle hO rfl 4 _ _ rfl rfl (k := tn) rfl HTN.out (u := .bool false) rfl rfl (by kernel_rfl) ?_; clear h hOle hO; intro w M4 h hle4 hown4)))
                  obtain ⟨lab4, K4, labK4, hM4, hB4, hK4, hR4⟩ := HM3.out.rowTo HB3.out hle4 hown4
                  go_meet
                  case rel => exact ⟨M4, lab4, K4, labK4, s3, fh, had, put1 emp tn false, g.go tn ⟨1, 0, 0, 0, 0⟩, m + 1, ow, ⟨1, 0, 0, 0, 0⟩, h, hM4, hB4, Mm.le_trans HS2.out (stable_kp hK4 (by omega)), HA2.out.setB hT8.2 hK4 hR4, HA3.out, Nat.le_refl _, HAL.out.2.2.2.take HGT.out, thr_go _ _ _⟩
                · obtain ⟨wn, rfl⟩ : ∃ wn : Nat, ew = (wn : Nat) := ⟨ew.toNat, by omega⟩
                  have hwn : wn < nh := by omega
                  have hneg' : ¬ (wn : Int) < 0 := by omega
                  have hE := HEE.out
                  obtain ⟨gh, cgh, hce⟩ := Own.pos hE (by omega)
                  cases hce
                  obtain ⟨curE, hgE, hcE⟩ := Own.at_ hE
                  obtain ⟨x, hxq⟩ : ∃ x, (had tn)[wn]? = some x := ⟨_, List.getElem?_eq_getElem (by rw [HNH.out]; exact hwn)⟩
                  have ex : curE[wn]? = some (.int .i64 (x : Nat)) := hcE wn _ (natv_get hxq)
                  have hgE5 := HKM.out _ _ hgE
                  have HXQ := Lib.hid hxq
                  have hwn' : (wn : Int) < (nh : Int) := by omega
                  have hHad := HAL.out.2.2.2.inv.had tn
                  obtain ⟨x1, x2, _⟩ := hHad.all x (List.mem_of_getElem? hxq)
                  have hS60 := HNU.out.s0.2
                  have wx : IntKind.u64.wrap (x : Int) = (x : Int) := IntWalk.u64_in _ (by omega)
                  have hn60h : nh ≤ 60 := by
                    have h1 := nodup_le (S := S) hHad.nodup fun x hx => ⟨(hHad.all x hx).1, (hHad.all x hx).2.1⟩
                    rw [HNH.out] at h1
                    omega
                  have CAL2 : Hid (∀ w, Has σ M2 w → Calls Try.prog 13 #[.pointer (some ⟨q, 0, none⟩), .int .i64 2, .slice (some ⟨w.heap.size, 0, none⟩) 1 1] (w.alloc (.cells #[.int .u64 (x : Nat)] 40)) fun r w' => r = .returned (.tuple #[]) ∧ ∃ M' lab' s', Has σ M' w' ∧ Mach M' lab' p s' ∧ Base K2 M' lab' ∧ AbsG c tp a s' (g.go tn ⟨2, 0, x, 0, 0⟩)) := Lib.hid fun w h => by
                    obtain ⟨M8, h8, hle8, hb8, hn8⟩ := h.box (.cells #[.int .u64 (x : Nat)] 40)
                    refine cw_call (fn := 2) (u := x) (us := [(x : Int)]) (rv := .slice (some ⟨w.heap.size, 0, none⟩) 1 1) h8 (HM2.out.keep (Kp.le hle8 fun _ => 0) fun _ _ h => h) (HB2.out.keep (Kp.le hle8 fun _ => 0) fun h => h) HAL.out.2.2.1 (by have h1 := HTN.out; have h2 := HT.out; omega) HQ.out HGT.out ?_ (.inr rfl)
                    exact ⟨rfl, some ⟨w.heap.size, 0, none⟩, 1, rfl, Nat.le_refl _, fun _ => ⟨w.heap.size, 0, _, _, _, rfl, hb8, fun j y hy => by rw [Nat.zero_add]; simpa [u64s] using hy⟩⟩
                  clear hw hw2 hneg hcE hgE hxq hE hHad x1 x2
                  go_upto_region 20 with (first
                    | (with_reducible show wpList _ _ _ ({ dst := _, op := Op.load 47 _, type := _, pos := _, after := _, guard := _ } :: _) _ _; refine wpList_load1_has h rfl 47 _ rfl rfl hbm5 eH5 Try.underlying47 rfl ?_)
                    | (with_reducible show wpList _ _ _ ({ dst := _, op := Op.load 3 _, type := _, pos := _, after := _, guard := _ } :: _) _ _; refine wpList_load1_has h rfl 3 _ rfl rfl hgE5 ex Try.underlying3 rfl ?_)
                    | ((go_at_call 13; refine (CAL2.out _ h).mono ?_; clear h; rintro _ w ⟨rfl, M3, lab3, s3, h, hM3, hB3, hA3⟩)))
                  clear ex hgE5 hneg' hbm5 CAL2 wx
                  have hbm5 := hB3.le _ _ HCUR.out
                  have hrdE : Rd M3 1 (.slice (some ⟨gh, 0, none⟩) nh ch5) nh (natv (had tn)) := HEE.out.rd.le hB3.le
                  have hr1 : Rd M3 1 (.slice (some ⟨gh, 0, none⟩) wn ch5) wn ((natv (had tn)).take wn) := by
                    have := hrdE.upto (k := wn) (by omega)
                    simpa [sliced, Addr.add_mid] using this
                  have hr2 : Rd M3 1 (.slice (if ch5 = wn + 1 then some ⟨gh, 0, none⟩ else some ⟨gh, wn + 1, none⟩) (nh - (wn + 1)) (ch5 - (wn + 1))) (nh - (wn + 1)) ((natv (had tn)).drop (wn + 1)) := by
                    have := hrdE.from_ (l := wn + 1) (by omega)
                    simpa [sliced, Addr.add_mid] using this
                  have one1 : ∀ v ∈ (natv (had tn)).take wn, v.oneCell' = true := fun v hv => natv_one _ v (List.mem_of_mem_take hv)
                  have one2 : ∀ v ∈ (natv (had tn)).drop (wn + 1), v.oneCell' = true := fun v hv => natv_one _ v (List.mem_of_mem_drop hv)
                  have hch : nh ≤ ch5 := by obtain ⟨_, A', c', e, hc, _⟩ := hrdE; cases e; exact hc
                  have hKS : (outK K2 M3 labK2 2).le M3 := outK_le _ _ _ _
                  have hKbh : outK K2 M3 labK2 2 bh = none := by
                    obtain ⟨_, ⟨hv, _⟩ | ⟨g', cap', cur', hv, hg', _⟩⟩ := HA2.out.hrow.up hB3.le
                    · cases hv
                    · cases hv; exact hg'
                  generalize outK K2 M3 labK2 2 = KS at hKS hKbh
                  have wq1 : IntKind.i64.wrap ((wn : Int) + 1) = ((wn + 1 : Nat) : Int) := by rw [show (wn : Int) + 1 = ((wn + 1 : Nat) : Int) by omega]; exact IntWalk.i64_in _ (by omega)
                  have s1 : (0 : Int) ≤ (wn : Int) ∧ (wn : Int) ≤ (ch5 : Int) := by omega
                  have s2 : ((wn + 1 : Nat) : Int) ≤ (nh : Int) := by omega
                  have s4 : 0 ≤ (wn : Int) + 1 ∧ (wn : Int) + 1 ≤ (nh : Int) := by omega
                  have HXS := Lib.hid (natv_erase (had tn) wn)
                  have HM3 := Lib.hid hM3
                  have HB3 := Lib.hid hB3
                  have HA3 := Lib.hid hA3
                  clear hrdE hM3 hB3 hA3
                  generalize (natv (had tn)).take wn = xs1 at *
                  generalize (natv (had tn)).drop (wn + 1) = xs2 at *
                  go_cut [106] from 54 to 253 (fun _ wx => ∃ (M5 : Mm) (v : Value), M3.le M5 ∧ Own M3 M5 3 1 v (nh - 1) (xs1 ++ xs2) ∧ Has σ (M5.upd bh (.cells (curH5.setIfInBounds tn v) 47)) wx)
                  case first =>
                    -- C20
                    as_aux_lemma =>
                      refine wp_region_held_drew (S := Has σ (KS)) (by kernel_rfl) (h.drew.le hKS) (fun hHeld => ?_)
                      refine wpAnyH_take (i := 0) (v := ?_) rfl (by kernel_rfl) (by kernel_rfl) (by kernel_rfl) (fun _ _ _ h => h) (Or.inl ⟨by rfl, ?_⟩) hHeld ?_
                      rotate_left
                      · (intro wz _; go_simp; try with_reducible rfl)
                      try simp only [List.getElem_toArray, List.getElem_cons_succ, List.getElem_cons_zero, Act.put, List.setIfInBounds_toArray, List.set_cons_zero, List.set_cons_succ]
                      refine wpAnyH_take (i := 1) (v := ?_) rfl (by kernel_rfl) (by kernel_rfl) (by kernel_rfl) (fun _ _ _ h => h) (Or.inl ⟨by rfl, ?_⟩) hHeld ?_
                      rotate_left
                      · (intro wz _; go_simp; try with_reducible rfl)
                      try simp only [List.getElem_toArray, List.getElem_cons_succ, List.getElem_cons_zero, Act.put, List.setIfInBounds_toArray, List.set_cons_zero, List.set_cons_succ]
                      refine wpAnyH_take (i := 3) (v := ?_) rfl (by kernel_rfl) (by kernel_rfl) (by kernel_rfl) (fun _ _ _ h => h) (Or.inl ⟨by rfl, ?_⟩) hHeld ?_
                      rotate_left
                      · (intro wz _; go_simp; try with_reducible rfl)
                      try simp only [List.getElem_toArray, List.getElem_cons_succ, List.getElem_cons_zero, Act.put, List.setIfInBounds_toArray, List.set_cons_zero, List.set_cons_succ]
                      refine wpAnyH_take (i := 4) (v := ?_) rfl (by kernel_rfl) (by kernel_rfl) (by kernel_rfl) (fun _ _ _ h => h) (Or.inl ⟨by rfl, ?_⟩) hHeld ?_
                      rotate_left
                      · (intro wz _; go_simp; try with_reducible rfl)
                      try simp only [List.getElem_toArray, List.getElem_cons_succ, List.getElem_cons_zero, Act.put, List.setIfInBounds_toArray, List.set_cons_zero, List.set_cons_succ]
                      refine wpAnyH_take (i := 5) (v := ?_) rfl (by kernel_rfl) (by kernel_rfl) (by kernel_rfl) (fun _ _ _ h => h) (Or.inl ⟨by rfl, ?_⟩) hHeld ?_
                      rotate_left
                      · (intro wz _; go_simp; try with_reducible rfl)
                      try simp only [List.getElem_toArray, List.getElem_cons_succ, List.getElem_cons_zero, Act.put, List.setIfInBounds_toArray, List.set_cons_zero, List.set_cons_succ]
                      refine wpAnyH_take (i := 7) (v := ?_) rfl (by kernel_rfl) (by kernel_rfl) (by kernel_rfl) (fun _ _ _ h => h) (Or.inl ⟨by rfl, ?_⟩) hHeld ?_
                      rotate_left
                      · (intro wz _; go_simp; try with_reducible rfl)
                      try simp only [List.getElem_toArray, List.getElem_cons_succ, List.getElem_cons_zero, Act.put, List.setIfInBounds_toArray, List.set_cons_zero, List.set_cons_succ]
                      refine wpAnyH_take (i := 10) (v := ?_) rfl (by kernel_rfl) (by kernel_rfl) (by kernel_rfl) (fun _ _ _ h => h) (Or.inl ⟨by rfl, ?_⟩) hHeld ?_
                      rotate_left
                      · (intro wz _; go_simp; try with_reducible rfl)
                      try simp only [List.getElem_toArray, List.getElem_cons_succ, List.getElem_cons_zero, Act.put, List.setIfInBounds_toArray, List.set_cons_zero, List.set_cons_succ]
                      refine wpAnyH_take (i := 11) (v := ?_) rfl (by kernel_rfl) (by kernel_rfl) (by kernel_rfl) (fun _ _ _ h => h) (Or.inl ⟨by rfl, ?_⟩) hHeld ?_
                      rotate_left
                      · (intro wz _; go_simp; try with_reducible rfl)
                      try simp only [List.getElem_toArray, List.getElem_cons_succ, List.getElem_cons_zero, Act.put, List.setIfInBounds_toArray, List.set_cons_zero, List.set_cons_succ]
                      refine wpAnyH_take (i := 12) (v := ?_) rfl (by kernel_rfl) (by kernel_rfl) (by kernel_rfl) (fun _ _ _ h => h) (Or.inl ⟨by rfl, ?_⟩) hHeld ?_
                      rotate_left
                      · (intro wz _; go_simp; try with_reducible rfl)
                      try simp only [List.getElem_toArray, List.getElem_cons_succ, List.getElem_cons_zero, Act.put, List.setIfInBounds_toArray, List.set_cons_zero, List.set_cons_succ]
                      refine wpAnyH_take (i := 14) (v := ?_) rfl (by kernel_rfl) (by kernel_rfl) (by kernel_rfl) (fun _ _ _ h => h) (Or.inl ⟨by rfl, ?_⟩) hHeld ?_
                      rotate_left
                      · (intro wz _; go_simp; try with_reducible rfl)
                      try simp only [List.getElem_toArray, List.getElem_cons_succ, List.getElem_cons_zero, Act.put, List.setIfInBounds_toArray, List.set_cons_zero, List.set_cons_succ]
                      refine wpAnyH_take (i := 15) (v := ?_) rfl (by kernel_rfl) (by kernel_rfl) (by kernel_rfl) (fun _ _ _ h => h) (Or.inl ⟨by rfl, ?_⟩) hHeld ?_
                      rotate_left
                      · (intro wz _; go_simp; try with_reducible rfl)
                      try simp only [List.getElem_toArray, List.getElem_cons_succ, List.getElem_cons_zero, Act.put, List.setIfInBounds_toArray, List.set_cons_zero, List.set_cons_succ]
                      replace h := h.drew
                      generalize w.drew = wq at h hHeld ⊢
                      obtain ⟨w, rfl⟩ : ∃ q : World, q = wq := ⟨_, rfl⟩
                      have hbmC := hbm5
                      refine wpAnyH_ready (rs := [2, 6, 13]) (by kernel_rfl) (by simp) ?_
                      refine AllReadyH.cons rfl (fun K hK => ?_) (AllReadyH.cons rfl (fun K hK => ?_) (AllReadyH.cons rfl (fun K hK => ?_) AllReadyH.nil))
                      · skip
                        go_simp
                        refine hK.out _ _ ((h.quietAlloc _).le hKS) (fun hHeld => ?_)
                        clear hK K
                        try simp only [Act.put, List.setIfInBounds_toArray, List.set_cons_zero, List.set_cons_succ]
                        clear hHeld
                        obtain ⟨Mn, hbx, hlen, hb2, hn2⟩ := h.box (.cells #[] 3)
                        generalize w.alloc _ = wx at hbx ⊢
                        generalize w.heap.size = b2 at hb2 hn2 ⊢
                        clear h
                        try clear w
                        have h := hbx
                        clear hbx
                        obtain ⟨w, rfl⟩ : ∃ x : World, x = wx := ⟨_, rfl⟩
                        have hHeld := h.le (Mm.le_trans hKS hlen)
                        replace hbmC := hlen _ _ hbm5
                        have hown1 : Own M3 Mn 3 1 (.slice (some ⟨b2, 0, none⟩) 0 0) 0 [] := ⟨rfl, .inr ⟨b2, 0, #[], rfl, hn2, hb2, Nat.le_refl _, by unfold maxLen; omega, rfl, rfl⟩⟩
                        refine wpAnyH_ready (rs := [6, 13]) (by kernel_rfl) (by simp) ?_
                        refine AllReadyH.cons rfl (fun K hK => ?_) (AllReadyH.cons rfl (fun K hK => ?_) AllReadyH.nil)
                        · skip
                          refine step_yields rfl (yields_load1 rfl 47 _ rfl rfl hbmC eH5 Try.underlying47 rfl) h ?_
                          refine hK.out _ _ hHeld (fun hHeld => ?_)
                          clear hK K
                          simp only [Act.put, List.setIfInBounds_toArray, List.set_cons_zero, List.set_cons_succ]
                          refine wpAnyH_take (i := 8) (v := ?_) rfl (by kernel_rfl) (by kernel_rfl) (by kernel_rfl) (fun _ _ _ h => h) (Or.inl ⟨by rfl, ?_⟩) hHeld ?_
                          rotate_left
                          · (intro wz _; go_simp; try with_reducible rfl)
                          try simp only [List.getElem_toArray, List.getElem_cons_succ, List.getElem_cons_zero, Act.put, List.setIfInBounds_toArray, List.set_cons_zero, List.set_cons_succ]
                          refine wpAnyH_ready (rs := [9, 13]) (by kernel_rfl) (by simp) ?_
                          refine AllReadyH.cons rfl (fun K hK => ?_) (AllReadyH.cons rfl (fun K hK => ?_) AllReadyH.nil)
                          · skip
                            refine step_append_rd (M0 := M3) h hlen rfl _ _ 47 rfl Try.underlying47 info_int rfl (by omega) rfl hown1 rfl (hr1.le hlen) one1 (by omega) (by omega) ?_
                            clear h hHeld hown1 hb2 hn2 hbmC hlen
                            intro v4 w hacc4
                            obtain ⟨M4, h, hle4, hown4⟩ := hacc4
                            rw [Nat.zero_add, List.nil_append] at hown4
                            refine hK.out _ _ (h.le (Mm.le_trans hKS hle4)) (fun hHeld => ?_)
                            clear hK K
                            simp only [Act.put, List.setIfInBounds_toArray, List.set_cons_zero, List.set_cons_succ]
                            have hbmC := hle4 _ _ hbm5
                            refine wpAnyH_ready (rs := [13]) (by kernel_rfl) (by simp) ?_
                            refine AllReadyH.cons rfl (fun K hK => ?_) AllReadyH.nil
                            refine step_yields rfl (yields_load1 rfl 47 _ rfl rfl hbmC eH5 Try.underlying47 rfl) h ?_
                            refine hK.out _ _ hHeld (fun hHeld => ?_)
                            clear hK K
                            simp only [Act.put, List.setIfInBounds_toArray, List.set_cons_zero, List.set_cons_succ]
                            refine wpAnyH_take (i := 16) (v := ?_) rfl (by kernel_rfl) (by kernel_rfl) (by kernel_rfl) (fun _ _ _ h => h) (Or.inl ⟨by rfl, ?_⟩) hHeld ?_
                            rotate_left
                            · (intro wz _; go_simp; try with_reducible rfl)
                            try simp only [List.getElem_toArray, List.getElem_cons_succ, List.getElem_cons_zero, Act.put, List.setIfInBounds_toArray, List.set_cons_zero, List.set_cons_succ]
                            refine wpAnyH_ready (rs := [17]) (by kernel_rfl) (by simp) ?_
                            refine AllReadyH.cons rfl (fun K hK => ?_) AllReadyH.nil
                            refine step_append_rd (M0 := M3) h hle4 rfl _ _ 47 rfl Try.underlying47 info_int rfl (by omega) rfl hown4 rfl (hr2.le hle4) one2 (by omega) (by omega) ?_
                            clear h hHeld hown4 hbmC hle4
                            intro v6 w hacc6
                            obtain ⟨M6, h, hle6, hown6⟩ := hacc6
                            rw [show wn + (nh - (wn + 1)) = nh - 1 by omega] at hown6
                            obtain ⟨A6, c6, rfl⟩ := hown6.form
                            refine hK.out _ _ (h.le (Mm.le_trans hKS hle6)) (fun hHeld => ?_)
                            clear hK K
                            simp only [Act.put, List.setIfInBounds_toArray, List.set_cons_zero, List.set_cons_succ]
                            have hbmC := hle6 _ _ hbm5
                            refine wpAnyH_take (i := 18) (v := ?_) rfl (by kernel_rfl) (by kernel_rfl) (by kernel_rfl) (fun _ _ _ h => h) (Or.inl ⟨by rfl, ?_⟩) hHeld ?_
                            rotate_left
                            · (intro wz _; go_simp; try with_reducible rfl)
                            try simp only [List.getElem_toArray, List.getElem_cons_succ, List.getElem_cons_zero, Act.put, List.setIfInBounds_toArray, List.set_cons_zero, List.set_cons_succ]
                            refine wpAnyH_ready (rs := [19]) (by kernel_rfl) (by simp) ?_
                            refine AllReadyH.cons rfl (fun K hK => ?_) AllReadyH.nil
                            refine step_store1 h rfl 47 _ _ rfl rfl rfl hbmC hszH rfl rfl (by kernel_rfl) ?_
                            clear h hHeld
                            intro w h
                            refine hK.out _ _ (h.le (Mm.le_upd (Mm.le_trans hKS hle6) hKbh _)) (fun hHeld => ?_)
                            clear hK K
                            refine wpAnyH_done (by kernel_rfl) ?_ _
                            have hEnd := h
                            go_wp2
                            all_goals (go_meet; (case rel => exact ⟨M6, _, hle6, hown6, hEnd⟩))
                          · skip
                            refine step_yields rfl (yields_load1 rfl 47 _ rfl rfl hbmC eH5 Try.underlying47 rfl) h ?_
                            refine hK.out _ _ hHeld (fun hHeld => ?_)
                            clear hK K
                            simp only [Act.put, List.setIfInBounds_toArray, List.set_cons_zero, List.set_cons_succ]
                            refine wpAnyH_take (i := 16) (v := ?_) rfl (by kernel_rfl) (by kernel_rfl) (by kernel_rfl) (fun _ _ _ h => h) (Or.inl ⟨by rfl, ?_⟩) hHeld ?_
                            rotate_left
                            · (intro wz _; go_simp; try with_reducible rfl)
                            try simp only [List.getElem_toArray, List.getElem_cons_succ, List.getElem_cons_zero, Act.put, List.setIfInBounds_toArray, List.set_cons_zero, List.set_cons_succ]
                            refine wpAnyH_ready (rs := [9]) (by kernel_rfl) (by simp) ?_
                            refine AllReadyH.cons rfl (fun K hK => ?_) AllReadyH.nil
                            refine step_append_rd (M0 := M3) h hlen rfl _ _ 47 rfl Try.underlying47 info_int rfl (by omega) rfl hown1 rfl (hr1.le hlen) one1 (by omega) (by omega) ?_
                            clear h hHeld hown1 hb2 hn2 hbmC hlen
                            intro v4 w hacc4
                            obtain ⟨M4, h, hle4, hown4⟩ := hacc4
                            rw [Nat.zero_add, List.nil_append] at hown4
                            refine hK.out _ _ (h.le (Mm.le_trans hKS hle4)) (fun hHeld => ?_)
                            clear hK K
                            simp only [Act.put, List.setIfInBounds_toArray, List.set_cons_zero, List.set_cons_succ]
                            have hbmC := hle4 _ _ hbm5
                            refine wpAnyH_ready (rs := [17]) (by kernel_rfl) (by simp) ?_
                            refine AllReadyH.cons rfl (fun K hK => ?_) AllReadyH.nil
                            refine step_append_rd (M0 := M3) h hle4 rfl _ _ 47 rfl Try.underlying47 info_int rfl (by omega) rfl hown4 rfl (hr2.le hle4) one2 (by omega) (by omega) ?_
                            clear h hHeld hown4 hbmC hle4
                            intro v6 w hacc6
                            obtain ⟨M6, h, hle6, hown6⟩ := hacc6
                            rw [show wn + (nh - (wn + 1)) = nh - 1 by omega] at hown6
                            obtain ⟨A6, c6, rfl⟩ := hown6.form
                            refine hK.out _ _ (h.le (Mm.le_trans hKS hle6)) (fun hHeld => ?_)
                            clear hK K
                            simp only [Act.put, List.setIfInBounds_toArray, List.set_cons_zero, List.set_cons_succ]
                            have hbmC := hle6 _ _ hbm5
                            refine wpAnyH_take (i := 18) (v := ?_) rfl (by kernel_rfl) (by kernel_rfl) (by kernel_rfl) (fun _ _ _ h => h) (Or.inl ⟨by rfl, ?_⟩) hHeld ?_
                            rotate_left
                            · (intro wz _; go_simp; try with_reducible rfl)
                            try simp only [List.getElem_toArray, List.getElem_cons_succ, List.getElem_cons_zero, Act.put, List.setIfInBounds_toArray, List.set_cons_zero, List.set_cons_succ]
                            refine wpAnyH_ready (rs := [19]) (by kernel_rfl) (by simp) ?_
                            refine AllReadyH.cons rfl (fun K hK => ?_) AllReadyH.nil
                            refine step_store1 h rfl 47 _ _ rfl rfl rfl hbmC hszH rfl rfl (by kernel_rfl) ?_
                            clear h hHeld
                            intro w h
                            refine hK.out _ _ (h.le (Mm.le_upd (Mm.le_trans hKS hle6) hKbh _)) (fun hHeld => ?_)
                            clear hK K
                            refine wpAnyH_done (by kernel_rfl) ?_ _
                            have hEnd := h
                            go_wp2
                            all_goals (go_meet; (case rel => exact ⟨M6, _, hle6, hown6, hEnd⟩))
                        · skip
                          refine step_yields rfl (yields_load1 rfl 47 _ rfl rfl hbmC eH5 Try.underlying47 rfl) h ?_
                          refine hK.out _ _ hHeld (fun hHeld => ?_)
                          clear hK K
                          simp only [Act.put, List.setIfInBounds_toArray, List.set_cons_zero, List.set_cons_succ]
                          refine wpAnyH_take (i := 16) (v := ?_) rfl (by kernel_rfl) (by kernel_rfl) (by kernel_rfl) (fun _ _ _ h => h) (Or.inl ⟨by rfl, ?_⟩) hHeld ?_
                          rotate_left
                          · (intro wz _; go_simp; try with_reducible rfl)
                          try simp only [List.getElem_toArray, List.getElem_cons_succ, List.getElem_cons_zero, Act.put, List.setIfInBounds_toArray, List.set_cons_zero, List.set_cons_succ]
                          refine wpAnyH_ready (rs := [6]) (by kernel_rfl) (by simp) ?_
                          refine AllReadyH.cons rfl (fun K hK => ?_) AllReadyH.nil
                          refine step_yields rfl (yields_load1 rfl 47 _ rfl rfl hbmC eH5 Try.underlying47 rfl) h ?_
                          refine hK.out _ _ hHeld (fun hHeld => ?_)
                          clear hK K
                          simp only [Act.put, List.setIfInBounds_toArray, List.set_cons_zero, List.set_cons_succ]
                          refine wpAnyH_take (i := 8) (v := ?_) rfl (by kernel_rfl) (by kernel_rfl) (by kernel_rfl) (fun _ _ _ h => h) (Or.inl ⟨by rfl, ?_⟩) hHeld ?_
                          rotate_left
                          · (intro wz _; go_simp; try with_reducible rfl)
                          try simp only [List.getElem_toArray, List.getElem_cons_succ, List.getElem_cons_zero, Act.put, List.setIfInBounds_toArray, List.set_cons_zero, List.set_cons_succ]
                          refine wpAnyH_ready (rs := [9]) (by kernel_rfl) (by simp) ?_
                          refine AllReadyH.cons rfl (fun K hK => ?_) AllReadyH.nil
                          refine step_append_rd (M0 := M3) h hlen rfl _ _ 47 rfl Try.underlying47 info_int rfl (by omega) rfl hown1 rfl (hr1.le hlen) one1 (by omega) (by omega) ?_
                          clear h hHeld hown1 hb2 hn2 hbmC hlen
                          intro v4 w hacc4
                          obtain ⟨M4, h, hle4, hown4⟩ := hacc4
                          rw [Nat.zero_add, List.nil_append] at hown4
                          refine hK.out _ _ (h.le (Mm.le_trans hKS hle4)) (fun hHeld => ?_)
                          clear hK K
                          simp only [Act.put, List.setIfInBounds_toArray, List.set_cons_zero, List.set_cons_succ]
                          have hbmC := hle4 _ _ hbm5
                          refine wpAnyH_ready (rs := [17]) (by kernel_rfl) (by simp) ?_
                          refine AllReadyH.cons rfl (fun K hK => ?_) AllReadyH.nil
                          refine step_append_rd (M0 := M3) h hle4 rfl _ _ 47 rfl Try.underlying47 info_int rfl (by omega) rfl hown4 rfl (hr2.le hle4) one2 (by omega) (by omega) ?_
                          clear h hHeld hown4 hbmC hle4
                          intro v6 w hacc6
                          obtain ⟨M6, h, hle6, hown6⟩ := hacc6
                          rw [show wn + (nh - (wn + 1)) = nh - 1 by omega] at hown6
                          obtain ⟨A6, c6, rfl⟩ := hown6.form
                          refine hK.out _ _ (h.le (Mm.le_trans hKS hle6)) (fun hHeld => ?_)
                          clear hK K
                          simp only [Act.put, List.setIfInBounds_toArray, List.set_cons_zero, List.set_cons_succ]
                          have hbmC := hle6 _ _ hbm5
                          refine wpAnyH_take (i := 18) (v := ?_) rfl (by kernel_rfl) (by kernel_rfl) (by kernel_rfl) (fun _ _ _ h => h) (Or.inl ⟨by rfl, ?_⟩) hHeld ?_
                          rotate_left
                          · (intro wz _; go_simp; try with_reducible rfl)
                          try simp only [List.getElem_toArray, List.getElem_cons_succ, List.getElem_cons_zero, Act.put, List.setIfInBounds_toArray, List.set_cons_zero, List.set_cons_succ]
                          refine wpAnyH_ready (rs := [19]) (by kernel_rfl) (by simp) ?_
                          refine AllReadyH.cons rfl (fun K hK => ?_) AllReadyH.nil
                          refine step_store1 h rfl 47 _ _ rfl rfl rfl hbmC hszH rfl rfl (by kernel_rfl) ?_
                          clear h hHeld
                          intro w h
                          refine hK.out _ _ (h.le (Mm.le_upd (Mm.le_trans hKS hle6) hKbh _)) (fun hHeld => ?_)
                          clear hK K
                          refine wpAnyH_done (by kernel_rfl) ?_ _
                          have hEnd := h
                          go_wp2
                          all_goals (go_meet; (case rel => exact ⟨M6, _, hle6, hown6, hEnd⟩))
                      · skip
                        refine step_yields rfl (yields_load1 rfl 47 _ rfl rfl hbmC eH5 Try.underlying47 rfl) h ?_
                        refine hK.out _ _ hHeld (fun hHeld => ?_)
                        clear hK K
                        simp only [Act.put, List.setIfInBounds_toArray, List.set_cons_zero, List.set_cons_succ]
                        refine wpAnyH_take (i := 8) (v := ?_) rfl (by kernel_rfl) (by kernel_rfl) (by kernel_rfl) (fun _ _ _ h => h) (Or.inl ⟨by rfl, ?_⟩) hHeld ?_
                        rotate_left
                        · (intro wz _; go_simp; try with_reducible rfl)
                        try simp only [List.getElem_toArray, List.getElem_cons_succ, List.getElem_cons_zero, Act.put, List.setIfInBounds_toArray, List.set_cons_zero, List.set_cons_succ]
                        refine wpAnyH_ready (rs := [2, 13]) (by kernel_rfl) (by simp) ?_
                        refine AllReadyH.cons rfl (fun K hK => ?_) (AllReadyH.cons rfl (fun K hK => ?_) AllReadyH.nil)
                        · skip
                          go_simp
                          refine hK.out _ _ ((h.quietAlloc _).le hKS) (fun hHeld => ?_)
                          clear hK K
                          try simp only [Act.put, List.setIfInBounds_toArray, List.set_cons_zero, List.set_cons_succ]
                          clear hHeld
                          obtain ⟨Mn, hbx, hlen, hb2, hn2⟩ := h.box (.cells #[] 3)
                          generalize w.alloc _ = wx at hbx ⊢
                          generalize w.heap.size = b2 at hb2 hn2 ⊢
                          clear h
                          try clear w
                          have h := hbx
                          clear hbx
                          obtain ⟨w, rfl⟩ : ∃ x : World, x = wx := ⟨_, rfl⟩
                          have hHeld := h.le (Mm.le_trans hKS hlen)
                          replace hbmC := hlen _ _ hbm5
                          have hown1 : Own M3 Mn 3 1 (.slice (some ⟨b2, 0, none⟩) 0 0) 0 [] := ⟨rfl, .inr ⟨b2, 0, #[], rfl, hn2, hb2, Nat.le_refl _, by unfold maxLen; omega, rfl, rfl⟩⟩
                          refine wpAnyH_ready (rs := [9, 13]) (by kernel_rfl) (by simp) ?_
                          refine AllReadyH.cons rfl (fun K hK => ?_) (AllReadyH.cons rfl (fun K hK => ?_) AllReadyH.nil)
                          · skip
                            refine step_append_rd (M0 := M3) h hlen rfl _ _ 47 rfl Try.underlying47 info_int rfl (by omega) rfl hown1 rfl (hr1.le hlen) one1 (by omega) (by omega) ?_
                            clear h hHeld hown1 hb2 hn2 hbmC hlen
                            intro v4 w hacc4
                            obtain ⟨M4, h, hle4, hown4⟩ := hacc4
                            rw [Nat.zero_add, List.nil_append] at hown4
                            refine hK.out _ _ (h.le (Mm.le_trans hKS hle4)) (fun hHeld => ?_)
                            clear hK K
                            simp only [Act.put, List.setIfInBounds_toArray, List.set_cons_zero, List.set_cons_succ]
                            have hbmC := hle4 _ _ hbm5
                            refine wpAnyH_ready (rs := [13]) (by kernel_rfl) (by simp) ?_
                            refine AllReadyH.cons rfl (fun K hK => ?_) AllReadyH.nil
                            refine step_yields rfl (yields_load1 rfl 47 _ rfl rfl hbmC eH5 Try.underlying47 rfl) h ?_
                            refine hK.out _ _ hHeld (fun hHeld => ?_)
                            clear hK K
                            simp only [Act.put, List.setIfInBounds_toArray, List.set_cons_zero, List.set_cons_succ]
                            refine wpAnyH_take (i := 16) (v := ?_) rfl (by kernel_rfl) (by kernel_rfl) (by kernel_rfl) (fun _ _ _ h => h) (Or.inl ⟨by rfl, ?_⟩) hHeld ?_
                            rotate_left
                            · (intro wz _; go_simp; try with_reducible rfl)
                            try simp only [List.getElem_toArray, List.getElem_cons_succ, List.getElem_cons_zero, Act.put, List.setIfInBounds_toArray, List.set_cons_zero, List.set_cons_succ]
                            refine wpAnyH_ready (rs := [17]) (by kernel_rfl) (by simp) ?_
                            refine AllReadyH.cons rfl (fun K hK => ?_) AllReadyH.nil
                            refine step_append_rd (M0 := M3) h hle4 rfl _ _ 47 rfl Try.underlying47 info_int rfl (by omega) rfl hown4 rfl (hr2.le hle4) one2 (by omega) (by omega) ?_
                            clear h hHeld hown4 hbmC hle4
                            intro v6 w hacc6
                            obtain ⟨M6, h, hle6, hown6⟩ := hacc6
                            rw [show wn + (nh - (wn + 1)) = nh - 1 by omega] at hown6
                            obtain ⟨A6, c6, rfl⟩ := hown6.form
                            refine hK.out _ _ (h.le (Mm.le_trans hKS hle6)) (fun hHeld => ?_)
                            clear hK K
                            simp only [Act.put, List.setIfInBounds_toArray, List.set_cons_zero, List.set_cons_succ]
                            have hbmC := hle6 _ _ hbm5
                            refine wpAnyH_take (i := 18) (v := ?_) rfl (by kernel_rfl) (by kernel_rfl) (by kernel_rfl) (fun _ _ _ h => h) (Or.inl ⟨by rfl, ?_⟩) hHeld ?_
                            rotate_left
                            · (intro wz _; go_simp; try with_reducible rfl)
                            try simp only [List.getElem_toArray, List.getElem_cons_succ, List.getElem_cons_zero, Act.put, List.setIfInBounds_toArray, List.set_cons_zero, List.set_cons_succ]
                            refine wpAnyH_ready (rs := [19]) (by kernel_rfl) (by simp) ?_
                            refine AllReadyH.cons rfl (fun K hK => ?_) AllReadyH.nil
                            refine step_store1 h rfl 47 _ _ rfl rfl rfl hbmC hszH rfl rfl (by kernel_rfl) ?_
                            clear h hHeld
                            intro w h
                            refine hK.out _ _ (h.le (Mm.le_upd (Mm.le_trans hKS hle6) hKbh _)) (fun hHeld => ?_)
                            clear hK K
                            refine wpAnyH_done (by kernel_rfl) ?_ _
                            have hEnd := h
                            go_wp2
                            all_goals (go_meet; (case rel => exact ⟨M6, _, hle6, hown6, hEnd⟩))
                          · skip
                            refine step_yields rfl (yields_load1 rfl 47 _ rfl rfl hbmC eH5 Try.underlying47 rfl) h ?_
                            refine hK.out _ _ hHeld (fun hHeld => ?_)
                            clear hK K
                            simp only [Act.put, List.setIfInBounds_toArray, List.set_cons_zero, List.set_cons_succ]
                            refine wpAnyH_take (i := 16) (v := ?_) rfl (by kernel_rfl) (by kernel_rfl) (by kernel_rfl) (fun _ _ _ h => h) (Or.inl ⟨by rfl, ?_⟩) hHeld ?_
                            rotate_left
                            · (intro wz _; go_simp; try with_reducible rfl)
                            try simp only [List.getElem_toArray, List.getElem_cons_succ, List.getElem_cons_zero, Act.put, List.setIfInBounds_toArray, List.set_cons_zero, List.set_cons_succ]
                            refine wpAnyH_ready (rs := [9]) (by kernel_rfl) (by simp) ?_
                            refine AllReadyH.cons rfl (fun K hK => ?_) AllReadyH.nil
                            refine step_append_rd (M0 := M3) h hlen rfl _ _ 47 rfl Try.underlying47 info_int rfl (by omega) rfl hown1 rfl (hr1.le hlen) one1 (by omega) (by omega) ?_
                            clear h hHeld hown1 hb2 hn2 hbmC hlen
                            intro v4 w hacc4
                            obtain ⟨M4, h, hle4, hown4⟩ := hacc4
                            rw [Nat.zero_add, List.nil_append] at hown4
                            refine hK.out _ _ (h.le (Mm.le_trans hKS hle4)) (fun hHeld => ?_)
                            clear hK K
                            simp only [Act.put, List.setIfInBounds_toArray, List.set_cons_zero, List.set_cons_succ]
                            have hbmC := hle4 _ _ hbm5
                            refine wpAnyH_ready (rs := [17]) (by kernel_rfl) (by simp) ?_
                            refine AllReadyH.cons rfl (fun K hK => ?_) AllReadyH.nil
                            refine step_append_rd (M0 := M3) h hle4 rfl _ _ 47 rfl Try.underlying47 info_int rfl (by omega) rfl hown4 rfl (hr2.le hle4) one2 (by omega) (by omega) ?_
                            clear h hHeld hown4 hbmC hle4
                            intro v6 w hacc6
                            obtain ⟨M6, h, hle6, hown6⟩ := hacc6
                            rw [show wn + (nh - (wn + 1)) = nh - 1 by omega] at hown6
                            obtain ⟨A6, c6, rfl⟩ := hown6.form
                            refine hK.out _ _ (h.le (Mm.le_trans hKS hle6)) (fun hHeld => ?_)
                            clear hK K
                            simp only [Act.put, List.setIfInBounds_toArray, List.set_cons_zero, List.set_cons_succ]
                            have hbmC := hle6 _ _ hbm5
                            refine wpAnyH_take (i := 18) (v := ?_) rfl (by kernel_rfl) (by kernel_rfl) (by kernel_rfl) (fun _ _ _ h => h) (Or.inl ⟨by rfl, ?_⟩) hHeld ?_
                            rotate_left
                            · (intro wz _; go_simp; try with_reducible rfl)
                            try simp only [List.getElem_toArray, List.getElem_cons_succ, List.getElem_cons_zero, Act.put, List.setIfInBounds_toArray, List.set_cons_zero, List.set_cons_succ]
                            refine wpAnyH_ready (rs := [19]) (by kernel_rfl) (by simp) ?_
                            refine AllReadyH.cons rfl (fun K hK => ?_) AllReadyH.nil
                            refine step_store1 h rfl 47 _ _ rfl rfl rfl hbmC hszH rfl rfl (by kernel_rfl) ?_
                            clear h hHeld
                            intro w h
                            refine hK.out _ _ (h.le (Mm.le_upd (Mm.le_trans hKS hle6) hKbh _)) (fun hHeld => ?_)
                            clear hK K
                            refine wpAnyH_done (by kernel_rfl) ?_ _
                            have hEnd := h
                            go_wp2
                            all_goals (go_meet; (case rel => exact ⟨M6, _, hle6, hown6, hEnd⟩))
                        · skip
                          refine step_yields rfl (yields_load1 rfl 47 _ rfl rfl hbmC eH5 Try.underlying47 rfl) h ?_
                          refine hK.out _ _ hHeld (fun hHeld => ?_)
                          clear hK K
                          simp only [Act.put, List.setIfInBounds_toArray, List.set_cons_zero, List.set_cons_succ]
                          refine wpAnyH_take (i := 16) (v := ?_) rfl (by kernel_rfl) (by kernel_rfl) (by kernel_rfl) (fun _ _ _ h => h) (Or.inl ⟨by rfl, ?_⟩) hHeld ?_
                          rotate_left
                          · (intro wz _; go_simp; try with_reducible rfl)
                          try simp only [List.getElem_toArray, List.getElem_cons_succ, List.getElem_cons_zero, Act.put, List.setIfInBounds_toArray, List.set_cons_zero, List.set_cons_succ]
                          refine wpAnyH_ready (rs := [2]) (by kernel_rfl) (by simp) ?_
                          refine AllReadyH.cons rfl (fun K hK => ?_) AllReadyH.nil
                          go_simp
                          refine hK.out _ _ ((h.quietAlloc _).le hKS) (fun hHeld => ?_)
                          clear hK K
                          try simp only [Act.put, List.setIfInBounds_toArray, List.set_cons_zero, List.set_cons_succ]
                          clear hHeld
                          obtain ⟨Mn, hbx, hlen, hb2, hn2⟩ := h.box (.cells #[] 3)
                          generalize w.alloc _ = wx at hbx ⊢
                          generalize w.heap.size = b2 at hb2 hn2 ⊢
                          clear h
                          try clear w
                          have h := hbx
                          clear hbx
                          obtain ⟨w, rfl⟩ : ∃ x : World, x = wx := ⟨_, rfl⟩
                          have hHeld := h.le (Mm.le_trans hKS hlen)
                          replace hbmC := hlen _ _ hbm5
                          have hown1 : Own M3 Mn 3 1 (.slice (some ⟨b2, 0, none⟩) 0 0) 0 [] := ⟨rfl, .inr ⟨b2, 0, #[], rfl, hn2, hb2, Nat.le_refl _, by unfold maxLen; omega, rfl, rfl⟩⟩
                          refine wpAnyH_ready (rs := [9]) (by kernel_rfl) (by simp) ?_
                          refine AllReadyH.cons rfl (fun K hK => ?_) AllReadyH.nil
                          refine step_append_rd (M0 := M3) h hlen rfl _ _ 47 rfl Try.underlying47 info_int rfl (by omega) rfl hown1 rfl (hr1.le hlen) one1 (by omega) (by omega) ?_
                          clear h hHeld hown1 hb2 hn2 hbmC hlen
                          intro v4 w hacc4
                          obtain ⟨M4, h, hle4, hown4⟩ := hacc4
                          rw [Nat.zero_add, List.nil_append] at hown4
                          refine hK.out _ _ (h.le (Mm.le_trans hKS hle4)) (fun hHeld => ?_)
                          clear hK K
                          simp only [Act.put, List.setIfInBounds_toArray, List.set_cons_zero, List.set_cons_succ]
                          have hbmC := hle4 _ _ hbm5
                          refine wpAnyH_ready (rs := [17]) (by kernel_rfl) (by simp) ?_
                          refine AllReadyH.cons rfl (fun K hK => ?_) AllReadyH.nil
                          refine step_append_rd (M0 := M3) h hle4 rfl _ _ 47 rfl Try.underlying47 info_int rfl (by omega) rfl hown4 rfl (hr2.le hle4) one2 (by omega) (by omega) ?_
                          clear h hHeld hown4 hbmC hle4
                          intro v6 w hacc6
                          obtain ⟨M6, h, hle6, hown6⟩ := hacc6
                          rw [show wn + (nh - (wn + 1)) = nh - 1 by omega] at hown6
                          obtain ⟨A6, c6, rfl⟩ := hown6.form
                          refine hK.out _ _ (h.le (Mm.le_trans hKS hle6)) (fun hHeld => ?_)
                          clear hK K
                          simp only [Act.put, List.setIfInBounds_toArray, List.set_cons_zero, List.set_cons_succ]
                          have hbmC := hle6 _ _ hbm5
                          refine wpAnyH_take (i := 18) (v := ?_) rfl (by kernel_rfl) (by kernel_rfl) (by kernel_rfl) (fun _ _ _ h => h) (Or.inl ⟨by rfl, ?_⟩) hHeld ?_
                          rotate_left
                          · (intro wz _; go_simp; try with_reducible rfl)
                          try simp only [List.getElem_toArray, List.getElem_cons_succ, List.getElem_cons_zero, Act.put, List.setIfInBounds_toArray, List.set_cons_zero, List.set_cons_succ]
                          refine wpAnyH_ready (rs := [19]) (by kernel_rfl) (by simp) ?_
                          refine AllReadyH.cons rfl (fun K hK => ?_) AllReadyH.nil
                          refine step_store1 h rfl 47 _ _ rfl rfl rfl hbmC hszH rfl rfl (by kernel_rfl) ?_
                          clear h hHeld
                          intro w h
                          refine hK.out _ _ (h.le (Mm.le_upd (Mm.le_trans hKS hle6) hKbh _)) (fun hHeld => ?_)
                          clear hK K
                          refine wpAnyH_done (by kernel_rfl) ?_ _
                          have hEnd := h
                          go_wp2
                          all_goals (go_meet; (case rel => exact ⟨M6, _, hle6, hown6, hEnd⟩))
                      · skip
                        refine step_yields rfl (yields_load1 rfl 47 _ rfl rfl hbmC eH5 Try.underlying47 rfl) h ?_
                        refine hK.out _ _ hHeld (fun hHeld => ?_)
                        clear hK K
                        simp only [Act.put, List.setIfInBounds_toArray, List.set_cons_zero, List.set_cons_succ]
                        refine wpAnyH_take (i := 16) (v := ?_) rfl (by kernel_rfl) (by kernel_rfl) (by kernel_rfl) (fun _ _ _ h => h) (Or.inl ⟨by rfl, ?_⟩) hHeld ?_
                        rotate_left
                        · (intro wz _; go_simp; try with_reducible rfl)
                        try simp only [List.getElem_toArray, List.getElem_cons_succ, List.getElem_cons_zero, Act.put, List.setIfInBounds_toArray, List.set_cons_zero, List.set_cons_succ]
                        refine wpAnyH_ready (rs := [2, 6]) (by kernel_rfl) (by simp) ?_
                        refine AllReadyH.cons rfl (fun K hK => ?_) (AllReadyH.cons rfl (fun K hK => ?_) AllReadyH.nil)
                        · skip
                          go_simp
                          refine hK.out _ _ ((h.quietAlloc _).le hKS) (fun hHeld => ?_)
                          clear hK K
                          try simp only [Act.put, List.setIfInBounds_toArray, List.set_cons_zero, List.set_cons_succ]
                          clear hHeld
                          obtain ⟨Mn, hbx, hlen, hb2, hn2⟩ := h.box (.cells #[] 3)
                          generalize w.alloc _ = wx at hbx ⊢
                          generalize w.heap.size = b2 at hb2 hn2 ⊢
                          clear h
                          try clear w
                          have h := hbx
                          clear hbx
                          obtain ⟨w, rfl⟩ : ∃ x : World, x = wx := ⟨_, rfl⟩
                          have hHeld := h.le (Mm.le_trans hKS hlen)
                          replace hbmC := hlen _ _ hbm5
                          have hown1 : Own M3 Mn 3 1 (.slice (some ⟨b2, 0, none⟩) 0 0) 0 [] := ⟨rfl, .inr ⟨b2, 0, #[], rfl, hn2, hb2, Nat.le_refl _, by unfold maxLen; omega, rfl, rfl⟩⟩
                          refine wpAnyH_ready (rs := [6]) (by kernel_rfl) (by simp) ?_
                          refine AllReadyH.cons rfl (fun K hK => ?_) AllReadyH.nil
                          refine step_yields rfl (yields_load1 rfl 47 _ rfl rfl hbmC eH5 Try.underlying47 rfl) h ?_
                          refine hK.out _ _ hHeld (fun hHeld => ?_)
                          clear hK K
                          simp only [Act.put, List.setIfInBounds_toArray, List.set_cons_zero, List.set_cons_succ]
                          refine wpAnyH_take (i := 8) (v := ?_) rfl (by kernel_rfl) (by kernel_rfl) (by kernel_rfl) (fun _ _ _ h => h) (Or.inl ⟨by rfl, ?_⟩) hHeld ?_
                          rotate_left
                          · (intro wz _; go_simp; try with_reducible rfl)
                          try simp only [List.getElem_toArray, List.getElem_cons_succ, List.getElem_cons_zero, Act.put, List.setIfInBounds_toArray, List.set_cons_zero, List.set_cons_succ]
                          refine wpAnyH_ready (rs := [9]) (by kernel_rfl) (by simp) ?_
                          refine AllReadyH.cons rfl (fun K hK => ?_) AllReadyH.nil
                          refine step_append_rd (M0 := M3) h hlen rfl _ _ 47 rfl Try.underlying47 info_int rfl (by omega) rfl hown1 rfl (hr1.le hlen) one1 (by omega) (by omega) ?_
                          clear h hHeld hown1 hb2 hn2 hbmC hlen
                          intro v4 w hacc4
                          obtain ⟨M4, h, hle4, hown4⟩ := hacc4
                          rw [Nat.zero_add, List.nil_append] at hown4
                          refine hK.out _ _ (h.le (Mm.le_trans hKS hle4)) (fun hHeld => ?_)
                          clear hK K
                          simp only [Act.put, List.setIfInBounds_toArray, List.set_cons_zero, List.set_cons_succ]
                          have hbmC := hle4 _ _ hbm5
                          refine wpAnyH_ready (rs := [17]) (by kernel_rfl) (by simp) ?_
                          refine AllReadyH.cons rfl (fun K hK => ?_) AllReadyH.nil
                          refine step_append_rd (M0 := M3) h hle4 rfl _ _ 47 rfl Try.underlying47 info_int rfl (by omega) rfl hown4 rfl (hr2.le hle4) one2 (by omega) (by omega) ?_
                          clear h hHeld hown4 hbmC hle4
                          intro v6 w hacc6
                          obtain ⟨M6, h, hle6, hown6⟩ := hacc6
                          rw [show wn + (nh - (wn + 1)) = nh - 1 by omega] at hown6
                          obtain ⟨A6, c6, rfl⟩ := hown6.form
                          refine hK.out _ _ (h.le (Mm.le_trans hKS hle6)) (fun hHeld => ?_)
                          clear hK K
                          simp only [Act.put, List.setIfInBounds_toArray, List.set_cons_zero, List.set_cons_succ]
                          have hbmC := hle6 _ _ hbm5
                          refine wpAnyH_take (i := 18) (v := ?_) rfl (by kernel_rfl) (by kernel_rfl) (by kernel_rfl) (fun _ _ _ h => h) (Or.inl ⟨by rfl, ?_⟩) hHeld ?_
                          rotate_left
                          · (intro wz _; go_simp; try with_reducible rfl)
                          try simp only [List.getElem_toArray, List.getElem_cons_succ, List.getElem_cons_zero, Act.put, List.setIfInBounds_toArray, List.set_cons_zero, List.set_cons_succ]
                          refine wpAnyH_ready (rs := [19]) (by kernel_rfl) (by simp) ?_
                          refine AllReadyH.cons rfl (fun K hK => ?_) AllReadyH.nil
                          refine step_store1 h rfl 47 _ _ rfl rfl rfl hbmC hszH rfl rfl (by kernel_rfl) ?_
                          clear h hHeld
                          intro w h
                          refine hK.out _ _ (h.le (Mm.le_upd (Mm.le_trans hKS hle6) hKbh _)) (fun hHeld => ?_)
                          clear hK K
                          refine wpAnyH_done (by kernel_rfl) ?_ _
                          have hEnd := h
                          go_wp2
                          all_goals (go_meet; (case rel => exact ⟨M6, _, hle6, hown6, hEnd⟩))
                        · skip
                          refine step_yields rfl (yields_load1 rfl 47 _ rfl rfl hbmC eH5 Try.underlying47 rfl) h ?_
                          refine hK.out _ _ hHeld (fun hHeld => ?_)
                          clear hK K
                          simp only [Act.put, List.setIfInBounds_toArray, List.set_cons_zero, List.set_cons_succ]
                          refine wpAnyH_take (i := 8) (v := ?_) rfl (by kernel_rfl) (by kernel_rfl) (by kernel_rfl) (fun _ _ _ h => h) (Or.inl ⟨by rfl, ?_⟩) hHeld ?_
                          rotate_left
                          · (intro wz _; go_simp; try with_reducible rfl)
                          try simp only [List.getElem_toArray, List.getElem_cons_succ, List.getElem_cons_zero, Act.put, List.setIfInBounds_toArray, List.set_cons_zero, List.set_cons_succ]
                          refine wpAnyH_ready (rs := [2]) (by kernel_rfl) (by simp) ?_
                          refine AllReadyH.cons rfl (fun K hK => ?_) AllReadyH.nil
                          go_simp
                          refine hK.out _ _ ((h.quietAlloc _).le hKS) (fun hHeld => ?_)
                          clear hK K
                          try simp only [Act.put, List.setIfInBounds_toArray, List.set_cons_zero, List.set_cons_succ]
                          clear hHeld
                          obtain ⟨Mn, hbx, hlen, hb2, hn2⟩ := h.box (.cells #[] 3)
                          generalize w.alloc _ = wx at hbx ⊢
                          generalize w.heap.size = b2 at hb2 hn2 ⊢
                          clear h
                          try clear w
                          have h := hbx
                          clear hbx
                          obtain ⟨w, rfl⟩ : ∃ x : World, x = wx := ⟨_, rfl⟩
                          have hHeld := h.le (Mm.le_trans hKS hlen)
                          replace hbmC := hlen _ _ hbm5
                          have hown1 : Own M3 Mn 3 1 (.slice (some ⟨b2, 0, none⟩) 0 0) 0 [] := ⟨rfl, .inr ⟨b2, 0, #[], rfl, hn2, hb2, Nat.le_refl _, by unfold maxLen; omega, rfl, rfl⟩⟩
                          refine wpAnyH_ready (rs := [9]) (by kernel_rfl) (by simp) ?_
                          refine AllReadyH.cons rfl (fun K hK => ?_) AllReadyH.nil
                          refine step_append_rd (M0 := M3) h hlen rfl _ _ 47 rfl Try.underlying47 info_int rfl (by omega) rfl hown1 rfl (hr1.le hlen) one1 (by omega) (by omega) ?_
                          clear h hHeld hown1 hb2 hn2 hbmC hlen
                          intro v4 w hacc4
                          obtain ⟨M4, h, hle4, hown4⟩ := hacc4
                          rw [Nat.zero_add, List.nil_append] at hown4
                          refine hK.out _ _ (h.le (Mm.le_trans hKS hle4)) (fun hHeld => ?_)
                          clear hK K
                          simp only [Act.put, List.setIfInBounds_toArray, List.set_cons_zero, List.set_cons_succ]
                          have hbmC := hle4 _ _ hbm5
                          refine wpAnyH_ready (rs := [17]) (by kernel_rfl) (by simp) ?_
                          refine AllReadyH.cons rfl (fun K hK => ?_) AllReadyH.nil
                          refine step_append_rd (M0 := M3) h hle4 rfl _ _ 47 rfl Try.underlying47 info_int rfl (by omega) rfl hown4 rfl (hr2.le hle4) one2 (by omega) (by omega) ?_
                          clear h hHeld hown4 hbmC hle4
                          intro v6 w hacc6
                          obtain ⟨M6, h, hle6, hown6⟩ := hacc6
                          rw [show wn + (nh - (wn + 1)) = nh - 1 by omega] at hown6
                          obtain ⟨A6, c6, rfl⟩ := hown6.form
                          refine hK.out _ _ (h.le (Mm.le_trans hKS hle6)) (fun hHeld => ?_)
                          clear hK K
                          simp only [Act.put, List.setIfInBounds_toArray, List.set_cons_zero, List.set_cons_succ]
                          have hbmC := hle6 _ _ hbm5
                          refine wpAnyH_take (i := 18) (v := ?_) rfl (by kernel_rfl) (by kernel_rfl) (by kernel_rfl) (fun _ _ _ h => h) (Or.inl ⟨by rfl, ?_⟩) hHeld ?_
                          rotate_left
                          · (intro wz _; go_simp; try with_reducible rfl)
                          try simp only [List.getElem_toArray, List.getElem_cons_succ, List.getElem_cons_zero, Act.put, List.setIfInBounds_toArray, List.set_cons_zero, List.set_cons_succ]
                          refine wpAnyH_ready (rs := [19]) (by kernel_rfl) (by simp) ?_
                          refine AllReadyH.cons rfl (fun K hK => ?_) AllReadyH.nil
                          refine step_store1 h rfl 47 _ _ rfl rfl rfl hbmC hszH rfl rfl (by kernel_rfl) ?_
                          clear h hHeld
                          intro w h
                          refine hK.out _ _ (h.le (Mm.le_upd (Mm.le_trans hKS hle6) hKbh _)) (fun hHeld => ?_)
                          clear hK K
                          refine wpAnyH_done (by kernel_rfl) ?_ _
                          have hEnd := h
                          go_wp2
                          all_goals (go_meet; (case rel => exact ⟨M6, _, hle6, hown6, hEnd⟩))
                  case rest =>
                    obtain ⟨M5, v5, hle5, hown5, hC⟩ := hcut
                    clear h hr1 hr2 one1 one2 hKS hKbh wq1 s1 s2 s4 hbm5 eH5
                    obtain ⟨A5, c5, rfl⟩ := hown5.form
                    obtain ⟨lab6, K6, labK6, hM6, hB6, hK6, hR6⟩ := HM3.out.rowTo HB3.out (j := 10 + tn) (Mm.le_trans (outK_le _ _ _ _) hle5) (hown5.base fun b hb => Mm.none_of (outK_le _ _ _ _) hb)
                    have hH6 := ((HA2.out.hrow).keep hK6 (by omega)).up hB6.le
                    obtain ⟨curZ, hgZ, hltZ, hownZ, hngZ⟩ := hH6.put tn (.slice A5 (nh - 1) c5)
                    have eZ := (hle5 _ _ (HB3.out.le _ _ HCUR.out)).symm.trans hgZ
                    cases eZ
                    obtain ⟨lab7, K7, labK7, hM7, hB7, hK7, hR7⟩ := hM6.rowTo hB6 (j := 2) (Mm.le_upd (outK_le _ _ _ _) hngZ _) hownZ
                    have hA7 := HA2.out.setH hT8.2 HTN.out hK6 (h2 := (had tn).eraseIdx wn) (by rw [HXS.out, List.length_eraseIdx, HNH.out, if_pos hwn]; exact hR6) hK7 hR7
                    have hS7 := Mm.le_trans (Mm.le_trans HS2.out (stable_kp hK6 (by omega))) (stable_kp hK7 (by omega))
                    obtain ⟨w, rfl⟩ : ∃ q : World, q = wc := ⟨_, rfl⟩
                    go_wp2_with (fail)
                    go_meet
                    case rel => exact ⟨_, lab7, K7, labK7, s3, _, _, emp, g.go tn ⟨2, 0, x, 0, 0⟩, m + 1, _, ⟨2, 0, x, 0, 0⟩, hC, hM7, hB7, hS7, hA7, HA3.out, Nat.le_refl _, HAL.out.2.2.2.give HTN.out (by rw [HLV.out]; exact ll) HGT.out HXQ.out, thr_go _ _ _⟩
        case rest =>
          obtain ⟨M3, lab3, K3, labK3, s3, fh3, had3, emp3, g3, m3, ow3, F, h3, hM3, hB3, hS3, hA3, hAb3, hm3, hI3, hF3⟩ := hcut
          have hbd : a ≤ i ∧ m3 ≤ 2 * i + 1 := ⟨HAL.out.1, by have := HAL.out.2.1; omega⟩
          have HBD := Lib.hid hbd
          have HEV := Lib.hid HAI.out.evl
          clear h DP HDN HAL HA2 HM2 HB2 HS2 HKM HAI hbf2 hm3 hbd
          obtain ⟨w, rfl⟩ : ∃ q : World, q = wc := ⟨_, rfl⟩
          have h := h3
          clear h3
          obtain ⟨bt, TP, cst, et', hbt, ebt⟩ := cw_top hM3 hAb3 (by have h1 := HTN.out; have h2 := HT.out; omega) HQ.out hF3
          have TPQ : Hid (∀ w : World, Has σ M3 w → Calls Try.prog 24 #[.pointer (some ⟨q, 0, none⟩)] w fun r w' => r = .returned (.pointer (some ⟨bt, 0, none⟩)) ∧ Has σ M3 w') := Lib.hid fun w h => TP w h
          have hbf3 := hB3.le _ _ (stable_le _ _ _ _ (hS3 _ _ hbf))
          have CH := Lib.hid (fun (w : World) (h : Has σ M3 w) => chain_eq h hM3 hAb3 HNU.out ll (hI3.inv.lv lv ll))
          have hfn := (hI3.inv.thr tn HTN.out F hF3).fn
          have HM3 := Lib.hid hM3
          have HB3 := Lib.hid hB3
          have HS3 := Lib.hid hS3
          have HA3 := Lib.hid hA3
          have HAB3 := Lib.hid hAb3
          have HI3 := Lib.hid hI3
          have HF3 := Lib.hid hF3
          obtain ⟨fnn, hfnn⟩ : ∃ k, F.fn = k := ⟨_, rfl⟩
          rw [hfnn] at ebt hfn
          have HFN := Lib.hid hfnn
          have HFN2 := Lib.hid hfn
          obtain ⟨qn, hqn⟩ : ∃ k, (Lf lv).length = k := ⟨_, rfl⟩
          rw [hqn] at CH
          have HQN := Lib.hid hqn
          clear TP hM3 hB3 hS3 hA3 hAb3 hI3 hF3 hfnn hfn hqn
          go_upto_region 23 with (first
            | (go_at_call 24; refine (TPQ.out _ h).mono ?_; clear h; rintro _ w ⟨rfl, h⟩)
            | (with_reducible show wpList _ _ _ ({ dst := _, op := Op.load 3 _, type := _, pos := _, after := _, guard := _ } :: _) _ _; refine wpList_load1_has h rfl 3 _ rfl rfl hbt ebt Try.underlying3 rfl ?_)
            | (go_at_call 25; refine (CH.out _ h).mono ?_; clear h; rintro _ w ⟨Ac, kc, rfl, M4, h, hle4⟩))
          obtain ⟨tk, htk⟩ : ∃ b : Bool, ((fnn : Int) == 1) = b := ⟨_, rfl⟩
          obtain ⟨b1, hb1⟩ : ∃ b : Bool, ((qn : Int) == 0) = b := ⟨_, rfl⟩
          rw [htk, hb1]
          have HTK := Lib.hid htk
          have HB1 := Lib.hid hb1
          have hM4 := HM3.out.keep (Kp.le hle4 fun _ => 0) fun _ _ h => h
          have hB4 := HB3.out.keep (Kp.le hle4 fun _ => 0) fun h => h
          have STP := Lib.hid (fun (w : World) (h : Has σ M4 w) => cw_step h hM4 hB4 HC.out HNU.out HG.out HT.out (by have := HBD.out; have := HLT.out; omega) (by have := HBD.out; have := HLT.out; omega) HTN.out HQ.out HAB3.out HI3.out HF3.out)
          clear htk hb1 hM4 hB4 hbt ebt CH TPQ
          go_upto_region 24 with (first
            | ((go_at_call 26; refine (STP.out _ h).mono ?_; clear h; rintro _ w ⟨M5, lab5, s5, g5, Lf5, ow5, had5, ev5, rfl, h, hM5, hB5, hA5, hN5⟩)))
          clear STP
          have hbf5 := hB5.le _ _ (stable_le _ _ _ _ (HS3.out _ _ hbf))
          have CH5 := Lib.hid (fun (w : World) (h : Has σ M5 w) => chain_eq h hM5 hA5 HNU.out ll (hN5.inv.inv.lv lv ll))
          obtain ⟨lft, hlft⟩ : ∃ b : Bool, (g5.thr tn).isSome = b := ⟨_, rfl⟩
          obtain ⟨qn5, hqn5⟩ : ∃ k, (Lf5 lv).length = k := ⟨_, rfl⟩
          rw [hqn5] at CH5
          rw [hlft]
          have HQN5 := Lib.hid hqn5
          have HLFT := Lib.hid hlft
          have HM5 := Lib.hid hM5
          have HB5 := Lib.hid hB5
          have HA5 := Lib.hid hA5
          have HN5 := Lib.hid hN5
          clear hqn5 hlft hM5 hB5 hA5 hN5 hbf3 hle4
          go_cut [16] from 54 to 253 (fun u wx => ∃ M6, u = .bool (b1 || ((qn5 : Int) == 0)) ∧ M5.le M6 ∧ Has σ M6 wx)
          case first =>
            cases b1
            · go_wp2_with (first
                | (go_at_call 25; refine (CH5.out _ h).mono ?_; clear h; rintro _ w ⟨Ac5, kc5, rfl, M6, h, hle6⟩))
              go_meet
              case rel => exact ⟨M6, rfl, hle6, h⟩
            · go_wp2
              go_meet
              case rel => exact ⟨M5, rfl, Mm.le_refl _, h⟩
          case rest =>
            obtain ⟨M6, rfl, hle6, h6⟩ := hcut
            obtain ⟨w, rfl⟩ : ∃ q : World, q = wc := ⟨_, rfl⟩
            have h := h6
            clear h6
            obtain ⟨bq, hbq⟩ : ∃ b : Bool, (b1 || ((qn5 : Int) == 0)) = b := ⟨_, rfl⟩
            rw [hbq]
            have HBQ := Lib.hid hbq
            have hM6 := HM5.out.keep (Kp.le hle6 fun _ => 0) fun _ _ h => h
            have hB6 := HB5.out.keep (Kp.le hle6 fun _ => 0) fun h => h
            have HM6 := Lib.hid hM6
            have HB6 := Lib.hid hB6
            have hT0 : T ≤ 8 := hT8.2
            clear hbq hM6 hB6 hle6 CH5 hbf5
            go_upto_region 26 with (fail)
            go_loopw [18] (fun u wr => ∃ (y : Nat) (M : Mm) (lab : Nat → Nat) (K : Mm) (labK : Nat → Nat), y ≤ T ∧ u = .int .i64 (y : Nat) ∧ Has σ M wr ∧ Mach M lab p s5 ∧ Base K M lab ∧ M1.le (stable K labK) ∧ LawC K labK T L (.slice (some ⟨bh, 0, none⟩) T T) (.slice (some ⟨bb, 0, none⟩) T T) (.slice (some ⟨bv, 0, none⟩) L L) fh3 fv had3 ev (fun z => if z < y then seen (levT c) tn Lf Lf5 emp3 z else emp3 z)) (fun u _ => T - (intOf u).toNat)
            case atStart => exact ⟨0, M6, _, K3, labK3, Nat.zero_le _, rfl, h, HM6.out, HB6.out, HS3.out, by simpa using HA3.out⟩
            case round =>
              clear h w HM6 HB6
              obtain ⟨w, rfl⟩ : ∃ x : World, x = wr := ⟨_, rfl⟩
              obtain ⟨y, M7, lab7, K7, labK7, hy, rfl, h, hM7, hB7, hS7, hA7⟩ := hrel
              have hbf7 := hB7.le _ _ (stable_le _ _ _ _ (hS7 _ _ hbf))
              have HM7 := Lib.hid hM7
              have HB7 := Lib.hid hB7
              have HS7 := Lib.hid hS7
              clear hM7 hB7 hS7
              by_cases hyT : y < T
              · as_aux_lemma =>
                  obtain ⟨curB, hcb7, hcu7⟩ := Own.at_ hA7.brow
                  have eB : curB[y]? = some (.bool (emp3 y)) := hcu7 y _ (by
                    rw [List.getElem?_map, List.getElem?_range hyT]
                    show some (Value.bool (if y < y then _ else _)) = _
                    rw [if_neg (Nat.lt_irrefl y)])
                  have hbm7 := HB7.out.le _ _ hcb7
                  have hyT' : (y : Int) < (T : Int) := by omega
                  have hy8 : (y : Int) < 8 := by omega
                  obtain ⟨eb, heb⟩ : ∃ b, emp3 y = b := ⟨_, rfl⟩
                  rw [heb] at eB
                  have e2y : row[2 + y]? = some (.int .i64 (levT c y : Nat)) := by
                    rw [← HRW.out, ints_get (by omega), lev_cell HC.out HNU.out HT.out hyT]
                  have SV := seen_val (lev := levT c) (t := tn) (L := Lf) (L2 := Lf5) (y := y) heb HLV.out HQN.out HQN5.out HB1.out HBQ.out
                  obtain ⟨ly, hly⟩ : ∃ ly, levT c y = ly := ⟨_, rfl⟩
                  rw [hly] at e2y SV
                  obtain ⟨be, hbe⟩ : ∃ b : Bool, ((ly : Int) == (lv : Int)) = b := ⟨_, rfl⟩
                  rw [hbe] at SV
                  have hbe2 : (ly == lv) = be := by rw [← hbe, int_eqn]
                  have HSV := Lib.hid SV
                  have HYT := Lib.hid hyT
                  have wy : IntKind.i64.wrap ((y : Int) + 1) = ((y + 1 : Nat) : Int) := by rw [show (y : Int) + 1 = ((y + 1 : Nat) : Int) by omega]; exact IntWalk.i64_in _ (by omega)
                  have hO := hA7.brow.up HB7.out.le
                  have hOle := outK_le K7 M7 labK7 3
                  have HA7 := Lib.hid hA7
                  clear SV heb hly hcb7 hcu7 hA7 hy hyT
                  cases eb
                  · cases bq
                    · go_wp2_with (first
                        | (with_reducible show wpList _ _ _ ({ dst := _, op := Op.load 3 _, type := _, pos := _, after := _, guard := _ } :: _) _ _; refine wpList_load1_has h rfl 3 _ rfl rfl hbf7 r1 Try.underlying3 rfl ?_)
                        | (with_reducible show wpList _ _ _ ({ dst := _, op := Op.load 4 _, type := _, pos := _, after := _, guard := _ } :: _) _ _; refine wpList_load1_has h rfl 4 _ rfl rfl hbm7 eB Try.underlying4 rfl ?_)
                        | ((with_reducible show wpList _ _ _ ({ dst := _, op := Op.store 4 _ _, type := _, pos := _, after := _, guard := _ } :: _) _ _); (refine wpList_putOne h hOle hO rfl 4 _ _ rfl rfl (k := y) rfl HYT.out (u := .bool false) rfl rfl (by kernel_rfl) ?_); clear h hOle hO; intro w M8 h hle8 hown8))
                      obtain ⟨lab8, K8, labK8, hM8, hB8, hK8, hR8⟩ := HM7.out.rowTo HB7.out hle8 hown8
                      have hA8 := HA7.out.setB hT0 hK8 hR8
                      rw [put1_upto (seen (levT c) tn Lf Lf5 emp3) emp3 y (b := false) HSV.out] at hA8
                      go_roundw
                      case rel => exact ⟨y + 1, M8, lab8, K8, labK8, by have := HYT.out; omega, by first | rfl | go_num, h, hM8, hB8, Mm.le_trans HS7.out (stable_kp hK8 (by omega)), hA8⟩
                      case measure => have := HYT.out; simp [intOf]; omega
                    · cases be
                      · go_wp2_with (first
                          | (with_reducible show wpList _ _ _ ({ dst := _, op := Op.load 3 _, type := _, pos := _, after := _, guard := _ } :: _) _ _; refine wpList_load1_has h rfl 3 _ rfl rfl hbf7 r1 Try.underlying3 rfl ?_)
                          | (with_reducible show wpList _ _ _ ({ dst := _, op := Op.load 4 _, type := _, pos := _, after := _, guard := _ } :: _) _ _; refine wpList_load1_has h rfl 4 _ rfl rfl hbm7 eB Try.underlying4 rfl ?_)
                          | (with_reducible show wpList _ _ _ ({ dst := _, op := Op.load 3 _, type := _, pos := _, after := _, guard := _ } :: _) _ _; refine wpList_load1_has h rfl 3 _ rfl rfl hbf7 e2y Try.underlying3 rfl ?_)
                          | ((with_reducible show wpList _ _ _ ({ dst := _, op := Op.store 4 _ _, type := _, pos := _, after := _, guard := _ } :: _) _ _); (refine wpList_putOne h hOle hO rfl 4 _ _ rfl rfl (k := y) rfl HYT.out (u := .bool false) rfl rfl (by kernel_rfl) ?_); clear h hOle hO; intro w M8 h hle8 hown8))
                        obtain ⟨lab8, K8, labK8, hM8, hB8, hK8, hR8⟩ := HM7.out.rowTo HB7.out hle8 hown8
                        have hA8 := HA7.out.setB hT0 hK8 hR8
                        rw [put1_upto (seen (levT c) tn Lf Lf5 emp3) emp3 y (b := false) HSV.out] at hA8
                        go_roundw
                        case rel => exact ⟨y + 1, M8, lab8, K8, labK8, by have := HYT.out; omega, by first | rfl | go_num, h, hM8, hB8, Mm.le_trans HS7.out (stable_kp hK8 (by omega)), hA8⟩
                        case measure => have := HYT.out; simp [intOf]; omega
                      · go_wp2_with (first
                          | (with_reducible show wpList _ _ _ ({ dst := _, op := Op.load 3 _, type := _, pos := _, after := _, guard := _ } :: _) _ _; refine wpList_load1_has h rfl 3 _ rfl rfl hbf7 r1 Try.underlying3 rfl ?_)
                          | (with_reducible show wpList _ _ _ ({ dst := _, op := Op.load 4 _, type := _, pos := _, after := _, guard := _ } :: _) _ _; refine wpList_load1_has h rfl 4 _ rfl rfl hbm7 eB Try.underlying4 rfl ?_)
                          | (with_reducible show wpList _ _ _ ({ dst := _, op := Op.load 3 _, type := _, pos := _, after := _, guard := _ } :: _) _ _; refine wpList_load1_has h rfl 3 _ rfl rfl hbf7 e2y Try.underlying3 rfl ?_)
                          | ((with_reducible show wpList _ _ _ ({ dst := _, op := Op.store 4 _ _, type := _, pos := _, after := _, guard := _ } :: _) _ _); (refine wpList_putOne h hOle hO rfl 4 _ _ rfl rfl (k := y) rfl HYT.out (u := .bool true) rfl rfl (by kernel_rfl) ?_); clear h hOle hO; intro w M8 h hle8 hown8))
                        obtain ⟨lab8, K8, labK8, hM8, hB8, hK8, hR8⟩ := HM7.out.rowTo HB7.out hle8 hown8
                        have hA8 := HA7.out.setB hT0 hK8 hR8
                        rw [put1_upto (seen (levT c) tn Lf Lf5 emp3) emp3 y (b := true) HSV.out] at hA8
                        go_roundw
                        case rel => exact ⟨y + 1, M8, lab8, K8, labK8, by have := HYT.out; omega, by first | rfl | go_num, h, hM8, hB8, Mm.le_trans HS7.out (stable_kp hK8 (by omega)), hA8⟩
                        case measure => have := HYT.out; simp [intOf]; omega
                  · go_wp2_with (first
                      | (with_reducible show wpList _ _ _ ({ dst := _, op := Op.load 3 _, type := _, pos := _, after := _, guard := _ } :: _) _ _; refine wpList_load1_has h rfl 3 _ rfl rfl hbf7 r1 Try.underlying3 rfl ?_)
                      | (with_reducible show wpList _ _ _ ({ dst := _, op := Op.load 4 _, type := _, pos := _, after := _, guard := _ } :: _) _ _; refine wpList_load1_has h rfl 4 _ rfl rfl hbm7 eB Try.underlying4 rfl ?_)
                      | ((with_reducible show wpList _ _ _ ({ dst := _, op := Op.store 4 _ _, type := _, pos := _, after := _, guard := _ } :: _) _ _); (refine wpList_putOne h hOle hO rfl 4 _ _ rfl rfl (k := y) rfl HYT.out (u := .bool true) rfl rfl (by kernel_rfl) ?_); clear h hOle hO; intro w M8 h hle8 hown8))
                    obtain ⟨lab8, K8, labK8, hM8, hB8, hK8, hR8⟩ := HM7.out.rowTo HB7.out hle8 hown8
                    have hA8 := HA7.out.setB hT0 hK8 hR8
                    rw [put1_upto (seen (levT c) tn Lf Lf5 emp3) emp3 y (b := true) HSV.out] at hA8
                    go_roundw
                    case rel => exact ⟨y + 1, M8, lab8, K8, labK8, by have := HYT.out; omega, by first | rfl | go_num, h, hM8, hB8, Mm.le_trans HS7.out (stable_kp hK8 (by omega)), hA8⟩
                    case measure => have := HYT.out; simp [intOf]; omega
              · obtain rfl : T = y := by omega
                have hyT' : ¬ (T : Int) < (T : Int) := by omega
                have HA7 := Lib.hid (hA7.congr (emp2 := seen (levT c) tn Lf Lf5 emp3) fun z hz => if_pos hz)
                clear hA7 hyT hy
                have FT := Lib.hid (fun (w : World) (h : Has σ M7 w) => mFault_eq h HM7.out)
                rw [HA5.out.good] at FT
                cases lft with
                | true =>
                  as_aux_lemma =>
                    have hsame := HN5.out.left HLFT.out
                    have HE := Lib.hid hsame
                    clear hsame
                    go_wp2_with (first
                      | (with_reducible show wpList _ _ _ ({ dst := _, op := Op.load 3 _, type := _, pos := _, after := _, guard := _ } :: _) _ _; refine wpList_load1_has h rfl 3 _ rfl rfl hbf7 r1 Try.underlying3 rfl ?_)
                      | (go_at_call 16; refine (FT.out _ h).mono ?_; clear h; rintro _ w ⟨rfl, h⟩))
                    go_roundw
                    case rel => exact ⟨i + 1, M7, lab7, K7, labK7, s5, fh3, fv, had3, ev, seen (levT c) tn Lf Lf5 emp3, by have := HLT.out; omega, by first | rfl | (have := HLT.out; go_num), h, HM7.out, HB7.out, HS7.out, HA7.out, ⟨fun l => Nat.le_trans (HEV.out l) (Nat.le_succ _), ⟨a + 1, m3 + 1, g5, Lf5, ow5, by have := HBD.out; omega, by have := HBD.out; omega, HA5.out, by have := HN5.out.inv; rw [HE.out.1, HE.out.2] at this; exact this⟩⟩⟩
                    case measure => have := HLT.out; simp [intOf]; omega
                | false =>
                  cases tk with
                  | false =>
                    as_aux_lemma =>
                      have hsame := HN5.out.gave (by rw [HFN.out]; intro e; have := HTK.out; rw [e] at this; cases this)
                      have HE := Lib.hid hsame
                      clear hsame
                      go_wp2_with (first
                        | (with_reducible show wpList _ _ _ ({ dst := _, op := Op.load 3 _, type := _, pos := _, after := _, guard := _ } :: _) _ _; refine wpList_load1_has h rfl 3 _ rfl rfl hbf7 r1 Try.underlying3 rfl ?_)
                        | (go_at_call 16; refine (FT.out _ h).mono ?_; clear h; rintro _ w ⟨rfl, h⟩))
                      go_roundw
                      case rel => exact ⟨i + 1, M7, lab7, K7, labK7, s5, fh3, fv, had3, ev, seen (levT c) tn Lf Lf5 emp3, by have := HLT.out; omega, by first | rfl | (have := HLT.out; go_num), h, HM7.out, HB7.out, HS7.out, HA7.out, ⟨fun l => Nat.le_trans (HEV.out l) (Nat.le_succ _), ⟨a + 1, m3 + 1, g5, Lf5, ow5, by have := HBD.out; omega, by have := HBD.out; omega, HA5.out, by have := HN5.out.inv; rw [HE.out.1, HE.out.2] at this; exact this⟩⟩⟩
                      case measure => have := HLT.out; simp [intOf]; omega
                  | true =>
                    obtain ⟨trow, te, hqb, d0, d1⟩ := crTold HM7.out HA5.out HQ.out
                    have hf1 : F.fn = 1 := by
                      rw [HFN.out]
                      have := HTK.out
                      rcases HFN2.out with e | e
                      · exact e
                      · rw [e] at this; cases this
                    have hTK := HN5.out.took hf1 HLFT.out
                    obtain ⟨x0, hx0⟩ : ∃ x0, g5.t0 tn = x0 := ⟨_, rfl⟩
                    obtain ⟨y0, hy0⟩ : ∃ y0, g5.t1 tn = y0 := ⟨_, rfl⟩
                    rw [hx0] at d0 hTK
                    rw [hy0] at d1 hTK
                    rw [HLV.out] at hTK
                    have hS60 := HNU.out.s0.2
                    clear hf1 hx0 hy0
                    rcases hTK with ⟨k1, k2, rfl, k4⟩ | ⟨k1, k2, k3, k4, k5, k6, k7⟩
                    · as_aux_lemma =>
                        obtain ⟨z0, hz0⟩ : ∃ z, IntKind.i64.wrap (y0 : Int) = z := ⟨_, rfl⟩
                        replace d0 : trow[0]? = some (.int .u64 0) := d0
                        obtain ⟨curB, hcb7, hcu7⟩ := Own.at_ HA7.out.brow
                        have eB : curB[tn]? = some (.bool true) := hcu7 tn _ (by
                          rw [List.getElem?_map, List.getElem?_range HTN.out]
                          show some (Value.bool _) = _
                          rw [k4])
                        have hbm7 := HB7.out.le _ _ hcb7
                        have HE := Lib.hid (⟨k1, k2⟩ : had5 = had3 ∧ ev5 = ev)
                        have htT : (tn : Int) < (T : Int) := by have := HTN.out; omega
                        clear k1 k2 k4 hcb7 hcu7
                        go_upto_region 32 with (first
                          | (with_reducible show wpList _ _ _ ({ dst := _, op := Op.load 3 _, type := _, pos := _, after := _, guard := _ } :: _) _ _; refine wpList_load1_has h rfl 3 _ rfl rfl hbf7 r1 Try.underlying3 rfl ?_)
                          | (go_at_call 16; refine (FT.out _ h).mono ?_; clear h; rintro _ w ⟨rfl, h⟩))
                        refine wp_region_held_drew (S := Has σ (M7)) (by kernel_rfl) (h.drew) (fun hHeld => ?_)
                        refine wpAnyH_take (i := 0) (v := ?_) rfl (by kernel_rfl) (by kernel_rfl) (by kernel_rfl) (fun _ _ _ h => h) (Or.inl ⟨by rfl, ?_⟩) hHeld ?_
                        rotate_left
                        · (intro wz _; go_simp; try with_reducible rfl)
                        try simp only [List.getElem_toArray, List.getElem_cons_succ, List.getElem_cons_zero, Act.put, List.setIfInBounds_toArray, List.set_cons_zero, List.set_cons_succ]
                        refine wpAnyH_take (i := 1) (v := ?_) rfl (by kernel_rfl) (by kernel_rfl) (by kernel_rfl) (fun _ _ _ h => h) (Or.inl ⟨by rfl, ?_⟩) hHeld ?_
                        rotate_left
                        · (intro wz _; go_simp; try with_reducible rfl)
                        try simp only [List.getElem_toArray, List.getElem_cons_succ, List.getElem_cons_zero, Act.put, List.setIfInBounds_toArray, List.set_cons_zero, List.set_cons_succ]
                        refine wpAnyH_take (i := 2) (v := ?_) rfl (by kernel_rfl) (by kernel_rfl) (by kernel_rfl) (fun _ _ _ h => h) (Or.inl ⟨by rfl, ?_⟩) hHeld ?_
                        rotate_left
                        · (intro wz _; go_simp; try with_reducible rfl)
                        try simp only [List.getElem_toArray, List.getElem_cons_succ, List.getElem_cons_zero, Act.put, List.setIfInBounds_toArray, List.set_cons_zero, List.set_cons_succ]
                        refine wpAnyH_take (i := 3) (v := ?_) rfl (by kernel_rfl) (by kernel_rfl) (by kernel_rfl) (fun _ _ _ h => h) (Or.inl ⟨by rfl, ?_⟩) hHeld ?_
                        rotate_left
                        · (intro wz _; go_simp; try with_reducible rfl)
                        try simp only [List.getElem_toArray, List.getElem_cons_succ, List.getElem_cons_zero, Act.put, List.setIfInBounds_toArray, List.set_cons_zero, List.set_cons_succ]
                        refine wpAnyH_take (i := 4) (v := _) rfl (by kernel_rfl) (by kernel_rfl) (by kernel_rfl) (fun _ _ _ h => h) (yields_load1 rfl 40 _ rfl rfl hqb d0 Try.underlying40 rfl) hHeld ?_
                        try simp only [List.getElem_toArray, List.getElem_cons_succ, List.getElem_cons_zero, Act.put, List.setIfInBounds_toArray, List.set_cons_zero, List.set_cons_succ]
                        refine wpAnyH_take (i := 5) (v := ?_) rfl (by kernel_rfl) (by kernel_rfl) (by kernel_rfl) (fun _ _ _ h => h) (Or.inl ⟨by rfl, ?_⟩) hHeld ?_
                        rotate_left
                        · (intro wz _; go_simp; try with_reducible rfl)
                        try simp only [List.getElem_toArray, List.getElem_cons_succ, List.getElem_cons_zero, Act.put, List.setIfInBounds_toArray, List.set_cons_zero, List.set_cons_succ]
                        refine wpAnyH_take (i := 6) (v := ?_) rfl (by kernel_rfl) (by kernel_rfl) (by kernel_rfl) (fun _ _ _ h => h) (Or.inl ⟨by rfl, ?_⟩) hHeld ?_
                        rotate_left
                        · (intro wz _; go_simp; try with_reducible rfl)
                        try simp only [List.getElem_toArray, List.getElem_cons_succ, List.getElem_cons_zero, Act.put, List.setIfInBounds_toArray, List.set_cons_zero, List.set_cons_succ]
                        refine wpAnyH_take (i := 7) (v := ?_) rfl (by kernel_rfl) (by kernel_rfl) (by kernel_rfl) (fun _ _ _ h => h) (Or.inl ⟨by rfl, ?_⟩) hHeld ?_
                        rotate_left
                        · (intro wz _; go_simp; try with_reducible rfl)
                        try simp only [List.getElem_toArray, List.getElem_cons_succ, List.getElem_cons_zero, Act.put, List.setIfInBounds_toArray, List.set_cons_zero, List.set_cons_succ]
                        refine wpAnyH_take (i := 8) (v := ?_) rfl (by kernel_rfl) (by kernel_rfl) (by kernel_rfl) (fun _ _ _ h => h) (Or.inl ⟨by rfl, ?_⟩) hHeld ?_
                        rotate_left
                        · (intro wz _; go_simp; try with_reducible rfl)
                        try simp only [List.getElem_toArray, List.getElem_cons_succ, List.getElem_cons_zero, Act.put, List.setIfInBounds_toArray, List.set_cons_zero, List.set_cons_succ]
                        refine wpAnyH_take (i := 9) (v := ?_) rfl (by kernel_rfl) (by kernel_rfl) (by kernel_rfl) (fun _ _ _ h => h) (Or.inl ⟨by rfl, ?_⟩) hHeld ?_
                        rotate_left
                        · (intro wz _; go_simp; try with_reducible rfl)
                        try simp only [List.getElem_toArray, List.getElem_cons_succ, List.getElem_cons_zero, Act.put, List.setIfInBounds_toArray, List.set_cons_zero, List.set_cons_succ]
                        refine wpAnyH_take (i := 10) (v := _) rfl (by kernel_rfl) (by kernel_rfl) (by kernel_rfl) (fun _ _ _ h => h) (yields_load1 rfl 40 _ rfl rfl hqb d1 Try.underlying40 rfl) hHeld ?_
                        try simp only [List.getElem_toArray, List.getElem_cons_succ, List.getElem_cons_zero, Act.put, List.setIfInBounds_toArray, List.set_cons_zero, List.set_cons_succ]
                        refine wpAnyH_take (i := 11) (v := ?_) rfl (by kernel_rfl) (by kernel_rfl) (by kernel_rfl) (fun _ _ _ h => h) (Or.inl ⟨by rfl, ?_⟩) hHeld ?_
                        rotate_left
                        · (intro wz _; go_simp; try with_reducible rfl)
                        try simp only [List.getElem_toArray, List.getElem_cons_succ, List.getElem_cons_zero, Act.put, List.setIfInBounds_toArray, List.set_cons_zero, List.set_cons_succ]
                        refine wpAnyH_take (i := 12) (v := ?_) rfl (by kernel_rfl) (by kernel_rfl) (by kernel_rfl) (fun _ _ _ h => h) (Or.inl ⟨by rfl, ?_⟩) hHeld ?_
                        rotate_left
                        · (intro wz _; go_simp; try with_reducible rfl)
                        try simp only [List.getElem_toArray, List.getElem_cons_succ, List.getElem_cons_zero, Act.put, List.setIfInBounds_toArray, List.set_cons_zero, List.set_cons_succ]
                        replace h := h.drew
                        generalize w.drew = wq at h hHeld ⊢
                        clear w hqb d0 d1 FT
                        obtain ⟨w, rfl⟩ : ∃ q : World, q = wq := ⟨_, rfl⟩
                        refine wpAnyH_ready (rs := [13]) (by kernel_rfl) (by simp) ?_
                        refine AllReadyH.cons rfl (fun K hK => ?_) AllReadyH.nil
                        (refine step_alloc h rfl 75 rfl _ zHeld ?_; clear h hHeld; intro b19 w h hn19)
                        refine hK.out _ _ (h.le (Mm.le_upd' hn19 _)) (fun hHeld => ?_)
                        clear hK K
                        try simp only [Act.put, List.setIfInBounds_toArray, List.set_cons_zero, List.set_cons_succ]
                        refine wpAnyH_ready (rs := [14]) (by kernel_rfl) (by simp) ?_
                        refine AllReadyH.cons rfl (fun K hK => ?_) AllReadyH.nil
                        (refine step_storeAll (cells := #[.int .i64 0, .int .i64 z0]) h rfl 75 _ _ rfl rfl rfl (Mm.upd_same _ _ _) rfl rfl (by kernel_rfl) rfl ?_; clear h hHeld; intro w h; rw [Mm.upd_upd] at h)
                        refine hK.out _ _ (h.le (Mm.le_upd' hn19 _)) (fun hHeld => ?_)
                        clear hK K
                        try simp only [Act.put, List.setIfInBounds_toArray, List.set_cons_zero, List.set_cons_succ]
                        refine wpAnyH_done (by kernel_rfl) ?_ _
                        clear hHeld
                        have hle9 := Mm.le_upd' hn19 (.cells #[.int .i64 0, .int .i64 z0] 75)
                        have hb19 := Mm.upd_same M7 b19 (.cells #[.int .i64 0, .int .i64 z0] 75)
                        generalize M7.upd b19 _ = M9 at h hle9 hb19
                        have e19 : (#[.int .i64 0, .int .i64 z0] : Array Value)[0]? = some (.int .i64 0) := rfl
                        replace hbm7 := hle9 _ _ hbm7
                        go_wp2_with (first
                          | (with_reducible show wpList _ _ _ ({ dst := _, op := Op.load 3 _, type := _, pos := _, after := _, guard := _ } :: _) _ _; refine wpList_load1_has h rfl 3 _ rfl rfl hb19 e19 Try.underlying3 rfl ?_)
                          | (with_reducible show wpList _ _ _ ({ dst := _, op := Op.load 4 _, type := _, pos := _, after := _, guard := _ } :: _) _ _; refine wpList_load1_has h rfl 4 _ rfl rfl hbm7 eB Try.underlying4 rfl ?_))
                        go_roundw
                        case rel => exact ⟨i + 1, M9, _, K7, labK7, s5, fh3, fv, had3, ev, seen (levT c) tn Lf Lf5 emp3, by have := HLT.out; omega, by first | rfl | (have := HLT.out; go_num), h, HM7.out.keep (Kp.le hle9 fun _ => 0) (fun _ _ h => h), HB7.out.keep (Kp.le hle9 fun _ => 0) (fun h => h), HS7.out, HA7.out, ⟨fun l => Nat.le_trans (HEV.out l) (Nat.le_succ _), ⟨a + 1, m3 + 1, g5, Lf5, ow5, by have := HBD.out; omega, by have := HBD.out; omega, HA5.out, by have := HN5.out.inv; rw [HE.out.1, HE.out.2] at this; exact this⟩⟩⟩
                        case measure => have := HLT.out; simp [intOf]; omega
                    · as_aux_lemma =>
                        have wx : IntKind.i64.wrap (x0 : Int) = (x0 : Int) := IntWalk.i64_in _ (by omega)
                        have wz : IntKind.i64.wrap (y0 : Int) = (y0 : Int) := IntWalk.i64_in _ (by omega)
                        have gx : ((x0 : Int) == 0) = false := by rw [int_eq0]; simp; omega
                        have gx2 : (x0 == 0) = false := by simp; omega
                        have gx3 : ¬ (x0 : Int) = 0 := by omega
                        have HK := Lib.hid (⟨k1, k2, k4, k5, k6, k7⟩ : 1 ≤ x0 ∧ x0 ≤ S ∧ (x0, y0) ∉ ev lv ∧ had5 = put1 had3 tn (had3 tn ++ [x0]) ∧ ev5 = put1 ev lv (ev lv ++ [(x0, y0)]) ∧ (g5.lv lv).held x0 = true)
                        clear k1 k2 k3 k4 k5 k6 k7
                        go_upto_region 32 with (first
                          | (with_reducible show wpList _ _ _ ({ dst := _, op := Op.load 3 _, type := _, pos := _, after := _, guard := _ } :: _) _ _; refine wpList_load1_has h rfl 3 _ rfl rfl hbf7 r1 Try.underlying3 rfl ?_)
                          | (go_at_call 16; refine (FT.out _ h).mono ?_; clear h; rintro _ w ⟨rfl, h⟩))
                        refine wp_region_held_drew (S := Has σ (M7)) (by kernel_rfl) (h.drew) (fun hHeld => ?_)
                        refine wpAnyH_take (i := 0) (v := ?_) rfl (by kernel_rfl) (by kernel_rfl) (by kernel_rfl) (fun _ _ _ h => h) (Or.inl ⟨by rfl, ?_⟩) hHeld ?_
                        rotate_left
                        · (intro wz _; go_simp; try with_reducible rfl)
                        try simp only [List.getElem_toArray, List.getElem_cons_succ, List.getElem_cons_zero, Act.put, List.setIfInBounds_toArray, List.set_cons_zero, List.set_cons_succ]
                        refine wpAnyH_take (i := 1) (v := ?_) rfl (by kernel_rfl) (by kernel_rfl) (by kernel_rfl) (fun _ _ _ h => h) (Or.inl ⟨by rfl, ?_⟩) hHeld ?_
                        rotate_left
                        · (intro wz _; go_simp; try with_reducible rfl)
                        try simp only [List.getElem_toArray, List.getElem_cons_succ, List.getElem_cons_zero, Act.put, List.setIfInBounds_toArray, List.set_cons_zero, List.set_cons_succ]
                        refine wpAnyH_take (i := 2) (v := ?_) rfl (by kernel_rfl) (by kernel_rfl) (by kernel_rfl) (fun _ _ _ h => h) (Or.inl ⟨by rfl, ?_⟩) hHeld ?_
                        rotate_left
                        · (intro wz _; go_simp; try with_reducible rfl)
                        try simp only [List.getElem_toArray, List.getElem_cons_succ, List.getElem_cons_zero, Act.put, List.setIfInBounds_toArray, List.set_cons_zero, List.set_cons_succ]
                        refine wpAnyH_take (i := 3) (v := ?_) rfl (by kernel_rfl) (by kernel_rfl) (by kernel_rfl) (fun _ _ _ h => h) (Or.inl ⟨by rfl, ?_⟩) hHeld ?_
                        rotate_left
                        · (intro wz _; go_simp; try with_reducible rfl)
                        try simp only [List.getElem_toArray, List.getElem_cons_succ, List.getElem_cons_zero, Act.put, List.setIfInBounds_toArray, List.set_cons_zero, List.set_cons_succ]
                        refine wpAnyH_take (i := 4) (v := _) rfl (by kernel_rfl) (by kernel_rfl) (by kernel_rfl) (fun _ _ _ h => h) (yields_load1 rfl 40 _ rfl rfl hqb d0 Try.underlying40 rfl) hHeld ?_
                        try simp only [List.getElem_toArray, List.getElem_cons_succ, List.getElem_cons_zero, Act.put, List.setIfInBounds_toArray, List.set_cons_zero, List.set_cons_succ]
                        refine wpAnyH_take (i := 5) (v := ?_) rfl (by kernel_rfl) (by kernel_rfl) (by kernel_rfl) (fun _ _ _ h => h) (Or.inl ⟨by rfl, ?_⟩) hHeld ?_
                        rotate_left
                        · (intro wz _; go_simp; try with_reducible rfl)
                        try simp only [List.getElem_toArray, List.getElem_cons_succ, List.getElem_cons_zero, Act.put, List.setIfInBounds_toArray, List.set_cons_zero, List.set_cons_succ]
                        refine wpAnyH_take (i := 6) (v := ?_) rfl (by kernel_rfl) (by kernel_rfl) (by kernel_rfl) (fun _ _ _ h => h) (Or.inl ⟨by rfl, ?_⟩) hHeld ?_
                        rotate_left
                        · (intro wz _; go_simp; try with_reducible rfl)
                        try simp only [List.getElem_toArray, List.getElem_cons_succ, List.getElem_cons_zero, Act.put, List.setIfInBounds_toArray, List.set_cons_zero, List.set_cons_succ]
                        refine wpAnyH_take (i := 7) (v := ?_) rfl (by kernel_rfl) (by kernel_rfl) (by kernel_rfl) (fun _ _ _ h => h) (Or.inl ⟨by rfl, ?_⟩) hHeld ?_
                        rotate_left
                        · (intro wz _; go_simp; try with_reducible rfl)
                        try simp only [List.getElem_toArray, List.getElem_cons_succ, List.getElem_cons_zero, Act.put, List.setIfInBounds_toArray, List.set_cons_zero, List.set_cons_succ]
                        refine wpAnyH_take (i := 8) (v := ?_) rfl (by kernel_rfl) (by kernel_rfl) (by kernel_rfl) (fun _ _ _ h => h) (Or.inl ⟨by rfl, ?_⟩) hHeld ?_
                        rotate_left
                        · (intro wz _; go_simp; try with_reducible rfl)
                        try simp only [List.getElem_toArray, List.getElem_cons_succ, List.getElem_cons_zero, Act.put, List.setIfInBounds_toArray, List.set_cons_zero, List.set_cons_succ]
                        refine wpAnyH_take (i := 9) (v := ?_) rfl (by kernel_rfl) (by kernel_rfl) (by kernel_rfl) (fun _ _ _ h => h) (Or.inl ⟨by rfl, ?_⟩) hHeld ?_
                        rotate_left
                        · (intro wz _; go_simp; try with_reducible rfl)
                        try simp only [List.getElem_toArray, List.getElem_cons_succ, List.getElem_cons_zero, Act.put, List.setIfInBounds_toArray, List.set_cons_zero, List.set_cons_succ]
                        refine wpAnyH_take (i := 10) (v := _) rfl (by kernel_rfl) (by kernel_rfl) (by kernel_rfl) (fun _ _ _ h => h) (yields_load1 rfl 40 _ rfl rfl hqb d1 Try.underlying40 rfl) hHeld ?_
                        try simp only [List.getElem_toArray, List.getElem_cons_succ, List.getElem_cons_zero, Act.put, List.setIfInBounds_toArray, List.set_cons_zero, List.set_cons_succ]
                        refine wpAnyH_take (i := 11) (v := ?_) rfl (by kernel_rfl) (by kernel_rfl) (by kernel_rfl) (fun _ _ _ h => h) (Or.inl ⟨by rfl, ?_⟩) hHeld ?_
                        rotate_left
                        · (intro wz _; go_simp; try with_reducible rfl)
                        try simp only [List.getElem_toArray, List.getElem_cons_succ, List.getElem_cons_zero, Act.put, List.setIfInBounds_toArray, List.set_cons_zero, List.set_cons_succ]
                        refine wpAnyH_take (i := 12) (v := ?_) rfl (by kernel_rfl) (by kernel_rfl) (by kernel_rfl) (fun _ _ _ h => h) (Or.inl ⟨by rfl, ?_⟩) hHeld ?_
                        rotate_left
                        · (intro wz _; go_simp; try with_reducible rfl)
                        try simp only [List.getElem_toArray, List.getElem_cons_succ, List.getElem_cons_zero, Act.put, List.setIfInBounds_toArray, List.set_cons_zero, List.set_cons_succ]
                        replace h := h.drew
                        generalize w.drew = wq at h hHeld ⊢
                        clear w hqb d0 d1 FT
                        obtain ⟨w, rfl⟩ : ∃ q : World, q = wq := ⟨_, rfl⟩
                        refine wpAnyH_ready (rs := [13]) (by kernel_rfl) (by simp) ?_
                        refine AllReadyH.cons rfl (fun K hK => ?_) AllReadyH.nil
                        (refine step_alloc h rfl 75 rfl _ zHeld ?_; clear h hHeld; intro b19 w h hn19)
                        refine hK.out _ _ (h.le (Mm.le_upd' hn19 _)) (fun hHeld => ?_)
                        clear hK K
                        try simp only [Act.put, List.setIfInBounds_toArray, List.set_cons_zero, List.set_cons_succ]
                        refine wpAnyH_ready (rs := [14]) (by kernel_rfl) (by simp) ?_
                        refine AllReadyH.cons rfl (fun K hK => ?_) AllReadyH.nil
                        (refine step_storeAll (cells := #[.int .i64 x0, .int .i64 y0]) h rfl 75 _ _ rfl rfl rfl (Mm.upd_same _ _ _) rfl rfl (by kernel_rfl) rfl ?_; clear h hHeld; intro w h; rw [Mm.upd_upd] at h)
                        refine hK.out _ _ (h.le (Mm.le_upd' hn19 _)) (fun hHeld => ?_)
                        clear hK K
                        try simp only [Act.put, List.setIfInBounds_toArray, List.set_cons_zero, List.set_cons_succ]
                        refine wpAnyH_done (by kernel_rfl) ?_ _
                        clear hHeld
                        have hle9 := Mm.le_upd' hn19 (.cells #[.int .i64 x0, .int .i64 y0] 75)
                        have hb19 := Mm.upd_same M7 b19 (.cells #[.int .i64 x0, .int .i64 y0] 75)
                        generalize M7.upd b19 _ = M9 at h hle9 hb19
                        have e19 : (#[.int .i64 x0, .int .i64 y0] : Array Value)[0]? = some (.int .i64 x0) := rfl
                        clear wx wz
                        obtain ⟨lab9, hM9, hB9⟩ := HM7.out.learn HB7.out hle9
                        have hkp9 := learn_kp HB7.out.le M9 labK7
                        have hA9 := HA7.out.keep hkp9
                        have hS9 := Mm.le_trans HS7.out (stable_kp hkp9 (fun h => h))
                        have hk7 : K7 b19 = none := Mm.none_of HB7.out.le hn19
                        have hst19 : stable (learn K7 M7 M9) (relab K7 labK7 fun _ => 0) b19 = some (.cells #[.int .i64 x0, .int .i64 y0] 75) := by
                          unfold stable learn relab
                          rw [hn19, hk7]
                          exact hb19
                        generalize learn K7 M7 M9 = K9 at *
                        generalize relab K7 labK7 (fun _ => 0) = labK9 at *
                        obtain ⟨curV, hcbV, hcuV⟩ := Own.at_ hA9.vrow
                        have hE := hA9.veach lv ll
                        obtain ⟨Av, cv, hfv⟩ := hE.form
                        obtain ⟨nv, hnv⟩ : ∃ nv, (ev lv).length = nv := ⟨_, rfl⟩
                        have eV : curV[lv]? = some (.slice Av nv cv) := by
                          rw [← hnv, ← hfv]
                          exact hcuV lv _ (by rw [List.getElem?_map, List.getElem?_range ll]; rfl)
                        have hbmV := hB9.le _ _ hcbV
                        rw [hfv, hnv] at hE
                        have hnv600 : nv ≤ 600 := by have h1 := HEV.out lv; have h2 := HLT.out; rw [hnv] at h1; omega
                        have hrdV : Rd M9 2 (.slice Av nv cv) nv ((ev lv).flatMap encP) := hE.rd.le hB9.le
                        have hOV := hE.up hB9.le
                        have hOVle := outK_le K9 M9 labK9 (30 + lv)
                        have HM9 := Lib.hid hM9
                        have HB9 := Lib.hid hB9
                        have HS9 := Lib.hid hS9
                        have HA9 := Lib.hid hA9
                        have HNV := Lib.hid hnv
                        have HST19 := Lib.hid hst19
                        have hll : (lv : Int) < (L : Int) := by omega
                        clear hkp9 hM9 hB9 hS9 hA9 hk7 hst19 hcbV hcuV hE hfv hle9 hn19 hnv HM7 HB7 HS7 HA7 hbf7
                        go_upto_region 37 with (first
                          | (with_reducible show wpList _ _ _ ({ dst := _, op := Op.load 3 _, type := _, pos := _, after := _, guard := _ } :: _) _ _; refine wpList_load1_has h rfl 3 _ rfl rfl hb19 e19 Try.underlying3 rfl ?_))
                        clear gx gx2 gx3
                        go_loopw [20] (fun u wr => ∃ j, j ≤ nv ∧ u = .int .i64 (j : Nat) ∧ Has σ M9 wr) (fun u _ => nv - (intOf u).toNat)
                        case atStart => exact ⟨0, Nat.zero_le _, rfl, h⟩
                        case round =>
                          clear h w
                          obtain ⟨w, rfl⟩ : ∃ x : World, x = wr := ⟨_, rfl⟩
                          obtain ⟨j, hj, rfl, h⟩ := hrel
                          by_cases hjn : j < nv
                          · obtain ⟨e, he⟩ : ∃ e, (ev lv)[j]? = some e := ⟨_, List.getElem?_eq_getElem (by rw [HNV.out]; exact hjn)⟩
                            obtain ⟨bl, ol, cl, csl, tl2, fzl, hle, hbl, hcl⟩ := hrdV.elem (enc := encP) encP_len hjn he
                            obtain ⟨ea, ec⟩ := e
                            cases hle
                            have hxx : csl.extract (ol + j * 2) (ol + j * 2 + 2) = #[.int .i64 (ea : Nat), .int .i64 (ec : Nat)] := extract_of (xs := encP (ea, ec)) (fun k u hu => hcl k u hu) rfl
                            have hxz : (#[.int .i64 (ea : Nat), .int .i64 (ec : Nat)] : Array Value).size = 2 := rfl
                            have hyx : (#[.int .i64 (x0 : Nat), .int .i64 (y0 : Nat)] : Array Value).extract 0 (0 + 2) = #[.int .i64 (x0 : Nat), .int .i64 (y0 : Nat)] := rfl
                            have hyz : (#[.int .i64 (x0 : Nat), .int .i64 (y0 : Nat)] : Array Value).size = 2 := rfl
                            have SQ := Lib.hid (held_differ he HK.out.2.2.1)
                            have HJN := Lib.hid hjn
                            have hjn' : (j : Int) < (nv : Int) := by omega
                            have wj : IntKind.i64.wrap ((j : Int) + 1) = ((j + 1 : Nat) : Int) := by rw [show (j : Int) + 1 = ((j + 1 : Nat) : Int) by omega]; exact IntWalk.i64_in _ (by omega)
                            clear he hcl hjn hj
                            go_upto_region 39 with (first
                              | (with_reducible show wpList _ _ _ ({ dst := _, op := Op.load 76 _, type := _, pos := _, after := _, guard := _ } :: _) _ _; refine wpList_load1_has h rfl 76 _ rfl rfl hbmV eV Try.underlying76 rfl ?_))
                            refine wp_region_class (Has σ M9) (by kernel_rfl) (by kernel_rfl) h.drew ?_
                            clear h
                            repeat (first
                              | go_big_quiet_skip
                              | (go_big_quiet_want; first
                                | (refine quiet_load_has 76 _ rfl rfl hbmV eV Try.underlying76 rfl ?_; simp only [Act.put, List.setIfInBounds_toArray, List.set_cons_zero, List.set_cons_succ]; go_big_quiet_on)
                                | (refine quiet_agg_has 75 _ rfl rfl hbl hxx hxz Try.underlying75 rfl (by kernel_rfl) ?_; simp only [Act.put, List.setIfInBounds_toArray, List.set_cons_zero, List.set_cons_succ]; go_big_quiet_on)
                                | (refine quiet_agg_has 75 _ rfl rfl hb19 hyx hyz Try.underlying75 rfl (by kernel_rfl) ?_; simp only [Act.put, List.setIfInBounds_toArray, List.set_cons_zero, List.set_cons_succ]; go_big_quiet_on)
                                | (refine quiet_eql_flat 75 _ _ _ rfl rfl rfl 10 (by omega) (ks := heldKs) (by kernel_rfl) rfl (by kernel_rfl) Try.underlying75 rfl (by kernel_rfl) (fits_held _ _) (fits_held _ _) ?_; rw [SQ.out]; simp only [Act.put, List.setIfInBounds_toArray, List.set_cons_zero, List.set_cons_succ]; go_big_quiet_on)
                                | (go_big_quiet_op; first | go_big_quiet_on | go_big_quiet_call (first | with_reducible exact fun _ => rfl))))
                            refine wpQuiet_nil ?_
                            try clear w
                            intro w h
                            go_wp2
                            go_roundw
                            case rel => exact ⟨j + 1, by have := HJN.out; omega, by go_num, h⟩
                            case measure => have := HJN.out; simp [intOf]; omega
                          · obtain rfl : nv = j := by omega
                            have hjn' : ¬ (nv : Int) < (nv : Int) := by omega
                            clear hjn hj
                            have WD : Hid (∀ w : World, Has σ M9 w → _) := Lib.hid fun w h => mWarden_eq h HM9.out
                            have LK := Lib.hid (crLink_eq (σ := σ) (l := lv) HM9.out HA5.out HNU.out (by have := HBD.out; have := HLT.out; omega) HK.out.2.1)
                            have LE := Lib.hid (crLeads_eq (σ := σ) HM9.out HA5.out HNU.out (by have := HBD.out; have := HLT.out; omega) ll HK.out.1 HK.out.2.1 HK.out.2.2.2.2.2)
                            generalize s5.ward.link _ _ = lnk at LK LE
                            go_upto_region 41 with (first
                              | (with_reducible show wpList _ _ _ ({ dst := _, op := Op.load 76 _, type := _, pos := _, after := _, guard := _ } :: _) _ _; refine wpList_load1_has h rfl 76 _ rfl rfl hbmV eV Try.underlying76 rfl ?_))
                            refine wp_region_class (Has σ M9) (by kernel_rfl) (by kernel_rfl) h.drew ?_
                            clear h
                            repeat (first
                              | go_big_quiet_skip
                              | (go_big_quiet_want; first
                                | (refine quiet_load_has 3 _ rfl rfl hb19 e19 Try.underlying3 rfl ?_; simp only [Act.put, List.setIfInBounds_toArray, List.set_cons_zero, List.set_cons_succ]; go_big_quiet_on)
                                | (go_big_quiet_op; first | go_big_quiet_on | go_big_quiet_call (first | with_reducible exact fun _ => rfl | with_reducible exact WD.out _ | with_reducible exact LK.out _ | with_reducible exact LE.out _))))
                            refine wpQuiet_nil ?_
                            try clear w
                            intro w h
                            clear WD LK LE
                            go_upto_region 43 with (fail)
                            have hyx : (#[.int .i64 (x0 : Nat), .int .i64 (y0 : Nat)] : Array Value).extract 0 (0 + 2) = #[.int .i64 (x0 : Nat), .int .i64 (y0 : Nat)] := rfl
                            have hyz : (#[.int .i64 (x0 : Nat), .int .i64 (y0 : Nat)] : Array Value).size = 2 := rfl
                            have hg19 := Mm.one_get b19 (.cells #[.int .i64 (x0 : Nat), .int .i64 (y0 : Nat)] 75)
                            have hst6 := stable_outK (j := 30 + lv) HB9.out.le (by omega) _ _ HST19.out
                            go_cut [] from 54 to 253 (fun wx => ∃ (M8 : Mm) (lab8 : Nat → Nat) (K8 : Mm) (labK8 : Nat → Nat) (fv8 : Nat → Value), Has σ M8 wx ∧ Mach M8 lab8 p s5 ∧ Base K8 M8 lab8 ∧ M1.le (stable K8 labK8) ∧ stable K8 labK8 b19 = some (.cells #[.int .i64 (x0 : Nat), .int .i64 (y0 : Nat)] 75) ∧ LawC K8 labK8 T L (.slice (some ⟨bh, 0, none⟩) T T) (.slice (some ⟨bb, 0, none⟩) T T) (.slice (some ⟨bv, 0, none⟩) L L) fh3 fv8 had3 (put1 ev lv (ev lv ++ [(x0, y0)])) (seen (levT c) tn Lf Lf5 emp3))
                            case first =>
                              as_aux_lemma =>
                                refine wp_region_held_drew (S := Has σ (Mm.one b19 (.cells #[.int .i64 (x0 : Nat), .int .i64 (y0 : Nat)] 75))) (by kernel_rfl) (h.drew.le (Mm.one_le hb19)) (fun hHeld => ?_)
                                refine wpAnyH_take (i := 0) (v := ?_) rfl (by kernel_rfl) (by kernel_rfl) (by kernel_rfl) (fun _ _ _ h => h) (Or.inl ⟨by rfl, ?_⟩) hHeld ?_
                                rotate_left
                                · (intro wz _; go_simp; try with_reducible rfl)
                                try simp only [List.getElem_toArray, List.getElem_cons_succ, List.getElem_cons_zero, Act.put, List.setIfInBounds_toArray, List.set_cons_zero, List.set_cons_succ]
                                refine wpAnyH_take (i := 1) (v := ?_) rfl (by kernel_rfl) (by kernel_rfl) (by kernel_rfl) (fun _ _ _ h => h) (Or.inl ⟨by rfl, ?_⟩) hHeld ?_
                                rotate_left
                                · (intro wz _; go_simp; try with_reducible rfl)
                                try simp only [List.getElem_toArray, List.getElem_cons_succ, List.getElem_cons_zero, Act.put, List.setIfInBounds_toArray, List.set_cons_zero, List.set_cons_succ]
                                refine wpAnyH_take (i := 2) (v := ?_) rfl (by kernel_rfl) (by kernel_rfl) (by kernel_rfl) (fun _ _ _ h => h) (Or.inl ⟨by rfl, ?_⟩) hHeld ?_
                                rotate_left
                                · (intro wz _; go_simp; try with_reducible rfl)
                                try simp only [List.getElem_toArray, List.getElem_cons_succ, List.getElem_cons_zero, Act.put, List.setIfInBounds_toArray, List.set_cons_zero, List.set_cons_succ]
                                refine wpAnyH_take (i := 3) (v := ?_) rfl (by kernel_rfl) (by kernel_rfl) (by kernel_rfl) (fun _ _ _ h => h) (Or.inl ⟨by rfl, ?_⟩) hHeld ?_
                                rotate_left
                                · (intro wz _; go_simp; try with_reducible rfl)
                                try simp only [List.getElem_toArray, List.getElem_cons_succ, List.getElem_cons_zero, Act.put, List.setIfInBounds_toArray, List.set_cons_zero, List.set_cons_succ]
                                refine wpAnyH_take (i := 4) (v := ?_) rfl (by kernel_rfl) (by kernel_rfl) (by kernel_rfl) (fun _ _ _ h => h) (Or.inl ⟨by rfl, ?_⟩) hHeld ?_
                                rotate_left
                                · (intro wz _; go_simp; try with_reducible rfl)
                                try simp only [List.getElem_toArray, List.getElem_cons_succ, List.getElem_cons_zero, Act.put, List.setIfInBounds_toArray, List.set_cons_zero, List.set_cons_succ]
                                refine wpAnyH_take (i := 6) (v := _) rfl (by kernel_rfl) (by kernel_rfl) (by kernel_rfl) (fun _ _ _ h => h) (yields_agg rfl 75 _ rfl rfl hg19 hyx hyz Try.underlying75 rfl (by kernel_rfl)) hHeld ?_
                                try simp only [List.getElem_toArray, List.getElem_cons_succ, List.getElem_cons_zero, Act.put, List.setIfInBounds_toArray, List.set_cons_zero, List.set_cons_succ]
                                replace h := h.drew
                                generalize w.drew = wq at h hHeld ⊢
                                clear w hyx hyz
                                obtain ⟨w, rfl⟩ : ∃ q : World, q = wq := ⟨_, rfl⟩
                                refine wpAnyH_ready (rs := [5, 7]) (by kernel_rfl) (by simp) ?_
                                refine AllReadyH.cons rfl (fun K hK => ?_) (AllReadyH.cons rfl (fun K hK => ?_) AllReadyH.nil)
                                · skip
                                  refine step_yields rfl (yields_load1 rfl 76 _ rfl rfl hbmV eV Try.underlying76 rfl) h ?_
                                  refine hK.out _ _ hHeld (fun hHeld => ?_)
                                  clear hK K
                                  simp only [Act.put, List.setIfInBounds_toArray, List.set_cons_zero, List.set_cons_succ]
                                  refine wpAnyH_ready (rs := [7]) (by kernel_rfl) (by simp) ?_
                                  refine AllReadyH.cons rfl (fun K hK => ?_) AllReadyH.nil
                                  go_simp
                                  refine hK.out _ _ ((h.quietAlloc _).le (Mm.one_le hb19)) (fun hHeld => ?_)
                                  clear hK K
                                  try simp only [Act.put, List.setIfInBounds_toArray, List.set_cons_zero, List.set_cons_succ]
                                  refine wpAnyH_ready (rs := [8]) (by kernel_rfl) (by simp) ?_
                                  refine AllReadyH.cons rfl (fun K hK => ?_) AllReadyH.nil
                                  (refine step_applit h hOVle rfl _ _ _ rfl rfl Try.underlying76 info_held rfl (by omega) rfl hOV rfl rfl rfl (by omega) (by omega) ?_; clear h hHeld hOVle hOV; intro v w hacc; obtain ⟨M6, h, hle6, hown6⟩ := hacc)
                                  refine hK.out _ _ (h.le (Mm.one_le (hle6 _ _ hst6))) (fun hHeld => ?_)
                                  clear hK K
                                  try simp only [Act.put, List.setIfInBounds_toArray, List.set_cons_zero, List.set_cons_succ]
                                  obtain ⟨A6, c6, rfl⟩ := hown6.form
                                  obtain ⟨lab6, K6, labK6, hM6, hB6, hK6, hR6⟩ := HM9.out.rowTo HB9.out hle6 hown6
                                  have hV6 := ((HA9.out.vrow).keep hK6 (by omega)).up hB6.le
                                  have hVle6 := outK_le K6 M6 labK6 4
                                  have hst7 := stable_kp hK6 (show ¬ 0 = 30 + lv by omega) _ _ HST19.out
                                  have hst8 := stable_outK (j := 4) hB6.le (by omega) _ _ hst7
                                  refine wpAnyH_take (i := 9) (v := ?_) rfl (by kernel_rfl) (by kernel_rfl) (by kernel_rfl) (fun _ _ _ h => h) (Or.inl ⟨by rfl, ?_⟩) hHeld ?_
                                  rotate_left
                                  · (intro wz _; go_simp; try with_reducible rfl)
                                  try simp only [List.getElem_toArray, List.getElem_cons_succ, List.getElem_cons_zero, Act.put, List.setIfInBounds_toArray, List.set_cons_zero, List.set_cons_succ]
                                  refine wpAnyH_ready (rs := [10]) (by kernel_rfl) (by simp) ?_
                                  refine AllReadyH.cons rfl (fun K hK => ?_) AllReadyH.nil
                                  (refine step_putOne h hVle6 hV6 rfl 76 _ _ rfl rfl (k := lv) rfl ll (u := .slice A6 (nv + 1) c6) rfl rfl (by kernel_rfl) ?_; clear h hHeld hVle6 hV6; intro w M8 h hle8 hown8)
                                  refine hK.out _ _ (h.le (Mm.one_le (hle8 _ _ hst8))) (fun hHeld => ?_)
                                  clear hK K
                                  try simp only [Act.put, List.setIfInBounds_toArray, List.set_cons_zero, List.set_cons_succ]
                                  refine wpAnyH_done (by kernel_rfl) ?_ _
                                  obtain ⟨lab8, K8, labK8, hM8, hB8, hK8, hR8⟩ := hM6.rowTo hB6 hle8 hown8
                                  have hA8 := HA9.out.setV hT0 ll hK6 (e2 := ev lv ++ [(x0, y0)]) (by rw [List.flatMap_append, List.length_append, HNV.out]; exact hR6) hK8 hR8
                                  have hS68 := Mm.le_trans (stable_kp hK6 (show ¬ 0 = 30 + lv by omega)) (stable_kp hK8 (show ¬ 0 = 4 by omega))
                                  have hEnd := h
                                  go_wp2_with (fail)
                                  go_meet
                                  case rel => exact ⟨M8, lab8, K8, labK8, _, hEnd, hM8, hB8, Mm.le_trans HS9.out hS68, hS68 _ _ HST19.out, hA8⟩
                                · skip
                                  go_simp
                                  refine hK.out _ _ ((h.quietAlloc _).le (Mm.one_le hb19)) (fun hHeld => ?_)
                                  clear hK K
                                  try simp only [Act.put, List.setIfInBounds_toArray, List.set_cons_zero, List.set_cons_succ]
                                  refine wpAnyH_ready (rs := [5]) (by kernel_rfl) (by simp) ?_
                                  refine AllReadyH.cons rfl (fun K hK => ?_) AllReadyH.nil
                                  refine step_yields rfl (yields_load1 rfl 76 _ rfl rfl hbmV eV Try.underlying76 rfl) (h.quietAlloc _) ?_
                                  refine hK.out _ _ hHeld (fun hHeld => ?_)
                                  clear hK K
                                  simp only [Act.put, List.setIfInBounds_toArray, List.set_cons_zero, List.set_cons_succ]
                                  refine wpAnyH_ready (rs := [8]) (by kernel_rfl) (by simp) ?_
                                  refine AllReadyH.cons rfl (fun K hK => ?_) AllReadyH.nil
                                  (refine step_applit h hOVle rfl _ _ _ rfl rfl Try.underlying76 info_held rfl (by omega) rfl hOV rfl rfl rfl (by omega) (by omega) ?_; clear h hHeld hOVle hOV; intro v w hacc; obtain ⟨M6, h, hle6, hown6⟩ := hacc)
                                  refine hK.out _ _ (h.le (Mm.one_le (hle6 _ _ hst6))) (fun hHeld => ?_)
                                  clear hK K
                                  try simp only [Act.put, List.setIfInBounds_toArray, List.set_cons_zero, List.set_cons_succ]
                                  obtain ⟨A6, c6, rfl⟩ := hown6.form
                                  obtain ⟨lab6, K6, labK6, hM6, hB6, hK6, hR6⟩ := HM9.out.rowTo HB9.out hle6 hown6
                                  have hV6 := ((HA9.out.vrow).keep hK6 (by omega)).up hB6.le
                                  have hVle6 := outK_le K6 M6 labK6 4
                                  have hst7 := stable_kp hK6 (show ¬ 0 = 30 + lv by omega) _ _ HST19.out
                                  have hst8 := stable_outK (j := 4) hB6.le (by omega) _ _ hst7
                                  refine wpAnyH_take (i := 9) (v := ?_) rfl (by kernel_rfl) (by kernel_rfl) (by kernel_rfl) (fun _ _ _ h => h) (Or.inl ⟨by rfl, ?_⟩) hHeld ?_
                                  rotate_left
                                  · (intro wz _; go_simp; try with_reducible rfl)
                                  try simp only [List.getElem_toArray, List.getElem_cons_succ, List.getElem_cons_zero, Act.put, List.setIfInBounds_toArray, List.set_cons_zero, List.set_cons_succ]
                                  refine wpAnyH_ready (rs := [10]) (by kernel_rfl) (by simp) ?_
                                  refine AllReadyH.cons rfl (fun K hK => ?_) AllReadyH.nil
                                  (refine step_putOne h hVle6 hV6 rfl 76 _ _ rfl rfl (k := lv) rfl ll (u := .slice A6 (nv + 1) c6) rfl rfl (by kernel_rfl) ?_; clear h hHeld hVle6 hV6; intro w M8 h hle8 hown8)
                                  refine hK.out _ _ (h.le (Mm.one_le (hle8 _ _ hst8))) (fun hHeld => ?_)
                                  clear hK K
                                  try simp only [Act.put, List.setIfInBounds_toArray, List.set_cons_zero, List.set_cons_succ]
                                  refine wpAnyH_done (by kernel_rfl) ?_ _
                                  obtain ⟨lab8, K8, labK8, hM8, hB8, hK8, hR8⟩ := hM6.rowTo hB6 hle8 hown8
                                  have hA8 := HA9.out.setV hT0 ll hK6 (e2 := ev lv ++ [(x0, y0)]) (by rw [List.flatMap_append, List.length_append, HNV.out]; exact hR6) hK8 hR8
                                  have hS68 := Mm.le_trans (stable_kp hK6 (show ¬ 0 = 30 + lv by omega)) (stable_kp hK8 (show ¬ 0 = 4 by omega))
                                  have hEnd := h
                                  go_wp2_with (fail)
                                  go_meet
                                  case rel => exact ⟨M8, lab8, K8, labK8, _, hEnd, hM8, hB8, Mm.le_trans HS9.out hS68, hS68 _ _ HST19.out, hA8⟩
                            case rest =>
                              obtain ⟨M8, lab8, K8, labK8, fv8, h8, hM8, hB8, hS8, hst8, hA8⟩ := hcut
                              obtain ⟨w, rfl⟩ : ∃ q : World, q = wc := ⟨_, rfl⟩
                              clear h hb19 hbmV eV hrdV hOV hOVle HM9 HB9 HS9 HA9 HST19 hst6 hyx hyz
                              have h := h8
                              clear h8
                              have hb8 := hB8.le _ _ (stable_le _ _ _ _ hst8)
                              obtain ⟨curH5, hcb5, hcu5⟩ := Own.at_ hA8.hrow
                              obtain ⟨Ah5, ch5, hfe5⟩ := (hA8.each tn HTN.out).form
                              obtain ⟨nh5, hnh5⟩ : ∃ k, (had3 tn).length = k := ⟨_, rfl⟩
                              have eH5 : curH5[tn]? = some (.slice Ah5 nh5 ch5) := by
                                rw [← hnh5, ← hfe5]
                                exact hcu5 tn _ (by rw [List.getElem?_map, List.getElem?_range HTN.out]; rfl)
                              have hbm5 := hB8.le _ _ hcb5
                              have hO5 : Own (outK K8 M8 labK8 (10 + tn)) M8 3 1 (.slice Ah5 nh5 ch5) nh5 (natv (had3 tn)) := by rw [← hnh5, ← hfe5]; exact (hA8.each tn HTN.out).up hB8.le
                              have hOle5 := outK_le K8 M8 labK8 (10 + tn)
                              have hn60h : nh5 ≤ S := by
                                rw [← hnh5]
                                exact nodup_le (HI3.out.inv.had tn).nodup fun x hx => ⟨((HI3.out.inv.had tn).all x hx).1, ((HI3.out.inv.had tn).all x hx).2.1⟩
                              have htT : (tn : Int) < (T : Int) := by have := HTN.out; omega
                              have hst9 := stable_outK (j := 10 + tn) hB8.le (by omega) _ _ hst8
                              have HM8 := Lib.hid hM8
                              have HB8 := Lib.hid hB8
                              have HS8 := Lib.hid hS8
                              have HA8 := Lib.hid hA8
                              have HNH5 := Lib.hid hnh5
                              clear hM8 hB8 hS8 hA8 hcb5 hcu5 hfe5 hnh5
                              go_upto_region 44 with (fail)
                              refine wp_region_held_drew (S := Has σ (Mm.one b19 (.cells #[.int .i64 (x0 : Nat), .int .i64 (y0 : Nat)] 75))) (by kernel_rfl) (h.drew.le (Mm.one_le hb8)) (fun hHeld => ?_)
                              refine wpAnyH_take (i := 0) (v := ?_) rfl (by kernel_rfl) (by kernel_rfl) (by kernel_rfl) (fun _ _ _ h => h) (Or.inl ⟨by rfl, ?_⟩) hHeld ?_
                              rotate_left
                              · (intro wz _; go_simp; try with_reducible rfl)
                              try simp only [List.getElem_toArray, List.getElem_cons_succ, List.getElem_cons_zero, Act.put, List.setIfInBounds_toArray, List.set_cons_zero, List.set_cons_succ]
                              refine wpAnyH_take (i := 1) (v := ?_) rfl (by kernel_rfl) (by kernel_rfl) (by kernel_rfl) (fun _ _ _ h => h) (Or.inl ⟨by rfl, ?_⟩) hHeld ?_
                              rotate_left
                              · (intro wz _; go_simp; try with_reducible rfl)
                              try simp only [List.getElem_toArray, List.getElem_cons_succ, List.getElem_cons_zero, Act.put, List.setIfInBounds_toArray, List.set_cons_zero, List.set_cons_succ]
                              refine wpAnyH_take (i := 2) (v := ?_) rfl (by kernel_rfl) (by kernel_rfl) (by kernel_rfl) (fun _ _ _ h => h) (Or.inl ⟨by rfl, ?_⟩) hHeld ?_
                              rotate_left
                              · (intro wz _; go_simp; try with_reducible rfl)
                              try simp only [List.getElem_toArray, List.getElem_cons_succ, List.getElem_cons_zero, Act.put, List.setIfInBounds_toArray, List.set_cons_zero, List.set_cons_succ]
                              refine wpAnyH_take (i := 3) (v := ?_) rfl (by kernel_rfl) (by kernel_rfl) (by kernel_rfl) (fun _ _ _ h => h) (Or.inl ⟨by rfl, ?_⟩) hHeld ?_
                              rotate_left
                              · (intro wz _; go_simp; try with_reducible rfl)
                              try simp only [List.getElem_toArray, List.getElem_cons_succ, List.getElem_cons_zero, Act.put, List.setIfInBounds_toArray, List.set_cons_zero, List.set_cons_succ]
                              refine wpAnyH_take (i := 4) (v := ?_) rfl (by kernel_rfl) (by kernel_rfl) (by kernel_rfl) (fun _ _ _ h => h) (Or.inl ⟨by rfl, ?_⟩) hHeld ?_
                              rotate_left
                              · (intro wz _; go_simp; try with_reducible rfl)
                              try simp only [List.getElem_toArray, List.getElem_cons_succ, List.getElem_cons_zero, Act.put, List.setIfInBounds_toArray, List.set_cons_zero, List.set_cons_succ]
                              refine wpAnyH_take (i := 6) (v := ?_) rfl (by kernel_rfl) (by kernel_rfl) (by kernel_rfl) (fun _ _ _ h => h) (Or.inl ⟨by rfl, ?_⟩) hHeld ?_
                              rotate_left
                              · (intro wz _; go_simp; try with_reducible rfl)
                              try simp only [List.getElem_toArray, List.getElem_cons_succ, List.getElem_cons_zero, Act.put, List.setIfInBounds_toArray, List.set_cons_zero, List.set_cons_succ]
                              refine wpAnyH_take (i := 7) (v := _) rfl (by kernel_rfl) (by kernel_rfl) (by kernel_rfl) (fun _ _ _ h => h) (yields_load1 rfl 3 _ rfl rfl hg19 e19 Try.underlying3 rfl) hHeld ?_
                              try simp only [List.getElem_toArray, List.getElem_cons_succ, List.getElem_cons_zero, Act.put, List.setIfInBounds_toArray, List.set_cons_zero, List.set_cons_succ]
                              replace h := h.drew
                              generalize w.drew = wq at h hHeld ⊢
                              clear w
                              obtain ⟨w, rfl⟩ : ∃ q : World, q = wq := ⟨_, rfl⟩
                              refine wpAnyH_ready (rs := [5, 8]) (by kernel_rfl) (by simp) ?_
                              refine AllReadyH.cons rfl (fun K hK => ?_) (AllReadyH.cons rfl (fun K hK => ?_) AllReadyH.nil)
                              · as_aux_lemma =>
                                  refine step_yields rfl (yields_load1 rfl 47 _ rfl rfl hbm5 eH5 Try.underlying47 rfl) h ?_
                                  refine hK.out _ _ hHeld (fun hHeld => ?_)
                                  clear hK K
                                  simp only [Act.put, List.setIfInBounds_toArray, List.set_cons_zero, List.set_cons_succ]
                                  refine wpAnyH_ready (rs := [8]) (by kernel_rfl) (by simp) ?_
                                  refine AllReadyH.cons rfl (fun K hK => ?_) AllReadyH.nil
                                  go_simp
                                  refine hK.out _ _ ((h.quietAlloc _).le (Mm.one_le hb8)) (fun hHeld => ?_)
                                  clear hK K
                                  try simp only [Act.put, List.setIfInBounds_toArray, List.set_cons_zero, List.set_cons_succ]
                                  refine wpAnyH_ready (rs := [9]) (by kernel_rfl) (by simp) ?_
                                  refine AllReadyH.cons rfl (fun K hK => ?_) AllReadyH.nil
                                  (refine step_applit h hOle5 rfl _ _ _ rfl rfl Try.underlying47 info_int rfl (by omega) rfl hO5 rfl rfl rfl (by omega) (by omega) ?_; clear h hHeld hOle5 hO5; intro v w hacc; obtain ⟨M10, h, hle10, hown10⟩ := hacc)
                                  refine hK.out _ _ (h.le (Mm.one_le (hle10 _ _ hst9))) (fun hHeld => ?_)
                                  clear hK K
                                  try simp only [Act.put, List.setIfInBounds_toArray, List.set_cons_zero, List.set_cons_succ]
                                  obtain ⟨A10, c10, rfl⟩ := hown10.form
                                  obtain ⟨lab10, K10, labK10, hM10, hB10, hK10, hR10⟩ := HM8.out.rowTo HB8.out hle10 hown10
                                  have hH10 := (HA8.out.hrow.keep hK10 (by omega)).up hB10.le
                                  have hHle10 := outK_le K10 M10 labK10 2
                                  have hst10 := stable_outK (j := 2) hB10.le (by omega) _ _ (stable_kp hK10 (show ¬ 0 = 10 + tn by omega) _ _ hst8)
                                  refine wpAnyH_take (i := 10) (v := ?_) rfl (by kernel_rfl) (by kernel_rfl) (by kernel_rfl) (fun _ _ _ h => h) (Or.inl ⟨by rfl, ?_⟩) hHeld ?_
                                  rotate_left
                                  · (intro wz _; go_simp; try with_reducible rfl)
                                  try simp only [List.getElem_toArray, List.getElem_cons_succ, List.getElem_cons_zero, Act.put, List.setIfInBounds_toArray, List.set_cons_zero, List.set_cons_succ]
                                  refine wpAnyH_ready (rs := [11]) (by kernel_rfl) (by simp) ?_
                                  refine AllReadyH.cons rfl (fun K hK => ?_) AllReadyH.nil
                                  (refine step_putOne h hHle10 hH10 rfl 47 _ _ rfl rfl (k := tn) rfl HTN.out (u := .slice A10 (nh5 + 1) c10) rfl rfl (by kernel_rfl) ?_; clear h hHeld hHle10 hH10; intro w M11 h hle11 hown11)
                                  refine hK.out _ _ (h.le (Mm.one_le (hle11 _ _ hst10))) (fun hHeld => ?_)
                                  clear hK K
                                  try simp only [Act.put, List.setIfInBounds_toArray, List.set_cons_zero, List.set_cons_succ]
                                  refine wpAnyH_done (by kernel_rfl) ?_ _
                                  obtain ⟨lab11, K11, labK11, hM11, hB11, hK11, hR11⟩ := hM10.rowTo hB10 hle11 hown11
                                  have hA11 := HA8.out.setH hT0 HTN.out hK10 (h2 := had3 tn ++ [x0]) (by rw [natv_snoc, List.length_append, HNH5.out]; exact hR10) hK11 hR11
                                  have hS11 := Mm.le_trans (Mm.le_trans HS8.out (stable_kp hK10 (show ¬ 0 = 10 + tn by omega))) (stable_kp hK11 (show ¬ 0 = 2 by omega))
                                  have hev : ∀ l, (put1 ev lv (ev lv ++ [(x0, y0)]) l).length ≤ i + 1 := fun l => by
                                    by_cases e : l = lv
                                    · subst e
                                      rw [put1_same, List.length_append]
                                      exact Nat.succ_le_succ (HEV.out _)
                                    · rw [put1_ne e]; exact Nat.le_trans (HEV.out l) (Nat.le_succ _)
                                  have hcw : CwInv c S gens L T tp (i + 1) s5 (put1 had3 tn (had3 tn ++ [x0])) (put1 ev lv (ev lv ++ [(x0, y0)])) (seen (levT c) tn Lf Lf5 emp3) := ⟨hev, ⟨a + 1, m3 + 1, g5, Lf5, ow5, by have := HBD.out; omega, by have := HBD.out; omega, HA5.out, by have := HN5.out.inv; rw [HK.out.2.2.2.1, HK.out.2.2.2.2.1] at this; exact this⟩⟩
                                  have HCW := Lib.hid hcw
                                  clear hev hcw hbm5 eH5 hb8 hg19 e19 hst8 hst9 hst10
                                  go_wp2
                                  go_roundw
                                  case rel => exact ⟨i + 1, M11, lab11, K11, labK11, s5, _, _, _, _, _, by have := HLT.out; omega, by first | rfl | (have := HLT.out; go_num), h, hM11, hB11, hS11, hA11, HCW.out⟩
                                  case measure => have := HLT.out; simp [intOf]; omega
                              · as_aux_lemma =>
                                  go_simp
                                  refine hK.out _ _ ((h.quietAlloc _).le (Mm.one_le hb8)) (fun hHeld => ?_)
                                  clear hK K
                                  try simp only [Act.put, List.setIfInBounds_toArray, List.set_cons_zero, List.set_cons_succ]
                                  refine wpAnyH_ready (rs := [5]) (by kernel_rfl) (by simp) ?_
                                  refine AllReadyH.cons rfl (fun K hK => ?_) AllReadyH.nil
                                  refine step_yields rfl (yields_load1 rfl 47 _ rfl rfl hbm5 eH5 Try.underlying47 rfl) (h.quietAlloc _) ?_
                                  refine hK.out _ _ hHeld (fun hHeld => ?_)
                                  clear hK K
                                  simp only [Act.put, List.setIfInBounds_toArray, List.set_cons_zero, List.set_cons_succ]
                                  refine wpAnyH_ready (rs := [9]) (by kernel_rfl) (by simp) ?_
                                  refine AllReadyH.cons rfl (fun K hK => ?_) AllReadyH.nil
                                  (refine step_applit h hOle5 rfl _ _ _ rfl rfl Try.underlying47 info_int rfl (by omega) rfl hO5 rfl rfl rfl (by omega) (by omega) ?_; clear h hHeld hOle5 hO5; intro v w hacc; obtain ⟨M10, h, hle10, hown10⟩ := hacc)
                                  refine hK.out _ _ (h.le (Mm.one_le (hle10 _ _ hst9))) (fun hHeld => ?_)
                                  clear hK K
                                  try simp only [Act.put, List.setIfInBounds_toArray, List.set_cons_zero, List.set_cons_succ]
                                  obtain ⟨A10, c10, rfl⟩ := hown10.form
                                  obtain ⟨lab10, K10, labK10, hM10, hB10, hK10, hR10⟩ := HM8.out.rowTo HB8.out hle10 hown10
                                  have hH10 := (HA8.out.hrow.keep hK10 (by omega)).up hB10.le
                                  have hHle10 := outK_le K10 M10 labK10 2
                                  have hst10 := stable_outK (j := 2) hB10.le (by omega) _ _ (stable_kp hK10 (show ¬ 0 = 10 + tn by omega) _ _ hst8)
                                  refine wpAnyH_take (i := 10) (v := ?_) rfl (by kernel_rfl) (by kernel_rfl) (by kernel_rfl) (fun _ _ _ h => h) (Or.inl ⟨by rfl, ?_⟩) hHeld ?_
                                  rotate_left
                                  · (intro wz _; go_simp; try with_reducible rfl)
                                  try simp only [List.getElem_toArray, List.getElem_cons_succ, List.getElem_cons_zero, Act.put, List.setIfInBounds_toArray, List.set_cons_zero, List.set_cons_succ]
                                  refine wpAnyH_ready (rs := [11]) (by kernel_rfl) (by simp) ?_
                                  refine AllReadyH.cons rfl (fun K hK => ?_) AllReadyH.nil
                                  (refine step_putOne h hHle10 hH10 rfl 47 _ _ rfl rfl (k := tn) rfl HTN.out (u := .slice A10 (nh5 + 1) c10) rfl rfl (by kernel_rfl) ?_; clear h hHeld hHle10 hH10; intro w M11 h hle11 hown11)
                                  refine hK.out _ _ (h.le (Mm.one_le (hle11 _ _ hst10))) (fun hHeld => ?_)
                                  clear hK K
                                  try simp only [Act.put, List.setIfInBounds_toArray, List.set_cons_zero, List.set_cons_succ]
                                  refine wpAnyH_done (by kernel_rfl) ?_ _
                                  obtain ⟨lab11, K11, labK11, hM11, hB11, hK11, hR11⟩ := hM10.rowTo hB10 hle11 hown11
                                  have hA11 := HA8.out.setH hT0 HTN.out hK10 (h2 := had3 tn ++ [x0]) (by rw [natv_snoc, List.length_append, HNH5.out]; exact hR10) hK11 hR11
                                  have hS11 := Mm.le_trans (Mm.le_trans HS8.out (stable_kp hK10 (show ¬ 0 = 10 + tn by omega))) (stable_kp hK11 (show ¬ 0 = 2 by omega))
                                  have hev : ∀ l, (put1 ev lv (ev lv ++ [(x0, y0)]) l).length ≤ i + 1 := fun l => by
                                    by_cases e : l = lv
                                    · subst e
                                      rw [put1_same, List.length_append]
                                      exact Nat.succ_le_succ (HEV.out _)
                                    · rw [put1_ne e]; exact Nat.le_trans (HEV.out l) (Nat.le_succ _)
                                  have hcw : CwInv c S gens L T tp (i + 1) s5 (put1 had3 tn (had3 tn ++ [x0])) (put1 ev lv (ev lv ++ [(x0, y0)])) (seen (levT c) tn Lf Lf5 emp3) := ⟨hev, ⟨a + 1, m3 + 1, g5, Lf5, ow5, by have := HBD.out; omega, by have := HBD.out; omega, HA5.out, by have := HN5.out.inv; rw [HK.out.2.2.2.1, HK.out.2.2.2.2.1] at this; exact this⟩⟩
                                  have HCW := Lib.hid hcw
                                  clear hev hcw hbm5 eH5 hb8 hg19 e19 hst8 hst9 hst10
                                  go_wp2
                                  go_roundw
                                  case rel => exact ⟨i + 1, M11, lab11, K11, labK11, s5, _, _, _, _, _, by have := HLT.out; omega, by first | rfl | (have := HLT.out; go_num), h, hM11, hB11, hS11, hA11, HCW.out⟩
                                  case measure => have := HLT.out; simp [intOf]; omega
      · have TH := Lib.hid (fun (w : World) (h : Has σ M2 w) => mThread_no h HM2.out et (by obtain ⟨_, _, _, _, _, _, _, hA, _⟩ := HAI.out.all; rw [hA.ttp]; have h1 := HTL.out; have h2 := HT.out; omega))
        clear htt
        go_wp2_with (first
          | (go_at_call 12; refine (TH.out _ h).mono ?_; clear h; rintro _ w ⟨rfl, h⟩))
        go_roundw
        case rel => exact ⟨i + 1, M2, lab2, K2, labK2, s, fh, fv, had, ev, emp, by have := HLT.out; omega, by first | rfl | go_num, h, HM2.out, HB2.out, HS2.out, HA2.out, HAI.out.mono (Nat.le_succ _)⟩
        case measure => have := HLT.out; simp [intOf]; omega
    · obtain rfl : i = n := by omega
      have LI2 := Lib.hid (fun (M' : Mm) (w : World) (h : Has σ M' w) => LI.out M' w h)
      have hlt3 : ¬ (i : Int) < (i : Int) := by omega
      obtain ⟨a, m, g, Lf, ow, ha, hm, hA, hI⟩ := HAI.out.all
      have htp : tp.length = T := by have h1 := HTL.out; have h2 := HT.out; omega
      have OP := Lib.hid (fun (w : World) (h : Has σ M2 w) => open_rel h HM2.out HB2.out (crowd_j HC.out HNU.out HG.out HT.out htp) (x := g) ⟨a, m, Lf, ow, had, ev, emp, hA, hI, by omega, by omega⟩ (by omega) (by omega))
      clear hlt hi hA hI ha hm
      go_upto_region 45 with (fail)
      have e12 : ((12 : Nat) : Int) = 12 := rfl
      rw [e12] at OP
      go_upto_if 260 with (first | (go_at_call 30; refine (OP.out _ h).mono ?_; clear h; rintro _ w ⟨rfl, M3, lab3, g3, s3, h, hM3, hB3, hJ3, hR3⟩; obtain ⟨a3, m3, Lf3, ow3, had3, ev3, emp3, hA3, hI3, _, _⟩ := hJ3; have FT := Lib.hid (fun (w : World) (h : Has σ M3 w) => mFault_eq h hM3); rw [hA3.good] at FT) | (go_at_call 16; refine (FT.out _ h).mono ?_; clear h; rintro _ w ⟨rfl, h⟩))
      have hrest : ∀ t, t < T → g3.thr t = none := fun t ht => (frames_of hA3 (by have := HT.out; omega)).1 (hR3 t (by rw [htp]; exact ht))
      have OD : Hid (∀ (M' : Mm) (w : World) (l : Nat), l < L → Has σ M' w → M3.le M' → Calls Try.prog 23 #[.pointer (some ⟨p, 0, none⟩), .int .i64 (l : Nat)] w fun r w' => r = .returned (.int .i64 0) ∧ ∃ M'', Has σ M'' w' ∧ M'.le M'') := Lib.hid fun M' w l ll h hle => odd_eq h (hM3.keep (Kp.le hle fun _ => 0) fun _ _ h => h) hA3 (by omega) HNU.out HG.out ll (hI3.inv.lv l ll) (fun i _ _ => hI3.rest hrest l i)
      have hbf3 := hB3.le _ _ (stable_le _ _ _ _ (HS2.out _ _ hbf))
      have HB3 := Lib.hid hB3
      clear hA3 hI3 hR3 hrest hM3 hB3 FT OP hbf2 htp e12 hlt3
      go_upto_region 48 with (fail)
      go_loopw [21] (fun u wr => ∃ (l : Nat) (M' : Mm), l ≤ L ∧ u = .int .i64 (l : Nat) ∧ M3.le M' ∧ Has σ M' wr) (fun u _ => L - (intOf u).toNat)
      case atStart => exact ⟨0, M3, Nat.zero_le _, rfl, Mm.le_refl _, h⟩
      case round =>
        clear h w
        obtain ⟨w, rfl⟩ : ∃ x : World, x = wr := ⟨_, rfl⟩
        obtain ⟨l, M4, hl4, rfl, hle4, h⟩ := hrel
        have hbf4 := hle4 _ _ hbf3
        by_cases hll : l < L
        · have ODl := Lib.hid (fun (w : World) (h : Has σ M4 w) => OD.out M4 w l hll h hle4)
          have hll' : (l : Int) < (L : Int) := by omega
          have HLL := Lib.hid hll
          clear hll hl4
          go_wp2_with (first
            | (with_reducible show wpList _ _ _ ({ dst := _, op := Op.load 3 _, type := _, pos := _, after := _, guard := _ } :: _) _ _; refine wpList_load1_has h rfl 3 _ rfl rfl hbf4 r0 Try.underlying3 rfl ?_)
            | (go_at_call 23; refine (ODl.out _ h).mono ?_; clear h; rintro _ w ⟨rfl, M5, h, hle5⟩))
          go_roundw
          case rel => exact ⟨l + 1, M5, by have := HLL.out; omega, by have := HLL.out; go_num, Mm.le_trans hle4 hle5, h⟩
          case measure => have := HLL.out; simp [intOf]; omega
        · obtain rfl : L = l := by omega
          have hll' : ¬ (L : Int) < (L : Int) := by omega
          clear hll hl4
          go_wp2_with (first
            | (with_reducible show wpList _ _ _ ({ dst := _, op := Op.load 3 _, type := _, pos := _, after := _, guard := _ } :: _) _ _; refine wpList_load1_has h rfl 3 _ rfl rfl hbf4 r0 Try.underlying3 rfl ?_)
            | (go_at_call 9; refine (LI2.out M4 _ h).mono ?_; clear h; rintro _ w ⟨rfl, h⟩))
          go_ret
          exact ⟨rfl, h.le (Mm.le_trans HLE1.out (Mm.le_trans HS2.out (Mm.le_trans (stable_le _ _) (Mm.le_trans HB3.out.le hle4))))⟩
end
end Go.Proofs.Ytefjjagejgeedaa
