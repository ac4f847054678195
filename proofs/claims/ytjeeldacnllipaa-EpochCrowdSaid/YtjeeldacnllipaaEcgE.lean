/- Law 23, EpochCrowd: the law's walk. -/
import Derived.Test.YtjeeldacnllipaaEcgG
namespace Go.Proofs.Ytjeeldacnllipaa
section
open Go.RowKit
set_option linter.unusedVariables false
set_option linter.unusedSimpArgs false
set_option linter.unnecessarySimpa false

set_option maxHeartbeats 2000000 in
set_option maxRecDepth 20000 in
theorem epCrowd_no {σ w : World} {M : Mm} (h : Has σ M w) (c : Nat → Int) (A : Option Addr) (n cap : Nat) (hm : confMayB c = false) :
    Calls Try.prog 4 #[confV c, .slice A n cap] w fun r w' => r = .returned (.bool true) ∧ Has σ M w' := by
  have NW := Lib.hid (fun (M' : Mm) (w : World) (h : Has σ M' w) => mNew_no h c hm)
  have RM := Lib.hid (fun (M' : Mm) (w : World) (h : Has σ M' w) => refMay_has h c)
  have LI := Lib.hid (fun (M' : Mm) (w : World) (h : Has σ M' w) => ep_lives h)
  have hx : (ints .i64 14 c).extract 0 (0 + 14) = ints .i64 14 c := rfl
  have hz : (ints .i64 14 c).size = 14 := rfl
  unfold errV at NW
  rw [hm] at RM
  unfold confV at NW RM ⊢
  generalize ints .i64 14 c = row at NW RM hx hz ⊢
  clear hm
  go_enter Try.func4, Try.ntmps4
  go_upto_region 1 with (fail)
  obtain ⟨M1, hbx, hle, hbf, hnf⟩ := h.box (.cells row 24)
  generalize w.alloc _ = wx at hbx ⊢
  generalize w.heap.size = bf at hbf hnf ⊢
  clear h
  try clear w
  have h := hbx
  clear hbx
  obtain ⟨w, rfl⟩ : ∃ x : World, x = wx := ⟨_, rfl⟩
  go_wp2_with (first
    | ((with_reducible show wpList _ _ _ ({ dst := _, op := Op.load 24 _, type := _, pos := _, after := _, guard := _ } :: _) _ _); refine wpList_agg_has h rfl 24 _ rfl rfl hbf hx hz Try.underlying24 rfl (by kernel_rfl) ?_; try simp only [Act.put, List.setIfInBounds_toArray, List.set_cons_zero, List.set_cons_succ])
    | ((go_at_call 6; refine (NW.out _ _ h).mono ?_; clear h; rintro _ w ⟨b, M2, rfl, h, hle2, hn⟩; have hbf := hle2 _ _ hbf))
    | (go_at_call 7; refine (RM.out _ _ h).mono ?_; clear h; rintro _ w ⟨rfl, h⟩)
    | (go_at_call 8; refine (LI.out _ _ h).mono ?_; clear h; rintro _ w ⟨rfl, h⟩))
  go_ret
  exact ⟨rfl, h.le (Mm.le_trans hle hle2)⟩
set_option maxHeartbeats 2000000 in
set_option maxRecDepth 20000 in
theorem epCrowd_many {σ w : World} {M : Mm} (h : Has σ M w) (c : Nat → Int) (hc : ConfMay c) {L B S : Nat} (hn : Nums c L B S) (A : Option Addr) (n cap : Nat) (hm : confMayB c = true) (h60 : 1200 < n) :
    Calls Try.prog 4 #[confV c, .slice A n cap] w fun r w' => r = .returned (.bool true) ∧ Has σ M w' := by
  have NW := Lib.hid (fun (M' : Mm) (w : World) (h : Has σ M' w) => mNew_yes h c hc hn)
  have RM := Lib.hid (fun (M' : Mm) (w : World) (h : Has σ M' w) => refMay_has h c)
  have LI := Lib.hid (fun (M' : Mm) (w : World) (h : Has σ M' w) => ep_lives h)
  have hx : (ints .i64 14 c).extract 0 (0 + 14) = ints .i64 14 c := rfl
  have hz : (ints .i64 14 c).size = 14 := rfl
  have g60 : decide ((1200 : Int) < (n : Int)) = true := decide_eq_true (by omega)
  have g60' : (1200 : Int) < (n : Int) := by omega
  rw [hm] at RM
  unfold confV at NW RM ⊢
  generalize ints .i64 14 c = row at NW RM hx hz ⊢
  clear hm hc hn h60
  go_enter Try.func4, Try.ntmps4
  go_upto_region 1 with (fail)
  obtain ⟨M1, hbx, hle, hbf, hnf⟩ := h.box (.cells row 24)
  generalize w.alloc _ = wx at hbx ⊢
  generalize w.heap.size = bf at hbf hnf ⊢
  clear h
  try clear w
  have h := hbx
  clear hbx
  obtain ⟨w, rfl⟩ : ∃ x : World, x = wx := ⟨_, rfl⟩
  go_wp2_with (first
    | ((with_reducible show wpList _ _ _ ({ dst := _, op := Op.load 24 _, type := _, pos := _, after := _, guard := _ } :: _) _ _); refine wpList_agg_has h rfl 24 _ rfl rfl hbf hx hz Try.underlying24 rfl (by kernel_rfl) ?_; try simp only [Act.put, List.setIfInBounds_toArray, List.set_cons_zero, List.set_cons_succ])
    | ((go_at_call 6; refine (NW.out _ _ h).mono ?_; clear h; rintro _ w ⟨p, M2, lab2, s, rfl, h, hB2, hM2, hN⟩; have hle2 := hB2.le; clear hB2 hM2 hN; have hbf := hle2 _ _ hbf))
    | (go_at_call 7; refine (RM.out _ _ h).mono ?_; clear h; rintro _ w ⟨rfl, h⟩)
    | (go_at_call 8; refine (LI.out _ _ h).mono ?_; clear h; rintro _ w ⟨rfl, h⟩))
  go_ret
  exact ⟨rfl, h.le (Mm.le_trans hle hle2)⟩
/-- What holds of the machine ahead of the law's next round. -/
structure EcInv (c : Nat → Int) (T : Nat) (tp : List Nat) (i : Nat) (s : MachS) (e : EpG) (ab : Nat → Bool × Nat) (ins : Nat → Bool) : Prop where
  abs : ∃ a m, a ≤ i ∧ m ≤ i ∧ AbsE c tp a s e ∧ EpI T (levT c) m e ab ins
  r0 : R0I T (levT c) e
theorem EcInv.mono {c : Nat → Int} {T i j : Nat} {tp : List Nat} {s : MachS} {e : EpG} {ab : Nat → Bool × Nat} {ins : Nat → Bool} (h : EcInv c T tp i s e ab ins) (hij : i ≤ j) : EcInv c T tp j s e ab ins := by
  obtain ⟨⟨a, m, h1, h2, h3, h4⟩, h5⟩ := h
  exact ⟨⟨a, m, by omega, by omega, h3, h4⟩, h5⟩
theorem EcInv.first {c : Nat → Int} {L B S T : Nat} {s : MachS} (hn : Nums c L B S) (hc : ConfMay c) (hT : T ≤ 8) (h : s.New c L B S) (hw : s.ward.lv = s.c 0 ∧ s.ward.sl = s.c 10) : EcInv c T s.tp 0 s (e00 B S) (fun _ => (false, 0)) (fun _ => false) :=
  ⟨⟨0, 0, Nat.le_refl _, Nat.le_refl _, absE_first hn hc h hw, ⟨fun l => Nat.le_refl _, fun t _ e => (nomatch e), fun t ht _ => e00_act _ (by omega), fun t _ F e => (nomatch e), fun t _ _ => rfl⟩⟩, fun t _ F e => (nomatch e)⟩
theorem inN_val {t : Nat} {F : EpF} {g' : EpG} {ins : Nat → Bool} {lft : Bool} (hl : (g'.thr t).isSome = lft) : insN t F g' ins = if (!lft && decide (F.fn = 11)) = true then put1 (if (!lft && decide (F.fn = 10)) = true then put1 ins t true else ins) t false else (if (!lft && decide (F.fn = 10)) = true then put1 ins t true else ins) := by
  unfold insN
  cases lft with
  | true =>
    have : (g'.thr t).isNone = false := by cases h : g'.thr t <;> rw [h] at hl <;> first | rfl | cases hl
    simp [this]
  | false =>
    have : (g'.thr t).isNone = true := by cases h : g'.thr t <;> rw [h] at hl <;> first | rfl | cases hl
    rw [this]
    by_cases h10 : F.fn = 10
    · simp [h10]
    · by_cases h11 : F.fn = 11
      · simp [h11]
      · simp [h10, h11]
theorem epN_none {g' : EpG} {t : Nat} (h : (g'.thr t).isSome = false) : g'.thr t = none := by
  cases e : g'.thr t with
  | none => rfl
  | some _ => rw [e] at h; cases h
theorem ints9_one (X : Nat → Int) : (ints .u64 9 X).toList.all (·.oneCell') = true := rfl
set_option maxHeartbeats 4000000 in
set_option maxRecDepth 20000 in
theorem epCrowd_long {σ w : World} {M : Mm} (h : Has σ M w) (c : Nat → Int) (hc : ConfMay c) {L B S T : Nat} (hn : Nums c L B S) (hT : c 1 = (T : Nat)) {A : Option Addr} {n cap : Nat} {lst : List (Int × Int)} (hr : Rd M 2 (.slice A n cap) n (lst.flatMap enc2)) (hl : lst.length = n) (h1200 : n ≤ 1200) :
    Calls Try.prog 4 #[confV c, .slice A n cap] w fun r w' => r = .returned (.bool true) ∧ Has σ M w' := by
  have NW := Lib.hid (fun (M' : Mm) (w : World) (h : Has σ M' w) => mNew_yes h c hc hn)
  have LI := Lib.hid (fun (M' : Mm) (w : World) (h : Has σ M' w) => ep_lives h)
  have hx : (ints .i64 14 c).extract 0 (0 + 14) = ints .i64 14 c := rfl
  have hz : (ints .i64 14 c).size = 14 := rfl
  have r1 : (ints .i64 14 c)[1]? = some (.int .i64 (T : Nat)) := by rw [← hT]; rfl
  have g60 : decide ((1200 : Int) < (n : Int)) = false := decide_eq_false (by omega)
  have g60' : ¬ (1200 : Int) < (n : Int) := by omega
  have hl0 := hn.l0
  have hT8 : 1 ≤ T ∧ T ≤ 8 := by have := hc.2.1; omega
  have MA := mk_about T (by omega)
  have MB := mk_bools T (by omega)
  have HC := Lib.hid hc
  have HNU := Lib.hid hn
  have HT := Lib.hid hT
  have HR := Lib.hid hr
  have HL := Lib.hid hl
  have hn1200 : n ≤ 1200 := h1200
  unfold confV at NW ⊢
  clear hc hn hT hr hl h1200
  generalize hrw : ints .i64 14 c = row at NW hx hz r1 ⊢
  have HRW := Lib.hid hrw
  clear hrw
  go_enter Try.func4, Try.ntmps4
  go_upto_region 1 with (fail)
  obtain ⟨M1, hbx, hle1, hbf, hnf⟩ := h.box (.cells row 24)
  generalize w.alloc _ = wx at hbx ⊢
  generalize w.heap.size = bf at hbf hnf ⊢
  clear h
  try clear w
  have h := hbx
  clear hbx
  obtain ⟨w, rfl⟩ : ∃ x : World, x = wx := ⟨_, rfl⟩
  go_upto_region 4 with (first
    | ((with_reducible show wpList _ _ _ ({ dst := _, op := Op.load 24 _, type := _, pos := _, after := _, guard := _ } :: _) _ _); refine wpList_agg_has h rfl 24 _ rfl rfl hbf hx hz Try.underlying24 rfl (by kernel_rfl) ?_; try simp only [Act.put, List.setIfInBounds_toArray, List.set_cons_zero, List.set_cons_succ])
    | ((go_at_call 6; refine (NW.out _ _ h).mono ?_; clear h; rintro _ w ⟨p, M2, lab2, s, rfl, h, hB2, hM2, hN⟩)))
  obtain ⟨tp, HTP⟩ : ∃ tp, Hid (tp = s.tp) := ⟨_, rfl⟩
  have hA2 := EcInv.first (T := T) HNU.out HC.out hT8.2 hN hM2.wsz
  rw [← HTP.out] at hA2
  obtain ⟨tlen, HTL⟩ : ∃ tl, Hid (tl = tp.length ∧ (tl : Int) = c 1) := ⟨_, Lib.hid ⟨rfl, by rw [HTP.out, hM2.tlen, hN.c]⟩⟩
  have hbf2 := hB2.le _ _ hbf
  have HM2 := Lib.hid hM2
  have HB2 := Lib.hid hB2
  have HA2 := Lib.hid hA2
  have HLE1 := Lib.hid hle1
  clear hM2 hB2 hN hA2 HTP NW hle1 hnf
  go_upto_region 5 with (first
    | (with_reducible show wpList _ _ _ ({ dst := _, op := Op.load 3 _, type := _, pos := _, after := _, guard := _ } :: _) _ _; refine wpList_load1_has h rfl 3 _ rfl rfl hbf2 r1 Try.underlying3 rfl ?_))
  clear MA
  obtain ⟨M3, hbx, hle3, hba, hna⟩ := h.box (.cells (((List.range T).map fun _ => (false, (0 : Nat))).flatMap encA).toArray 65)
  generalize w.alloc _ = wx at hbx ⊢
  generalize w.heap.size = ba at hba hna ⊢
  clear h
  try clear w
  have h := hbx
  clear hbx
  obtain ⟨w, rfl⟩ : ∃ x : World, x = wx := ⟨_, rfl⟩
  have hO3 : Own (outK M1 M2 (fun _ => 0) 2) M3 65 2 (.slice (some ⟨ba, 0, none⟩) T T) T (((List.range T).map fun _ => (false, (0 : Nat))).flatMap encA) := by
    rw [outK_self (fun c o hc => by show (0 : Nat) ≠ 2; decide)]
    have e0 : (((List.range T).map fun _ => (false, (0 : Nat))).flatMap encA).length = T * 2 := by rw [flat_length encA_len]; simp
    exact ⟨e0, .inr ⟨ba, T, _, rfl, hna, hba, Nat.le_refl _, by unfold maxLen; omega, by rw [List.size_toArray, e0], List.take_of_length_le (by rw [List.toList_toArray, e0]; exact Nat.le_refl _)⟩⟩
  obtain ⟨lab3, K3, labK3, hM3, hB3, hK3, hR3⟩ := HM2.out.rowTo HB2.out (by rw [outK_self (fun c o hc => by show (0 : Nat) ≠ 2; decide)]; exact hle3) hO3
  have hS3 : M1.le (stable K3 labK3) := fun c o hc => by
    obtain ⟨a, b⟩ := hK3 c o hc (by show ¬ (0 : Nat) = 2; decide)
    unfold stable
    rw [if_pos (show labK3 c = 0 from b)]
    exact a
  have hbf3 := hle3 _ _ hbf2
  have HM3 := Lib.hid hM3
  have HB3 := Lib.hid hB3
  have HS3 := Lib.hid hS3
  have HR3 := Lib.hid hR3
  clear hO3 hM3 hB3 hK3 hR3 hS3 hbf2 hle3 hba hna HM2 HB2
  go_upto_region 6 with (first
    | (with_reducible show wpList _ _ _ ({ dst := _, op := Op.load 3 _, type := _, pos := _, after := _, guard := _ } :: _) _ _; refine wpList_load1_has h rfl 3 _ rfl rfl hbf3 r1 Try.underlying3 rfl ?_))
  clear MB
  obtain ⟨M4, hbx, hle4, hbb, hnb⟩ := h.box (.cells ((List.range T).map fun _ => Value.bool false).toArray 4)
  generalize w.alloc _ = wx at hbx ⊢
  generalize w.heap.size = bb at hbb hnb ⊢
  clear h
  try clear w
  have h := hbx
  clear hbx
  obtain ⟨w, rfl⟩ : ∃ x : World, x = wx := ⟨_, rfl⟩
  have hO4 : Own (outK K3 M3 labK3 3) M4 4 1 (.slice (some ⟨bb, 0, none⟩) T T) T ((List.range T).map fun _ => Value.bool false) :=
    ⟨by simp, .inr ⟨bb, T, _, rfl, Mm.none_of (outK_le _ _ _ _) hnb, hbb, Nat.le_refl _, by unfold maxLen; omega, by simp, by rw [Nat.mul_one]; exact List.take_of_length_le (by simp)⟩⟩
  obtain ⟨lab4, K4, labK4, hM4, hB4, hK4, hR4⟩ := HM3.out.rowTo HB3.out (Mm.le_trans (outK_le _ _ _ _) hle4) hO4
  have hS4 := Mm.le_trans HS3.out (stable_kp hK4 (by omega))
  have hE4 : LawE K4 labK4 T ba bb (fun _ => (false, 0)) (fun _ => false) := ⟨HR3.out.keep hK4 (by omega), hR4⟩
  have HM4 := Lib.hid hM4
  have HB4 := Lib.hid hB4
  have HS4 := Lib.hid hS4
  have HE4 := Lib.hid hE4
  clear hO4 hM4 hB4 hK4 hR4 hS4 hE4 hbf3 hle4 hbb hnb HM3 HB3 HS3 HR3
  go_upto_region 7 with (fail)
  go_loopw [9] (fun u wr => ∃ (i : Nat) (M : Mm) (lab : Nat → Nat) (K : Mm) (labK : Nat → Nat) (s : MachS) (e : EpG) (ab : Nat → Bool × Nat) (ins : Nat → Bool), i ≤ n ∧ u = .int .i64 (i : Nat) ∧ Has σ M wr ∧ Mach M lab p s ∧ Base K M lab ∧ M1.le (stable K labK) ∧ LawE K labK T ba bb ab ins ∧ EcInv c T tp i s e ab ins) (fun u _ => n - (intOf u).toNat)
  case atStart => exact ⟨0, M4, lab4, K4, labK4, s, _, _, _, Nat.zero_le _, rfl, h, HM4.out, HB4.out, HS4.out, HE4.out, HA2.out⟩
  case round =>
    clear h w HM4 HB4 HS4 HE4 HA2 lab4 K4 labK4 M4 M3 M2 lab3 lab2 K3 labK3
    obtain ⟨w, rfl⟩ : ∃ x : World, x = wr := ⟨_, rfl⟩
    obtain ⟨i, M2, lab2, K2, labK2, s, e, ab, ins, hi, rfl, h, hM2, hB2, hS2, hE2, hA2⟩ := hrel
    have hle12 := Mm.le_trans hS2 (Mm.le_trans (stable_le _ _) hB2.le)
    have hbf2 := hle12 _ _ hbf
    have HM2 := Lib.hid hM2
    have HB2 := Lib.hid hB2
    have HS2 := Lib.hid hS2
    have HE2 := Lib.hid hE2
    have HA2 := Lib.hid hA2
    have HLE12 := Lib.hid hle12
    clear hM2 hB2 hS2 hE2 hA2 hle12
    by_cases hlt : i < n
    · have hrd : Rd M2 2 (.slice A n cap) n (lst.flatMap enc2) := HR.out.le (Mm.le_trans HLE1.out HLE12.out)
      obtain ⟨en, he⟩ : ∃ e, lst[i]? = some e := ⟨_, List.getElem?_eq_getElem (by rw [HL.out]; exact hlt)⟩
      obtain ⟨bl, ol, cl, csl, tl2, fzl, hle, hbl, hcl⟩ := hrd.elem (enc := enc2) (fun _ => rfl) hlt he
      obtain ⟨et, ew⟩ := en
      have e0 : csl[ol + i * 2 + 0]? = some (.int .i64 et) := hcl 0 _ rfl
      have e1 : csl[ol + i * 2 + 1]? = some (.int .i64 ew) := hcl 1 _ rfl
      rw [Nat.add_zero] at e0
      cases hle
      have hlt' : (i : Int) < (n : Int) := by omega
      have wi : IntKind.i64.wrap ((i : Int) + 1) = ((i + 1 : Nat) : Int) := by rw [show (i : Int) + 1 = ((i + 1 : Nat) : Int) by omega]; exact IntWalk.i64_in _ (by omega)
      have HLT := Lib.hid hlt
      clear hcl hrd he hlt hi
      by_cases htt : 0 ≤ et ∧ et < (T : Int)
      · obtain ⟨tn, rfl⟩ : ∃ tn : Nat, et = (tn : Nat) := ⟨et.toNat, by omega⟩
        have htn : tn < T := by omega
        obtain ⟨elv, ll⟩ := levT_of HC.out HNU.out HT.out htn
        obtain ⟨a, m, ha, hm, hA, hI⟩ := HA2.out.abs
        obtain ⟨q, hq⟩ : ∃ q, tp[tn]? = some q := ⟨_, List.getElem?_eq_getElem (by have h1 := HTL.out; have h2 := HT.out; omega)⟩
        have htc : (tn : Int) < c 1 := by have := HT.out; omega
        have TH := Lib.hid (fun (w : World) (h : Has σ M2 w) => mThread_yes h HM2.out (t := tn) (q := q) (by rw [hA.ttp]; exact hq))
        have LV := Lib.hid (fun (w : World) (h : Has σ M2 w) => mLevel_eq h HM2.out (tn : Int))
        rw [hA.cc, elv] at LV
        have DP := Lib.hid (ec_deep (σ := σ) HM2.out hA htc hq)
        obtain ⟨lv, hlv⟩ : ∃ lv, levT c tn = lv := ⟨_, rfl⟩
        rw [hlv] at ll elv LV
        have HAL := Lib.hid (⟨ha, hm, hA, hI⟩ : a ≤ i ∧ m ≤ i ∧ AbsE c tp a s e ∧ EpI T (levT c) m e ab ins)
        have HLV := Lib.hid hlv
        have HQ := Lib.hid hq
        have HTN := Lib.hid htn
        have HTC := Lib.hid htc
        have HLL := Lib.hid ll
        have hll : (lv : Int) < (L : Int) := by omega
        have ht8 : (tn : Int) < 8 := by omega
        clear ha hm hA hI hlv elv hq htt htn htc ll
        go_upto_region 13 with (first
          | (with_reducible show wpList _ _ _ ({ dst := _, op := Op.load 3 _, type := _, pos := _, after := _, guard := _ } :: _) _ _; refine wpList_load1_has h rfl 3 _ rfl rfl hbl e0 Try.underlying3 rfl ?_)
          | (go_at_call 15; refine (TH.out _ h).mono ?_; clear h; rintro _ w ⟨rfl, h⟩)
          | (go_at_call 9; refine (LV.out _ h).mono ?_; clear h; rintro _ w ⟨rfl, h⟩))
        clear TH LV e0
        obtain ⟨dn, hdn⟩ : ∃ dn : Nat, (if (e.thr tn).isSome then 1 else 0) = dn := ⟨_, rfl⟩
        rw [hdn] at DP
        have HDN := Lib.hid hdn
        clear hdn
        go_upto_if 69 with (first | (go_at_call 18; refine (DP.out _ h).mono ?_; clear h; rintro _ w ⟨rfl, h⟩))
        go_cut [13] from 48 to 230 (fun u13 wx => ∃ (M3 : Mm) (lab3 : Nat → Nat) (s3 : MachS) (e3 : EpG) (F : EpF), Has σ M3 wx ∧ Mach M3 lab3 p s3 ∧ Base K2 M3 lab3 ∧ AbsE c tp a s3 e3 ∧ EpI T (levT c) m e3 ab ins ∧ R0I T (levT c) e3 ∧ e3.thr tn = some F)
        case first =>
          as_aux_lemma =>
            cases hgt : e.thr tn with
            | some F =>
              obtain rfl : dn = 1 := by rw [← HDN.out, hgt]; rfl
              have HGT := Lib.hid hgt
              clear hgt
              go_wp2
              go_meet
              case rel => exact ⟨M2, lab2, s, e, F, h, HM2.out, HB2.out, HAL.out.2.2.1, HAL.out.2.2.2, HA2.out.r0, HGT.out⟩
            | none =>
              obtain rfl : dn = 0 := by rw [← HDN.out, hgt]; rfl
              have HGT := Lib.hid hgt
              clear hgt
              obtain ⟨curB, hgB, hcB⟩ := Own.at_ HE2.out.brow
              have eB : curB[tn]? = some (.bool (ins tn)) := hcB _ _ (ins_get HTN.out)
              have hgB2 := HB2.out.le _ _ hgB
              obtain ⟨bi, hbi⟩ : ∃ b, ins tn = b := ⟨_, rfl⟩
              rw [hbi] at eB
              have HBI := Lib.hid hbi
              have htT : (tn : Int) < (T : Int) := by have := HTN.out; omega
              clear hcB hgB hbi
              have CAL := Lib.hid (fun (fn : Nat) (w : World) (h : Has σ M2 w) => ec_call (fn := fn) h HM2.out HB2.out HAL.out.2.2.1 HTC.out HQ.out HGT.out)
              by_cases h0 : ew = 0
              · subst h0
                cases bi
                · skip
                  have CL := Lib.hid (CAL.out 10)
                  go_wp2_with (first
                    | (with_reducible show wpList _ _ _ ({ dst := _, op := Op.load 3 _, type := _, pos := _, after := _, guard := _ } :: _) _ _; refine wpList_load1_has h rfl 3 _ rfl rfl hbl e1 Try.underlying3 rfl ?_)
                    | (with_reducible show wpList _ _ _ ({ dst := _, op := Op.load 4 _, type := _, pos := _, after := _, guard := _ } :: _) _ _; refine wpList_load1_has h rfl 4 _ rfl rfl hgB2 eB Try.underlying4 rfl ?_)
                    | ((go_at_call 19; refine (CL.out _ h).mono ?_; clear h; rintro _ w ⟨rfl, M3, lab3, s3, h, hM3, hB3, hA3⟩)))
                  go_meet
                  case rel => exact ⟨M3, lab3, s3, _, ⟨10, 0, 0, 0⟩, h, hM3, hB3, hA3, HAL.out.2.2.2.call HTN.out HGT.out 10 (.inl ⟨rfl, HBI.out⟩), HA2.out.r0.call 10, go_thr _⟩
                · skip
                  have CL := Lib.hid (CAL.out 12)
                  go_wp2_with (first
                    | (with_reducible show wpList _ _ _ ({ dst := _, op := Op.load 3 _, type := _, pos := _, after := _, guard := _ } :: _) _ _; refine wpList_load1_has h rfl 3 _ rfl rfl hbl e1 Try.underlying3 rfl ?_)
                    | (with_reducible show wpList _ _ _ ({ dst := _, op := Op.load 4 _, type := _, pos := _, after := _, guard := _ } :: _) _ _; refine wpList_load1_has h rfl 4 _ rfl rfl hgB2 eB Try.underlying4 rfl ?_)
                    | ((go_at_call 19; refine (CL.out _ h).mono ?_; clear h; rintro _ w ⟨rfl, M3, lab3, s3, h, hM3, hB3, hA3⟩)))
                  go_meet
                  case rel => exact ⟨M3, lab3, s3, _, ⟨12, 0, 0, 0⟩, h, hM3, hB3, hA3, HAL.out.2.2.2.call HTN.out HGT.out 12 (.inr (.inr rfl)), HA2.out.r0.call 12, go_thr _⟩
              · by_cases h1 : ew = 1
                · subst h1
                  cases bi
                  · skip
                    have CL := Lib.hid (CAL.out 12)
                    go_wp2_with (first
                      | (with_reducible show wpList _ _ _ ({ dst := _, op := Op.load 3 _, type := _, pos := _, after := _, guard := _ } :: _) _ _; refine wpList_load1_has h rfl 3 _ rfl rfl hbl e1 Try.underlying3 rfl ?_)
                      | (with_reducible show wpList _ _ _ ({ dst := _, op := Op.load 4 _, type := _, pos := _, after := _, guard := _ } :: _) _ _; refine wpList_load1_has h rfl 4 _ rfl rfl hgB2 eB Try.underlying4 rfl ?_)
                      | ((go_at_call 19; refine (CL.out _ h).mono ?_; clear h; rintro _ w ⟨rfl, M3, lab3, s3, h, hM3, hB3, hA3⟩)))
                    go_meet
                    case rel => exact ⟨M3, lab3, s3, _, ⟨12, 0, 0, 0⟩, h, hM3, hB3, hA3, HAL.out.2.2.2.call HTN.out HGT.out 12 (.inr (.inr rfl)), HA2.out.r0.call 12, go_thr _⟩
                  · skip
                    have CL := Lib.hid (CAL.out 11)
                    go_wp2_with (first
                      | (with_reducible show wpList _ _ _ ({ dst := _, op := Op.load 3 _, type := _, pos := _, after := _, guard := _ } :: _) _ _; refine wpList_load1_has h rfl 3 _ rfl rfl hbl e1 Try.underlying3 rfl ?_)
                      | (with_reducible show wpList _ _ _ ({ dst := _, op := Op.load 4 _, type := _, pos := _, after := _, guard := _ } :: _) _ _; refine wpList_load1_has h rfl 4 _ rfl rfl hgB2 eB Try.underlying4 rfl ?_)
                      | ((go_at_call 19; refine (CL.out _ h).mono ?_; clear h; rintro _ w ⟨rfl, M3, lab3, s3, h, hM3, hB3, hA3⟩)))
                    go_meet
                    case rel => exact ⟨M3, lab3, s3, _, ⟨11, 0, 0, 0⟩, h, hM3, hB3, hA3, HAL.out.2.2.2.call HTN.out HGT.out 11 (.inr (.inl ⟨rfl, HBI.out⟩)), HA2.out.r0.call 11, go_thr _⟩
                · skip
                  have CL := Lib.hid (CAL.out 12)
                  go_wp2_with (first
                    | (with_reducible show wpList _ _ _ ({ dst := _, op := Op.load 3 _, type := _, pos := _, after := _, guard := _ } :: _) _ _; refine wpList_load1_has h rfl 3 _ rfl rfl hbl e1 Try.underlying3 rfl ?_)
                    | (with_reducible show wpList _ _ _ ({ dst := _, op := Op.load 4 _, type := _, pos := _, after := _, guard := _ } :: _) _ _; refine wpList_load1_has h rfl 4 _ rfl rfl hgB2 eB Try.underlying4 rfl ?_)
                    | ((go_at_call 19; refine (CL.out _ h).mono ?_; clear h; rintro _ w ⟨rfl, M3, lab3, s3, h, hM3, hB3, hA3⟩)))
                  go_meet
                  case rel => exact ⟨M3, lab3, s3, _, ⟨12, 0, 0, 0⟩, h, hM3, hB3, hA3, HAL.out.2.2.2.call HTN.out HGT.out 12 (.inr (.inr rfl)), HA2.out.r0.call 12, go_thr _⟩
        case rest =>
          obtain ⟨M3, lab3, s3, e3, F, h3, hM3, hB3, hA3, hI3, hR3, hF3⟩ := hcut
          clear h DP HDN hbf2 hbl e1 HM2 HB2 HLE12
          obtain ⟨w, rfl⟩ : ∃ q : World, q = wc := ⟨_, rfl⟩
          have h := h3
          clear h3
          obtain ⟨bt, TP, cst, et', hbt, ebt⟩ := ec_top hM3 hA3 HTC.out HQ.out hF3
          have TPQ : Hid (∀ w : World, Has σ M3 w → Calls Try.prog 20 #[.pointer (some ⟨q, 0, none⟩)] w fun r w' => r = .returned (.pointer (some ⟨bt, 0, none⟩)) ∧ Has σ M3 w') := Lib.hid fun w h => TP w h
          have hfn := (hI3.thr tn HTN.out F hF3).fn
          obtain ⟨fnn, hfnn⟩ : ∃ k, F.fn = k := ⟨_, rfl⟩
          rw [hfnn] at ebt hfn
          have HFN := Lib.hid hfnn
          have HFN2 := Lib.hid hfn
          have NW3 := Lib.hid (fun (w : World) (h : Has σ M3 w) => nowL_eq h hM3 hA3 HNU.out HLL.out)
          obtain ⟨ep3, hep3⟩ : ∃ k, e3.ep lv = k := ⟨_, rfl⟩
          obtain ⟨ac3, hac3⟩ : ∃ k, e3.act lv tn = k := ⟨_, rfl⟩
          have hepb : ep3 ≤ 1202 := by rw [← hep3]; have h1 := hI3.epb lv; have h2 := HAL.out.2.1; have h3 := HLT.out; omega
          obtain ⟨wrow, hwrow⟩ : ∃ x, ints .u64 9 (eN (e3.ep lv) fun t => e3.act lv t) = x := ⟨_, rfl⟩
          have W0 : wrow[0]? = some (.int .u64 (ep3 : Nat)) := by rw [← hwrow, ← hep3]; rfl
          have Wt : wrow[1 + tn]? = some (.int .u64 (ac3 : Nat)) := by
            rw [← hwrow, ints_get (by have := hT8.2; have := HTN.out; omega)]
            unfold eN
            rw [if_neg (by omega), show 1 + tn - 1 = tn by omega, ← hac3]
          have Wz : wrow.size = 9 := by rw [← hwrow]; rfl
          have W1 : wrow.toList.all (·.oneCell') = true := by rw [← hwrow]; exact ints9_one _
          rw [hwrow] at NW3
          have HEP3 := Lib.hid hep3
          have HAC3 := Lib.hid hac3
          have HM3 := Lib.hid hM3
          have HB3 := Lib.hid hB3
          have HA3 := Lib.hid (⟨hA3, hI3, hR3, hF3⟩ : AbsE c tp a s3 e3 ∧ EpI T (levT c) m e3 ab ins ∧ R0I T (levT c) e3 ∧ e3.thr tn = some F)
          have hz9 : (ints .u64 9 fun _ => (0 : Int)).size = 9 := rfl
          clear TP hM3 hB3 hA3 hI3 hR3 hF3 hfnn hfn hep3 hac3 hwrow
          go_upto_region 22 with (first
            | (go_at_call 20; refine (TPQ.out _ h).mono ?_; clear h; rintro _ w ⟨rfl, h⟩)
            | (with_reducible show wpList _ _ _ ({ dst := _, op := Op.load 3 _, type := _, pos := _, after := _, guard := _ } :: _) _ _; refine wpList_load1_has h rfl 3 _ rfl rfl hbt ebt Try.underlying3 rfl ?_)
            | (go_at_call 16; refine (NW3.out _ h).mono ?_; clear h; rintro _ w ⟨rfl, h⟩)
            | ((with_reducible show wpList _ _ _ ({ dst := _, op := Op.alloc 37, type := _, pos := _, after := _, guard := _ } :: _) _ _); refine wpList_alloc_has h rfl 37 rfl _ zE ?_; clear h; intro bw w h hnw; try simp only [Act.put, List.setIfInBounds_toArray, List.set_cons_zero, List.set_cons_succ])
            | ((with_reducible show wpList _ _ _ ({ dst := _, op := Op.store 37 _ _, type := _, pos := _, after := _, guard := _ } :: _) _ _); refine wpList_storeAll_has (cells := wrow) h rfl 37 _ _ rfl rfl rfl (Mm.upd_same _ _ _) rfl (hz9.trans Wz.symm) rfl (by rw [Wz]; kernel_rfl) W1 ?_; clear h; intro w h))
          rw [Mm.upd_upd] at h
          have hle4 : M3.le (M3.upd bw (.cells wrow 37)) := Mm.le_upd' hnw _
          have hbw4 : (M3.upd bw (.cells wrow 37)) bw = some (.cells wrow 37) := Mm.upd_same _ _ _
          generalize M3.upd bw (.cells wrow 37) = M4 at h hle4 hbw4
          obtain ⟨lab4, hM4, hB4⟩ := HM3.out.learn HB3.out hle4
          have STP := Lib.hid (fun (w : World) (h : Has σ M4 w) => ec_step2 h hM4 hB4 HC.out HNU.out HT.out (by have := HAL.out.1; have := HLT.out; omega) (by have := HAL.out.2.1; have := HLT.out; omega) HTN.out HQ.out HA3.out.1 HA3.out.2.1 HA3.out.2.2.1 HA3.out.2.2.2)
          have hKp := learn_kp HB3.out.le M4 labK2
          have HE3 := Lib.hid (HE2.out.keep hKp)
          have HS3 := Lib.hid (Mm.le_trans HS2.out (stable_kp hKp fun h => h))
          have HKW : Hid ((learn K2 M3 M4) bw = some (.cells wrow 37)) := Lib.hid (by unfold learn; rw [hnw]; exact hbw4)
          generalize learn K2 M3 M4 = K3 at *
          generalize relab K2 labK2 (fun _ => 0) = labK3 at *
          clear hKp HE2 HS2
          clear hM4 hB4 hbt ebt TPQ NW3 hnw hle4 hbw4 HM3 HB3
          go_upto_region 23 with (first
            | ((go_at_call 21; refine (STP.out _ h).mono ?_; clear h; rintro _ w ⟨M5, lab5, s5, e5, rfl, h, hM5, hB5, hA5, hN5, hR5⟩)))
          clear STP
          obtain ⟨lft, hlft⟩ : ∃ b : Bool, (e5.thr tn).isSome = b := ⟨_, rfl⟩
          rw [hlft]
          have HLFT := Lib.hid hlft
          have NW5 := Lib.hid (fun (w : World) (h : Has σ M5 w) => nowL_eq h hM5 hA5 HNU.out HLL.out)
          obtain ⟨ep5, hep5⟩ : ∃ k, e5.ep lv = k := ⟨_, rfl⟩
          obtain ⟨ac5, hac5⟩ : ∃ k, e5.act lv tn = k := ⟨_, rfl⟩
          have hup : ep5 = ep3 ∨ ep5 = ep3 + 1 := by
            have := hN5.up
            rw [HLV.out, hep5, HEP3.out] at this
            exact this
          have HAB : Hid (abN (levT c) tn e3 e5 ab = if ac5 = ac3 then ab else put1 ab tn (ac5 != 0, ep5)) := Lib.hid (by
            unfold abN
            rw [HLV.out, hac5, hep5, HAC3.out])
          obtain ⟨b10, hb10⟩ : ∃ b, (!lft && decide (fnn = 10)) = b := ⟨_, rfl⟩
          obtain ⟨b11, hb11⟩ : ∃ b, (!lft && decide (fnn = 11)) = b := ⟨_, rfl⟩
          have HIN : Hid (insN tn F e5 ins = if b11 = true then put1 (if b10 = true then put1 ins tn true else ins) tn false else (if b10 = true then put1 ins tn true else ins)) := Lib.hid (by rw [inN_val hlft, HFN.out, hb10, hb11])
          have HB10 := Lib.hid hb10
          have HB11 := Lib.hid hb11
          clear hb10 hb11
          obtain ⟨irow, hirow⟩ : ∃ x, ints .u64 9 (eN (e5.ep lv) fun t => e5.act lv t) = x := ⟨_, rfl⟩
          have I0 : irow[0]? = some (.int .u64 (ep5 : Nat)) := by rw [← hirow, ← hep5]; rfl
          have It : irow[1 + tn]? = some (.int .u64 (ac5 : Nat)) := by
            rw [← hirow, ints_get (by have := hT8.2; have := HTN.out; omega)]
            unfold eN
            rw [if_neg (by omega), show 1 + tn - 1 = tn by omega, ← hac5]
          have Iz : irow.size = 9 := by rw [← hirow]; rfl
          have I1 : irow.toList.all (·.oneCell') = true := by rw [← hirow]; exact ints9_one _
          rw [hirow] at NW5
          have HUP := Lib.hid hup
          have HEP5 := Lib.hid hep5
          have HM5 := Lib.hid hM5
          have HB5 := Lib.hid hB5
          have HA5 := Lib.hid (⟨hA5, hN5, hR5⟩ : AbsE c tp (a + 1) s5 e5 ∧ EpN T (levT c) m tn F e3 e5 ab ins ∧ R0I T (levT c) e5)
          clear hM5 hB5 hA5 hN5 hR5 hlft hep5 hac5 hirow hup
          go_upto_region 24 with (first
            | (go_at_call 16; refine (NW5.out _ h).mono ?_; clear h; rintro _ w ⟨rfl, h⟩)
            | ((with_reducible show wpList _ _ _ ({ dst := _, op := Op.alloc 37, type := _, pos := _, after := _, guard := _ } :: _) _ _); refine wpList_alloc_has h rfl 37 rfl _ zE ?_; clear h; intro bi w h hni; try simp only [Act.put, List.setIfInBounds_toArray, List.set_cons_zero, List.set_cons_succ])
            | ((with_reducible show wpList _ _ _ ({ dst := _, op := Op.store 37 _ _, type := _, pos := _, after := _, guard := _ } :: _) _ _); refine wpList_storeAll_has (cells := irow) h rfl 37 _ _ rfl rfl rfl (Mm.upd_same _ _ _) rfl (hz9.trans Iz.symm) rfl (by rw [Iz]; kernel_rfl) I1 ?_; clear h; intro w h))
          rw [Mm.upd_upd] at h
          have hle6 : M5.le (M5.upd bi (.cells irow 37)) := Mm.le_upd' hni _
          have hbi6 : (M5.upd bi (.cells irow 37)) bi = some (.cells irow 37) := Mm.upd_same _ _ _
          generalize M5.upd bi (.cells irow 37) = M6 at h hle6 hbi6
          obtain ⟨lab6, hM6, hB6⟩ := HM5.out.learn HB5.out hle6
          have hKp := learn_kp HB5.out.le M6 labK3
          have hE6 := HE3.out.keep hKp
          have hS6 := Mm.le_trans HS3.out (stable_kp hKp fun h => h)
          have hSB6 : stable (learn K3 M5 M6) (relab K3 labK3 fun _ => 0) bi = some (.cells irow 37) := by
            have hk : K3 bi = none := by
              cases hk : K3 bi with
              | none => rfl
              | some o => have := HB5.out.le _ _ hk; rw [hni] at this; cases this
            unfold stable relab learn
            rw [hk, hni]
            exact hbi6
          have hbw6 := hle6 _ _ (HB5.out.le _ _ HKW.out)
          generalize learn K3 M5 M6 = K5 at *
          generalize relab K3 labK3 (fun _ => 0) = labK5 at *
          have HM6 := Lib.hid hM6
          have HB6 := Lib.hid hB6
          have HE6 := Lib.hid hE6
          have HS6 := Lib.hid hS6
          have HSB6 := Lib.hid hSB6
          clear hKp HE3 HS3 HKW hM6 hB6 hE6 hS6 hSB6 hni hle6 HM5 HB5 NW5 hz9
          go_cut [124] from 48 to 230 (fun u wx => u = .bool false ∧ Has σ M6 wx)
          case first =>
            as_aux_lemma =>
              rcases HUP.out with hup | hup
              · obtain rfl := hup
                go_wp2_with (first
                  | (with_reducible show wpList _ _ _ ({ dst := _, op := Op.load 34 _, type := _, pos := _, after := _, guard := _ } :: _) _ _; refine wpList_load1_has h rfl 34 _ rfl rfl hbi6 I0 Try.underlying34 rfl ?_)
                  | (with_reducible show wpList _ _ _ ({ dst := _, op := Op.load 34 _, type := _, pos := _, after := _, guard := _ } :: _) _ _; refine wpList_load1_has h rfl 34 _ rfl rfl hbw6 W0 Try.underlying34 rfl ?_))
                go_meet
                case rel => exact ⟨rfl, h⟩
              · have hne : ¬ ep5 = ep3 := by omega
                have hne2 : ((ep5 : Int) != (ep3 : Int)) = true := by rw [int_neq]; simpa using hne
                have hw1 : IntKind.u64.wrap ((ep3 : Int) + 1) = (ep5 : Int) := by rw [show (ep3 : Int) + 1 = (ep5 : Int) by omega]; exact IntWalk.u64_in _ (by omega)
                clear hup
                go_wp2_with (first
                  | (with_reducible show wpList _ _ _ ({ dst := _, op := Op.load 34 _, type := _, pos := _, after := _, guard := _ } :: _) _ _; refine wpList_load1_has h rfl 34 _ rfl rfl hbi6 I0 Try.underlying34 rfl ?_)
                  | (with_reducible show wpList _ _ _ ({ dst := _, op := Op.load 34 _, type := _, pos := _, after := _, guard := _ } :: _) _ _; refine wpList_load1_has h rfl 34 _ rfl rfl hbw6 W0 Try.underlying34 rfl ?_))
                go_meet
                case rel => exact ⟨rfl, h⟩
          case rest =>
          obtain ⟨rfl, h6⟩ := hcut
          clear h
          obtain ⟨w, rfl⟩ : ∃ q : World, q = wc := ⟨_, rfl⟩
          have h := h6
          clear h6
          go_upto_region 26 with (fail)
          obtain ⟨bA, hbA⟩ : ∃ b : Bool, (!decide (ac5 = ac3)) = b := ⟨_, rfl⟩
          have HBA := Lib.hid hbA
          clear hbA
          go_cut [133] from 48 to 230 (fun u wx => u = .bool bA ∧ Has σ M6 wx)
          case first =>
            as_aux_lemma =>
              by_cases hact : ac5 = ac3
              · obtain rfl : bA = false := by rw [← HBA.out, hact]; simp
                obtain rfl := hact
                refine wp_region_class (Has σ M6) (by kernel_rfl) (by kernel_rfl) h.drew ?_
                clear h
                repeat (first
                  | go_big_quiet_skip
                  | (go_big_quiet_want; first
                    | (refine quiet_load_has 34 _ rfl rfl hbi6 It Try.underlying34 rfl ?_; simp only [Act.put, List.setIfInBounds_toArray, List.set_cons_zero, List.set_cons_succ]; go_big_quiet_on)
                    | (refine quiet_load_has 34 _ rfl rfl hbw6 Wt Try.underlying34 rfl ?_; simp only [Act.put, List.setIfInBounds_toArray, List.set_cons_zero, List.set_cons_succ]; go_big_quiet_on)
                    | (go_big_quiet_op; first | go_big_quiet_on | go_big_quiet_call (first | with_reducible exact fun _ => rfl))))
                refine wpQuiet_nil ?_
                try clear w
                intro w h
                go_wp2
                go_meet
                case rel => exact ⟨rfl, h⟩
              · obtain rfl : bA = true := by rw [← HBA.out]; simp [hact]
                have hact2 : ((ac5 : Int) != (ac3 : Int)) = true := by rw [int_neq]; simpa using hact
                refine wp_region_class (Has σ M6) (by kernel_rfl) (by kernel_rfl) h.drew ?_
                clear h
                repeat (first
                  | go_big_quiet_skip
                  | (go_big_quiet_want; first
                    | (refine quiet_load_has 34 _ rfl rfl hbi6 It Try.underlying34 rfl ?_; simp only [Act.put, List.setIfInBounds_toArray, List.set_cons_zero, List.set_cons_succ]; go_big_quiet_on)
                    | (refine quiet_load_has 34 _ rfl rfl hbw6 Wt Try.underlying34 rfl ?_; simp only [Act.put, List.setIfInBounds_toArray, List.set_cons_zero, List.set_cons_succ]; go_big_quiet_on)
                    | (go_big_quiet_op; first | go_big_quiet_on | go_big_quiet_call (first | with_reducible exact fun _ => rfl))))
                refine wpQuiet_nil ?_
                try clear w
                intro w h
                go_wp2
                go_meet
                case rel => exact ⟨by first | rfl | rw [hact2], h⟩
          case rest =>
          obtain ⟨rfl, h6⟩ := hcut
          clear h hbw6
          obtain ⟨w, rfl⟩ : ∃ q : World, q = wc := ⟨_, rfl⟩
          have h := h6
          clear h6
          obtain ⟨ab5, hab5⟩ : ∃ x, abN (levT c) tn e3 e5 ab = x := ⟨_, rfl⟩
          have HAB5 := Lib.hid hab5
          have HABf : Hid (bA = false → ab5 = ab) := Lib.hid fun e => by
            rw [← HBA.out] at e
            rw [← hab5, HAB.out, if_pos (by simpa using e)]
          have HABt : Hid (bA = true → ab5 = put1 ab tn (ac5 != 0, ep5)) := Lib.hid fun e => by
            rw [← HBA.out] at e
            rw [← hab5, HAB.out, if_neg (by simpa using e)]
          clear hab5 HAB HBA
          go_upto_if 133 with (fail)
          go_cut [] from 48 to 230 (fun wx => ∃ (M : Mm) (lab : Nat → Nat) (K : Mm) (labK : Nat → Nat), Has σ M wx ∧ Mach M lab p s5 ∧ Base K M lab ∧ M1.le (stable K labK) ∧ stable K labK bi = some (.cells irow 37) ∧ LawE K labK T ba bb ab5 ins)
          case first =>
            as_aux_lemma =>
              cases bA
              · go_wp2
                go_meet
                case rel => exact ⟨M6, lab6, K5, labK5, h, HM6.out, HB6.out, HS6.out, HSB6.out, by rw [HABf.out (by simp)]; exact HE6.out⟩
              · have hO := HE6.out.arow.up HB6.out.le
                have hOle := outK_le K5 M6 labK5 2
                have hbiO : outK K5 M6 labK5 2 bi = some (.cells irow 37) := stable_outK HB6.out.le (by omega) _ _ HSB6.out
                have htN : tn < T := HTN.out
                by_cases hz0 : ac5 = 0
                · subst hz0
                  go_upto_region 27 with (fail)
                  refine wp_region_held_drew (S := Has σ ((outK K5 M6 labK5 2))) (by kernel_rfl) (h.drew.le hOle) (fun hHeld => ?_)
                  refine wpAnyH_take (i := 0) (v := ?_) rfl (by kernel_rfl) (by kernel_rfl) (by kernel_rfl) (fun _ _ _ h => h) (Or.inl ⟨by rfl, ?_⟩) hHeld ?_
                  rotate_left
                  · (intro wz _; go_simp; try with_reducible rfl)
                  try simp only [List.getElem_toArray, List.getElem_cons_succ, List.getElem_cons_zero, Act.put, List.setIfInBounds_toArray, List.set_cons_zero, List.set_cons_succ]
                  refine wpAnyH_take (i := 1) (v := ?_) rfl (by kernel_rfl) (by kernel_rfl) (by kernel_rfl) (fun _ _ _ h => h) (Or.inl ⟨by rfl, ?_⟩) hHeld ?_
                  rotate_left
                  · (intro wz _; go_simp; try with_reducible rfl)
                  try simp only [List.getElem_toArray, List.getElem_cons_succ, List.getElem_cons_zero, Act.put, List.setIfInBounds_toArray, List.set_cons_zero, List.set_cons_succ]
                  refine wpAnyH_take (i := 2) (v := ?_) rfl (by kernel_rfl) (by kernel_rfl) (by kernel_rfl) (fun _ _ _ h => h) (Or.inl ⟨by rfl, ?_⟩) hHeld ?_
                  rotate_left
                  · (intro wz _; go_simp; try with_reducible rfl)
                  try simp only [List.getElem_toArray, List.getElem_cons_succ, List.getElem_cons_zero, Act.put, List.setIfInBounds_toArray, List.set_cons_zero, List.set_cons_succ]
                  refine wpAnyH_take (i := 3) (v := ?_) rfl (by kernel_rfl) (by kernel_rfl) (by kernel_rfl) (fun _ _ _ h => h) (Or.inl ⟨by rfl, ?_⟩) hHeld ?_
                  rotate_left
                  · (intro wz _; go_simp; try with_reducible rfl)
                  try simp only [List.getElem_toArray, List.getElem_cons_succ, List.getElem_cons_zero, Act.put, List.setIfInBounds_toArray, List.set_cons_zero, List.set_cons_succ]
                  refine wpAnyH_take (i := 4) (v := ?_) rfl (by kernel_rfl) (by kernel_rfl) (by kernel_rfl) (fun _ _ _ h => h) (Or.inl ⟨by rfl, ?_⟩) hHeld ?_
                  rotate_left
                  · (intro wz _; go_simp; try with_reducible rfl)
                  try simp only [List.getElem_toArray, List.getElem_cons_succ, List.getElem_cons_zero, Act.put, List.setIfInBounds_toArray, List.set_cons_zero, List.set_cons_succ]
                  refine wpAnyH_take (i := 5) (v := _) rfl (by kernel_rfl) (by kernel_rfl) (by kernel_rfl) (fun _ _ _ h => h) (yields_load1 rfl 34 _ rfl rfl hbiO It Try.underlying34 rfl) hHeld ?_
                  try simp only [List.getElem_toArray, List.getElem_cons_succ, List.getElem_cons_zero, Act.put, List.setIfInBounds_toArray, List.set_cons_zero, List.set_cons_succ]
                  refine wpAnyH_take (i := 6) (v := ?_) rfl (by kernel_rfl) (by kernel_rfl) (by kernel_rfl) (fun _ _ _ h => h) (Or.inl ⟨by rfl, ?_⟩) hHeld ?_
                  rotate_left
                  · (intro wz _; go_simp; try with_reducible rfl)
                  try simp only [List.getElem_toArray, List.getElem_cons_succ, List.getElem_cons_zero, Act.put, List.setIfInBounds_toArray, List.set_cons_zero, List.set_cons_succ]
                  refine wpAnyH_take (i := 7) (v := ?_) rfl (by kernel_rfl) (by kernel_rfl) (by kernel_rfl) (fun _ _ _ h => h) (Or.inl ⟨by rfl, ?_⟩) hHeld ?_
                  rotate_left
                  · (intro wz _; go_simp; try with_reducible rfl)
                  try simp only [List.getElem_toArray, List.getElem_cons_succ, List.getElem_cons_zero, Act.put, List.setIfInBounds_toArray, List.set_cons_zero, List.set_cons_succ]
                  refine wpAnyH_take (i := 8) (v := _) rfl (by kernel_rfl) (by kernel_rfl) (by kernel_rfl) (fun _ _ _ h => h) (yields_load1 rfl 34 _ rfl rfl hbiO I0 Try.underlying34 rfl) hHeld ?_
                  try simp only [List.getElem_toArray, List.getElem_cons_succ, List.getElem_cons_zero, Act.put, List.setIfInBounds_toArray, List.set_cons_zero, List.set_cons_succ]
                  refine wpAnyH_take (i := 9) (v := ?_) rfl (by kernel_rfl) (by kernel_rfl) (by kernel_rfl) (fun _ _ _ h => h) (Or.inl ⟨by rfl, ?_⟩) hHeld ?_
                  rotate_left
                  · (intro wz _; go_simp; try with_reducible rfl)
                  try simp only [List.getElem_toArray, List.getElem_cons_succ, List.getElem_cons_zero, Act.put, List.setIfInBounds_toArray, List.set_cons_zero, List.set_cons_succ]
                  refine wpAnyH_take (i := 10) (v := ?_) rfl (by kernel_rfl) (by kernel_rfl) (by kernel_rfl) (fun _ _ _ h => h) (Or.inl ⟨by rfl, ?_⟩) hHeld ?_
                  rotate_left
                  · (intro wz _; go_simp; try with_reducible rfl)
                  try simp only [List.getElem_toArray, List.getElem_cons_succ, List.getElem_cons_zero, Act.put, List.setIfInBounds_toArray, List.set_cons_zero, List.set_cons_succ]
                  replace h := h.drew
                  generalize w.drew = wq at h hHeld ⊢
                  clear w
                  obtain ⟨w, rfl⟩ : ∃ q : World, q = wq := ⟨_, rfl⟩
                  refine wpAnyH_ready (rs := [11]) (by kernel_rfl) (by simp) ?_
                  refine AllReadyH.cons rfl (fun K hK => ?_) AllReadyH.nil
                  (refine step_putRow encA_len h hOle hO (by simp) rfl 65 _ _ rfl rfl (k := tn) rfl (cells := #[.bool false, .int .u64 (ep5 : Nat)]) rfl HTN.out (false, ep5) rfl (fun u hu => by simp [encA] at hu; rcases hu with rfl | rfl <;> rfl) (by kernel_rfl) ?_; clear h hHeld hO hOle; intro w M7 h hle7 hown7)
                  refine hK.out _ _ (h.le hle7) (fun hHeld => ?_)
                  clear hK K
                  try simp only [Act.put, List.setIfInBounds_toArray, List.set_cons_zero, List.set_cons_succ]
                  refine wpAnyH_done (by kernel_rfl) ?_ _
                  obtain ⟨lab7, K7, labK7, hM7, hB7, hK7, hR7⟩ := HM6.out.rowTo HB6.out hle7 hown7
                  have hEnd := h
                  clear h
                  go_wp2_with (fail)
                  go_meet
                  case rel => exact ⟨M7, lab7, K7, labK7, hEnd, hM7, hB7, Mm.le_trans HS6.out (stable_kp hK7 (by omega)), stable_kp hK7 (by omega) _ _ HSB6.out, by rw [HABt.out (by simp)]; exact HE6.out.setA hK7 hR7⟩
                · have hnz : ((ac5 : Int) != 0) = true := by rw [show (0 : Int) = ((0 : Nat) : Int) from rfl, int_neq]; simpa using hz0
                  have hnb : (ac5 != 0) = true := by simpa using hz0
                  rw [hnb] at HABt
                  have HZ := Lib.hid hz0
                  clear hz0 hnb
                  go_upto_region 27 with (fail)
                  refine wp_region_held_drew (S := Has σ ((outK K5 M6 labK5 2))) (by kernel_rfl) (h.drew.le hOle) (fun hHeld => ?_)
                  refine wpAnyH_take (i := 0) (v := ?_) rfl (by kernel_rfl) (by kernel_rfl) (by kernel_rfl) (fun _ _ _ h => h) (Or.inl ⟨by rfl, ?_⟩) hHeld ?_
                  rotate_left
                  · (intro wz _; go_simp; try with_reducible rfl)
                  try simp only [List.getElem_toArray, List.getElem_cons_succ, List.getElem_cons_zero, Act.put, List.setIfInBounds_toArray, List.set_cons_zero, List.set_cons_succ]
                  refine wpAnyH_take (i := 1) (v := ?_) rfl (by kernel_rfl) (by kernel_rfl) (by kernel_rfl) (fun _ _ _ h => h) (Or.inl ⟨by rfl, ?_⟩) hHeld ?_
                  rotate_left
                  · (intro wz _; go_simp; try with_reducible rfl)
                  try simp only [List.getElem_toArray, List.getElem_cons_succ, List.getElem_cons_zero, Act.put, List.setIfInBounds_toArray, List.set_cons_zero, List.set_cons_succ]
                  refine wpAnyH_take (i := 2) (v := ?_) rfl (by kernel_rfl) (by kernel_rfl) (by kernel_rfl) (fun _ _ _ h => h) (Or.inl ⟨by rfl, ?_⟩) hHeld ?_
                  rotate_left
                  · (intro wz _; go_simp; try with_reducible rfl)
                  try simp only [List.getElem_toArray, List.getElem_cons_succ, List.getElem_cons_zero, Act.put, List.setIfInBounds_toArray, List.set_cons_zero, List.set_cons_succ]
                  refine wpAnyH_take (i := 3) (v := ?_) rfl (by kernel_rfl) (by kernel_rfl) (by kernel_rfl) (fun _ _ _ h => h) (Or.inl ⟨by rfl, ?_⟩) hHeld ?_
                  rotate_left
                  · (intro wz _; go_simp; try with_reducible rfl)
                  try simp only [List.getElem_toArray, List.getElem_cons_succ, List.getElem_cons_zero, Act.put, List.setIfInBounds_toArray, List.set_cons_zero, List.set_cons_succ]
                  refine wpAnyH_take (i := 4) (v := ?_) rfl (by kernel_rfl) (by kernel_rfl) (by kernel_rfl) (fun _ _ _ h => h) (Or.inl ⟨by rfl, ?_⟩) hHeld ?_
                  rotate_left
                  · (intro wz _; go_simp; try with_reducible rfl)
                  try simp only [List.getElem_toArray, List.getElem_cons_succ, List.getElem_cons_zero, Act.put, List.setIfInBounds_toArray, List.set_cons_zero, List.set_cons_succ]
                  refine wpAnyH_take (i := 5) (v := _) rfl (by kernel_rfl) (by kernel_rfl) (by kernel_rfl) (fun _ _ _ h => h) (yields_load1 rfl 34 _ rfl rfl hbiO It Try.underlying34 rfl) hHeld ?_
                  try simp only [List.getElem_toArray, List.getElem_cons_succ, List.getElem_cons_zero, Act.put, List.setIfInBounds_toArray, List.set_cons_zero, List.set_cons_succ]
                  refine wpAnyH_take (i := 6) (v := ?_) rfl (by kernel_rfl) (by kernel_rfl) (by kernel_rfl) (fun _ _ _ h => h) (Or.inl ⟨by rfl, ?_⟩) hHeld ?_
                  rotate_left
                  · (intro wz _; go_simp; try with_reducible rfl)
                  try simp only [List.getElem_toArray, List.getElem_cons_succ, List.getElem_cons_zero, Act.put, List.setIfInBounds_toArray, List.set_cons_zero, List.set_cons_succ]
                  refine wpAnyH_take (i := 7) (v := ?_) rfl (by kernel_rfl) (by kernel_rfl) (by kernel_rfl) (fun _ _ _ h => h) (Or.inl ⟨by rfl, ?_⟩) hHeld ?_
                  rotate_left
                  · (intro wz _; go_simp; try with_reducible rfl)
                  try simp only [List.getElem_toArray, List.getElem_cons_succ, List.getElem_cons_zero, Act.put, List.setIfInBounds_toArray, List.set_cons_zero, List.set_cons_succ]
                  refine wpAnyH_take (i := 8) (v := _) rfl (by kernel_rfl) (by kernel_rfl) (by kernel_rfl) (fun _ _ _ h => h) (yields_load1 rfl 34 _ rfl rfl hbiO I0 Try.underlying34 rfl) hHeld ?_
                  try simp only [List.getElem_toArray, List.getElem_cons_succ, List.getElem_cons_zero, Act.put, List.setIfInBounds_toArray, List.set_cons_zero, List.set_cons_succ]
                  refine wpAnyH_take (i := 9) (v := ?_) rfl (by kernel_rfl) (by kernel_rfl) (by kernel_rfl) (fun _ _ _ h => h) (Or.inl ⟨by rfl, ?_⟩) hHeld ?_
                  rotate_left
                  · (intro wz _; go_simp; try with_reducible rfl)
                  try simp only [List.getElem_toArray, List.getElem_cons_succ, List.getElem_cons_zero, Act.put, List.setIfInBounds_toArray, List.set_cons_zero, List.set_cons_succ]
                  refine wpAnyH_take (i := 10) (v := ?_) rfl (by kernel_rfl) (by kernel_rfl) (by kernel_rfl) (fun _ _ _ h => h) (Or.inl ⟨by rfl, ?_⟩) hHeld ?_
                  rotate_left
                  · (intro wz _; go_simp; try with_reducible rfl)
                  try simp only [List.getElem_toArray, List.getElem_cons_succ, List.getElem_cons_zero, Act.put, List.setIfInBounds_toArray, List.set_cons_zero, List.set_cons_succ]
                  replace h := h.drew
                  generalize w.drew = wq at h hHeld ⊢
                  clear w
                  obtain ⟨w, rfl⟩ : ∃ q : World, q = wq := ⟨_, rfl⟩
                  refine wpAnyH_ready (rs := [11]) (by kernel_rfl) (by simp) ?_
                  refine AllReadyH.cons rfl (fun K hK => ?_) AllReadyH.nil
                  (refine step_putRow encA_len h hOle hO (by simp) rfl 65 _ _ rfl rfl (k := tn) rfl (cells := #[.bool true, .int .u64 (ep5 : Nat)]) rfl HTN.out (true, ep5) rfl (fun u hu => by simp [encA] at hu; rcases hu with rfl | rfl <;> rfl) (by kernel_rfl) ?_; clear h hHeld hO hOle; intro w M7 h hle7 hown7)
                  refine hK.out _ _ (h.le hle7) (fun hHeld => ?_)
                  clear hK K
                  try simp only [Act.put, List.setIfInBounds_toArray, List.set_cons_zero, List.set_cons_succ]
                  refine wpAnyH_done (by kernel_rfl) ?_ _
                  obtain ⟨lab7, K7, labK7, hM7, hB7, hK7, hR7⟩ := HM6.out.rowTo HB6.out hle7 hown7
                  have hEnd := h
                  clear h
                  go_wp2_with (fail)
                  go_meet
                  case rel => exact ⟨M7, lab7, K7, labK7, hEnd, hM7, hB7, Mm.le_trans HS6.out (stable_kp hK7 (by omega)), stable_kp hK7 (by omega) _ _ HSB6.out, by rw [HABt.out (by simp)]; exact HE6.out.setA hK7 hR7⟩
          case rest =>
          obtain ⟨M7, lab7, K7, labK7, h7, hM7, hB7, hS7, hSB7, hE7⟩ := hcut
          clear h hbi6 It HM6 HB6 HE6 HS6 HSB6 HABf HABt Iz I1 W0 Wt Wz W1 HAC3
          obtain ⟨w, rfl⟩ : ∃ q : World, q = wc := ⟨_, rfl⟩
          have h := h7
          have HM7 := Lib.hid hM7
          have HB7 := Lib.hid hB7
          have HS7 := Lib.hid hS7
          have HSB7 := Lib.hid hSB7
          have HE7 := Lib.hid hE7
          clear h7 hM7 hB7 hS7 hSB7 hE7
          go_upto_region 28 with (fail)
          go_cut [150] from 48 to 230 (fun u wx => u = .bool b10 ∧ Has σ M7 wx)
          case first =>
            as_aux_lemma =>
              cases lft
              · rcases HFN2.out with e | e | e
                · subst e
                  obtain rfl : b10 = true := by rw [← HB10.out]; rfl
                  go_wp2
                  go_meet
                  case rel => exact ⟨rfl, h⟩
                · subst e
                  obtain rfl : b10 = false := by rw [← HB10.out]; rfl
                  go_wp2
                  go_meet
                  case rel => exact ⟨rfl, h⟩
                · subst e
                  obtain rfl : b10 = false := by rw [← HB10.out]; rfl
                  go_wp2
                  go_meet
                  case rel => exact ⟨rfl, h⟩
              · obtain rfl : b10 = false := by rw [← HB10.out]; rfl
                go_wp2
                go_meet
                case rel => exact ⟨rfl, h⟩
          case rest =>
          obtain ⟨rfl, hq0⟩ := hcut
          clear h
          obtain ⟨w, rfl⟩ : ∃ q : World, q = wc := ⟨_, rfl⟩
          have h := hq0
          clear hq0
          go_upto_if 150 with (fail)
          go_cut [] from 48 to 230 (fun wx => ∃ (M : Mm) (lab : Nat → Nat) (K : Mm) (labK : Nat → Nat), Has σ M wx ∧ Mach M lab p s5 ∧ Base K M lab ∧ M1.le (stable K labK) ∧ stable K labK bi = some (.cells irow 37) ∧ LawE K labK T ba bb ab5 (if b10 = true then put1 ins tn true else ins))
          case first =>
            as_aux_lemma =>
              cases b10
              · go_wp2
                go_meet
                case rel => exact ⟨M7, lab7, K7, labK7, h, HM7.out, HB7.out, HS7.out, HSB7.out, by rw [if_neg (by simp)]; exact HE7.out⟩
              · have hO := HE7.out.brow.up HB7.out.le
                have hOle := outK_le K7 M7 labK7 3
                go_upto_region 30 with (first
                  | ((with_reducible show wpList _ _ _ ({ dst := _, op := Op.store 4 _ _, type := _, pos := _, after := _, guard := _ } :: _) _ _; refine wpList_putOne h hOle hO rfl 4 _ _ rfl rfl (k := tn) rfl HTN.out (u := .bool true) rfl rfl (by kernel_rfl) ?_; clear h hOle hO; intro w M8 h hle8 hown8)))
                obtain ⟨lab8, K8, labK8, hM8, hB8, hK8, hR8⟩ := HM7.out.rowTo HB7.out hle8 hown8
                have hE8 := HE7.out.setB hK8 hR8
                obtain ⟨curA, hgA, hcA⟩ := Own.at_ hE8.arow
                obtain ⟨ga, hga⟩ : ∃ x, ab5 tn = x := ⟨_, rfl⟩
                obtain ⟨isA, G⟩ := ga
                have eA0 : curA[tn * 2]? = some (.bool isA) := hcA (tn * 2 + 0) _ (by rw [ab_get HTN.out 0 (by omega), hga]; rfl)
                have eA1 : curA[tn * 2 + 1]? = some (.int .u64 (G : Nat)) := hcA (tn * 2 + 1) _ (by rw [ab_get HTN.out 1 (by omega), hga]; rfl)
                have hgA8 := hB8.le _ _ hgA
                obtain ⟨trow, tty, hq8, d8⟩ := ep_told hM8 HA5.out.1 HQ.out
                obtain ⟨td, htd⟩ : ∃ x, e5.t0 tn = x := ⟨_, rfl⟩
                have h10 : fnn = 10 ∧ lft = false := by have := HB10.out; simp at this; exact ⟨this.2, this.1⟩
                have hpin := HA5.out.2.1.pin (by rw [HFN.out]; exact h10.1) (epN_none (by rw [HLFT.out]; exact h10.2))
                rw [HAB5.out, hga, htd] at hpin
                obtain ⟨hp1, hp2⟩ := hpin
                have hp1 : isA = true := hp1
                subst hp1
                have hp2 : td = G ∨ td = G + 1 := hp2
                have hGb : G ≤ 2000 := by
                  have h1 := (HA5.out.2.1.inv.yes tn HTN.out (by rw [HAB5.out, hga])).2.1
                  have h2 := HA5.out.2.1.inv.epb (levT c tn)
                  rw [HAB5.out, hga] at h1
                  have h3 : G ≤ e5.ep (levT c tn) := h1
                  have h4 := HAL.out.2.1
                  have h5 := HLT.out
                  omega
                rw [htd] at d8
                have hS8 := Mm.le_trans HS7.out (stable_kp hK8 (show ¬ 0 = 3 by omega))
                have hSB8 := stable_kp hK8 (show ¬ 0 = 3 by omega) _ _ HSB7.out
                have HEND : Hid (Mach M8 lab8 p s5 ∧ Base K8 M8 lab8 ∧ M1.le (stable K8 labK8) ∧ stable K8 labK8 bi = some (.cells irow 37) ∧ LawE K8 labK8 T ba bb ab5 (put1 ins tn true)) := Lib.hid ⟨hM8, hB8, hS8, hSB8, hE8⟩
                have htT : (tn : Int) < (T : Int) := by have := HTN.out; omega
                clear hM8 hB8 hK8 hR8 hE8 hcA hga hgA hle8 hown8 h10 htd hS8 hSB8
                rcases hp2 with e | e
                · obtain rfl := e
                  refine wp_region_class (Has σ M8) (by kernel_rfl) (by kernel_rfl) h.drew ?_
                  clear h
                  repeat (first
                    | go_big_quiet_skip
                    | (go_big_quiet_want; first
                      | (refine quiet_load_has 4 _ rfl rfl hgA8 eA0 Try.underlying4 rfl ?_; simp only [Act.put, List.setIfInBounds_toArray, List.set_cons_zero, List.set_cons_succ]; go_big_quiet_on)
                      | (refine quiet_load_has 34 _ rfl rfl hq8 d8 Try.underlying34 rfl ?_; simp only [Act.put, List.setIfInBounds_toArray, List.set_cons_zero, List.set_cons_succ]; go_big_quiet_on)
                      | (refine quiet_load_has 34 _ rfl rfl hgA8 eA1 Try.underlying34 rfl ?_; simp only [Act.put, List.setIfInBounds_toArray, List.set_cons_zero, List.set_cons_succ]; go_big_quiet_on)
                      | (go_big_quiet_op; first | go_big_quiet_on | go_big_quiet_call (first | with_reducible exact fun _ => rfl))))
                  refine wpQuiet_nil ?_
                  try clear w
                  intro w h
                  go_wp2
                  go_meet
                  case rel => exact ⟨M8, lab8, K8, labK8, h, HEND.out.1, HEND.out.2.1, HEND.out.2.2.1, HEND.out.2.2.2.1, by first | (rw [if_pos rfl]; exact HEND.out.2.2.2.2) | (simp only [if_true]; exact HEND.out.2.2.2.2)⟩
                · have hne2 : ((td : Int) != (G : Int)) = true := by rw [int_neq]; simp; omega
                  have hw1 : IntKind.u64.wrap ((G : Int) + 1) = (td : Int) := by rw [show (G : Int) + 1 = (td : Int) by omega]; exact IntWalk.u64_in _ (by omega)
                  clear e
                  refine wp_region_class (Has σ M8) (by kernel_rfl) (by kernel_rfl) h.drew ?_
                  clear h
                  repeat (first
                    | go_big_quiet_skip
                    | (go_big_quiet_want; first
                      | (refine quiet_load_has 4 _ rfl rfl hgA8 eA0 Try.underlying4 rfl ?_; simp only [Act.put, List.setIfInBounds_toArray, List.set_cons_zero, List.set_cons_succ]; go_big_quiet_on)
                      | (refine quiet_load_has 34 _ rfl rfl hq8 d8 Try.underlying34 rfl ?_; simp only [Act.put, List.setIfInBounds_toArray, List.set_cons_zero, List.set_cons_succ]; go_big_quiet_on)
                      | (refine quiet_load_has 34 _ rfl rfl hgA8 eA1 Try.underlying34 rfl ?_; simp only [Act.put, List.setIfInBounds_toArray, List.set_cons_zero, List.set_cons_succ]; go_big_quiet_on)
                      | (go_big_quiet_op; first | go_big_quiet_on | go_big_quiet_call (first | with_reducible exact fun _ => rfl))))
                  refine wpQuiet_nil ?_
                  try clear w
                  intro w h
                  go_wp2
                  go_meet
                  case rel => exact ⟨M8, lab8, K8, labK8, h, HEND.out.1, HEND.out.2.1, HEND.out.2.2.1, HEND.out.2.2.2.1, by first | (rw [if_pos rfl]; exact HEND.out.2.2.2.2) | (simp only [if_true]; exact HEND.out.2.2.2.2)⟩
          case rest =>
          obtain ⟨M8, lab8, K8, labK8, h8, hM8, hB8, hS8, hSB8, hE8⟩ := hcut
          clear h HM7 HB7 HE7 HS7 HSB7
          obtain ⟨w, rfl⟩ : ∃ q : World, q = wc := ⟨_, rfl⟩
          have h := h8
          obtain ⟨insA, hinsA⟩ : ∃ x, (if b10 = true then put1 ins tn true else ins) = x := ⟨_, rfl⟩
          rw [hinsA] at hE8
          have HINA := Lib.hid hinsA
          have HM8 := Lib.hid hM8
          have HB8 := Lib.hid hB8
          have HS8 := Lib.hid hS8
          have HSB8 := Lib.hid hSB8
          have HE8 := Lib.hid hE8
          clear h8 hM8 hB8 hS8 hSB8 hE8 hinsA HB10
          go_upto_region 32 with (fail)
          go_cut [192] from 48 to 230 (fun u wx => u = .bool b11 ∧ Has σ M8 wx)
          case first =>
            as_aux_lemma =>
              cases lft
              · rcases HFN2.out with e | e | e
                · subst e
                  obtain rfl : b11 = false := by rw [← HB11.out]; rfl
                  go_wp2
                  go_meet
                  case rel => exact ⟨rfl, h⟩
                · subst e
                  obtain rfl : b11 = true := by rw [← HB11.out]; rfl
                  go_wp2
                  go_meet
                  case rel => exact ⟨rfl, h⟩
                · subst e
                  obtain rfl : b11 = false := by rw [← HB11.out]; rfl
                  go_wp2
                  go_meet
                  case rel => exact ⟨rfl, h⟩
              · obtain rfl : b11 = false := by rw [← HB11.out]; rfl
                go_wp2
                go_meet
                case rel => exact ⟨rfl, h⟩
          case rest =>
          obtain ⟨rfl, hq0⟩ := hcut
          clear h
          obtain ⟨w, rfl⟩ : ∃ q : World, q = wc := ⟨_, rfl⟩
          have h := hq0
          clear hq0
          go_upto_if 192 with (fail)
          go_cut [] from 48 to 230 (fun wx => ∃ (M : Mm) (lab : Nat → Nat) (K : Mm) (labK : Nat → Nat), Has σ M wx ∧ Mach M lab p s5 ∧ Base K M lab ∧ M1.le (stable K labK) ∧ stable K labK bi = some (.cells irow 37) ∧ LawE K labK T ba bb ab5 (if b11 = true then put1 insA tn false else insA))
          case first =>
            as_aux_lemma =>
              cases b11
              · go_wp2
                go_meet
                case rel => exact ⟨M8, lab8, K8, labK8, h, HM8.out, HB8.out, HS8.out, HSB8.out, by rw [if_neg (by simp)]; exact HE8.out⟩
              · have hO := HE8.out.brow.up HB8.out.le
                have hOle := outK_le K8 M8 labK8 3
                go_upto_region 34 with (first
                  | ((with_reducible show wpList _ _ _ ({ dst := _, op := Op.store 4 _ _, type := _, pos := _, after := _, guard := _ } :: _) _ _; refine wpList_putOne h hOle hO rfl 4 _ _ rfl rfl (k := tn) rfl HTN.out (u := .bool false) rfl rfl (by kernel_rfl) ?_; clear h hOle hO; intro w M9 h hle9 hown9)))
                obtain ⟨lab9, K9, labK9, hM9, hB8, hK9, hR9⟩ := HM8.out.rowTo HB8.out hle9 hown9
                have hE8 := HE8.out.setB hK9 hR9
                obtain ⟨curA, hgA, hcA⟩ := Own.at_ hE8.arow
                obtain ⟨ga, hga⟩ : ∃ x, ab5 tn = x := ⟨_, rfl⟩
                obtain ⟨isA, G⟩ := ga
                have eA0 : curA[tn * 2]? = some (.bool isA) := hcA (tn * 2 + 0) _ (by rw [ab_get HTN.out 0 (by omega), hga]; rfl)
                have eA1 : curA[tn * 2 + 1]? = some (.int .u64 (G : Nat)) := hcA (tn * 2 + 1) _ (by rw [ab_get HTN.out 1 (by omega), hga]; rfl)
                have hgA8 := hB8.le _ _ hgA
                have h11 : fnn = 11 ∧ lft = false := by have := HB11.out; simp at this; exact ⟨this.2, this.1⟩
                have hpin := HA5.out.2.1.unpin (by rw [HFN.out]; exact h11.1) (epN_none (by rw [HLFT.out]; exact h11.2))
                rw [HAB5.out, hga] at hpin
                have hp1 : isA = false := hpin
                subst hp1
                have hS9 := Mm.le_trans HS8.out (stable_kp hK9 (show ¬ 0 = 3 by omega))
                have hSB9 := stable_kp hK9 (show ¬ 0 = 3 by omega) _ _ HSB8.out
                have HEND : Hid (Mach M9 lab9 p s5 ∧ Base K9 M9 lab9 ∧ M1.le (stable K9 labK9) ∧ stable K9 labK9 bi = some (.cells irow 37) ∧ LawE K9 labK9 T ba bb ab5 (put1 insA tn false)) := Lib.hid ⟨hM9, hB8, hS9, hSB9, hE8⟩
                have htT : (tn : Int) < (T : Int) := by have := HTN.out; omega
                clear hM9 hB8 hK9 hR9 hE8 hcA hga hgA hle9 hown9 h11 hS9 hSB9 hpin eA1
                go_wp2_with (first
                  | (with_reducible show wpList _ _ _ ({ dst := _, op := Op.load 4 _, type := _, pos := _, after := _, guard := _ } :: _) _ _; refine wpList_load1_has h rfl 4 _ rfl rfl hgA8 eA0 Try.underlying4 rfl ?_))
                go_meet
                case rel => exact ⟨M9, lab9, K9, labK9, h, HEND.out.1, HEND.out.2.1, HEND.out.2.2.1, HEND.out.2.2.2.1, by first | (rw [if_pos rfl]; exact HEND.out.2.2.2.2) | (simp only [if_true]; exact HEND.out.2.2.2.2)⟩
          case rest =>
          obtain ⟨M9, lab9, K9, labK9, h9, hM9, hB9, hS9, hSB9, hE9⟩ := hcut
          clear h HM8 HB8 HE8 HS8 HSB8
          obtain ⟨w, rfl⟩ : ∃ q : World, q = wc := ⟨_, rfl⟩
          have h := h9
          have hbf9 := hB9.le _ _ (stable_le _ _ _ _ (hS9 _ _ hbf))
          have hbi9 := hB9.le _ _ (stable_le _ _ _ _ hSB9)
          obtain ⟨curA, hgA, hcA⟩ := Own.at_ hE9.arow
          have hgA9 := hB9.le _ _ hgA
          have HCA := Lib.hid hcA
          have hinv := HA5.out.2.1.inv
          rw [HAB5.out, HIN.out, HINA.out] at hinv
          have HINV := Lib.hid hinv
          have HEND : Hid (Mach M9 lab9 p s5 ∧ Base K9 M9 lab9 ∧ M1.le (stable K9 labK9) ∧ LawE K9 labK9 T ba bb ab5 (if b11 = true then put1 insA tn false else insA)) := Lib.hid ⟨hM9, hB9, hS9, hE9⟩
          clear h9 hM9 hB9 hS9 hSB9 hE9 hgA hcA hinv
          go_upto_region 37 with (fail)
          go_loopw [18] (fun u wr => ∃ y : Nat, y ≤ T ∧ u = .int .i64 (y : Nat) ∧ Has σ M9 wr) (fun u _ => T - (intOf u).toNat)
          case atStart => exact ⟨0, Nat.zero_le _, rfl, h⟩
          case round =>
            clear h w
            obtain ⟨w, rfl⟩ : ∃ x : World, x = wr := ⟨_, rfl⟩
            obtain ⟨y, hy, rfl, h⟩ := hrel
            by_cases hyl : y < T
            · as_aux_lemma =>
                have hyl' : (y : Int) < (T : Int) := by omega
                have hy8 : (y : Int) < 8 := by omega
                have wy : IntKind.i64.wrap ((y : Int) + 1) = ((y + 1 : Nat) : Int) := by rw [show (y : Int) + 1 = ((y + 1 : Nat) : Int) by omega]; exact IntWalk.i64_in _ (by omega)
                have e2y : row[2 + y]? = some (.int .i64 (levT c y : Nat)) := by
                  rw [← HRW.out, ints_get (by omega), lev_cell HC.out HNU.out HT.out hyl]
                obtain ⟨ga, hga⟩ : ∃ x, ab5 y = x := ⟨_, rfl⟩
                obtain ⟨isA, G⟩ := ga
                have eA0 : curA[y * 2]? = some (.bool isA) := HCA.out (y * 2 + 0) _ (by rw [ab_get hyl 0 (by omega), hga]; rfl)
                have eA1 : curA[y * 2 + 1]? = some (.int .u64 (G : Nat)) := HCA.out (y * 2 + 1) _ (by rw [ab_get hyl 1 (by omega), hga]; rfl)
                have hyes := HINV.out.yes y hyl
                rw [hga] at hyes
                have hyes2 : levT c y = lv → isA = true → G ≤ 2000 ∧ ep5 ≤ G + 1 := fun e1 e2 => by
                  obtain ⟨_, a1, a2⟩ := hyes e2
                  rw [e1, HEP5.out] at a1 a2
                  have h2 := HINV.out.epb lv
                  rw [HEP5.out] at h2
                  have h4 := HAL.out.2.1
                  have h5 := HLT.out
                  exact ⟨by have : G ≤ ep5 := a1; omega, a2⟩
                obtain ⟨ly, hly⟩ : ∃ ly, levT c y = ly := ⟨_, rfl⟩
                rw [hly] at e2y hyes2
                have HYL := Lib.hid hyl
                clear hyl hy hyes hga hly
                by_cases hl : ly = lv
                · subst hl
                  cases isA
                  · clear hyes2
                    go_upto_region 39 with (first
                      | (with_reducible show wpList _ _ _ ({ dst := _, op := Op.load 3 _, type := _, pos := _, after := _, guard := _ } :: _) _ _; refine wpList_load1_has h rfl 3 _ rfl rfl hbf9 r1 Try.underlying3 rfl ?_))
                    refine wp_region_class (Has σ M9) (by kernel_rfl) (by kernel_rfl) h.drew ?_
                    clear h
                    repeat (first
                      | go_big_quiet_skip
                      | (go_big_quiet_want; first
                        | (refine quiet_load_has 3 _ rfl rfl hbf9 e2y Try.underlying3 rfl ?_; simp only [Act.put, List.setIfInBounds_toArray, List.set_cons_zero, List.set_cons_succ]; go_big_quiet_on)
                        | (refine quiet_load_has 4 _ rfl rfl hgA9 eA0 Try.underlying4 rfl ?_; simp only [Act.put, List.setIfInBounds_toArray, List.set_cons_zero, List.set_cons_succ]; go_big_quiet_on)
                        | (go_big_quiet_op; first | go_big_quiet_on | go_big_quiet_call (first | with_reducible exact fun _ => rfl))))
                    refine wpQuiet_nil ?_
                    try clear w
                    intro w h
                    go_wp2
                    go_roundw
                    case rel => exact ⟨y + 1, by have := HYL.out; omega, by go_num, h⟩
                    case measure => have := HYL.out; simp [intOf]; omega
                  · obtain ⟨g1, g2⟩ := hyes2 rfl rfl
                    have hw1 : IntKind.u64.wrap ((G : Int) + 1) = ((G + 1 : Nat) : Int) := by rw [show (G : Int) + 1 = ((G + 1 : Nat) : Int) by omega]; exact IntWalk.u64_in _ (by omega)
                    obtain ⟨G1, hG1⟩ : ∃ x, G + 1 = x := ⟨_, rfl⟩
                    rw [hG1] at hw1 g2
                    have hgt : ¬ ((G1 : Nat) : Int) < (ep5 : Int) := by omega
                    clear hyes2 hG1 g1 g2
                    go_upto_region 39 with (first
                      | (with_reducible show wpList _ _ _ ({ dst := _, op := Op.load 3 _, type := _, pos := _, after := _, guard := _ } :: _) _ _; refine wpList_load1_has h rfl 3 _ rfl rfl hbf9 r1 Try.underlying3 rfl ?_))
                    refine wp_region_class (Has σ M9) (by kernel_rfl) (by kernel_rfl) h.drew ?_
                    clear h
                    repeat (first
                      | go_big_quiet_skip
                      | (go_big_quiet_want; first
                        | (refine quiet_load_has 3 _ rfl rfl hbf9 e2y Try.underlying3 rfl ?_; simp only [Act.put, List.setIfInBounds_toArray, List.set_cons_zero, List.set_cons_succ]; go_big_quiet_on)
                        | (refine quiet_load_has 4 _ rfl rfl hgA9 eA0 Try.underlying4 rfl ?_; simp only [Act.put, List.setIfInBounds_toArray, List.set_cons_zero, List.set_cons_succ]; go_big_quiet_on)
                        | (refine quiet_load_has 34 _ rfl rfl hbi9 I0 Try.underlying34 rfl ?_; simp only [Act.put, List.setIfInBounds_toArray, List.set_cons_zero, List.set_cons_succ]; go_big_quiet_on)
                        | (refine quiet_load_has 34 _ rfl rfl hgA9 eA1 Try.underlying34 rfl ?_; simp only [Act.put, List.setIfInBounds_toArray, List.set_cons_zero, List.set_cons_succ]; go_big_quiet_on)
                        | (go_big_quiet_op; first | go_big_quiet_on | go_big_quiet_call (first | with_reducible exact fun _ => rfl))))
                    refine wpQuiet_nil ?_
                    try clear w
                    intro w h
                    go_wp2
                    go_roundw
                    case rel => exact ⟨y + 1, by have := HYL.out; omega, by go_num, h⟩
                    case measure => have := HYL.out; simp [intOf]; omega
                · have hl2 : ((ly : Int) == (lv : Int)) = false := by
                    rw [beq_eq_false_iff_ne]; omega
                  clear hyes2 hl
                  go_upto_region 39 with (first
                    | (with_reducible show wpList _ _ _ ({ dst := _, op := Op.load 3 _, type := _, pos := _, after := _, guard := _ } :: _) _ _; refine wpList_load1_has h rfl 3 _ rfl rfl hbf9 r1 Try.underlying3 rfl ?_))
                  refine wp_region_class (Has σ M9) (by kernel_rfl) (by kernel_rfl) h.drew ?_
                  clear h
                  repeat (first
                    | go_big_quiet_skip
                    | (go_big_quiet_want; first
                      | (refine quiet_load_has 3 _ rfl rfl hbf9 e2y Try.underlying3 rfl ?_; simp only [Act.put, List.setIfInBounds_toArray, List.set_cons_zero, List.set_cons_succ]; go_big_quiet_on)
                      | (go_big_quiet_op; first | go_big_quiet_on | go_big_quiet_call (first | with_reducible exact fun _ => rfl))))
                  refine wpQuiet_nil ?_
                  try clear w
                  intro w h
                  go_wp2
                  go_roundw
                  case rel => exact ⟨y + 1, by have := HYL.out; omega, by go_num, h⟩
                  case measure => have := HYL.out; simp [intOf]; omega
            · obtain rfl : T = y := by omega
              have hyl' : ¬ (T : Int) < (T : Int) := by omega
              go_wp2_with (first
                | (with_reducible show wpList _ _ _ ({ dst := _, op := Op.load 3 _, type := _, pos := _, after := _, guard := _ } :: _) _ _; refine wpList_load1_has h rfl 3 _ rfl rfl hbf9 r1 Try.underlying3 rfl ?_))
              go_roundw
              case rel => exact ⟨i + 1, M9, lab9, K9, labK9, s5, e5, ab5, _, by have := HLT.out; omega, by first | rfl | (have := HLT.out; go_num), h, HEND.out.1, HEND.out.2.1, HEND.out.2.2.1, HEND.out.2.2.2, ⟨⟨a + 1, m + 1, by have := HAL.out.1; omega, by have := HAL.out.2.1; omega, HA5.out.1, HINV.out⟩, HA5.out.2.2⟩⟩
              case measure => have := HLT.out; simp [intOf]; omega
      · have TH := Lib.hid (fun (w : World) (h : Has σ M2 w) => mThread_no h HM2.out et (by obtain ⟨_, _, _, _, hA, _⟩ := HA2.out.abs; rw [hA.ttp]; have h1 := HTL.out; have h2 := HT.out; omega))
        clear htt
        go_wp2_with (first
          | (with_reducible show wpList _ _ _ ({ dst := _, op := Op.load 3 _, type := _, pos := _, after := _, guard := _ } :: _) _ _; refine wpList_load1_has h rfl 3 _ rfl rfl hbl e0 Try.underlying3 rfl ?_)
          | (go_at_call 15; refine (TH.out _ h).mono ?_; clear h; rintro _ w ⟨rfl, h⟩))
        go_roundw
        case rel => exact ⟨i + 1, M2, lab2, K2, labK2, s, e, ab, ins, by have := HLT.out; omega, by first | rfl | go_num, h, HM2.out, HB2.out, HS2.out, HE2.out, HA2.out.mono (Nat.le_succ _)⟩
        case measure => have := HLT.out; simp [intOf]; omega
    · obtain rfl : i = n := by omega
      have hlt3 : ¬ (i : Int) < (i : Int) := by omega
      obtain ⟨a, m, ha, hm, hA, hI⟩ := HA2.out.abs
      have htp : tp.length = T := by have h1 := HTL.out; have h2 := HT.out; omega
      have OP := Lib.hid (fun (w : World) (h : Has σ M2 w) => open_rel h HM2.out HB2.out (ec_open HC.out HNU.out HT.out htp) (x := e) ⟨a, m, ab, ins, hA, hI, HA2.out.r0, by omega, by omega⟩ (by omega) (by omega))
      have FT := Lib.hid (fun (w : World) (h : Has σ M2 w) => mFault_eq h HM2.out)
      rw [hA.good] at FT
      have e20 : ((20 : Nat) : Int) = 20 := rfl
      rw [e20] at OP
      clear hlt hi hA hI ha hm e20
      go_wp2_with (first
        | (go_at_call 17; refine (FT.out _ h).mono ?_; clear h; rintro _ w ⟨rfl, h⟩)
        | ((go_at_call 22; refine (OP.out _ h).mono ?_; clear h; rintro _ w ⟨rfl, M3, lab3, e3, s3, h, hM3, hB3, hJ3, hR3⟩; obtain ⟨a3, m3, ab3, ins3, hA3, _⟩ := hJ3; have FT := Lib.hid (fun (w : World) (h : Has σ M3 w) => mFault_eq h hM3); rw [hA3.good] at FT))
        | (go_at_call 8; refine (LI.out _ _ h).mono ?_; clear h; rintro _ w ⟨rfl, h⟩))
      go_ret
      exact ⟨rfl, h.le (Mm.le_trans HLE1.out (Mm.le_trans HS2.out (Mm.le_trans (stable_le _ _) hB3.le)))⟩
end
end Go.Proofs.Ytjeeldacnllipaa
