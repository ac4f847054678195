/- Law 25, MintFull: the law's walk. -/
import Derived.Test.YtjeeldacnllipaaGreatMgC
namespace Go.Proofs.YtjeeldacnllipaaGreat
section
open Go.RowKit
set_option linter.unusedVariables false
set_option linter.unusedSimpArgs false
set_option linter.unnecessarySimpa false
/-- Slots 1 to i are held. -/
structure MfI (S B i : Nat) (g : GM) (k t : Nat) : Prop where
  lv : LvR S B i g k (slotsFrom (i + 1) (S - i))
  gen : ∀ y, 1 ≤ y → y ≤ S → genOf (g.w k (oNd B S y 0)) = 0
  held : ∀ y, 1 ≤ y → y ≤ S → g.held k y = decide (y ≤ i)
  idle : g.thr t = []
theorem MfI.first {B S : Nat} (hS : 2 ≤ S) (k t : Nat) : MfI S B 1 (gm0 B S) k t := by
  refine ⟨(lvR_first hS k).mono (by omega), fun y h1 h2 => ?_, fun y h1 h2 => ?_, rfl⟩
  · show genOf (w0 B S S (oNd B S y 0)).toNat = 0
    rw [w0_nd B S y h1]
    split <;> decide
  · show (y == 1) = _
    rw [Bool.eq_iff_iff]
    simp
    omega
theorem MfI.next {S B i k t st key : Nat} {g : GM} (h : MfI S B i g k t) (hi : i < S) (hS60 : S ≤ 60) (hi1 : 1 ≤ i) : MfI S B (i + 1) (madeG B S g t k (i + 1) st key 0 0) k t := by
  have hlv := h.lv
  rw [show S - i = (S - (i + 1)) + 1 by omega, slotsFrom_succ] at hlv
  refine ⟨hlv.made (by omega) hS60, fun y h1 h2 => ?_, fun y h1 h2 => ?_, back_thr'⟩
  · by_cases e : y = i + 1
    · subst e
      rw [(made_node st key 0 0).1, h.gen _ h1 h2, gen_head (by omega)]
    · rw [made_w _ _ _ _ _ _ (fun hh => by have := hh.2; unfold oNd at this; omega)]
      exact h.gen y h1 h2
  · rw [made_held, h.held y h1 h2]
    by_cases e : y = i + 1
    · rw [if_pos ⟨rfl, e⟩]; symm; simp; omega
    · rw [if_neg (fun hh => e hh.2), Bool.eq_iff_iff]; simp; omega
theorem nHeld_all {S : Nat} {held : Nat → Bool} (h : ∀ y, 1 ≤ y → y ≤ S → held y = true) : nHeld held S = S := by
  unfold nHeld
  rw [List.filter_eq_self.2 (fun a ha => by have := List.mem_range.1 ha; exact h (a + 1) (by omega) (by omega)), List.length_range]
/-- Two machines with the same words have the same row of words. -/
theorem words_same {c : Nat → Int} {L B S N : Nat} {f1 f2 : Nat → Int} {w : Nat → Nat → Nat} (hn : Nums c L B S) (hN : N = L * (18 + B + 6 * S)) (h1 : WordsM c f1 w) (h2 : WordsM c f2 w) : ints .u64 N f1 = ints .u64 N f2 := ints_congr fun i hi => by
  have hz : 0 < 18 + B + 6 * S := by omega
  have hl : i / (18 + B + 6 * S) < L := by rw [Nat.div_lt_iff_lt_mul hz, ← hN]; exact hi
  have ho : i % (18 + B + 6 * S) < 18 + B + 6 * S := Nat.mod_lt _ hz
  have e : i = i / (18 + B + 6 * S) * (18 + B + 6 * S) + i % (18 + B + 6 * S) := by rw [Nat.mul_comm]; exact (Nat.div_add_mod i _).symm
  have a := h1 (i / (18 + B + 6 * S)) (i % (18 + B + 6 * S)) (by rw [hn.lev]; omega) (by rw [hn.sz]; omega)
  have b := h2 (i / (18 + B + 6 * S)) (i % (18 + B + 6 * S)) (by rw [hn.lev]; omega) (by rw [hn.sz]; omega)
  rw [hn.sz, Int.toNat_natCast, ← e] at a b
  rw [a, b]
set_option maxHeartbeats 2000000 in
set_option maxRecDepth 20000 in
theorem mFull_no {σ w : World} {M : Mm} (h : Has σ M w) (c : Nat → Int) (t : Int) (hm : confMayB c = false) :
    Calls Tryz.prog 8 #[confV c, .int .i64 t] w fun r w' => r = .returned (.bool true) ∧ Has σ M w' := by
  have NW := Lib.hid (fun (M' : Mm) (w : World) (h : Has σ M' w) => mNew_no h c hm)
  have NL := Lib.hid (fun (M' : Mm) (w : World) (h : Has σ M' w) => nLevel_eq h t)
  have LI := Lib.hid (fun (M' : Mm) (w : World) (h : Has σ M' w) => mi_lives h)
  have hx : (ints .i64 14 c).extract 0 (0 + 14) = ints .i64 14 c := rfl
  have hz : (ints .i64 14 c).size = 14 := rfl
  unfold errV at NW
  unfold confV at NW ⊢
  generalize ints .i64 14 c = row at NW hx hz ⊢
  clear hm
  go_enter Tryz.func8, Tryz.ntmps8
  go_upto_region 1 with (fail)
  obtain ⟨M1, hbx, hle, hbf, hnf⟩ := h.box (.cells row 24)
  generalize w.alloc _ = wx at hbx ⊢
  generalize w.heap.size = bf at hbf hnf ⊢
  clear h
  try clear w
  have h := hbx
  clear hbx
  obtain ⟨w, rfl⟩ : ∃ x : World, x = wx := ⟨_, rfl⟩
  go_wp2_with (first
    | ((with_reducible show wpList _ _ _ ({ dst := _, op := Op.load 24 _, type := _, pos := _, after := _, guard := _ } :: _) _ _); refine wpList_agg_has h rfl 24 _ rfl rfl hbf hx hz Tryz.underlying24 rfl (by kernel_rfl) ?_; try simp only [Act.put, List.setIfInBounds_toArray, List.set_cons_zero, List.set_cons_succ])
    | ((go_at_call 9; refine (NW.out _ _ h).mono ?_; clear h; rintro _ w ⟨b, M2, rfl, h, hle2, hn⟩; have hbf := hle2 _ _ hbf))
    | (go_at_call 12; refine (NL.out _ _ h).mono ?_; clear h; rintro _ w ⟨rfl, h⟩)
    | (go_at_call 38; refine (LI.out _ _ h).mono ?_; clear h; rintro _ w ⟨rfl, h⟩))
  go_ret
  exact ⟨rfl, h.le (Mm.le_trans hle hle2)⟩
set_option maxHeartbeats 2000000 in
set_option maxRecDepth 20000 in
theorem mFull_out {σ w : World} {M : Mm} (h : Has σ M w) (c : Nat → Int) (hc : ConfMay c) {L B S T : Nat} (hn : Nums c L B S) (hT : c 1 = (T : Nat)) (t : Int) (ht : ¬ (0 ≤ t ∧ t < (T : Int))) :
    Calls Tryz.prog 8 #[confV c, .int .i64 t] w fun r w' => r = .returned (.bool true) ∧ Has σ M w' := by
  have NW := Lib.hid (fun (M' : Mm) (w : World) (h : Has σ M' w) => mNew_yes h c hc hn)
  have LI := Lib.hid (fun (M' : Mm) (w : World) (h : Has σ M' w) => mi_lives h)
  have hx : (ints .i64 14 c).extract 0 (0 + 14) = ints .i64 14 c := rfl
  have hz : (ints .i64 14 c).size = 14 := rfl
  have ELV := Lib.hid (levT_out hT ht)
  unfold confV at NW ⊢
  generalize ints .i64 14 c = row at NW hx hz ⊢
  clear hc hn hT ht
  go_enter Tryz.func8, Tryz.ntmps8
  go_upto_region 1 with (fail)
  obtain ⟨M1, hbx, hle, hbf, hnf⟩ := h.box (.cells row 24)
  generalize w.alloc _ = wx at hbx ⊢
  generalize w.heap.size = bf at hbf hnf ⊢
  clear h
  try clear w
  have h := hbx
  clear hbx
  obtain ⟨w, rfl⟩ : ∃ x : World, x = wx := ⟨_, rfl⟩
  go_upto_region 2 with (first
    | ((with_reducible show wpList _ _ _ ({ dst := _, op := Op.load 24 _, type := _, pos := _, after := _, guard := _ } :: _) _ _); refine wpList_agg_has h rfl 24 _ rfl rfl hbf hx hz Tryz.underlying24 rfl (by kernel_rfl) ?_; try simp only [Act.put, List.setIfInBounds_toArray, List.set_cons_zero, List.set_cons_succ])
    | ((go_at_call 9; refine (NW.out _ _ h).mono ?_; clear h; rintro _ w ⟨p, M2, lab2, s, rfl, h, hB2, hM2, hN⟩)))
  have LV := Lib.hid (fun (w : World) (h : Has σ M2 w) => mLevel_eq h hM2 t)
  rw [hN.c, ELV.out] at LV
  have hle2 := hB2.le
  clear hM2 hB2 hN
  go_wp2_with (first
    | (go_at_call 12; refine (LV.out _ h).mono ?_; clear h; rintro _ w ⟨rfl, h⟩)
    | (go_at_call 38; refine (LI.out _ _ h).mono ?_; clear h; rintro _ w ⟨rfl, h⟩))
  go_ret
  exact ⟨rfl, h.le (Mm.le_trans hle hle2)⟩
set_option maxHeartbeats 4000000 in
set_option maxRecDepth 20000 in
theorem mFull_yes {σ w : World} {M : Mm} (h : Has σ M w) (c : Nat → Int) (hc : ConfMay c) {L B S T tn : Nat} (hn : Nums c L B S) (hT : c 1 = (T : Nat)) (htn : tn < T) :
    Calls Tryz.prog 8 #[confV c, .int .i64 (tn : Nat)] w fun r w' => r = .returned (.bool true) ∧ Has σ M w' := by
  have NW := Lib.hid (fun (M' : Mm) (w : World) (h : Has σ M' w) => mNew_yes h c hc hn)
  have LI := Lib.hid (fun (M' : Mm) (w : World) (h : Has σ M' w) => mi_lives h)
  have hx : (ints .i64 14 c).extract 0 (0 + 14) = ints .i64 14 c := rfl
  have hz : (ints .i64 14 c).size = 14 := rfl
  have r10 : (ints .i64 14 c)[10]? = some (.int .i64 (S : Nat)) := by rw [← hn.slo]; rfl
  obtain ⟨elv, ll⟩ := levT_of hc hn hT htn
  obtain ⟨lv, hlv⟩ : ∃ lv, levT c tn = lv := ⟨_, rfl⟩
  rw [hlv] at elv ll
  have hs0 := hn.s0
  have glv : ¬ (lv : Int) < 0 := by omega
  have HC := Lib.hid hc
  have HNU := Lib.hid hn
  have HT := Lib.hid hT
  have HTN := Lib.hid htn
  have HLV := Lib.hid hlv
  have HLL := Lib.hid ll
  have ELV := Lib.hid elv
  unfold confV at NW ⊢
  clear hc hn hT htn hlv elv ll
  generalize hrw : ints .i64 14 c = row at NW hx hz r10 ⊢
  clear hrw
  go_enter Tryz.func8, Tryz.ntmps8
  go_upto_region 1 with (fail)
  obtain ⟨M1, hbx, hle1, hbf, hnf⟩ := h.box (.cells row 24)
  generalize w.alloc _ = wx at hbx ⊢
  generalize w.heap.size = bf at hbf hnf ⊢
  clear h
  try clear w
  have h := hbx
  clear hbx
  obtain ⟨w, rfl⟩ : ∃ x : World, x = wx := ⟨_, rfl⟩
  go_upto_region 2 with (first
    | ((with_reducible show wpList _ _ _ ({ dst := _, op := Op.load 24 _, type := _, pos := _, after := _, guard := _ } :: _) _ _); refine wpList_agg_has h rfl 24 _ rfl rfl hbf hx hz Tryz.underlying24 rfl (by kernel_rfl) ?_; try simp only [Act.put, List.setIfInBounds_toArray, List.set_cons_zero, List.set_cons_succ])
    | ((go_at_call 9; refine (NW.out _ _ h).mono ?_; clear h; rintro _ w ⟨p, M2, lab2, s, rfl, h, hB2, hM2, hN⟩)))
  obtain ⟨q, hq0⟩ : ∃ q, s.tp[tn]? = some q := ⟨_, List.getElem?_eq_getElem (by have h1 := hM2.tlen; rw [hN.c, HT.out] at h1; have := HTN.out; omega)⟩
  have hA2 := absM_first HNU.out HC.out hN hM2.wsz
  have LV := Lib.hid (fun (w : World) (h : Has σ M2 w) => mLevel_eq h hM2 (tn : Int))
  rw [hN.c, ELV.out] at LV
  generalize htp : s.tp = tp at hA2 hq0
  have HQ := Lib.hid hq0
  have HM2 := Lib.hid hM2
  have HB2 := Lib.hid hB2
  have HA2 := Lib.hid hA2
  have HLE1 := Lib.hid hle1
  clear hM2 hB2 hN hA2 NW hle1 hnf hq0 htp
  go_upto_region 6 with (first
    | (go_at_call 12; refine (LV.out _ h).mono ?_; clear h; rintro _ w ⟨rfl, h⟩))
  clear LV
  go_loopw [8] (fun u wr => ∃ (i n : Nat) (M : Mm) (lab : Nat → Nat) (s : MachS) (g : GM), 1 ≤ i ∧ i ≤ S ∧ n ≤ 12 * i ∧ u = .int .i64 (i : Nat) ∧ Has σ M wr ∧ Mach M lab p s ∧ Base M1 M lab ∧ AbsM c tp n s g ∧ MfI S B i g lv tn) (fun u _ => S - (intOf u).toNat)
  case atStart => exact ⟨1, 0, M2, lab2, s, gm0 B S, by omega, by omega, by omega, rfl, h, HM2.out, HB2.out, HA2.out, MfI.first hs0.1 lv tn⟩
  case round =>
    clear h w HM2 HB2 HA2 M2 lab2 s
    obtain ⟨w, rfl⟩ : ∃ x : World, x = wr := ⟨_, rfl⟩
    obtain ⟨i, n, M2, lab2, s, g, hi1, hiS, hni, rfl, h, hM2, hB2, hA2, hI⟩ := hrel
    have hbf2 := hB2.le _ _ hbf
    have TH := Lib.hid (fun (M' : Mm) (lab' : Nat → Nat) (s' : MachS) (n' : Nat) (g' : GM) (w : World) (h : Has σ M' w) (hM : Mach M' lab' p s') (hA : AbsM c tp n' s' g') => mThread_yes h hM (t := tn) (q := q) (by rw [hA.ttp]; exact HQ.out))
    have HI1 := Lib.hid (⟨hi1, hni⟩ : 1 ≤ i ∧ n ≤ 12 * i)
    by_cases hlt : i < S
    · have hlt' : (i : Int) < (S : Int) := by omega
      have wi : IntKind.i64.wrap ((i : Int) + 1) = ((i + 1 : Nat) : Int) := by rw [show (i : Int) + 1 = ((i + 1 : Nat) : Int) by omega]; exact IntWalk.i64_in _ (by omega)
      have wu : IntKind.u64.wrap ((i : Nat) : Int) = ((i : Nat) : Int) := IntWalk.u64_in _ (by omega)
      have HLT := Lib.hid hlt
      have HM2 := Lib.hid hM2
      have HB2 := Lib.hid hB2
      have HA2 := Lib.hid hA2
      have HI2 := Lib.hid hI
      clear hM2 hB2 hA2 hI hlt hi1 hiS hni
      go_upto_region 8 with (first
        | (with_reducible show wpList _ _ _ ({ dst := _, op := Op.load 3 _, type := _, pos := _, after := _, guard := _ } :: _) _ _; refine wpList_load1_has h rfl 3 _ rfl rfl hbf2 r10 Tryz.underlying3 rfl ?_))
      go_wp2_with (fail)
      obtain ⟨M3, hbx, hle3, hbl, hnl⟩ := h.box (.cells #[.int .u64 1, .int .u64 (i : Nat)] 42)
      generalize w.alloc _ = wx at hbx ⊢
      generalize w.heap.size = bl at hbl hnl ⊢
      clear h
      try clear w
      have h := hbx
      clear hbx
      obtain ⟨w, rfl⟩ : ∃ x : World, x = wx := ⟨_, rfl⟩
      have P1 : Hid (∀ w : World, Has σ M3 w → Calls Tryz.prog 14 #[.pointer (some ⟨p, 0, none⟩), .int .i64 (tn : Nat), (.func (.func 41) #[] #[]), .int .i64 12, .int .i64 30, .slice (some ⟨bl, 0, none⟩) 2 2] w fun r w' => ∃ k : Nat, r = .returned (.int .i64 (k : Nat)) ∧ 0 < k ∧ k ≤ 12 ∧ ∃ M' lab' s', Has σ M' w' ∧ Mach M' lab' p s' ∧ Base M1 M' lab' ∧ AbsM c tp (n + k) s' (madeG B S g tn lv (i + 1) 1 i 0 0)) := Lib.hid fun w h => by
        have hrd : Rd M3 1 (.slice (some ⟨bl, 0, none⟩) 2 2) 2 (u64s [1, (i : Int)]) := ⟨rfl, _, _, rfl, Nat.le_refl _, fun _ => ⟨bl, 0, _, _, _, rfl, hbl, fun j u hu => by simpa [u64s] using hu⟩⟩
        have hlv' := HI2.out.lv
        rw [show S - i = (S - (i + 1)) + 1 by have := HLT.out; omega, slotsFrom_succ, ← HLV.out] at hlv'
        have := mint_alone (t := tn) (n := n) (m := i) h (HM2.out.keep (Kp.le hle3 fun _ => 0) fun _ _ h => h) (HB2.out.keep (Kp.le hle3 fun _ => 0) fun h => h) HA2.out HC.out HNU.out HT.out (by have := HI1.out.2; have := HLT.out; omega) (by have := HLT.out; omega) HTN.out HQ.out HI2.out.idle hlv' (us := [1, i]) hrd (by simp) (by show 1 < 256; decide) (most := 12) (by omega) (by omega)
        rw [HLV.out] at this
        exact this
      have HLE3 := Lib.hid hle3
      have hbf3 := hle3 _ _ hbf2
      clear hbl hnl hle3 wu
      go_at_call 14
      refine (P1.out _ h).mono ?_
      clear h P1
      rintro _ w ⟨k, rfl, hk0, hk, M4, lab4, s4, h, hM, hB, hA⟩
      obtain ⟨trow, ty, hqb, d0, d1⟩ := m_told hM hA HQ.out
      have d0' : trow[0]? = some (.int .u64 ((i + 1 : Nat) : Int)) := by
        rw [d0]
        show some (Value.int .u64 ((put1 g.told tn _ tn 0 : Nat) : Int)) = _
        rw [put1_same]; rfl
      have d1' : trow[1]? = some (.int .u64 0) := by
        rw [d1]
        show some (Value.int .u64 ((put1 g.told tn _ tn 1 : Nat) : Int)) = _
        rw [put1_same]
        show some (Value.int .u64 ((genOf (g.w lv (oNd B S (i + 1) 0)) : Nat) : Int)) = _
        rw [HI2.out.gen (i + 1) (by omega) (by have := HLT.out; omega)]; rfl
      obtain ⟨x1, hx1⟩ : ∃ x1, i + 1 = x1 := ⟨_, rfl⟩
      rw [hx1] at d0' wi
      have ne0 : ((x1 : Int) == 0) = false := by rw [show ((x1 : Int) == 0) = (x1 == 0) from by cases x1 <;> rfl]; simp; omega
      have ne1 : (x1 == 0) = false := by simp; omega
      have ne2 : decide ((x1 : Int) = 0) = false := decide_eq_false (by omega)
      have ne3 : decide (x1 = 0) = false := decide_eq_false (by omega)
      have gk : decide ((k : Int) < 0) = false := decide_eq_false (by omega)
      have TH4 := Lib.hid (fun (w : World) (h : Has σ M4 w) => TH.out M4 lab4 s4 _ _ w h hM hA)
      have HX := Lib.hid hx1
      have HK := Lib.hid hk
      have HM4 := Lib.hid hM
      have HB4 := Lib.hid hB
      have HA4 := Lib.hid hA
      clear hM hB hA d0 d1 hx1 hk hk0 hbf2 hbf3
      go_wp2_with (first
        | (go_at_call 13; refine (TH4.out _ h).mono ?_; clear h; rintro _ w ⟨rfl, h⟩)
        | (with_reducible show wpList _ _ _ ({ dst := _, op := Op.load 42 _, type := _, pos := _, after := _, guard := _ } :: _) _ _; refine wpList_load1_has h rfl 42 _ rfl rfl hqb d0' Tryz.underlying42 rfl ?_)
        | (with_reducible show wpList _ _ _ ({ dst := _, op := Op.load 42 _, type := _, pos := _, after := _, guard := _ } :: _) _ _; refine wpList_load1_has h rfl 42 _ rfl rfl hqb d1' Tryz.underlying42 rfl ?_))
      go_roundw
      case rel => exact ⟨x1, n + k, M4, lab4, s4, _, by have := HX.out; omega, by have := HLT.out; have := HX.out; omega, by have := HK.out; have := HI1.out.2; have := HX.out; omega, by first | rfl | (have := HX.out; go_num), h, HM4.out, HB4.out, HA4.out, by rw [← HX.out]; exact HI2.out.next HLT.out hs0.2 HI1.out.1⟩
      case measure => have := HX.out; have := HLT.out; simp [intOf]; omega
    · obtain rfl : i = S := by omega
      have hlt' : ¬ (i : Int) < (i : Int) := by omega
      have hN1 : s.mem.N = L * (18 + B + 6 * i) := by
        have h1 := hM2.memN
        rw [hA2.cc, HNU.out.lev, HNU.out.sz, ← Int.natCast_mul] at h1
        exact Int.ofNat_inj.1 h1
      have hN2 : L * (18 + B + 6 * i) ≤ 4 * (18 + 40 + 6 * 60) := Nat.mul_le_mul (by have := HNU.out.l0; omega) (by have := HNU.out.b0; omega)
      have ME := Lib.hid (fun (w : World) (h : Has σ M2 w) => mMem_eq h hM2)
      have WO := Lib.hid (fun (w : World) (h : Has σ M2 w) => memWords_eq h hM2.mem (by omega))
      have HN1 := Lib.hid hN1
      have HN2 := Lib.hid hN2
      have HM2 := Lib.hid hM2
      have HB2 := Lib.hid hB2
      have HA2 := Lib.hid hA2
      have HI2 := Lib.hid hI
      clear hM2 hB2 hA2 hI hlt hi1 hiS hni hN1 hN2
      have eR : s.mem.row = .cells (ints .u64 s.mem.N s.mem.f) 42 := rfl
      rw [eR, HN1.out] at WO
      clear eR
      obtain ⟨N, hN⟩ : ∃ N, L * (18 + B + 6 * i) = N := ⟨_, rfl⟩
      rw [hN] at WO
      obtain ⟨wrow, hwrow⟩ : ∃ x, ints .u64 N s.mem.f = x := ⟨_, rfl⟩
      rw [hwrow] at WO
      have HNN := Lib.hid hN
      have HWR := Lib.hid hwrow
      clear hN hwrow
      go_upto_region 11 with (first
        | (with_reducible show wpList _ _ _ ({ dst := _, op := Op.load 3 _, type := _, pos := _, after := _, guard := _ } :: _) _ _; refine wpList_load1_has h rfl 3 _ rfl rfl hbf2 r10 Tryz.underlying3 rfl ?_)
        | (go_at_call 46; refine (ME.out _ h).mono ?_; clear h; rintro _ w ⟨rfl, h⟩)
        | ((go_at_call 47; refine (WO.out _ h).mono ?_; clear h; rintro _ w ⟨bw, M3, rfl, h, hle3, hnw, hbw⟩)))
      clear ME WO
      go_wp2_with (fail)
      obtain ⟨M4, hbx, hle4, hbl, hnl⟩ := h.box (.cells #[.int .u64 1, .int .u64 7] 42)
      generalize w.alloc _ = wx at hbx ⊢
      generalize w.heap.size = bl at hbl hnl ⊢
      clear h
      try clear w
      have h := hbx
      clear hbx
      obtain ⟨w, rfl⟩ : ∃ x : World, x = wx := ⟨_, rfl⟩
      have hle24 := Mm.le_trans hle3 hle4
      obtain ⟨lab4, hM4, hB4⟩ : ∃ lab', Mach M4 lab' p s ∧ Base (M1.upd bw (.cells wrow 42)) M4 lab' := HM2.out.more HB2.out hle24 fun b o hb => by
        by_cases e : b = bw
        · subst e; rw [Mm.upd_same] at hb; cases hb; exact ⟨hle4 _ _ hbw, .inr hnw⟩
        · rw [Mm.upd_ne e] at hb; exact ⟨hle24 _ _ (HB2.out b o hb).1, .inl hb⟩
      have hKw : (M1.upd bw (.cells wrow 42)) bw = some (.cells wrow 42) := Mm.upd_same _ _ _
      have hKf : M1.le (M1.upd bw (.cells wrow 42)) := Mm.le_upd' (by
        cases e : M1 bw with
        | none => rfl
        | some o => have := HB2.out.le _ _ e; rw [hnw] at this; cases this) _
      generalize M1.upd bw (.cells wrow 42) = K1 at *
      have P1 : Hid (∀ w : World, Has σ M4 w → Calls Tryz.prog 14 #[.pointer (some ⟨p, 0, none⟩), .int .i64 (tn : Nat), (.func (.func 41) #[] #[]), .int .i64 12, .int .i64 30, .slice (some ⟨bl, 0, none⟩) 2 2] w fun r w' => ∃ k : Nat, r = .returned (.int .i64 (k : Nat)) ∧ 0 < k ∧ k ≤ 12 ∧ ∃ M' lab' s', Has σ M' w' ∧ Mach M' lab' p s' ∧ Base K1 M' lab' ∧ AbsM c tp (n + k) s' (g.back tn [] [0])) := Lib.hid fun w h => by
        have hrd : Rd M4 1 (.slice (some ⟨bl, 0, none⟩) 2 2) 2 (u64s [1, 7]) := ⟨rfl, _, _, rfl, Nat.le_refl _, fun _ => ⟨bl, 0, _, _, _, rfl, hbl, fun j u hu => by simpa [u64s] using hu⟩⟩
        have hlv' := HI2.out.lv
        rw [Nat.sub_self, ← HLV.out] at hlv'
        have := mint_alone (t := tn) (n := n) (m := i) h hM4 hB4 HA2.out HC.out HNU.out HT.out (by have := HI1.out.2; omega) (by omega) HTN.out HQ.out HI2.out.idle hlv' (us := [1, 7]) hrd (by simp) (by show 1 < 256; decide) (most := 12) (by omega) (by omega)
        exact this
      have HKF := Lib.hid hKf
      have HKW := Lib.hid hKw
      clear hbl hnl hle4 hle3 hbw hle24 hM4 hB4 hKf hKw hnw
      go_at_call 14
      refine (P1.out _ h).mono ?_
      clear h P1
      rintro _ w ⟨k, rfl, hk0, hk, M5, lab5, s5, h, hM5, hB5, hA5⟩
      have hN5 : s5.mem.N = N := by
        have h1 := hM5.memN
        rw [hA5.cc, HNU.out.lev, HNU.out.sz, ← Int.natCast_mul] at h1
        rw [← HNN.out]
        exact Int.ofNat_inj.1 h1
      have ME := Lib.hid (fun (w : World) (h : Has σ M5 w) => mMem_eq h hM5)
      have WO := Lib.hid (fun (w : World) (h : Has σ M5 w) => memWords_eq h hM5.mem (by rw [hN5, ← HNN.out]; have := HN2.out; omega))
      have eR : s5.mem.row = .cells wrow 42 := by
        show Obj.cells (ints .u64 s5.mem.N s5.mem.f) 42 = _
        rw [hN5, ← HWR.out, words_same HNU.out HNN.out.symm hA5.words (show WordsM c s.mem.f (g.back tn [] [0]).w from HA2.out.words)]
      rw [eR, hN5] at WO
      clear eR
      have hbf5 := hB5.le _ _ (HKF.out _ _ hbf)
      have hbw5 := hB5.le _ _ HKW.out
      obtain ⟨trow, ty, hqb, d0, d1⟩ := m_told hM5 hA5 HQ.out
      have d0' : trow[0]? = some (.int .u64 0) := by
        rw [d0]
        show some (Value.int .u64 ((put1 g.told tn _ tn 0 : Nat) : Int)) = _
        rw [put1_same]; rfl
      have gk : decide ((0 : Int) < (k : Int)) = true := decide_eq_true (by omega)
      have gk2 : decide (0 < k) = true := decide_eq_true hk0
      have HM5 := Lib.hid hM5
      have HB5 := Lib.hid hB5
      have HA5 := Lib.hid hA5
      have HN5 := Lib.hid hN5
      clear hM5 hB5 hA5 d0 d1 hk hk0 hbf2 hN5
      go_upto_region 13 with (first
        | (go_at_call 46; refine (ME.out _ h).mono ?_; clear h; rintro _ w ⟨rfl, h⟩)
        | ((go_at_call 47; refine (WO.out _ h).mono ?_; clear h; rintro _ w ⟨bv, M6, rfl, h, hle6, hnv, hbv⟩)))
      clear ME WO
      have hbf6 := hle6 _ _ hbf5
      have hbw6 := hle6 _ _ hbw5
      have hqb6 := hle6 _ _ hqb
      have hM6 := HM5.out.keep (Kp.le hle6 fun _ => 0) fun _ _ h => h
      have TH6 := Lib.hid (fun (w : World) (h : Has σ M6 w) => mThread_yes h hM6 (t := tn) (q := q) (by rw [HA5.out.ttp]; exact HQ.out))
      have WA := Lib.hid (fun (w : World) (h : Has σ M6 w) => mWarden_eq h hM6)
      have HE := Lib.hid (fun (w : World) (h : Has σ M6 w) => held_eq h hM6 HA5.out HNU.out HLL.out)
      rw [nHeld_all (held := (g.back tn [] [0]).held lv) (fun y h1 h2 => by show g.held lv y = true; rw [HI2.out.held y h1 h2]; simp; exact h2)] at HE
      have FT := Lib.hid (fun (w : World) (h : Has σ M6 w) => mFault_eq h hM6)
      rw [HA5.out.good] at FT
      have WV : Hid (∀ j, j < N → ∃ v : Int, wrow[j]? = some (.int .u64 v)) := Lib.hid fun j hj => ⟨_, by rw [← HWR.out]; exact ints_get hj⟩
      have HN3 := Lib.hid (show N ≤ 10000 by rw [← HNN.out]; have := HN2.out; omega)
      have HLE6 := Lib.hid hle6
      clear hM6 hle6 hnv hbf5 hbw5 hqb
      go_upto_region 14 with (fail)
      go_loopw [12] (fun u wr => ∃ j : Nat, j ≤ N ∧ u = .int .i64 (j : Nat) ∧ Has σ M6 wr) (fun u _ => N - (intOf u).toNat)
      case atStart => exact ⟨0, Nat.zero_le _, rfl, h⟩
      case round =>
        clear h w
        obtain ⟨w, rfl⟩ : ∃ x : World, x = wr := ⟨_, rfl⟩
        obtain ⟨j, hj, rfl, h⟩ := hrel
        by_cases hjN : j < N
        · have hjN' : (j : Int) < (N : Int) := by omega
          have wj : IntKind.i64.wrap ((j : Int) + 1) = ((j + 1 : Nat) : Int) := by rw [show (j : Int) + 1 = ((j + 1 : Nat) : Int) by omega]; exact IntWalk.i64_in _ (by have := HN3.out; omega)
          obtain ⟨v, hv⟩ := WV.out j hjN
          have HJN := Lib.hid hjN
          clear hjN hj
          go_upto_region 16 with (fail)
          refine wp_region_class (Has σ M6) (by kernel_rfl) (by kernel_rfl) h.drew ?_
          clear h
          repeat (first
            | go_big_quiet_skip
            | (go_big_quiet_want; first
              | (refine quiet_load_has 42 _ rfl rfl hbw6 hv Tryz.underlying42 rfl ?_; simp only [Act.put, List.setIfInBounds_toArray, List.set_cons_zero, List.set_cons_succ]; go_big_quiet_on)
              | (refine quiet_load_has 42 _ rfl rfl hbv hv Tryz.underlying42 rfl ?_; simp only [Act.put, List.setIfInBounds_toArray, List.set_cons_zero, List.set_cons_succ]; go_big_quiet_on)
              | (go_big_quiet_op; first | go_big_quiet_on | go_big_quiet_call (first | with_reducible exact fun _ => rfl))))
          refine wpQuiet_nil ?_
          try clear w
          intro w h
          go_wp2
          go_roundw
          case rel => exact ⟨j + 1, by have := HJN.out; omega, by first | rfl | go_num, h⟩
          case measure => have := HJN.out; simp [intOf]; omega
        · obtain rfl : N = j := by omega
          have hjN' : ¬ (N : Int) < (N : Int) := by omega
          have LI6 := Lib.hid (fun (w : World) (h : Has σ M6 w) => LI.out M6 w h)
          go_upto_region 18 with (fail)
          refine wp_region_class (Has σ M6) (by kernel_rfl) (by kernel_rfl) h.drew ?_
          clear h
          repeat (first
            | go_big_quiet_skip
            | (go_big_quiet_want; first
              | (refine quiet_load_has 42 _ rfl rfl hqb6 d0' Tryz.underlying42 rfl ?_; simp only [Act.put, List.setIfInBounds_toArray, List.set_cons_zero, List.set_cons_succ]; go_big_quiet_on)
              | (refine quiet_load_has 3 _ rfl rfl hbf6 r10 Tryz.underlying3 rfl ?_; simp only [Act.put, List.setIfInBounds_toArray, List.set_cons_zero, List.set_cons_succ]; go_big_quiet_on)
              | (go_big_quiet_op; first | go_big_quiet_on | go_big_quiet_call (first | with_reducible exact fun _ => rfl | with_reducible exact TH6.out _ | with_reducible exact WA.out _ | with_reducible exact HE.out _ | with_reducible exact FT.out _ | with_reducible exact LI6.out _))))
          refine wpQuiet_nil ?_
          try clear w
          intro w h
          go_wp2
          go_ret
          exact ⟨rfl, h.le (Mm.le_trans HLE1.out (Mm.le_trans HKF.out (Mm.le_trans HB5.out.le HLE6.out)))⟩
end
end Go.Proofs.YtjeeldacnllipaaGreat
