/- Law 22, StockNone: the law's walk. -/
import Derived.Test.YtefjjagejgeedaaStLives
namespace Go.Proofs.Ytefjjagejgeedaa
open Go.RowKit
set_option linter.unusedVariables false
set_option linter.unusedSimpArgs false
set_option linter.unnecessarySimpa false
set_option maxHeartbeats 2000000 in
theorem none_short {σ w : World} {M : Mm} (h : Has σ M w) (c : Nat → Int) (t fn : Int) (hm : confMayB c = false) :
    Calls Try.prog 3 #[confV c, .int .i64 t, .int .i64 fn] w fun r w' => r = .returned (.bool true) ∧ Has σ M w' := by
  have NW := Lib.hid (fun (M' : Mm) (w : World) (h : Has σ M' w) => mNew_no h c hm)
  have RM := Lib.hid (fun (M' : Mm) (w : World) (h : Has σ M' w) => refMay_has h c)
  have LI := Lib.hid (fun (M' : Mm) (w : World) (h : Has σ M' w) => lives_eq h)
  have DN := Lib.hid (fun (M' : Mm) (w : World) (h : Has σ M' w) => do_nil h t)
  have hx : (ints .i64 14 c).extract 0 (0 + 14) = ints .i64 14 c := rfl
  have hz : (ints .i64 14 c).size = 14 := rfl
  unfold errV at NW
  rw [hm] at RM
  unfold confV at NW RM ⊢
  generalize ints .i64 14 c = row at NW RM hx hz ⊢
  clear hm
  go_enter Try.func3, Try.ntmps3
  go_upto_region 1 with (fail)
  obtain ⟨M1, hbx, hle, hbf, hnf⟩ := h.box (.cells row 24)
  generalize w.alloc _ = wx at hbx ⊢
  generalize w.heap.size = bf at hbf hnf ⊢
  clear h
  try clear w
  have h := hbx
  clear hbx
  obtain ⟨w, rfl⟩ : ∃ x : World, x = wx := ⟨_, rfl⟩
  go_wp2_with (first
    | ((with_reducible show wpList _ _ _ ({ dst := _, op := Op.load 24 _, type := _, pos := _, after := _, guard := _ } :: _) _ _); refine wpList_agg_has h rfl 24 _ rfl rfl hbf hx hz Try.underlying24 rfl (by kernel_rfl) ?_; try simp only [Act.put, List.setIfInBounds_toArray, List.set_cons_zero, List.set_cons_succ])
    | (go_at_call 6; refine (DN.out _ _ h).mono ?_; clear h; rintro _ w ⟨rfl, h⟩)
    | ((go_at_call 7; refine (NW.out _ _ h).mono ?_; clear h; rintro _ w ⟨b, M2, rfl, h, hle2, hn⟩; have hbf := hle2 _ _ hbf))
    | (go_at_call 8; refine (RM.out _ _ h).mono ?_; clear h; rintro _ w ⟨rfl, h⟩)
    | (go_at_call 9; refine (LI.out _ _ h).mono ?_; clear h; rintro _ w ⟨rfl, h⟩))
  go_ret
  exact ⟨rfl, h.le (Mm.le_trans hle hle2)⟩
set_option maxHeartbeats 4000000 in
set_option maxRecDepth 20000 in
/-- The thread isn't there. -/
theorem none_out {σ w : World} {M : Mm} (h : Has σ M w) (c : Nat → Int) (hc : ConfMay c) {L B S : Nat} (hn : Nums c L B S) (t fn : Int) (hlv : levelOf c t = -1) :
    Calls Try.prog 3 #[confV c, .int .i64 t, .int .i64 fn] w fun r w' => r = .returned (.bool true) ∧ Has σ M w' := by
  have HLV := Lib.hid hlv
  clear hlv
  have NW := Lib.hid (fun (M' : Mm) (w : World) (h : Has σ M' w) => mNew_yes h c hc hn)
  have LI := Lib.hid (fun (M' : Mm) (w : World) (h : Has σ M' w) => lives_eq h)
  have DN := Lib.hid (fun (M' : Mm) (w : World) (h : Has σ M' w) => do_nil h t)
  have hx : (ints .i64 14 c).extract 0 (0 + 14) = ints .i64 14 c := rfl
  have hz : (ints .i64 14 c).size = 14 := rfl
  have HC := Lib.hid hc
  unfold confV at NW ⊢
  generalize ints .i64 14 c = row at NW hx hz ⊢
  clear hc hn
  go_enter Try.func3, Try.ntmps3
  go_upto_region 1 with (fail)
  obtain ⟨M1, hbx, hle, hbf, hnf⟩ := h.box (.cells row 24)
  generalize w.alloc _ = wx at hbx ⊢
  generalize w.heap.size = bf at hbf hnf ⊢
  clear h
  try clear w
  have h := hbx
  clear hbx
  obtain ⟨w, rfl⟩ : ∃ x : World, x = wx := ⟨_, rfl⟩
  go_upto_region 5 with (first
    | ((with_reducible show wpList _ _ _ ({ dst := _, op := Op.load 24 _, type := _, pos := _, after := _, guard := _ } :: _) _ _); refine wpList_agg_has h rfl 24 _ rfl rfl hbf hx hz Try.underlying24 rfl (by kernel_rfl) ?_; try simp only [Act.put, List.setIfInBounds_toArray, List.set_cons_zero, List.set_cons_succ])
    | (go_at_call 6; refine (DN.out _ _ h).mono ?_; clear h; rintro _ w ⟨rfl, h⟩)
    | ((go_at_call 7; refine (NW.out _ _ h).mono ?_; clear h; rintro _ w ⟨p, M2, lab2, s, rfl, h, hB2, hM2, hN⟩)))
  clear NW DN hbf hx hz
  obtain ⟨wb, hmem⟩ := hN.mem
  have hN4 : s.mem.N ≤ 10000 := by
    have h1 := hM2.memN
    have h2 := (firsts_bd HC.out 10)
    rw [hN.c] at h1
    have h3 := HC.out.1
    have h4 : c 0 * firsts c 10 ≤ 4 * 418 := Int.le_trans (Int.mul_le_mul_of_nonneg_right h3.2 h2.1) (Int.mul_le_mul_of_nonneg_left h2.2 (by omega))
    omega
  have ME := Lib.hid (fun (w : World) (h : Has σ M2 w) => mMem_eq h hM2)
  have WO := Lib.hid (fun (w : World) (h : Has σ M2 w) => memWords_eq h hM2.mem hN4)
  have HC2 := Lib.hid hN.c
  have HT := Lib.hid hN.thr
  have HBAD : Hid (s.bad = false) := Lib.hid (by show (s.fault || (s.mem.flt || decide (0 < s.ward.slips))) = false; rw [hN.fault, hN.slips, hmem]; rfl)
  have HN4 := Lib.hid hN4
  have HM2 := Lib.hid hM2
  have HB2 := Lib.hid hB2
  clear hM2 hB2 hN hmem hN4
  obtain ⟨N, hNd⟩ : ∃ N, s.mem.N = N := ⟨_, rfl⟩
  have eR : s.mem.row = .cells (ints .u64 N s.mem.f) 40 := by rw [← hNd]; rfl
  rw [eR, hNd] at WO
  have HR := Lib.hid eR
  have HNd := Lib.hid hNd
  clear eR hNd
  go_upto_region 6 with (first
    | (go_at_call 10; refine (ME.out _ h).mono ?_; clear h; rintro _ w ⟨rfl, h⟩)
    | (go_at_call 11; refine (WO.out _ h).mono ?_; clear h; rintro _ w ⟨bw, M3, rfl, h, hle3, hnw, hbw⟩))
  obtain ⟨lab3, hM3, hB3⟩ := HM2.out.more HB2.out hle3 (K' := M1.upd bw (.cells (ints .u64 N s.mem.f) 40)) (fun c' o' hc' => by
    by_cases e : c' = bw
    · subst e; rw [Mm.upd_same] at hc'; rw [← hc']; exact ⟨hbw, .inr hnw⟩
    · rw [Mm.upd_ne e] at hc'; exact ⟨hle3 _ _ (HB2.out c' o' hc').1, .inl hc'⟩)
  have hbwK : M1 bw = none := by
    cases e : M1 bw with
    | none => rfl
    | some o => have := (HB2.out _ _ e).1; rw [hnw] at this; cases this
  have HKW := Lib.hid (Mm.le_trans hle (Mm.le_upd' hbwK (.cells (ints .u64 N s.mem.f) 40)))
  clear ME WO hle3 hnw hbw hle hnf hbwK HM2 HB2
  have hnt : t < 0 ∨ s.tp.length ≤ t := by
    have hc' := HC.out
    obtain ⟨h0, ⟨a3, a4⟩, _, a5, _⟩ := hc'
    have hl := hM3.tlen
    rw [HC2.out] at hl
    rcases Int.lt_or_le t 0 with g1 | g1
    · exact .inl g1
    · right
      rcases Int.lt_or_le t s.tp.length with g2 | g2
      · exfalso
        have g3 := a5 t.toNat (by omega)
        have g4 := HLV.out
        unfold levelOf at g4
        rw [if_pos ⟨decide_eq_true HC.out, g1, by omega⟩] at g4
        omega
      · exact g2
  have DO3 := Lib.hid (fun (w : World) (h : Has σ M3 w) => do_nothr h hM3 t hnt)
  have TH3 := Lib.hid (fun (w : World) (h : Has σ M3 w) => mThread_no h hM3 t hnt)
  have CA3 := Lib.hid (fun (w : World) (h : Has σ M3 w) => thrCall_none h fn (.slice none 0 0))
  have ME3 := Lib.hid (fun (w : World) (h : Has σ M3 w) => mMem_eq h hM3)
  have WO3 := Lib.hid (fun (w : World) (h : Has σ M3 w) => memWords_eq h hM3.mem HN4.out)
  rw [HR.out, HNd.out] at WO3
  have HM3 := Lib.hid hM3
  have HB3 := Lib.hid hB3
  have HNT := Lib.hid hnt
  clear hM3 hB3 hnt
  by_cases hfn : fn = 1 ∨ fn = 2
  · have hle3 := HB3.out.le
    rcases hfn with rfl | rfl
    · go_wp2_with (first
        | (go_at_call 6; refine (DO3.out _ h).mono ?_; clear h; rintro _ w ⟨rfl, h⟩)
        | (go_at_call 9; refine (LI.out _ _ h).mono ?_; clear h; rintro _ w ⟨rfl, h⟩))
      go_ret
      exact ⟨rfl, h.le (Mm.le_trans HKW.out hle3)⟩
    · go_wp2_with (first
        | (go_at_call 6; refine (DO3.out _ h).mono ?_; clear h; rintro _ w ⟨rfl, h⟩)
        | (go_at_call 9; refine (LI.out _ _ h).mono ?_; clear h; rintro _ w ⟨rfl, h⟩))
      go_ret
      exact ⟨rfl, h.le (Mm.le_trans HKW.out hle3)⟩
  · have g1 : (fn == 1) = false := beq_eq_false_iff_ne.2 fun e => hfn (.inl e)
    have g2 : (fn == 2) = false := beq_eq_false_iff_ne.2 fun e => hfn (.inr e)
    clear hfn
    go_upto_region 13 with (first
      | (go_at_call 6; refine (DO3.out _ h).mono ?_; clear h; rintro _ w ⟨rfl, h⟩)
      | (go_at_call 12; refine (TH3.out _ h).mono ?_; clear h; rintro _ w ⟨rfl, h⟩)
      | (go_at_call 13; refine (CA3.out _ h).mono ?_; clear h; rintro _ w ⟨rfl, h⟩)
      | (go_at_call 10; refine (ME3.out _ h).mono ?_; clear h; rintro _ w ⟨rfl, h⟩)
      | (go_at_call 11; refine (WO3.out _ h).mono ?_; clear h; rintro _ w ⟨bn, M5, rfl, h, hle5, hnn, hbn⟩))
    have hbw := hle5 _ _ (HB3.out.le _ _ (Mm.upd_same M1 bw (.cells (ints .u64 N s.mem.f) 40)))
    have HL5 := Lib.hid (Mm.le_trans HKW.out (Mm.le_trans HB3.out.le hle5))
    have hM5 := HM3.out.keep (Kp.le hle5 fun _ => 0) fun _ _ h => h
    have HN5 : Hid (N ≤ 10000) := Lib.hid (by rw [← HNd.out]; exact HN4.out)
    have LV := Lib.hid (fun (w : World) (h : Has σ M5 w) => mLevel_eq h hM5 t)
    rw [HC2.out, HLV.out] at LV
    have TH5 := Lib.hid (fun (w : World) (h : Has σ M5 w) => mThread_no h hM5 t HNT.out)
    have DP5 := Lib.hid (fun (w : World) (h : Has σ M5 w) => thrDeep_none h)
    have FT := Lib.hid (fun (w : World) (h : Has σ M5 w) => mFault_eq h hM5)
    rw [HBAD.out] at FT
    clear DO3 TH3 CA3 ME3 WO3 hle5 hnn hM5 HM3 HB3 HNT g1 g2
    -- the words are compared
    go_loopw [11] (fun u wr => ∃ j : Nat, j ≤ N ∧ u = .int .i64 (j : Nat) ∧ Has σ M5 wr) (fun u _ => N - (intOf u).toNat)
    case atStart => exact ⟨0, Nat.zero_le _, rfl, h⟩
    case round =>
      clear h w
      obtain ⟨w, rfl⟩ : ∃ x : World, x = wr := ⟨_, rfl⟩
      obtain ⟨j, hj, rfl, h⟩ := hrel
      have hN5 := HN5.out
      by_cases hlt : j < N
      · have hlt' : (j : Int) < (N : Int) := by omega
        have gj : (ints .u64 N s.mem.f)[j]? = some (.int .u64 (s.mem.f j)) := ints_get hlt
        have hqq : (s.mem.f j != s.mem.f j) = false := by simp
        generalize s.mem.f j = fj at gj hqq
        generalize ints .u64 N s.mem.f = wrow at *
        go_upto_region 15 with (fail)
        refine wp_region_class (Has σ M5) (by kernel_rfl) (by kernel_rfl) h.drew ?_
        clear h
        repeat (first
          | go_big_quiet_skip
          | (go_big_quiet_want; first
            | (refine quiet_load_has 40 _ rfl rfl hbn gj Try.underlying40 rfl ?_; simp only [Act.put, List.setIfInBounds_toArray, List.set_cons_zero, List.set_cons_succ]; go_big_quiet_on)
            | (refine quiet_load_has 40 _ rfl rfl hbw gj Try.underlying40 rfl ?_; simp only [Act.put, List.setIfInBounds_toArray, List.set_cons_zero, List.set_cons_succ]; go_big_quiet_on)
            | (go_big_quiet_op; first | go_big_quiet_on | go_big_quiet_call (first | with_reducible exact fun _ => rfl))))
        refine wpQuiet_nil ?_
        try clear w
        intro w h
        go_wp2
        go_roundw
        case rel => exact ⟨j + 1, by omega, by go_num, h⟩
        case measure => simp [intOf]; omega
      · obtain rfl : j = N := by omega
        have hgt : ¬ ((j : Int) < (j : Int)) := by omega
        clear hbn hbw
        go_wp2_with (first
          | (go_at_call 14; refine (LV.out _ h).mono ?_; clear h; rintro _ w ⟨rfl, h⟩)
          | (go_at_call 12; refine (TH5.out _ h).mono ?_; clear h; rintro _ w ⟨rfl, h⟩)
          | (go_at_call 15; refine (DP5.out _ h).mono ?_; clear h; rintro _ w ⟨rfl, h⟩)
          | (go_at_call 16; refine (FT.out _ h).mono ?_; clear h; rintro _ w ⟨rfl, h⟩)
          | (go_at_call 9; refine (LI.out _ _ h).mono ?_; clear h; rintro _ w ⟨rfl, h⟩))
        go_ret
        exact ⟨rfl, h.le HL5.out⟩
set_option maxHeartbeats 4000000 in
set_option maxRecDepth 20000 in
/-- The thread is there. -/
theorem none_in {σ w : World} {M : Mm} (h : Has σ M w) (c : Nat → Int) (hc : ConfMay c) {L B S : Nat} (hn : Nums c L B S) (t : Nat) (fn : Int) (ht : (t : Int) < c 1) :
    Calls Try.prog 3 #[confV c, .int .i64 (t : Nat), .int .i64 fn] w fun r w' => r = .returned (.bool true) ∧ Has σ M w' := by
  have HT0 := Lib.hid ht
  clear ht
  have NW := Lib.hid (fun (M' : Mm) (w : World) (h : Has σ M' w) => mNew_yes h c hc hn)
  have LI := Lib.hid (fun (M' : Mm) (w : World) (h : Has σ M' w) => lives_eq h)
  have DN := Lib.hid (fun (M' : Mm) (w : World) (h : Has σ M' w) => do_nil h t)
  have hx : (ints .i64 14 c).extract 0 (0 + 14) = ints .i64 14 c := rfl
  have hz : (ints .i64 14 c).size = 14 := rfl
  have HC := Lib.hid hc
  unfold confV at NW ⊢
  generalize ints .i64 14 c = row at NW hx hz ⊢
  clear hc hn
  go_enter Try.func3, Try.ntmps3
  go_upto_region 1 with (fail)
  obtain ⟨M1, hbx, hle, hbf, hnf⟩ := h.box (.cells row 24)
  generalize w.alloc _ = wx at hbx ⊢
  generalize w.heap.size = bf at hbf hnf ⊢
  clear h
  try clear w
  have h := hbx
  clear hbx
  obtain ⟨w, rfl⟩ : ∃ x : World, x = wx := ⟨_, rfl⟩
  go_upto_region 5 with (first
    | ((with_reducible show wpList _ _ _ ({ dst := _, op := Op.load 24 _, type := _, pos := _, after := _, guard := _ } :: _) _ _); refine wpList_agg_has h rfl 24 _ rfl rfl hbf hx hz Try.underlying24 rfl (by kernel_rfl) ?_; try simp only [Act.put, List.setIfInBounds_toArray, List.set_cons_zero, List.set_cons_succ])
    | (go_at_call 6; refine (DN.out _ _ h).mono ?_; clear h; rintro _ w ⟨rfl, h⟩)
    | ((go_at_call 7; refine (NW.out _ _ h).mono ?_; clear h; rintro _ w ⟨p, M2, lab2, s, rfl, h, hB2, hM2, hN⟩)))
  clear NW DN hbf hx hz
  obtain ⟨wb, hmem⟩ := hN.mem
  have hN4 : s.mem.N ≤ 10000 := by
    have h1 := hM2.memN
    have h2 := (firsts_bd HC.out 10)
    rw [hN.c] at h1
    have h3 := HC.out.1
    have h4 : c 0 * firsts c 10 ≤ 4 * 418 := Int.le_trans (Int.mul_le_mul_of_nonneg_right h3.2 h2.1) (Int.mul_le_mul_of_nonneg_left h2.2 (by omega))
    omega
  have ME := Lib.hid (fun (w : World) (h : Has σ M2 w) => mMem_eq h hM2)
  have WO := Lib.hid (fun (w : World) (h : Has σ M2 w) => memWords_eq h hM2.mem hN4)
  have HC2 := Lib.hid hN.c
  have HT := Lib.hid hN.thr
  have HBAD : Hid (s.bad = false) := Lib.hid (by show (s.fault || (s.mem.flt || decide (0 < s.ward.slips))) = false; rw [hN.fault, hN.slips, hmem]; rfl)
  have HN4 := Lib.hid hN4
  have HM2 := Lib.hid hM2
  have HB2 := Lib.hid hB2
  clear hM2 hB2 hN hmem hN4
  obtain ⟨N, hNd⟩ : ∃ N, s.mem.N = N := ⟨_, rfl⟩
  have eR : s.mem.row = .cells (ints .u64 N s.mem.f) 40 := by rw [← hNd]; rfl
  rw [eR, hNd] at WO
  have HR := Lib.hid eR
  have HNd := Lib.hid hNd
  clear eR hNd
  go_upto_region 6 with (first
    | (go_at_call 10; refine (ME.out _ h).mono ?_; clear h; rintro _ w ⟨rfl, h⟩)
    | (go_at_call 11; refine (WO.out _ h).mono ?_; clear h; rintro _ w ⟨bw, M3, rfl, h, hle3, hnw, hbw⟩))
  obtain ⟨lab3, hM3, hB3⟩ := HM2.out.more HB2.out hle3 (K' := M1.upd bw (.cells (ints .u64 N s.mem.f) 40)) (fun c' o' hc' => by
    by_cases e : c' = bw
    · subst e; rw [Mm.upd_same] at hc'; rw [← hc']; exact ⟨hbw, .inr hnw⟩
    · rw [Mm.upd_ne e] at hc'; exact ⟨hle3 _ _ (HB2.out c' o' hc').1, .inl hc'⟩)
  have hbwK : M1 bw = none := by
    cases e : M1 bw with
    | none => rfl
    | some o => have := (HB2.out _ _ e).1; rw [hnw] at this; cases this
  have HKW := Lib.hid (Mm.le_trans hle (Mm.le_upd' hbwK (.cells (ints .u64 N s.mem.f) 40)))
  clear ME WO hle3 hnw hbw hle hnf hbwK HM2 HB2
  obtain ⟨q, hq⟩ : ∃ q, s.tp[t]? = some q := ⟨_, List.getElem?_eq_getElem (by have hl := hM3.tlen; rw [HC2.out] at hl; have := HT0.out; omega)⟩
  have hf : (s.thr t).frames = [] := by rw [HT.out]; rfl
  have DO3 := Lib.hid (fun (w : World) (h : Has σ M3 w) => do_idle h hM3 hq hf)
  have TH3 := Lib.hid (fun (w : World) (h : Has σ M3 w) => mThread_yes h hM3 hq)
  obtain ⟨fv, hv, fbs, hTh⟩ := hM3.each t q hq
  have CA3 := Lib.hid (fun (w : World) (h : Has σ M3 w) => thrCall_eq h hTh fn (rv := .slice none 0 0) (us := []) (Rd.nil _ _ _) (by simp) (by rw [hTh.flen, hf]; simp))
  have HM3 := Lib.hid hM3
  have HB3 := Lib.hid hB3
  have HQ := Lib.hid hq
  have HF := Lib.hid hf
  clear hM3 hB3 hq hf hTh
  by_cases hfn : fn = 1 ∨ fn = 2
  · have hle3 := HB3.out.le
    rcases hfn with rfl | rfl
    · go_wp2_with (first
        | (go_at_call 6; refine (DO3.out _ h).mono ?_; clear h; rintro _ w ⟨rfl, h⟩)
        | (go_at_call 9; refine (LI.out _ _ h).mono ?_; clear h; rintro _ w ⟨rfl, h⟩))
      go_ret
      exact ⟨rfl, h.le (Mm.le_trans HKW.out hle3)⟩
    · go_wp2_with (first
        | (go_at_call 6; refine (DO3.out _ h).mono ?_; clear h; rintro _ w ⟨rfl, h⟩)
        | (go_at_call 9; refine (LI.out _ _ h).mono ?_; clear h; rintro _ w ⟨rfl, h⟩))
      go_ret
      exact ⟨rfl, h.le (Mm.le_trans HKW.out hle3)⟩
  · have hf1 : fn ≠ 1 := fun e => hfn (.inl e)
    have hf2 : fn ≠ 2 := fun e => hfn (.inr e)
    have g1 : (fn == 1) = false := beq_eq_false_iff_ne.2 hf1
    have g2 : (fn == 2) = false := beq_eq_false_iff_ne.2 hf2
    have F1 := Lib.hid hf1
    have F2 := Lib.hid hf2
    clear hfn hf1 hf2
    go_upto_region 10 with (first
      | (go_at_call 6; refine (DO3.out _ h).mono ?_; clear h; rintro _ w ⟨rfl, h⟩)
      | (go_at_call 12; refine (TH3.out _ h).mono ?_; clear h; rintro _ w ⟨rfl, h⟩)
      | (go_at_call 13; refine (CA3.out _ h).mono ?_; clear h; rintro _ w ⟨rfl, M4, lab4, h, hK4, hI4⟩))
    obtain ⟨hM4, hB4⟩ := HM3.out.thrTo HB3.out HQ.out hK4 hI4
    obtain ⟨s4, E4⟩ : ∃ s4 : MachS, Hid (s4 = { s with thr := fun j => if j = t then (s.thr t).call fn [] else s.thr j }) := ⟨_, rfl⟩
    rw [← E4.out] at hM4
    have hf4 : (s4.thr t).frames = [] ++ [(⟨fn, 0, fun i => ([] : List Int).getD i 0⟩ : FrameS)] := by
      rw [E4.out]
      show (if t = t then (s.thr t).call fn [] else s.thr t).frames = _
      rw [if_pos rfl]
      unfold ThrS.call
      rw [HF.out]
    have hq4 : s4.tp[t]? = some q := by rw [E4.out]; exact HQ.out
    have e4 : s4.mem = s.mem ∧ s4.c = s.c ∧ s4.bad = s.bad := by rw [E4.out]; exact ⟨rfl, rfl, rfl⟩
    obtain ⟨b4, hT4⟩ := AtTop.of hM4 hB4 hq4 hf4
    have DO4 := Lib.hid (fun (w : World) (h : Has σ M4 w) => do_other h hT4 F1.out F2.out (by simp))
    have ME4 := Lib.hid (fun (w : World) (h : Has σ M4 w) => mMem_eq h hM4)
    have WO4 := Lib.hid (fun (w : World) (h : Has σ M4 w) => memWords_eq h hM4.mem (by rw [e4.1]; exact HN4.out))
    rw [e4.1, HR.out, HNd.out] at WO4
    have HM4 := Lib.hid hM4
    have HB4 := Lib.hid hB4
    have HQ4 := Lib.hid hq4
    have HF4 := Lib.hid hf4
    have HE4 := Lib.hid e4
    clear hM4 hB4 hq4 hf4 e4 hT4 hK4 hI4 DO3 TH3 CA3 E4 HM3 HB3 HF
    go_upto_region 13 with (first
      | (go_at_call 6; refine (DO4.out _ h).mono ?_; clear h; rintro _ w ⟨rfl, h⟩)
      | (go_at_call 10; refine (ME4.out _ h).mono ?_; clear h; rintro _ w ⟨rfl, h⟩)
      | (go_at_call 11; refine (WO4.out _ h).mono ?_; clear h; rintro _ w ⟨bn, M5, rfl, h, hle5, hnn, hbn⟩))
    have hbw := hle5 _ _ (HB4.out.le _ _ (Mm.upd_same M1 bw (.cells (ints .u64 N s.mem.f) 40)))
    have HL5 := Lib.hid (Mm.le_trans HKW.out (Mm.le_trans HB4.out.le hle5))
    have hM5 := HM4.out.keep (Kp.le hle5 fun _ => 0) fun _ _ h => h
    have HN5 : Hid (N ≤ 10000) := Lib.hid (by rw [← HNd.out]; exact HN4.out)
    have hlv : 0 ≤ levelOf s4.c (t : Int) := by
      have hc' := HC.out
      obtain ⟨h0, ⟨a3, a4⟩, _, a5, _⟩ := hc'
      have g3 := a5 t (by have := HT0.out; omega)
      rw [HE4.out.2.1, HC2.out]
      unfold levelOf
      rw [if_pos ⟨decide_eq_true HC.out, by omega, by have := HT0.out; omega⟩, Int.toNat_natCast]
      omega
    have glv : decide (0 ≤ levelOf s4.c (t : Int)) = true := decide_eq_true hlv
    have LV := Lib.hid (fun (w : World) (h : Has σ M5 w) => mLevel_eq h hM5 t)
    have TH5 := Lib.hid (fun (w : World) (h : Has σ M5 w) => mThread_yes h hM5 HQ4.out)
    obtain ⟨fv5, hv5, fbs5, hTh5⟩ := hM5.each t q HQ4.out
    have DP5 := Lib.hid (fun (w : World) (h : Has σ M5 w) => thrDeep_eq h hTh5)
    rw [hTh5.flen, HF4.out] at DP5
    have FT := Lib.hid (fun (w : World) (h : Has σ M5 w) => mFault_eq h hM5)
    rw [HE4.out.2.2, HBAD.out] at FT
    clear DO4 ME4 WO4 hle5 hnn hM5 HM4 HB4 HQ4 HF4 HE4 g1 g2 hTh5 hlv
    generalize levelOf s4.c (t : Int) = lv at *
    -- the words are compared
    go_loopw [11] (fun u wr => ∃ j : Nat, j ≤ N ∧ u = .int .i64 (j : Nat) ∧ Has σ M5 wr) (fun u _ => N - (intOf u).toNat)
    case atStart => exact ⟨0, Nat.zero_le _, rfl, h⟩
    case round =>
      clear h w
      obtain ⟨w, rfl⟩ : ∃ x : World, x = wr := ⟨_, rfl⟩
      obtain ⟨j, hj, rfl, h⟩ := hrel
      have hN5 := HN5.out
      by_cases hlt : j < N
      · have hlt' : (j : Int) < (N : Int) := by omega
        have gj : (ints .u64 N s.mem.f)[j]? = some (.int .u64 (s.mem.f j)) := ints_get hlt
        have hqq : (s.mem.f j != s.mem.f j) = false := by simp
        generalize s.mem.f j = fj at gj hqq
        generalize ints .u64 N s.mem.f = wrow at *
        go_upto_region 15 with (fail)
        refine wp_region_class (Has σ M5) (by kernel_rfl) (by kernel_rfl) h.drew ?_
        clear h
        repeat (first
          | go_big_quiet_skip
          | (go_big_quiet_want; first
            | (refine quiet_load_has 40 _ rfl rfl hbn gj Try.underlying40 rfl ?_; simp only [Act.put, List.setIfInBounds_toArray, List.set_cons_zero, List.set_cons_succ]; go_big_quiet_on)
            | (refine quiet_load_has 40 _ rfl rfl hbw gj Try.underlying40 rfl ?_; simp only [Act.put, List.setIfInBounds_toArray, List.set_cons_zero, List.set_cons_succ]; go_big_quiet_on)
            | (go_big_quiet_op; first | go_big_quiet_on | go_big_quiet_call (first | with_reducible exact fun _ => rfl))))
        refine wpQuiet_nil ?_
        try clear w
        intro w h
        go_wp2
        go_roundw
        case rel => exact ⟨j + 1, by omega, by go_num, h⟩
        case measure => simp [intOf]; omega
      · obtain rfl : j = N := by omega
        have hgt : ¬ ((j : Int) < (j : Int)) := by omega
        clear hbn hbw
        go_wp2_with (first
          | (go_at_call 14; refine (LV.out _ h).mono ?_; clear h; rintro _ w ⟨rfl, h⟩)
          | (go_at_call 12; refine (TH5.out _ h).mono ?_; clear h; rintro _ w ⟨rfl, h⟩)
          | (go_at_call 15; refine (DP5.out _ h).mono ?_; clear h; rintro _ w ⟨rfl, h⟩)
          | (go_at_call 16; refine (FT.out _ h).mono ?_; clear h; rintro _ w ⟨rfl, h⟩)
          | (go_at_call 9; refine (LI.out _ _ h).mono ?_; clear h; rintro _ w ⟨rfl, h⟩))
        go_ret
        exact ⟨rfl, h.le HL5.out⟩
end Go.Proofs.Ytefjjagejgeedaa
