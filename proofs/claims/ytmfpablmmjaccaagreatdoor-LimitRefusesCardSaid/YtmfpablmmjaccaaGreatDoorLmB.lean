/- Layer 39 (limit): how many steps are enough. -/
import Derived.Test.YtmfpablmmjaccaaGreatDoorLmA
namespace Go.Proofs.YtmfpablmmjaccaaGreatDoor
open Go.RowKit
set_option linter.unusedVariables false
set_option linter.unusedSimpArgs false
set_option linter.unnecessarySimpa false
def tendN (c : Nat → Int) : Int := if confMayB c then 400 + 60 * c 10 + 40 * c 11 + 20 * c 1 else 0
def ownN (c : Nat → Int) : Int := if confMayB c then 9 * tendN c + 3 * c 11 else 0
theorem tendN_bd (c : Nat → Int) : 0 ≤ tendN c ∧ tendN c ≤ 10000 := by
  unfold tendN
  split
  · rename_i h
    have hc := confMay_of h
    have h1 := hc.2.1
    obtain ⟨_, _, _, _, ⟨g2, g3⟩, ⟨g4, g5⟩, _⟩ := hc
    omega
  · omega
theorem ownN_bd (c : Nat → Int) : 0 ≤ ownN c ∧ ownN c ≤ 100000 := by
  have ht := tendN_bd c
  unfold ownN
  split
  · rename_i h
    have hc := confMay_of h
    obtain ⟨_, _, _, _, ⟨g2, g3⟩, ⟨g4, g5⟩, _⟩ := hc
    omega
  · omega
section
variable {σ w : World} {M : Mm}
set_option maxHeartbeats 1000000 in
theorem tendMost_eq (h : Has σ M w) (c : Nat → Int) : Calls Tryz.prog 46 #[confV c] w fun r w' => r = .returned (.int .i64 (tendN c)) ∧ Has σ M w' := by
  have hx : (ints .i64 14 c).extract 0 (0 + 14) = ints .i64 14 c := rfl
  have hz : (ints .i64 14 c).size = 14 := rfl
  have r1 : (ints .i64 14 c)[1]? = some (.int .i64 (c 1)) := rfl
  have r10 : (ints .i64 14 c)[10]? = some (.int .i64 (c 10)) := rfl
  have r11 : (ints .i64 14 c)[11]? = some (.int .i64 (c 11)) := rfl
  have MY : Hid (∀ (M' : Mm) (w : World), Has σ M' w → Calls Tryz.prog 37 #[confV c] w fun e w' => e = .returned (.bool (confMayB c)) ∧ Has σ M' w') := Lib.hid fun M' w h => (confMay_any c w).mono fun e w' ⟨h1, h2⟩ => ⟨h1, h.below h2⟩
  have ET : Hid (tendN c = if confMayB c then 400 + 60 * c 10 + 40 * c 11 + 20 * c 1 else 0) := Lib.hid rfl
  cases hm : confMayB c with
  | false =>
    rw [hm] at MY ET
    unfold confV at MY ⊢
    generalize ints .i64 14 c = row at *
    clear hm
    go_enter Tryz.func46, Tryz.ntmps46
    go_upto_region 1 with (first
      | ((with_reducible show wpList _ _ _ ({ dst := _, op := Op.box 24 _, type := _, pos := _, after := _, guard := _ } :: _) _ _); refine wpList_box_has h rfl 24 _ rfl ?_; clear h; intro bf w h hnf; try simp only [Act.put, List.setIfInBounds_toArray, List.set_cons_zero, List.set_cons_succ]))
    replace hnf : M bf = none := hnf
    replace h : Has σ (M.upd bf (.cells row 24)) w := h
    have hle : M.le (M.upd bf (.cells row 24)) := Mm.le_upd' hnf _
    have hbf : (M.upd bf (.cells row 24)) bf = some (.cells row 24) := (Mm.le_refl _) _ _ (Mm.upd_same _ _ _)
    replace hnf : M bf = none := Mm.none_of (Mm.le_refl _) hnf
    generalize (M.upd bf (.cells row 24)) = M1 at h hle hbf
    go_wp2_with (first
      | ((with_reducible show wpList _ _ _ ({ dst := _, op := Op.load 24 _, type := _, pos := _, after := _, guard := _ } :: _) _ _); refine wpList_agg_has h rfl 24 _ rfl rfl hbf hx hz Tryz.underlying24 rfl (by kernel_rfl) ?_; try simp only [Act.put, List.setIfInBounds_toArray, List.set_cons_zero, List.set_cons_succ])
      | (go_at_call 37; refine (MY.out _ _ h).mono ?_; clear h; rintro _ w ⟨rfl, h⟩))
    go_ret
    exact ⟨by rw [ET.out]; rfl, h.le hle⟩
  | true =>
    rw [hm] at MY ET
    have hc := confMay_of hm
    have h1 := hc.2.1
    obtain ⟨_, _, _, _, ⟨g2, g3⟩, ⟨g4, g5⟩, _⟩ := hc
    clear hm
    unfold confV at MY ⊢
    generalize ints .i64 14 c = row at *
    generalize c 10 = S at *
    generalize c 11 = B at *
    generalize c 1 = T at *
    have w1 : IntKind.i64.wrap (60 * S) = 60 * S := IntWalk.i64_in _ (by omega)
    have w2 : IntKind.i64.wrap (400 + 60 * S) = 400 + 60 * S := IntWalk.i64_in _ (by omega)
    have w3 : IntKind.i64.wrap (40 * B) = 40 * B := IntWalk.i64_in _ (by omega)
    have w4 : IntKind.i64.wrap (400 + 60 * S + 40 * B) = 400 + 60 * S + 40 * B := IntWalk.i64_in _ (by omega)
    have w5 : IntKind.i64.wrap (20 * T) = 20 * T := IntWalk.i64_in _ (by omega)
    have w6 : IntKind.i64.wrap (400 + 60 * S + 40 * B + 20 * T) = 400 + 60 * S + 40 * B + 20 * T := IntWalk.i64_in _ (by omega)
    clear h1 g2 g3 g4 g5
    go_enter Tryz.func46, Tryz.ntmps46
    go_upto_region 1 with (first
      | ((with_reducible show wpList _ _ _ ({ dst := _, op := Op.box 24 _, type := _, pos := _, after := _, guard := _ } :: _) _ _); refine wpList_box_has h rfl 24 _ rfl ?_; clear h; intro bf w h hnf; try simp only [Act.put, List.setIfInBounds_toArray, List.set_cons_zero, List.set_cons_succ]))
    replace hnf : M bf = none := hnf
    replace h : Has σ (M.upd bf (.cells row 24)) w := h
    have hle : M.le (M.upd bf (.cells row 24)) := Mm.le_upd' hnf _
    have hbf : (M.upd bf (.cells row 24)) bf = some (.cells row 24) := (Mm.le_refl _) _ _ (Mm.upd_same _ _ _)
    replace hnf : M bf = none := Mm.none_of (Mm.le_refl _) hnf
    generalize (M.upd bf (.cells row 24)) = M1 at h hle hbf
    go_wp2_with (first
      | ((with_reducible show wpList _ _ _ ({ dst := _, op := Op.load 24 _, type := _, pos := _, after := _, guard := _ } :: _) _ _); refine wpList_agg_has h rfl 24 _ rfl rfl hbf hx hz Tryz.underlying24 rfl (by kernel_rfl) ?_; try simp only [Act.put, List.setIfInBounds_toArray, List.set_cons_zero, List.set_cons_succ])
      | (go_at_call 37; refine (MY.out _ _ h).mono ?_; clear h; rintro _ w ⟨rfl, h⟩)
      | (with_reducible show wpList _ _ _ ({ dst := _, op := Op.load 3 _, type := _, pos := _, after := _, guard := _ } :: _) _ _; refine wpList_load1_has h rfl 3 _ rfl rfl hbf r10 Tryz.underlying3 rfl ?_)
      | (with_reducible show wpList _ _ _ ({ dst := _, op := Op.load 3 _, type := _, pos := _, after := _, guard := _ } :: _) _ _; refine wpList_load1_has h rfl 3 _ rfl rfl hbf r11 Tryz.underlying3 rfl ?_)
      | (with_reducible show wpList _ _ _ ({ dst := _, op := Op.load 3 _, type := _, pos := _, after := _, guard := _ } :: _) _ _; refine wpList_load1_has h rfl 3 _ rfl rfl hbf r1 Tryz.underlying3 rfl ?_))
    go_ret
    exact ⟨by rw [ET.out]; rfl, h.le hle⟩
set_option maxHeartbeats 1000000 in
theorem limitOwn_eq (h : Has σ M w) (c : Nat → Int) : Calls Tryz.prog 22 #[confV c] w fun r w' => r = .returned (.int .i64 (ownN c)) ∧ Has σ M w' := by
  have hx : (ints .i64 14 c).extract 0 (0 + 14) = ints .i64 14 c := rfl
  have hz : (ints .i64 14 c).size = 14 := rfl
  have r1 : (ints .i64 14 c)[1]? = some (.int .i64 (c 1)) := rfl
  have r10 : (ints .i64 14 c)[10]? = some (.int .i64 (c 10)) := rfl
  have r11 : (ints .i64 14 c)[11]? = some (.int .i64 (c 11)) := rfl
  have MY : Hid (∀ (M' : Mm) (w : World), Has σ M' w → Calls Tryz.prog 37 #[confV c] w fun e w' => e = .returned (.bool (confMayB c)) ∧ Has σ M' w') := Lib.hid fun M' w h => (confMay_any c w).mono fun e w' ⟨h1, h2⟩ => ⟨h1, h.below h2⟩
  have TM := Lib.hid (fun (M' : Mm) (w : World) (h : Has σ M' w) => tendMost_eq h c)
  have ET : Hid (ownN c = if confMayB c then 9 * tendN c + 3 * c 11 else 0) := Lib.hid rfl
  cases hm : confMayB c with
  | false =>
    rw [hm] at MY ET
    unfold confV at MY TM ⊢
    generalize ints .i64 14 c = row at *
    clear hm
    go_enter Tryz.func22, Tryz.ntmps22
    go_upto_region 1 with (first
      | ((with_reducible show wpList _ _ _ ({ dst := _, op := Op.box 24 _, type := _, pos := _, after := _, guard := _ } :: _) _ _); refine wpList_box_has h rfl 24 _ rfl ?_; clear h; intro bf w h hnf; try simp only [Act.put, List.setIfInBounds_toArray, List.set_cons_zero, List.set_cons_succ]))
    replace hnf : M bf = none := hnf
    replace h : Has σ (M.upd bf (.cells row 24)) w := h
    have hle : M.le (M.upd bf (.cells row 24)) := Mm.le_upd' hnf _
    have hbf : (M.upd bf (.cells row 24)) bf = some (.cells row 24) := (Mm.le_refl _) _ _ (Mm.upd_same _ _ _)
    replace hnf : M bf = none := Mm.none_of (Mm.le_refl _) hnf
    generalize (M.upd bf (.cells row 24)) = M1 at h hle hbf
    go_wp2_with (first
      | ((with_reducible show wpList _ _ _ ({ dst := _, op := Op.load 24 _, type := _, pos := _, after := _, guard := _ } :: _) _ _); refine wpList_agg_has h rfl 24 _ rfl rfl hbf hx hz Tryz.underlying24 rfl (by kernel_rfl) ?_; try simp only [Act.put, List.setIfInBounds_toArray, List.set_cons_zero, List.set_cons_succ])
      | (go_at_call 37; refine (MY.out _ _ h).mono ?_; clear h; rintro _ w ⟨rfl, h⟩))
    go_ret
    exact ⟨by rw [ET.out]; rfl, h.le hle⟩
  | true =>
    rw [hm] at MY ET
    have hc := confMay_of hm
    obtain ⟨_, _, _, _, ⟨g2, g3⟩, ⟨g4, g5⟩, _⟩ := hc
    have hT := tendN_bd c
    clear hm
    unfold confV at MY TM ⊢
    generalize ints .i64 14 c = row at *
    generalize c 11 = B at *
    generalize tendN c = T at *
    have w1 : IntKind.i64.wrap (9 * T) = 9 * T := IntWalk.i64_in _ (by omega)
    have w2 : IntKind.i64.wrap (3 * B) = 3 * B := IntWalk.i64_in _ (by omega)
    have w3 : IntKind.i64.wrap (9 * T + 3 * B) = 9 * T + 3 * B := IntWalk.i64_in _ (by omega)
    clear hT g2 g3 g4 g5
    go_enter Tryz.func22, Tryz.ntmps22
    go_upto_region 1 with (first
      | ((with_reducible show wpList _ _ _ ({ dst := _, op := Op.box 24 _, type := _, pos := _, after := _, guard := _ } :: _) _ _); refine wpList_box_has h rfl 24 _ rfl ?_; clear h; intro bf w h hnf; try simp only [Act.put, List.setIfInBounds_toArray, List.set_cons_zero, List.set_cons_succ]))
    replace hnf : M bf = none := hnf
    replace h : Has σ (M.upd bf (.cells row 24)) w := h
    have hle : M.le (M.upd bf (.cells row 24)) := Mm.le_upd' hnf _
    have hbf : (M.upd bf (.cells row 24)) bf = some (.cells row 24) := (Mm.le_refl _) _ _ (Mm.upd_same _ _ _)
    replace hnf : M bf = none := Mm.none_of (Mm.le_refl _) hnf
    generalize (M.upd bf (.cells row 24)) = M1 at h hle hbf
    have MY1 := Lib.hid (MY.out M1)
    have TM1 := Lib.hid (TM.out M1)
    go_upto_region 3 with (first
      | ((with_reducible show wpList _ _ _ ({ dst := _, op := Op.load 24 _, type := _, pos := _, after := _, guard := _ } :: _) _ _); refine wpList_agg_has h rfl 24 _ rfl rfl hbf hx hz Tryz.underlying24 rfl (by kernel_rfl) ?_; try simp only [Act.put, List.setIfInBounds_toArray, List.set_cons_zero, List.set_cons_succ])
      | (go_at_call 37; refine (MY.out _ _ h).mono ?_; clear h; rintro _ w ⟨rfl, h⟩))
    refine wp_region_class (Has σ M1) (by kernel_rfl) (by kernel_rfl) h.drew ?_
    clear h
    repeat (first
      | go_big_quiet_skip
      | (go_big_quiet_want; first
        | (refine quiet_agg_has 24 _ rfl rfl hbf hx hz Tryz.underlying24 rfl (by kernel_rfl) ?_; simp only [Act.put, List.setIfInBounds_toArray, List.set_cons_zero, List.set_cons_succ]; go_big_quiet_on)
        | (refine quiet_load_has 3 _ rfl rfl hbf r11 Tryz.underlying3 rfl ?_; simp only [Act.put, List.setIfInBounds_toArray, List.set_cons_zero, List.set_cons_succ]; go_big_quiet_on)
        | (go_big_quiet_op; first | go_big_quiet_on | go_big_quiet_call (first | with_reducible exact fun _ => rfl | with_reducible exact TM1.out _))))
    refine wpQuiet_nil ?_
    try clear w
    intro w h
    go_wp2
    go_ret
    exact ⟨by rw [ET.out]; rfl, h.le hle⟩
/-- What Bound tells. -/
def boundN (c : Nat → Int) (wd : Int) : Option Int := if 1 ≤ wd ∧ wd ≤ 1000 ∧ confMayB c = true then some (ownN c * wd) else none
set_option maxHeartbeats 1000000 in
theorem limitBound_no (h : Has σ M w) (c : Nat → Int) (wd : Int) (hn : ¬ (1 ≤ wd ∧ wd ≤ 1000 ∧ confMayB c = true)) : Calls Tryz.prog 21 #[confV c, .int .i64 wd] w fun r w' => r = .returned (.tuple #[.int .i64 0, .bool false]) ∧ Has σ M w' := by
  have hx : (ints .i64 14 c).extract 0 (0 + 14) = ints .i64 14 c := rfl
  have hz : (ints .i64 14 c).size = 14 := rfl
  have r1 : (ints .i64 14 c)[1]? = some (.int .i64 (c 1)) := rfl
  have r10 : (ints .i64 14 c)[10]? = some (.int .i64 (c 10)) := rfl
  have r11 : (ints .i64 14 c)[11]? = some (.int .i64 (c 11)) := rfl
  have MY : Hid (∀ (M' : Mm) (w : World), Has σ M' w → Calls Tryz.prog 37 #[confV c] w fun e w' => e = .returned (.bool (confMayB c)) ∧ Has σ M' w') := Lib.hid fun M' w h => (confMay_any c w).mono fun e w' ⟨h1, h2⟩ => ⟨h1, h.below h2⟩
  obtain ⟨b, hb⟩ : ∃ b, confMayB c = b := ⟨_, rfl⟩
  rw [hb] at MY hn
  clear hb
  unfold confV at MY ⊢
  generalize ints .i64 14 c = row at *
  by_cases h1 : wd < 1
  · have d1 : decide (wd < 1) = true := decide_eq_true h1
    clear hn h1
    go_enter Tryz.func21, Tryz.ntmps21
    go_upto_region 1 with (first
      | ((with_reducible show wpList _ _ _ ({ dst := _, op := Op.box 24 _, type := _, pos := _, after := _, guard := _ } :: _) _ _); refine wpList_box_has h rfl 24 _ rfl ?_; clear h; intro bf w h hnf; try simp only [Act.put, List.setIfInBounds_toArray, List.set_cons_zero, List.set_cons_succ]))
    replace hnf : M bf = none := hnf
    replace h : Has σ (M.upd bf (.cells row 24)) w := h
    have hle : M.le (M.upd bf (.cells row 24)) := Mm.le_upd' hnf _
    have hbf : (M.upd bf (.cells row 24)) bf = some (.cells row 24) := (Mm.le_refl _) _ _ (Mm.upd_same _ _ _)
    replace hnf : M bf = none := Mm.none_of (Mm.le_refl _) hnf
    generalize (M.upd bf (.cells row 24)) = M1 at h hle hbf
    go_wp2_with (first
      | ((with_reducible show wpList _ _ _ ({ dst := _, op := Op.load 24 _, type := _, pos := _, after := _, guard := _ } :: _) _ _); refine wpList_agg_has h rfl 24 _ rfl rfl hbf hx hz Tryz.underlying24 rfl (by kernel_rfl) ?_; try simp only [Act.put, List.setIfInBounds_toArray, List.set_cons_zero, List.set_cons_succ])
      | (go_at_call 37; refine (MY.out _ _ h).mono ?_; clear h; rintro _ w ⟨rfl, h⟩))
    go_ret2
    exact ⟨rfl, h.le hle⟩
  · have d1 : decide (wd < 1) = false := decide_eq_false h1
    by_cases h2 : 1000 < wd
    · have d2 : decide (1000 < wd) = true := decide_eq_true h2
      clear hn h1 h2
      go_enter Tryz.func21, Tryz.ntmps21
      go_upto_region 1 with (first
        | ((with_reducible show wpList _ _ _ ({ dst := _, op := Op.box 24 _, type := _, pos := _, after := _, guard := _ } :: _) _ _); refine wpList_box_has h rfl 24 _ rfl ?_; clear h; intro bf w h hnf; try simp only [Act.put, List.setIfInBounds_toArray, List.set_cons_zero, List.set_cons_succ]))
      replace hnf : M bf = none := hnf
      replace h : Has σ (M.upd bf (.cells row 24)) w := h
      have hle : M.le (M.upd bf (.cells row 24)) := Mm.le_upd' hnf _
      have hbf : (M.upd bf (.cells row 24)) bf = some (.cells row 24) := (Mm.le_refl _) _ _ (Mm.upd_same _ _ _)
      replace hnf : M bf = none := Mm.none_of (Mm.le_refl _) hnf
      generalize (M.upd bf (.cells row 24)) = M1 at h hle hbf
      go_wp2_with (first
        | ((with_reducible show wpList _ _ _ ({ dst := _, op := Op.load 24 _, type := _, pos := _, after := _, guard := _ } :: _) _ _); refine wpList_agg_has h rfl 24 _ rfl rfl hbf hx hz Tryz.underlying24 rfl (by kernel_rfl) ?_; try simp only [Act.put, List.setIfInBounds_toArray, List.set_cons_zero, List.set_cons_succ])
        | (go_at_call 37; refine (MY.out _ _ h).mono ?_; clear h; rintro _ w ⟨rfl, h⟩))
      go_ret2
      exact ⟨rfl, h.le hle⟩
    · have d2 : decide (1000 < wd) = false := decide_eq_false h2
      obtain rfl : b = false := by
        cases b
        · rfl
        · exact absurd ⟨by omega, by omega, rfl⟩ hn
      clear hn h1 h2
      go_enter Tryz.func21, Tryz.ntmps21
      go_upto_region 1 with (first
        | ((with_reducible show wpList _ _ _ ({ dst := _, op := Op.box 24 _, type := _, pos := _, after := _, guard := _ } :: _) _ _); refine wpList_box_has h rfl 24 _ rfl ?_; clear h; intro bf w h hnf; try simp only [Act.put, List.setIfInBounds_toArray, List.set_cons_zero, List.set_cons_succ]))
      replace hnf : M bf = none := hnf
      replace h : Has σ (M.upd bf (.cells row 24)) w := h
      have hle : M.le (M.upd bf (.cells row 24)) := Mm.le_upd' hnf _
      have hbf : (M.upd bf (.cells row 24)) bf = some (.cells row 24) := (Mm.le_refl _) _ _ (Mm.upd_same _ _ _)
      replace hnf : M bf = none := Mm.none_of (Mm.le_refl _) hnf
      generalize (M.upd bf (.cells row 24)) = M1 at h hle hbf
      go_wp2_with (first
        | ((with_reducible show wpList _ _ _ ({ dst := _, op := Op.load 24 _, type := _, pos := _, after := _, guard := _ } :: _) _ _); refine wpList_agg_has h rfl 24 _ rfl rfl hbf hx hz Tryz.underlying24 rfl (by kernel_rfl) ?_; try simp only [Act.put, List.setIfInBounds_toArray, List.set_cons_zero, List.set_cons_succ])
        | (go_at_call 37; refine (MY.out _ _ h).mono ?_; clear h; rintro _ w ⟨rfl, h⟩))
      go_ret2
      exact ⟨rfl, h.le hle⟩
set_option maxHeartbeats 1000000 in
theorem limitBound_yes (h : Has σ M w) (c : Nat → Int) (wd : Int) (h1 : 1 ≤ wd) (h2 : wd ≤ 1000) (hm : confMayB c = true) : Calls Tryz.prog 21 #[confV c, .int .i64 wd] w fun r w' => r = .returned (.tuple #[.int .i64 (ownN c * wd), .bool true]) ∧ Has σ M w' := by
  have hx : (ints .i64 14 c).extract 0 (0 + 14) = ints .i64 14 c := rfl
  have hz : (ints .i64 14 c).size = 14 := rfl
  have r1 : (ints .i64 14 c)[1]? = some (.int .i64 (c 1)) := rfl
  have r10 : (ints .i64 14 c)[10]? = some (.int .i64 (c 10)) := rfl
  have r11 : (ints .i64 14 c)[11]? = some (.int .i64 (c 11)) := rfl
  have MY : Hid (∀ (M' : Mm) (w : World), Has σ M' w → Calls Tryz.prog 37 #[confV c] w fun e w' => e = .returned (.bool (confMayB c)) ∧ Has σ M' w') := Lib.hid fun M' w h => (confMay_any c w).mono fun e w' ⟨h1, h2⟩ => ⟨h1, h.below h2⟩
  have OW := Lib.hid (fun (M' : Mm) (w : World) (h : Has σ M' w) => limitOwn_eq h c)
  have hT := ownN_bd c
  rw [hm] at MY
  clear hm
  unfold confV at MY OW ⊢
  generalize ints .i64 14 c = row at *
  generalize ownN c = o at *
  have hp : 0 ≤ o * wd ∧ o * wd ≤ 100000 * 1000 := ⟨Int.mul_nonneg hT.1 (by omega), Int.mul_le_mul hT.2 h2 (by omega) (by omega)⟩
  have w1 : IntKind.i64.wrap (o * wd) = o * wd := IntWalk.i64_in _ (by omega)
  have d1 : decide (wd < 1) = false := decide_eq_false (by omega)
  have d2 : decide (1000 < wd) = false := decide_eq_false (by omega)
  clear hT hp h1 h2
  go_enter Tryz.func21, Tryz.ntmps21
  go_upto_region 1 with (first
    | ((with_reducible show wpList _ _ _ ({ dst := _, op := Op.box 24 _, type := _, pos := _, after := _, guard := _ } :: _) _ _); refine wpList_box_has h rfl 24 _ rfl ?_; clear h; intro bf w h hnf; try simp only [Act.put, List.setIfInBounds_toArray, List.set_cons_zero, List.set_cons_succ]))
  replace hnf : M bf = none := hnf
  replace h : Has σ (M.upd bf (.cells row 24)) w := h
  have hle : M.le (M.upd bf (.cells row 24)) := Mm.le_upd' hnf _
  have hbf : (M.upd bf (.cells row 24)) bf = some (.cells row 24) := (Mm.le_refl _) _ _ (Mm.upd_same _ _ _)
  replace hnf : M bf = none := Mm.none_of (Mm.le_refl _) hnf
  generalize (M.upd bf (.cells row 24)) = M1 at h hle hbf
  go_wp2_with (first
    | ((with_reducible show wpList _ _ _ ({ dst := _, op := Op.load 24 _, type := _, pos := _, after := _, guard := _ } :: _) _ _); refine wpList_agg_has h rfl 24 _ rfl rfl hbf hx hz Tryz.underlying24 rfl (by kernel_rfl) ?_; try simp only [Act.put, List.setIfInBounds_toArray, List.set_cons_zero, List.set_cons_succ])
    | (go_at_call 37; refine (MY.out _ _ h).mono ?_; clear h; rintro _ w ⟨rfl, h⟩)
    | (go_at_call 22; refine (OW.out _ _ h).mono ?_; clear h; rintro _ w ⟨rfl, h⟩))
  go_ret2
  exact ⟨rfl, h.le hle⟩
end
end Go.Proofs.YtmfpablmmjaccaaGreatDoor
