/- Layer 37 (rest): the walk of RestMeant. -/
import Derived.Test.YtlpkimpdeeiaaaaGreatRgD
import Derived.Test.YtlpkimpdeeiaaaaGreatHeldR
import Derived.Test.YtlpkimpdeeiaaaaGreatMachD
import Derived.Test.YtlpkimpdeeiaaaaGreatRgB
namespace Go.Proofs.YtlpkimpdeeiaaaaGreat
section
open Go.RowKit
set_option linter.unusedVariables false
set_option linter.unusedSimpArgs false
set_option linter.unnecessarySimpa false
theorem insertion_nil {σ w : World} {M : Mm} (h : Has σ M w) : Calls Tryz.prog 88 #[.slice none 0 0, .int .i64 0, .int .i64 0] w fun r w' => r = .returned (.tuple #[]) ∧ Has σ M w' := by
  go_enter Tryz.func88, Tryz.ntmps88
  go_wp2
  refine wp_loop_rounds 1 ?_
  rw [rounds_succ]
  go_wp2
  go_end0
  exact ⟨rfl, h⟩
set_option maxRecDepth 50000 in
theorem len64_0 {σ w : World} {M : Mm} (h : Has σ M w) : Calls Tryz.prog 98 #[.int .u64 0] w fun r w' => r = .returned (.int .i64 0) ∧ Has σ M w' := by
  go_enter Tryz.func98, Tryz.ntmps98
  go_wp2
  go_ret
  exact ⟨by kernel_rfl, h⟩
theorem len_0 {σ w : World} {M : Mm} (h : Has σ M w) : Calls Tryz.prog 80 #[.int .u64 0] w fun r w' => r = .returned (.int .i64 0) ∧ Has σ M w' := by
  have L6 := Lib.hid (fun (w : World) (h : Has σ M w) => len64_0 h)
  go_enter Tryz.func80, Tryz.ntmps80
  go_wp2_with (first
    | (go_at_call 98; go_loud (refine (L6.out _ h).mono ?_); clear h; rintro _ w ⟨rfl, h⟩))
  go_ret
  exact ⟨rfl, h⟩
theorem pdq_nil {σ w : World} {M : Mm} (h : Has σ M w) : Calls Tryz.prog 79 #[.slice none 0 0, .int .i64 0, .int .i64 0, .int .i64 0] w fun r w' => r = .returned (.tuple #[]) ∧ Has σ M w' := by
  have IN := Lib.hid (fun (w : World) (h : Has σ M w) => insertion_nil h)
  go_enter Tryz.func79, Tryz.ntmps79
  go_wp2
  refine wp_loop_rounds 1 ?_
  rw [rounds_succ]
  go_wp2_with (first
    | (go_at_call 88; go_loud (refine (IN.out _ h).mono ?_); clear h; rintro _ w ⟨rfl, h⟩))
  exact bodyPost_ret (results_none rfl _ _ _) rfl ⟨rfl, h⟩
theorem sort_nil {σ w : World} {M : Mm} (h : Has σ M w) : Calls Tryz.prog 63 #[.slice none 0 0] w fun r w' => r = .returned (.tuple #[]) ∧ Has σ M w' := by
  have LN := Lib.hid (fun (w : World) (h : Has σ M w) => len_0 h)
  have PQ := Lib.hid (fun (w : World) (h : Has σ M w) => pdq_nil h)
  go_enter Tryz.func63, Tryz.ntmps63
  go_wp2_with (first
    | (go_at_call 80; go_loud (refine (LN.out _ h).mono ?_); clear h; rintro _ w ⟨rfl, h⟩)
    | (go_at_call 79; go_loud (refine (PQ.out _ h).mono ?_); clear h; rintro _ w ⟨rfl, h⟩))
  go_end0
  exact ⟨rfl, h⟩
end
section
open Go.RowKit
set_option linter.unusedVariables false
set_option linter.unusedSimpArgs false
set_option linter.unnecessarySimpa false
theorem state_h {σ w : World} {M : Mm} (h : Has σ M w) (x : Nat) (hx : x < 2) : Calls Tryz.prog 59 #[.int .u64 (x : Nat)] w fun r w' => r = .returned (.tuple #[.int .i64 0, .int .i64 (x : Nat)]) ∧ Has σ M w' := by
  have := handleState_any x (by omega) w
  have e1 : cutN x 2 32 = 0 := by rcases (show x = 0 ∨ x = 1 by omega) with rfl | rfl <;> decide
  have e2 : cutN x 0 2 = x := by rcases (show x = 0 ∨ x = 1 by omega) with rfl | rfl <;> decide
  rw [e1, e2] at this
  exact this.mono fun r w' ⟨e1, e2⟩ => ⟨e1, e2 ▸ h⟩
theorem held_at (t : Nat) (h1 : 1 ≤ t) (h5 : t ≤ 5) : decide (0 < valE 0 (t : Int) (firstHeld 1)) = decide (t = 1) := by
  rcases (show t = 1 ∨ t = 2 ∨ t = 3 ∨ t = 4 ∨ t = 5 by omega) with rfl | rfl | rfl | rfl | rfl <;> decide
set_option maxHeartbeats 8000000 in
set_option maxRecDepth 20000 in
theorem lkSlots_eq {σ w : World} {M0 M : Mm} {lab : Nat → Nat} {p bw bl : Nat} {s : MachS} (h : Has σ M w) (hS : Seen M0 lab p bw s) (hM0 : M0.le M) {fr li re wo : Int} {ti cl lo : Bool} (hl : M bl = some (.cells (lkR p bw fr li re 0 wo ti cl lo) 83)) : Calls Tryz.prog 32 #[.pointer (some ⟨bl, 0, none⟩)] w fun r w' => r = .returned (.tuple #[]) ∧ Has σ (M.upd bl (.cells (lkR p bw fr li re 1 wo ti cl lo) 83)) w' := by
  obtain ⟨lab', hS'⟩ := hS.le hM0
  have hW := hS'.mach.ward
  have hge := hS'.new.gens.1
  have hhe := hS'.new.held.1
  have hhc := hS'.new.held.2
  have hlv : s.ward.lv = 1 := by rw [hS'.mach.wsz.1, hS'.new.c]; rfl
  have hsl : s.ward.sl = 5 := by rw [hS'.mach.wsz.2, hS'.new.c]; rfl
  have WR := Lib.hid (fun (w : World) (h : Has σ M w) => mWarden_eq h hS'.mach)
  have HE : Hid (∀ w : World, Has σ M w → Calls Tryz.prog 64 #[.pointer (some ⟨s.wp, 0, none⟩), .int .i64 0] w fun r w' => r = .returned (.int .i64 1) ∧ Has σ M w') := Lib.hid fun w h => by
    have := wardHeld_eq h hW 0 (by rw [hhe]; decide) (by rw [hhe, hhc]; decide) (by rw [hhe]; decide)
    rw [hhe] at this
    exact this
  have SO := Lib.hid (fun (w : World) (h : Has σ M w) => sort_nil h)
  have S0 : Hid (∀ w : World, Has σ M w → Calls Tryz.prog 59 #[.int .u64 0] w fun r w' => r = .returned (.tuple #[.int .i64 0, .int .i64 0]) ∧ Has σ M w') := Lib.hid fun w h => state_h h 0 (by omega)
  have S1 : Hid (∀ w : World, Has σ M w → Calls Tryz.prog 59 #[.int .u64 1] w fun r w' => r = .returned (.tuple #[.int .i64 0, .int .i64 1]) ∧ Has σ M w') := Lib.hid fun w h => state_h h 1 (by omega)
  have ND1 : Hid (∀ w : World, Has σ M w → Calls Tryz.prog 51 #[.pointer (some ⟨bl, 0, none⟩), .int .i64 1, .int .i64 0] w fun r w' => r = .returned (.int .u64 1) ∧ Has σ M w') := Lib.hid fun w h => by
    have := lkNode_eq h hS' hl 1 0 (by omega) (by omega) (by omega)
    rwa [wordR_head 1 (by omega) (by omega)] at this
  have LN1 : Hid (∀ w : World, Has σ M w → Calls Tryz.prog 62 #[.pointer (some ⟨s.wp, 0, none⟩), .int .i64 0, .int .i64 1] w fun r w' => r = .returned (.int .u64 (s.ward.link 0 1)) ∧ Has σ M w') := Lib.hid fun w h => wardLink_eq h hW 0 1 (by omega) (by rw [hge]; decide)
  have LD1 : Hid (∀ w : World, Has σ M w → Calls Tryz.prog 61 #[.pointer (some ⟨s.wp, 0, none⟩), .int .i64 0, .int .u64 (s.ward.link 0 1)] w fun r w' => r = .returned (.bool true) ∧ Has σ M w') := Lib.hid fun w h => by
    have := leads_eq h hW 0 1 (by unfold WardS.there; rw [hlv, hsl]; decide) (by omega) (by rw [hge]; decide)
    rw [hhe, held_at 1 (by omega) (by omega)] at this
    exact this
  generalize s.ward.link 0 1 = v1 at LN1 LD1
  have ND2 : Hid (∀ w : World, Has σ M w → Calls Tryz.prog 51 #[.pointer (some ⟨bl, 0, none⟩), .int .i64 2, .int .i64 0] w fun r w' => r = .returned (.int .u64 0) ∧ Has σ M w') := Lib.hid fun w h => by
    have := lkNode_eq h hS' hl 2 0 (by omega) (by omega) (by omega)
    rwa [wordR_head 2 (by omega) (by omega)] at this
  have LN2 : Hid (∀ w : World, Has σ M w → Calls Tryz.prog 62 #[.pointer (some ⟨s.wp, 0, none⟩), .int .i64 0, .int .i64 2] w fun r w' => r = .returned (.int .u64 (s.ward.link 0 2)) ∧ Has σ M w') := Lib.hid fun w h => wardLink_eq h hW 0 2 (by omega) (by rw [hge]; decide)
  have LD2 : Hid (∀ w : World, Has σ M w → Calls Tryz.prog 61 #[.pointer (some ⟨s.wp, 0, none⟩), .int .i64 0, .int .u64 (s.ward.link 0 2)] w fun r w' => r = .returned (.bool false) ∧ Has σ M w') := Lib.hid fun w h => by
    have := leads_eq h hW 0 2 (by unfold WardS.there; rw [hlv, hsl]; decide) (by omega) (by rw [hge]; decide)
    rw [hhe, held_at 2 (by omega) (by omega)] at this
    exact this
  generalize s.ward.link 0 2 = v2 at LN2 LD2
  have ND3 : Hid (∀ w : World, Has σ M w → Calls Tryz.prog 51 #[.pointer (some ⟨bl, 0, none⟩), .int .i64 3, .int .i64 0] w fun r w' => r = .returned (.int .u64 0) ∧ Has σ M w') := Lib.hid fun w h => by
    have := lkNode_eq h hS' hl 3 0 (by omega) (by omega) (by omega)
    rwa [wordR_head 3 (by omega) (by omega)] at this
  have LN3 : Hid (∀ w : World, Has σ M w → Calls Tryz.prog 62 #[.pointer (some ⟨s.wp, 0, none⟩), .int .i64 0, .int .i64 3] w fun r w' => r = .returned (.int .u64 (s.ward.link 0 3)) ∧ Has σ M w') := Lib.hid fun w h => wardLink_eq h hW 0 3 (by omega) (by rw [hge]; decide)
  have LD3 : Hid (∀ w : World, Has σ M w → Calls Tryz.prog 61 #[.pointer (some ⟨s.wp, 0, none⟩), .int .i64 0, .int .u64 (s.ward.link 0 3)] w fun r w' => r = .returned (.bool false) ∧ Has σ M w') := Lib.hid fun w h => by
    have := leads_eq h hW 0 3 (by unfold WardS.there; rw [hlv, hsl]; decide) (by omega) (by rw [hge]; decide)
    rw [hhe, held_at 3 (by omega) (by omega)] at this
    exact this
  generalize s.ward.link 0 3 = v3 at LN3 LD3
  have ND4 : Hid (∀ w : World, Has σ M w → Calls Tryz.prog 51 #[.pointer (some ⟨bl, 0, none⟩), .int .i64 4, .int .i64 0] w fun r w' => r = .returned (.int .u64 0) ∧ Has σ M w') := Lib.hid fun w h => by
    have := lkNode_eq h hS' hl 4 0 (by omega) (by omega) (by omega)
    rwa [wordR_head 4 (by omega) (by omega)] at this
  have LN4 : Hid (∀ w : World, Has σ M w → Calls Tryz.prog 62 #[.pointer (some ⟨s.wp, 0, none⟩), .int .i64 0, .int .i64 4] w fun r w' => r = .returned (.int .u64 (s.ward.link 0 4)) ∧ Has σ M w') := Lib.hid fun w h => wardLink_eq h hW 0 4 (by omega) (by rw [hge]; decide)
  have LD4 : Hid (∀ w : World, Has σ M w → Calls Tryz.prog 61 #[.pointer (some ⟨s.wp, 0, none⟩), .int .i64 0, .int .u64 (s.ward.link 0 4)] w fun r w' => r = .returned (.bool false) ∧ Has σ M w') := Lib.hid fun w h => by
    have := leads_eq h hW 0 4 (by unfold WardS.there; rw [hlv, hsl]; decide) (by omega) (by rw [hge]; decide)
    rw [hhe, held_at 4 (by omega) (by omega)] at this
    exact this
  generalize s.ward.link 0 4 = v4 at LN4 LD4
  have ND5 : Hid (∀ w : World, Has σ M w → Calls Tryz.prog 51 #[.pointer (some ⟨bl, 0, none⟩), .int .i64 5, .int .i64 0] w fun r w' => r = .returned (.int .u64 0) ∧ Has σ M w') := Lib.hid fun w h => by
    have := lkNode_eq h hS' hl 5 0 (by omega) (by omega) (by omega)
    rwa [wordR_head 5 (by omega) (by omega)] at this
  have LN5 : Hid (∀ w : World, Has σ M w → Calls Tryz.prog 62 #[.pointer (some ⟨s.wp, 0, none⟩), .int .i64 0, .int .i64 5] w fun r w' => r = .returned (.int .u64 (s.ward.link 0 5)) ∧ Has σ M w') := Lib.hid fun w h => wardLink_eq h hW 0 5 (by omega) (by rw [hge]; decide)
  have LD5 : Hid (∀ w : World, Has σ M w → Calls Tryz.prog 61 #[.pointer (some ⟨s.wp, 0, none⟩), .int .i64 0, .int .u64 (s.ward.link 0 5)] w fun r w' => r = .returned (.bool false) ∧ Has σ M w') := Lib.hid fun w h => by
    have := leads_eq h hW 0 5 (by unfold WardS.there; rw [hlv, hsl]; decide) (by omega) (by rw [hge]; decide)
    rw [hhe, held_at 5 (by omega) (by omega)] at this
    exact this
  generalize s.ward.link 0 5 = v5 at LN5 LD5
  have e0 : (lkR p bw fr li re 0 wo ti cl lo)[0]? = some (.pointer (some ⟨p, 0, none⟩)) := rfl
  have e11 : (lkR p bw fr li re 0 wo ti cl lo)[11]? = some (.int .i64 5) := rfl
  have e13 : (lkR p bw fr li re 0 wo ti cl lo)[13]? = some (.int .i64 1) := rfl
  have e15 : (lkR p bw fr li re 0 wo ti cl lo)[15]? = some (.int .i64 0) := rfl
  have e20 : (lkR p bw fr li re 0 wo ti cl lo)[20]? = some (.slice none 0 0) := rfl
  have l24 : 24 < (lkR p bw fr li re 0 wo ti cl lo).size := by show 24 < 29; decide
  have s24 : (lkR p bw fr li re 0 wo ti cl lo).setIfInBounds 24 (.int .i64 1) = lkR p bw fr li re 1 wo ti cl lo := rfl
  generalize lkR p bw fr li re 0 wo ti cl lo = row at *
  clear hS hS' hM0 hW hge hhe hhc hlv hsl
  generalize s.wp = wp at *
  go_enter Tryz.func32, Tryz.ntmps32
  go_upto_region 1 with (first
    | (with_reducible show wpList _ _ _ ({ dst := _, op := Op.load 38 _, type := _, pos := _, after := _, guard := _ } :: _) _ _; go_loud (refine wpList_load1_has h rfl 38 _ rfl rfl hl e0 Tryz.underlying38 rfl ?_))
    | (go_at_call 60; go_loud (refine (WR.out _ h).mono ?_); clear h; rintro _ w ⟨rfl, h⟩))
  go_wp2
  refine wp_loop_rounds 6 ?_
  rw [rounds_succ]
  go_upto_region 4 with (first
    | (with_reducible show wpList _ _ _ ({ dst := _, op := Op.load 3 _, type := _, pos := _, after := _, guard := _ } :: _) _ _; go_loud (refine wpList_load1_has h rfl 3 _ rfl rfl hl e11 Tryz.underlying3 rfl ?_)))
  go_wp2_with (first
    | (go_at_call 51; go_loud (refine (ND1.out _ h).mono ?_); clear h; rintro _ w ⟨rfl, h⟩)
    | (go_at_call 59; go_loud (refine (S1.out _ h).mono ?_); clear h; rintro _ w ⟨rfl, h⟩))
  refine wp_region_class (Has σ M) (by kernel_rfl) (by kernel_rfl) h.drew ?_
  clear h
  repeat (first
    | go_big_quiet_skip
    | (go_big_quiet_want; first
      | (refine quiet_load_has 3 _ rfl rfl hl e13 Tryz.underlying3 rfl ?_; simp only [Act.put, List.setIfInBounds_toArray, List.set_cons_zero, List.set_cons_succ]; go_big_quiet_on)
      | (refine quiet_load_has 3 _ rfl rfl hl e15 Tryz.underlying3 rfl ?_; simp only [Act.put, List.setIfInBounds_toArray, List.set_cons_zero, List.set_cons_succ]; go_big_quiet_on)
      | (go_big_quiet_op; first | go_big_quiet_on | go_big_quiet_call (first | with_reducible exact fun _ => rfl | with_reducible exact LN1.out _ | with_reducible exact LD1.out _))))
  refine wpQuiet_nil ?_
  try clear w
  intro w h
  go_wp2
  rw [rounds_succ]
  go_upto_region 4 with (first
    | (with_reducible show wpList _ _ _ ({ dst := _, op := Op.load 3 _, type := _, pos := _, after := _, guard := _ } :: _) _ _; go_loud (refine wpList_load1_has h rfl 3 _ rfl rfl hl e11 Tryz.underlying3 rfl ?_)))
  go_wp2_with (first
    | (go_at_call 51; go_loud (refine (ND2.out _ h).mono ?_); clear h; rintro _ w ⟨rfl, h⟩)
    | (go_at_call 59; go_loud (refine (S0.out _ h).mono ?_); clear h; rintro _ w ⟨rfl, h⟩))
  refine wp_region_class (Has σ M) (by kernel_rfl) (by kernel_rfl) h.drew ?_
  clear h
  repeat (first
    | go_big_quiet_skip
    | (go_big_quiet_want; first
      | (refine quiet_load_has 3 _ rfl rfl hl e13 Tryz.underlying3 rfl ?_; simp only [Act.put, List.setIfInBounds_toArray, List.set_cons_zero, List.set_cons_succ]; go_big_quiet_on)
      | (refine quiet_load_has 3 _ rfl rfl hl e15 Tryz.underlying3 rfl ?_; simp only [Act.put, List.setIfInBounds_toArray, List.set_cons_zero, List.set_cons_succ]; go_big_quiet_on)
      | (go_big_quiet_op; first | go_big_quiet_on | go_big_quiet_call (first | with_reducible exact fun _ => rfl | with_reducible exact LN2.out _ | with_reducible exact LD2.out _))))
  refine wpQuiet_nil ?_
  try clear w
  intro w h
  go_wp2
  rw [rounds_succ]
  go_upto_region 4 with (first
    | (with_reducible show wpList _ _ _ ({ dst := _, op := Op.load 3 _, type := _, pos := _, after := _, guard := _ } :: _) _ _; go_loud (refine wpList_load1_has h rfl 3 _ rfl rfl hl e11 Tryz.underlying3 rfl ?_)))
  go_wp2_with (first
    | (go_at_call 51; go_loud (refine (ND3.out _ h).mono ?_); clear h; rintro _ w ⟨rfl, h⟩)
    | (go_at_call 59; go_loud (refine (S0.out _ h).mono ?_); clear h; rintro _ w ⟨rfl, h⟩))
  refine wp_region_class (Has σ M) (by kernel_rfl) (by kernel_rfl) h.drew ?_
  clear h
  repeat (first
    | go_big_quiet_skip
    | (go_big_quiet_want; first
      | (refine quiet_load_has 3 _ rfl rfl hl e13 Tryz.underlying3 rfl ?_; simp only [Act.put, List.setIfInBounds_toArray, List.set_cons_zero, List.set_cons_succ]; go_big_quiet_on)
      | (refine quiet_load_has 3 _ rfl rfl hl e15 Tryz.underlying3 rfl ?_; simp only [Act.put, List.setIfInBounds_toArray, List.set_cons_zero, List.set_cons_succ]; go_big_quiet_on)
      | (go_big_quiet_op; first | go_big_quiet_on | go_big_quiet_call (first | with_reducible exact fun _ => rfl | with_reducible exact LN3.out _ | with_reducible exact LD3.out _))))
  refine wpQuiet_nil ?_
  try clear w
  intro w h
  go_wp2
  rw [rounds_succ]
  go_upto_region 4 with (first
    | (with_reducible show wpList _ _ _ ({ dst := _, op := Op.load 3 _, type := _, pos := _, after := _, guard := _ } :: _) _ _; go_loud (refine wpList_load1_has h rfl 3 _ rfl rfl hl e11 Tryz.underlying3 rfl ?_)))
  go_wp2_with (first
    | (go_at_call 51; go_loud (refine (ND4.out _ h).mono ?_); clear h; rintro _ w ⟨rfl, h⟩)
    | (go_at_call 59; go_loud (refine (S0.out _ h).mono ?_); clear h; rintro _ w ⟨rfl, h⟩))
  refine wp_region_class (Has σ M) (by kernel_rfl) (by kernel_rfl) h.drew ?_
  clear h
  repeat (first
    | go_big_quiet_skip
    | (go_big_quiet_want; first
      | (refine quiet_load_has 3 _ rfl rfl hl e13 Tryz.underlying3 rfl ?_; simp only [Act.put, List.setIfInBounds_toArray, List.set_cons_zero, List.set_cons_succ]; go_big_quiet_on)
      | (refine quiet_load_has 3 _ rfl rfl hl e15 Tryz.underlying3 rfl ?_; simp only [Act.put, List.setIfInBounds_toArray, List.set_cons_zero, List.set_cons_succ]; go_big_quiet_on)
      | (go_big_quiet_op; first | go_big_quiet_on | go_big_quiet_call (first | with_reducible exact fun _ => rfl | with_reducible exact LN4.out _ | with_reducible exact LD4.out _))))
  refine wpQuiet_nil ?_
  try clear w
  intro w h
  go_wp2
  rw [rounds_succ]
  go_upto_region 4 with (first
    | (with_reducible show wpList _ _ _ ({ dst := _, op := Op.load 3 _, type := _, pos := _, after := _, guard := _ } :: _) _ _; go_loud (refine wpList_load1_has h rfl 3 _ rfl rfl hl e11 Tryz.underlying3 rfl ?_)))
  go_wp2_with (first
    | (go_at_call 51; go_loud (refine (ND5.out _ h).mono ?_); clear h; rintro _ w ⟨rfl, h⟩)
    | (go_at_call 59; go_loud (refine (S0.out _ h).mono ?_); clear h; rintro _ w ⟨rfl, h⟩))
  refine wp_region_class (Has σ M) (by kernel_rfl) (by kernel_rfl) h.drew ?_
  clear h
  repeat (first
    | go_big_quiet_skip
    | (go_big_quiet_want; first
      | (refine quiet_load_has 3 _ rfl rfl hl e13 Tryz.underlying3 rfl ?_; simp only [Act.put, List.setIfInBounds_toArray, List.set_cons_zero, List.set_cons_succ]; go_big_quiet_on)
      | (refine quiet_load_has 3 _ rfl rfl hl e15 Tryz.underlying3 rfl ?_; simp only [Act.put, List.setIfInBounds_toArray, List.set_cons_zero, List.set_cons_succ]; go_big_quiet_on)
      | (go_big_quiet_op; first | go_big_quiet_on | go_big_quiet_call (first | with_reducible exact fun _ => rfl | with_reducible exact LN5.out _ | with_reducible exact LD5.out _))))
  refine wpQuiet_nil ?_
  try clear w
  intro w h
  go_wp2
  rw [rounds_succ]
  go_wp2_with (first
    | (with_reducible show wpList _ _ _ ({ dst := _, op := Op.load 3 _, type := _, pos := _, after := _, guard := _ } :: _) _ _; go_loud (refine wpList_load1_has h rfl 3 _ rfl rfl hl e11 Tryz.underlying3 rfl ?_))
    | (with_reducible show wpList _ _ _ ({ dst := _, op := Op.load 24 _, type := _, pos := _, after := _, guard := _ } :: _) _ _; go_loud (refine wpList_load1_has h rfl 24 _ rfl rfl hl e20 Tryz.underlying24 rfl ?_))
    | (go_at_call 63; go_loud (refine (SO.out _ h).mono ?_); clear h; rintro _ w ⟨rfl, h⟩)
    | (with_reducible show wpList _ _ _ ({ dst := _, op := Op.load 3 _, type := _, pos := _, after := _, guard := _ } :: _) _ _; go_loud (refine wpList_load1_has h rfl 3 _ rfl rfl hl e15 Tryz.underlying3 rfl ?_))
    | (go_at_call 64; go_loud (refine (HE.out _ h).mono ?_); clear h; rintro _ w ⟨rfl, h⟩)
    | (with_reducible show wpList _ _ _ ({ dst := _, op := Op.store 3 _ _, type := _, pos := _, after := _, guard := _ } :: _) _ _; go_loud (refine wpList_store1_has h rfl 3 _ _ rfl rfl rfl hl l24 rfl (by kernel_rfl) ?_); clear h; intro w h))
  replace h : Has σ (M.upd bl (.cells (row.setIfInBounds 24 (.int .i64 1)) 83)) w := h
  rw [s24] at h
  go_end0
  exact ⟨rfl, h⟩
end
section
open Go.RowKit
set_option linter.unusedVariables false
set_option linter.unusedSimpArgs false
set_option linter.unnecessarySimpa false
abbrev siR (fr li re he wo : Int) (ti cl : Bool) : Array Value := #[.slice none 0 0, .slice none 0 0, .slice none 0 0, .slice none 0 0, .int .i64 fr, .int .i64 li, .int .i64 re, .int .i64 he, .int .i64 wo, .bool ti, .bool cl]
theorem zSi : (Tryz.prog.info? 26).bind (·.zero) = some (.agg (siR 0 0 0 0 0 false false)) := by kernel_rfl
theorem zConf : (Tryz.prog.info? 29).bind (·.zero) = some (.agg (ints .i64 14 fun _ => 0)) := by kernel_rfl
set_option maxHeartbeats 4000000 in
set_option maxRecDepth 20000 in
theorem restLook_eq {σ w : World} {M : Mm} {lab : Nat → Nat} {p : Nat} {s : MachS} (h : Has σ M w) (hM : Mach M lab p s) (hN : s.New exR 1 1 5) : Calls Tryz.prog 11 #[.pointer (some ⟨p, 0, none⟩), .int .i64 0] w fun r w' => r = .returned (.tuple #[.agg (siR 4 0 0 1 0 true true), .bool true]) ∧ Has σ M w' := by
  have hc : s.c = exR := hN.c
  have PL : Hid (∀ (M' : Mm) (w : World), M.le M' → Has σ M' w → Calls Tryz.prog 24 #[.pointer (some ⟨p, 0, none⟩)] w fun r w' => r = .returned (.pointer (some ⟨s.pl, 0, none⟩)) ∧ Has σ M' w') := Lib.hid fun M' w hle h => mPlan_eq h (hM.keep (Kp.le hle fun _ => 0) fun _ _ h => h)
  have CF : Hid (∀ (M' : Mm) (w : World), M.le M' → Has σ M' w → Calls Tryz.prog 25 #[.pointer (some ⟨s.pl, 0, none⟩)] w fun r w' => r = .returned (.agg (ints .i64 14 exR)) ∧ Has σ M' w') := Lib.hid fun M' w hle h => by
    have hp := hle _ _ hM.plan
    rw [hc] at hp
    exact conf_has h exR hp
  have ME : Hid (∀ (M' : Mm) (w : World), M.le M' → Has σ M' w → Calls Tryz.prog 26 #[.pointer (some ⟨p, 0, none⟩)] w fun r w' => r = .returned (.pointer (some ⟨s.mp, 0, none⟩)) ∧ Has σ M' w') := Lib.hid fun M' w hle h => mMem_eq h (hM.keep (Kp.le hle fun _ => 0) fun _ _ h => h)
  obtain ⟨wb, ewb⟩ := hN.mem
  have WO : Hid (∀ (M' : Mm) (w : World), M.le M' → Has σ M' w → Calls Tryz.prog 27 #[.pointer (some ⟨s.mp, 0, none⟩)] w fun r w' => ∃ b M'', r = .returned (.slice (some ⟨b, 0, none⟩) 49 49) ∧ Has σ M'' w' ∧ M'.le M'' ∧ M' b = none ∧ M'' b = some (.cells (ints .u64 49 (wl 1 5 1)) 46)) := Lib.hid fun M' w hle h => by
    have hm := (hM.keep (Kp.le hle fun _ => 0) fun _ _ h => h).mem
    rw [ewb] at hm
    exact memWords_eq h hm (by show 49 ≤ 10000; decide)
  have SE : Hid (∀ (M' : Mm) (bw : Nat), M.le M' → M' bw = some (.cells (ints .u64 49 (wl 1 5 1)) 46) → ∃ lab', Seen M' lab' p bw s) := Lib.hid fun M' bw hle hb => ⟨_, hM.keep (Kp.le hle fun _ => 0) fun _ _ h => h, hN, hb⟩
  clear hM hN ewb hc
  have o14 : (ints .i64 14 exR).toList.all (·.oneCell') = true := rfl
  have x14 : (ints .i64 14 exR).extract 0 (0 + 14) = ints .i64 14 exR := rfl
  have z14 : (ints .i64 14 exR).size = 14 := rfl
  have z0 : (Value.agg (ints .i64 14 fun _ => 0)).cells.size = 14 := rfl
  have g0 : (ints .i64 14 exR)[0]? = some (.int .i64 1) := rfl
  have HM := Mm.le_refl M
  have zS := zSi
  have zC := zConf
  go_enter Tryz.func11, Tryz.ntmps11
  go_upto_region 1 with (first
    | ((with_reducible show wpList _ _ _ ({ dst := _, op := Op.alloc 26, type := _, pos := _, after := _, guard := _ } :: _) _ _); go_loud (refine wpList_alloc_has h rfl 26 rfl _ zS ?_); clear h; intro b4 w h hn4; try simp only [Act.put, List.setIfInBounds_toArray, List.set_cons_zero, List.set_cons_succ]))
  have hb4 := Mm.upd_same M b4 (.cells (siR 0 0 0 0 0 false false) 26)
  have hle1 := Mm.le_upd' hn4 (.cells (siR 0 0 0 0 0 false false) 26)
  replace h : Has σ (M.upd b4 (.cells (siR 0 0 0 0 0 false false) 26)) w := h
  generalize M.upd b4 (.cells (siR 0 0 0 0 0 false false) 26) = M1 at h hb4 hle1
  go_upto_region 2 with (first
    | (go_at_call 24; go_loud (refine (PL.out _ _ hle1 h).mono ?_); clear h; rintro _ w ⟨rfl, h⟩)
    | (go_at_call 25; go_loud (refine (CF.out _ _ hle1 h).mono ?_); clear h; rintro _ w ⟨rfl, h⟩)
    | ((with_reducible show wpList _ _ _ ({ dst := _, op := Op.alloc 29, type := _, pos := _, after := _, guard := _ } :: _) _ _); go_loud (refine wpList_alloc_has h rfl 29 rfl _ zC ?_); clear h; intro b6 w h hn6; try simp only [Act.put, List.setIfInBounds_toArray, List.set_cons_zero, List.set_cons_succ])
    | ((with_reducible show wpList _ _ _ ({ dst := _, op := Op.store 29 _ _, type := _, pos := _, after := _, guard := _ } :: _) _ _; have hx3 := Mm.upd_same M1 b6 (.cells (Value.agg (ints .i64 14 fun _ => 0)).cells 29); go_loud (refine wpList_storeAll_has (cells := ints .i64 14 exR) h rfl 29 _ _ rfl rfl rfl hx3 rfl z0 z14 (by kernel_rfl) o14 ?_); clear h; intro w h)))
  replace h : Has σ ((M1.upd b6 (.cells (Value.agg (ints .i64 14 fun _ => 0)).cells 29)).upd b6 (.cells (ints .i64 14 exR) 29)) w := h
  rw [Mm.upd_upd] at h
  have hb6 := Mm.upd_same M1 b6 (.cells (ints .i64 14 exR) 29)
  have hle2 := Mm.le_upd' hn6 (.cells (ints .i64 14 exR) 29)
  generalize M1.upd b6 (.cells (ints .i64 14 exR) 29) = M2 at h hb6 hle2
  have hleM2 := Mm.le_trans hle1 hle2
  go_upto_region 4 with (first
    | (with_reducible show wpList _ _ _ ({ dst := _, op := Op.load 3 _, type := _, pos := _, after := _, guard := _ } :: _) _ _; go_loud (refine wpList_load1_has h rfl 3 _ rfl rfl hb6 g0 Tryz.underlying3 rfl ?_)))
  refine wp_region_held_drew (S := Has σ (M2)) (by kernel_rfl) (h.drew) (fun hHeld => ?_)
  replace h := h.drew
  refine wpAnyH_take (i := 0) (v := ?_) rfl (by kernel_rfl) (by kernel_rfl) (by kernel_rfl) (fun _ _ _ h => h) (Or.inl ⟨by rfl, ?_⟩) hHeld ?_
  rotate_left
  · (intro wz _; go_simp; try with_reducible rfl)
  try simp only [List.getElem_toArray, List.getElem_cons_succ, List.getElem_cons_zero, Act.put, List.setIfInBounds_toArray, List.set_cons_zero, List.set_cons_succ]
  refine wpAnyH_take (i := 1) (v := _) rfl (by kernel_rfl) (by kernel_rfl) (by kernel_rfl) (fun _ _ _ h => h) (yields_agg rfl 29 _ rfl rfl hb6 x14 z14 Tryz.underlying29 rfl (by kernel_rfl)) hHeld ?_
  try simp only [List.getElem_toArray, List.getElem_cons_succ, List.getElem_cons_zero, Act.put, List.setIfInBounds_toArray, List.set_cons_zero, List.set_cons_succ]
  refine wpAnyH_take (i := 2) (v := ?_) rfl (by kernel_rfl) (by kernel_rfl) (by kernel_rfl) (fun _ _ _ h => h) (Or.inl ⟨by rfl, ?_⟩) hHeld ?_
  rotate_left
  · (intro wz _; go_simp; try with_reducible rfl)
  try simp only [List.getElem_toArray, List.getElem_cons_succ, List.getElem_cons_zero, Act.put, List.setIfInBounds_toArray, List.set_cons_zero, List.set_cons_succ]
  refine wpAnyH_take (i := 3) (v := ?_) rfl (by kernel_rfl) (by kernel_rfl) (by kernel_rfl) (fun _ _ _ h => h) (Or.inl ⟨by rfl, ?_⟩) hHeld ?_
  rotate_left
  · (intro wz _; go_simp; try with_reducible rfl)
  try simp only [List.getElem_toArray, List.getElem_cons_succ, List.getElem_cons_zero, Act.put, List.setIfInBounds_toArray, List.set_cons_zero, List.set_cons_succ]
  refine wpAnyH_take (i := 6) (v := .agg (siR 0 0 0 0 0 true true)) rfl (by kernel_rfl) (by kernel_rfl) (by kernel_rfl) (fun _ _ _ h => h) (Or.inl ⟨by rfl, fun wz _ => exec_build2 26 _ _ _ _ rfl (.bool true) (.bool true) rfl rfl _ (by kernel_rfl) wz⟩) hHeld ?_
  try simp only [List.getElem_toArray, List.getElem_cons_succ, List.getElem_cons_zero, Act.put, List.setIfInBounds_toArray, List.set_cons_zero, List.set_cons_succ]
  refine wpAnyH_ready (rs := [4]) (by kernel_rfl) (by simp) ?_
  refine AllReadyH.cons rfl (fun K hK => ?_) AllReadyH.nil
  (go_simp; go_wp2_with (go_at_call 26; refine (ME.out _ _ hleM2 h).mono ?_; clear h; rintro _ w ⟨rfl, h⟩))
  refine hK.out _ _ (h) (fun hHeld => ?_)
  clear hK K
  try simp only [Act.put, List.setIfInBounds_toArray, List.set_cons_zero, List.set_cons_succ]
  refine wpAnyH_ready (rs := [5]) (by kernel_rfl) (by simp) ?_
  refine AllReadyH.cons rfl (fun K hK => ?_) AllReadyH.nil
  (go_simp; go_wp2_with (go_at_call 27; refine (WO.out _ _ hleM2 h).mono ?_; clear h hHeld; rintro _ w ⟨bw, MW, rfl, h, hleW, hnw, hbw⟩))
  refine hK.out _ _ (h.le hleW) (fun hHeld => ?_)
  clear hK K
  try simp only [Act.put, List.setIfInBounds_toArray, List.set_cons_zero, List.set_cons_succ]
  refine wpAnyH_take (i := 7) (v := .agg (lkR p bw 0 0 0 0 0 true true false)) rfl (by kernel_rfl) (by kernel_rfl) (by kernel_rfl) (fun _ _ _ h => h) (Or.inl ⟨by rfl, fun wz _ => exec_build 83 _ rfl _ (by simp only [List.map_toArray, List.map_cons, List.map_nil]; kernel_rfl) wz⟩) hHeld ?_
  try simp only [List.getElem_toArray, List.getElem_cons_succ, List.getElem_cons_zero, Act.put, List.setIfInBounds_toArray, List.set_cons_zero, List.set_cons_succ]
  refine wpAnyH_ready (rs := [8]) (by kernel_rfl) (by simp) ?_
  refine AllReadyH.cons rfl (fun K hK => ?_) AllReadyH.nil
  (go_simp; go_wp2)
  refine hK.out _ _ ((h.quietAlloc _).le hleW) (fun hHeld => ?_)
  clear hK K
  try simp only [Act.put, List.setIfInBounds_toArray, List.set_cons_zero, List.set_cons_succ]
  refine wpAnyH_take (i := 9) (v := ?_) rfl (by kernel_rfl) (by kernel_rfl) (by kernel_rfl) (fun _ _ _ h => h) (Or.inl ⟨by rfl, ?_⟩) hHeld ?_
  rotate_left
  · (intro wz _; go_simp; try with_reducible rfl)
  try simp only [List.getElem_toArray, List.getElem_cons_succ, List.getElem_cons_zero, Act.put, List.setIfInBounds_toArray, List.set_cons_zero, List.set_cons_succ]
  refine wpAnyH_done (by kernel_rfl) ?_ _
  clear hHeld
  obtain ⟨M3, hbx, hle3, hl3, hnl⟩ := h.box (.cells (lkR p bw 0 0 0 0 0 true true false) 83)
  generalize w.alloc _ = wx at hbx ⊢
  generalize w.heap.size = bl at hl3 hnl ⊢
  clear h
  have h := hbx
  clear hbx
  obtain ⟨w, rfl⟩ : ∃ x : World, x = wx := ⟨_, rfl⟩
  obtain ⟨labW, hSW⟩ := SE.out MW bw (Mm.le_trans hleM2 hleW) hbw
  obtain ⟨lab3, hS3⟩ := hSW.le hle3
  have hb44 := hle3 _ _ (hleW _ _ (hle2 _ _ hb4))
  clear PL CF ME WO SE
  go_upto_region 11 with (first | (go_at_call 28; refine (lkSessions_eq h hS3 hl3).mono ?_; clear h; rintro _ w ⟨rfl, h⟩) | (go_at_call 29; refine (lkCache_eq h hSW hle3 hl3).mono ?_; clear h; rintro _ w ⟨rfl, h⟩) | (go_at_call 30; refine (lkQueue_eq h hS3 hl3).mono ?_; clear h; rintro _ w ⟨rfl, h⟩) | (go_at_call 31; refine (lkFree_eq h hSW hle3 hnl hl3).mono ?_; clear h; rintro _ w ⟨rfl, h⟩) | (go_at_call 32; refine (lkSlots_eq h hSW (Mm.le_upd hle3 hnl _) (Mm.upd_same _ _ _)).mono ?_; clear h; rintro _ w ⟨rfl, h⟩) | (go_at_call 33; refine (lkLimbo_eq h hSW (Mm.le_upd (Mm.le_upd hle3 hnl _) hnl _) (Mm.upd_same _ _ _)).mono ?_; clear h; rintro _ w ⟨rfl, h⟩))
  replace h : Has σ ((M3.upd bl (.cells (lkR p bw 4 0 0 0 0 true true false) 83)).upd bl (.cells (lkR p bw 4 0 0 1 0 true true false) 83)) w := h
  rw [Mm.upd_upd] at h
  have n4l : b4 ≠ bl := Mm.ne_of hnl (hleW _ _ (hle2 _ _ hb4))
  have hl5 := Mm.upd_same M3 bl (.cells (lkR p bw 4 0 0 1 0 true true false) 83)
  have hb45 := (Mm.upd_ne (o := .cells (lkR p bw 4 0 0 1 0 true true false) 83) n4l).trans hb44
  have hle5 : M.le (M3.upd bl (.cells (lkR p bw 4 0 0 1 0 true true false) 83)) := Mm.le_upd (Mm.le_trans hleM2 (Mm.le_trans hleW hle3)) (Mm.none_of (Mm.le_trans hleM2 hleW) hnl) _
  generalize M3.upd bl (.cells (lkR p bw 4 0 0 1 0 true true false) 83) = M5 at h hl5 hb45 hle5
  have e28 : (lkR p bw 4 0 0 1 0 true true false)[28]? = some (.bool false) := rfl
  have x17 : (lkR p bw 4 0 0 1 0 true true false).extract 17 (17 + 11) = siR 4 0 0 1 0 true true := rfl
  have z11 : (siR 4 0 0 1 0 true true).size = 11 := rfl
  have y11 : (siR 0 0 0 0 0 false false).size = 11 := rfl
  have o11 : (siR 4 0 0 1 0 true true).toList.all (·.oneCell') = true := rfl
  clear hS3 hSW hb44 hl3 hnl hle3 hbw hnw hleW hb6 hle2 hb4 hn6 hleM2 hle1
  go_wp2_with (first
    | (with_reducible show wpList _ _ _ ({ dst := _, op := Op.load 4 _, type := _, pos := _, after := _, guard := _ } :: _) _ _; go_loud (refine wpList_load1_has h rfl 4 _ rfl rfl hl5 e28 Tryz.underlying4 rfl ?_))
    | ((with_reducible show wpList _ _ _ ({ dst := _, op := Op.load 26 _, type := _, pos := _, after := _, guard := _ } :: _) _ _); go_loud (refine wpList_agg_has h rfl 26 _ rfl rfl hl5 x17 z11 Tryz.underlying26 rfl (by kernel_rfl) ?_); try simp only [Act.put, List.setIfInBounds_toArray, List.set_cons_zero, List.set_cons_succ])
    | ((with_reducible show wpList _ _ _ ({ dst := _, op := Op.store 26 _ _, type := _, pos := _, after := _, guard := _ } :: _) _ _; go_loud (refine wpList_storeAll_has (cells := siR 4 0 0 1 0 true true) h rfl 26 _ _ rfl rfl rfl hb45 rfl y11 z11 (by kernel_rfl) o11 ?_); clear h; intro w h)))
  exact bodyPost_ret (results_ct rfl (CellRes.of h (Mm.upd_same _ _ _) rfl Tryz.underlying26 rfl (by kernel_rfl))) rfl ⟨rfl, h.le (Mm.le_upd hle5 hn4 _)⟩
end
section
open Go.RowKit
set_option linter.unusedVariables false
set_option linter.unusedSimpArgs false
set_option linter.unnecessarySimpa false
set_option maxHeartbeats 1000000 in
set_option maxRecDepth 20000 in
theorem restLives_eq {σ w : World} {M : Mm} (h : Has σ M w) : Calls Tryz.prog 4 #[] w fun r w' => r = .returned (.bool true) ∧ Has σ M w' := by
  have NW := Lib.hid (fun (w : World) (h : Has σ M w) => mNew_yes h exR exR_may exR_nums)
  have LO := Lib.hid (fun (M' : Mm) (w : World) (p : Nat) (lab : Nat → Nat) (s : MachS) (h : Has σ M' w) (hM : Mach M' lab p s) (hN : s.New exR 1 1 5) => restLook_eq h hM hN)
  have zS := zSi
  have s4 : (siR 4 0 0 1 0 true true)[4]? = some (.int .i64 4) := rfl
  have s7 : (siR 4 0 0 1 0 true true)[7]? = some (.int .i64 1) := rfl
  have s9 : (siR 4 0 0 1 0 true true)[9]? = some (.bool true) := rfl
  have s10 : (siR 4 0 0 1 0 true true)[10]? = some (.bool true) := rfl
  have z11 : (siR 4 0 0 1 0 true true).size = 11 := rfl
  have y11 : (Value.agg (siR 0 0 0 0 0 false false)).cells.size = 11 := rfl
  have o11 : (siR 4 0 0 1 0 true true).toList.all (·.oneCell') = true := rfl
  unfold confV at NW
  go_enter Tryz.func4, Tryz.ntmps4
  go_upto_region 1 with (fail)
  go_upto_region 2 with (first
    | ((with_reducible show wpList _ _ _ ({ dst := _, op := Op.build 29 _, type := _, pos := _, after := _, guard := _ } :: _) _ _); (refine wpList_build_has rfl 29 _ rfl (ints .i64 14 exR) (by simp only [List.map_toArray, List.map_cons, List.map_nil]; kernel_rfl) ?_; try simp only [Act.put, List.setIfInBounds_toArray, List.set_cons_zero, List.set_cons_succ]))
    | ((go_at_call 10; refine (NW.out _ h).mono ?_; clear h; rintro _ w ⟨p, M1, lab, s, rfl, h, hB, hMa, hNe⟩)))
  go_upto_region 3 with (first
    | ((go_at_call 11; refine (LO.out _ _ _ _ _ h hMa hNe).mono ?_; clear h; rintro _ w ⟨rfl, h⟩))
    | ((with_reducible show wpList _ _ _ ({ dst := _, op := Op.alloc 26, type := _, pos := _, after := _, guard := _ } :: _) _ _); go_loud (refine wpList_alloc_has h rfl 26 rfl _ zS ?_); clear h; intro b3 w h hn3; try simp only [Act.put, List.setIfInBounds_toArray, List.set_cons_zero, List.set_cons_succ])
    | ((with_reducible show wpList _ _ _ ({ dst := _, op := Op.store 26 _ _, type := _, pos := _, after := _, guard := _ } :: _) _ _; have hx3 := Mm.upd_same M1 b3 (.cells (Value.agg (siR 0 0 0 0 0 false false)).cells 26); go_loud (refine wpList_storeAll_has (cells := siR 4 0 0 1 0 true true) h rfl 26 _ _ rfl rfl rfl hx3 rfl y11 z11 (by kernel_rfl) o11 ?_); clear h; intro w h)))
  replace h : Has σ ((M1.upd b3 (.cells (Value.agg (siR 0 0 0 0 0 false false)).cells 26)).upd b3 (.cells (siR 4 0 0 1 0 true true) 26)) w := h
  rw [Mm.upd_upd] at h
  have hb3 := Mm.upd_same M1 b3 (.cells (siR 4 0 0 1 0 true true) 26)
  have hle := Mm.le_trans hB.le (Mm.le_upd' hn3 (.cells (siR 4 0 0 1 0 true true) 26))
  generalize M1.upd b3 (.cells (siR 4 0 0 1 0 true true) 26) = M2 at h hb3 hle
  go_wp2_with (first
    | (with_reducible show wpList _ _ _ ({ dst := _, op := Op.load 3 _, type := _, pos := _, after := _, guard := _ } :: _) _ _; go_loud (refine wpList_load1_has h rfl 3 _ rfl rfl hb3 s4 Tryz.underlying3 rfl ?_))
    | (with_reducible show wpList _ _ _ ({ dst := _, op := Op.load 3 _, type := _, pos := _, after := _, guard := _ } :: _) _ _; go_loud (refine wpList_load1_has h rfl 3 _ rfl rfl hb3 s7 Tryz.underlying3 rfl ?_))
    | (with_reducible show wpList _ _ _ ({ dst := _, op := Op.load 4 _, type := _, pos := _, after := _, guard := _ } :: _) _ _; go_loud (refine wpList_load1_has h rfl 4 _ rfl rfl hb3 s9 Tryz.underlying4 rfl ?_))
    | (with_reducible show wpList _ _ _ ({ dst := _, op := Op.load 4 _, type := _, pos := _, after := _, guard := _ } :: _) _ _; go_loud (refine wpList_load1_has h rfl 4 _ rfl rfl hb3 s10 Tryz.underlying4 rfl ?_)))
  trace_state
  go_ret
  exact ⟨rfl, h.le hle⟩
end
section
open Go.RowKit
set_option linter.unusedVariables false
set_option linter.unusedSimpArgs false
set_option linter.unnecessarySimpa false
theorem zRs : (Tryz.prog.info? 34).bind (·.zero) = some (.agg (rsR (.slice none 0 0) (.slice none 0 0) (.slice none 0 0) (.slice none 0 0) 0 0 0 false false)) := by kernel_rfl
set_option maxHeartbeats 1000000 in
set_option maxRecDepth 20000 in
theorem restTo_eq {σ w : World} {M : Mm} (h : Has σ M w) (As Ac Aq Ar : Option Addr) (ns nc nq nr cs cc cq cr : Nat) (fr li re he wo : Int) (ti cl : Bool) : Calls Tryz.prog 7 #[.agg (sgR (.slice As ns cs) (.slice Ac nc cc) (.slice Aq nq cq) (.slice Ar nr cr) fr li re he wo ti cl)] w fun r w' => r = .returned (.agg (rsR (.slice As ns cs) (.slice Ac nc cc) (.slice Aq nq cq) (.slice Ar nr cr) fr li re ti cl)) ∧ Has σ M w' := by
  have zS := zRs
  have e0 : (sgR (.slice As ns cs) (.slice Ac nc cc) (.slice Aq nq cq) (.slice Ar nr cr) fr li re he wo ti cl)[0]? = some (.slice As ns cs) := rfl
  have e1 : (sgR (.slice As ns cs) (.slice Ac nc cc) (.slice Aq nq cq) (.slice Ar nr cr) fr li re he wo ti cl)[1]? = some (.slice Ac nc cc) := rfl
  have e2 : (sgR (.slice As ns cs) (.slice Ac nc cc) (.slice Aq nq cq) (.slice Ar nr cr) fr li re he wo ti cl)[2]? = some (.slice Aq nq cq) := rfl
  have e3 : (sgR (.slice As ns cs) (.slice Ac nc cc) (.slice Aq nq cq) (.slice Ar nr cr) fr li re he wo ti cl)[3]? = some (.slice Ar nr cr) := rfl
  have e4 : (sgR (.slice As ns cs) (.slice Ac nc cc) (.slice Aq nq cq) (.slice Ar nr cr) fr li re he wo ti cl)[4]? = some (.int .i64 fr) := rfl
  have e5 : (sgR (.slice As ns cs) (.slice Ac nc cc) (.slice Aq nq cq) (.slice Ar nr cr) fr li re he wo ti cl)[5]? = some (.int .i64 li) := rfl
  have e6 : (sgR (.slice As ns cs) (.slice Ac nc cc) (.slice Aq nq cq) (.slice Ar nr cr) fr li re he wo ti cl)[6]? = some (.int .i64 re) := rfl
  have e9 : (sgR (.slice As ns cs) (.slice Ac nc cc) (.slice Aq nq cq) (.slice Ar nr cr) fr li re he wo ti cl)[9]? = some (.bool ti) := rfl
  have e10 : (sgR (.slice As ns cs) (.slice Ac nc cc) (.slice Aq nq cq) (.slice Ar nr cr) fr li re he wo ti cl)[10]? = some (.bool cl) := rfl
  have z9 : (rsR (.slice As ns cs) (.slice Ac nc cc) (.slice Aq nq cq) (.slice Ar nr cr) fr li re ti cl).size = 9 := rfl
  have y9 : (Value.agg (rsR (.slice none 0 0) (.slice none 0 0) (.slice none 0 0) (.slice none 0 0) 0 0 0 false false)).cells.size = 9 := rfl
  have o9 : (rsR (.slice As ns cs) (.slice Ac nc cc) (.slice Aq nq cq) (.slice Ar nr cr) fr li re ti cl).toList.all (·.oneCell') = true := rfl
  have RSE : Hid (rsR (.slice As ns cs) (.slice Ac nc cc) (.slice Aq nq cq) (.slice Ar nr cr) fr li re ti cl = #[.slice As ns cs, .slice Ac nc cc, .slice Aq nq cq, .slice Ar nr cr, .int .i64 fr, .int .i64 li, .int .i64 re, .bool ti, .bool cl]) := rfl
  generalize sgR (.slice As ns cs) (.slice Ac nc cc) (.slice Aq nq cq) (.slice Ar nr cr) fr li re he wo ti cl = row at *
  generalize hrs : rsR (.slice As ns cs) (.slice Ac nc cc) (.slice Aq nq cq) (.slice Ar nr cr) fr li re ti cl = rrow at *
  generalize hz : rsR (.slice none 0 0) (.slice none 0 0) (.slice none 0 0) (.slice none 0 0) 0 0 0 false false = zrow at *
  clear hrs hz
  go_enter Tryz.func7, Tryz.ntmps7
  go_upto_region 1 with (first
    | ((with_reducible show wpList _ _ _ ({ dst := _, op := Op.box 26 _, type := _, pos := _, after := _, guard := _ } :: _) _ _); go_loud (refine wpList_box_has h rfl 26 _ rfl ?_); clear h; intro b1 w h hn1; try simp only [Act.put, List.setIfInBounds_toArray, List.set_cons_zero, List.set_cons_succ])
    | ((with_reducible show wpList _ _ _ ({ dst := _, op := Op.alloc 34, type := _, pos := _, after := _, guard := _ } :: _) _ _); go_loud (refine wpList_alloc_has h rfl 34 rfl _ zS ?_); clear h; intro b2 w h hn2; try simp only [Act.put, List.setIfInBounds_toArray, List.set_cons_zero, List.set_cons_succ]))
  have hle1 := Mm.le_upd' hn1 (.cells row 26)
  have hb1 := Mm.upd_same M b1 (.cells row 26)
  replace hn2 : (M.upd b1 (.cells row 26)) b2 = none := hn2
  replace h : Has σ ((M.upd b1 (.cells row 26)).upd b2 (.cells zrow 34)) w := h
  generalize M.upd b1 (.cells row 26) = M1 at *
  have hle2 := Mm.le_upd' hn2 (.cells zrow 34)
  have hb12 := hle2 _ _ hb1
  have hb2 := Mm.upd_same M1 b2 (.cells zrow 34)
  generalize M1.upd b2 (.cells zrow 34) = M2 at h hle2 hb12 hb2
  have y9' : zrow.size = 9 := y9
  go_wp2_with (first
    | (with_reducible show wpList _ _ _ ({ dst := _, op := Op.load 22 _, type := _, pos := _, after := _, guard := _ } :: _) _ _; go_loud (refine wpList_load1_has h rfl 22 _ rfl rfl hb12 e0 Tryz.underlying22 rfl ?_))
    | (with_reducible show wpList _ _ _ ({ dst := _, op := Op.load 22 _, type := _, pos := _, after := _, guard := _ } :: _) _ _; go_loud (refine wpList_load1_has h rfl 22 _ rfl rfl hb12 e1 Tryz.underlying22 rfl ?_))
    | (with_reducible show wpList _ _ _ ({ dst := _, op := Op.load 23 _, type := _, pos := _, after := _, guard := _ } :: _) _ _; go_loud (refine wpList_load1_has h rfl 23 _ rfl rfl hb12 e2 Tryz.underlying23 rfl ?_))
    | (with_reducible show wpList _ _ _ ({ dst := _, op := Op.load 24 _, type := _, pos := _, after := _, guard := _ } :: _) _ _; go_loud (refine wpList_load1_has h rfl 24 _ rfl rfl hb12 e3 Tryz.underlying24 rfl ?_))
    | (with_reducible show wpList _ _ _ ({ dst := _, op := Op.load 3 _, type := _, pos := _, after := _, guard := _ } :: _) _ _; go_loud (refine wpList_load1_has h rfl 3 _ rfl rfl hb12 e4 Tryz.underlying3 rfl ?_))
    | (with_reducible show wpList _ _ _ ({ dst := _, op := Op.load 3 _, type := _, pos := _, after := _, guard := _ } :: _) _ _; go_loud (refine wpList_load1_has h rfl 3 _ rfl rfl hb12 e5 Tryz.underlying3 rfl ?_))
    | (with_reducible show wpList _ _ _ ({ dst := _, op := Op.load 3 _, type := _, pos := _, after := _, guard := _ } :: _) _ _; go_loud (refine wpList_load1_has h rfl 3 _ rfl rfl hb12 e6 Tryz.underlying3 rfl ?_))
    | (with_reducible show wpList _ _ _ ({ dst := _, op := Op.load 4 _, type := _, pos := _, after := _, guard := _ } :: _) _ _; go_loud (refine wpList_load1_has h rfl 4 _ rfl rfl hb12 e9 Tryz.underlying4 rfl ?_))
    | (with_reducible show wpList _ _ _ ({ dst := _, op := Op.load 4 _, type := _, pos := _, after := _, guard := _ } :: _) _ _; go_loud (refine wpList_load1_has h rfl 4 _ rfl rfl hb12 e10 Tryz.underlying4 rfl ?_))
    | ((with_reducible show wpList _ _ _ ({ dst := _, op := Op.build 34 _, type := _, pos := _, after := _, guard := _ } :: _) _ _; go_loud (refine wpList_build_has rfl 34 _ rfl rrow (by simp only [List.map_toArray, List.map_cons, List.map_nil]; rw [RSE.out]; kernel_rfl) ?_); try simp only [Act.put, List.setIfInBounds_toArray, List.set_cons_zero, List.set_cons_succ]))
    | ((with_reducible show wpList _ _ _ ({ dst := _, op := Op.store 34 _ _, type := _, pos := _, after := _, guard := _ } :: _) _ _; go_loud (refine wpList_storeAll_has (cells := rrow) h rfl 34 _ _ rfl rfl rfl hb2 rfl y9' z9 (by kernel_rfl) o9 ?_); clear h; intro w h)))
  exact bodyPost_ret (results_cell_row rfl _ _ _ _ _ _ _ rfl (h.at_ b2 _ (Mm.upd_same _ _ _)) Tryz.underlying34 rfl (by rw [z9]; kernel_rfl)) rfl ⟨rfl, h.le (Mm.le_upd (Mm.le_trans hle1 hle2) (Mm.none_of hle1 hn2) _)⟩
end
section
open Go.RowKit
set_option linter.unusedVariables false
set_option linter.unusedSimpArgs false
set_option linter.unnecessarySimpa false
theorem tells_fix {P : Program} {σ w : World} {M : Mm} {f : FuncId} {args : Array Value} {p : Prop} {B : Bool} (hB : B = true ↔ p) (h : Calls P f args w fun r w' => Tells σ M p r w') : Calls P f args w fun r w' => r = .returned (.bool B) ∧ Has σ M w' :=
  h.mono fun r w' ⟨b, hr, hb, hh⟩ => ⟨by rw [hr, Bool.eq_iff_iff.2 (hb.trans hB.symm)], hh⟩
set_option maxHeartbeats 4000000 in
set_option maxRecDepth 20000 in
theorem restMeantLaw_eq {σ w : World} {M : Mm} {As Ac Aq Ar : Option Addr} {ns nc nq nr cs cc cq cr : Nat} {Ls Lc : List RowR} {R : List Nat} (h : Has σ M w) (fr li re he wo : Int) (ti cl : Bool) (hs : Rd M 3 (.slice As ns cs) ns (Ls.flatMap encRo)) (hc : Rd M 3 (.slice Ac nc cc) nc (Lc.flatMap encRo)) (hr : Rd M 1 (.slice Ar nr cr) nr (u64n R)) (ls : Ls.length = ns) (lc : Lc.length = nc) (lr : R.length = nr) (ks : KeyOk Ls) (kc : KeyOk Lc) (kr : ∀ x ∈ R, x < 18446744073709551616) (c : Nat → Int) (lv : Int) : Calls Tryz.prog 3 #[.agg (sgR (.slice As ns cs) (.slice Ac nc cc) (.slice Aq nq cq) (.slice Ar nr cr) fr li re he wo ti cl), .agg (ints .i64 14 c), .int .i64 lv] w fun r w' => r = .returned (.bool true) ∧ Has σ M w' := by
  have LV := Lib.hid (fun (M' : Mm) (w : World) (h : Has σ M' w) => restLives_eq h)
  have e0 : (sgR (.slice As ns cs) (.slice Ac nc cc) (.slice Aq nq cq) (.slice Ar nr cr) fr li re he wo ti cl)[0]? = some (.slice As ns cs) := rfl
  have e1 : (sgR (.slice As ns cs) (.slice Ac nc cc) (.slice Aq nq cq) (.slice Ar nr cr) fr li re he wo ti cl)[1]? = some (.slice Ac nc cc) := rfl
  have e2 : (sgR (.slice As ns cs) (.slice Ac nc cc) (.slice Aq nq cq) (.slice Ar nr cr) fr li re he wo ti cl)[2]? = some (.slice Aq nq cq) := rfl
  have e3 : (sgR (.slice As ns cs) (.slice Ac nc cc) (.slice Aq nq cq) (.slice Ar nr cr) fr li re he wo ti cl)[3]? = some (.slice Ar nr cr) := rfl
  have x11 : (sgR (.slice As ns cs) (.slice Ac nc cc) (.slice Aq nq cq) (.slice Ar nr cr) fr li re he wo ti cl).extract 0 (0 + 11) = sgR (.slice As ns cs) (.slice Ac nc cc) (.slice Aq nq cq) (.slice Ar nr cr) fr li re he wo ti cl := rfl
  have z11 : (sgR (.slice As ns cs) (.slice Ac nc cc) (.slice Aq nq cq) (.slice Ar nr cr) fr li re he wo ti cl).size = 11 := rfl
  have x14 : (ints .i64 14 c).extract 0 (0 + 14) = ints .i64 14 c := rfl
  have z14 : (ints .i64 14 c).size = 14 := rfl
  obtain ⟨B, hB⟩ : ∃ B : Bool, (B = true ↔ MeantP Ls Lc R (ns + nc + nq + nr + 1) lv (c 10)) := by
    by_cases hp : MeantP Ls Lc R (ns + nc + nq + nr + 1) lv (c 10)
    · exact ⟨true, by simp [hp]⟩
    · exact ⟨false, by simp [hp]⟩
  have TO := Lib.hid (fun (M' : Mm) (w : World) (h : Has σ M' w) => restTo_eq h As Ac Aq Ar ns nc nq nr cs cc cq cr fr li re he wo ti cl)
  have ND := Lib.hid (fun (M' : Mm) (w : World) (a0 : ns ≤ 100) (a1 : nc ≤ 100) (a2 : nq ≤ 100) (a3 : nr ≤ 100) (h : Has σ M' w) => needed_eq h (by omega) (by omega) (by omega) (by omega) (sgR (.slice As ns cs) (.slice Ac nc cc) (.slice Aq nq cq) (.slice Ar nr cr) fr li re he wo ti cl) e0 e1 e2 e3)
  have RN := Lib.hid (fun (M' : Mm) (w : World) (a0 : ns ≤ 100) (a1 : nc ≤ 100) (a2 : nq ≤ 100) (a3 : nr ≤ 100) (h : Has σ M' w) => refNeeded_eq h (by omega) (by omega) (by omega) (by omega) (rsR (.slice As ns cs) (.slice Ac nc cc) (.slice Aq nq cq) (.slice Ar nr cr) fr li re ti cl) rfl rfl rfl rfl)
  have MT := Lib.hid (fun (M' : Mm) (w : World) (a0 : ns ≤ 100) (a1 : nc ≤ 100) (a2 : nq ≤ 100) (a3 : nr ≤ 100) (hle : M.le M') (h : Has σ M' w) => tells_fix hB (restMeant_eq h (sgR (.slice As ns cs) (.slice Ac nc cc) (.slice Aq nq cq) (.slice Ar nr cr) fr li re he wo ti cl) e0 e1 e2 e3 (hs.le hle) (hc.le hle) (hr.le hle) ls lc lr ks kc kr (by omega) (by omega) (by omega) (by omega) c lv z11))
  have RM := Lib.hid (fun (M' : Mm) (w : World) (a0 : ns ≤ 100) (a1 : nc ≤ 100) (a2 : nq ≤ 100) (a3 : nr ≤ 100) (hle : M.le M') (h : Has σ M' w) => tells_fix hB (refMeant_eq h (rsR (.slice As ns cs) (.slice Ac nc cc) (.slice Aq nq cq) (.slice Ar nr cr) fr li re ti cl) rfl rfl rfl rfl (hs.le hle) (hc.le hle) (hr.le hle) ls lc lr ks kc kr (by omega) (by omega) (by omega) (by omega) c lv rfl))
  clear hB hs hc hr ls lc lr ks kc kr
  generalize rsR (.slice As ns cs) (.slice Ac nc cc) (.slice Aq nq cq) (.slice Ar nr cr) fr li re ti cl = rrow at *
  generalize sgR (.slice As ns cs) (.slice Ac nc cc) (.slice Aq nq cq) (.slice Ar nr cr) fr li re he wo ti cl = row at *
  generalize ints .i64 14 c = crow at *
  by_cases a0 : ns ≤ 100
  · have d0 : decide ((100 : Int) < (ns : Int)) = false := by simp; omega
    have d0' : decide (100 < ns) = false := by simp; omega
    by_cases a1 : nc ≤ 100
    · have d1 : decide ((100 : Int) < (nc : Int)) = false := by simp; omega
      have d1' : decide (100 < nc) = false := by simp; omega
      by_cases a2 : nq ≤ 100
      · have d2 : decide ((100 : Int) < (nq : Int)) = false := by simp; omega
        have d2' : decide (100 < nq) = false := by simp; omega
        by_cases a3 : nr ≤ 100
        · have d3 : decide ((100 : Int) < (nr : Int)) = false := by simp; omega
          have d3' : decide (100 < nr) = false := by simp; omega
          go_enter Tryz.func3, Tryz.ntmps3
          go_upto_region 1 with (first
            | ((with_reducible show wpList _ _ _ ({ dst := _, op := Op.box 26 _, type := _, pos := _, after := _, guard := _ } :: _) _ _); go_loud (refine wpList_box_has h rfl 26 _ rfl ?_); clear h; intro b3 w h hn3; try simp only [Act.put, List.setIfInBounds_toArray, List.set_cons_zero, List.set_cons_succ])
            | ((with_reducible show wpList _ _ _ ({ dst := _, op := Op.box 29 _, type := _, pos := _, after := _, guard := _ } :: _) _ _); go_loud (refine wpList_box_has h rfl 29 _ rfl ?_); clear h; intro b4 w h hn4; try simp only [Act.put, List.setIfInBounds_toArray, List.set_cons_zero, List.set_cons_succ]))
          have hle1 := Mm.le_upd' hn3 (.cells row 26)
          have hb3 := Mm.upd_same M b3 (.cells row 26)
          replace hn4 : (M.upd b3 (.cells row 26)) b4 = none := hn4
          replace h : Has σ ((M.upd b3 (.cells row 26)).upd b4 (.cells crow 29)) w := h
          generalize M.upd b3 (.cells row 26) = M1 at *
          have hle2 := Mm.le_upd' hn4 (.cells crow 29)
          have hb32 := hle2 _ _ hb3
          have hb4 := Mm.upd_same M1 b4 (.cells crow 29)
          generalize M1.upd b4 (.cells crow 29) = M2 at h hle2 hb32 hb4
          have hle := Mm.le_trans hle1 hle2
          have TO2 := Lib.hid (fun (w : World) (h : Has σ M2 w) => TO.out M2 w h)
          have ND2 := Lib.hid (fun (w : World) (h : Has σ M2 w) => ND.out M2 w a0 a1 a2 a3 h)
          have RN2 := Lib.hid (fun (w : World) (h : Has σ M2 w) => RN.out M2 w a0 a1 a2 a3 h)
          have MT2 := Lib.hid (fun (w : World) (h : Has σ M2 w) => MT.out M2 w a0 a1 a2 a3 hle h)
          have RM2 := Lib.hid (fun (w : World) (h : Has σ M2 w) => RM.out M2 w a0 a1 a2 a3 hle h)
          have LV2 := Lib.hid (fun (w : World) (h : Has σ M2 w) => LV.out M2 w h)
          generalize ((ns + nc + nq + nr + 1 : Nat) : Int) = nd at *
          clear a0 a1 a2 a3 TO ND RN MT RM LV
          go_wp2_with (first
            | (with_reducible show wpList _ _ _ ({ dst := _, op := Op.load 22 _, type := _, pos := _, after := _, guard := _ } :: _) _ _; go_loud (refine wpList_load1_has h rfl 22 _ rfl rfl hb32 e0 Tryz.underlying22 rfl ?_))
            | (with_reducible show wpList _ _ _ ({ dst := _, op := Op.load 22 _, type := _, pos := _, after := _, guard := _ } :: _) _ _; go_loud (refine wpList_load1_has h rfl 22 _ rfl rfl hb32 e1 Tryz.underlying22 rfl ?_))
            | (with_reducible show wpList _ _ _ ({ dst := _, op := Op.load 23 _, type := _, pos := _, after := _, guard := _ } :: _) _ _; go_loud (refine wpList_load1_has h rfl 23 _ rfl rfl hb32 e2 Tryz.underlying23 rfl ?_))
            | (with_reducible show wpList _ _ _ ({ dst := _, op := Op.load 24 _, type := _, pos := _, after := _, guard := _ } :: _) _ _; go_loud (refine wpList_load1_has h rfl 24 _ rfl rfl hb32 e3 Tryz.underlying24 rfl ?_)))
          refine wp_region_class (Has σ M2) (by kernel_rfl) (by kernel_rfl) h.drew ?_
          clear h
          repeat (first
            | go_big_quiet_skip
            | (go_big_quiet_want; first
              | (go_loud (refine quiet_agg_has 26 _ rfl rfl hb32 x11 z11 Tryz.underlying26 rfl (by kernel_rfl) ?_); simp only [Act.put, List.setIfInBounds_toArray, List.set_cons_zero, List.set_cons_succ]; go_big_quiet_on)
              | (go_loud (refine quiet_agg_has 29 _ rfl rfl hb4 x14 z14 Tryz.underlying29 rfl (by kernel_rfl) ?_); simp only [Act.put, List.setIfInBounds_toArray, List.set_cons_zero, List.set_cons_succ]; go_big_quiet_on)
              | (go_big_quiet_op; first | go_big_quiet_on | go_big_quiet_call (first | with_reducible exact fun _ => rfl | with_reducible exact TO2.out _ | with_reducible exact ND2.out _ | with_reducible exact RN2.out _ | with_reducible exact MT2.out _ | with_reducible exact RM2.out _ | with_reducible exact LV2.out _))))
          refine wpQuiet_nil ?_
          try clear w
          intro w h
          trace_state
          go_wp2
          go_ret
          exact ⟨rfl, h.le hle⟩
        · have d3 : decide ((100 : Int) < (nr : Int)) = true := by simp; omega
          have d3' : decide (100 < nr) = true := by simp; omega
          clear a0 a1 a2 a3
          go_enter Tryz.func3, Tryz.ntmps3
          go_upto_region 1 with (first
            | ((with_reducible show wpList _ _ _ ({ dst := _, op := Op.box 26 _, type := _, pos := _, after := _, guard := _ } :: _) _ _); go_loud (refine wpList_box_has h rfl 26 _ rfl ?_); clear h; intro b3 w h hn3; try simp only [Act.put, List.setIfInBounds_toArray, List.set_cons_zero, List.set_cons_succ])
            | ((with_reducible show wpList _ _ _ ({ dst := _, op := Op.box 29 _, type := _, pos := _, after := _, guard := _ } :: _) _ _); go_loud (refine wpList_box_has h rfl 29 _ rfl ?_); clear h; intro b4 w h hn4; try simp only [Act.put, List.setIfInBounds_toArray, List.set_cons_zero, List.set_cons_succ]))
          have hle1 := Mm.le_upd' hn3 (.cells row 26)
          have hb3 := Mm.upd_same M b3 (.cells row 26)
          replace hn4 : (M.upd b3 (.cells row 26)) b4 = none := hn4
          replace h : Has σ ((M.upd b3 (.cells row 26)).upd b4 (.cells crow 29)) w := h
          generalize M.upd b3 (.cells row 26) = M1 at *
          have hle2 := Mm.le_upd' hn4 (.cells crow 29)
          have hb32 := hle2 _ _ hb3
          have hb4 := Mm.upd_same M1 b4 (.cells crow 29)
          generalize M1.upd b4 (.cells crow 29) = M2 at h hle2 hb32 hb4
          have hle := Mm.le_trans hle1 hle2
          go_wp2_with (first
            | (with_reducible show wpList _ _ _ ({ dst := _, op := Op.load 22 _, type := _, pos := _, after := _, guard := _ } :: _) _ _; go_loud (refine wpList_load1_has h rfl 22 _ rfl rfl hb32 e0 Tryz.underlying22 rfl ?_))
            | (with_reducible show wpList _ _ _ ({ dst := _, op := Op.load 22 _, type := _, pos := _, after := _, guard := _ } :: _) _ _; go_loud (refine wpList_load1_has h rfl 22 _ rfl rfl hb32 e1 Tryz.underlying22 rfl ?_))
            | (with_reducible show wpList _ _ _ ({ dst := _, op := Op.load 23 _, type := _, pos := _, after := _, guard := _ } :: _) _ _; go_loud (refine wpList_load1_has h rfl 23 _ rfl rfl hb32 e2 Tryz.underlying23 rfl ?_))
            | (with_reducible show wpList _ _ _ ({ dst := _, op := Op.load 24 _, type := _, pos := _, after := _, guard := _ } :: _) _ _; go_loud (refine wpList_load1_has h rfl 24 _ rfl rfl hb32 e3 Tryz.underlying24 rfl ?_))
            | (go_at_call 4; go_loud (refine (LV.out _ _ h).mono ?_); clear h; rintro _ w ⟨rfl, h⟩))
          go_ret
          exact ⟨rfl, h.le hle⟩
      · have d2 : decide ((100 : Int) < (nq : Int)) = true := by simp; omega
        have d2' : decide (100 < nq) = true := by simp; omega
        clear a0 a1 a2
        go_enter Tryz.func3, Tryz.ntmps3
        go_upto_region 1 with (first
          | ((with_reducible show wpList _ _ _ ({ dst := _, op := Op.box 26 _, type := _, pos := _, after := _, guard := _ } :: _) _ _); go_loud (refine wpList_box_has h rfl 26 _ rfl ?_); clear h; intro b3 w h hn3; try simp only [Act.put, List.setIfInBounds_toArray, List.set_cons_zero, List.set_cons_succ])
          | ((with_reducible show wpList _ _ _ ({ dst := _, op := Op.box 29 _, type := _, pos := _, after := _, guard := _ } :: _) _ _); go_loud (refine wpList_box_has h rfl 29 _ rfl ?_); clear h; intro b4 w h hn4; try simp only [Act.put, List.setIfInBounds_toArray, List.set_cons_zero, List.set_cons_succ]))
        have hle1 := Mm.le_upd' hn3 (.cells row 26)
        have hb3 := Mm.upd_same M b3 (.cells row 26)
        replace hn4 : (M.upd b3 (.cells row 26)) b4 = none := hn4
        replace h : Has σ ((M.upd b3 (.cells row 26)).upd b4 (.cells crow 29)) w := h
        generalize M.upd b3 (.cells row 26) = M1 at *
        have hle2 := Mm.le_upd' hn4 (.cells crow 29)
        have hb32 := hle2 _ _ hb3
        have hb4 := Mm.upd_same M1 b4 (.cells crow 29)
        generalize M1.upd b4 (.cells crow 29) = M2 at h hle2 hb32 hb4
        have hle := Mm.le_trans hle1 hle2
        go_wp2_with (first
          | (with_reducible show wpList _ _ _ ({ dst := _, op := Op.load 22 _, type := _, pos := _, after := _, guard := _ } :: _) _ _; go_loud (refine wpList_load1_has h rfl 22 _ rfl rfl hb32 e0 Tryz.underlying22 rfl ?_))
          | (with_reducible show wpList _ _ _ ({ dst := _, op := Op.load 22 _, type := _, pos := _, after := _, guard := _ } :: _) _ _; go_loud (refine wpList_load1_has h rfl 22 _ rfl rfl hb32 e1 Tryz.underlying22 rfl ?_))
          | (with_reducible show wpList _ _ _ ({ dst := _, op := Op.load 23 _, type := _, pos := _, after := _, guard := _ } :: _) _ _; go_loud (refine wpList_load1_has h rfl 23 _ rfl rfl hb32 e2 Tryz.underlying23 rfl ?_))
          | (with_reducible show wpList _ _ _ ({ dst := _, op := Op.load 24 _, type := _, pos := _, after := _, guard := _ } :: _) _ _; go_loud (refine wpList_load1_has h rfl 24 _ rfl rfl hb32 e3 Tryz.underlying24 rfl ?_))
          | (go_at_call 4; go_loud (refine (LV.out _ _ h).mono ?_); clear h; rintro _ w ⟨rfl, h⟩))
        go_ret
        exact ⟨rfl, h.le hle⟩
    · have d1 : decide ((100 : Int) < (nc : Int)) = true := by simp; omega
      have d1' : decide (100 < nc) = true := by simp; omega
      clear a0 a1
      go_enter Tryz.func3, Tryz.ntmps3
      go_upto_region 1 with (first
        | ((with_reducible show wpList _ _ _ ({ dst := _, op := Op.box 26 _, type := _, pos := _, after := _, guard := _ } :: _) _ _); go_loud (refine wpList_box_has h rfl 26 _ rfl ?_); clear h; intro b3 w h hn3; try simp only [Act.put, List.setIfInBounds_toArray, List.set_cons_zero, List.set_cons_succ])
        | ((with_reducible show wpList _ _ _ ({ dst := _, op := Op.box 29 _, type := _, pos := _, after := _, guard := _ } :: _) _ _); go_loud (refine wpList_box_has h rfl 29 _ rfl ?_); clear h; intro b4 w h hn4; try simp only [Act.put, List.setIfInBounds_toArray, List.set_cons_zero, List.set_cons_succ]))
      have hle1 := Mm.le_upd' hn3 (.cells row 26)
      have hb3 := Mm.upd_same M b3 (.cells row 26)
      replace hn4 : (M.upd b3 (.cells row 26)) b4 = none := hn4
      replace h : Has σ ((M.upd b3 (.cells row 26)).upd b4 (.cells crow 29)) w := h
      generalize M.upd b3 (.cells row 26) = M1 at *
      have hle2 := Mm.le_upd' hn4 (.cells crow 29)
      have hb32 := hle2 _ _ hb3
      have hb4 := Mm.upd_same M1 b4 (.cells crow 29)
      generalize M1.upd b4 (.cells crow 29) = M2 at h hle2 hb32 hb4
      have hle := Mm.le_trans hle1 hle2
      go_wp2_with (first
        | (with_reducible show wpList _ _ _ ({ dst := _, op := Op.load 22 _, type := _, pos := _, after := _, guard := _ } :: _) _ _; go_loud (refine wpList_load1_has h rfl 22 _ rfl rfl hb32 e0 Tryz.underlying22 rfl ?_))
        | (with_reducible show wpList _ _ _ ({ dst := _, op := Op.load 22 _, type := _, pos := _, after := _, guard := _ } :: _) _ _; go_loud (refine wpList_load1_has h rfl 22 _ rfl rfl hb32 e1 Tryz.underlying22 rfl ?_))
        | (with_reducible show wpList _ _ _ ({ dst := _, op := Op.load 23 _, type := _, pos := _, after := _, guard := _ } :: _) _ _; go_loud (refine wpList_load1_has h rfl 23 _ rfl rfl hb32 e2 Tryz.underlying23 rfl ?_))
        | (with_reducible show wpList _ _ _ ({ dst := _, op := Op.load 24 _, type := _, pos := _, after := _, guard := _ } :: _) _ _; go_loud (refine wpList_load1_has h rfl 24 _ rfl rfl hb32 e3 Tryz.underlying24 rfl ?_))
        | (go_at_call 4; go_loud (refine (LV.out _ _ h).mono ?_); clear h; rintro _ w ⟨rfl, h⟩))
      go_ret
      exact ⟨rfl, h.le hle⟩
  · have d0 : decide ((100 : Int) < (ns : Int)) = true := by simp; omega
    have d0' : decide (100 < ns) = true := by simp; omega
    clear a0
    go_enter Tryz.func3, Tryz.ntmps3
    go_upto_region 1 with (first
      | ((with_reducible show wpList _ _ _ ({ dst := _, op := Op.box 26 _, type := _, pos := _, after := _, guard := _ } :: _) _ _); go_loud (refine wpList_box_has h rfl 26 _ rfl ?_); clear h; intro b3 w h hn3; try simp only [Act.put, List.setIfInBounds_toArray, List.set_cons_zero, List.set_cons_succ])
      | ((with_reducible show wpList _ _ _ ({ dst := _, op := Op.box 29 _, type := _, pos := _, after := _, guard := _ } :: _) _ _); go_loud (refine wpList_box_has h rfl 29 _ rfl ?_); clear h; intro b4 w h hn4; try simp only [Act.put, List.setIfInBounds_toArray, List.set_cons_zero, List.set_cons_succ]))
    have hle1 := Mm.le_upd' hn3 (.cells row 26)
    have hb3 := Mm.upd_same M b3 (.cells row 26)
    replace hn4 : (M.upd b3 (.cells row 26)) b4 = none := hn4
    replace h : Has σ ((M.upd b3 (.cells row 26)).upd b4 (.cells crow 29)) w := h
    generalize M.upd b3 (.cells row 26) = M1 at *
    have hle2 := Mm.le_upd' hn4 (.cells crow 29)
    have hb32 := hle2 _ _ hb3
    have hb4 := Mm.upd_same M1 b4 (.cells crow 29)
    generalize M1.upd b4 (.cells crow 29) = M2 at h hle2 hb32 hb4
    have hle := Mm.le_trans hle1 hle2
    go_wp2_with (first
      | (with_reducible show wpList _ _ _ ({ dst := _, op := Op.load 22 _, type := _, pos := _, after := _, guard := _ } :: _) _ _; go_loud (refine wpList_load1_has h rfl 22 _ rfl rfl hb32 e0 Tryz.underlying22 rfl ?_))
      | (with_reducible show wpList _ _ _ ({ dst := _, op := Op.load 22 _, type := _, pos := _, after := _, guard := _ } :: _) _ _; go_loud (refine wpList_load1_has h rfl 22 _ rfl rfl hb32 e1 Tryz.underlying22 rfl ?_))
      | (with_reducible show wpList _ _ _ ({ dst := _, op := Op.load 23 _, type := _, pos := _, after := _, guard := _ } :: _) _ _; go_loud (refine wpList_load1_has h rfl 23 _ rfl rfl hb32 e2 Tryz.underlying23 rfl ?_))
      | (with_reducible show wpList _ _ _ ({ dst := _, op := Op.load 24 _, type := _, pos := _, after := _, guard := _ } :: _) _ _; go_loud (refine wpList_load1_has h rfl 24 _ rfl rfl hb32 e3 Tryz.underlying24 rfl ?_))
      | (go_at_call 4; go_loud (refine (LV.out _ _ h).mono ?_); clear h; rintro _ w ⟨rfl, h⟩))
    go_ret
    exact ⟨rfl, h.le hle⟩
end
end Go.Proofs.YtlpkimpdeeiaaaaGreat
