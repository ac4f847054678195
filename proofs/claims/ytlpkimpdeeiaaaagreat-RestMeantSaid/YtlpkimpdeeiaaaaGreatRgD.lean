/- Layer 37 (rest): a looker at the Cells, and at who is pinned. -/
import Derived.Test.YtlpkimpdeeiaaaaGreatRgC
import Derived.Test.YtlpkimpdeeiaaaaGreatLinksB
import Derived.Test.YtlpkimpdeeiaaaaGreatThrC
import Derived.Test.YtlpkimpdeeiaaaaGreatConfLevel
import Derived.Test.YtlpkimpdeeiaaaaGreatLevT
import Derived.Test.YtlpkimpdeeiaaaaGreatCom
import Derived.Test.YtlpkimpdeeiaaaaGreatPut1
namespace Go.Proofs.YtlpkimpdeeiaaaaGreat
section
open Go.RowKit
attribute [local go_sem] Oper.semAt_some
set_option linter.unusedVariables false
set_option linter.unusedSimpArgs false
set_option linter.unnecessarySimpa false
theorem zPair : (Tryz.prog.info? 48).bind (·.zero) = some (.agg #[.int .u64 0, .int .u64 0]) := by kernel_rfl
theorem zRow : (Tryz.prog.info? 50).bind (·.zero) = some (.agg #[.int .i64 0, .int .u64 0, .int .u64 0]) := by kernel_rfl
theorem number_0 (w : World) : Calls Tryz.prog 77 #[.int .u64 0] w fun r w' => r = .returned (.int .i64 0) ∧ w = w' := by
  go_enter Tryz.func77, Tryz.ntmps77
  go_wp2
  go_ret
  exact ⟨rfl, rfl⟩
set_option maxHeartbeats 1000000 in
theorem lkPair_eq {σ w : World} {M : Mm} {lab : Nat → Nat} {p bw bl : Nat} {s : MachS} (h : Has σ M w) (hS : Seen M lab p bw s) {fr li re he wo : Int} {ti cl lo : Bool} (hl : M bl = some (.cells (lkR p bw fr li re he wo ti cl lo) 83)) (t : Nat) (h1 : 1 ≤ t) (h5 : t ≤ 5) : Calls Tryz.prog 56 #[.pointer (some ⟨bl, 0, none⟩), .int .i64 (t : Nat)] w fun r w' => r = .returned (.agg #[.int .u64 0, .int .u64 0]) ∧ Has σ M w' := by
  have ND3 : Hid (∀ (M' : Mm) (w : World), M.le M' → Has σ M' w → Calls Tryz.prog 51 #[.pointer (some ⟨bl, 0, none⟩), .int .i64 (t : Nat), .int .i64 3] w fun r w' => r = .returned (.int .u64 0) ∧ Has σ M' w') := Lib.hid fun M' w hle h => by
    obtain ⟨lab', hS'⟩ := hS.le hle
    have := lkNode_eq h hS' (hle _ _ hl) t 3 h1 h5 (by omega)
    rwa [wordR_two t 3 h1 h5 (by omega) (by omega)] at this
  have ND4 : Hid (∀ (M' : Mm) (w : World), M.le M' → Has σ M' w → Calls Tryz.prog 51 #[.pointer (some ⟨bl, 0, none⟩), .int .i64 (t : Nat), .int .i64 4] w fun r w' => r = .returned (.int .u64 0) ∧ Has σ M' w') := Lib.hid fun M' w hle h => by
    obtain ⟨lab', hS'⟩ := hS.le hle
    have := lkNode_eq h hS' (hle _ _ hl) t 4 h1 h5 (by omega)
    rwa [wordR_two t 4 h1 h5 (by omega) (by omega)] at this
  clear hS hl h1 h5
  go_enter Tryz.func56, Tryz.ntmps56
  go_upto_region 1 with (first
    | ((with_reducible show wpList _ _ _ ({ dst := _, op := Op.alloc 48, type := _, pos := _, after := _, guard := _ } :: _) _ _); go_loud (refine wpList_alloc_has h rfl 48 rfl _ zPair ?_); clear h; intro b4 w h hn4; try simp only [Act.put, List.setIfInBounds_toArray, List.set_cons_zero, List.set_cons_succ]))
  have hle := Mm.le_upd' hn4 (.cells #[.int .u64 0, .int .u64 0] 48)
  have hb4 := Mm.upd_same M b4 (.cells #[.int .u64 0, .int .u64 0] 48)
  replace h : Has σ (M.upd b4 (.cells #[.int .u64 0, .int .u64 0] 48)) w := h
  generalize M.upd b4 _ = M1 at h hle hb4
  have N3 := Lib.hid (fun (w : World) (h : Has σ M1 w) => ND3.out M1 w hle h)
  have N4 := Lib.hid (fun (w : World) (h : Has σ M1 w) => ND4.out M1 w hle h)
  clear ND3 ND4
  go_wp2_with (first | (go_at_call_of 51 (Value.int .i64 3); refine (N3.out _ h).mono ?_; clear h; rintro _ w ⟨rfl, h⟩) | (go_at_call_of 51 (Value.int .i64 4); refine (N4.out _ h).mono ?_; clear h; rintro _ w ⟨rfl, h⟩) | (with_reducible show wpList _ _ _ ({ dst := _, op := Op.store 48 _ _, type := _, pos := _, after := _, guard := _ } :: _) _ _; refine wpList_storeAll_has (cells := #[.int .u64 0, .int .u64 0]) h rfl 48 _ _ rfl rfl rfl hb4 rfl rfl rfl (by kernel_rfl) rfl ?_; clear h; intro w h))
  exact bodyPost_ret (results_cell_row rfl _ _ _ _ _ _ _ rfl (h.at_ b4 _ (Mm.upd_same _ _ _)) Tryz.underlying48 rfl (by kernel_rfl)) rfl ⟨rfl, h.le (Mm.le_upd hle hn4 _)⟩
set_option maxHeartbeats 1000000 in
theorem lkRow_eq {σ w : World} {M : Mm} {lab : Nat → Nat} {p bw bl : Nat} {s : MachS} (h : Has σ M w) (hS : Seen M lab p bw s) {fr li re he wo : Int} {ti cl lo : Bool} (hl : M bl = some (.cells (lkR p bw fr li re he wo ti cl lo) 83)) (t : Nat) (h1 : 1 ≤ t) (h5 : t ≤ 5) : Calls Tryz.prog 54 #[.pointer (some ⟨bl, 0, none⟩), .int .i64 (t : Nat)] w fun r w' => r = .returned (.agg #[.int .i64 0, .int .u64 0, .int .u64 0]) ∧ Has σ M w' := by
  have ND2 : Hid (∀ (M' : Mm) (w : World), M.le M' → Has σ M' w → Calls Tryz.prog 51 #[.pointer (some ⟨bl, 0, none⟩), .int .i64 (t : Nat), .int .i64 2] w fun r w' => r = .returned (.int .u64 0) ∧ Has σ M' w') := Lib.hid fun M' w hle h => by
    obtain ⟨lab', hS'⟩ := hS.le hle
    have := lkNode_eq h hS' (hle _ _ hl) t 2 h1 h5 (by omega)
    rwa [wordR_two t 2 h1 h5 (by omega) (by omega)] at this
  have PR : Hid (∀ (M' : Mm) (w : World), M.le M' → Has σ M' w → Calls Tryz.prog 56 #[.pointer (some ⟨bl, 0, none⟩), .int .i64 (t : Nat)] w fun r w' => r = .returned (.agg #[.int .u64 0, .int .u64 0]) ∧ Has σ M' w') := Lib.hid fun M' w hle h => by
    obtain ⟨lab', hS'⟩ := hS.le hle
    exact lkPair_eq h hS' (hle _ _ hl) t h1 h5
  have NB := Lib.hid number_0
  clear hS hl h1 h5
  go_enter Tryz.func54, Tryz.ntmps54
  go_upto_region 1 with (first
    | ((with_reducible show wpList _ _ _ ({ dst := _, op := Op.alloc 50, type := _, pos := _, after := _, guard := _ } :: _) _ _); go_loud (refine wpList_alloc_has h rfl 50 rfl _ zRow ?_); clear h; intro b4 w h hn4; try simp only [Act.put, List.setIfInBounds_toArray, List.set_cons_zero, List.set_cons_succ]))
  have hle := Mm.le_upd' hn4 (.cells #[.int .i64 0, .int .u64 0, .int .u64 0] 50)
  have hb4 := Mm.upd_same M b4 (.cells #[.int .i64 0, .int .u64 0, .int .u64 0] 50)
  replace h : Has σ (M.upd b4 (.cells #[.int .i64 0, .int .u64 0, .int .u64 0] 50)) w := h
  generalize M.upd b4 _ = M1 at h hle hb4
  have N2 := Lib.hid (fun (w : World) (h : Has σ M1 w) => ND2.out M1 w hle h)
  have P2 := Lib.hid (fun (w : World) (h : Has σ M1 w) => PR.out M1 w hle h)
  clear ND2 PR
  go_wp2_with (first | (go_at_call 51; refine (N2.out _ h).mono ?_; clear h; rintro _ w ⟨rfl, h⟩) | (go_at_call 77; refine (NB.out _).mono ?_; rintro _ w' ⟨rfl, rfl⟩) | (go_at_call 56; refine (P2.out _ h).mono ?_; clear h; rintro _ w ⟨rfl, h⟩) | (with_reducible show wpList _ _ _ ({ dst := _, op := Op.store 50 _ _, type := _, pos := _, after := _, guard := _ } :: _) _ _; refine wpList_storeAll_has (cells := #[.int .i64 0, .int .u64 0, .int .u64 0]) h rfl 50 _ _ rfl rfl rfl hb4 rfl rfl rfl (by kernel_rfl) rfl ?_; clear h; intro w h))
  exact bodyPost_ret (results_cell_row rfl _ _ _ _ _ _ _ rfl (h.at_ b4 _ (Mm.upd_same _ _ _)) Tryz.underlying50 rfl (by kernel_rfl)) rfl ⟨rfl, h.le (Mm.le_upd hle hn4 _)⟩
theorem inR_link (t : Nat) (h1 : 1 ≤ t) (h5 : t ≤ 5) : InK exR 8 (t : Nat) 0 := ⟨by omega, by unfold baseK; simp; omega, by omega, by omega, fun _ => rfl, by unfold numK many baseK exR; simp; omega⟩
theorem atR_link (t : Nat) (h1 : 1 ≤ t) : atK exR 0 8 (t : Nat) 0 = ((18 + t : Nat) : Int) := by
  unfold atK firsts numK baseK exR
  simp
  omega
theorem wordR_link (t : Nat) (h1 : 1 ≤ t) (h5 : t ≤ 5) : wordR 8 (t : Nat) 0 = if t = 1 then 0 else if t = 5 then 0 else (t : Int) + 1 := by
  rcases (show t = 1 ∨ t = 2 ∨ t = 3 ∨ t = 4 ∨ t = 5 by omega) with rfl | rfl | rfl | rfl | rfl <;> decide
/-- What is behind a slot of the free list. -/
theorem lkBehind_eq {σ w : World} {M : Mm} {lab : Nat → Nat} {p bw bl : Nat} {s : MachS} (h : Has σ M w) (hS : Seen M lab p bw s) {fr li re he wo : Int} {ti cl lo : Bool} (hl : M bl = some (.cells (lkR p bw fr li re he wo ti cl lo) 83)) {b1 : Nat} (hb1 : M b1 = some (.cells #[.pointer (some ⟨bl, 0, none⟩)] 79)) (t : Nat) (h1 : 2 ≤ t) (h5 : t ≤ 5) : Calls Tryz.prog 57 #[.int .i64 (t : Nat), .pointer (some ⟨b1, 0, none⟩)] w fun r w' => r = .returned (.int .i64 (if t = 5 then 0 else (t : Int) + 1)) ∧ Has σ M w' := by
  have AT := Lib.hid (fun (w : World) (h : Has σ M w) => lkAt_eq h hS hl 8 (t : Nat) 0 (inR_link t (by omega) h5) (atR_link t (by omega)) (by omega))
  rw [wordR_link t (by omega) h5, if_neg (show t ≠ 1 by omega)] at AT
  have q1 : (#[.pointer (some ⟨bl, 0, none⟩)] : Array Value)[0]? = some (.pointer (some ⟨bl, 0, none⟩)) := rfl
  clear hS hl
  have gv : ∃ y : Nat, y < 61 ∧ (if t = 5 then (0 : Int) else (t : Int) + 1) = (y : Int) := by
    by_cases e : t = 5
    · exact ⟨0, by omega, by simp [e]⟩
    · exact ⟨t + 1, by omega, by simp [e]⟩
  obtain ⟨y, hy, ey⟩ := gv
  rw [ey] at AT ⊢
  have w1 : IntKind.i64.wrap (y : Int) = (y : Int) := IntWalk.i64_in _ (by omega)
  have hy' : (y : Int) < 61 := by omega
  have hy2 : ¬ ((61 : Int) < (y : Int)) := by omega
  clear ey h1 h5
  go_enter Tryz.func57, Tryz.ntmps57
  go_wp2_with (first
    | (with_reducible show wpList _ _ _ ({ dst := _, op := Op.load 79 _, type := _, pos := _, after := _, guard := _ } :: _) _ _; go_loud (refine wpList_load1_has h rfl 79 _ rfl rfl hb1 q1 Tryz.underlying79 rfl ?_))
    | (go_at_call 48; go_loud (refine (AT.out _ h).mono ?_); clear h; rintro _ w ⟨rfl, h⟩))
  rw [Int.min_eq_left (show (y : Int) ≤ 61 by omega)]
  go_ret
  exact ⟨rfl, h⟩
end
section
open Go.RowKit
attribute [local go_sem] Oper.semAt_some
set_option linter.unusedVariables false
set_option linter.unusedSimpArgs false
set_option linter.unnecessarySimpa false
theorem linkUnder_2 {σ w : World} {M : Mm} (h : Has σ M w) : Calls Tryz.prog 58 #[.int .u64 2] w fun r w' => r = .returned (.int .i64 2) ∧ Has σ M w' :=
  (linkUnder_any 2 (by decide) w).mono fun r w' ⟨e1, e2⟩ => ⟨e1, e2 ▸ h⟩
theorem handleState_0 {σ w : World} {M : Mm} (h : Has σ M w) : Calls Tryz.prog 59 #[.int .u64 0] w fun r w' => r = .returned (.tuple #[.int .i64 0, .int .i64 0]) ∧ Has σ M w' :=
  (handleState_any 0 (by decide) w).mono fun r w' ⟨e1, e2⟩ => ⟨e1, e2 ▸ h⟩
/-- The k-th free slot. -/
def frS (k : Nat) : Int := if k < 4 then ((k + 2 : Nat) : Int) else 0
/-- One round over the free list: the body. -/
def frM (M : Mm) (bl p bw bs : Nat) (k j : Nat) : Mm := (M.upd bl (.cells (lkR p bw (k : Nat) 0 0 0 0 true true false) 83)).upd bs (.cells #[.int .i64 (frS j)] 3)
theorem frS_0 : frS 0 = 2 := rfl
theorem frS_4 : frS 4 = 0 := rfl
theorem frS_lt {k : Nat} (h : k < 4) : frS k = ((k + 2 : Nat) : Int) := if_pos h
theorem frS_next {k : Nat} (h : k < 4) : (if k + 2 = 5 then (0 : Int) else ((k + 2 : Nat) : Int) + 1) = frS (k + 1) := by
  rcases (show k = 0 ∨ k = 1 ∨ k = 2 ∨ k = 3 by omega) with rfl | rfl | rfl | rfl <;> rfl
theorem frM_le {M0 M : Mm} {bl bs : Nat} (h : M0.le M) (hl : M0 bl = none) (hs : M0 bs = none) (p bw k j : Nat) : M0.le (frM M bl p bw bs k j) := Mm.le_upd (Mm.le_upd h hl _) hs _
theorem frM_bl {M : Mm} {bl bs : Nat} (hne : bl ≠ bs) (p bw k j : Nat) : frM M bl p bw bs k j bl = some (.cells (lkR p bw (k : Nat) 0 0 0 0 true true false) 83) := (Mm.upd_ne hne).trans (Mm.upd_same _ _ _)
theorem frM_bs {M : Mm} {bl bs : Nat} (p bw k j : Nat) : frM M bl p bw bs k j bs = some (.cells #[.int .i64 (frS j)] 3) := Mm.upd_same _ _ _
theorem frM_at {M : Mm} {bl bs c : Nat} {o : Obj} (h : M c = some o) (h1 : c ≠ bl) (h2 : c ≠ bs) (p bw k j : Nat) : frM M bl p bw bs k j c = some o := (Mm.upd_ne h2).trans ((Mm.upd_ne h1).trans h)
theorem frM_zero {M : Mm} {bl bs p bw : Nat} (hl : M bl = some (.cells (lkR p bw 0 0 0 0 0 true true false) 83)) (hs : M bs = some (.cells #[.int .i64 2] 3)) : frM M bl p bw bs 0 0 = M := by
  unfold frM
  rw [frS_0]
  have e : M.upd bl (.cells (lkR p bw ((0 : Nat) : Int) 0 0 0 0 true true false) 83) = M := Mm.upd_self hl
  rw [e, Mm.upd_self hs]
theorem frM_turn {M : Mm} {bl bs L : Nat} {y : Obj} (h1 : bl ≠ bs) (h2 : bl ≠ L) (p bw k k' j : Nat) : ((frM M bl p bw bs k j).upd L y).upd bl (.cells (lkR p bw (k' : Nat) 0 0 0 0 true true false) 83) = (frM M bl p bw bs k' j).upd L y := by
  unfold frM
  rw [Mm.upd_comm (Ne.symm h2), Mm.upd_comm (Ne.symm h1), Mm.upd_upd]
set_option maxHeartbeats 4000000 in
set_option maxRecDepth 20000 in
theorem lkFree_eq {σ w : World} {M0 M : Mm} {lab : Nat → Nat} {p bw bl : Nat} {s : MachS} (h : Has σ M w) (hS : Seen M0 lab p bw s) (hM0 : M0.le M) (hbl0 : M0 bl = none) (hl : M bl = some (.cells (lkR p bw 0 0 0 0 0 true true false) 83)) : Calls Tryz.prog 31 #[.pointer (some ⟨bl, 0, none⟩)] w fun r w' => r = .returned (.tuple #[]) ∧ Has σ (M.upd bl (.cells (lkR p bw 4 0 0 0 0 true true false) 83)) w' := by
  have AT : Hid (∀ (M' : Mm) (w : World), M.le M' → Has σ M' w → Calls Tryz.prog 48 #[.pointer (some ⟨bl, 0, none⟩), .int .i64 0, .int .i64 0, .int .i64 0] w fun r w' => r = .returned (.int .u64 2) ∧ Has σ M' w') := Lib.hid fun M' w hle h => by
    obtain ⟨lab', hS'⟩ := hS.le (Mm.le_trans hM0 hle)
    exact lkOne h hS' (hle _ _ hl) 0 (by omega) wordR_free
  have UN := Lib.hid (fun (M' : Mm) (w : World) (h : Has σ M' w) => linkUnder_2 h)
  refine calls_marksN Tryz.func31 rfl ?_
  simp only [Tryz.ntmps31, List.size_toArray, List.length_cons, List.length_nil, Nat.reduceAdd, Nat.reduceSub, Array.replicate_succ,
     Array.replicate_zero, List.push_toArray, List.append_toArray, List.nil_append, List.cons_append]
  go_upto_region 1 with (first
    | ((with_reducible show wpList _ _ _ ({ dst := _, op := Op.box 79 _, type := _, pos := _, after := _, guard := _ } :: _) _ _); go_loud (refine wpList_box_has h rfl 79 _ rfl ?_); clear h; intro b1 w h hn1; try simp only [Act.put, List.setIfInBounds_toArray, List.set_cons_zero, List.set_cons_succ]))
  replace hn1 : M b1 = none := hn1
  replace h : Has σ (M.upd b1 (.cells #[.pointer (some ⟨bl, 0, none⟩)] 79)) w := h
  have hle1 : M.le (M.upd b1 (.cells #[.pointer (some ⟨bl, 0, none⟩)] 79)) := Mm.le_upd' hn1 _
  have hb1 : (M.upd b1 (.cells #[.pointer (some ⟨bl, 0, none⟩)] 79)) b1 = some (.cells #[.pointer (some ⟨bl, 0, none⟩)] 79) := (Mm.le_refl _) _ _ (Mm.upd_same _ _ _)
  replace hn1 : M b1 = none := Mm.none_of (Mm.le_refl _) hn1
  generalize (M.upd b1 (.cells #[.pointer (some ⟨bl, 0, none⟩)] 79)) = M1 at h hle1 hb1
  have q1 : (#[.pointer (some ⟨bl, 0, none⟩)] : Array Value)[0]? = some (.pointer (some ⟨bl, 0, none⟩)) := rfl
  have AT1 := Lib.hid (fun (w : World) (h : Has σ M1 w) => AT.out M1 w hle1 h)
  have UN1 := Lib.hid (fun (w : World) (h : Has σ M1 w) => UN.out M1 w h)
  go_upto_region 2 with (fail)
  refine wp_region_head (Has σ M1) 5 (by kernel_rfl) (by kernel_rfl) (fun _ _ _ _ _ h => h) h.drew ?_
  clear h
  simp only [List.take_succ_cons, List.take_zero, List.drop_succ_cons, List.drop_zero]
  repeat (first
    | go_big_quiet_skip
    | (go_big_quiet_want; first
      | (refine quiet_load_has 79 _ rfl rfl hb1 q1 Tryz.underlying79 rfl ?_; simp only [Act.put, List.setIfInBounds_toArray, List.set_cons_zero, List.set_cons_succ]; go_big_quiet_on)
      | (go_big_quiet_op; first | go_big_quiet_on | go_big_quiet_call (first | with_reducible exact fun _ => rfl | with_reducible exact AT1.out _ | with_reducible exact UN1.out _))))
  refine wpQuiet_nil ?_
  try clear w
  intro w h
  go_wp2_with (go_at_call 47; refine (lkChain_eq h bl 2 57 #[] #[.pointer (some ⟨b1, 0, none⟩)]).mono ?_; clear h; rintro _ w ⟨bs, bx, bn, MC, rfl, h, hleC, hbs, hbx, hbn, hns, hq1, hq2⟩)
  have hns0 : M0 bs = none := Mm.none_of (Mm.le_trans hM0 hle1) hns
  have hlC := hleC _ _ (hle1 _ _ hl)
  have hb1C := hleC _ _ hb1
  have nls : bl ≠ bs := Mm.ne_of hns (hle1 _ _ hl)
  have n1s : b1 ≠ bs := Mm.ne_of hns hb1
  have n1l : b1 ≠ bl := Ne.symm (Mm.ne_of hn1 hl)
  have nxl : bx ≠ bl := fun e => by subst e; rw [hlC] at hbx; cases hbx
  have nnl : bn ≠ bl := fun e => by subst e; rw [hlC] at hbn; cases hbn
  have hM0C := Mm.le_trans hM0 (Mm.le_trans hle1 hleC)
  have hMC := Mm.le_trans hle1 hleC
  have hMs : M bs = none := Mm.none_of hle1 hns
  clear AT UN AT1 UN1 hleC hns hle1 hb1 hn1
  refine wp_range_has h (gf := 74) rfl (Go.Proofs.enters_of Tryz.func74 (by kernel_rfl) rfl) ?_
  clear h
  intro fn D Lr MD w h hleD hDn hLn hDL hD hL
  have hM0D := Mm.le_trans hM0C hleD
  have nlL : bl ≠ Lr := Mm.ne_of hLn hlC
  have nsL : bs ≠ Lr := Mm.ne_of hLn hbs
  have n1L : b1 ≠ Lr := Mm.ne_of hLn hb1C
  have nlD : bl ≠ D := Mm.ne_of hDn hlC
  have nsD : bs ≠ D := Mm.ne_of hDn hbs
  have hFL : ∀ k j, frM MD bl p bw bs k j Lr = _ := fun k j => frM_at hL (Ne.symm nlL) (Ne.symm nsL) p bw k j
  refine (chain1_has (Lr := Lr) (bs := bs) (bx := bx) (bn := bn) (len := 4) (bl := bl) (xs := #[]) (ys := #[.pointer (some ⟨b1, 0, none⟩)]) (fid := 57) (s := frS) (Mf := fun k => frM MD bl p bw bs k k) (Mr := fun k => frM MD bl p bw bs (k + 1) k) ⟨fun k _ => frM_bs p bw k k, fun k _ => frM_at (hleD _ _ hbx) nxl (Ne.symm hq1) p bw k k, fun k _ => ⟨_, frM_bl nls p bw k k, rfl⟩, fun k _ => frM_bs p bw _ k, fun k _ => frM_at (hleD _ _ hbn) nnl (Ne.symm hq2) p bw _ k, fun k _ => (Mm.upd_upd _ _ _ _).symm, fun k hk => by rw [frS_lt hk]; omega, fun k hk => by rw [frS_lt hk]; omega, frS_4, by omega, ?_, ?_, ?_⟩ (by rw [frM_zero (hleD _ _ hlC) (hleD _ _ hbs)]; exact h)).mono ?_
  · exact Go.Proofs.enters_of Tryz.func57 (by kernel_rfl) rfl
  · intro k hk W hW
    rw [frS_lt hk]
    obtain ⟨t, ht⟩ : ∃ t, t = k + 2 := ⟨_, rfl⟩
    have h1 : 1 ≤ t := by omega
    have h5 : t ≤ 5 := by omega
    have hne1 : t ≠ 1 := by omega
    rw [← ht]
    refine ⟨fn, _, _, _, yield_has hW (hFL k k) _, round_has hW (hFL k k) (hFL (k + 1) k) ?_⟩
    intro K hK
    simp only [List.setIfInBounds_toArray, List.set_cons_zero, List.set_cons_succ]
    clear hL hFL
    gi_wp2
    clear hW ht
    intro oB w2 h2
    have hXl := (Mm.upd_ne (o := oB) nlL).trans (frM_bl (M := MD) nls p bw k k)
    have hX1 := (Mm.upd_ne (o := oB) n1L).trans (frM_at (hleD _ _ hb1C) n1l n1s p bw k k)
    have c1 : w2.cell? ⟨b1, 0, none⟩ = some (.pointer (some ⟨bl, 0, none⟩)) := h2.cell hX1 0
    have c21 : w2.cell? ⟨bl, 21, none⟩ = some (.int .i64 (k : Nat)) := h2.cell hXl 21
    have f21 : w2.frozen? ⟨bl, 21, none⟩ = false := h2.free hXl 21
    have hY := h2.setCell hXl 21 (.int .i64 ((k : Int) + 1))
    have er : (lkR p bw (k : Nat) 0 0 0 0 true true false).setIfInBounds 21 (.int .i64 ((k : Int) + 1)) = lkR p bw ((k + 1 : Nat) : Int) 0 0 0 0 true true false := rfl
    rw [er, frM_turn nls nlL] at hY
    have hY1 := (Mm.upd_ne (o := oB) n1L).trans (frM_at (hleD _ _ hb1C) n1l n1s p bw (k + 1) k)
    have c1' : (w2.setCell ⟨bl, 21, none⟩ (.int .i64 ((k : Int) + 1))).cell? ⟨b1, 0, none⟩ = some (.pointer (some ⟨bl, 0, none⟩)) := hY.cell hY1 0
    have hYl := (Mm.upd_ne (o := oB) nlL).trans (frM_bl (M := MD) nls p bw (k + 1) k)
    have hLn0 : M0 Lr = none := Mm.none_of hM0C hLn
    have hY0 : M0.le ((frM MD bl p bw bs (k + 1) k).upd Lr oB) := Mm.le_upd (frM_le hM0D hbl0 hns0 p bw (k + 1) k) hLn0 _
    obtain ⟨lab', hS'⟩ := hS.le hY0
    have N0 : Hid (∀ W, Has σ ((frM MD bl p bw bs (k + 1) k).upd Lr oB) W → Calls Tryz.prog 51 #[.pointer (some ⟨bl, 0, none⟩), .int .i64 (t : Nat), .int .i64 0] W fun r w' => r = .returned (.int .u64 0) ∧ Has σ ((frM MD bl p bw bs (k + 1) k).upd Lr oB) w') := Lib.hid fun W hW => by
      have := lkNode_eq hW hS' hYl t 0 h1 h5 (by omega)
      rwa [wordR_head t h1 h5, if_neg hne1] at this
    have N1 : Hid (∀ W, Has σ ((frM MD bl p bw bs (k + 1) k).upd Lr oB) W → Calls Tryz.prog 51 #[.pointer (some ⟨bl, 0, none⟩), .int .i64 (t : Nat), .int .i64 1] W fun r w' => r = .returned (.int .u64 0) ∧ Has σ ((frM MD bl p bw bs (k + 1) k).upd Lr oB) w') := Lib.hid fun W hW => by
      have := lkNode_eq hW hS' hYl t 1 h1 h5 (by omega)
      rwa [wordR_next t h1 h5] at this
    have RW := Lib.hid (fun W (hW : Has σ ((frM MD bl p bw bs (k + 1) k).upd Lr oB) W) => lkRow_eq hW hS' hYl t h1 h5)
    have ST := Lib.hid (fun W (hW : Has σ ((frM MD bl p bw bs (k + 1) k).upd Lr oB) W) => handleState_0 hW)
    have e27 : (lkR p bw ((k + 1 : Nat) : Int) 0 0 0 0 true true false)[27]? = some (.bool true) := rfl
    have l27 : 27 < (lkR p bw ((k + 1 : Nat) : Int) 0 0 0 0 true true false).size := by show 27 < 29; decide
    have s27 : (lkR p bw ((k + 1 : Nat) : Int) 0 0 0 0 true true false).setIfInBounds 27 (.bool true) = lkR p bw ((k + 1 : Nat) : Int) 0 0 0 0 true true false := rfl
    clear hS'
    generalize lkR p bw ((k + 1 : Nat) : Int) 0 0 0 0 true true false = row at hYl e27 l27 s27
    clear hY0 h5 h1 hne1
    generalize hYY : (frM MD bl p bw bs (k + 1) k).upd Lr oB = Y at *
    gi_wp2
    refine ⟨trivial, rfl, CallsIn.inRound Lr (callsIn_wide.2 ((N0.out _ hY).mono ?_))⟩
    clear hY c1' c1 c21 f21 h2 hXl hX1 er
    rintro _ w ⟨rfl, h⟩
    gi_wp2
    refine ⟨trivial, rfl, CallsIn.inRound Lr (callsIn_wide.2 ((ST.out _ h).mono ?_))⟩
    clear h
    rintro _ w ⟨rfl, h⟩
    gi_wp2
    refine inR_head (Has σ Y) 26 (fun _ _ hq => by have h1 := And.left hq; cases h1) (by kernel_rfl) (by kernel_rfl) (by kernel_rfl) (fun _ _ _ _ _ hq => by have h1 := And.left hq; cases h1) h.drew ?_
    clear h
    simp only [List.take_succ_cons, List.take_zero, List.drop_succ_cons, List.drop_zero]
    repeat (first
      | go_big_quiet_skip
      | (go_big_quiet_want; first
        | (refine quiet_load_has 79 _ rfl rfl hY1 q1 Tryz.underlying79 rfl ?_; simp only [Act.put, List.setIfInBounds_toArray, List.set_cons_zero, List.set_cons_succ]; go_big_quiet_on)
        | (refine quiet_load_has 4 _ rfl rfl hYl e27 Tryz.underlying4 rfl ?_; simp only [Act.put, List.setIfInBounds_toArray, List.set_cons_zero, List.set_cons_succ]; go_big_quiet_on)
        | (go_big_quiet_op; first | go_big_quiet_on | go_big_quiet_call (first | with_reducible exact fun _ => rfl | with_reducible exact RW.out _ | with_reducible exact N1.out _))))
    refine wpQuiet_nil ?_
    try clear w
    intro w h
    go_wp2_with (first
      | (with_reducible show wpList _ _ _ ({ dst := _, op := Op.store 4 _ _, type := _, pos := _, after := _, guard := _ } :: _) _ _; go_loud (refine wpList_store1_has h rfl 4 _ _ rfl rfl rfl hYl l27 rfl (by kernel_rfl) ?_); clear h; intro w h))
    replace h : Has σ (Y.upd bl (.cells (row.setIfInBounds 27 (.bool true)) 83)) w := h
    rw [s27, Mm.upd_self hYl] at h
    exact h
  · intro k hk W hW
    obtain ⟨lab', hS'⟩ := hS.le (frM_le hM0D hbl0 hns0 p bw (k + 1) k)
    have := lkBehind_eq hW hS' (frM_bl nls p bw (k + 1) k) (frM_at (hleD _ _ hb1C) n1l n1s p bw (k + 1) k) (k + 2) (by omega) (by omega)
    rw [frS_next hk, ← frS_lt hk] at this
    exact this
  · rintro r w3 ⟨hv, h3⟩
    refine ⟨hv, _, h3, hFL 4 4, ?_⟩
    clear h3 hv hS
    intro oL w h
    have hMD : M D = none := Mm.none_of hMC hDn
    have hML : M Lr = none := Mm.none_of hMC hLn
    have hE : (M.upd bl (.cells (lkR p bw 4 0 0 0 0 true true false) 83)).le ((frM MD bl p bw bs 4 4).upd Lr oL) := fun c o hc => by
      by_cases e : c = bl
      · subst e
        rw [Mm.upd_same] at hc
        rw [Mm.upd_ne nlL, frM_bl nls]
        exact hc
      · rw [Mm.upd_ne e] at hc
        have e2 : c ≠ bs := Mm.ne_of hMs hc
        have e3 : c ≠ Lr := Mm.ne_of hML hc
        rw [Mm.upd_ne e3]
        exact frM_at (hleD _ _ (hMC _ _ hc)) e e2 p bw 4 4
    have hXD : ((frM MD bl p bw bs 4 4).upd Lr oL) D = some (.deferred (some [])) := (Mm.upd_ne hDL).trans (frM_at hD (Ne.symm nlD) (Ne.symm nsD) p bw 4 4)
    have hD0 : (M.upd bl (.cells (lkR p bw 4 0 0 0 0 true true false) 83)) D = none := (Mm.upd_ne (Ne.symm nlD)).trans hMD
    clear hFL hL hD
    generalize (frM MD bl p bw bs 4 4).upd Lr oL = MX at *
    go_wp2
    exact leaves_keep (M.upd bl (.cells (lkR p bw 4 0 0 0 0 true true false) 83)) [D] MX w h hE (by simp) (fun D' hm => by obtain rfl := List.mem_singleton.1 hm; exact hXD) (fun D' hm => by obtain rfl := List.mem_singleton.1 hm; exact hD0) fun w' h' => ⟨_, results_none rfl _ _ _, rfl, h'⟩
end
section
open Go.RowKit
set_option linter.unusedVariables false
set_option linter.unusedSimpArgs false
set_option linter.unnecessarySimpa false
abbrev set0 : Array Value := #[.int .i64 0, .bool false, .int .i64 0, .bool false, .int .i64 0, .bool false, .int .i64 0, .bool false, .int .i64 0, .int .u64 0]
theorem zSet : (Tryz.prog.info? 127).bind (·.zero) = some (.agg set0) := by kernel_rfl
theorem zWay : (Tryz.prog.info? 124).bind (·.zero) = some (.agg #[.int .i64 0, .bool false]) := by kernel_rfl
theorem cut_0 (a s : Nat) (h1 : 1 ≤ s) (h : a + s ≤ 64) (w : World) : Calls Tryz.prog 34 #[.int .u64 0, .int .i64 (a : Nat), .int .i64 (s : Nat)] w fun r w' => r = .returned (.int .u64 0) ∧ w = w' := by
  have := fieldCut_any 0 a s (by decide) h1 h w
  have e : cutN 0 a s = 0 := by unfold cutN; simp
  rwa [e] at this
theorem has_0 (a : Nat) (ha : a < 64) (w : World) : Calls Tryz.prog 75 #[.int .u64 0, .int .i64 (a : Nat)] w fun r w' => r = .returned (.bool false) ∧ w = w' := by
  have := fieldHas_any 0 a (by decide) ha w
  have e : oneB 0 a = false := by unfold oneB cutN; simp
  rwa [e] at this
set_option maxHeartbeats 2000000 in
theorem waysRead_0 {σ w : World} {M : Mm} (h : Has σ M w) : Calls Tryz.prog 55 #[.int .u64 0] w fun r w' => r = .returned (.agg set0) ∧ Has σ M w' := by
  have o10 : set0.toList.all (·.oneCell') = true := rfl
  have za : (Value.agg set0).cells.size = 10 := rfl
  have zb : set0.size = 10 := rfl
  have C36 : Hid (∀ w : World, Calls Tryz.prog 34 #[.int .u64 0, .int .i64 36, .int .i64 2] w fun r w' => r = .returned (.int .u64 0) ∧ w = w') := Lib.hid (cut_0 36 2 (by omega) (by omega))
  have C38 : Hid (∀ w : World, Calls Tryz.prog 34 #[.int .u64 0, .int .i64 38, .int .i64 26] w fun r w' => r = .returned (.int .u64 0) ∧ w = w') := Lib.hid (cut_0 38 26 (by omega) (by omega))
  go_enter Tryz.func55, Tryz.ntmps55
  go_upto_region 1 with (first
    | ((with_reducible show wpList _ _ _ ({ dst := _, op := Op.alloc 127, type := _, pos := _, after := _, guard := _ } :: _) _ _); go_loud (refine wpList_alloc_has h rfl 127 rfl _ zSet ?_); clear h; intro b2 w h hn2; try simp only [Act.put, List.setIfInBounds_toArray, List.set_cons_zero, List.set_cons_succ]))
  have hb2 := Mm.upd_same M b2 (.cells set0 127)
  have hle1 := Mm.le_upd' hn2 (.cells set0 127)
  replace h : Has σ (M.upd b2 (.cells set0 127)) w := h
  generalize M.upd b2 (.cells set0 127) = M1 at h hb2 hle1
  go_upto_region 2 with (first
    | ((go_at_call 34; (first | (with_reducible refine (C36.out _).mono ?_) | (with_reducible refine (C38.out _).mono ?_)); rintro _ w' ⟨rfl, rfl⟩))
    | ((with_reducible show wpList _ _ _ ({ dst := _, op := Op.alloc 127, type := _, pos := _, after := _, guard := _ } :: _) _ _); go_loud (refine wpList_alloc_has h rfl 127 rfl _ zSet ?_); clear h; intro b3 w h hn3; try simp only [Act.put, List.setIfInBounds_toArray, List.set_cons_zero, List.set_cons_succ])
    | ((with_reducible show wpList _ _ _ ({ dst := _, op := Op.store 127 _ _, type := _, pos := _, after := _, guard := _ } :: _) _ _; have hx3 := Mm.upd_same M1 b3 (.cells (Value.agg set0).cells 127); go_loud (refine wpList_storeAll_has (cells := set0) h rfl 127 _ _ rfl rfl rfl hx3 rfl za zb (by kernel_rfl) o10 ?_); clear h; intro w h)))
  replace h : Has σ ((M1.upd b3 (.cells set0 127)).upd b3 (.cells set0 127)) w := h
  rw [Mm.upd_upd] at h
  have hb3 := Mm.upd_same M1 b3 (.cells set0 127)
  have hle2 := Mm.le_upd' hn3 (.cells set0 127)
  generalize M1.upd b3 (.cells set0 127) = M2 at h hb3 hle2
  have hb22 := hle2 _ _ hb2
  go_upto_region 3 with (fail)
  refine wp_loop_rounds 5 ?_
  rw [rounds_succ]
  go_upto_region 5 with (fail)
  go_wp2_with (first | (go_at_call 34; refine (cut_0 0 8 (by omega) (by omega) _).mono ?_; rintro _ w' ⟨rfl, rfl⟩) | (go_at_call 75; refine (has_0 8 (by omega) _).mono ?_; rintro _ w' ⟨rfl, rfl⟩) | (with_reducible show wpList _ _ _ ({ dst := _, op := Op.store 124 _ _, type := _, pos := _, after := _, guard := _ } :: _) _ _; refine wpList_storePart_has h rfl 124 _ _ rfl rfl rfl hb3 (pre := set0.toList.take 0) (old := [.int .i64 0, .bool false]) (post := set0.toList.drop (0 + 2)) rfl rfl rfl rfl rfl (by kernel_rfl) rfl ?_; clear h; intro w h))
  replace h : Has σ (M2.upd b3 (.cells set0 127)) w := h
  rw [Mm.upd_self hb3] at h
  rw [rounds_succ]
  go_upto_region 5 with (fail)
  go_wp2_with (first | (go_at_call 34; refine (cut_0 9 8 (by omega) (by omega) _).mono ?_; rintro _ w' ⟨rfl, rfl⟩) | (go_at_call 75; refine (has_0 17 (by omega) _).mono ?_; rintro _ w' ⟨rfl, rfl⟩) | (with_reducible show wpList _ _ _ ({ dst := _, op := Op.store 124 _ _, type := _, pos := _, after := _, guard := _ } :: _) _ _; refine wpList_storePart_has h rfl 124 _ _ rfl rfl rfl hb3 (pre := set0.toList.take 2) (old := [.int .i64 0, .bool false]) (post := set0.toList.drop (2 + 2)) rfl rfl rfl rfl rfl (by kernel_rfl) rfl ?_; clear h; intro w h))
  replace h : Has σ (M2.upd b3 (.cells set0 127)) w := h
  rw [Mm.upd_self hb3] at h
  rw [rounds_succ]
  go_upto_region 5 with (fail)
  go_wp2_with (first | (go_at_call 34; refine (cut_0 18 8 (by omega) (by omega) _).mono ?_; rintro _ w' ⟨rfl, rfl⟩) | (go_at_call 75; refine (has_0 26 (by omega) _).mono ?_; rintro _ w' ⟨rfl, rfl⟩) | (with_reducible show wpList _ _ _ ({ dst := _, op := Op.store 124 _ _, type := _, pos := _, after := _, guard := _ } :: _) _ _; refine wpList_storePart_has h rfl 124 _ _ rfl rfl rfl hb3 (pre := set0.toList.take 4) (old := [.int .i64 0, .bool false]) (post := set0.toList.drop (4 + 2)) rfl rfl rfl rfl rfl (by kernel_rfl) rfl ?_; clear h; intro w h))
  replace h : Has σ (M2.upd b3 (.cells set0 127)) w := h
  rw [Mm.upd_self hb3] at h
  rw [rounds_succ]
  go_upto_region 5 with (fail)
  go_wp2_with (first | (go_at_call 34; refine (cut_0 27 8 (by omega) (by omega) _).mono ?_; rintro _ w' ⟨rfl, rfl⟩) | (go_at_call 75; refine (has_0 35 (by omega) _).mono ?_; rintro _ w' ⟨rfl, rfl⟩) | (with_reducible show wpList _ _ _ ({ dst := _, op := Op.store 124 _ _, type := _, pos := _, after := _, guard := _ } :: _) _ _; refine wpList_storePart_has h rfl 124 _ _ rfl rfl rfl hb3 (pre := set0.toList.take 6) (old := [.int .i64 0, .bool false]) (post := set0.toList.drop (6 + 2)) rfl rfl rfl rfl rfl (by kernel_rfl) rfl ?_; clear h; intro w h))
  replace h : Has σ (M2.upd b3 (.cells set0 127)) w := h
  rw [Mm.upd_self hb3] at h
  rw [rounds_succ]
  have q3 : set0.extract 0 (0 + 10) = set0 := rfl
  have z3 : set0.size = 10 := rfl
  go_wp2_with (first | (with_reducible show wpList _ _ _ ({ dst := _, op := Op.load 127 _, type := _, pos := _, after := _, guard := _ } :: _) _ _; refine wpList_agg_has h rfl 127 _ rfl rfl hb3 q3 z3 Tryz.underlying127 rfl (by kernel_rfl) ?_; try simp only [Act.put, List.setIfInBounds_toArray, List.set_cons_zero, List.set_cons_succ]) | (with_reducible show wpList _ _ _ ({ dst := _, op := Op.store 127 _ _, type := _, pos := _, after := _, guard := _ } :: _) _ _; refine wpList_storeAll_has (cells := set0) h rfl 127 _ _ rfl rfl rfl hb22 rfl rfl rfl (by kernel_rfl) rfl ?_; clear h; intro w h))
  exact bodyPost_ret (results_cell_row rfl _ _ _ _ _ _ _ rfl (h.at_ b2 _ (Mm.upd_same _ _ _)) Tryz.underlying127 rfl (by kernel_rfl)) rfl ⟨rfl, h.le (Mm.le_upd (Mm.le_trans hle1 hle2) hn2 _)⟩
theorem inR_set (b : Nat) (h : b < 2) : InK exR 5 (b : Nat) 0 := ⟨by omega, by unfold baseK; simp <;> omega, by omega, by omega, fun _ => rfl, by unfold numK many baseK; simp <;> omega⟩
theorem wordR_set (b : Nat) (h : b < 2) : wordR 5 (b : Nat) 0 = 0 := by
  rcases (show b = 0 ∨ b = 1 by omega) with rfl | rfl <;> decide
abbrev way0 : Array Value := #[.int .i64 0, .bool false]
abbrev ways0 : Array Value := #[.int .i64 0, .bool false, .int .i64 0, .bool false, .int .i64 0, .bool false, .int .i64 0, .bool false]
theorem field_ways (w : World) : (Instr.field 127 (.agg set0) 0).run Tryz.prog w = .ok (.agg ways0) w := by kernel_rfl
theorem index_way0 (w : World) : (Instr.index 125 (.agg ways0) (.int .i64 0)).run Tryz.prog w = .ok (.agg way0) w := by kernel_rfl
theorem index_way1 (w : World) : (Instr.index 125 (.agg ways0) (.int .i64 1)).run Tryz.prog w = .ok (.agg way0) w := by kernel_rfl
theorem index_way2 (w : World) : (Instr.index 125 (.agg ways0) (.int .i64 2)).run Tryz.prog w = .ok (.agg way0) w := by kernel_rfl
theorem index_way3 (w : World) : (Instr.index 125 (.agg ways0) (.int .i64 3)).run Tryz.prog w = .ok (.agg way0) w := by kernel_rfl
set_option maxHeartbeats 4000000 in
set_option maxRecDepth 20000 in
theorem lkCache_eq {σ w : World} {M0 M : Mm} {lab : Nat → Nat} {p bw bl : Nat} {s : MachS} (h : Has σ M w) (hS : Seen M0 lab p bw s) (hM0 : M0.le M) {fr li re he wo : Int} {ti cl lo : Bool} (hl : M bl = some (.cells (lkR p bw fr li re he wo ti cl lo) 83)) : Calls Tryz.prog 29 #[.pointer (some ⟨bl, 0, none⟩)] w fun r w' => r = .returned (.tuple #[]) ∧ Has σ M w' := by
  obtain ⟨lab', hS'⟩ := hS.le hM0
  have AT : Hid (∀ (b : Nat) (w : World), b < 2 → Has σ M w → Calls Tryz.prog 48 #[.pointer (some ⟨bl, 0, none⟩), .int .i64 5, .int .i64 (b : Nat), .int .i64 0] w fun r w' => r = .returned (.int .u64 0) ∧ Has σ M w') := Lib.hid fun b w hb h => by
    have := lkAt_eq h hS' hl 5 (b : Nat) 0 (inR_set b hb) (a := 8 + b) (by unfold atK firsts numK baseK exR; simp) (by omega)
    rwa [wordR_set b hb] at this
  have WR := Lib.hid (fun (w : World) (h : Has σ M w) => waysRead_0 h)
  have o10 : way0.toList.all (·.oneCell') = true := rfl
  have za : (Value.agg way0).cells.size = 2 := rfl
  have zb : way0.size = 2 := rfl
  have FW := field_ways
  have w0 : way0[0]? = some (.int .i64 0) := rfl
  have I0 := index_way0
  have I1 := index_way1
  have I2 := index_way2
  have I3 := index_way3
  clear hS hS' hM0
  go_enter Tryz.func29, Tryz.ntmps29
  go_upto_region 1 with (fail)
  refine wp_loop_rounds 3 ?_
  rw [rounds_succ]
  go_upto_region 3 with (fail)
  go_wp2_with (first
    | (go_at_call 48; go_loud (refine (AT.out 0 _ (by omega) h).mono ?_); clear h; rintro _ w ⟨rfl, h⟩)
    | (go_at_call 55; go_loud (refine (WR.out _ h).mono ?_); clear h; rintro _ w ⟨rfl, h⟩))
  refine wp_loop_rounds 5 ?_
  rw [rounds_succ]
  go_upto_region 5 with (fail)
  go_wp2_with (first
    | ((with_reducible show wpList _ _ _ ({ dst := _, op := Op.alloc 124, type := _, pos := _, after := _, guard := _ } :: _) _ _); go_loud (refine wpList_alloc_has h rfl 124 rfl _ zWay ?_); clear h; intro b4 w h hn4; try simp only [Act.put, List.setIfInBounds_toArray, List.set_cons_zero, List.set_cons_succ])
    | ((with_reducible show wpList _ _ _ ({ dst := _, op := Op.store 124 _ _, type := _, pos := _, after := _, guard := _ } :: _) _ _; have hx3 := Mm.upd_same M b4 (.cells (Value.agg way0).cells 124); go_loud (refine wpList_storeAll_has (cells := way0) h rfl 124 _ _ rfl rfl rfl hx3 rfl za zb (by kernel_rfl) o10 ?_); clear h; intro w h))
    | ((with_reducible show wpList _ _ _ ({ dst := _, op := Op.load 3 _, type := _, pos := _, after := _, guard := _ } :: _) _ _; have hx4 := Mm.upd_same (M.upd b4 (.cells (Value.agg way0).cells 124)) b4 (.cells way0 124); go_loud (refine wpList_load1_has h rfl 3 _ rfl rfl hx4 w0 Tryz.underlying3 rfl ?_))))
  replace h : Has σ M w := h.le (Mm.le_upd (Mm.le_upd' hn4 _) hn4 _)
  clear hn4
  rw [rounds_succ]
  go_upto_region 5 with (fail)
  go_wp2_with (first
    | ((with_reducible show wpList _ _ _ ({ dst := _, op := Op.alloc 124, type := _, pos := _, after := _, guard := _ } :: _) _ _); go_loud (refine wpList_alloc_has h rfl 124 rfl _ zWay ?_); clear h; intro b4 w h hn4; try simp only [Act.put, List.setIfInBounds_toArray, List.set_cons_zero, List.set_cons_succ])
    | ((with_reducible show wpList _ _ _ ({ dst := _, op := Op.store 124 _ _, type := _, pos := _, after := _, guard := _ } :: _) _ _; have hx3 := Mm.upd_same M b4 (.cells (Value.agg way0).cells 124); go_loud (refine wpList_storeAll_has (cells := way0) h rfl 124 _ _ rfl rfl rfl hx3 rfl za zb (by kernel_rfl) o10 ?_); clear h; intro w h))
    | ((with_reducible show wpList _ _ _ ({ dst := _, op := Op.load 3 _, type := _, pos := _, after := _, guard := _ } :: _) _ _; have hx4 := Mm.upd_same (M.upd b4 (.cells (Value.agg way0).cells 124)) b4 (.cells way0 124); go_loud (refine wpList_load1_has h rfl 3 _ rfl rfl hx4 w0 Tryz.underlying3 rfl ?_))))
  replace h : Has σ M w := h.le (Mm.le_upd (Mm.le_upd' hn4 _) hn4 _)
  clear hn4
  rw [rounds_succ]
  go_upto_region 5 with (fail)
  go_wp2_with (first
    | ((with_reducible show wpList _ _ _ ({ dst := _, op := Op.alloc 124, type := _, pos := _, after := _, guard := _ } :: _) _ _); go_loud (refine wpList_alloc_has h rfl 124 rfl _ zWay ?_); clear h; intro b4 w h hn4; try simp only [Act.put, List.setIfInBounds_toArray, List.set_cons_zero, List.set_cons_succ])
    | ((with_reducible show wpList _ _ _ ({ dst := _, op := Op.store 124 _ _, type := _, pos := _, after := _, guard := _ } :: _) _ _; have hx3 := Mm.upd_same M b4 (.cells (Value.agg way0).cells 124); go_loud (refine wpList_storeAll_has (cells := way0) h rfl 124 _ _ rfl rfl rfl hx3 rfl za zb (by kernel_rfl) o10 ?_); clear h; intro w h))
    | ((with_reducible show wpList _ _ _ ({ dst := _, op := Op.load 3 _, type := _, pos := _, after := _, guard := _ } :: _) _ _; have hx4 := Mm.upd_same (M.upd b4 (.cells (Value.agg way0).cells 124)) b4 (.cells way0 124); go_loud (refine wpList_load1_has h rfl 3 _ rfl rfl hx4 w0 Tryz.underlying3 rfl ?_))))
  replace h : Has σ M w := h.le (Mm.le_upd (Mm.le_upd' hn4 _) hn4 _)
  clear hn4
  rw [rounds_succ]
  go_upto_region 5 with (fail)
  go_wp2_with (first
    | ((with_reducible show wpList _ _ _ ({ dst := _, op := Op.alloc 124, type := _, pos := _, after := _, guard := _ } :: _) _ _); go_loud (refine wpList_alloc_has h rfl 124 rfl _ zWay ?_); clear h; intro b4 w h hn4; try simp only [Act.put, List.setIfInBounds_toArray, List.set_cons_zero, List.set_cons_succ])
    | ((with_reducible show wpList _ _ _ ({ dst := _, op := Op.store 124 _ _, type := _, pos := _, after := _, guard := _ } :: _) _ _; have hx3 := Mm.upd_same M b4 (.cells (Value.agg way0).cells 124); go_loud (refine wpList_storeAll_has (cells := way0) h rfl 124 _ _ rfl rfl rfl hx3 rfl za zb (by kernel_rfl) o10 ?_); clear h; intro w h))
    | ((with_reducible show wpList _ _ _ ({ dst := _, op := Op.load 3 _, type := _, pos := _, after := _, guard := _ } :: _) _ _; have hx4 := Mm.upd_same (M.upd b4 (.cells (Value.agg way0).cells 124)) b4 (.cells way0 124); go_loud (refine wpList_load1_has h rfl 3 _ rfl rfl hx4 w0 Tryz.underlying3 rfl ?_))))
  replace h : Has σ M w := h.le (Mm.le_upd (Mm.le_upd' hn4 _) hn4 _)
  clear hn4
  rw [rounds_succ]
  go_wp2
  rw [rounds_succ]
  go_upto_region 3 with (fail)
  go_wp2_with (first
    | (go_at_call 48; go_loud (refine (AT.out 1 _ (by omega) h).mono ?_); clear h; rintro _ w ⟨rfl, h⟩)
    | (go_at_call 55; go_loud (refine (WR.out _ h).mono ?_); clear h; rintro _ w ⟨rfl, h⟩))
  refine wp_loop_rounds 5 ?_
  rw [rounds_succ]
  go_upto_region 5 with (fail)
  go_wp2_with (first
    | ((with_reducible show wpList _ _ _ ({ dst := _, op := Op.alloc 124, type := _, pos := _, after := _, guard := _ } :: _) _ _); go_loud (refine wpList_alloc_has h rfl 124 rfl _ zWay ?_); clear h; intro b4 w h hn4; try simp only [Act.put, List.setIfInBounds_toArray, List.set_cons_zero, List.set_cons_succ])
    | ((with_reducible show wpList _ _ _ ({ dst := _, op := Op.store 124 _ _, type := _, pos := _, after := _, guard := _ } :: _) _ _; have hx3 := Mm.upd_same M b4 (.cells (Value.agg way0).cells 124); go_loud (refine wpList_storeAll_has (cells := way0) h rfl 124 _ _ rfl rfl rfl hx3 rfl za zb (by kernel_rfl) o10 ?_); clear h; intro w h))
    | ((with_reducible show wpList _ _ _ ({ dst := _, op := Op.load 3 _, type := _, pos := _, after := _, guard := _ } :: _) _ _; have hx4 := Mm.upd_same (M.upd b4 (.cells (Value.agg way0).cells 124)) b4 (.cells way0 124); go_loud (refine wpList_load1_has h rfl 3 _ rfl rfl hx4 w0 Tryz.underlying3 rfl ?_))))
  replace h : Has σ M w := h.le (Mm.le_upd (Mm.le_upd' hn4 _) hn4 _)
  clear hn4
  rw [rounds_succ]
  go_upto_region 5 with (fail)
  go_wp2_with (first
    | ((with_reducible show wpList _ _ _ ({ dst := _, op := Op.alloc 124, type := _, pos := _, after := _, guard := _ } :: _) _ _); go_loud (refine wpList_alloc_has h rfl 124 rfl _ zWay ?_); clear h; intro b4 w h hn4; try simp only [Act.put, List.setIfInBounds_toArray, List.set_cons_zero, List.set_cons_succ])
    | ((with_reducible show wpList _ _ _ ({ dst := _, op := Op.store 124 _ _, type := _, pos := _, after := _, guard := _ } :: _) _ _; have hx3 := Mm.upd_same M b4 (.cells (Value.agg way0).cells 124); go_loud (refine wpList_storeAll_has (cells := way0) h rfl 124 _ _ rfl rfl rfl hx3 rfl za zb (by kernel_rfl) o10 ?_); clear h; intro w h))
    | ((with_reducible show wpList _ _ _ ({ dst := _, op := Op.load 3 _, type := _, pos := _, after := _, guard := _ } :: _) _ _; have hx4 := Mm.upd_same (M.upd b4 (.cells (Value.agg way0).cells 124)) b4 (.cells way0 124); go_loud (refine wpList_load1_has h rfl 3 _ rfl rfl hx4 w0 Tryz.underlying3 rfl ?_))))
  replace h : Has σ M w := h.le (Mm.le_upd (Mm.le_upd' hn4 _) hn4 _)
  clear hn4
  rw [rounds_succ]
  go_upto_region 5 with (fail)
  go_wp2_with (first
    | ((with_reducible show wpList _ _ _ ({ dst := _, op := Op.alloc 124, type := _, pos := _, after := _, guard := _ } :: _) _ _); go_loud (refine wpList_alloc_has h rfl 124 rfl _ zWay ?_); clear h; intro b4 w h hn4; try simp only [Act.put, List.setIfInBounds_toArray, List.set_cons_zero, List.set_cons_succ])
    | ((with_reducible show wpList _ _ _ ({ dst := _, op := Op.store 124 _ _, type := _, pos := _, after := _, guard := _ } :: _) _ _; have hx3 := Mm.upd_same M b4 (.cells (Value.agg way0).cells 124); go_loud (refine wpList_storeAll_has (cells := way0) h rfl 124 _ _ rfl rfl rfl hx3 rfl za zb (by kernel_rfl) o10 ?_); clear h; intro w h))
    | ((with_reducible show wpList _ _ _ ({ dst := _, op := Op.load 3 _, type := _, pos := _, after := _, guard := _ } :: _) _ _; have hx4 := Mm.upd_same (M.upd b4 (.cells (Value.agg way0).cells 124)) b4 (.cells way0 124); go_loud (refine wpList_load1_has h rfl 3 _ rfl rfl hx4 w0 Tryz.underlying3 rfl ?_))))
  replace h : Has σ M w := h.le (Mm.le_upd (Mm.le_upd' hn4 _) hn4 _)
  clear hn4
  rw [rounds_succ]
  go_upto_region 5 with (fail)
  go_wp2_with (first
    | ((with_reducible show wpList _ _ _ ({ dst := _, op := Op.alloc 124, type := _, pos := _, after := _, guard := _ } :: _) _ _); go_loud (refine wpList_alloc_has h rfl 124 rfl _ zWay ?_); clear h; intro b4 w h hn4; try simp only [Act.put, List.setIfInBounds_toArray, List.set_cons_zero, List.set_cons_succ])
    | ((with_reducible show wpList _ _ _ ({ dst := _, op := Op.store 124 _ _, type := _, pos := _, after := _, guard := _ } :: _) _ _; have hx3 := Mm.upd_same M b4 (.cells (Value.agg way0).cells 124); go_loud (refine wpList_storeAll_has (cells := way0) h rfl 124 _ _ rfl rfl rfl hx3 rfl za zb (by kernel_rfl) o10 ?_); clear h; intro w h))
    | ((with_reducible show wpList _ _ _ ({ dst := _, op := Op.load 3 _, type := _, pos := _, after := _, guard := _ } :: _) _ _; have hx4 := Mm.upd_same (M.upd b4 (.cells (Value.agg way0).cells 124)) b4 (.cells way0 124); go_loud (refine wpList_load1_has h rfl 3 _ rfl rfl hx4 w0 Tryz.underlying3 rfl ?_))))
  replace h : Has σ M w := h.le (Mm.le_upd (Mm.le_upd' hn4 _) hn4 _)
  clear hn4
  rw [rounds_succ]
  go_wp2
  rw [rounds_succ]
  go_wp2
  go_end0
  exact ⟨rfl, h⟩
end
section
open Go.RowKit
set_option linter.unusedVariables false
set_option linter.unusedSimpArgs false
set_option linter.unnecessarySimpa false
/-- The threads of a level, by a configuration's cells. -/
def atCi (c : Nat → Int) (T : Nat) (lv : Int) : List Nat := (List.range T).filter fun t => c (2 + t) == lv
theorem atCi_succ (c : Nat → Int) (k : Nat) (lv : Int) : atCi c (k + 1) lv = if c (2 + k) == lv then atCi c k lv ++ [k] else atCi c k lv := by
  unfold atCi
  rw [List.range_succ, List.filter_append]
  cases h : (c (2 + k) == lv) <;> simp [h]
theorem atCi_le (c : Nat → Int) (k : Nat) (lv : Int) : (atCi c k lv).length ≤ k := by
  unfold atCi
  exact Nat.le_trans (List.length_filter_le _ _) (by simp)
section
variable {σ w : World} {M : Mm}
theorem atWanti_eq (h : Has σ M w) {bl : Nat} {lv x : Int} (hb : M bl = some (.cells #[.int .i64 lv] 3)) : Calls Tryz.prog 82 #[.int .i64 x, .pointer (some ⟨bl, 0, none⟩)] w fun r w' => r = .returned (.bool (x == lv)) ∧ Has σ M w' := by
  have e0 : (#[.int .i64 lv] : Array Value)[0]? = some (.int .i64 lv) := rfl
  go_enter Tryz.func82, Tryz.ntmps82
  go_wp2_with (first
    | (with_reducible show wpList _ _ _ ({ dst := _, op := Op.load 3 _, type := _, pos := _, after := _, guard := _ } :: _) _ _; go_loud (refine wpList_load1_has h rfl 3 _ rfl rfl hb e0 Tryz.underlying3 rfl ?_)))
  go_ret
  exact ⟨rfl, h⟩
set_option maxHeartbeats 2000000 in
set_option maxRecDepth 20000 in
theorem confThosei_eq (h : Has σ M w) (c : Nat → Int) (hm : confMayB c = true) {T : Nat} (hT : c 1 = (T : Nat)) {lv : Int} {bl : Nat} (hb : M bl = some (.cells #[.int .i64 lv] 3)) : Calls Tryz.prog 81 #[confV c, .func (.func 82) #[] #[.pointer (some ⟨bl, 0, none⟩)]] w fun r w' => ∃ v, r = .returned v ∧ Acc σ M w' 3 1 v (atCi c T lv).length (natv (atCi c T lv)) := by
  have hc := confMay_of hm
  have hT8 : 1 ≤ T ∧ T ≤ 8 := by have := hc.2.1; omega
  have hx : (ints .i64 14 c).extract 0 (0 + 14) = ints .i64 14 c := rfl
  have hz : (ints .i64 14 c).size = 14 := rfl
  have r1 : (ints .i64 14 c)[1]? = some (.int .i64 (T : Nat)) := by rw [← hT]; rfl
  have MY : Hid (∀ (M' : Mm) (w : World), Has σ M' w → Calls Tryz.prog 38 #[confV c] w fun e w' => e = .returned (.bool (confMayB c)) ∧ Has σ M' w') := Lib.hid fun M' w h => (confMay_any c w).mono fun e w' ⟨h1, h2⟩ => ⟨h1, h.below h2⟩
  rw [hm] at MY
  have G : Hid (∀ t, t < T → (ints .i64 14 c)[2 + t]? = some (.int .i64 (c (2 + t)))) := Lib.hid fun t ht => ints_get (by omega)
  unfold confV at MY ⊢
  generalize ints .i64 14 c = row at *
  clear hm hc hT
  go_enter Tryz.func81, Tryz.ntmps81
  go_upto_region 1 with (fail)
  obtain ⟨M1, hbx, hle, hbf, hnf⟩ := h.box (.cells row 29)
  generalize w.alloc _ = wx at hbx ⊢
  generalize w.heap.size = bf at hbf hnf ⊢
  clear h
  try clear w
  have h := hbx
  clear hbx
  obtain ⟨w, rfl⟩ : ∃ x : World, x = wx := ⟨_, rfl⟩
  have hbl := hle _ _ hb
  go_upto_region 5 with (first
    | ((with_reducible show wpList _ _ _ ({ dst := _, op := Op.load 29 _, type := _, pos := _, after := _, guard := _ } :: _) _ _); go_loud (refine wpList_agg_has h rfl 29 _ rfl rfl hbf hx hz Tryz.underlying29 rfl (by kernel_rfl) ?_); try simp only [Act.put, List.setIfInBounds_toArray, List.set_cons_zero, List.set_cons_succ])
    | (go_at_call 38; go_loud (refine (MY.out _ _ h).mono ?_); clear h; rintro _ w ⟨rfl, h⟩)
    | (with_reducible show wpList _ _ _ ({ dst := _, op := Op.load 3 _, type := _, pos := _, after := _, guard := _ } :: _) _ _; go_loud (refine wpList_load1_has h rfl 3 _ rfl rfl hbf r1 Tryz.underlying3 rfl ?_)))
  go_loopw [5, 6, 12] (fun o _ u wr => ∃ k : Nat, k ≤ T ∧ u = .int .i64 (k : Nat) ∧ Acc σ M1 wr 3 1 o (atCi c k lv).length (natv (atCi c k lv))) (fun _ _ u _ => T - (intOf u).toNat)
  case atStart => exact ⟨0, Nat.zero_le _, rfl, Acc.nil h _ _⟩
  case round =>
    clear h w
    obtain ⟨w, rfl⟩ : ∃ x : World, x = wr := ⟨_, rfl⟩
    obtain ⟨k, hk, rfl, M2, h, hle2, hown⟩ := hrel
    have hbf2 := hle2 _ _ hbf
    have hbl2 := hle2 _ _ hbl
    obtain ⟨Ao, co, rfl⟩ := hown.form
    by_cases hlt : k < T
    · have gk := G.out k hlt
      have hlt' : (k : Int) < (T : Int) := by omega
      have hk8 : (k : Int) < 8 := by omega
      have wk : IntKind.i64.wrap ((k : Int) + 1) = ((k + 1 : Nat) : Int) := by rw [show (k : Int) + 1 = ((k + 1 : Nat) : Int) by omega]; exact IntWalk.i64_in _ (by omega)
      have WT := Lib.hid (fun (w : World) (h : Has σ M2 w) => atWanti_eq (x := c (2 + k)) h hbl2)
      have SU := Lib.hid (atCi_succ c k lv)
      have HLT := Lib.hid hlt
      have hle8 := atCi_le c k lv
      clear hlt hk
      obtain ⟨b, hbb⟩ : ∃ b : Bool, (c (2 + k) == lv) = b := ⟨_, rfl⟩
      rw [hbb] at WT SU
      clear hbb
      generalize hal : atCi c k lv = al at *
      clear hal
      obtain ⟨nl, hnl⟩ : ∃ nl, al.length = nl := ⟨_, rfl⟩
      rw [hnl] at hown hle8
      have HNL := Lib.hid hnl
      rw [hnl]
      clear hnl
      cases b
      · go_wp2_with (first
          | (with_reducible show wpList _ _ _ ({ dst := _, op := Op.load 3 _, type := _, pos := _, after := _, guard := _ } :: _) _ _; go_loud (refine wpList_load1_has h rfl 3 _ rfl rfl hbf2 gk Tryz.underlying3 rfl ?_))
          | ((go_at_call 82; refine (WT.out _ h).mono ?_; clear h; rintro _ w ⟨rfl, h⟩)))
        go_roundw
        case rel => exact ⟨k + 1, by have := HLT.out; omega, by go_num, by rw [SU.out, if_neg (by decide), HNL.out]; exact ⟨M2, h, hle2, hown⟩⟩
        case measure => have := HLT.out; simp [intOf]; omega
      · go_wp2_with (first
          | (with_reducible show wpList _ _ _ ({ dst := _, op := Op.load 3 _, type := _, pos := _, after := _, guard := _ } :: _) _ _; go_loud (refine wpList_load1_has h rfl 3 _ rfl rfl hbf2 gk Tryz.underlying3 rfl ?_))
          | ((go_at_call 82; refine (WT.out _ h).mono ?_; clear h; rintro _ w ⟨rfl, h⟩))
          | (at_builtin; go_loud (refine wpList_append_lit h hle2 rfl _ _ _ rfl rfl Tryz.underlying136 info_int rfl (by omega) rfl hown rfl rfl rfl (by omega) (by omega) ?_); clear h hle2 hown; intro v w hacc))
        go_roundw
        case rel => exact ⟨k + 1, by have := HLT.out; omega, by go_num, by rw [SU.out, if_pos (by decide), natv_snoc', List.length_append, HNL.out]; exact hacc⟩
        case measure => have := HLT.out; simp [intOf]; omega
    · obtain rfl : k = T := by omega
      have hlt' : ¬ (k : Int) < (k : Int) := by omega
      go_wp2
      go_ret
      exact ⟨_, rfl, M2, h, Mm.le_trans hle hle2, hown.base fun b hb => Mm.none_of hle hb⟩
theorem confAti_eq (h : Has σ M w) (c : Nat → Int) (hm : confMayB c = true) {T : Nat} (hT : c 1 = (T : Nat)) (lv : Int) : Calls Tryz.prog 66 #[confV c, .int .i64 lv] w fun r w' => ∃ v, r = .returned v ∧ Acc σ M w' 3 1 v (atCi c T lv).length (natv (atCi c T lv)) := by
  have hx : (ints .i64 14 c).extract 0 (0 + 14) = ints .i64 14 c := rfl
  have hz : (ints .i64 14 c).size = 14 := rfl
  have TH := Lib.hid (fun (M' : Mm) (w : World) (bl : Nat) (h : Has σ M' w) (hb : M' bl = some (.cells #[.int .i64 lv] 3)) => confThosei_eq h c hm hT hb)
  unfold confV at TH ⊢
  generalize ints .i64 14 c = row at *
  generalize natv (atCi c T lv) = xs at *
  generalize (atCi c T lv).length = nl at *
  clear hm hT
  go_enter Tryz.func66, Tryz.ntmps66
  go_upto_region 1 with (fail)
  obtain ⟨M', hbx, hle, hb1, hb2, hn1, hn2⟩ := h.box2 (.cells row 29) (.cells #[.int .i64 lv] 3)
  generalize (w.alloc _).alloc _ = wx at hbx ⊢
  have hne_b1_b2 : w.heap.size ≠ w.heap.size + 1 := Nat.ne_of_lt (Nat.lt_succ_self _)
  generalize w.heap.size + 1 = b2 at hb2 hn2 hne_b1_b2 ⊢
  generalize w.heap.size = b1 at hb1 hn1 hne_b1_b2 ⊢
  clear h
  try clear w
  have h := hbx
  clear hbx
  obtain ⟨w, rfl⟩ : ∃ x : World, x = wx := ⟨_, rfl⟩
  go_wp2_with (first
    | ((with_reducible show wpList _ _ _ ({ dst := _, op := Op.load 29 _, type := _, pos := _, after := _, guard := _ } :: _) _ _); go_loud (refine wpList_agg_has h rfl 29 _ rfl rfl hb1 hx hz Tryz.underlying29 rfl (by kernel_rfl) ?_); try simp only [Act.put, List.setIfInBounds_toArray, List.set_cons_zero, List.set_cons_succ])
    | ((go_at_call 81; refine (TH.out _ _ _ h hb2).mono ?_; clear h; rintro _ w ⟨v, rfl, M5, h, hle5, hown⟩)))
  go_ret
  exact ⟨v, rfl, M5, h, Mm.le_trans hle hle5, hown.base fun b hb => Mm.none_of hle hb⟩
end
end
section
open Go.RowKit
set_option linter.unusedVariables false
set_option linter.unusedSimpArgs false
set_option linter.unnecessarySimpa false
theorem inR_cell (b : Nat) (h : b < 1) : InK exR 7 (b : Nat) 0 := ⟨by omega, by unfold baseK; simp <;> omega, by omega, by omega, fun _ => rfl, by unfold numK many baseK exR; simp <;> omega⟩
theorem inR_act (b : Nat) (h : b < 8) : InK exR 6 (b : Nat) 0 := ⟨by omega, by unfold baseK; simp <;> omega, by omega, by omega, fun _ => rfl, by unfold numK many baseK exR; simp <;> omega⟩
theorem wordR_cell : wordR 7 ((0 : Nat) : Int) 0 = 0 := by decide
theorem wordR_act : wordR 6 ((0 : Nat) : Int) 0 = 0 := by decide
theorem kind_0 {σ w : World} {M : Mm} (h : Has σ M w) : Calls Tryz.prog 65 #[.int .u64 0] w fun r w' => r = .returned (.int .i64 0) ∧ Has σ M w' :=
  (handleKind_any 0 (by decide) w).mono fun r w' ⟨e1, e2⟩ => ⟨e1, e2 ▸ h⟩
theorem exR_mayB : confMayB exR = true := by decide
theorem atCi_ex : atCi exR 1 0 = [0] := by decide
theorem own_one {M M' : Mm} {v : Value} (h : Own M M' 3 1 v [0].length (natv [0])) : ∃ g cap cur, v = .slice (some ⟨g, 0, none⟩) 1 cap ∧ M' g = some (.cells cur 3) ∧ cur[0]? = some (.int .i64 0) := by
  obtain ⟨_, h | ⟨g, cap, cur, e, _, hg, _, _, _, ht⟩⟩ := h
  · exact absurd h.2 (by decide)
  · refine ⟨g, cap, cur, e, hg, ?_⟩
    have h2 := congrArg (fun l : List Value => l[0]?) ht
    simpa [natv] using h2
set_option maxHeartbeats 4000000 in
set_option maxRecDepth 20000 in
theorem lkLimbo_eq {σ w : World} {M0 M : Mm} {lab : Nat → Nat} {p bw bl : Nat} {s : MachS} (h : Has σ M w) (hS : Seen M0 lab p bw s) (hM0 : M0.le M) {fr he wo : Int} {cl lo : Bool} (hl : M bl = some (.cells (lkR p bw fr 0 0 he wo true cl lo) 83)) : Calls Tryz.prog 33 #[.pointer (some ⟨bl, 0, none⟩)] w fun r w' => r = .returned (.tuple #[]) ∧ Has σ M w' := by
  have AT7 : Hid (∀ (w : World), Has σ M w → Calls Tryz.prog 48 #[.pointer (some ⟨bl, 0, none⟩), .int .i64 7, .int .i64 0, .int .i64 0] w fun r w' => r = .returned (.int .u64 0) ∧ Has σ M w') := Lib.hid fun w h => by
    obtain ⟨lab', hS'⟩ := hS.le hM0
    have := lkAt_eq h hS' hl 7 ((0 : Nat) : Int) 0 (inR_cell 0 (by omega)) (a := 18) (by unfold atK firsts numK baseK exR; simp) (by omega)
    rwa [wordR_cell] at this
  have AT6 : Hid (∀ (M' : Mm) (w : World), M.le M' → Has σ M' w → Calls Tryz.prog 48 #[.pointer (some ⟨bl, 0, none⟩), .int .i64 6, .int .i64 0, .int .i64 0] w fun r w' => r = .returned (.int .u64 0) ∧ Has σ M' w') := Lib.hid fun M' w hle h => by
    obtain ⟨lab', hS'⟩ := hS.le (Mm.le_trans hM0 hle)
    have := lkAt_eq h hS' (hle _ _ hl) 6 ((0 : Nat) : Int) 0 (inR_act 0 (by omega)) (a := 10) (by unfold atK firsts numK baseK exR; simp) (by omega)
    rwa [wordR_act] at this
  have KD := Lib.hid (fun (w : World) (h : Has σ M w) => kind_0 h)
  have CA := Lib.hid (fun (w : World) (h : Has σ M w) => confAti_eq h exR exR_mayB (T := 1) rfl 0)
  have e12 : (lkR p bw fr 0 0 he wo true cl lo)[12]? = some (.int .i64 1) := rfl
  have e15 : (lkR p bw fr 0 0 he wo true cl lo)[15]? = some (.int .i64 0) := rfl
  have e22 : (lkR p bw fr 0 0 he wo true cl lo)[22]? = some (.int .i64 0) := rfl
  have e23 : (lkR p bw fr 0 0 he wo true cl lo)[23]? = some (.int .i64 0) := rfl
  have e26 : (lkR p bw fr 0 0 he wo true cl lo)[26]? = some (.bool true) := rfl
  have l26 : 26 < (lkR p bw fr 0 0 he wo true cl lo).size := by show 26 < 29; decide
  have s26 : (lkR p bw fr 0 0 he wo true cl lo).setIfInBounds 26 (.bool true) = lkR p bw fr 0 0 he wo true cl lo := rfl
  have x1 : (lkR p bw fr 0 0 he wo true cl lo).extract 1 (1 + 14) = ints .i64 14 exR := rfl
  have z1 : (ints .i64 14 exR).size = 14 := rfl
  unfold confV at CA
  rw [atCi_ex] at CA
  generalize lkR p bw fr 0 0 he wo true cl lo = row at *
  generalize ints .i64 14 exR = crow at *
  clear hS hM0
  go_enter Tryz.func33, Tryz.ntmps33
  go_upto_region 1 with (first
    | (with_reducible show wpList _ _ _ ({ dst := _, op := Op.load 3 _, type := _, pos := _, after := _, guard := _ } :: _) _ _; go_loud (refine wpList_load1_has h rfl 3 _ rfl rfl hl e12 Tryz.underlying3 rfl ?_)))
  refine wp_loop_rounds 2 ?_
  rw [rounds_succ]
  go_upto_region 3 with (fail)
  go_wp2_with (first
    | (go_at_call 48; go_loud (refine (AT7.out _ h).mono ?_); clear h; rintro _ w ⟨rfl, h⟩)
    | (go_at_call 65; go_loud (refine (KD.out _ h).mono ?_); clear h; rintro _ w ⟨rfl, h⟩))
  rw [rounds_succ]
  go_wp2
  refine wp_region_head (Has σ M) 23 (by kernel_rfl) (by kernel_rfl) (fun _ _ _ _ _ h => h) h.drew ?_
  clear h
  simp only [List.take_succ_cons, List.take_zero, List.drop_succ_cons, List.drop_zero]
  repeat (first
    | go_big_quiet_skip
    | (go_big_quiet_want; first
      | (refine quiet_load_has 4 _ rfl rfl hl e26 Tryz.underlying4 rfl ?_; simp only [Act.put, List.setIfInBounds_toArray, List.set_cons_zero, List.set_cons_succ]; go_big_quiet_on)
      | (refine quiet_load_has 3 _ rfl rfl hl e22 Tryz.underlying3 rfl ?_; simp only [Act.put, List.setIfInBounds_toArray, List.set_cons_zero, List.set_cons_succ]; go_big_quiet_on)
      | (refine quiet_load_has 3 _ rfl rfl hl e23 Tryz.underlying3 rfl ?_; simp only [Act.put, List.setIfInBounds_toArray, List.set_cons_zero, List.set_cons_succ]; go_big_quiet_on)
      | (go_big_quiet_op; first | go_big_quiet_on | go_big_quiet_call (first | with_reducible exact fun _ => rfl))))
  refine wpQuiet_nil ?_
  try clear w
  intro w h
  go_wp2_with (first
    | (with_reducible show wpList _ _ _ ({ dst := _, op := Op.store 4 _ _, type := _, pos := _, after := _, guard := _ } :: _) _ _; go_loud (refine wpList_store1_has h rfl 4 _ _ rfl rfl rfl hl l26 rfl (by kernel_rfl) ?_); clear h; intro w h))
  replace h : Has σ (M.upd bl (.cells (row.setIfInBounds 26 (.bool true)) 83)) w := h
  rw [s26, Mm.upd_self hl] at h
  refine wp_region_held_drew (S := Has σ (M)) (by kernel_rfl) (h.drew) (fun hHeld => ?_)
  replace h := h.drew
  refine wpAnyH_take (i := 0) (v := ?_) rfl (by kernel_rfl) (by kernel_rfl) (by kernel_rfl) (fun _ _ _ h => h) (Or.inl ⟨by rfl, ?_⟩) hHeld ?_
  rotate_left
  · (intro wz _; go_simp; try with_reducible rfl)
  try simp only [List.getElem_toArray, List.getElem_cons_succ, List.getElem_cons_zero, Act.put, List.setIfInBounds_toArray, List.set_cons_zero, List.set_cons_succ]
  refine wpAnyH_take (i := 1) (v := ?_) rfl (by kernel_rfl) (by kernel_rfl) (by kernel_rfl) (fun _ _ _ h => h) (Or.inl ⟨by rfl, ?_⟩) hHeld ?_
  rotate_left
  · (intro wz _; go_simp; try with_reducible rfl)
  try simp only [List.getElem_toArray, List.getElem_cons_succ, List.getElem_cons_zero, Act.put, List.setIfInBounds_toArray, List.set_cons_zero, List.set_cons_succ]
  refine wpAnyH_take (i := 2) (v := ?_) rfl (by kernel_rfl) (by kernel_rfl) (by kernel_rfl) (fun _ _ _ h => h) (Or.inl ⟨by rfl, ?_⟩) hHeld ?_
  rotate_left
  · (intro wz _; go_simp; try with_reducible rfl)
  try simp only [List.getElem_toArray, List.getElem_cons_succ, List.getElem_cons_zero, Act.put, List.setIfInBounds_toArray, List.set_cons_zero, List.set_cons_succ]
  refine wpAnyH_take (i := 3) (v := _) rfl (by kernel_rfl) (by kernel_rfl) (by kernel_rfl) (fun _ _ _ h => h) (yields_agg rfl 29 _ rfl rfl hl x1 z1 Tryz.underlying29 rfl (by kernel_rfl)) hHeld ?_
  try simp only [List.getElem_toArray, List.getElem_cons_succ, List.getElem_cons_zero, Act.put, List.setIfInBounds_toArray, List.set_cons_zero, List.set_cons_succ]
  refine wpAnyH_take (i := 4) (v := ?_) rfl (by kernel_rfl) (by kernel_rfl) (by kernel_rfl) (fun _ _ _ h => h) (Or.inl ⟨by rfl, ?_⟩) hHeld ?_
  rotate_left
  · (intro wz _; go_simp; try with_reducible rfl)
  try simp only [List.getElem_toArray, List.getElem_cons_succ, List.getElem_cons_zero, Act.put, List.setIfInBounds_toArray, List.set_cons_zero, List.set_cons_succ]
  refine wpAnyH_take (i := 5) (v := ?_) rfl (by kernel_rfl) (by kernel_rfl) (by kernel_rfl) (fun _ _ _ h => h) (Or.inl ⟨by rfl, ?_⟩) hHeld ?_
  rotate_left
  · (intro wz _; go_simp; try with_reducible rfl)
  try simp only [List.getElem_toArray, List.getElem_cons_succ, List.getElem_cons_zero, Act.put, List.setIfInBounds_toArray, List.set_cons_zero, List.set_cons_succ]
  refine wpAnyH_take (i := 6) (v := ?_) rfl (by kernel_rfl) (by kernel_rfl) (by kernel_rfl) (fun _ _ _ h => h) (Or.inl ⟨by rfl, ?_⟩) hHeld ?_
  rotate_left
  · (intro wz _; go_simp; try with_reducible rfl)
  try simp only [List.getElem_toArray, List.getElem_cons_succ, List.getElem_cons_zero, Act.put, List.setIfInBounds_toArray, List.set_cons_zero, List.set_cons_succ]
  refine wpAnyH_take (i := 7) (v := _) rfl (by kernel_rfl) (by kernel_rfl) (by kernel_rfl) (fun _ _ _ h => h) (yields_load1 rfl 3 _ rfl rfl hl e15 Tryz.underlying3 rfl) hHeld ?_
  try simp only [List.getElem_toArray, List.getElem_cons_succ, List.getElem_cons_zero, Act.put, List.setIfInBounds_toArray, List.set_cons_zero, List.set_cons_succ]
  refine wpAnyH_take (i := 10) (v := ?_) rfl (by kernel_rfl) (by kernel_rfl) (by kernel_rfl) (fun _ _ _ h => h) (Or.inl ⟨by rfl, ?_⟩) hHeld ?_
  rotate_left
  · (intro wz _; go_simp; try with_reducible rfl)
  try simp only [List.getElem_toArray, List.getElem_cons_succ, List.getElem_cons_zero, Act.put, List.setIfInBounds_toArray, List.set_cons_zero, List.set_cons_succ]
  refine wpAnyH_ready (rs := [8]) (by kernel_rfl) (by simp) ?_
  refine AllReadyH.cons rfl (fun K hK => ?_) AllReadyH.nil
  (go_simp; go_wp2_with (go_at_call 66; refine (CA.out _ h).mono ?_; clear h hHeld; rintro _ w ⟨v, rfl, MC, h, hleC, hown⟩; obtain ⟨g, cap, cur, rfl, hg, hg0⟩ := own_one hown; clear hown))
  refine hK.out _ _ (h.le hleC) (fun hHeld => ?_)
  clear hK K
  try simp only [Act.put, List.setIfInBounds_toArray, List.set_cons_zero, List.set_cons_succ]
  refine wpAnyH_take (i := 9) (v := ?_) rfl (by kernel_rfl) (by kernel_rfl) (by kernel_rfl) (fun _ _ _ h => h) (Or.inl ⟨by rfl, ?_⟩) hHeld ?_
  rotate_left
  · (intro wz _; go_simp; try with_reducible rfl)
  try simp only [List.getElem_toArray, List.getElem_cons_succ, List.getElem_cons_zero, Act.put, List.setIfInBounds_toArray, List.set_cons_zero, List.set_cons_succ]
  refine wpAnyH_done (by kernel_rfl) ?_ _
  clear hHeld
  have AT6' := Lib.hid (fun (w : World) (h : Has σ MC w) => AT6.out MC w hleC h)
  have hl2 := hleC _ _ hl
  have lt01 : (0 : Int) < 1 := by decide
  have ln01 : 0 < 1 := by decide
  go_wp2
  refine wp_loop_rounds 2 ?_
  rw [rounds_succ]
  go_wp2_with (first
    | (with_reducible show wpList _ _ _ ({ dst := _, op := Op.load 3 _, type := _, pos := _, after := _, guard := _ } :: _) _ _; go_loud (refine wpList_load1_has h rfl 3 _ rfl rfl hg hg0 Tryz.underlying3 rfl ?_))
    | (with_reducible show wpList _ _ _ ({ dst := _, op := Op.load 4 _, type := _, pos := _, after := _, guard := _ } :: _) _ _; go_loud (refine wpList_load1_has h rfl 4 _ rfl rfl hl2 e26 Tryz.underlying4 rfl ?_))
    | (go_at_call 48; go_loud (refine (AT6'.out _ h).mono ?_); clear h; rintro _ w ⟨rfl, h⟩)
    | (with_reducible show wpList _ _ _ ({ dst := _, op := Op.store 4 _ _, type := _, pos := _, after := _, guard := _ } :: _) _ _; go_loud (refine wpList_store1_has h rfl 4 _ _ rfl rfl rfl hl2 l26 rfl (by kernel_rfl) ?_); clear h; intro w h))
  replace h : Has σ (MC.upd bl (.cells (row.setIfInBounds 26 (.bool true)) 83)) w := h
  rw [s26, Mm.upd_self hl2] at h
  rw [rounds_succ]
  go_wp2
  go_end0
  exact ⟨rfl, h.le hleC⟩
end
end Go.Proofs.YtlpkimpdeeiaaaaGreat
