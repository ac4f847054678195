/- Layer 13: what a state does: Push and Pop of a lone thread. -/
import Derived.Test.YtjnhklhgcbknkaaGreatDoorMnA
import Derived.Test.YtjnhklhgcbknkaaGreatDoorStepP
namespace Go.Proofs.YtjnhklhgcbknkaaGreatDoor
open Go.RowKit
set_option linter.unusedVariables false
set_option linter.unusedSimpArgs false
set_option linter.unnecessarySimpa false
abbrev nilS : Value := .slice none 0 0
/-- The state of a lone thread's level: rows, the line, live nodes, told handles; an empty cache. -/
def stR (se q li tl : Value) : Array Value := #[.int .i64 1, .int .i64 1, .int .i64 0, .int .i64 0, .int .i64 0, .int .i64 0, .int .i64 0, .int .i64 0, .int .i64 0, .int .i64 0, .int .i64 2, .int .i64 1, .int .i64 1, .int .i64 0, .int .i64 0, se, .int .i64 0, .bool false, .int .i64 0, .bool false, .int .i64 0, .bool false, .int .i64 0, .bool false, .int .i64 0, .int .u64 0, .int .i64 0, .bool false, .int .i64 0, .bool false, .int .i64 0, .bool false, .int .i64 0, .bool false, .int .i64 0, .int .u64 0, .int .i64 0, .int .u64 0, .int .u64 0, .int .i64 0, .int .u64 0, .int .u64 0, .int .i64 0, .int .u64 0, .int .u64 0, .int .i64 0, .int .u64 0, .int .u64 0, .int .i64 0, .int .u64 0, .int .u64 0, .int .i64 0, .int .u64 0, .int .u64 0, .int .i64 0, .int .u64 0, .int .u64 0, .int .i64 0, .int .u64 0, .int .u64 0, q, li, tl]
def st0 : Array Value := #[.int .i64 0, .int .i64 0, .int .i64 0, .int .i64 0, .int .i64 0, .int .i64 0, .int .i64 0, .int .i64 0, .int .i64 0, .int .i64 0, .int .i64 0, .int .i64 0, .int .i64 0, .int .i64 0, .int .i64 0, nilS, .int .i64 0, .bool false, .int .i64 0, .bool false, .int .i64 0, .bool false, .int .i64 0, .bool false, .int .i64 0, .int .u64 0, .int .i64 0, .bool false, .int .i64 0, .bool false, .int .i64 0, .bool false, .int .i64 0, .bool false, .int .i64 0, .int .u64 0, .int .i64 0, .int .u64 0, .int .u64 0, .int .i64 0, .int .u64 0, .int .u64 0, .int .i64 0, .int .u64 0, .int .u64 0, .int .i64 0, .int .u64 0, .int .u64 0, .int .i64 0, .int .u64 0, .int .u64 0, .int .i64 0, .int .u64 0, .int .u64 0, .int .i64 0, .int .u64 0, .int .u64 0, .int .i64 0, .int .u64 0, .int .u64 0, nilS, nilS, nilS]
theorem zst : (Tryz.prog.info? 85).bind (·.zero) = some (.agg st0) := by kernel_rfl
theorem zans : (Tryz.prog.info? 30).bind (·.zero) = some (.agg (ansR 0 0 0 0 0 0)) := by kernel_rfl
theorem zline : (Tryz.prog.info? 80).bind (·.zero) = some (.agg #[nilS]) := by kernel_rfl
theorem zpair : (Tryz.prog.info? 25).bind (·.zero) = some (.agg #[.int .u64 0, .int .u64 0]) := by kernel_rfl
theorem info_pair : (Tryz.prog.info? 25).map (fun i => (i.zero, i.size, i.bytes)) = some (some (.agg #[.int .u64 0, .int .u64 0]), 2, 16) := by kernel_rfl
theorem ext_all {cs : Array Value} {n : Nat} (h : cs.size = n) : cs.extract 0 (0 + n) = cs := by subst h; simp
theorem stR_size (se q li tl : Value) : (stR se q li tl).size = 63 := rfl
theorem st0_size : st0.size = 63 := rfl
theorem stR_all (se q li tl : Value) : (stR se q li tl).extract 0 (0 + 63) = stR se q li tl := ext_all (stR_size se q li tl)
theorem stR_conf (se q li tl : Value) : (stR se q li tl).extract 0 (0 + 14) = oneR := rfl
theorem stR_line (se q li tl : Value) : (stR se q li tl).extract 60 (60 + 1) = #[q] := rfl
theorem stR_put (se q li tl v : Value) : (stR se q li tl).setIfInBounds 60 v = stR se v li tl := rfl
theorem stR_lv (se q li tl : Value) : (stR se q li tl)[14]? = some (.int .i64 0) := rfl
theorem stR_one {se q li tl : Value} (h : se.oneCell' = true ∧ q.oneCell' = true ∧ li.oneCell' = true ∧ tl.oneCell' = true) : (stR se q li tl).toList.all (·.oneCell') = true := by
  obtain ⟨h1, h2, h3, h4⟩ := h
  simp [stR, Value.oneCell'] at h1 h2 h3 h4 ⊢
  exact ⟨h1, h2, h3, h4⟩
theorem ansR_one (er pa pb ha n ky : Int) : (ansR er pa pb ha n ky).toList.all (·.oneCell') = true := rfl
theorem ansR_all (er pa pb ha n ky : Int) : (ansR er pa pb ha n ky).extract 0 (0 + 6) = ansR er pa pb ha n ky := rfl
theorem ansR_size (er pa pb ha n ky : Int) : (ansR er pa pb ha n ky).size = 6 := rfl
def PushPost (σ : World) (M : Mm) (pa pb : Int) (r : Ending) (w' : World) : Prop := ∃ (A : Option Addr) (c : Nat) (M' : Mm), r = .returned (.agg #[.slice A 1 c]) ∧ Has σ M' w' ∧ M.le M' ∧ Own M M' 25 2 (.slice A 1 c) 1 [.int .u64 pa, .int .u64 pb]
section
variable {σ w : World} {M : Mm}
set_option maxHeartbeats 1000000 in
set_option maxRecDepth 20000 in
theorem push_eq (h : Has σ M w) (pa pb : Int) : Calls Tryz.prog 116 #[.agg #[nilS], .agg #[.int .u64 pa, .int .u64 pb]] w fun r w' => PushPost σ M pa pb r w' := by
  have q0 : (#[nilS] : Array Value)[0]? = some nilS := rfl
  have p0 : (#[.int .u64 pa, .int .u64 pb] : Array Value).extract 0 (0 + 2) = #[.int .u64 pa, .int .u64 pb] := rfl
  go_enter Tryz.func116, Tryz.ntmps116
  go_upto_region 1 with (first
    | ((with_reducible show wpList _ _ _ ({ dst := _, op := Op.box 80 _, type := _, pos := _, after := _, guard := _ } :: _) _ _); refine wpList_box_has h rfl 80 _ rfl ?_; clear h; intro b2 w h hn2; try simp only [Act.put, List.setIfInBounds_toArray, List.set_cons_zero, List.set_cons_succ])
    | ((with_reducible show wpList _ _ _ ({ dst := _, op := Op.box 25 _, type := _, pos := _, after := _, guard := _ } :: _) _ _); refine wpList_box_has h rfl 25 _ rfl ?_; clear h; intro b3 w h hn3; try simp only [Act.put, List.setIfInBounds_toArray, List.set_cons_zero, List.set_cons_succ])
    | ((with_reducible show wpList _ _ _ ({ dst := _, op := Op.alloc 80, type := _, pos := _, after := _, guard := _ } :: _) _ _); refine wpList_alloc_has h rfl 80 rfl _ zline ?_; clear h; intro b4 w h hn4; try simp only [Act.put, List.setIfInBounds_toArray, List.set_cons_zero, List.set_cons_succ]))
  replace hn2 : M b2 = none := hn2
  replace hn3 : (M.upd b2 (.cells #[nilS] 80)) b3 = none := hn3
  replace hn4 : ((M.upd b2 (.cells #[nilS] 80)).upd b3 (.cells #[.int .u64 pa, .int .u64 pb] 25)) b4 = none := hn4
  replace h : Has σ (((M.upd b2 (.cells #[nilS] 80)).upd b3 (.cells #[.int .u64 pa, .int .u64 pb] 25)).upd b4 (.cells #[nilS] 80)) w := h
  have hle2 : M.le ((M.upd b2 (.cells #[nilS] 80)).upd b3 (.cells #[.int .u64 pa, .int .u64 pb] 25)) := Mm.le_trans (Mm.le_upd' hn2 _) (Mm.le_upd' hn3 _)
  have hb2 : ((M.upd b2 (.cells #[nilS] 80)).upd b3 (.cells #[.int .u64 pa, .int .u64 pb] 25)) b2 = some (.cells #[nilS] 80) := (Mm.le_upd' hn3 _) _ _ (Mm.upd_same _ _ _)
  have hb3 : ((M.upd b2 (.cells #[nilS] 80)).upd b3 (.cells #[.int .u64 pa, .int .u64 pb] 25)) b3 = some (.cells #[.int .u64 pa, .int .u64 pb] 25) := (Mm.le_refl _) _ _ (Mm.upd_same _ _ _)
  have n_b2_b3 : b2 ≠ b3 := Mm.ne_of hn3 ((Mm.le_refl _) _ _ (Mm.upd_same _ _ _))
  replace hn3 : M b3 = none := Mm.none_of (Mm.le_upd' hn2 _) hn3
  replace hn2 : M b2 = none := Mm.none_of (Mm.le_refl _) hn2
  generalize ((M.upd b2 (.cells #[nilS] 80)).upd b3 (.cells #[.int .u64 pa, .int .u64 pb] 25)) = M2 at h hle2 hb2 hb3 hn4
  have hb4 := Mm.upd_same M2 b4 (.cells #[nilS] 80)
  have hle4 := Mm.le_upd' hn4 (.cells #[nilS] 80)
  have hb24 := hle4 _ _ hb2
  go_upto_region 2 with (first
    | (with_reducible show wpList _ _ _ ({ dst := _, op := Op.load 62 _, type := _, pos := _, after := _, guard := _ } :: _) _ _; refine wpList_load1_has h rfl 62 _ rfl rfl hb24 q0 Tryz.underlying62 rfl ?_))
  refine wp_region_held_drew (S := Has σ (M2)) (by kernel_rfl) (h.drew.le hle4) (fun hHeld => ?_)
  replace h := h.drew
  refine wpAnyH_take (i := 0) (v := ?_) rfl (by kernel_rfl) (by kernel_rfl) (by kernel_rfl) (fun _ _ _ h => h) (Or.inl ⟨by rfl, ?_⟩) hHeld ?_
  rotate_left
  · (intro wz _; go_simp; try with_reducible rfl)
  try simp only [List.getElem_toArray, List.getElem_cons_succ, List.getElem_cons_zero, Act.put, List.setIfInBounds_toArray, List.set_cons_zero, List.set_cons_succ]
  refine wpAnyH_take (i := 1) (v := _) rfl (by kernel_rfl) (by kernel_rfl) (by kernel_rfl) (fun _ _ _ h => h) (yields_load1 rfl 62 _ rfl rfl hb2 q0 Tryz.underlying62 rfl) hHeld ?_
  try simp only [List.getElem_toArray, List.getElem_cons_succ, List.getElem_cons_zero, Act.put, List.setIfInBounds_toArray, List.set_cons_zero, List.set_cons_succ]
  refine wpAnyH_take (i := 2) (v := ?_) rfl (by kernel_rfl) (by kernel_rfl) (by kernel_rfl) (fun _ _ _ h => h) (Or.inl ⟨by rfl, ?_⟩) hHeld ?_
  rotate_left
  · (intro wz _; go_simp; try with_reducible rfl)
  try simp only [List.getElem_toArray, List.getElem_cons_succ, List.getElem_cons_zero, Act.put, List.setIfInBounds_toArray, List.set_cons_zero, List.set_cons_succ]
  refine wpAnyH_take (i := 3) (v := ?_) rfl (by kernel_rfl) (by kernel_rfl) (by kernel_rfl) (fun _ _ _ h => h) (Or.inl ⟨by rfl, ?_⟩) hHeld ?_
  rotate_left
  · (intro wz _; go_simp; try with_reducible rfl)
  try simp only [List.getElem_toArray, List.getElem_cons_succ, List.getElem_cons_zero, Act.put, List.setIfInBounds_toArray, List.set_cons_zero, List.set_cons_succ]
  refine wpAnyH_take (i := 4) (v := ?_) rfl (by kernel_rfl) (by kernel_rfl) (by kernel_rfl) (fun _ _ _ h => h) (Or.inl ⟨by rfl, ?_⟩) hHeld ?_
  rotate_left
  · (intro wz _; go_simp; try with_reducible rfl)
  try simp only [List.getElem_toArray, List.getElem_cons_succ, List.getElem_cons_zero, Act.put, List.setIfInBounds_toArray, List.set_cons_zero, List.set_cons_succ]
  refine wpAnyH_take (i := 5) (v := _) rfl (by kernel_rfl) (by kernel_rfl) (by kernel_rfl) (fun _ _ _ h => h) (yields_agg rfl 25 _ rfl rfl hb3 p0 rfl Tryz.underlying25 rfl (by kernel_rfl)) hHeld ?_
  try simp only [List.getElem_toArray, List.getElem_cons_succ, List.getElem_cons_zero, Act.put, List.setIfInBounds_toArray, List.set_cons_zero, List.set_cons_succ]
  refine wpAnyH_ready (rs := [6]) (by kernel_rfl) (by simp) ?_
  refine AllReadyH.cons rfl (fun K hK => ?_) AllReadyH.nil
  (refine step_lit1 rfl 62 _ rfl Tryz.underlying62 info_pair rfl (by decide) (by decide) (by kernel_rfl) ?_)
  refine hK.out _ _ ((h.quietAlloc _).le hle4) (fun hHeld => ?_)
  clear hK K
  try simp only [Act.put, List.setIfInBounds_toArray, List.set_cons_zero, List.set_cons_succ]
  have hown0 : Own (M2.upd b4 (.cells #[nilS] 80)) (M2.upd b4 (.cells #[nilS] 80)) 25 2 nilS 0 [] := Own.nil _ _ _ _
  refine wpAnyH_ready (rs := [7]) (by kernel_rfl) (by simp) ?_
  refine AllReadyH.cons rfl (fun K hK => ?_) AllReadyH.nil
  (refine step_applit h (Mm.le_refl _) rfl _ _ _ rfl rfl Tryz.underlying62 info_pair rfl (by omega) rfl hown0 rfl rfl rfl (by omega) (by omega) ?_; clear h hHeld; intro v w hacc; obtain ⟨M6, h, hle6, hown6⟩ := hacc; obtain ⟨A, c, rfl⟩ := hown6.form)
  refine hK.out _ _ (h.le (Mm.le_trans hle4 hle6)) (fun hHeld => ?_)
  clear hK K
  try simp only [Act.put, List.setIfInBounds_toArray, List.set_cons_zero, List.set_cons_succ]
  refine wpAnyH_take (i := 8) (v := ?_) rfl (by kernel_rfl) (by kernel_rfl) (by kernel_rfl) (fun _ _ _ h => h) (Or.inl ⟨by rfl, ?_⟩) hHeld ?_
  rotate_left
  · (intro wz _; go_simp; try with_reducible rfl)
  try simp only [List.getElem_toArray, List.getElem_cons_succ, List.getElem_cons_zero, Act.put, List.setIfInBounds_toArray, List.set_cons_zero, List.set_cons_succ]
  have hb46 := hle6 _ _ hb4
  have hle7 : M2.le (M6.upd b4 (.cells #[.slice A 1 c] 80)) := Mm.le_upd (Mm.le_trans hle4 hle6) hn4 _
  refine wpAnyH_ready (rs := [9]) (by kernel_rfl) (by simp) ?_
  refine AllReadyH.cons rfl (fun K hK => ?_) AllReadyH.nil
  (refine step_storeAll (cells := #[.slice A 1 c]) h rfl 80 _ _ rfl rfl rfl hb46 rfl rfl (by kernel_rfl) rfl ?_; clear h hHeld; intro w h)
  refine hK.out _ _ (h.le hle7) (fun hHeld => ?_)
  clear hK K
  try simp only [Act.put, List.setIfInBounds_toArray, List.set_cons_zero, List.set_cons_succ]
  refine wpAnyH_done (by kernel_rfl) ?_ _
  go_wp2
  exact bodyPost_ret (results_c1 rfl (CellRes.of h (Mm.upd_same _ _ _) rfl Tryz.underlying80 rfl (by kernel_rfl))) rfl ⟨A, c, _, rfl, h, Mm.le_trans hle2 hle7, (hown6.upd_at hb4 _).base fun b hb => Mm.none_of (Mm.le_trans hle2 hle4) hb⟩
theorem pair_all (a b : Value) : (#[a, b] : Array Value).extract 0 (0 + 2) = #[a, b] := rfl
theorem pair_size (a b : Value) : (#[a, b] : Array Value).size = 2 := rfl
set_option maxHeartbeats 1000000 in
theorem peek_no (h : Has σ M w) : Calls Tryz.prog 141 #[.agg #[nilS]] w fun r w' => r = .returned (.tuple #[.agg #[.int .u64 0, .int .u64 0], .bool false]) ∧ Has σ M w' := by
  go_enter Tryz.func141, Tryz.ntmps141
  go_upto_region 2 with (first
    | ((with_reducible show wpList _ _ _ ({ dst := _, op := Op.box 80 _, type := _, pos := _, after := _, guard := _ } :: _) _ _); refine wpList_box_has h rfl 80 _ rfl ?_; clear h; intro b1 w h hn1; try simp only [Act.put, List.setIfInBounds_toArray, List.set_cons_zero, List.set_cons_succ])
    | ((with_reducible show wpList _ _ _ ({ dst := some 2, op := Op.alloc 25, type := _, pos := _, after := _, guard := _ } :: _) _ _); refine wpList_alloc_has h rfl 25 rfl _ zpair ?_; clear h; intro b2 w h hn2; try simp only [Act.put, List.setIfInBounds_toArray, List.set_cons_zero, List.set_cons_succ])
    | ((with_reducible show wpList _ _ _ ({ dst := some 4, op := Op.alloc 25, type := _, pos := _, after := _, guard := _ } :: _) _ _); refine wpList_alloc_has h rfl 25 rfl _ zpair ?_; clear h; intro b4 w h hn4; try simp only [Act.put, List.setIfInBounds_toArray, List.set_cons_zero, List.set_cons_succ]))
  replace hn1 : M b1 = none := hn1
  replace hn2 : (M.upd b1 (.cells #[nilS] 80)) b2 = none := hn2
  replace hn4 : ((M.upd b1 (.cells #[nilS] 80)).upd b2 (.cells #[.int .u64 0, .int .u64 0] 25)) b4 = none := hn4
  replace h : Has σ (((M.upd b1 (.cells #[nilS] 80)).upd b2 (.cells #[.int .u64 0, .int .u64 0] 25)).upd b4 (.cells #[.int .u64 0, .int .u64 0] 25)) w := h
  have hle2 : M.le (((M.upd b1 (.cells #[nilS] 80)).upd b2 (.cells #[.int .u64 0, .int .u64 0] 25)).upd b4 (.cells #[.int .u64 0, .int .u64 0] 25)) := Mm.le_trans (Mm.le_upd' hn1 _) (Mm.le_trans (Mm.le_upd' hn2 _) (Mm.le_upd' hn4 _))
  have hb1 : (((M.upd b1 (.cells #[nilS] 80)).upd b2 (.cells #[.int .u64 0, .int .u64 0] 25)).upd b4 (.cells #[.int .u64 0, .int .u64 0] 25)) b1 = some (.cells #[nilS] 80) := (Mm.le_trans (Mm.le_upd' hn2 _) (Mm.le_upd' hn4 _)) _ _ (Mm.upd_same _ _ _)
  have hb2 : (((M.upd b1 (.cells #[nilS] 80)).upd b2 (.cells #[.int .u64 0, .int .u64 0] 25)).upd b4 (.cells #[.int .u64 0, .int .u64 0] 25)) b2 = some (.cells #[.int .u64 0, .int .u64 0] 25) := (Mm.le_upd' hn4 _) _ _ (Mm.upd_same _ _ _)
  have hb4 : (((M.upd b1 (.cells #[nilS] 80)).upd b2 (.cells #[.int .u64 0, .int .u64 0] 25)).upd b4 (.cells #[.int .u64 0, .int .u64 0] 25)) b4 = some (.cells #[.int .u64 0, .int .u64 0] 25) := (Mm.le_refl _) _ _ (Mm.upd_same _ _ _)
  have n_b1_b2 : b1 ≠ b2 := Mm.ne_of hn2 ((Mm.le_refl _) _ _ (Mm.upd_same _ _ _))
  have n_b1_b4 : b1 ≠ b4 := Mm.ne_of hn4 ((Mm.le_upd' hn2 _) _ _ (Mm.upd_same _ _ _))
  have n_b2_b4 : b2 ≠ b4 := Mm.ne_of hn4 ((Mm.le_refl _) _ _ (Mm.upd_same _ _ _))
  replace hn4 : M b4 = none := Mm.none_of (Mm.le_trans (Mm.le_upd' hn1 _) (Mm.le_upd' hn2 _)) hn4
  replace hn2 : M b2 = none := Mm.none_of (Mm.le_upd' hn1 _) hn2
  replace hn1 : M b1 = none := Mm.none_of (Mm.le_refl _) hn1
  generalize (((M.upd b1 (.cells #[nilS] 80)).upd b2 (.cells #[.int .u64 0, .int .u64 0] 25)).upd b4 (.cells #[.int .u64 0, .int .u64 0] 25)) = M2 at h hle2 hb1 hb2 hb4
  have q0 : (#[nilS] : Array Value)[0]? = some nilS := rfl
  have z2 := pair_all (.int .u64 0) (.int .u64 0)
  go_wp2_with (first
    | (with_reducible show wpList _ _ _ ({ dst := _, op := Op.load 62 _, type := _, pos := _, after := _, guard := _ } :: _) _ _; refine wpList_load1_has h rfl 62 _ rfl rfl hb1 q0 Tryz.underlying62 rfl ?_)
    | ((with_reducible show wpList _ _ _ ({ dst := _, op := Op.load 25 _, type := _, pos := _, after := _, guard := _ } :: _) _ _); refine wpList_agg_has h rfl 25 _ rfl rfl hb4 z2 rfl Tryz.underlying25 rfl (by kernel_rfl) ?_; try simp only [Act.put, List.setIfInBounds_toArray, List.set_cons_zero, List.set_cons_succ])
    | (with_reducible show wpList _ _ _ ({ dst := _, op := Op.store 25 _ _, type := _, pos := _, after := _, guard := _ } :: _) _ _; refine wpList_storeAll_has h rfl 25 _ _ rfl rfl rfl hb2 rfl rfl rfl (by kernel_rfl) rfl ?_; clear h; intro w h))
  exact bodyPost_ret (results_ct rfl (CellRes.of h (Mm.upd_same _ _ _) rfl Tryz.underlying25 rfl (by kernel_rfl))) rfl ⟨rfl, h.le (Mm.le_upd hle2 hn2 _)⟩
set_option maxHeartbeats 1000000 in
theorem peek_yes (h : Has σ M w) (A : Option Addr) (c : Nat) (pa pb : Int) (hr : Rd M 2 (.slice A 1 c) 1 [.int .u64 pa, .int .u64 pb]) :
    Calls Tryz.prog 141 #[.agg #[.slice A 1 c]] w fun r w' => r = .returned (.tuple #[.agg #[.int .u64 pa, .int .u64 pb], .bool true]) ∧ Has σ M w' := by
  obtain ⟨_, A', c', e, hc, hA⟩ := hr
  cases e
  obtain ⟨g, o, cs, t, fz, rfl, hg, hx⟩ := hA (by omega)
  have hx2 : cs.extract o (o + 2) = #[.int .u64 pa, .int .u64 pb] := extract_of (n := 2) hx rfl
  clear hx hA
  go_enter Tryz.func141, Tryz.ntmps141
  go_upto_region 2 with (first
    | ((with_reducible show wpList _ _ _ ({ dst := _, op := Op.box 80 _, type := _, pos := _, after := _, guard := _ } :: _) _ _); refine wpList_box_has h rfl 80 _ rfl ?_; clear h; intro b1 w h hn1; try simp only [Act.put, List.setIfInBounds_toArray, List.set_cons_zero, List.set_cons_succ])
    | ((with_reducible show wpList _ _ _ ({ dst := some 2, op := Op.alloc 25, type := _, pos := _, after := _, guard := _ } :: _) _ _); refine wpList_alloc_has h rfl 25 rfl _ zpair ?_; clear h; intro b2 w h hn2; try simp only [Act.put, List.setIfInBounds_toArray, List.set_cons_zero, List.set_cons_succ])
    | ((with_reducible show wpList _ _ _ ({ dst := some 4, op := Op.alloc 25, type := _, pos := _, after := _, guard := _ } :: _) _ _); refine wpList_alloc_has h rfl 25 rfl _ zpair ?_; clear h; intro b4 w h hn4; try simp only [Act.put, List.setIfInBounds_toArray, List.set_cons_zero, List.set_cons_succ]))
  replace hn1 : M b1 = none := hn1
  replace hn2 : (M.upd b1 (.cells #[.slice (some ⟨g, o, none⟩) 1 c] 80)) b2 = none := hn2
  replace hn4 : ((M.upd b1 (.cells #[.slice (some ⟨g, o, none⟩) 1 c] 80)).upd b2 (.cells #[.int .u64 0, .int .u64 0] 25)) b4 = none := hn4
  replace h : Has σ (((M.upd b1 (.cells #[.slice (some ⟨g, o, none⟩) 1 c] 80)).upd b2 (.cells #[.int .u64 0, .int .u64 0] 25)).upd b4 (.cells #[.int .u64 0, .int .u64 0] 25)) w := h
  have hle2 : M.le (((M.upd b1 (.cells #[.slice (some ⟨g, o, none⟩) 1 c] 80)).upd b2 (.cells #[.int .u64 0, .int .u64 0] 25)).upd b4 (.cells #[.int .u64 0, .int .u64 0] 25)) := Mm.le_trans (Mm.le_upd' hn1 _) (Mm.le_trans (Mm.le_upd' hn2 _) (Mm.le_upd' hn4 _))
  have hb1 : (((M.upd b1 (.cells #[.slice (some ⟨g, o, none⟩) 1 c] 80)).upd b2 (.cells #[.int .u64 0, .int .u64 0] 25)).upd b4 (.cells #[.int .u64 0, .int .u64 0] 25)) b1 = some (.cells #[.slice (some ⟨g, o, none⟩) 1 c] 80) := (Mm.le_trans (Mm.le_upd' hn2 _) (Mm.le_upd' hn4 _)) _ _ (Mm.upd_same _ _ _)
  have hb2 : (((M.upd b1 (.cells #[.slice (some ⟨g, o, none⟩) 1 c] 80)).upd b2 (.cells #[.int .u64 0, .int .u64 0] 25)).upd b4 (.cells #[.int .u64 0, .int .u64 0] 25)) b2 = some (.cells #[.int .u64 0, .int .u64 0] 25) := (Mm.le_upd' hn4 _) _ _ (Mm.upd_same _ _ _)
  have hb4 : (((M.upd b1 (.cells #[.slice (some ⟨g, o, none⟩) 1 c] 80)).upd b2 (.cells #[.int .u64 0, .int .u64 0] 25)).upd b4 (.cells #[.int .u64 0, .int .u64 0] 25)) b4 = some (.cells #[.int .u64 0, .int .u64 0] 25) := (Mm.le_refl _) _ _ (Mm.upd_same _ _ _)
  have n_b1_b2 : b1 ≠ b2 := Mm.ne_of hn2 ((Mm.le_refl _) _ _ (Mm.upd_same _ _ _))
  have n_b1_b4 : b1 ≠ b4 := Mm.ne_of hn4 ((Mm.le_upd' hn2 _) _ _ (Mm.upd_same _ _ _))
  have n_b2_b4 : b2 ≠ b4 := Mm.ne_of hn4 ((Mm.le_refl _) _ _ (Mm.upd_same _ _ _))
  replace hn4 : M b4 = none := Mm.none_of (Mm.le_trans (Mm.le_upd' hn1 _) (Mm.le_upd' hn2 _)) hn4
  replace hn2 : M b2 = none := Mm.none_of (Mm.le_upd' hn1 _) hn2
  replace hn1 : M b1 = none := Mm.none_of (Mm.le_refl _) hn1
  generalize (((M.upd b1 (.cells #[.slice (some ⟨g, o, none⟩) 1 c] 80)).upd b2 (.cells #[.int .u64 0, .int .u64 0] 25)).upd b4 (.cells #[.int .u64 0, .int .u64 0] 25)) = M2 at h hle2 hb1 hb2 hb4
  have q0 : (#[.slice (some ⟨g, o, none⟩) 1 c] : Array Value)[0]? = some (.slice (some ⟨g, o, none⟩) 1 c) := rfl
  have hg2 := hle2 _ _ hg
  go_wp2_with (first
    | (with_reducible show wpList _ _ _ ({ dst := _, op := Op.load 62 _, type := _, pos := _, after := _, guard := _ } :: _) _ _; refine wpList_load1_has h rfl 62 _ rfl rfl hb1 q0 Tryz.underlying62 rfl ?_)
    | ((with_reducible show wpList _ _ _ ({ dst := _, op := Op.load 25 _, type := _, pos := _, after := _, guard := _ } :: _) _ _); refine wpList_agg_has h rfl 25 _ rfl rfl hg2 hx2 rfl Tryz.underlying25 rfl (by kernel_rfl) ?_; try simp only [Act.put, List.setIfInBounds_toArray, List.set_cons_zero, List.set_cons_succ])
    | (with_reducible show wpList _ _ _ ({ dst := _, op := Op.store 25 _ _, type := _, pos := _, after := _, guard := _ } :: _) _ _; refine wpList_storeAll_has (cells := #[.int .u64 pa, .int .u64 pb]) h rfl 25 _ _ rfl rfl rfl hb2 rfl rfl rfl (by kernel_rfl) rfl ?_; clear h; intro w h))
  exact bodyPost_ret (results_ct rfl (CellRes.of h (Mm.upd_same _ _ _) rfl Tryz.underlying25 rfl (by kernel_rfl))) rfl ⟨rfl, h.le (Mm.le_upd hle2 hn2 _)⟩
set_option maxHeartbeats 1000000 in
set_option maxRecDepth 20000 in
theorem pop_no (h : Has σ M w) : Calls Tryz.prog 117 #[.agg #[nilS]] w fun r w' => r = .returned (.tuple #[.agg #[nilS], .agg #[.int .u64 0, .int .u64 0], .bool false]) ∧ Has σ M w' := by
  have q0 : (#[nilS] : Array Value).extract 0 (0 + 1) = #[nilS] := rfl
  have PK := Lib.hid (fun (M : Mm) (w : World) (h : Has σ M w) => peek_no h)
  have z2 := pair_all (.int .u64 0) (.int .u64 0)
  go_enter Tryz.func117, Tryz.ntmps117
  go_upto_region 1 with (first
    | ((with_reducible show wpList _ _ _ ({ dst := _, op := Op.box 80 _, type := _, pos := _, after := _, guard := _ } :: _) _ _); refine wpList_box_has h rfl 80 _ rfl ?_; clear h; intro b1 w h hn1; try simp only [Act.put, List.setIfInBounds_toArray, List.set_cons_zero, List.set_cons_succ])
    | ((with_reducible show wpList _ _ _ ({ dst := some 2, op := Op.alloc 80, type := _, pos := _, after := _, guard := _ } :: _) _ _); refine wpList_alloc_has h rfl 80 rfl _ zline ?_; clear h; intro b2 w h hn2; try simp only [Act.put, List.setIfInBounds_toArray, List.set_cons_zero, List.set_cons_succ])
    | ((with_reducible show wpList _ _ _ ({ dst := some 3, op := Op.alloc 25, type := _, pos := _, after := _, guard := _ } :: _) _ _); refine wpList_alloc_has h rfl 25 rfl _ zpair ?_; clear h; intro b3 w h hn3; try simp only [Act.put, List.setIfInBounds_toArray, List.set_cons_zero, List.set_cons_succ]))
  replace hn1 : M b1 = none := hn1
  replace hn2 : (M.upd b1 (.cells #[nilS] 80)) b2 = none := hn2
  replace hn3 : ((M.upd b1 (.cells #[nilS] 80)).upd b2 (.cells #[nilS] 80)) b3 = none := hn3
  replace h : Has σ (((M.upd b1 (.cells #[nilS] 80)).upd b2 (.cells #[nilS] 80)).upd b3 (.cells #[.int .u64 0, .int .u64 0] 25)) w := h
  have hle2 : M.le (((M.upd b1 (.cells #[nilS] 80)).upd b2 (.cells #[nilS] 80)).upd b3 (.cells #[.int .u64 0, .int .u64 0] 25)) := Mm.le_trans (Mm.le_upd' hn1 _) (Mm.le_trans (Mm.le_upd' hn2 _) (Mm.le_upd' hn3 _))
  have hb1 : (((M.upd b1 (.cells #[nilS] 80)).upd b2 (.cells #[nilS] 80)).upd b3 (.cells #[.int .u64 0, .int .u64 0] 25)) b1 = some (.cells #[nilS] 80) := (Mm.le_trans (Mm.le_upd' hn2 _) (Mm.le_upd' hn3 _)) _ _ (Mm.upd_same _ _ _)
  have hb2 : (((M.upd b1 (.cells #[nilS] 80)).upd b2 (.cells #[nilS] 80)).upd b3 (.cells #[.int .u64 0, .int .u64 0] 25)) b2 = some (.cells #[nilS] 80) := (Mm.le_upd' hn3 _) _ _ (Mm.upd_same _ _ _)
  have hb3 : (((M.upd b1 (.cells #[nilS] 80)).upd b2 (.cells #[nilS] 80)).upd b3 (.cells #[.int .u64 0, .int .u64 0] 25)) b3 = some (.cells #[.int .u64 0, .int .u64 0] 25) := (Mm.le_refl _) _ _ (Mm.upd_same _ _ _)
  have n_b1_b2 : b1 ≠ b2 := Mm.ne_of hn2 ((Mm.le_refl _) _ _ (Mm.upd_same _ _ _))
  have n_b1_b3 : b1 ≠ b3 := Mm.ne_of hn3 ((Mm.le_upd' hn2 _) _ _ (Mm.upd_same _ _ _))
  have n_b2_b3 : b2 ≠ b3 := Mm.ne_of hn3 ((Mm.le_refl _) _ _ (Mm.upd_same _ _ _))
  replace hn3 : M b3 = none := Mm.none_of (Mm.le_trans (Mm.le_upd' hn1 _) (Mm.le_upd' hn2 _)) hn3
  replace hn2 : M b2 = none := Mm.none_of (Mm.le_upd' hn1 _) hn2
  replace hn1 : M b1 = none := Mm.none_of (Mm.le_refl _) hn1
  generalize (((M.upd b1 (.cells #[nilS] 80)).upd b2 (.cells #[nilS] 80)).upd b3 (.cells #[.int .u64 0, .int .u64 0] 25)) = M2 at h hle2 hb1 hb2 hb3
  go_upto_region 2 with (first
    | ((with_reducible show wpList _ _ _ ({ dst := _, op := Op.load 80 _, type := _, pos := _, after := _, guard := _ } :: _) _ _); refine wpList_agg_has h rfl 80 _ rfl rfl hb1 q0 rfl Tryz.underlying80 rfl (by kernel_rfl) ?_; try simp only [Act.put, List.setIfInBounds_toArray, List.set_cons_zero, List.set_cons_succ])
    | (go_at_call 141; refine (PK.out _ _ h).mono ?_; clear h; rintro _ w ⟨rfl, h⟩)
    | ((with_reducible show wpList _ _ _ ({ dst := some 5, op := Op.alloc 25, type := _, pos := _, after := _, guard := _ } :: _) _ _); refine wpList_alloc_has h rfl 25 rfl _ zpair ?_; clear h; intro b5 w h hn5; try simp only [Act.put, List.setIfInBounds_toArray, List.set_cons_zero, List.set_cons_succ])
    | ((with_reducible show wpList _ _ _ ({ dst := _, op := Op.store 25 _ _, type := _, pos := _, after := _, guard := _ } :: _) _ _); refine wpList_storeAll_has (cells := #[.int .u64 0, .int .u64 0]) h rfl 25 _ _ rfl rfl rfl (Mm.upd_same _ _ _) rfl rfl rfl (by kernel_rfl) rfl ?_; clear h; intro w h))
  rw [Mm.upd_upd] at h
  have hb13 := Mm.le_upd' hn5 (.cells #[.int .u64 0, .int .u64 0] 25) _ _ hb1
  have hb23 := Mm.le_upd' hn5 (.cells #[.int .u64 0, .int .u64 0] 25) _ _ hb2
  have hb33 := Mm.le_upd' hn5 (.cells #[.int .u64 0, .int .u64 0] 25) _ _ hb3
  have hb53 := Mm.upd_same M2 b5 (.cells #[.int .u64 0, .int .u64 0] 25)
  have n25 := Mm.ne_of hn5 hb2
  have n35 := Mm.ne_of hn5 hb3
  have hle3 := Mm.le_trans hle2 (Mm.le_upd' hn5 (.cells #[.int .u64 0, .int .u64 0] 25))
  generalize M2.upd b5 _ = M3 at h hb13 hb23 hb33 hb53 hle3
  have k1 := Mm.drop_of (Mm.drop_of hb13 n_b1_b2) n_b1_b3
  have k5 := Mm.drop_of (Mm.drop_of hb53 (Ne.symm n25)) (Ne.symm n35)
  go_upto_region 3 with (fail)
  refine wp_region_held_drew (S := Has σ ((M3.drop b2).drop b3)) (by kernel_rfl) (h.drew.le (Mm.le_trans (Mm.drop_le _ _) (Mm.drop_le _ _))) (fun hHeld => ?_)
  replace h := h.drew
  refine wpAnyH_take (i := 0) (v := _) rfl (by kernel_rfl) (by kernel_rfl) (by kernel_rfl) (fun _ _ _ h => h) (yields_agg rfl 80 _ rfl rfl k1 q0 rfl Tryz.underlying80 rfl (by kernel_rfl)) hHeld ?_
  try simp only [List.getElem_toArray, List.getElem_cons_succ, List.getElem_cons_zero, Act.put, List.setIfInBounds_toArray, List.set_cons_zero, List.set_cons_succ]
  refine wpAnyH_take (i := 1) (v := _) rfl (by kernel_rfl) (by kernel_rfl) (by kernel_rfl) (fun _ _ _ h => h) (yields_agg rfl 25 _ rfl rfl k5 z2 rfl Tryz.underlying25 rfl (by kernel_rfl)) hHeld ?_
  try simp only [List.getElem_toArray, List.getElem_cons_succ, List.getElem_cons_zero, Act.put, List.setIfInBounds_toArray, List.set_cons_zero, List.set_cons_succ]
  have hd1 : ((M3.drop b2).drop b3).le (M3.upd b2 (.cells #[nilS] 80)) := Mm.le_trans (Mm.drop_le _ _) (Mm.drop_upd (Mm.drop_le _ _) _)
  refine wpAnyH_ready (rs := [2]) (by kernel_rfl) (by simp) ?_
  refine AllReadyH.cons rfl (fun K hK => ?_) AllReadyH.nil
  (refine step_storeAll (cells := #[nilS]) h rfl 80 _ _ rfl rfl rfl hb23 rfl rfl (by kernel_rfl) rfl ?_; clear h hHeld; intro w h)
  refine hK.out _ _ (h.le hd1) (fun hHeld => ?_)
  clear hK K
  try simp only [Act.put, List.setIfInBounds_toArray, List.set_cons_zero, List.set_cons_succ]
  have hb34 : (M3.upd b2 (.cells #[nilS] 80)) b3 = some (.cells #[.int .u64 0, .int .u64 0] 25) := (Mm.upd_ne (Ne.symm n_b2_b3)).trans hb33
  have hd2 : ((M3.drop b2).drop b3).le ((M3.upd b2 (.cells #[nilS] 80)).upd b3 (.cells #[.int .u64 0, .int .u64 0] 25)) := Mm.drop_upd hd1 _
  refine wpAnyH_ready (rs := [3]) (by kernel_rfl) (by simp) ?_
  refine AllReadyH.cons rfl (fun K hK => ?_) AllReadyH.nil
  (refine step_storeAll (cells := #[.int .u64 0, .int .u64 0]) h rfl 25 _ _ rfl rfl rfl hb34 rfl rfl (by kernel_rfl) rfl ?_; clear h hHeld; intro w h)
  refine hK.out _ _ (h.le hd2) (fun hHeld => ?_)
  clear hK K
  try simp only [Act.put, List.setIfInBounds_toArray, List.set_cons_zero, List.set_cons_succ]
  refine wpAnyH_take (i := 4) (v := ?_) rfl (by kernel_rfl) (by kernel_rfl) (by kernel_rfl) (fun _ _ _ h => h) (Or.inl ⟨by rfl, ?_⟩) hHeld ?_
  rotate_left
  · (intro wz _; go_simp; try with_reducible rfl)
  try simp only [List.getElem_toArray, List.getElem_cons_succ, List.getElem_cons_zero, Act.put, List.setIfInBounds_toArray, List.set_cons_zero, List.set_cons_succ]
  refine wpAnyH_done (by kernel_rfl) ?_ _
  go_wp2
  have hM : M.le ((M3.drop b2).drop b3) := fun c o hc => Mm.drop_of (Mm.drop_of (hle3 _ _ hc) fun e => by subst e; rw [hn2] at hc; cases hc) fun e => by subst e; rw [hn3] at hc; cases hc
  exact bodyPost_ret (results_cct rfl (CellRes.of h ((Mm.upd_ne n_b2_b3).trans (Mm.upd_same _ _ _)) rfl Tryz.underlying80 rfl (by kernel_rfl)) (CellRes.of h (Mm.upd_same _ _ _) rfl Tryz.underlying25 rfl (by kernel_rfl))) rfl ⟨rfl, h.le (Mm.le_trans hM hd2)⟩
def PopPost (σ : World) (M : Mm) (pa pb : Int) (r : Ending) (w' : World) : Prop := ∃ q' : Value, r = .returned (.tuple #[.agg #[q'], .agg #[.int .u64 pa, .int .u64 pb], .bool true]) ∧ q'.oneCell' = true ∧ Has σ M w'
set_option maxHeartbeats 1000000 in
set_option maxRecDepth 20000 in
theorem pop_yes (h : Has σ M w) (A : Option Addr) (c : Nat) (pa pb : Int) (hr : Rd M 2 (.slice A 1 c) 1 [.int .u64 pa, .int .u64 pb]) : Calls Tryz.prog 117 #[.agg #[.slice A 1 c]] w fun r w' => PopPost σ M pa pb r w' := by
  have q0 : (#[.slice A 1 c] : Array Value).extract 0 (0 + 1) = #[.slice A 1 c] := rfl
  have q1 : (#[.slice A 1 c] : Array Value)[0]? = some (.slice A 1 c) := rfl
  have hc1 : 1 ≤ c := by obtain ⟨_, _, _, e, hc, _⟩ := hr; cases e; exact hc
  have PK := Lib.hid (fun (M' : Mm) (hM : M.le M') (w : World) (h : Has σ M' w) => peek_yes h A c pa pb (hr.le hM))
  have z2 := pair_all (.int .u64 pa) (.int .u64 pb)
  clear hr
  go_enter Tryz.func117, Tryz.ntmps117
  go_upto_region 1 with (first
    | ((with_reducible show wpList _ _ _ ({ dst := _, op := Op.box 80 _, type := _, pos := _, after := _, guard := _ } :: _) _ _); refine wpList_box_has h rfl 80 _ rfl ?_; clear h; intro b1 w h hn1; try simp only [Act.put, List.setIfInBounds_toArray, List.set_cons_zero, List.set_cons_succ])
    | ((with_reducible show wpList _ _ _ ({ dst := some 2, op := Op.alloc 80, type := _, pos := _, after := _, guard := _ } :: _) _ _); refine wpList_alloc_has h rfl 80 rfl _ zline ?_; clear h; intro b2 w h hn2; try simp only [Act.put, List.setIfInBounds_toArray, List.set_cons_zero, List.set_cons_succ])
    | ((with_reducible show wpList _ _ _ ({ dst := some 3, op := Op.alloc 25, type := _, pos := _, after := _, guard := _ } :: _) _ _); refine wpList_alloc_has h rfl 25 rfl _ zpair ?_; clear h; intro b3 w h hn3; try simp only [Act.put, List.setIfInBounds_toArray, List.set_cons_zero, List.set_cons_succ]))
  replace hn1 : M b1 = none := hn1
  replace hn2 : (M.upd b1 (.cells #[.slice A 1 c] 80)) b2 = none := hn2
  replace hn3 : ((M.upd b1 (.cells #[.slice A 1 c] 80)).upd b2 (.cells #[nilS] 80)) b3 = none := hn3
  replace h : Has σ (((M.upd b1 (.cells #[.slice A 1 c] 80)).upd b2 (.cells #[nilS] 80)).upd b3 (.cells #[.int .u64 0, .int .u64 0] 25)) w := h
  have hle2 : M.le (((M.upd b1 (.cells #[.slice A 1 c] 80)).upd b2 (.cells #[nilS] 80)).upd b3 (.cells #[.int .u64 0, .int .u64 0] 25)) := Mm.le_trans (Mm.le_upd' hn1 _) (Mm.le_trans (Mm.le_upd' hn2 _) (Mm.le_upd' hn3 _))
  have hb1 : (((M.upd b1 (.cells #[.slice A 1 c] 80)).upd b2 (.cells #[nilS] 80)).upd b3 (.cells #[.int .u64 0, .int .u64 0] 25)) b1 = some (.cells #[.slice A 1 c] 80) := (Mm.le_trans (Mm.le_upd' hn2 _) (Mm.le_upd' hn3 _)) _ _ (Mm.upd_same _ _ _)
  have hb2 : (((M.upd b1 (.cells #[.slice A 1 c] 80)).upd b2 (.cells #[nilS] 80)).upd b3 (.cells #[.int .u64 0, .int .u64 0] 25)) b2 = some (.cells #[nilS] 80) := (Mm.le_upd' hn3 _) _ _ (Mm.upd_same _ _ _)
  have hb3 : (((M.upd b1 (.cells #[.slice A 1 c] 80)).upd b2 (.cells #[nilS] 80)).upd b3 (.cells #[.int .u64 0, .int .u64 0] 25)) b3 = some (.cells #[.int .u64 0, .int .u64 0] 25) := (Mm.le_refl _) _ _ (Mm.upd_same _ _ _)
  have n_b1_b2 : b1 ≠ b2 := Mm.ne_of hn2 ((Mm.le_refl _) _ _ (Mm.upd_same _ _ _))
  have n_b1_b3 : b1 ≠ b3 := Mm.ne_of hn3 ((Mm.le_upd' hn2 _) _ _ (Mm.upd_same _ _ _))
  have n_b2_b3 : b2 ≠ b3 := Mm.ne_of hn3 ((Mm.le_refl _) _ _ (Mm.upd_same _ _ _))
  replace hn3 : M b3 = none := Mm.none_of (Mm.le_trans (Mm.le_upd' hn1 _) (Mm.le_upd' hn2 _)) hn3
  replace hn2 : M b2 = none := Mm.none_of (Mm.le_upd' hn1 _) hn2
  replace hn1 : M b1 = none := Mm.none_of (Mm.le_refl _) hn1
  generalize (((M.upd b1 (.cells #[.slice A 1 c] 80)).upd b2 (.cells #[nilS] 80)).upd b3 (.cells #[.int .u64 0, .int .u64 0] 25)) = M2 at h hle2 hb1 hb2 hb3
  go_upto_region 2 with (first
    | ((with_reducible show wpList _ _ _ ({ dst := _, op := Op.load 80 _, type := _, pos := _, after := _, guard := _ } :: _) _ _); refine wpList_agg_has h rfl 80 _ rfl rfl hb1 q0 rfl Tryz.underlying80 rfl (by kernel_rfl) ?_; try simp only [Act.put, List.setIfInBounds_toArray, List.set_cons_zero, List.set_cons_succ])
    | (go_at_call 141; refine (PK.out _ hle2 _ h).mono ?_; clear h; rintro _ w ⟨rfl, h⟩)
    | ((with_reducible show wpList _ _ _ ({ dst := some 5, op := Op.alloc 25, type := _, pos := _, after := _, guard := _ } :: _) _ _); refine wpList_alloc_has h rfl 25 rfl _ zpair ?_; clear h; intro b5 w h hn5; try simp only [Act.put, List.setIfInBounds_toArray, List.set_cons_zero, List.set_cons_succ])
    | ((with_reducible show wpList _ _ _ ({ dst := _, op := Op.store 25 _ _, type := _, pos := _, after := _, guard := _ } :: _) _ _); refine wpList_storeAll_has (cells := #[.int .u64 pa, .int .u64 pb]) h rfl 25 _ _ rfl rfl rfl (Mm.upd_same _ _ _) rfl rfl rfl (by kernel_rfl) rfl ?_; clear h; intro w h))
  rw [Mm.upd_upd] at h
  have hb13 := Mm.le_upd' hn5 (.cells #[.int .u64 pa, .int .u64 pb] 25) _ _ hb1
  have hb23 := Mm.le_upd' hn5 (.cells #[.int .u64 pa, .int .u64 pb] 25) _ _ hb2
  have hb33 := Mm.le_upd' hn5 (.cells #[.int .u64 pa, .int .u64 pb] 25) _ _ hb3
  have hb53 := Mm.upd_same M2 b5 (.cells #[.int .u64 pa, .int .u64 pb] 25)
  have n25 := Mm.ne_of hn5 hb2
  have n35 := Mm.ne_of hn5 hb3
  have hle3 := Mm.le_trans hle2 (Mm.le_upd' hn5 (.cells #[.int .u64 pa, .int .u64 pb] 25))
  generalize M2.upd b5 _ = M3 at h hb13 hb23 hb33 hb53 hle3
  have k1 := Mm.drop_of (Mm.drop_of hb13 n_b1_b2) n_b1_b3
  have k5 := Mm.drop_of (Mm.drop_of hb53 (Ne.symm n25)) (Ne.symm n35)
  go_upto_region 4 with (fail)
  refine wp_region_held_drew (S := Has σ ((M3.drop b2).drop b3)) (by kernel_rfl) (h.drew.le (Mm.le_trans (Mm.drop_le _ _) (Mm.drop_le _ _))) (fun hHeld => ?_)
  replace h := h.drew
  refine wpAnyH_take (i := 0) (v := ?_) rfl (by kernel_rfl) (by kernel_rfl) (by kernel_rfl) (fun _ _ _ h => h) (Or.inl ⟨by rfl, ?_⟩) hHeld ?_
  rotate_left
  · (intro wz _; go_simp; try with_reducible rfl)
  try simp only [List.getElem_toArray, List.getElem_cons_succ, List.getElem_cons_zero, Act.put, List.setIfInBounds_toArray, List.set_cons_zero, List.set_cons_succ]
  refine wpAnyH_take (i := 1) (v := _) rfl (by kernel_rfl) (by kernel_rfl) (by kernel_rfl) (fun _ _ _ h => h) (yields_load1 rfl 62 _ rfl rfl k1 q1 Tryz.underlying62 rfl) hHeld ?_
  try simp only [List.getElem_toArray, List.getElem_cons_succ, List.getElem_cons_zero, Act.put, List.setIfInBounds_toArray, List.set_cons_zero, List.set_cons_succ]
  refine wpAnyH_take (i := 2) (v := ?_) rfl (by kernel_rfl) (by kernel_rfl) (by kernel_rfl) (fun _ _ _ h => h) (Or.inl ⟨by rfl, ?_⟩) hHeld ?_
  rotate_left
  · (intro wz _; go_simp; try with_reducible rfl)
  try simp only [List.getElem_toArray, List.getElem_cons_succ, List.getElem_cons_zero, Act.put, List.setIfInBounds_toArray, List.set_cons_zero, List.set_cons_succ]
  generalize (if c = 1 then A else Option.map (fun x => ({ block := x.block, off := x.off + 2 } : Addr)) A) = A2
  refine wpAnyH_take (i := 3) (v := ?_) rfl (by kernel_rfl) (by kernel_rfl) (by kernel_rfl) (fun _ _ _ h => h) (Or.inl ⟨by rfl, ?_⟩) hHeld ?_
  rotate_left
  · (intro wz _; go_simp; try with_reducible rfl)
  try simp only [List.getElem_toArray, List.getElem_cons_succ, List.getElem_cons_zero, Act.put, List.setIfInBounds_toArray, List.set_cons_zero, List.set_cons_succ]
  refine wpAnyH_take (i := 4) (v := _) rfl (by kernel_rfl) (by kernel_rfl) (by kernel_rfl) (fun _ _ _ h => h) (yields_agg rfl 25 _ rfl rfl k5 z2 rfl Tryz.underlying25 rfl (by kernel_rfl)) hHeld ?_
  try simp only [List.getElem_toArray, List.getElem_cons_succ, List.getElem_cons_zero, Act.put, List.setIfInBounds_toArray, List.set_cons_zero, List.set_cons_succ]
  have hd1 : ((M3.drop b2).drop b3).le (M3.upd b2 (.cells #[.slice A2 0 (c - 1)] 80)) := Mm.le_trans (Mm.drop_le _ _) (Mm.drop_upd (Mm.drop_le _ _) _)
  refine wpAnyH_ready (rs := [5]) (by kernel_rfl) (by simp) ?_
  refine AllReadyH.cons rfl (fun K hK => ?_) AllReadyH.nil
  (refine step_storeAll (cells := #[.slice A2 0 (c - 1)]) h rfl 80 _ _ rfl rfl rfl hb23 rfl rfl (by kernel_rfl) rfl ?_; clear h hHeld; intro w h)
  refine hK.out _ _ (h.le hd1) (fun hHeld => ?_)
  clear hK K
  try simp only [Act.put, List.setIfInBounds_toArray, List.set_cons_zero, List.set_cons_succ]
  have hb34 : (M3.upd b2 (.cells #[.slice A2 0 (c - 1)] 80)) b3 = some (.cells #[.int .u64 0, .int .u64 0] 25) := (Mm.upd_ne (Ne.symm n_b2_b3)).trans hb33
  have hd2 : ((M3.drop b2).drop b3).le ((M3.upd b2 (.cells #[.slice A2 0 (c - 1)] 80)).upd b3 (.cells #[.int .u64 pa, .int .u64 pb] 25)) := Mm.drop_upd hd1 _
  refine wpAnyH_ready (rs := [6]) (by kernel_rfl) (by simp) ?_
  refine AllReadyH.cons rfl (fun K hK => ?_) AllReadyH.nil
  (refine step_storeAll (cells := #[.int .u64 pa, .int .u64 pb]) h rfl 25 _ _ rfl rfl rfl hb34 rfl rfl (by kernel_rfl) rfl ?_; clear h hHeld; intro w h)
  refine hK.out _ _ (h.le hd2) (fun hHeld => ?_)
  clear hK K
  try simp only [Act.put, List.setIfInBounds_toArray, List.set_cons_zero, List.set_cons_succ]
  refine wpAnyH_take (i := 7) (v := ?_) rfl (by kernel_rfl) (by kernel_rfl) (by kernel_rfl) (fun _ _ _ h => h) (Or.inl ⟨by rfl, ?_⟩) hHeld ?_
  rotate_left
  · (intro wz _; go_simp; try with_reducible rfl)
  try simp only [List.getElem_toArray, List.getElem_cons_succ, List.getElem_cons_zero, Act.put, List.setIfInBounds_toArray, List.set_cons_zero, List.set_cons_succ]
  refine wpAnyH_done (by kernel_rfl) ?_ _
  go_wp2
  have hM : M.le ((M3.drop b2).drop b3) := fun c o hc => Mm.drop_of (Mm.drop_of (hle3 _ _ hc) fun e => by subst e; rw [hn2] at hc; cases hc) fun e => by subst e; rw [hn3] at hc; cases hc
  exact bodyPost_ret (results_cct rfl (CellRes.of h ((Mm.upd_ne n_b2_b3).trans (Mm.upd_same _ _ _)) rfl Tryz.underlying80 rfl (by kernel_rfl)) (CellRes.of h (Mm.upd_same _ _ _) rfl Tryz.underlying25 rfl (by kernel_rfl))) rfl ⟨_, rfl, rfl, h.le (Mm.le_trans hM hd2)⟩
end
end Go.Proofs.YtjnhklhgcbknkaaGreatDoor
