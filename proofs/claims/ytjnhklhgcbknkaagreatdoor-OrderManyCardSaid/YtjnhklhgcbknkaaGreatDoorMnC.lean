/- Layer 13: Push and Pop of a state. -/
import Derived.Test.YtjnhklhgcbknkaaGreatDoorMnB
namespace Go.Proofs.YtjnhklhgcbknkaaGreatDoor
open Go.RowKit
set_option linter.unusedVariables false
set_option linter.unusedSimpArgs false
set_option linter.unnecessarySimpa false
theorem callR_all (op lv ky pa pb ha rg : Int) : (callR op lv ky pa pb ha rg).extract 0 (0 + 7) = callR op lv ky pa pb ha rg := rfl
theorem callR_op (op lv ky pa pb ha rg : Int) : (callR op lv ky pa pb ha rg)[0]? = some (.int .i64 op) := rfl
theorem callR_pair (op lv ky pa pb ha rg : Int) : (callR op lv ky pa pb ha rg).extract 3 (3 + 2) = #[.int .u64 pa, .int .u64 pb] := rfl
/-- Each of four values is of one cell. -/
def One4 (se q li tl : Value) : Prop := se.oneCell' = true ∧ q.oneCell' = true ∧ li.oneCell' = true ∧ tl.oneCell' = true
def LinePost (σ : World) (M : Mm) (se li tl : Value) (pa pb : Int) (r : Ending) (w' : World) : Prop := ∃ (A : Option Addr) (c : Nat) (M' : Mm), r = .returned (.tuple #[.agg (stR se (.slice A 1 c) li tl), .agg (ansR 0 0 0 0 0 0)]) ∧ Has σ M' w' ∧ M.le M' ∧ Own M M' 25 2 (.slice A 1 c) 1 [.int .u64 pa, .int .u64 pb]
section
variable {σ w : World} {M : Mm}
set_option maxHeartbeats 2000000 in
set_option maxRecDepth 20000 in
theorem line_push (h : Has σ M w) (se li tl : Value) (ky pa pb ha rg : Int) (h1 : One4 se nilS li tl) : Calls Tryz.prog 86 #[.agg (stR se nilS li tl), .agg (callR 6 0 ky pa pb ha rg)] w fun r w' => LinePost σ M se li tl pa pb r w' := by
  have PU := Lib.hid (fun (M' : Mm) (w : World) (h : Has σ M' w) => push_eq h pa pb)
  have H1 := Lib.hid h1
  clear h1
  have cz := callR_size 6 0 ky pa pb ha rg
  have c0 := callR_op 6 0 ky pa pb ha rg
  have cp := callR_pair 6 0 ky pa pb ha rg
  have rz := stR_size se nilS li tl
  have rl := stR_line se nilS li tl
  have ra := stR_all se nilS li tl
  have z0 := st0_size
  have az := ansR_size 0 0 0 0 0 0
  go_enter Tryz.func86, Tryz.ntmps86
  go_upto_region 1 with (first
    | ((with_reducible show wpList _ _ _ ({ dst := _, op := Op.box 85 _, type := _, pos := _, after := _, guard := _ } :: _) _ _); refine wpList_box_has h rfl 85 _ rfl ?_; clear h; intro b2 w h hn2; try simp only [Act.put, List.setIfInBounds_toArray, List.set_cons_zero, List.set_cons_succ])
    | ((with_reducible show wpList _ _ _ ({ dst := _, op := Op.box 27 _, type := _, pos := _, after := _, guard := _ } :: _) _ _); refine wpList_box_has h rfl 27 _ rfl ?_; clear h; intro b3 w h hn3; try simp only [Act.put, List.setIfInBounds_toArray, List.set_cons_zero, List.set_cons_succ])
    | ((with_reducible show wpList _ _ _ ({ dst := some 4, op := Op.alloc 85, type := _, pos := _, after := _, guard := _ } :: _) _ _); refine wpList_alloc_has h rfl 85 rfl _ zst ?_; clear h; intro b4 w h hn4; try simp only [Act.put, List.setIfInBounds_toArray, List.set_cons_zero, List.set_cons_succ])
    | ((with_reducible show wpList _ _ _ ({ dst := some 5, op := Op.alloc 30, type := _, pos := _, after := _, guard := _ } :: _) _ _); refine wpList_alloc_has h rfl 30 rfl _ zans ?_; clear h; intro b5 w h hn5; try simp only [Act.put, List.setIfInBounds_toArray, List.set_cons_zero, List.set_cons_succ]))
  replace hn2 : M b2 = none := hn2
  replace hn3 : (M.upd b2 (.cells (stR se nilS li tl) 85)) b3 = none := hn3
  replace hn4 : ((M.upd b2 (.cells (stR se nilS li tl) 85)).upd b3 (.cells (callR 6 0 ky pa pb ha rg) 27)) b4 = none := hn4
  replace hn5 : (((M.upd b2 (.cells (stR se nilS li tl) 85)).upd b3 (.cells (callR 6 0 ky pa pb ha rg) 27)).upd b4 (.cells st0 85)) b5 = none := hn5
  replace h : Has σ ((((M.upd b2 (.cells (stR se nilS li tl) 85)).upd b3 (.cells (callR 6 0 ky pa pb ha rg) 27)).upd b4 (.cells st0 85)).upd b5 (.cells (ansR 0 0 0 0 0 0) 30)) w := h
  have hle2 : M.le ((((M.upd b2 (.cells (stR se nilS li tl) 85)).upd b3 (.cells (callR 6 0 ky pa pb ha rg) 27)).upd b4 (.cells st0 85)).upd b5 (.cells (ansR 0 0 0 0 0 0) 30)) := Mm.le_trans (Mm.le_upd' hn2 _) (Mm.le_trans (Mm.le_upd' hn3 _) (Mm.le_trans (Mm.le_upd' hn4 _) (Mm.le_upd' hn5 _)))
  have hb2 : ((((M.upd b2 (.cells (stR se nilS li tl) 85)).upd b3 (.cells (callR 6 0 ky pa pb ha rg) 27)).upd b4 (.cells st0 85)).upd b5 (.cells (ansR 0 0 0 0 0 0) 30)) b2 = some (.cells (stR se nilS li tl) 85) := (Mm.le_trans (Mm.le_upd' hn3 _) (Mm.le_trans (Mm.le_upd' hn4 _) (Mm.le_upd' hn5 _))) _ _ (Mm.upd_same _ _ _)
  have hb3 : ((((M.upd b2 (.cells (stR se nilS li tl) 85)).upd b3 (.cells (callR 6 0 ky pa pb ha rg) 27)).upd b4 (.cells st0 85)).upd b5 (.cells (ansR 0 0 0 0 0 0) 30)) b3 = some (.cells (callR 6 0 ky pa pb ha rg) 27) := (Mm.le_trans (Mm.le_upd' hn4 _) (Mm.le_upd' hn5 _)) _ _ (Mm.upd_same _ _ _)
  have hb4 : ((((M.upd b2 (.cells (stR se nilS li tl) 85)).upd b3 (.cells (callR 6 0 ky pa pb ha rg) 27)).upd b4 (.cells st0 85)).upd b5 (.cells (ansR 0 0 0 0 0 0) 30)) b4 = some (.cells st0 85) := (Mm.le_upd' hn5 _) _ _ (Mm.upd_same _ _ _)
  have hb5 : ((((M.upd b2 (.cells (stR se nilS li tl) 85)).upd b3 (.cells (callR 6 0 ky pa pb ha rg) 27)).upd b4 (.cells st0 85)).upd b5 (.cells (ansR 0 0 0 0 0 0) 30)) b5 = some (.cells (ansR 0 0 0 0 0 0) 30) := (Mm.le_refl _) _ _ (Mm.upd_same _ _ _)
  have n_b2_b3 : b2 ≠ b3 := Mm.ne_of hn3 ((Mm.le_refl _) _ _ (Mm.upd_same _ _ _))
  have n_b2_b4 : b2 ≠ b4 := Mm.ne_of hn4 ((Mm.le_upd' hn3 _) _ _ (Mm.upd_same _ _ _))
  have n_b3_b4 : b3 ≠ b4 := Mm.ne_of hn4 ((Mm.le_refl _) _ _ (Mm.upd_same _ _ _))
  have n_b2_b5 : b2 ≠ b5 := Mm.ne_of hn5 ((Mm.le_trans (Mm.le_upd' hn3 _) (Mm.le_upd' hn4 _)) _ _ (Mm.upd_same _ _ _))
  have n_b3_b5 : b3 ≠ b5 := Mm.ne_of hn5 ((Mm.le_upd' hn4 _) _ _ (Mm.upd_same _ _ _))
  have n_b4_b5 : b4 ≠ b5 := Mm.ne_of hn5 ((Mm.le_refl _) _ _ (Mm.upd_same _ _ _))
  replace hn5 : M b5 = none := Mm.none_of (Mm.le_trans (Mm.le_upd' hn2 _) (Mm.le_trans (Mm.le_upd' hn3 _) (Mm.le_upd' hn4 _))) hn5
  replace hn4 : M b4 = none := Mm.none_of (Mm.le_trans (Mm.le_upd' hn2 _) (Mm.le_upd' hn3 _)) hn4
  replace hn3 : M b3 = none := Mm.none_of (Mm.le_upd' hn2 _) hn3
  replace hn2 : M b2 = none := Mm.none_of (Mm.le_refl _) hn2
  generalize ((((M.upd b2 (.cells (stR se nilS li tl) 85)).upd b3 (.cells (callR 6 0 ky pa pb ha rg) 27)).upd b4 (.cells st0 85)).upd b5 (.cells (ansR 0 0 0 0 0 0) 30)) = M2 at h hle2 hb2 hb3 hb4 hb5
  generalize callR 6 0 ky pa pb ha rg = cc at *
  generalize (ansR 0 0 0 0 0 0) = a0 at *
  generalize st0 = s0 at *
  have RP := fun v => stR_put se nilS li tl v
  have hz4 : M.le M2 := hle2
  go_upto_region 3 with (first
    | (with_reducible show wpList _ _ _ ({ dst := _, op := Op.load 3 _, type := _, pos := _, after := _, guard := _ } :: _) _ _; refine wpList_load1_has h rfl 3 _ rfl rfl hb3 c0 Tryz.underlying3 rfl ?_)
    | ((with_reducible show wpList _ _ _ ({ dst := _, op := Op.load 80 _, type := _, pos := _, after := _, guard := _ } :: _) _ _); refine wpList_agg_has h rfl 80 _ rfl rfl hb2 rl rfl Tryz.underlying80 rfl (by kernel_rfl) ?_; try simp only [Act.put, List.setIfInBounds_toArray, List.set_cons_zero, List.set_cons_succ])
    | ((with_reducible show wpList _ _ _ ({ dst := _, op := Op.load 25 _, type := _, pos := _, after := _, guard := _ } :: _) _ _); refine wpList_agg_has h rfl 25 _ rfl rfl hb3 cp rfl Tryz.underlying25 rfl (by kernel_rfl) ?_; try simp only [Act.put, List.setIfInBounds_toArray, List.set_cons_zero, List.set_cons_succ])
    | (go_at_call 116; refine (PU.out _ _ h).mono ?_; clear h; rintro _ w ⟨A, c, M3, rfl, h, hle3, hr⟩)
    | ((with_reducible show wpList _ _ _ ({ dst := _, op := Op.store 80 _ _, type := _, pos := _, after := _, guard := _ } :: _) _ _); have hb23 := hle3 _ _ hb2; refine wpList_storeS1_has h rfl 80 _ _ rfl rfl rfl hb23 (by rw [rz]; decide) rfl (by kernel_rfl) rfl ?_; clear h; intro w h; rw [RP] at h))
  have hb44 : (M3.upd b2 (.cells (stR se (.slice A 1 c) li tl) 85)) b4 = some (.cells s0 85) := (Mm.upd_ne (Ne.symm n_b2_b4)).trans (hle3 _ _ hb4)
  have hb54 : (M3.upd b2 (.cells (stR se (.slice A 1 c) li tl) 85)) b5 = some (.cells a0 30) := (Mm.upd_ne (Ne.symm n_b2_b5)).trans (hle3 _ _ hb5)
  have hb24 := Mm.upd_same M3 b2 (.cells (stR se (.slice A 1 c) li tl) 85)
  have hle4 : M.le (M3.upd b2 (.cells (stR se (.slice A 1 c) li tl) 85)) := Mm.le_upd (Mm.le_trans hle2 hle3) hn2 _
  have HO : Hid (Own M2 (M3.upd b2 (.cells (stR se (.slice A 1 c) li tl) 85)) 25 2 (.slice A 1 c) 1 [.int .u64 pa, .int .u64 pb]) := hr.upd_at hb2 _
  have HB4 := Lib.hid hb4
  have HB5 := Lib.hid hb5
  have rz2 := stR_size se (.slice A 1 c) li tl
  have ra2 := stR_all se (.slice A 1 c) li tl
  have ro2 := Lib.hid (stR_one (se := se) (q := .slice A 1 c) (li := li) (tl := tl) ⟨H1.out.1, rfl, H1.out.2.2⟩)
  have HO3 := Lib.hid hr
  have zz : s0.size = (stR se (.slice A 1 c) li tl).size := z0.trans rz2.symm
  clear hr hb2 hb3 hb4 hb5 rz rl ra RP PU
  generalize M3.upd b2 _ = M4 at *
  generalize hrs : stR se (.slice A 1 c) li tl = rs at *
  have HRS := Lib.hid hrs
  clear hrs
  go_wp2_with (first
    | ((with_reducible show wpList _ _ _ ({ dst := _, op := Op.load 85 _, type := _, pos := _, after := _, guard := _ } :: _) _ _); refine wpList_agg_has h rfl 85 _ rfl rfl hb24 ra2 rz2 Tryz.underlying85 rfl (by kernel_rfl) ?_; try simp only [Act.put, List.setIfInBounds_toArray, List.set_cons_zero, List.set_cons_succ])
    | ((with_reducible show wpList _ _ _ ({ dst := _, op := Op.store 85 _ _, type := _, pos := _, after := _, guard := _ } :: _) _ _); refine wpList_storeAll_has (cells := rs) h rfl 85 _ _ rfl rfl rfl hb44 rfl (z0.trans rz2.symm) rfl (by rw [rz2]; kernel_rfl) ro2.out ?_; clear h; intro w h)
    | ((with_reducible show wpList _ _ _ ({ dst := _, op := Op.store 30 _ _, type := _, pos := _, after := _, guard := _ } :: _) _ _); have hb55 := (Mm.upd_ne (M := M4) (o := .cells rs 85) (Ne.symm n_b4_b5)).trans hb54; refine wpList_storeAll_has (cells := (ansR 0 0 0 0 0 0)) h rfl 30 _ _ rfl rfl rfl hb55 rfl az rfl (by kernel_rfl) rfl ?_; clear h; intro w h))
  have hfin := Lib.hid (((HO.out.upd_at HB4.out (.cells rs 85)).upd_at HB5.out (.cells (ansR 0 0 0 0 0 0) 30)).base (M' := M) fun b hb => Mm.none_of hle2 hb)
  exact bodyPost_ret (results_cc rfl (CellRes.of h ((Mm.upd_ne n_b4_b5).trans (Mm.upd_same _ _ _)) rfl Tryz.underlying85 rfl (by rw [rz2]; kernel_rfl)) (CellRes.of h (Mm.upd_same _ _ _) rfl Tryz.underlying30 rfl (by kernel_rfl))) rfl ⟨A, c, _, by rw [HRS.out], h, Mm.le_upd (Mm.le_upd hle4 hn4 _) hn5 _, hfin.out⟩
set_option maxHeartbeats 2000000 in
set_option maxRecDepth 20000 in
theorem line_none (h : Has σ M w) (se li tl : Value) (ky pa pb ha rg : Int) (h1 : One4 se nilS li tl) : Calls Tryz.prog 86 #[.agg (stR se nilS li tl), .agg (callR 7 0 ky pa pb ha rg)] w fun r w' => r = .returned (.tuple #[.agg (stR se nilS li tl), .agg (ansR 6 0 0 0 0 0)]) ∧ Has σ M w' := by
  have PO := Lib.hid (fun (M' : Mm) (w : World) (h : Has σ M' w) => pop_no h)
  have H1 := Lib.hid h1
  clear h1
  have cz := callR_size 7 0 ky pa pb ha rg
  have c0 := callR_op 7 0 ky pa pb ha rg
  have cp := callR_pair 7 0 ky pa pb ha rg
  have rz := stR_size se nilS li tl
  have rl := stR_line se nilS li tl
  have ra := stR_all se nilS li tl
  have z0 := st0_size
  have az := ansR_size 0 0 0 0 0 0
  go_enter Tryz.func86, Tryz.ntmps86
  go_upto_region 1 with (first
    | ((with_reducible show wpList _ _ _ ({ dst := _, op := Op.box 85 _, type := _, pos := _, after := _, guard := _ } :: _) _ _); refine wpList_box_has h rfl 85 _ rfl ?_; clear h; intro b2 w h hn2; try simp only [Act.put, List.setIfInBounds_toArray, List.set_cons_zero, List.set_cons_succ])
    | ((with_reducible show wpList _ _ _ ({ dst := _, op := Op.box 27 _, type := _, pos := _, after := _, guard := _ } :: _) _ _); refine wpList_box_has h rfl 27 _ rfl ?_; clear h; intro b3 w h hn3; try simp only [Act.put, List.setIfInBounds_toArray, List.set_cons_zero, List.set_cons_succ])
    | ((with_reducible show wpList _ _ _ ({ dst := some 4, op := Op.alloc 85, type := _, pos := _, after := _, guard := _ } :: _) _ _); refine wpList_alloc_has h rfl 85 rfl _ zst ?_; clear h; intro b4 w h hn4; try simp only [Act.put, List.setIfInBounds_toArray, List.set_cons_zero, List.set_cons_succ])
    | ((with_reducible show wpList _ _ _ ({ dst := some 5, op := Op.alloc 30, type := _, pos := _, after := _, guard := _ } :: _) _ _); refine wpList_alloc_has h rfl 30 rfl _ zans ?_; clear h; intro b5 w h hn5; try simp only [Act.put, List.setIfInBounds_toArray, List.set_cons_zero, List.set_cons_succ]))
  replace hn2 : M b2 = none := hn2
  replace hn3 : (M.upd b2 (.cells (stR se nilS li tl) 85)) b3 = none := hn3
  replace hn4 : ((M.upd b2 (.cells (stR se nilS li tl) 85)).upd b3 (.cells (callR 7 0 ky pa pb ha rg) 27)) b4 = none := hn4
  replace hn5 : (((M.upd b2 (.cells (stR se nilS li tl) 85)).upd b3 (.cells (callR 7 0 ky pa pb ha rg) 27)).upd b4 (.cells st0 85)) b5 = none := hn5
  replace h : Has σ ((((M.upd b2 (.cells (stR se nilS li tl) 85)).upd b3 (.cells (callR 7 0 ky pa pb ha rg) 27)).upd b4 (.cells st0 85)).upd b5 (.cells (ansR 0 0 0 0 0 0) 30)) w := h
  have hle2 : M.le ((((M.upd b2 (.cells (stR se nilS li tl) 85)).upd b3 (.cells (callR 7 0 ky pa pb ha rg) 27)).upd b4 (.cells st0 85)).upd b5 (.cells (ansR 0 0 0 0 0 0) 30)) := Mm.le_trans (Mm.le_upd' hn2 _) (Mm.le_trans (Mm.le_upd' hn3 _) (Mm.le_trans (Mm.le_upd' hn4 _) (Mm.le_upd' hn5 _)))
  have hb2 : ((((M.upd b2 (.cells (stR se nilS li tl) 85)).upd b3 (.cells (callR 7 0 ky pa pb ha rg) 27)).upd b4 (.cells st0 85)).upd b5 (.cells (ansR 0 0 0 0 0 0) 30)) b2 = some (.cells (stR se nilS li tl) 85) := (Mm.le_trans (Mm.le_upd' hn3 _) (Mm.le_trans (Mm.le_upd' hn4 _) (Mm.le_upd' hn5 _))) _ _ (Mm.upd_same _ _ _)
  have hb3 : ((((M.upd b2 (.cells (stR se nilS li tl) 85)).upd b3 (.cells (callR 7 0 ky pa pb ha rg) 27)).upd b4 (.cells st0 85)).upd b5 (.cells (ansR 0 0 0 0 0 0) 30)) b3 = some (.cells (callR 7 0 ky pa pb ha rg) 27) := (Mm.le_trans (Mm.le_upd' hn4 _) (Mm.le_upd' hn5 _)) _ _ (Mm.upd_same _ _ _)
  have hb4 : ((((M.upd b2 (.cells (stR se nilS li tl) 85)).upd b3 (.cells (callR 7 0 ky pa pb ha rg) 27)).upd b4 (.cells st0 85)).upd b5 (.cells (ansR 0 0 0 0 0 0) 30)) b4 = some (.cells st0 85) := (Mm.le_upd' hn5 _) _ _ (Mm.upd_same _ _ _)
  have hb5 : ((((M.upd b2 (.cells (stR se nilS li tl) 85)).upd b3 (.cells (callR 7 0 ky pa pb ha rg) 27)).upd b4 (.cells st0 85)).upd b5 (.cells (ansR 0 0 0 0 0 0) 30)) b5 = some (.cells (ansR 0 0 0 0 0 0) 30) := (Mm.le_refl _) _ _ (Mm.upd_same _ _ _)
  have n_b2_b3 : b2 ≠ b3 := Mm.ne_of hn3 ((Mm.le_refl _) _ _ (Mm.upd_same _ _ _))
  have n_b2_b4 : b2 ≠ b4 := Mm.ne_of hn4 ((Mm.le_upd' hn3 _) _ _ (Mm.upd_same _ _ _))
  have n_b3_b4 : b3 ≠ b4 := Mm.ne_of hn4 ((Mm.le_refl _) _ _ (Mm.upd_same _ _ _))
  have n_b2_b5 : b2 ≠ b5 := Mm.ne_of hn5 ((Mm.le_trans (Mm.le_upd' hn3 _) (Mm.le_upd' hn4 _)) _ _ (Mm.upd_same _ _ _))
  have n_b3_b5 : b3 ≠ b5 := Mm.ne_of hn5 ((Mm.le_upd' hn4 _) _ _ (Mm.upd_same _ _ _))
  have n_b4_b5 : b4 ≠ b5 := Mm.ne_of hn5 ((Mm.le_refl _) _ _ (Mm.upd_same _ _ _))
  replace hn5 : M b5 = none := Mm.none_of (Mm.le_trans (Mm.le_upd' hn2 _) (Mm.le_trans (Mm.le_upd' hn3 _) (Mm.le_upd' hn4 _))) hn5
  replace hn4 : M b4 = none := Mm.none_of (Mm.le_trans (Mm.le_upd' hn2 _) (Mm.le_upd' hn3 _)) hn4
  replace hn3 : M b3 = none := Mm.none_of (Mm.le_upd' hn2 _) hn3
  replace hn2 : M b2 = none := Mm.none_of (Mm.le_refl _) hn2
  generalize ((((M.upd b2 (.cells (stR se nilS li tl) 85)).upd b3 (.cells (callR 7 0 ky pa pb ha rg) 27)).upd b4 (.cells st0 85)).upd b5 (.cells (ansR 0 0 0 0 0 0) 30)) = M2 at h hle2 hb2 hb3 hb4 hb5
  generalize callR 7 0 ky pa pb ha rg = cc at *
  generalize (ansR 0 0 0 0 0 0) = a0 at *
  generalize st0 = s0 at *
  go_upto_region 5 with (first
    | (with_reducible show wpList _ _ _ ({ dst := _, op := Op.load 3 _, type := _, pos := _, after := _, guard := _ } :: _) _ _; refine wpList_load1_has h rfl 3 _ rfl rfl hb3 c0 Tryz.underlying3 rfl ?_)
    | ((with_reducible show wpList _ _ _ ({ dst := _, op := Op.load 80 _, type := _, pos := _, after := _, guard := _ } :: _) _ _); refine wpList_agg_has h rfl 80 _ rfl rfl hb2 rl rfl Tryz.underlying80 rfl (by kernel_rfl) ?_; try simp only [Act.put, List.setIfInBounds_toArray, List.set_cons_zero, List.set_cons_succ])
    | (go_at_call 117; refine (PO.out _ _ h).mono ?_; clear h; rintro _ w ⟨rfl, h⟩)
    | ((with_reducible show wpList _ _ _ ({ dst := some 6, op := Op.alloc 80, type := _, pos := _, after := _, guard := _ } :: _) _ _); refine wpList_alloc_has h rfl 80 rfl _ zline ?_; clear h; intro b6 w h hn6; try simp only [Act.put, List.setIfInBounds_toArray, List.set_cons_zero, List.set_cons_succ])
    | ((with_reducible show wpList _ _ _ ({ dst := some 7, op := Op.alloc 25, type := _, pos := _, after := _, guard := _ } :: _) _ _); refine wpList_alloc_has h rfl 25 rfl _ zpair ?_; clear h; intro b7 w h hn7; try simp only [Act.put, List.setIfInBounds_toArray, List.set_cons_zero, List.set_cons_succ])
    | ((with_reducible show wpList _ _ _ ({ dst := _, op := Op.store 80 _ _, type := _, pos := _, after := _, guard := _ } :: _) _ _); have hx6 := Mm.le_upd' hn7 (.cells #[.int .u64 0, .int .u64 0] 25) _ _ (Mm.upd_same M2 b6 (.cells #[nilS] 80)); refine wpList_storeAll_has (cells := #[nilS]) h rfl 80 _ _ rfl rfl rfl hx6 rfl rfl rfl (by kernel_rfl) rfl ?_; clear h; intro w h)
    | ((with_reducible show wpList _ _ _ ({ dst := _, op := Op.store 25 _ _, type := _, pos := _, after := _, guard := _ } :: _) _ _); have n67 := Mm.ne_of hn7 (Mm.upd_same M2 b6 (.cells #[nilS] 80)); have hx7 := (Mm.upd_ne (o := .cells #[nilS] 80) (Ne.symm n67)).trans (Mm.upd_same (M2.upd b6 (.cells #[nilS] 80)) b7 (.cells #[.int .u64 0, .int .u64 0] 25)); refine wpList_storeAll_has (cells := #[.int .u64 0, .int .u64 0]) h rfl 25 _ _ rfl rfl rfl hx7 rfl rfl rfl (by kernel_rfl) rfl ?_; clear h; intro w h))
  replace h : Has σ ((((M2.upd b6 (.cells #[nilS] 80)).upd b7 (.cells #[.int .u64 0, .int .u64 0] 25)).upd b6 (.cells #[nilS] 80)).upd b7 (.cells #[.int .u64 0, .int .u64 0] 25)) w := h
  replace hn7 : (M2.upd b6 (.cells #[nilS] 80)) b7 = none := hn7
  obtain ⟨hle3, hb6, hb7⟩ := Mm.again (o' := .cells #[.int .u64 0, .int .u64 0] 25) hn6 hn7 (.cells #[nilS] 80) (.cells #[.int .u64 0, .int .u64 0] 25)
  have hz7 := Mm.none_of (Mm.le_upd' hn6 (.cells #[nilS] 80)) hn7
  have n72 := Ne.symm (Mm.ne_of hz7 hb2)
  have n74 := Ne.symm (Mm.ne_of hz7 hb4)
  have n75 := Ne.symm (Mm.ne_of hz7 hb5)
  replace hle2 := Mm.le_trans hle2 hle3
  replace hb2 := hle3 _ _ hb2
  replace hb3 := hle3 _ _ hb3
  replace hb4 := hle3 _ _ hb4
  replace hb5 := hle3 _ _ hb5
  generalize ((((M2.upd b6 (.cells #[nilS] 80)).upd b7 (.cells #[.int .u64 0, .int .u64 0] 25)).upd b6 (.cells #[nilS] 80)).upd b7 (.cells #[.int .u64 0, .int .u64 0] 25)) = M3 at h hb2 hb3 hb4 hb5 hb6 hb7 hle2
  clear hle3
  have b60 := hb6
  clear hb6 b60 hb7 hn6 hn7
  have ra2 := ra
  have rz2 := rz
  have ro2 := Lib.hid (stR_one (se := se) (q := nilS) (li := li) (tl := tl) H1.out)
  generalize hrs : stR se nilS li tl = rs at *
  have HRS := Lib.hid hrs
  clear hrs
  go_wp2_with (first
    | ((with_reducible show wpList _ _ _ ({ dst := _, op := Op.load 85 _, type := _, pos := _, after := _, guard := _ } :: _) _ _); refine wpList_agg_has h rfl 85 _ rfl rfl hb2 ra2 rz2 Tryz.underlying85 rfl (by kernel_rfl) ?_; try simp only [Act.put, List.setIfInBounds_toArray, List.set_cons_zero, List.set_cons_succ])
    | ((with_reducible show wpList _ _ _ ({ dst := _, op := Op.store 85 _ _, type := _, pos := _, after := _, guard := _ } :: _) _ _); refine wpList_storeAll_has (cells := rs) h rfl 85 _ _ rfl rfl rfl hb4 rfl (z0.trans rz2.symm) rfl (by rw [rz2]; kernel_rfl) ro2.out ?_; clear h; intro w h)
    | ((with_reducible show wpList _ _ _ ({ dst := _, op := Op.store 30 _ _, type := _, pos := _, after := _, guard := _ } :: _) _ _); have hb55 := (Mm.upd_ne (M := M3) (o := .cells rs 85) (Ne.symm n_b4_b5)).trans hb5; refine wpList_storeAll_has (cells := (ansR 6 0 0 0 0 0)) h rfl 30 _ _ rfl rfl rfl hb55 rfl az rfl (by kernel_rfl) rfl ?_; clear h; intro w h))
  exact bodyPost_ret (results_cc rfl (CellRes.of h ((Mm.upd_ne n_b4_b5).trans (Mm.upd_same _ _ _)) rfl Tryz.underlying85 rfl (by rw [rz2]; kernel_rfl)) (CellRes.of h (Mm.upd_same _ _ _) rfl Tryz.underlying30 rfl (by kernel_rfl))) rfl ⟨by rw [HRS.out], h.le (Mm.le_upd (Mm.le_upd hle2 hn4 _) hn5 _)⟩
def LinePop (σ : World) (M : Mm) (se li tl : Value) (pa pb : Int) (r : Ending) (w' : World) : Prop := ∃ q' : Value, r = .returned (.tuple #[.agg (stR se q' li tl), .agg (ansR 0 pa pb 0 0 0)]) ∧ q'.oneCell' = true ∧ Has σ M w'
set_option maxHeartbeats 2000000 in
set_option maxRecDepth 20000 in
theorem line_pop (h : Has σ M w) (se li tl : Value) (A : Option Addr) (c : Nat) (pa pb : Int) (hr : Rd M 2 (.slice A 1 c) 1 [.int .u64 pa, .int .u64 pb]) (ky xa xb ha rg : Int) (h1 : One4 se nilS li tl) : Calls Tryz.prog 86 #[.agg (stR se (.slice A 1 c) li tl), .agg (callR 7 0 ky xa xb ha rg)] w fun r w' => LinePop σ M se li tl pa pb r w' := by
  have PO := Lib.hid (fun (M' : Mm) (hM : M.le M') (w : World) (h : Has σ M' w) => pop_yes h A c pa pb (hr.le hM))
  have H1 := Lib.hid h1
  clear h1 hr
  have cz := callR_size 7 0 ky xa xb ha rg
  have c0 := callR_op 7 0 ky xa xb ha rg
  have rz := stR_size se (.slice A 1 c) li tl
  have rl := stR_line se (.slice A 1 c) li tl
  have ra := stR_all se (.slice A 1 c) li tl
  have z0 := st0_size
  have az := ansR_size 0 0 0 0 0 0
  go_enter Tryz.func86, Tryz.ntmps86
  go_upto_region 1 with (first
    | ((with_reducible show wpList _ _ _ ({ dst := _, op := Op.box 85 _, type := _, pos := _, after := _, guard := _ } :: _) _ _); refine wpList_box_has h rfl 85 _ rfl ?_; clear h; intro b2 w h hn2; try simp only [Act.put, List.setIfInBounds_toArray, List.set_cons_zero, List.set_cons_succ])
    | ((with_reducible show wpList _ _ _ ({ dst := _, op := Op.box 27 _, type := _, pos := _, after := _, guard := _ } :: _) _ _); refine wpList_box_has h rfl 27 _ rfl ?_; clear h; intro b3 w h hn3; try simp only [Act.put, List.setIfInBounds_toArray, List.set_cons_zero, List.set_cons_succ])
    | ((with_reducible show wpList _ _ _ ({ dst := some 4, op := Op.alloc 85, type := _, pos := _, after := _, guard := _ } :: _) _ _); refine wpList_alloc_has h rfl 85 rfl _ zst ?_; clear h; intro b4 w h hn4; try simp only [Act.put, List.setIfInBounds_toArray, List.set_cons_zero, List.set_cons_succ])
    | ((with_reducible show wpList _ _ _ ({ dst := some 5, op := Op.alloc 30, type := _, pos := _, after := _, guard := _ } :: _) _ _); refine wpList_alloc_has h rfl 30 rfl _ zans ?_; clear h; intro b5 w h hn5; try simp only [Act.put, List.setIfInBounds_toArray, List.set_cons_zero, List.set_cons_succ]))
  replace hn2 : M b2 = none := hn2
  replace hn3 : (M.upd b2 (.cells (stR se (.slice A 1 c) li tl) 85)) b3 = none := hn3
  replace hn4 : ((M.upd b2 (.cells (stR se (.slice A 1 c) li tl) 85)).upd b3 (.cells (callR 7 0 ky xa xb ha rg) 27)) b4 = none := hn4
  replace hn5 : (((M.upd b2 (.cells (stR se (.slice A 1 c) li tl) 85)).upd b3 (.cells (callR 7 0 ky xa xb ha rg) 27)).upd b4 (.cells st0 85)) b5 = none := hn5
  replace h : Has σ ((((M.upd b2 (.cells (stR se (.slice A 1 c) li tl) 85)).upd b3 (.cells (callR 7 0 ky xa xb ha rg) 27)).upd b4 (.cells st0 85)).upd b5 (.cells (ansR 0 0 0 0 0 0) 30)) w := h
  have hle2 : M.le ((((M.upd b2 (.cells (stR se (.slice A 1 c) li tl) 85)).upd b3 (.cells (callR 7 0 ky xa xb ha rg) 27)).upd b4 (.cells st0 85)).upd b5 (.cells (ansR 0 0 0 0 0 0) 30)) := Mm.le_trans (Mm.le_upd' hn2 _) (Mm.le_trans (Mm.le_upd' hn3 _) (Mm.le_trans (Mm.le_upd' hn4 _) (Mm.le_upd' hn5 _)))
  have hb2 : ((((M.upd b2 (.cells (stR se (.slice A 1 c) li tl) 85)).upd b3 (.cells (callR 7 0 ky xa xb ha rg) 27)).upd b4 (.cells st0 85)).upd b5 (.cells (ansR 0 0 0 0 0 0) 30)) b2 = some (.cells (stR se (.slice A 1 c) li tl) 85) := (Mm.le_trans (Mm.le_upd' hn3 _) (Mm.le_trans (Mm.le_upd' hn4 _) (Mm.le_upd' hn5 _))) _ _ (Mm.upd_same _ _ _)
  have hb3 : ((((M.upd b2 (.cells (stR se (.slice A 1 c) li tl) 85)).upd b3 (.cells (callR 7 0 ky xa xb ha rg) 27)).upd b4 (.cells st0 85)).upd b5 (.cells (ansR 0 0 0 0 0 0) 30)) b3 = some (.cells (callR 7 0 ky xa xb ha rg) 27) := (Mm.le_trans (Mm.le_upd' hn4 _) (Mm.le_upd' hn5 _)) _ _ (Mm.upd_same _ _ _)
  have hb4 : ((((M.upd b2 (.cells (stR se (.slice A 1 c) li tl) 85)).upd b3 (.cells (callR 7 0 ky xa xb ha rg) 27)).upd b4 (.cells st0 85)).upd b5 (.cells (ansR 0 0 0 0 0 0) 30)) b4 = some (.cells st0 85) := (Mm.le_upd' hn5 _) _ _ (Mm.upd_same _ _ _)
  have hb5 : ((((M.upd b2 (.cells (stR se (.slice A 1 c) li tl) 85)).upd b3 (.cells (callR 7 0 ky xa xb ha rg) 27)).upd b4 (.cells st0 85)).upd b5 (.cells (ansR 0 0 0 0 0 0) 30)) b5 = some (.cells (ansR 0 0 0 0 0 0) 30) := (Mm.le_refl _) _ _ (Mm.upd_same _ _ _)
  have n_b2_b3 : b2 ≠ b3 := Mm.ne_of hn3 ((Mm.le_refl _) _ _ (Mm.upd_same _ _ _))
  have n_b2_b4 : b2 ≠ b4 := Mm.ne_of hn4 ((Mm.le_upd' hn3 _) _ _ (Mm.upd_same _ _ _))
  have n_b3_b4 : b3 ≠ b4 := Mm.ne_of hn4 ((Mm.le_refl _) _ _ (Mm.upd_same _ _ _))
  have n_b2_b5 : b2 ≠ b5 := Mm.ne_of hn5 ((Mm.le_trans (Mm.le_upd' hn3 _) (Mm.le_upd' hn4 _)) _ _ (Mm.upd_same _ _ _))
  have n_b3_b5 : b3 ≠ b5 := Mm.ne_of hn5 ((Mm.le_upd' hn4 _) _ _ (Mm.upd_same _ _ _))
  have n_b4_b5 : b4 ≠ b5 := Mm.ne_of hn5 ((Mm.le_refl _) _ _ (Mm.upd_same _ _ _))
  replace hn5 : M b5 = none := Mm.none_of (Mm.le_trans (Mm.le_upd' hn2 _) (Mm.le_trans (Mm.le_upd' hn3 _) (Mm.le_upd' hn4 _))) hn5
  replace hn4 : M b4 = none := Mm.none_of (Mm.le_trans (Mm.le_upd' hn2 _) (Mm.le_upd' hn3 _)) hn4
  replace hn3 : M b3 = none := Mm.none_of (Mm.le_upd' hn2 _) hn3
  replace hn2 : M b2 = none := Mm.none_of (Mm.le_refl _) hn2
  generalize ((((M.upd b2 (.cells (stR se (.slice A 1 c) li tl) 85)).upd b3 (.cells (callR 7 0 ky xa xb ha rg) 27)).upd b4 (.cells st0 85)).upd b5 (.cells (ansR 0 0 0 0 0 0) 30)) = M2 at h hle2 hb2 hb3 hb4 hb5
  generalize callR 7 0 ky xa xb ha rg = cc at *
  generalize (ansR 0 0 0 0 0 0) = a0 at *
  generalize st0 = s0 at *
  go_upto_region 5 with (first
    | (with_reducible show wpList _ _ _ ({ dst := _, op := Op.load 3 _, type := _, pos := _, after := _, guard := _ } :: _) _ _; refine wpList_load1_has h rfl 3 _ rfl rfl hb3 c0 Tryz.underlying3 rfl ?_)
    | ((with_reducible show wpList _ _ _ ({ dst := _, op := Op.load 80 _, type := _, pos := _, after := _, guard := _ } :: _) _ _); refine wpList_agg_has h rfl 80 _ rfl rfl hb2 rl rfl Tryz.underlying80 rfl (by kernel_rfl) ?_; try simp only [Act.put, List.setIfInBounds_toArray, List.set_cons_zero, List.set_cons_succ])
    | (go_at_call 117; refine (PO.out _ hle2 _ h).mono ?_; clear h; rintro _ w ⟨q', rfl, hq1, h⟩)
    | ((with_reducible show wpList _ _ _ ({ dst := some 6, op := Op.alloc 80, type := _, pos := _, after := _, guard := _ } :: _) _ _); refine wpList_alloc_has h rfl 80 rfl _ zline ?_; clear h; intro b6 w h hn6; try simp only [Act.put, List.setIfInBounds_toArray, List.set_cons_zero, List.set_cons_succ])
    | ((with_reducible show wpList _ _ _ ({ dst := some 7, op := Op.alloc 25, type := _, pos := _, after := _, guard := _ } :: _) _ _); refine wpList_alloc_has h rfl 25 rfl _ zpair ?_; clear h; intro b7 w h hn7; try simp only [Act.put, List.setIfInBounds_toArray, List.set_cons_zero, List.set_cons_succ])
    | ((with_reducible show wpList _ _ _ ({ dst := _, op := Op.store 80 _ _, type := _, pos := _, after := _, guard := _ } :: _) _ _); have hx6 := Mm.le_upd' hn7 (.cells #[.int .u64 0, .int .u64 0] 25) _ _ (Mm.upd_same M2 b6 (.cells #[nilS] 80)); refine wpList_storeAll_has (cells := #[q']) h rfl 80 _ _ rfl rfl rfl hx6 rfl rfl rfl (by kernel_rfl) (by simp [hq1]) ?_; clear h; intro w h)
    | ((with_reducible show wpList _ _ _ ({ dst := _, op := Op.store 25 _ _, type := _, pos := _, after := _, guard := _ } :: _) _ _); have n67 := Mm.ne_of hn7 (Mm.upd_same M2 b6 (.cells #[nilS] 80)); have hx7 := (Mm.upd_ne (o := .cells #[q'] 80) (Ne.symm n67)).trans (Mm.upd_same (M2.upd b6 (.cells #[nilS] 80)) b7 (.cells #[.int .u64 0, .int .u64 0] 25)); refine wpList_storeAll_has (cells := #[.int .u64 pa, .int .u64 pb]) h rfl 25 _ _ rfl rfl rfl hx7 rfl rfl rfl (by kernel_rfl) rfl ?_; clear h; intro w h))
  replace h : Has σ ((((M2.upd b6 (.cells #[nilS] 80)).upd b7 (.cells #[.int .u64 0, .int .u64 0] 25)).upd b6 (.cells #[q'] 80)).upd b7 (.cells #[.int .u64 pa, .int .u64 pb] 25)) w := h
  replace hn7 : (M2.upd b6 (.cells #[nilS] 80)) b7 = none := hn7
  obtain ⟨hle3, hb6, hb7⟩ := Mm.again (o' := .cells #[.int .u64 0, .int .u64 0] 25) hn6 hn7 (.cells #[q'] 80) (.cells #[.int .u64 pa, .int .u64 pb] 25)
  have hz7 := Mm.none_of (Mm.le_upd' hn6 (.cells #[nilS] 80)) hn7
  have n72 := Ne.symm (Mm.ne_of hz7 hb2)
  have n74 := Ne.symm (Mm.ne_of hz7 hb4)
  have n75 := Ne.symm (Mm.ne_of hz7 hb5)
  replace hle2 := Mm.le_trans hle2 hle3
  replace hb2 := hle3 _ _ hb2
  replace hb3 := hle3 _ _ hb3
  replace hb4 := hle3 _ _ hb4
  replace hb5 := hle3 _ _ hb5
  generalize ((((M2.upd b6 (.cells #[nilS] 80)).upd b7 (.cells #[.int .u64 0, .int .u64 0] 25)).upd b6 (.cells #[q'] 80)).upd b7 (.cells #[.int .u64 pa, .int .u64 pb] 25)) = M3 at h hb2 hb3 hb4 hb5 hb6 hb7 hle2
  clear hle3
  have hz := rz
  have RP := fun v => stR_put se (.slice A 1 c) li tl v
  have k60 : (60 : Nat) < 63 := by decide
  have q2x : (#[q'] : Array Value).extract 0 (0 + 1) = #[q'] := rfl
  have cpx := pair_all (.int .u64 pa) (.int .u64 pb)
  go_upto_region 9 with (first
    | (with_reducible show wpList _ _ _ ({ dst := _, op := Op.load 3 _, type := _, pos := _, after := _, guard := _ } :: _) _ _; refine wpList_load1_has h rfl 3 _ rfl rfl hb3 c0 Tryz.underlying3 rfl ?_)
    | ((with_reducible show wpList _ _ _ ({ dst := _, op := Op.load 80 _, type := _, pos := _, after := _, guard := _ } :: _) _ _); refine wpList_agg_has h rfl 80 _ rfl rfl hb6 q2x rfl Tryz.underlying80 rfl (by kernel_rfl) ?_; try simp only [Act.put, List.setIfInBounds_toArray, List.set_cons_zero, List.set_cons_succ])
    | ((with_reducible show wpList _ _ _ ({ dst := _, op := Op.store 80 _ _, type := _, pos := _, after := _, guard := _ } :: _) _ _); refine wpList_storeS1_has h rfl 80 _ _ rfl rfl rfl hb2 (by rw [rz]; decide) rfl (by kernel_rfl) hq1 ?_; clear h; intro w h; rw [RP] at h))
  have n24 := n_b2_b4
  have ra2 := stR_all se q' li tl
  have rz2 := stR_size se q' li tl
  have ro2 := Lib.hid (stR_one (se := se) (q := q') (li := li) (tl := tl) ⟨H1.out.1, hq1, H1.out.2.2⟩)
  have hle4 : M.le (M3.upd b2 (.cells (stR se q' li tl) 85)) := Mm.le_upd hle2 hn2 _
  have k2 := Mm.drop_of (Mm.drop_of (Mm.upd_same M3 b2 (.cells (stR se q' li tl) 85)) n_b2_b4) n_b2_b5
  have k7 := Mm.drop_of (Mm.drop_of ((Mm.upd_ne (o := .cells (stR se q' li tl) 85) n72).trans hb7) n74) n75
  have g4 := (Mm.upd_ne (o := .cells (stR se q' li tl) 85) (Ne.symm n_b2_b4)).trans hb4
  have g5 := (Mm.upd_ne (o := .cells (stR se q' li tl) 85) (Ne.symm n_b2_b5)).trans hb5
  clear hb2 hb3 hb4 hb5 hb6 hb7 rz rl ra RP PO
  generalize M3.upd b2 _ = M4 at *
  generalize hrs : stR se q' li tl = rs at *
  have HRS := Lib.hid hrs
  clear hrs
  have hd1 : ((M4.drop b4).drop b5).le (M4.upd b4 (.cells rs 85)) := Mm.le_trans (Mm.drop_le _ _) (Mm.drop_upd (Mm.drop_le _ _) _)
  have hd2 : ((M4.drop b4).drop b5).le ((M4.upd b4 (.cells rs 85)).upd b5 (.cells (ansR 0 pa pb 0 0 0) 30)) := Mm.drop_upd hd1 _
  have hM : M.le ((M4.drop b4).drop b5) := fun c o hc => Mm.drop_of (Mm.drop_of (hle4 _ _ hc) fun e => by subst e; rw [hn4] at hc; cases hc) fun e => by subst e; rw [hn5] at hc; cases hc
  refine wp_region_held_drew (S := Has σ ((M4.drop b4).drop b5)) (by kernel_rfl) (h.drew.le (Mm.le_trans (Mm.drop_le _ _) (Mm.drop_le _ _))) (fun hHeld => ?_)
  replace h := h.drew
  refine wpAnyH_take (i := 0) (v := _) rfl (by kernel_rfl) (by kernel_rfl) (by kernel_rfl) (fun _ _ _ h => h) (yields_agg rfl 85 _ rfl rfl k2 ra2 rz2 Tryz.underlying85 rfl (by kernel_rfl)) hHeld ?_
  try simp only [List.getElem_toArray, List.getElem_cons_succ, List.getElem_cons_zero, Act.put, List.setIfInBounds_toArray, List.set_cons_zero, List.set_cons_succ]
  refine wpAnyH_take (i := 1) (v := _) rfl (by kernel_rfl) (by kernel_rfl) (by kernel_rfl) (fun _ _ _ h => h) (yields_agg rfl 25 _ rfl rfl k7 cpx rfl Tryz.underlying25 rfl (by kernel_rfl)) hHeld ?_
  try simp only [List.getElem_toArray, List.getElem_cons_succ, List.getElem_cons_zero, Act.put, List.setIfInBounds_toArray, List.set_cons_zero, List.set_cons_succ]
  refine wpAnyH_take (i := 2) (v := .agg (ansR 0 pa pb 0 0 0)) rfl (by kernel_rfl) (by kernel_rfl) (by kernel_rfl) (fun _ _ _ h => h) (Or.inl ⟨by rfl, fun wz _ => exec_build1 30 _ _ rfl (.agg #[.int .u64 pa, .int .u64 pb]) rfl _ (by kernel_rfl) wz⟩) hHeld ?_
  try simp only [List.getElem_toArray, List.getElem_cons_succ, List.getElem_cons_zero, Act.put, List.setIfInBounds_toArray, List.set_cons_zero, List.set_cons_succ]
  refine wpAnyH_ready (rs := [3]) (by kernel_rfl) (by simp) ?_
  refine AllReadyH.cons rfl (fun K hK => ?_) AllReadyH.nil
  (refine step_storeAll (cells := rs) h rfl 85 _ _ rfl rfl rfl g4 rfl (z0.trans rz2.symm) (by rw [rz2]; kernel_rfl) ro2.out ?_; clear h hHeld; intro w h)
  refine hK.out _ _ (h.le hd1) (fun hHeld => ?_)
  clear hK K
  try simp only [Act.put, List.setIfInBounds_toArray, List.set_cons_zero, List.set_cons_succ]
  have g55 := (Mm.upd_ne (o := .cells rs 85) (Ne.symm n_b4_b5)).trans g5
  refine wpAnyH_ready (rs := [4]) (by kernel_rfl) (by simp) ?_
  refine AllReadyH.cons rfl (fun K hK => ?_) AllReadyH.nil
  (refine step_storeAll (cells := (ansR 0 pa pb 0 0 0)) h rfl 30 _ _ rfl rfl rfl g55 rfl az (by kernel_rfl) rfl ?_; clear h hHeld; intro w h)
  refine hK.out _ _ (h.le hd2) (fun hHeld => ?_)
  clear hK K
  try simp only [Act.put, List.setIfInBounds_toArray, List.set_cons_zero, List.set_cons_succ]
  refine wpAnyH_done (by kernel_rfl) ?_ _
  go_wp2
  exact bodyPost_ret (results_cc rfl (CellRes.of h ((Mm.upd_ne n_b4_b5).trans (Mm.upd_same _ _ _)) rfl Tryz.underlying85 rfl (by rw [rz2]; kernel_rfl)) (CellRes.of h (Mm.upd_same _ _ _) rfl Tryz.underlying30 rfl (by kernel_rfl))) rfl ⟨q', by rw [HRS.out], hq1, h.le (Mm.le_trans hM hd2)⟩
end
end Go.Proofs.YtjnhklhgcbknkaaGreatDoor
