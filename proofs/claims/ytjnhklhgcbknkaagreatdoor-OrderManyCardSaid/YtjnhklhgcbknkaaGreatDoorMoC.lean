/- Layer 13: a state is told that Get found none, and Put. -/
import Derived.Test.YtjnhklhgcbknkaaGreatDoorMoB
namespace Go.Proofs.YtjnhklhgcbknkaaGreatDoor
open Go.RowKit
set_option linter.unusedVariables false
set_option linter.unusedSimpArgs false
set_option linter.unnecessarySimpa false
section
variable {σ w : World} {M : Mm}
set_option maxHeartbeats 1000000 in
theorem told_none (h : Has σ M w) (op lv ky pa pb ha rg : Int) : Calls Tryz.prog 92 #[.agg (callR op lv ky pa pb ha rg), .agg (ansR 6 0 0 0 0 0)] w fun r w' => r = .returned (.agg (ansR 6 0 0 0 0 0)) ∧ Has σ M w' := by
  have hq : Calls Tryz.prog 92 #[.agg (callR op lv ky pa pb ha rg), .agg (ansR 6 0 0 0 0 0)] w fun r w' => r = .returned (.agg (ansR 6 0 0 0 0 0)) ∧ Below w.heap.size w w' := by
    clear h
    unfold callR ansR
    go_enter Tryz.func92, Tryz.ntmps92
    go_wp2
    exact bodyPost_ret (v := .agg (ansR 6 0 0 0 0 0)) (by simp [results, Tryz.results92, go_sem, ansR]) rfl ⟨rfl, by repeat (first | with_reducible exact Below.refl _ _ | with_reducible refine Below.drew ?_ | with_reducible refine below_put ?_ (by omega) _ | with_reducible refine Below.alloc ?_ (by simp <;> omega) _)⟩
  exact hq.mono fun _ _ ⟨h1, h2⟩ => ⟨h1, h.below h2⟩
set_option maxHeartbeats 1000000 in
theorem callRefused_16 (h : Has σ M w) : Calls Tryz.prog 94 #[.int .i64 1, .int .i64 6] w fun r w' => r = .returned (.bool true) ∧ Has σ M w' := by
  go_enter Tryz.func94, Tryz.ntmps94
  go_wp2
  go_ret
  exact ⟨rfl, h⟩
set_option maxHeartbeats 2000000 in
theorem fits_none (h : Has σ M w) (ky pa pb ha rg : Int) (ho : OkCall 1 rg) :
    Calls Tryz.prog 73 #[.agg (callR 1 0 ky pa pb ha rg), .agg (ansR 6 0 0 0 0 0)] w fun r w' => r = .returned (.bool true) ∧ Has σ M w' := by
  have MY := Lib.hid (fun (M : Mm) (w : World) (h : Has σ M w) => callMay_ok h 1 ky pa pb ha rg ho)
  have TD := Lib.hid (fun (M : Mm) (w : World) (h : Has σ M w) => told_none h 1 0 ky pa pb ha rg)
  have cz := callR_size 1 0 ky pa pb ha rg
  have cx := callR_all 1 0 ky pa pb ha rg
  have c0 := callR_op 1 0 ky pa pb ha rg
  have az := ansR_size 6 0 0 0 0 0
  have ax := ansR_all 6 0 0 0 0 0
  have a0 : (ansR 6 0 0 0 0 0)[0]? = some (.int .i64 6) := rfl
  have FT := Lib.hid (ansR_fits 6 0 0 0 0 0)
  have SM := Lib.hid (ansR_same 6 0 0 0 0 0)
  clear ho
  generalize callR 1 0 ky pa pb ha rg = cc at *
  generalize ansR 6 0 0 0 0 0 = aa at *
  go_enter Tryz.func73, Tryz.ntmps73
  go_upto_region 1 with (fail)
  obtain ⟨M2, hbx, hle, hb2, hb3, hn2, hn3⟩ := h.box2 (.cells cc 27) (.cells aa 30)
  generalize (w.alloc _).alloc _ = wx at hbx ⊢
  have hne_b2_b3 : w.heap.size ≠ w.heap.size + 1 := Nat.ne_of_lt (Nat.lt_succ_self _)
  generalize w.heap.size + 1 = b3 at hb3 hn3 hne_b2_b3 ⊢
  generalize w.heap.size = b2 at hb2 hn2 hne_b2_b3 ⊢
  clear h
  try clear w
  have h := hbx
  clear hbx
  obtain ⟨w, rfl⟩ : ∃ x : World, x = wx := ⟨_, rfl⟩
  have MY2 := Lib.hid (MY.out M2)
  have TD2 := Lib.hid (TD.out M2)
  refine wp_region_class (Has σ M2) (by kernel_rfl) (by kernel_rfl) h.drew ?_
  clear h
  repeat (first
    | go_big_quiet_skip
    | (go_big_quiet_want; first
      | (refine quiet_agg_has 27 _ rfl rfl hb2 cx cz Tryz.underlying27 rfl (by kernel_rfl) ?_; simp only [Act.put, List.setIfInBounds_toArray, List.set_cons_zero, List.set_cons_succ]; go_big_quiet_on)
      | (refine quiet_agg_has 30 _ rfl rfl hb3 ax az Tryz.underlying30 rfl (by kernel_rfl) ?_; simp only [Act.put, List.setIfInBounds_toArray, List.set_cons_zero, List.set_cons_succ]; go_big_quiet_on)
      | ((refine quiet_neq_flat 30 _ _ _ rfl rfl rfl 10 (by omega) (ks := ansKs) (by kernel_rfl) rfl (by kernel_rfl) Tryz.underlying30 rfl (by kernel_rfl) FT.out FT.out ?_; rw [SM.out]); simp only [Act.put, List.setIfInBounds_toArray, List.set_cons_zero, List.set_cons_succ]; go_big_quiet_on)
      | (go_big_quiet_op; first | go_big_quiet_on | go_big_quiet_call (first | with_reducible exact fun _ => rfl | with_reducible exact MY2.out _ | with_reducible exact TD2.out _))))
  refine wpQuiet_nil ?_
  try clear w
  intro w h
  have RF := Lib.hid (fun (w : World) (h : Has σ M2 w) => callRefused_16 h)
  go_wp2_with (first
    | (with_reducible show wpList _ _ _ ({ dst := _, op := Op.load 28 _, type := _, pos := _, after := _, guard := _ } :: _) _ _; refine wpList_load1_has h rfl 28 _ rfl rfl hb3 a0 Tryz.underlying28 rfl ?_)
    | (with_reducible show wpList _ _ _ ({ dst := _, op := Op.load 3 _, type := _, pos := _, after := _, guard := _ } :: _) _ _; refine wpList_load1_has h rfl 3 _ rfl rfl hb2 c0 Tryz.underlying3 rfl ?_)
    | (go_at_call 94; refine (RF.out _ h).mono ?_; clear h; rintro _ w ⟨rfl, h⟩))
  go_ret
  exact ⟨rfl, h.le hle⟩
set_option maxHeartbeats 1000000 in
set_option maxRecDepth 20000 in
theorem mayNot_none (h : Has σ M w) (rs : Array Value) (own : Bool) (ky pa pb ha rg : Int) (ho : OkCall 1 rg) :
    Calls Tryz.prog 72 #[.agg rs, .bool own, .agg (callR 1 0 ky pa pb ha rg), .agg (ansR 6 0 0 0 0 0)] w fun r w' => r = .returned (.bool false) ∧ Has σ M w' := by
  have FT := Lib.hid (fun (M : Mm) (w : World) (h : Has σ M w) => fits_none h ky pa pb ha rg ho)
  have cz := callR_size 1 0 ky pa pb ha rg
  have cx := callR_all 1 0 ky pa pb ha rg
  have az := ansR_size 6 0 0 0 0 0
  have ax := ansR_all 6 0 0 0 0 0
  have a0 : (ansR 6 0 0 0 0 0)[0]? = some (.int .i64 6) := rfl
  clear ho
  generalize callR 1 0 ky pa pb ha rg = cc at *
  generalize ansR 6 0 0 0 0 0 = aa at *
  go_enter Tryz.func72, Tryz.ntmps72
  go_upto_region 1 with (first
    | ((with_reducible show wpList _ _ _ ({ dst := _, op := Op.box 85 _, type := _, pos := _, after := _, guard := _ } :: _) _ _); refine wpList_box_has h rfl 85 _ rfl ?_; clear h; intro b2 w h hn2; try simp only [Act.put, List.setIfInBounds_toArray, List.set_cons_zero, List.set_cons_succ])
    | ((with_reducible show wpList _ _ _ ({ dst := _, op := Op.box 27 _, type := _, pos := _, after := _, guard := _ } :: _) _ _); refine wpList_box_has h rfl 27 _ rfl ?_; clear h; intro b3 w h hn3; try simp only [Act.put, List.setIfInBounds_toArray, List.set_cons_zero, List.set_cons_succ])
    | ((with_reducible show wpList _ _ _ ({ dst := _, op := Op.box 30 _, type := _, pos := _, after := _, guard := _ } :: _) _ _); refine wpList_box_has h rfl 30 _ rfl ?_; clear h; intro b4 w h hn4; try simp only [Act.put, List.setIfInBounds_toArray, List.set_cons_zero, List.set_cons_succ]))
  replace hn2 : M b2 = none := hn2
  replace hn3 : (M.upd b2 (.cells rs 85)) b3 = none := hn3
  replace hn4 : ((M.upd b2 (.cells rs 85)).upd b3 (.cells cc 27)) b4 = none := hn4
  replace h : Has σ (((M.upd b2 (.cells rs 85)).upd b3 (.cells cc 27)).upd b4 (.cells aa 30)) w := h
  have hle2 : M.le (((M.upd b2 (.cells rs 85)).upd b3 (.cells cc 27)).upd b4 (.cells aa 30)) := Mm.le_trans (Mm.le_upd' hn2 _) (Mm.le_trans (Mm.le_upd' hn3 _) (Mm.le_upd' hn4 _))
  have hb2 : (((M.upd b2 (.cells rs 85)).upd b3 (.cells cc 27)).upd b4 (.cells aa 30)) b2 = some (.cells rs 85) := (Mm.le_trans (Mm.le_upd' hn3 _) (Mm.le_upd' hn4 _)) _ _ (Mm.upd_same _ _ _)
  have hb3 : (((M.upd b2 (.cells rs 85)).upd b3 (.cells cc 27)).upd b4 (.cells aa 30)) b3 = some (.cells cc 27) := (Mm.le_upd' hn4 _) _ _ (Mm.upd_same _ _ _)
  have hb4 : (((M.upd b2 (.cells rs 85)).upd b3 (.cells cc 27)).upd b4 (.cells aa 30)) b4 = some (.cells aa 30) := (Mm.le_refl _) _ _ (Mm.upd_same _ _ _)
  have n_b2_b3 : b2 ≠ b3 := Mm.ne_of hn3 ((Mm.le_refl _) _ _ (Mm.upd_same _ _ _))
  have n_b2_b4 : b2 ≠ b4 := Mm.ne_of hn4 ((Mm.le_upd' hn3 _) _ _ (Mm.upd_same _ _ _))
  have n_b3_b4 : b3 ≠ b4 := Mm.ne_of hn4 ((Mm.le_refl _) _ _ (Mm.upd_same _ _ _))
  replace hn4 : M b4 = none := Mm.none_of (Mm.le_trans (Mm.le_upd' hn2 _) (Mm.le_upd' hn3 _)) hn4
  replace hn3 : M b3 = none := Mm.none_of (Mm.le_upd' hn2 _) hn3
  replace hn2 : M b2 = none := Mm.none_of (Mm.le_refl _) hn2
  generalize (((M.upd b2 (.cells rs 85)).upd b3 (.cells cc 27)).upd b4 (.cells aa 30)) = M2 at h hle2 hb2 hb3 hb4
  go_wp2_with (first
    | (with_reducible show wpList _ _ _ ({ dst := _, op := Op.load 28 _, type := _, pos := _, after := _, guard := _ } :: _) _ _; refine wpList_load1_has h rfl 28 _ rfl rfl hb4 a0 Tryz.underlying28 rfl ?_)
    | ((with_reducible show wpList _ _ _ ({ dst := _, op := Op.load 30 _, type := _, pos := _, after := _, guard := _ } :: _) _ _); refine wpList_agg_has h rfl 30 _ rfl rfl hb4 ax az Tryz.underlying30 rfl (by kernel_rfl) ?_; try simp only [Act.put, List.setIfInBounds_toArray, List.set_cons_zero, List.set_cons_succ])
    | ((with_reducible show wpList _ _ _ ({ dst := _, op := Op.load 27 _, type := _, pos := _, after := _, guard := _ } :: _) _ _); refine wpList_agg_has h rfl 27 _ rfl rfl hb3 cx cz Tryz.underlying27 rfl (by kernel_rfl) ?_; try simp only [Act.put, List.setIfInBounds_toArray, List.set_cons_zero, List.set_cons_succ])
    | (go_at_call 73; refine (FT.out _ _ h).mono ?_; clear h; rintro _ w ⟨rfl, h⟩))
  go_ret
  exact ⟨rfl, h.le hle2⟩
set_option maxHeartbeats 1000000 in
set_option maxRecDepth 20000 in
theorem does_rows {Y : Mm → Mm → Value → Prop} {mk : Value → Array Value} (hY : Stays Y) (hmk : ∀ q', q'.oneCell' = true → StRow (mk q')) (h : Has σ M w) (rs bb : Array Value) (op ky pa pb ha rg told : Int) (own : Bool) (ho : op = 0 ∨ op = 1) (hrs : StRow rs) (hbz : bb.size = 6) (hbo : bb.toList.all (·.oneCell') = true)
    (LN : ∀ (M' : Mm) (w : World), M.le M' → Has σ M' w → Calls Tryz.prog 83 #[.agg rs, .agg (callR op 0 ky pa pb ha rg)] w fun r w' => OutG Y mk σ M' bb r w') :
    Calls Tryz.prog 69 #[.agg rs, .bool own, .agg (callR op 0 ky pa pb ha rg), .int .u64 told] w fun r w' => OutG Y mk σ M bb r w' := by
  have LN := Lib.hid LN
  have HY := Lib.hid hY
  have HMK := Lib.hid hmk
  have o7 : (op == 0) = true ∨ (op == 0) = false ∧ (op == 1) = true := by rcases ho with rfl | rfl <;> simp
  have cz := callR_size op 0 ky pa pb ha rg
  have cx := callR_all op 0 ky pa pb ha rg
  have c0 := callR_op op 0 ky pa pb ha rg
  have rz := hrs.1
  have ra := ext_all hrs.1
  have z0 := st0_size
  have bz := hbz
  have BO := Lib.hid hbo
  clear hrs ho hY hmk hbz hbo
  generalize callR op 0 ky pa pb ha rg = cc at *
  go_enter Tryz.func69, Tryz.ntmps69
  go_upto_region 1 with (first
    | ((with_reducible show wpList _ _ _ ({ dst := _, op := Op.box 85 _, type := _, pos := _, after := _, guard := _ } :: _) _ _); refine wpList_box_has h rfl 85 _ rfl ?_; clear h; intro b2 w h hn2; try simp only [Act.put, List.setIfInBounds_toArray, List.set_cons_zero, List.set_cons_succ])
    | ((with_reducible show wpList _ _ _ ({ dst := _, op := Op.box 27 _, type := _, pos := _, after := _, guard := _ } :: _) _ _); refine wpList_box_has h rfl 27 _ rfl ?_; clear h; intro b3 w h hn3; try simp only [Act.put, List.setIfInBounds_toArray, List.set_cons_zero, List.set_cons_succ])
    | ((with_reducible show wpList _ _ _ ({ dst := some 8, op := Op.alloc 85, type := _, pos := _, after := _, guard := _ } :: _) _ _); refine wpList_alloc_has h rfl 85 rfl _ zst ?_; clear h; intro b4 w h hn4; try simp only [Act.put, List.setIfInBounds_toArray, List.set_cons_zero, List.set_cons_succ])
    | ((with_reducible show wpList _ _ _ ({ dst := some 9, op := Op.alloc 30, type := _, pos := _, after := _, guard := _ } :: _) _ _); refine wpList_alloc_has h rfl 30 rfl _ zans ?_; clear h; intro b5 w h hn5; try simp only [Act.put, List.setIfInBounds_toArray, List.set_cons_zero, List.set_cons_succ]))
  replace hn2 : M b2 = none := hn2
  replace hn3 : (M.upd b2 (.cells rs 85)) b3 = none := hn3
  replace hn4 : ((M.upd b2 (.cells rs 85)).upd b3 (.cells cc 27)) b4 = none := hn4
  replace hn5 : (((M.upd b2 (.cells rs 85)).upd b3 (.cells cc 27)).upd b4 (.cells st0 85)) b5 = none := hn5
  replace h : Has σ ((((M.upd b2 (.cells rs 85)).upd b3 (.cells cc 27)).upd b4 (.cells st0 85)).upd b5 (.cells (ansR 0 0 0 0 0 0) 30)) w := h
  have hle2 : M.le ((((M.upd b2 (.cells rs 85)).upd b3 (.cells cc 27)).upd b4 (.cells st0 85)).upd b5 (.cells (ansR 0 0 0 0 0 0) 30)) := Mm.le_trans (Mm.le_upd' hn2 _) (Mm.le_trans (Mm.le_upd' hn3 _) (Mm.le_trans (Mm.le_upd' hn4 _) (Mm.le_upd' hn5 _)))
  have hb2 : ((((M.upd b2 (.cells rs 85)).upd b3 (.cells cc 27)).upd b4 (.cells st0 85)).upd b5 (.cells (ansR 0 0 0 0 0 0) 30)) b2 = some (.cells rs 85) := (Mm.le_trans (Mm.le_upd' hn3 _) (Mm.le_trans (Mm.le_upd' hn4 _) (Mm.le_upd' hn5 _))) _ _ (Mm.upd_same _ _ _)
  have hb3 : ((((M.upd b2 (.cells rs 85)).upd b3 (.cells cc 27)).upd b4 (.cells st0 85)).upd b5 (.cells (ansR 0 0 0 0 0 0) 30)) b3 = some (.cells cc 27) := (Mm.le_trans (Mm.le_upd' hn4 _) (Mm.le_upd' hn5 _)) _ _ (Mm.upd_same _ _ _)
  have hb4 : ((((M.upd b2 (.cells rs 85)).upd b3 (.cells cc 27)).upd b4 (.cells st0 85)).upd b5 (.cells (ansR 0 0 0 0 0 0) 30)) b4 = some (.cells st0 85) := (Mm.le_upd' hn5 _) _ _ (Mm.upd_same _ _ _)
  have hb5 : ((((M.upd b2 (.cells rs 85)).upd b3 (.cells cc 27)).upd b4 (.cells st0 85)).upd b5 (.cells (ansR 0 0 0 0 0 0) 30)) b5 = some (.cells (ansR 0 0 0 0 0 0) 30) := (Mm.le_refl _) _ _ (Mm.upd_same _ _ _)
  have n_b2_b3 : b2 ≠ b3 := Mm.ne_of hn3 ((Mm.le_refl _) _ _ (Mm.upd_same _ _ _))
  have n_b2_b4 : b2 ≠ b4 := Mm.ne_of hn4 ((Mm.le_upd' hn3 _) _ _ (Mm.upd_same _ _ _))
  have n_b3_b4 : b3 ≠ b4 := Mm.ne_of hn4 ((Mm.le_refl _) _ _ (Mm.upd_same _ _ _))
  have n_b2_b5 : b2 ≠ b5 := Mm.ne_of hn5 ((Mm.le_trans (Mm.le_upd' hn3 _) (Mm.le_upd' hn4 _)) _ _ (Mm.upd_same _ _ _))
  have n_b3_b5 : b3 ≠ b5 := Mm.ne_of hn5 ((Mm.le_upd' hn4 _) _ _ (Mm.upd_same _ _ _))
  have n_b4_b5 : b4 ≠ b5 := Mm.ne_of hn5 ((Mm.le_refl _) _ _ (Mm.upd_same _ _ _))
  replace hn5 : M b5 = none := Mm.none_of (Mm.le_trans (Mm.le_upd' hn2 _) (Mm.le_trans (Mm.le_upd' hn3 _) (Mm.le_upd' hn4 _))) hn5
  replace hn4 : M b4 = none := Mm.none_of (Mm.le_trans (Mm.le_upd' hn2 _) (Mm.le_upd' hn3 _)) hn4
  replace hn3 : M b3 = none := Mm.none_of (Mm.le_upd' hn2 _) hn3
  replace hn2 : M b2 = none := Mm.none_of (Mm.le_refl _) hn2
  generalize ((((M.upd b2 (.cells rs 85)).upd b3 (.cells cc 27)).upd b4 (.cells st0 85)).upd b5 (.cells (ansR 0 0 0 0 0 0) 30)) = M2 at h hle2 hb2 hb3 hb4 hb5
  generalize st0 = s0 at *
  rcases o7 with o6 | ⟨o6, o7⟩
  all_goals
    go_upto_region 5 with (first
      | (with_reducible show wpList _ _ _ ({ dst := _, op := Op.load 3 _, type := _, pos := _, after := _, guard := _ } :: _) _ _; refine wpList_load1_has h rfl 3 _ rfl rfl hb3 c0 Tryz.underlying3 rfl ?_))
    go_wp2_with (first
      | ((with_reducible show wpList _ _ _ ({ dst := _, op := Op.load 85 _, type := _, pos := _, after := _, guard := _ } :: _) _ _); refine wpList_agg_has h rfl 85 _ rfl rfl hb2 ra rz Tryz.underlying85 rfl (by kernel_rfl) ?_; try simp only [Act.put, List.setIfInBounds_toArray, List.set_cons_zero, List.set_cons_succ])
      | ((with_reducible show wpList _ _ _ ({ dst := _, op := Op.load 27 _, type := _, pos := _, after := _, guard := _ } :: _) _ _); refine wpList_agg_has h rfl 27 _ rfl rfl hb3 cx cz Tryz.underlying27 rfl (by kernel_rfl) ?_; try simp only [Act.put, List.setIfInBounds_toArray, List.set_cons_zero, List.set_cons_succ])
      | (go_at_call 83; refine (LN.out _ _ hle2 h).mono ?_; clear h; rintro _ w ⟨q', M3, rfl, hq1, h, hle3, hy⟩)
      | ((with_reducible show wpList _ _ _ ({ dst := _, op := Op.store 85 _ _, type := _, pos := _, after := _, guard := _ } :: _) _ _); have hb43 := hle3 _ _ hb4; refine wpList_storeAll_has (cells := mk q') h rfl 85 _ _ rfl rfl rfl hb43 rfl z0 (HMK.out q' hq1).1 (by kernel_rfl) (HMK.out q' hq1).2 ?_; clear h; intro w h)
      | ((with_reducible show wpList _ _ _ ({ dst := _, op := Op.store 30 _ _, type := _, pos := _, after := _, guard := _ } :: _) _ _); have hb53 := (Mm.upd_ne (o := .cells (mk q') 85) (Ne.symm n_b4_b5)).trans (hle3 _ _ hb5); refine wpList_storeAll_has (cells := bb) h rfl 30 _ _ rfl rfl rfl hb53 rfl rfl bz (by kernel_rfl) BO.out ?_; clear h; intro w h))
    exact bodyPost_ret (results_cc rfl (CellRes.of h ((Mm.upd_ne n_b4_b5).trans (Mm.upd_same _ _ _)) rfl Tryz.underlying85 rfl (by rw [(HMK.out q' hq1).1]; kernel_rfl)) (CellRes.of h (Mm.upd_same _ _ _) rfl Tryz.underlying30 rfl (by rw [bz]; kernel_rfl))) rfl
      ⟨q', _, rfl, hq1, h, Mm.le_upd (Mm.le_upd (Mm.le_trans hle2 hle3) hn4 _) hn5 _, HY.out.base hle2 (HY.out.upd hb5 (HY.out.upd hb4 hy _) _)⟩
/-- A state is told that Get found none. -/
theorem told_get (h : Has σ M w) (q li tl : Value) (ky pa pb ha rg : Int) (h1 : One4 nilS q li tl) :
    Calls Tryz.prog 57 #[.agg (stR nilS q li tl), .int .i64 0, .agg (callR 1 0 ky pa pb ha rg), .agg (ansR 6 0 0 0 0 0)] w fun r w' => r = .returned (.tuple #[.agg (stR nilS q li tl), .bool true]) ∧ Has σ M w' := by
  have hst : StRow (stR nilS q li tl) := ⟨stR_size _ _ _ _, stR_one h1⟩
  refine (told_gen (Y := fun _ _ _ => True) (mk := fun _ => stR nilS q li tl) (stays_any fun _ => True) (fun _ _ => hst) h (stR nilS q li tl) (ansR 6 0 0 0 0 0) (ansR 6 0 0 0 0 0) 1 ky pa pb ha rg 0 hst (stR_conf _ _ _ _) (stR_lv _ _ _ _) ⟨by omega, by omega⟩ (by omega) (by omega) rfl rfl rfl rfl (ansR_fits _ _ _ _ _ _) (ansR_fits _ _ _ _ _ _) (ansR_same _ _ _ _ _ _)
    (fun M w h => refused_ok h _ _ _ _ 1 ky pa pb ha 0 ⟨by omega, by omega⟩) (fun M w h => mayNot_none h _ true ky pa pb ha 0 ⟨by omega, by omega⟩) (fun M' w hM h => does_rows (stays_any fun _ => True) (fun _ _ => hst) h _ _ 1 ky pa pb ha 0 0 true (.inr rfl) hst rfl rfl fun M2 w h2 h => (session_get h q li tl ky pa pb ha 0 h1).mono fun r w' ⟨e, h'⟩ => ⟨nilS, M2, e, rfl, h', Mm.le_refl _, trivial⟩)).mono ?_
  rintro r w' ⟨q', M', e, _, h', hl, _⟩
  exact ⟨e, h'.le hl⟩
end
end Go.Proofs.YtjnhklhgcbknkaaGreatDoor
