/- Law 17, OrderMany: the law's walk. -/
import Derived.Test.YtjnhklhgcbknkaaGreatDoorOgA
import Derived.Test.YtjnhklhgcbknkaaGreatDoorRefLevel
import Derived.Test.YtjnhklhgcbknkaaGreatDoorPfH
import Derived.Test.YtjnhklhgcbknkaaGreatDoorPutRow
namespace Go.Proofs.YtjnhklhgcbknkaaGreatDoor
section
open Go.RowKit
set_option linter.unusedVariables false
set_option linter.unusedSimpArgs false
set_option linter.unnecessarySimpa false
def cG : Array Value := callR 1 0 0 0 0 0 0
def aG : Array Value := ansR 6 0 0 0 0 0
def sG : Array Value := stR nilS nilS nilS nilS
def hG (a b c : Int) : Array Value := #[.int .i64 a, .int .i64 b, .int .i64 c]
def rowZ : Array Value := #[.int .i64 0, .int .u64 0, .int .u64 0]
theorem cG_size : cG.size = 7 := rfl
theorem aG_size : aG.size = 6 := rfl
theorem sG_size : sG.size = 63 := stR_size _ _ _ _
theorem cG_all : cG.extract 0 (0 + 7) = cG := rfl
theorem aG_all : aG.extract 0 (0 + 6) = aG := rfl
theorem sG_all : sG.extract 0 (0 + 63) = sG := stR_all _ _ _ _
theorem sG_conf : sG.extract 0 (0 + 14) = oneR := stR_conf _ _ _ _
theorem sG_one : sG.toList.all (·.oneCell') = true := stR_one one4_nil
theorem zST : (Tryz.prog.info? 66).bind (·.zero) = some (.agg st0) := by kernel_rfl
theorem zCALL : (Tryz.prog.info? 27).bind (·.zero) = some (.agg (callR 0 0 0 0 0 0 0)) := by kernel_rfl
theorem zHN : (Tryz.prog.info? 138).bind (·.zero) = some (.agg (hG 0 0 0)) := by kernel_rfl
theorem zROW : (Tryz.prog.info? 59).bind (·.zero) = some (.agg rowZ) := by kernel_rfl
section
variable {σ w : World} {M : Mm}
set_option maxHeartbeats 1000000 in
theorem dMay9 (h : Has σ M w) : Calls Tryz.prog 48 #[.agg cG] w fun r w' => r = .returned (.bool true) ∧ Has σ M w' := by
  have c0 : cG[0]? = some (.int .i64 1) := rfl
  have c1 : cG[1]? = some (.int .i64 0) := rfl
  have c6 : cG[6]? = some (.int .i64 0) := rfl
  generalize cG = cc at *
  go_enter Tryz.func48, Tryz.ntmps48
  go_upto_region 1 with (first
    | ((with_reducible show wpList _ _ _ ({ dst := _, op := Op.box 27 _, type := _, pos := _, after := _, guard := _ } :: _) _ _); go_loud (refine wpList_box_has h rfl 27 _ rfl ?_); clear h; intro b1 w h hn1; try simp only [Act.put, List.setIfInBounds_toArray, List.set_cons_zero, List.set_cons_succ]))
  replace hn1 : M b1 = none := hn1
  replace h : Has σ (M.upd b1 (.cells cc 27)) w := h
  have hle2 : M.le (M.upd b1 (.cells cc 27)) := Mm.le_upd' hn1 _
  have hb1 : (M.upd b1 (.cells cc 27)) b1 = some (.cells cc 27) := (Mm.le_refl _) _ _ (Mm.upd_same _ _ _)
  replace hn1 : M b1 = none := Mm.none_of (Mm.le_refl _) hn1
  generalize (M.upd b1 (.cells cc 27)) = M2 at h hle2 hb1
  go_wp2_with (first
    | (with_reducible show wpList _ _ _ ({ dst := _, op := Op.load 3 _, type := _, pos := _, after := _, guard := _ } :: _) _ _; go_loud (refine wpList_load1_has h rfl 3 _ rfl rfl hb1 c0 Tryz.underlying3 rfl ?_))
    | (with_reducible show wpList _ _ _ ({ dst := _, op := Op.load 3 _, type := _, pos := _, after := _, guard := _ } :: _) _ _; go_loud (refine wpList_load1_has h rfl 3 _ rfl rfl hb1 c1 Tryz.underlying3 rfl ?_))
    | (with_reducible show wpList _ _ _ ({ dst := _, op := Op.load 3 _, type := _, pos := _, after := _, guard := _ } :: _) _ _; go_loud (refine wpList_load1_has h rfl 3 _ rfl rfl hb1 c6 Tryz.underlying3 rfl ?_)))
  go_ret
  exact ⟨rfl, h.le hle2⟩
theorem dLooks (h : Has σ M w) : Calls Tryz.prog 59 #[.int .i64 1] w fun r w' => r = .returned (.bool true) ∧ Has σ M w' := by
  go_enter Tryz.func59, Tryz.ntmps59
  go_wp2
  go_ret
  exact ⟨rfl, h⟩
theorem dLevel (h : Has σ M w) : Calls Tryz.prog 26 #[.agg oneR, .int .i64 0] w fun r w' => r = .returned (.int .i64 0) ∧ Has σ M w' := by
  have := refLevel_has h oneC 0
  rw [one_level] at this
  exact this
set_option maxHeartbeats 1000000 in
theorem dPolicy (h : Has σ M w) : Calls Tryz.prog 40 #[.agg oneR, .int .i64 0, .agg cG] w fun r w' => r = .returned (.int .i64 0) ∧ Has σ M w' := by
  have LV := Lib.hid (fun (M : Mm) (w : World) (h : Has σ M w) => dLevel h)
  have MY := Lib.hid (fun (M : Mm) (w : World) (h : Has σ M w) => dMay9 h)
  have oz := oneR_size
  have ox : oneR.extract 0 (0 + 14) = oneR := rfl
  have c1 : cG[1]? = some (.int .i64 0) := rfl
  have cz := cG_size
  have cx := cG_all
  generalize oneR = oc at *
  generalize cG = cc at *
  go_enter Tryz.func40, Tryz.ntmps40
  go_upto_region 1 with (first
    | ((with_reducible show wpList _ _ _ ({ dst := _, op := Op.box 38 _, type := _, pos := _, after := _, guard := _ } :: _) _ _); go_loud (refine wpList_box_has h rfl 38 _ rfl ?_); clear h; intro b3 w h hn3; try simp only [Act.put, List.setIfInBounds_toArray, List.set_cons_zero, List.set_cons_succ])
    | ((with_reducible show wpList _ _ _ ({ dst := _, op := Op.box 27 _, type := _, pos := _, after := _, guard := _ } :: _) _ _); go_loud (refine wpList_box_has h rfl 27 _ rfl ?_); clear h; intro b5 w h hn5; try simp only [Act.put, List.setIfInBounds_toArray, List.set_cons_zero, List.set_cons_succ]))
  replace hn3 : M b3 = none := hn3
  replace hn5 : (M.upd b3 (.cells oc 38)) b5 = none := hn5
  replace h : Has σ ((M.upd b3 (.cells oc 38)).upd b5 (.cells cc 27)) w := h
  have hle2 : M.le ((M.upd b3 (.cells oc 38)).upd b5 (.cells cc 27)) := Mm.le_trans (Mm.le_upd' hn3 _) (Mm.le_upd' hn5 _)
  have hb3 : ((M.upd b3 (.cells oc 38)).upd b5 (.cells cc 27)) b3 = some (.cells oc 38) := (Mm.le_upd' hn5 _) _ _ (Mm.upd_same _ _ _)
  have hb5 : ((M.upd b3 (.cells oc 38)).upd b5 (.cells cc 27)) b5 = some (.cells cc 27) := (Mm.le_refl _) _ _ (Mm.upd_same _ _ _)
  have n_b3_b5 : b3 ≠ b5 := Mm.ne_of hn5 ((Mm.le_refl _) _ _ (Mm.upd_same _ _ _))
  replace hn5 : M b5 = none := Mm.none_of (Mm.le_upd' hn3 _) hn5
  replace hn3 : M b3 = none := Mm.none_of (Mm.le_refl _) hn3
  generalize ((M.upd b3 (.cells oc 38)).upd b5 (.cells cc 27)) = M2 at h hle2 hb3 hb5
  go_wp2_with (first
    | (with_reducible show wpList _ _ _ ({ dst := _, op := Op.load 3 _, type := _, pos := _, after := _, guard := _ } :: _) _ _; go_loud (refine wpList_load1_has h rfl 3 _ rfl rfl hb5 c1 Tryz.underlying3 rfl ?_))
    | ((with_reducible show wpList _ _ _ ({ dst := _, op := Op.load 38 _, type := _, pos := _, after := _, guard := _ } :: _) _ _); go_loud (refine wpList_agg_has h rfl 38 _ rfl rfl hb3 ox oz Tryz.underlying38 rfl (by kernel_rfl) ?_); try simp only [Act.put, List.setIfInBounds_toArray, List.set_cons_zero, List.set_cons_succ])
    | ((with_reducible show wpList _ _ _ ({ dst := _, op := Op.load 27 _, type := _, pos := _, after := _, guard := _ } :: _) _ _); go_loud (refine wpList_agg_has h rfl 27 _ rfl rfl hb5 cx cz Tryz.underlying27 rfl (by kernel_rfl) ?_); try simp only [Act.put, List.setIfInBounds_toArray, List.set_cons_zero, List.set_cons_succ])
    | (go_at_call 26; go_loud (refine (LV.out _ _ h).mono ?_); clear h; rintro _ w ⟨rfl, h⟩)
    | (go_at_call 48; go_loud (refine (MY.out _ _ h).mono ?_); clear h; rintro _ w ⟨rfl, h⟩))
  go_ret
  exact ⟨rfl, h.le hle2⟩
set_option maxHeartbeats 1000000 in
theorem dRefused (h : Has σ M w) : Calls Tryz.prog 23 #[.agg sG, .int .i64 0, .agg cG] w fun r w' => r = .returned (.int .i64 0) ∧ Has σ M w' := by
  have PO := Lib.hid (fun (M : Mm) (w : World) (h : Has σ M w) => dPolicy h)
  have oz := oneR_size
  have c1 : cG[1]? = some (.int .i64 0) := rfl
  have s14 : sG[14]? = some (.int .i64 0) := rfl
  have sc := sG_conf
  have cz := cG_size
  have cx := cG_all
  generalize oneR = oc at *
  generalize cG = cc at *
  generalize sG = ss at *
  go_enter Tryz.func23, Tryz.ntmps23
  go_upto_region 1 with (first
    | ((with_reducible show wpList _ _ _ ({ dst := _, op := Op.box 66 _, type := _, pos := _, after := _, guard := _ } :: _) _ _); go_loud (refine wpList_box_has h rfl 66 _ rfl ?_); clear h; intro b3 w h hn3; try simp only [Act.put, List.setIfInBounds_toArray, List.set_cons_zero, List.set_cons_succ])
    | ((with_reducible show wpList _ _ _ ({ dst := _, op := Op.box 27 _, type := _, pos := _, after := _, guard := _ } :: _) _ _); go_loud (refine wpList_box_has h rfl 27 _ rfl ?_); clear h; intro b5 w h hn5; try simp only [Act.put, List.setIfInBounds_toArray, List.set_cons_zero, List.set_cons_succ]))
  replace hn3 : M b3 = none := hn3
  replace hn5 : (M.upd b3 (.cells ss 66)) b5 = none := hn5
  replace h : Has σ ((M.upd b3 (.cells ss 66)).upd b5 (.cells cc 27)) w := h
  have hle2 : M.le ((M.upd b3 (.cells ss 66)).upd b5 (.cells cc 27)) := Mm.le_trans (Mm.le_upd' hn3 _) (Mm.le_upd' hn5 _)
  have hb3 : ((M.upd b3 (.cells ss 66)).upd b5 (.cells cc 27)) b3 = some (.cells ss 66) := (Mm.le_upd' hn5 _) _ _ (Mm.upd_same _ _ _)
  have hb5 : ((M.upd b3 (.cells ss 66)).upd b5 (.cells cc 27)) b5 = some (.cells cc 27) := (Mm.le_refl _) _ _ (Mm.upd_same _ _ _)
  have n_b3_b5 : b3 ≠ b5 := Mm.ne_of hn5 ((Mm.le_refl _) _ _ (Mm.upd_same _ _ _))
  replace hn5 : M b5 = none := Mm.none_of (Mm.le_upd' hn3 _) hn5
  replace hn3 : M b3 = none := Mm.none_of (Mm.le_refl _) hn3
  generalize ((M.upd b3 (.cells ss 66)).upd b5 (.cells cc 27)) = M2 at h hle2 hb3 hb5
  go_wp2_with (first
    | (with_reducible show wpList _ _ _ ({ dst := _, op := Op.load 3 _, type := _, pos := _, after := _, guard := _ } :: _) _ _; go_loud (refine wpList_load1_has h rfl 3 _ rfl rfl hb5 c1 Tryz.underlying3 rfl ?_))
    | (with_reducible show wpList _ _ _ ({ dst := _, op := Op.load 3 _, type := _, pos := _, after := _, guard := _ } :: _) _ _; go_loud (refine wpList_load1_has h rfl 3 _ rfl rfl hb3 s14 Tryz.underlying3 rfl ?_))
    | ((with_reducible show wpList _ _ _ ({ dst := _, op := Op.load 38 _, type := _, pos := _, after := _, guard := _ } :: _) _ _); go_loud (refine wpList_agg_has h rfl 38 _ rfl rfl hb3 sc oz Tryz.underlying38 rfl (by kernel_rfl) ?_); try simp only [Act.put, List.setIfInBounds_toArray, List.set_cons_zero, List.set_cons_succ])
    | ((with_reducible show wpList _ _ _ ({ dst := _, op := Op.load 27 _, type := _, pos := _, after := _, guard := _ } :: _) _ _); go_loud (refine wpList_agg_has h rfl 27 _ rfl rfl hb5 cx cz Tryz.underlying27 rfl (by kernel_rfl) ?_); try simp only [Act.put, List.setIfInBounds_toArray, List.set_cons_zero, List.set_cons_succ])
    | (go_at_call 40; go_loud (refine (PO.out _ _ h).mono ?_); clear h; rintro _ w ⟨rfl, h⟩))
  go_ret
  exact ⟨rfl, h.le hle2⟩
set_option maxHeartbeats 1000000 in
theorem dBare (h : Has σ M w) : Calls Tryz.prog 24 #[.agg cG] w fun r w' => r = .returned (.agg cG) ∧ Has σ M w' := by
  have cz := cG_size
  have cx := cG_all
  have c6 : cG.setIfInBounds 6 (.int .i64 0) = cG := rfl
  have l6 : 6 < cG.size := by rw [cG_size]; omega
  have zc := zCALL
  have HZ : Hid ((callR 0 0 0 0 0 0 0).size = 7) := Lib.hid rfl
  have HO : Hid (cG.toList.all (·.oneCell') = true) := Lib.hid rfl
  generalize callR 0 0 0 0 0 0 0 = z0 at *
  generalize cG = cc at *
  go_enter Tryz.func24, Tryz.ntmps24
  go_upto_region 1 with (first
    | ((with_reducible show wpList _ _ _ ({ dst := _, op := Op.box 27 _, type := _, pos := _, after := _, guard := _ } :: _) _ _); go_loud (refine wpList_box_has h rfl 27 _ rfl ?_); clear h; intro b1 w h hn1; try simp only [Act.put, List.setIfInBounds_toArray, List.set_cons_zero, List.set_cons_succ])
    | ((with_reducible show wpList _ _ _ ({ dst := some 2, op := Op.alloc 27, type := _, pos := _, after := _, guard := _ } :: _) _ _); go_loud (refine wpList_alloc_has h rfl 27 rfl _ zc ?_); clear h; intro b2 w h hn2; try simp only [Act.put, List.setIfInBounds_toArray, List.set_cons_zero, List.set_cons_succ]))
  replace hn1 : M b1 = none := hn1
  replace hn2 : (M.upd b1 (.cells cc 27)) b2 = none := hn2
  replace h : Has σ ((M.upd b1 (.cells cc 27)).upd b2 (.cells z0 27)) w := h
  have hle2 : M.le ((M.upd b1 (.cells cc 27)).upd b2 (.cells z0 27)) := Mm.le_trans (Mm.le_upd' hn1 _) (Mm.le_upd' hn2 _)
  have hb1 : ((M.upd b1 (.cells cc 27)).upd b2 (.cells z0 27)) b1 = some (.cells cc 27) := (Mm.le_upd' hn2 _) _ _ (Mm.upd_same _ _ _)
  have hb2 : ((M.upd b1 (.cells cc 27)).upd b2 (.cells z0 27)) b2 = some (.cells z0 27) := (Mm.le_refl _) _ _ (Mm.upd_same _ _ _)
  have n_b1_b2 : b1 ≠ b2 := Mm.ne_of hn2 ((Mm.le_refl _) _ _ (Mm.upd_same _ _ _))
  replace hn2 : M b2 = none := Mm.none_of (Mm.le_upd' hn1 _) hn2
  replace hn1 : M b1 = none := Mm.none_of (Mm.le_refl _) hn1
  generalize ((M.upd b1 (.cells cc 27)).upd b2 (.cells z0 27)) = M2 at h hle2 hb1 hb2
  go_upto_region 2 with (first
    | (with_reducible show wpList _ _ _ ({ dst := _, op := Op.store 3 _ _, type := _, pos := _, after := _, guard := _ } :: _) _ _; go_loud (refine wpList_store1_has h rfl 3 _ _ rfl rfl rfl hb1 l6 rfl (by kernel_rfl) ?_); clear h; intro w h))
  have h0 : Has σ (M2.upd b1 (.cells (cc.setIfInBounds 6 (.int .i64 0)) 27)) w := h
  rw [c6] at h0
  clear h
  have h := h0
  clear h0
  have e1 : M2.upd b1 (.cells cc 27) = M2 := funext fun x => by unfold Mm.upd; split <;> simp_all
  rw [e1] at h
  go_wp2_with (first
    | ((with_reducible show wpList _ _ _ ({ dst := _, op := Op.load 27 _, type := _, pos := _, after := _, guard := _ } :: _) _ _); go_loud (refine wpList_agg_has h rfl 27 _ rfl rfl hb1 cx cz Tryz.underlying27 rfl (by kernel_rfl) ?_); try simp only [Act.put, List.setIfInBounds_toArray, List.set_cons_zero, List.set_cons_succ])
    | ((with_reducible show wpList _ _ _ ({ dst := _, op := Op.store 27 _ _, type := _, pos := _, after := _, guard := _ } :: _) _ _); refine wpList_storeAll_has (cells := cc) h rfl 27 _ _ rfl rfl rfl hb2 rfl HZ.out cz (by kernel_rfl) HO.out ?_; clear h; intro w h))
  exact bodyPost_ret (results_c1 rfl (CellRes.of h (Mm.upd_same _ _ _) rfl Tryz.underlying27 rfl (by rw [cz]; kernel_rfl))) rfl ⟨rfl, h.le (Mm.le_upd hle2 hn2 _)⟩
set_option maxHeartbeats 1000000 in
theorem dMake (h : Has σ M w) : Calls Tryz.prog 47 #[.agg (hG 0 1 0)] w fun r w' => r = .returned (.int .u64 1) ∧ Has σ M w' := by
  have c0 : (hG 0 1 0)[0]? = some (.int .i64 0) := rfl
  have c1 : (hG 0 1 0)[1]? = some (.int .i64 1) := rfl
  have c2 : (hG 0 1 0)[2]? = some (.int .i64 0) := rfl
  generalize hG 0 1 0 = cc at *
  go_enter Tryz.func47, Tryz.ntmps47
  go_upto_region 1 with (first
    | ((with_reducible show wpList _ _ _ ({ dst := _, op := Op.box 138 _, type := _, pos := _, after := _, guard := _ } :: _) _ _); go_loud (refine wpList_box_has h rfl 138 _ rfl ?_); clear h; intro b1 w h hn1; try simp only [Act.put, List.setIfInBounds_toArray, List.set_cons_zero, List.set_cons_succ]))
  replace hn1 : M b1 = none := hn1
  replace h : Has σ (M.upd b1 (.cells cc 138)) w := h
  have hle2 : M.le (M.upd b1 (.cells cc 138)) := Mm.le_upd' hn1 _
  have hb1 : (M.upd b1 (.cells cc 138)) b1 = some (.cells cc 138) := (Mm.le_refl _) _ _ (Mm.upd_same _ _ _)
  replace hn1 : M b1 = none := Mm.none_of (Mm.le_refl _) hn1
  generalize (M.upd b1 (.cells cc 138)) = M2 at h hle2 hb1
  go_wp2_with (first
    | (with_reducible show wpList _ _ _ ({ dst := _, op := Op.load 3 _, type := _, pos := _, after := _, guard := _ } :: _) _ _; go_loud (refine wpList_load1_has h rfl 3 _ rfl rfl hb1 c0 Tryz.underlying3 rfl ?_))
    | (with_reducible show wpList _ _ _ ({ dst := _, op := Op.load 3 _, type := _, pos := _, after := _, guard := _ } :: _) _ _; go_loud (refine wpList_load1_has h rfl 3 _ rfl rfl hb1 c1 Tryz.underlying3 rfl ?_))
    | (with_reducible show wpList _ _ _ ({ dst := _, op := Op.load 3 _, type := _, pos := _, after := _, guard := _ } :: _) _ _; go_loud (refine wpList_load1_has h rfl 3 _ rfl rfl hb1 c2 Tryz.underlying3 rfl ?_)))
  go_ret
  exact ⟨rfl, h.le hle2⟩
set_option maxHeartbeats 1000000 in
theorem dParts (h : Has σ M w) : Calls Tryz.prog 50 #[.int .u64 1] w fun r w' => r = .returned (.tuple #[.agg (hG 0 1 0), .bool true]) ∧ Has σ M w' := by
  have zh := zHN
  have c1 : (hG 0 1 0)[1]? = some (.int .i64 1) := rfl
  have cx : (hG 0 1 0).extract 0 (0 + 3) = hG 0 1 0 := rfl
  have cz : (hG 0 1 0).size = 3 := rfl
  have HZ : Hid ((hG 0 0 0).size = 3) := Lib.hid rfl
  have HO : Hid ((hG 0 1 0).toList.all (·.oneCell') = true) := Lib.hid rfl
  generalize hG 0 0 0 = z0 at *
  generalize hhh : hG 0 1 0 = cc at *
  have EH := Lib.hid hhh
  clear hhh
  go_enter Tryz.func50, Tryz.ntmps50
  go_upto_region 1 with (first
    | ((with_reducible show wpList _ _ _ ({ dst := some 2, op := Op.alloc 138, type := _, pos := _, after := _, guard := _ } :: _) _ _); go_loud (refine wpList_alloc_has h rfl 138 rfl _ zh ?_); clear h; intro b2 w h hn2; try simp only [Act.put, List.setIfInBounds_toArray, List.set_cons_zero, List.set_cons_succ]))
  go_upto_region 2 with (first
    | ((with_reducible show wpList _ _ _ ({ dst := _, op := Op.build 138 _, type := _, pos := _, after := _, guard := _ } :: _) _ _); (refine wpList_build_has rfl 138 _ rfl (hG 0 1 0) (by kernel_rfl) ?_; rw [EH.out]; try simp only [Act.put, List.setIfInBounds_toArray, List.set_cons_zero, List.set_cons_succ]))
    | ((with_reducible show wpList _ _ _ ({ dst := some 4, op := Op.alloc 138, type := _, pos := _, after := _, guard := _ } :: _) _ _); go_loud (refine wpList_alloc_has h rfl 138 rfl _ zh ?_); clear h; intro b4 w h hn4; try simp only [Act.put, List.setIfInBounds_toArray, List.set_cons_zero, List.set_cons_succ])
    | ((with_reducible show wpList _ _ _ ({ dst := _, op := Op.store 138 (.tmp 4) _, type := _, pos := _, after := _, guard := _ } :: _) _ _); refine wpList_storeAll_has (cells := cc) h rfl 138 _ _ rfl rfl rfl (Mm.upd_same _ _ _) rfl HZ.out cz (by kernel_rfl) HO.out ?_; clear h; intro w h))
  rw [Mm.upd_upd] at h
  replace h : Has σ ((M.upd b2 (.cells z0 138)).upd b4 (.cells cc 138)) w := h
  have hb4 := Mm.upd_same (M.upd b2 (.cells z0 138)) b4 (.cells cc 138)
  have hb2 : ((M.upd b2 (.cells z0 138)).upd b4 (.cells cc 138)) b2 = some (.cells z0 138) := Mm.upd_of hn4 (Mm.upd_same _ _ _)
  have hle : M.le ((M.upd b2 (.cells z0 138)).upd b4 (.cells cc 138)) := Mm.le_trans (Mm.le_upd' hn2 _) (Mm.le_upd' hn4 _)
  generalize (M.upd b2 (.cells z0 138)).upd b4 (.cells cc 138) = M2 at *
  go_wp2_with (first
    | (with_reducible show wpList _ _ _ ({ dst := _, op := Op.load 3 _, type := _, pos := _, after := _, guard := _ } :: _) _ _; go_loud (refine wpList_load1_has h rfl 3 _ rfl rfl hb4 c1 Tryz.underlying3 rfl ?_))
    | ((with_reducible show wpList _ _ _ ({ dst := _, op := Op.load 138 _, type := _, pos := _, after := _, guard := _ } :: _) _ _); go_loud (refine wpList_agg_has h rfl 138 _ rfl rfl hb4 cx cz Tryz.underlying138 rfl (by kernel_rfl) ?_); try simp only [Act.put, List.setIfInBounds_toArray, List.set_cons_zero, List.set_cons_succ])
    | ((with_reducible show wpList _ _ _ ({ dst := _, op := Op.store 138 _ _, type := _, pos := _, after := _, guard := _ } :: _) _ _); refine wpList_storeAll_has (cells := cc) h rfl 138 _ _ rfl rfl rfl hb2 rfl HZ.out cz (by kernel_rfl) HO.out ?_; clear h; intro w h))
  exact bodyPost_ret (results_ct rfl (CellRes.of h (Mm.upd_same _ _ _) rfl Tryz.underlying138 rfl (by rw [cz]; kernel_rfl))) rfl ⟨rfl, h.le (Mm.le_upd hle hn2 _)⟩
end
end
section
open Go.RowKit
set_option linter.unusedVariables false
set_option linter.unusedSimpArgs false
set_option linter.unnecessarySimpa false
section
variable {σ w : World} {M : Mm}
set_option maxHeartbeats 1000000 in
set_option maxRecDepth 20000 in
theorem dRefusals (h : Has σ M w) : Calls Tryz.prog 49 #[.int .i64 1] w fun r w' => ∃ b M', r = .returned (.slice (some ⟨b, 0, none⟩) 2 2) ∧ Has σ M' w' ∧ M.le M' ∧ M' b = some (.cells #[.int .i64 6, .int .i64 13] 28) := by
  go_enter Tryz.func49, Tryz.ntmps49
  go_upto_region 8 with (fail)
  obtain ⟨M2, hbx, hle, hb, hn⟩ := h.box (.cells #[.int .i64 6, .int .i64 13] 28)
  generalize w.alloc _ = wx at hbx ⊢
  generalize w.heap.size = b at hb hn ⊢
  clear h
  try clear w
  have h := hbx
  clear hbx
  obtain ⟨w, rfl⟩ : ∃ x : World, x = wx := ⟨_, rfl⟩
  go_wp2
  go_ret
  exact ⟨b, M2, rfl, h, hle, hb⟩
set_option maxHeartbeats 2000000 in
set_option maxRecDepth 20000 in
theorem dFits (h : Has σ M w) : Calls Tryz.prog 28 #[.agg cG, .agg aG] w fun r w' => r = .returned (.bool true) ∧ Has σ M w' := by
  have MY := Lib.hid (fun (M : Mm) (w : World) (h : Has σ M w) => dMay9 h)
  have RF := Lib.hid (fun (M : Mm) (w : World) (h : Has σ M w) => dRefusals h)
  have c0 : cG[0]? = some (.int .i64 1) := rfl
  have a0 : aG[0]? = some (.int .i64 6) := rfl
  have cz := cG_size
  have cx := cG_all
  have az := aG_size
  have ax := aG_all
  have FT : Hid (fits ansKs aG.toList) := Lib.hid (ansR_fits 6 0 0 0 0 0)
  have SM : Hid (sames aG.toList aG.toList = true) := Lib.hid (ansR_same 6 0 0 0 0 0)
  have EA : Hid (aG = ansR 6 0 0 0 0 0) := Lib.hid rfl
  have za := zans
  have HZ : Hid ((ansR 0 0 0 0 0 0).size = 6) := Lib.hid rfl
  have HO : Hid (aG.toList.all (·.oneCell') = true) := Lib.hid rfl
  generalize cG = cc at *
  generalize haG : aG = aa at *
  generalize ansR 0 0 0 0 0 0 = z0 at *
  clear haG
  go_enter Tryz.func28, Tryz.ntmps28
  go_upto_region 1 with (first
    | ((with_reducible show wpList _ _ _ ({ dst := _, op := Op.box 27 _, type := _, pos := _, after := _, guard := _ } :: _) _ _); go_loud (refine wpList_box_has h rfl 27 _ rfl ?_); clear h; intro b2 w h hn2; try simp only [Act.put, List.setIfInBounds_toArray, List.set_cons_zero, List.set_cons_succ])
    | ((with_reducible show wpList _ _ _ ({ dst := _, op := Op.box 30 _, type := _, pos := _, after := _, guard := _ } :: _) _ _); go_loud (refine wpList_box_has h rfl 30 _ rfl ?_); clear h; intro b3 w h hn3; try simp only [Act.put, List.setIfInBounds_toArray, List.set_cons_zero, List.set_cons_succ]))
  replace hn2 : M b2 = none := hn2
  replace hn3 : (M.upd b2 (.cells cc 27)) b3 = none := hn3
  replace h : Has σ ((M.upd b2 (.cells cc 27)).upd b3 (.cells aa 30)) w := h
  have hle2 : M.le ((M.upd b2 (.cells cc 27)).upd b3 (.cells aa 30)) := Mm.le_trans (Mm.le_upd' hn2 _) (Mm.le_upd' hn3 _)
  have hb2 : ((M.upd b2 (.cells cc 27)).upd b3 (.cells aa 30)) b2 = some (.cells cc 27) := (Mm.le_upd' hn3 _) _ _ (Mm.upd_same _ _ _)
  have hb3 : ((M.upd b2 (.cells cc 27)).upd b3 (.cells aa 30)) b3 = some (.cells aa 30) := (Mm.le_refl _) _ _ (Mm.upd_same _ _ _)
  have n_b2_b3 : b2 ≠ b3 := Mm.ne_of hn3 ((Mm.le_refl _) _ _ (Mm.upd_same _ _ _))
  replace hn3 : M b3 = none := Mm.none_of (Mm.le_upd' hn2 _) hn3
  replace hn2 : M b2 = none := Mm.none_of (Mm.le_refl _) hn2
  generalize ((M.upd b2 (.cells cc 27)).upd b3 (.cells aa 30)) = M2 at h hle2 hb2 hb3
  go_upto_region 4 with (first
    | ((with_reducible show wpList _ _ _ ({ dst := _, op := Op.load 27 _, type := _, pos := _, after := _, guard := _ } :: _) _ _); go_loud (refine wpList_agg_has h rfl 27 _ rfl rfl hb2 cx cz Tryz.underlying27 rfl (by kernel_rfl) ?_); try simp only [Act.put, List.setIfInBounds_toArray, List.set_cons_zero, List.set_cons_succ])
    | ((with_reducible show wpList _ _ _ ({ dst := _, op := Op.load 30 _, type := _, pos := _, after := _, guard := _ } :: _) _ _); go_loud (refine wpList_agg_has h rfl 30 _ rfl rfl hb3 ax az Tryz.underlying30 rfl (by kernel_rfl) ?_); try simp only [Act.put, List.setIfInBounds_toArray, List.set_cons_zero, List.set_cons_succ])
    | (go_at_call 48; go_loud (refine (MY.out _ _ h).mono ?_); clear h; rintro _ w ⟨rfl, h⟩)
    | ((with_reducible show wpList _ _ _ ({ dst := some 5, op := Op.alloc 30, type := _, pos := _, after := _, guard := _ } :: _) _ _); go_loud (refine wpList_alloc_has h rfl 30 rfl _ za ?_); clear h; intro b5 w h hn5; try simp only [Act.put, List.setIfInBounds_toArray, List.set_cons_zero, List.set_cons_succ])
    | ((with_reducible show wpList _ _ _ ({ dst := _, op := Op.store 30 _ _, type := _, pos := _, after := _, guard := _ } :: _) _ _); refine wpList_storeAll_has (cells := aa) h rfl 30 _ _ rfl rfl rfl (Mm.upd_same _ _ _) rfl HZ.out az (by kernel_rfl) HO.out ?_; clear h; intro w h))
  rw [Mm.upd_upd] at h
  have hle5 := Mm.le_upd' hn5 (.cells aa 30)
  have hb25 := hle5 _ _ hb2
  have hb35 := hle5 _ _ hb3
  have hle := Mm.le_trans hle2 hle5
  generalize M2.upd b5 (.cells aa 30) = M5 at *
  clear hb2 hb3 hle5 hle2
  go_upto_region 28 with (first
    | (with_reducible show wpList _ _ _ ({ dst := _, op := Op.load 28 _, type := _, pos := _, after := _, guard := _ } :: _) _ _; go_loud (refine wpList_load1_has h rfl 28 _ rfl rfl hb35 a0 Tryz.underlying28 rfl ?_))
    | (with_reducible show wpList _ _ _ ({ dst := _, op := Op.load 3 _, type := _, pos := _, after := _, guard := _ } :: _) _ _; go_loud (refine wpList_load1_has h rfl 3 _ rfl rfl hb25 c0 Tryz.underlying3 rfl ?_))
    | ((with_reducible show wpList _ _ _ ({ dst := _, op := Op.load 30 _, type := _, pos := _, after := _, guard := _ } :: _) _ _); go_loud (refine wpList_agg_has h rfl 30 _ rfl rfl hb35 ax az Tryz.underlying30 rfl (by kernel_rfl) ?_); try simp only [Act.put, List.setIfInBounds_toArray, List.set_cons_zero, List.set_cons_succ])
    | ((with_reducible show wpList _ _ _ ({ dst := _, op := Op.build 30 _, type := _, pos := _, after := _, guard := _ } :: _) _ _); (refine wpList_build_has rfl 30 _ rfl (ansR 6 0 0 0 0 0) (by kernel_rfl) ?_; rw [← EA.out]; try simp only [Act.put, List.setIfInBounds_toArray, List.set_cons_zero, List.set_cons_succ]))
    | ((refine wpList_neq_flat rfl 30 _ _ _ rfl (xs := aa) (ys := aa) rfl rfl 10 (by omega) (ks := ansKs) (by kernel_rfl) rfl (by kernel_rfl) Tryz.underlying30 rfl (by kernel_rfl) FT.out FT.out ?_; rw [SM.out, Bool.not_true]))
    | (go_at_call 49; go_loud (refine (RF.out _ _ h).mono ?_); clear h; rintro _ w ⟨bl, M6, rfl, h, hle6, hbl⟩))
  have hb36 := hle6 _ _ hb35
  have hleF := Mm.le_trans hle hle6
  have l0 : (#[.int .i64 6, .int .i64 13] : Array Value)[0]? = some (.int .i64 6) := rfl
  generalize (#[.int .i64 6, .int .i64 13] : Array Value) = ll at *
  clear hb25 hb35 hle6 hle
  go_wp2_with (fail)
  go_loopw [7] (fun i wr => i = .int .i64 0 ∧ Has σ M6 wr) (fun i _ => 0)
  case atStart => exact ⟨rfl, h⟩
  case round =>
    clear h w
    obtain ⟨w, rfl⟩ : ∃ x : World, x = wr := ⟨_, rfl⟩
    obtain ⟨rfl, h⟩ := hrel
    go_upto_region 31 with (fail)
    refine wp_region_class (Has σ M6) (by kernel_rfl) (by kernel_rfl) h.drew ?_
    clear h
    repeat (first
      | go_big_quiet_skip
      | (go_big_quiet_want; first
        | (refine quiet_load_has 28 _ rfl rfl hbl l0 Tryz.underlying28 rfl ?_; simp only [Act.put, List.setIfInBounds_toArray, List.set_cons_zero, List.set_cons_succ]; go_big_quiet_on)
        | (refine quiet_load_has 28 _ rfl rfl hb36 a0 Tryz.underlying28 rfl ?_; simp only [Act.put, List.setIfInBounds_toArray, List.set_cons_zero, List.set_cons_succ]; go_big_quiet_on)
        | (go_big_quiet_op; first | go_big_quiet_on | go_big_quiet_call (first | with_reducible exact fun _ => rfl))))
    refine wpQuiet_nil ?_
    try clear w
    intro w h
    go_wp2
    go_ret
    exact ⟨rfl, h.le hleF⟩
set_option maxHeartbeats 1000000 in
set_option maxRecDepth 20000 in
theorem dFresh (h : Has σ M w) : Calls Tryz.prog 29 #[.agg sG, .int .u64 1] w fun r w' => r = .returned (.bool true) ∧ Has σ M w' := by
  have PA := Lib.hid (fun (M : Mm) (w : World) (h : Has σ M w) => dParts h)
  have s14 : sG[14]? = some (.int .i64 0) := rfl
  have s62 : sG[62]? = some nilS := rfl
  have h0 : (hG 0 1 0)[0]? = some (.int .i64 0) := rfl
  have zh := zHN
  have HZ : Hid ((hG 0 0 0).size = 3) := Lib.hid rfl
  have hz : (hG 0 1 0).size = 3 := rfl
  have HO : Hid ((hG 0 1 0).toList.all (·.oneCell') = true) := Lib.hid rfl
  generalize hG 0 0 0 = z0 at *
  generalize hG 0 1 0 = hh at *
  generalize sG = ss at *
  go_enter Tryz.func29, Tryz.ntmps29
  go_upto_region 1 with (first
    | ((with_reducible show wpList _ _ _ ({ dst := _, op := Op.box 66 _, type := _, pos := _, after := _, guard := _ } :: _) _ _); go_loud (refine wpList_box_has h rfl 66 _ rfl ?_); clear h; intro b2 w h hn2; try simp only [Act.put, List.setIfInBounds_toArray, List.set_cons_zero, List.set_cons_succ]))
  replace hn2 : M b2 = none := hn2
  replace h : Has σ (M.upd b2 (.cells ss 66)) w := h
  have hle2 : M.le (M.upd b2 (.cells ss 66)) := Mm.le_upd' hn2 _
  have hb2 : (M.upd b2 (.cells ss 66)) b2 = some (.cells ss 66) := (Mm.le_refl _) _ _ (Mm.upd_same _ _ _)
  replace hn2 : M b2 = none := Mm.none_of (Mm.le_refl _) hn2
  generalize (M.upd b2 (.cells ss 66)) = M2 at h hle2 hb2
  go_upto_region 2 with (first
    | (go_at_call 50; go_loud (refine (PA.out _ _ h).mono ?_); clear h; rintro _ w ⟨rfl, h⟩)
    | ((with_reducible show wpList _ _ _ ({ dst := some 5, op := Op.alloc 138, type := _, pos := _, after := _, guard := _ } :: _) _ _); go_loud (refine wpList_alloc_has h rfl 138 rfl _ zh ?_); clear h; intro b5 w h hn5; try simp only [Act.put, List.setIfInBounds_toArray, List.set_cons_zero, List.set_cons_succ])
    | ((with_reducible show wpList _ _ _ ({ dst := _, op := Op.store 138 _ _, type := _, pos := _, after := _, guard := _ } :: _) _ _); refine wpList_storeAll_has (cells := hh) h rfl 138 _ _ rfl rfl rfl (Mm.upd_same _ _ _) rfl HZ.out hz (by kernel_rfl) HO.out ?_; clear h; intro w h))
  rw [Mm.upd_upd] at h
  have hle5 := Mm.le_upd' hn5 (.cells hh 138)
  have hb5 := Mm.upd_same M2 b5 (.cells hh 138)
  have hb25 := hle5 _ _ hb2
  have hle := Mm.le_trans hle2 hle5
  generalize M2.upd b5 (.cells hh 138) = M5 at *
  clear hb2 hle5 hle2
  go_wp2
  go_loopw [7] (fun i wr => i = .int .i64 0 ∧ Has σ M5 wr) (fun i _ => 0)
  case atStart => exact ⟨rfl, h⟩
  case round =>
    clear h w
    obtain ⟨w, rfl⟩ : ∃ x : World, x = wr := ⟨_, rfl⟩
    obtain ⟨rfl, h⟩ := hrel
    go_wp2_with (first
      | (with_reducible show wpList _ _ _ ({ dst := _, op := Op.load 64 _, type := _, pos := _, after := _, guard := _ } :: _) _ _; go_loud (refine wpList_load1_has h rfl 64 _ rfl rfl hb25 s62 Tryz.underlying64 rfl ?_))
      | (with_reducible show wpList _ _ _ ({ dst := _, op := Op.load 3 _, type := _, pos := _, after := _, guard := _ } :: _) _ _; go_loud (refine wpList_load1_has h rfl 3 _ rfl rfl hb25 s14 Tryz.underlying3 rfl ?_))
      | (with_reducible show wpList _ _ _ ({ dst := _, op := Op.load 3 _, type := _, pos := _, after := _, guard := _ } :: _) _ _; go_loud (refine wpList_load1_has h rfl 3 _ rfl rfl hb5 h0 Tryz.underlying3 rfl ?_)))
    go_ret
    exact ⟨rfl, h.le hle⟩
set_option maxHeartbeats 1000000 in
set_option maxRecDepth 20000 in
theorem dNext (h : Has σ M w) : Calls Tryz.prog 27 #[.agg sG] w fun r w' => r = .returned (.int .u64 1) ∧ Has σ M w' := by
  have MK := Lib.hid (fun (M : Mm) (w : World) (h : Has σ M w) => dMake h)
  have FR := Lib.hid (fun (M : Mm) (w : World) (h : Has σ M w) => dFresh h)
  have s14 : sG[14]? = some (.int .i64 0) := rfl
  have s62 : sG[62]? = some nilS := rfl
  have sz := sG_size
  have sx := sG_all
  generalize hhh : hG 0 1 0 = hh at *
  have EH := Lib.hid hhh
  clear hhh
  generalize sG = ss at *
  go_enter Tryz.func27, Tryz.ntmps27
  go_upto_region 1 with (first
    | ((with_reducible show wpList _ _ _ ({ dst := _, op := Op.box 66 _, type := _, pos := _, after := _, guard := _ } :: _) _ _); go_loud (refine wpList_box_has h rfl 66 _ rfl ?_); clear h; intro b1 w h hn1; try simp only [Act.put, List.setIfInBounds_toArray, List.set_cons_zero, List.set_cons_succ]))
  replace hn1 : M b1 = none := hn1
  replace h : Has σ (M.upd b1 (.cells ss 66)) w := h
  have hle2 : M.le (M.upd b1 (.cells ss 66)) := Mm.le_upd' hn1 _
  have hb1 : (M.upd b1 (.cells ss 66)) b1 = some (.cells ss 66) := (Mm.le_refl _) _ _ (Mm.upd_same _ _ _)
  replace hn1 : M b1 = none := Mm.none_of (Mm.le_refl _) hn1
  generalize (M.upd b1 (.cells ss 66)) = M2 at h hle2 hb1
  go_wp2_with (fail)
  go_loopw [3] (fun i wr => i = .int .i64 0 ∧ Has σ M2 wr) (fun i _ => 0)
  case atStart => exact ⟨rfl, h⟩
  case round =>
    clear h w
    obtain ⟨w, rfl⟩ : ∃ x : World, x = wr := ⟨_, rfl⟩
    obtain ⟨rfl, h⟩ := hrel
    go_wp2_with (first
      | (with_reducible show wpList _ _ _ ({ dst := _, op := Op.load 64 _, type := _, pos := _, after := _, guard := _ } :: _) _ _; go_loud (refine wpList_load1_has h rfl 64 _ rfl rfl hb1 s62 Tryz.underlying64 rfl ?_))
      | (with_reducible show wpList _ _ _ ({ dst := _, op := Op.load 3 _, type := _, pos := _, after := _, guard := _ } :: _) _ _; go_loud (refine wpList_load1_has h rfl 3 _ rfl rfl hb1 s14 Tryz.underlying3 rfl ?_))
      | ((with_reducible show wpList _ _ _ ({ dst := _, op := Op.load 66 _, type := _, pos := _, after := _, guard := _ } :: _) _ _); go_loud (refine wpList_agg_has h rfl 66 _ rfl rfl hb1 sx sz Tryz.underlying66 rfl (by kernel_rfl) ?_); try simp only [Act.put, List.setIfInBounds_toArray, List.set_cons_zero, List.set_cons_succ])
      | ((with_reducible show wpList _ _ _ ({ dst := _, op := Op.build 138 _, type := _, pos := _, after := _, guard := _ } :: _) _ _); (refine wpList_build_has rfl 138 _ rfl (hG 0 1 0) (by kernel_rfl) ?_; rw [EH.out]; try simp only [Act.put, List.setIfInBounds_toArray, List.set_cons_zero, List.set_cons_succ]))
      | (go_at_call 47; go_loud (refine (MK.out _ _ h).mono ?_); clear h; rintro _ w ⟨rfl, h⟩)
      | (go_at_call 29; go_loud (refine (FR.out _ _ h).mono ?_); clear h; rintro _ w ⟨rfl, h⟩))
    go_ret
    exact ⟨rfl, h.le hle2⟩
theorem dAt {σ w : World} {M : Mm} (h : Has σ M w) : Calls Tryz.prog 60 #[nilS, .int .i64 0] w fun r w' => r = .returned (.tuple #[.int .i64 0, .bool false]) ∧ Has σ M w' := by
  go_enter Tryz.func60, Tryz.ntmps60
  go_wp2
  go_loopw [6] (fun i wr => i = .int .i64 0 ∧ Has σ M wr) (fun i _ => 0)
  case atStart => exact ⟨rfl, h⟩
  case round =>
    clear h w
    obtain ⟨w, rfl⟩ : ∃ x : World, x = wr := ⟨_, rfl⟩
    obtain ⟨rfl, h⟩ := hrel
    go_wp2
    go_ret2
    exact ⟨rfl, h⟩
set_option maxHeartbeats 1000000 in
set_option maxRecDepth 20000 in
theorem dDrop (h : Has σ M w) : Calls Tryz.prog 42 #[nilS, .int .i64 0] w fun r w' => r = .returned (.tuple #[nilS, .agg rowZ, .bool false]) ∧ Has σ M w' := by
  have AT := Lib.hid (fun (M : Mm) (w : World) (h : Has σ M w) => dAt h)
  have zr := zROW
  have rz : rowZ.size = 3 := rfl
  have HO : Hid (rowZ.toList.all (·.oneCell') = true) := Lib.hid rfl
  have EZ : Hid (rowZ = #[.int .i64 0, .int .u64 0, .int .u64 0]) := Lib.hid rfl
  generalize rowZ = z0 at *
  go_enter Tryz.func42, Tryz.ntmps42
  go_upto_region 1 with (first
    | ((with_reducible show wpList _ _ _ ({ dst := some 5, op := Op.alloc 59, type := _, pos := _, after := _, guard := _ } :: _) _ _); go_loud (refine wpList_alloc_has h rfl 59 rfl _ zr ?_); clear h; intro b5 w h hn5; try simp only [Act.put, List.setIfInBounds_toArray, List.set_cons_zero, List.set_cons_succ]))
  replace hn5 : M b5 = none := hn5
  replace h : Has σ (M.upd b5 (.cells z0 59)) w := h
  have hle2 : M.le (M.upd b5 (.cells z0 59)) := Mm.le_upd' hn5 _
  have hb5 : (M.upd b5 (.cells z0 59)) b5 = some (.cells z0 59) := (Mm.le_refl _) _ _ (Mm.upd_same _ _ _)
  replace hn5 : M b5 = none := Mm.none_of (Mm.le_refl _) hn5
  generalize (M.upd b5 (.cells z0 59)) = M2 at h hle2 hb5
  go_wp2_with (first
    | (go_at_call 60; go_loud (refine (AT.out _ _ h).mono ?_); clear h; rintro _ w ⟨rfl, h⟩)
    | ((with_reducible show wpList _ _ _ ({ dst := _, op := Op.build 59 _, type := _, pos := _, after := _, guard := _ } :: _) _ _); (refine wpList_build_has rfl 59 _ rfl #[.int .i64 0, .int .u64 0, .int .u64 0] (by kernel_rfl) ?_; rw [← EZ.out]; try simp only [Act.put, List.setIfInBounds_toArray, List.set_cons_zero, List.set_cons_succ]))
    | ((with_reducible show wpList _ _ _ ({ dst := _, op := Op.store 59 _ _, type := _, pos := _, after := _, guard := _ } :: _) _ _); refine wpList_storeAll_has (cells := z0) h rfl 59 _ _ rfl rfl rfl hb5 rfl rz rz (by kernel_rfl) HO.out ?_; clear h; intro w h))
  exact bodyPost_ret (results_tct rfl (CellRes.of h (Mm.upd_same _ _ _) rfl Tryz.underlying59 rfl (by rw [rz]; kernel_rfl))) rfl ⟨rfl, h.le (Mm.le_upd hle2 hn5 _)⟩
end
end
section
open Go.RowKit
set_option linter.unusedVariables false
set_option linter.unusedSimpArgs false
set_option linter.unnecessarySimpa false
section
variable {σ w : World} {M : Mm}
set_option maxHeartbeats 2000000 in
set_option maxRecDepth 20000 in
theorem dDo (h : Has σ M w) (told : Int) : Calls Tryz.prog 25 #[.agg sG, .bool true, .agg cG, .int .u64 told] w fun r w' => r = .returned (.tuple #[.agg sG, .agg aG]) ∧ Has σ M w' := by
  have zs := zST
  have za := zans
  have z0z : st0.size = 63 := st0_size
  have aZ : Hid ((ansR 0 0 0 0 0 0).size = 6) := Lib.hid rfl
  have sO : Hid (sG.toList.all (·.oneCell') = true) := Lib.hid sG_one
  have aO : Hid (aG.toList.all (·.oneCell') = true) := Lib.hid rfl
  have sz := sG_size
  have sx := sG_all
  have cz := cG_size
  have cx := cG_all
  have az := aG_size
  have ax := aG_all
  have c0 : cG[0]? = some (.int .i64 1) := rfl
  have c2 : cG[2]? = some (.int .i64 0) := rfl
  have a0 : aG[0]? = some (.int .i64 6) := rfl
  have a3 : aG[3]? = some (.int .u64 0) := rfl
  have s14 : sG[14]? = some (.int .i64 0) := rfl
  have s15 : sG[15]? = some nilS := rfl
  have sc := sG_conf
  have oz := oneR_size
  have FT : Hid (fits ansKs aG.toList) := Lib.hid (ansR_fits 6 0 0 0 0 0)
  have SM : Hid (sames aG.toList aG.toList = true) := Lib.hid (ansR_same 6 0 0 0 0 0)
  have BA := Lib.hid (fun (M : Mm) (w : World) (h : Has σ M w) => dBare h)
  have RE := Lib.hid (fun (M : Mm) (w : World) (h : Has σ M w) => dRefused h)
  have LV := Lib.hid (fun (M : Mm) (w : World) (h : Has σ M w) => dLevel h)
  have DR := Lib.hid (fun (M : Mm) (w : World) (h : Has σ M w) => dDrop h)
  have zr := zROW
  have rz : rowZ.size = 3 := rfl
  have rO : Hid (rowZ.toList.all (·.oneCell') = true) := Lib.hid rfl
  have EA : Hid (aG = ansR 6 0 0 0 0 0) := Lib.hid rfl
  generalize rowZ = rr at *
  generalize ha6 : ansR 6 0 0 0 0 0 = a66 at *
  have H6 := Lib.hid ha6
  clear ha6
  generalize oneR = oc at *
  generalize cG = cc at *
  generalize aG = aa at *
  generalize sG = ss at *
  generalize st0 = z0 at *
  generalize ansR 0 0 0 0 0 0 = a00 at *
  go_enter Tryz.func25, Tryz.ntmps25
  go_upto_region 1 with (first
    | ((with_reducible show wpList _ _ _ ({ dst := _, op := Op.box 66 _, type := _, pos := _, after := _, guard := _ } :: _) _ _); go_loud (refine wpList_box_has h rfl 66 _ rfl ?_); clear h; intro b4 w h hn4; try simp only [Act.put, List.setIfInBounds_toArray, List.set_cons_zero, List.set_cons_succ])
    | ((with_reducible show wpList _ _ _ ({ dst := _, op := Op.box 27 _, type := _, pos := _, after := _, guard := _ } :: _) _ _); go_loud (refine wpList_box_has h rfl 27 _ rfl ?_); clear h; intro b6 w h hn6; try simp only [Act.put, List.setIfInBounds_toArray, List.set_cons_zero, List.set_cons_succ])
    | ((with_reducible show wpList _ _ _ ({ dst := some 8, op := Op.alloc 66, type := _, pos := _, after := _, guard := _ } :: _) _ _); go_loud (refine wpList_alloc_has h rfl 66 rfl _ zs ?_); clear h; intro b8 w h hn8; try simp only [Act.put, List.setIfInBounds_toArray, List.set_cons_zero, List.set_cons_succ])
    | ((with_reducible show wpList _ _ _ ({ dst := some 9, op := Op.alloc 30, type := _, pos := _, after := _, guard := _ } :: _) _ _); go_loud (refine wpList_alloc_has h rfl 30 rfl _ za ?_); clear h; intro b9 w h hn9; try simp only [Act.put, List.setIfInBounds_toArray, List.set_cons_zero, List.set_cons_succ]))
  replace hn4 : M b4 = none := hn4
  replace hn6 : (M.upd b4 (.cells ss 66)) b6 = none := hn6
  replace hn8 : ((M.upd b4 (.cells ss 66)).upd b6 (.cells cc 27)) b8 = none := hn8
  replace hn9 : (((M.upd b4 (.cells ss 66)).upd b6 (.cells cc 27)).upd b8 (.cells z0 66)) b9 = none := hn9
  replace h : Has σ ((((M.upd b4 (.cells ss 66)).upd b6 (.cells cc 27)).upd b8 (.cells z0 66)).upd b9 (.cells a00 30)) w := h
  have hle2 : M.le ((((M.upd b4 (.cells ss 66)).upd b6 (.cells cc 27)).upd b8 (.cells z0 66)).upd b9 (.cells a00 30)) := Mm.le_trans (Mm.le_upd' hn4 _) (Mm.le_trans (Mm.le_upd' hn6 _) (Mm.le_trans (Mm.le_upd' hn8 _) (Mm.le_upd' hn9 _)))
  have hb4 : ((((M.upd b4 (.cells ss 66)).upd b6 (.cells cc 27)).upd b8 (.cells z0 66)).upd b9 (.cells a00 30)) b4 = some (.cells ss 66) := (Mm.le_trans (Mm.le_upd' hn6 _) (Mm.le_trans (Mm.le_upd' hn8 _) (Mm.le_upd' hn9 _))) _ _ (Mm.upd_same _ _ _)
  have hb6 : ((((M.upd b4 (.cells ss 66)).upd b6 (.cells cc 27)).upd b8 (.cells z0 66)).upd b9 (.cells a00 30)) b6 = some (.cells cc 27) := (Mm.le_trans (Mm.le_upd' hn8 _) (Mm.le_upd' hn9 _)) _ _ (Mm.upd_same _ _ _)
  have hb8 : ((((M.upd b4 (.cells ss 66)).upd b6 (.cells cc 27)).upd b8 (.cells z0 66)).upd b9 (.cells a00 30)) b8 = some (.cells z0 66) := (Mm.le_upd' hn9 _) _ _ (Mm.upd_same _ _ _)
  have hb9 : ((((M.upd b4 (.cells ss 66)).upd b6 (.cells cc 27)).upd b8 (.cells z0 66)).upd b9 (.cells a00 30)) b9 = some (.cells a00 30) := (Mm.le_refl _) _ _ (Mm.upd_same _ _ _)
  have n_b4_b6 : b4 ≠ b6 := Mm.ne_of hn6 ((Mm.le_refl _) _ _ (Mm.upd_same _ _ _))
  have n_b4_b8 : b4 ≠ b8 := Mm.ne_of hn8 ((Mm.le_upd' hn6 _) _ _ (Mm.upd_same _ _ _))
  have n_b6_b8 : b6 ≠ b8 := Mm.ne_of hn8 ((Mm.le_refl _) _ _ (Mm.upd_same _ _ _))
  have n_b4_b9 : b4 ≠ b9 := Mm.ne_of hn9 ((Mm.le_trans (Mm.le_upd' hn6 _) (Mm.le_upd' hn8 _)) _ _ (Mm.upd_same _ _ _))
  have n_b6_b9 : b6 ≠ b9 := Mm.ne_of hn9 ((Mm.le_upd' hn8 _) _ _ (Mm.upd_same _ _ _))
  have n_b8_b9 : b8 ≠ b9 := Mm.ne_of hn9 ((Mm.le_refl _) _ _ (Mm.upd_same _ _ _))
  replace hn9 : M b9 = none := Mm.none_of (Mm.le_trans (Mm.le_upd' hn4 _) (Mm.le_trans (Mm.le_upd' hn6 _) (Mm.le_upd' hn8 _))) hn9
  replace hn8 : M b8 = none := Mm.none_of (Mm.le_trans (Mm.le_upd' hn4 _) (Mm.le_upd' hn6 _)) hn8
  replace hn6 : M b6 = none := Mm.none_of (Mm.le_upd' hn4 _) hn6
  replace hn4 : M b4 = none := Mm.none_of (Mm.le_refl _) hn4
  generalize ((((M.upd b4 (.cells ss 66)).upd b6 (.cells cc 27)).upd b8 (.cells z0 66)).upd b9 (.cells a00 30)) = M2 at h hle2 hb4 hb6 hb8 hb9
  go_upto_region 2 with (first
    | ((with_reducible show wpList _ _ _ ({ dst := some 21, op := Op.build 30 _, type := _, pos := _, after := _, guard := _ } :: _) _ _); (refine wpList_build_has rfl 30 _ rfl (ansR 6 0 0 0 0 0) (by kernel_rfl) ?_; rw [H6.out, ← EA.out]; try simp only [Act.put, List.setIfInBounds_toArray, List.set_cons_zero, List.set_cons_succ]))
    | ((with_reducible show wpList _ _ _ ({ dst := some 10, op := Op.alloc 30, type := _, pos := _, after := _, guard := _ } :: _) _ _); go_loud (refine wpList_alloc_has h rfl 30 rfl _ za ?_); clear h; intro b10 w h hn10; try simp only [Act.put, List.setIfInBounds_toArray, List.set_cons_zero, List.set_cons_succ])
    | ((with_reducible show wpList _ _ _ ({ dst := _, op := Op.store 30 (.tmp 10) _, type := _, pos := _, after := _, guard := _ } :: _) _ _); refine wpList_storeAll_has (cells := aa) h rfl 30 _ _ rfl rfl rfl (Mm.upd_same _ _ _) rfl aZ.out az (by kernel_rfl) aO.out ?_; clear h; intro w h))
  rw [Mm.upd_upd] at h
  have hle3 := Mm.le_upd' hn10 (.cells aa 30)
  have hb10 := Mm.upd_same M2 b10 (.cells aa 30)
  have hb43 := hle3 _ _ hb4
  have hb63 := hle3 _ _ hb6
  have hb83 := hle3 _ _ hb8
  have hb93 := hle3 _ _ hb9
  have hleA := Mm.le_trans hle2 hle3
  have n108 := Ne.symm (Mm.ne_of hn10 hb8)
  have n109 := Ne.symm (Mm.ne_of hn10 hb9)
  clear hb4 hb6 hb8 hb9 hle3 hle2
  generalize M2.upd b10 (.cells aa 30) = M3 at *
  go_upto_region 12 with (first
    | (with_reducible show wpList _ _ _ ({ dst := _, op := Op.load 3 _, type := _, pos := _, after := _, guard := _ } :: _) _ _; go_loud (refine wpList_load1_has h rfl 3 _ rfl rfl hb63 c0 Tryz.underlying3 rfl ?_))
    | (with_reducible show wpList _ _ _ ({ dst := _, op := Op.load 51 _, type := _, pos := _, after := _, guard := _ } :: _) _ _; go_loud (refine wpList_load1_has h rfl 51 _ rfl rfl hb43 s15 Tryz.underlying51 rfl ?_))
    | (with_reducible show wpList _ _ _ ({ dst := _, op := Op.load 2 _, type := _, pos := _, after := _, guard := _ } :: _) _ _; go_loud (refine wpList_load1_has h rfl 2 _ rfl rfl hb63 c2 Tryz.underlying2 rfl ?_))
    | (go_at_call 42; go_loud (refine (DR.out _ _ h).mono ?_); clear h; rintro _ w ⟨rfl, h⟩)
    | ((with_reducible show wpList _ _ _ ({ dst := some 14, op := Op.alloc 59, type := _, pos := _, after := _, guard := _ } :: _) _ _); go_loud (refine wpList_alloc_has h rfl 59 rfl _ zr ?_); clear h; intro b14 w h hn14; try simp only [Act.put, List.setIfInBounds_toArray, List.set_cons_zero, List.set_cons_succ])
    | ((with_reducible show wpList _ _ _ ({ dst := _, op := Op.store 59 (.tmp 14) _, type := _, pos := _, after := _, guard := _ } :: _) _ _); refine wpList_storeAll_has (cells := rr) h rfl 59 _ _ rfl rfl rfl (Mm.upd_same _ _ _) rfl rz rz (by kernel_rfl) rO.out ?_; clear h; intro w h))
  rw [Mm.upd_upd] at h
  replace h := h.le (Mm.le_upd' hn14 _)
  have k4 := Mm.drop_of (Mm.drop_of hb43 n_b4_b8) n_b4_b9
  have k10 := Mm.drop_of (Mm.drop_of hb10 n108) n109
  have hd1 : ((M3.drop b8).drop b9).le (M3.upd b8 (.cells ss 66)) := Mm.le_trans (Mm.drop_le _ _) (Mm.drop_upd (Mm.drop_le _ _) _)
  have hd2 : ((M3.drop b8).drop b9).le ((M3.upd b8 (.cells ss 66)).upd b9 (.cells aa 30)) := Mm.drop_upd hd1 _
  refine wp_region_held_drew (S := Has σ ((M3.drop b8).drop b9)) (by kernel_rfl) (h.drew.le (Mm.le_trans (Mm.drop_le _ _) (Mm.drop_le _ _))) (fun hHeld => ?_)
  replace h := h.drew
  refine wpAnyH_take (i := 0) (v := _) rfl (by kernel_rfl) (by kernel_rfl) (by kernel_rfl) (fun _ _ _ h => h) (yields_agg rfl 66 _ rfl rfl k4 sx sz Tryz.underlying66 rfl (by kernel_rfl)) hHeld ?_
  try simp only [List.getElem_toArray, List.getElem_cons_succ, List.getElem_cons_zero, Act.put, List.setIfInBounds_toArray, List.set_cons_zero, List.set_cons_succ]
  refine wpAnyH_take (i := 1) (v := _) rfl (by kernel_rfl) (by kernel_rfl) (by kernel_rfl) (fun _ _ _ h => h) (yields_agg rfl 30 _ rfl rfl k10 ax az Tryz.underlying30 rfl (by kernel_rfl)) hHeld ?_
  try simp only [List.getElem_toArray, List.getElem_cons_succ, List.getElem_cons_zero, Act.put, List.setIfInBounds_toArray, List.set_cons_zero, List.set_cons_succ]
  refine wpAnyH_ready (rs := [2]) (by kernel_rfl) (by simp) ?_
  refine AllReadyH.cons rfl (fun K hK => ?_) AllReadyH.nil
  (refine step_storeAll (cells := ss) h rfl 66 _ _ rfl rfl rfl hb83 rfl (z0z.trans sz.symm) (by rw [sz]; kernel_rfl) sO.out ?_; clear h hHeld; intro w h)
  refine hK.out _ _ (h.le hd1) (fun hHeld => ?_)
  clear hK K
  try simp only [Act.put, List.setIfInBounds_toArray, List.set_cons_zero, List.set_cons_succ]
  have g9 := (Mm.upd_ne (o := .cells ss 66) (Ne.symm n_b8_b9)).trans hb93
  refine wpAnyH_ready (rs := [3]) (by kernel_rfl) (by simp) ?_
  refine AllReadyH.cons rfl (fun K hK => ?_) AllReadyH.nil
  (refine step_storeAll (cells := aa) h rfl 30 _ _ rfl rfl rfl g9 rfl (aZ.out.trans az.symm) (by rw [az]; kernel_rfl) aO.out ?_; clear h hHeld; intro w h)
  refine hK.out _ _ (h.le hd2) (fun hHeld => ?_)
  clear hK K
  try simp only [Act.put, List.setIfInBounds_toArray, List.set_cons_zero, List.set_cons_succ]
  refine wpAnyH_done (by kernel_rfl) ?_ _
  go_wp2
  exact bodyPost_ret (results_cc rfl (CellRes.of h ((Mm.upd_ne n_b8_b9).trans (Mm.upd_same _ _ _)) rfl Tryz.underlying66 rfl (by rw [sz]; kernel_rfl)) (CellRes.of h (Mm.upd_same _ _ _) rfl Tryz.underlying30 rfl (by rw [az]; kernel_rfl))) rfl ⟨rfl, h.le (Mm.le_upd (Mm.le_upd hleA hn8 _) hn9 _)⟩
set_option maxHeartbeats 2000000 in
set_option maxRecDepth 20000 in
theorem dDoes (h : Has σ M w) : Calls Tryz.prog 16 #[.agg sG, .int .i64 0, .agg cG] w fun r w' => r = .returned (.tuple #[.agg sG, .agg aG]) ∧ Has σ M w' := by
  have zs := zST
  have za := zans
  have z0z : st0.size = 63 := st0_size
  have aZ : Hid ((ansR 0 0 0 0 0 0).size = 6) := Lib.hid rfl
  have sO : Hid (sG.toList.all (·.oneCell') = true) := Lib.hid sG_one
  have aO : Hid (aG.toList.all (·.oneCell') = true) := Lib.hid rfl
  have sz := sG_size
  have sx := sG_all
  have cz := cG_size
  have cx := cG_all
  have az := aG_size
  have ax := aG_all
  have c0 : cG[0]? = some (.int .i64 1) := rfl
  have c2 : cG[2]? = some (.int .i64 0) := rfl
  have a0 : aG[0]? = some (.int .i64 6) := rfl
  have a3 : aG[3]? = some (.int .u64 0) := rfl
  have s14 : sG[14]? = some (.int .i64 0) := rfl
  have s15 : sG[15]? = some nilS := rfl
  have sc := sG_conf
  have oz := oneR_size
  have FT : Hid (fits ansKs aG.toList) := Lib.hid (ansR_fits 6 0 0 0 0 0)
  have SM : Hid (sames aG.toList aG.toList = true) := Lib.hid (ansR_same 6 0 0 0 0 0)
  have BA := Lib.hid (fun (M : Mm) (w : World) (h : Has σ M w) => dBare h)
  have RE := Lib.hid (fun (M : Mm) (w : World) (h : Has σ M w) => dRefused h)
  have LV := Lib.hid (fun (M : Mm) (w : World) (h : Has σ M w) => dLevel h)
  have DO := Lib.hid (fun (M : Mm) (w : World) (h : Has σ M w) => dDo h 1)
  have NX := Lib.hid (fun (M : Mm) (w : World) (h : Has σ M w) => dNext h)
  generalize oneR = oc at *
  generalize cG = cc at *
  generalize aG = aa at *
  generalize sG = ss at *
  generalize st0 = z0 at *
  generalize ansR 0 0 0 0 0 0 = a00 at *
  go_enter Tryz.func16, Tryz.ntmps16
  go_upto_region 1 with (first
    | ((with_reducible show wpList _ _ _ ({ dst := _, op := Op.box 66 _, type := _, pos := _, after := _, guard := _ } :: _) _ _); go_loud (refine wpList_box_has h rfl 66 _ rfl ?_); clear h; intro b3 w h hn3; try simp only [Act.put, List.setIfInBounds_toArray, List.set_cons_zero, List.set_cons_succ])
    | ((with_reducible show wpList _ _ _ ({ dst := _, op := Op.box 27 _, type := _, pos := _, after := _, guard := _ } :: _) _ _); go_loud (refine wpList_box_has h rfl 27 _ rfl ?_); clear h; intro b5 w h hn5; try simp only [Act.put, List.setIfInBounds_toArray, List.set_cons_zero, List.set_cons_succ])
    | ((with_reducible show wpList _ _ _ ({ dst := some 6, op := Op.alloc 66, type := _, pos := _, after := _, guard := _ } :: _) _ _); go_loud (refine wpList_alloc_has h rfl 66 rfl _ zs ?_); clear h; intro b6 w h hn6; try simp only [Act.put, List.setIfInBounds_toArray, List.set_cons_zero, List.set_cons_succ])
    | ((with_reducible show wpList _ _ _ ({ dst := some 7, op := Op.alloc 30, type := _, pos := _, after := _, guard := _ } :: _) _ _); go_loud (refine wpList_alloc_has h rfl 30 rfl _ za ?_); clear h; intro b7 w h hn7; try simp only [Act.put, List.setIfInBounds_toArray, List.set_cons_zero, List.set_cons_succ]))
  replace hn3 : M b3 = none := hn3
  replace hn5 : (M.upd b3 (.cells ss 66)) b5 = none := hn5
  replace hn6 : ((M.upd b3 (.cells ss 66)).upd b5 (.cells cc 27)) b6 = none := hn6
  replace hn7 : (((M.upd b3 (.cells ss 66)).upd b5 (.cells cc 27)).upd b6 (.cells z0 66)) b7 = none := hn7
  replace h : Has σ ((((M.upd b3 (.cells ss 66)).upd b5 (.cells cc 27)).upd b6 (.cells z0 66)).upd b7 (.cells a00 30)) w := h
  have hle2 : M.le ((((M.upd b3 (.cells ss 66)).upd b5 (.cells cc 27)).upd b6 (.cells z0 66)).upd b7 (.cells a00 30)) := Mm.le_trans (Mm.le_upd' hn3 _) (Mm.le_trans (Mm.le_upd' hn5 _) (Mm.le_trans (Mm.le_upd' hn6 _) (Mm.le_upd' hn7 _)))
  have hb3 : ((((M.upd b3 (.cells ss 66)).upd b5 (.cells cc 27)).upd b6 (.cells z0 66)).upd b7 (.cells a00 30)) b3 = some (.cells ss 66) := (Mm.le_trans (Mm.le_upd' hn5 _) (Mm.le_trans (Mm.le_upd' hn6 _) (Mm.le_upd' hn7 _))) _ _ (Mm.upd_same _ _ _)
  have hb5 : ((((M.upd b3 (.cells ss 66)).upd b5 (.cells cc 27)).upd b6 (.cells z0 66)).upd b7 (.cells a00 30)) b5 = some (.cells cc 27) := (Mm.le_trans (Mm.le_upd' hn6 _) (Mm.le_upd' hn7 _)) _ _ (Mm.upd_same _ _ _)
  have hb6 : ((((M.upd b3 (.cells ss 66)).upd b5 (.cells cc 27)).upd b6 (.cells z0 66)).upd b7 (.cells a00 30)) b6 = some (.cells z0 66) := (Mm.le_upd' hn7 _) _ _ (Mm.upd_same _ _ _)
  have hb7 : ((((M.upd b3 (.cells ss 66)).upd b5 (.cells cc 27)).upd b6 (.cells z0 66)).upd b7 (.cells a00 30)) b7 = some (.cells a00 30) := (Mm.le_refl _) _ _ (Mm.upd_same _ _ _)
  have n_b3_b5 : b3 ≠ b5 := Mm.ne_of hn5 ((Mm.le_refl _) _ _ (Mm.upd_same _ _ _))
  have n_b3_b6 : b3 ≠ b6 := Mm.ne_of hn6 ((Mm.le_upd' hn5 _) _ _ (Mm.upd_same _ _ _))
  have n_b5_b6 : b5 ≠ b6 := Mm.ne_of hn6 ((Mm.le_refl _) _ _ (Mm.upd_same _ _ _))
  have n_b3_b7 : b3 ≠ b7 := Mm.ne_of hn7 ((Mm.le_trans (Mm.le_upd' hn5 _) (Mm.le_upd' hn6 _)) _ _ (Mm.upd_same _ _ _))
  have n_b5_b7 : b5 ≠ b7 := Mm.ne_of hn7 ((Mm.le_upd' hn6 _) _ _ (Mm.upd_same _ _ _))
  have n_b6_b7 : b6 ≠ b7 := Mm.ne_of hn7 ((Mm.le_refl _) _ _ (Mm.upd_same _ _ _))
  replace hn7 : M b7 = none := Mm.none_of (Mm.le_trans (Mm.le_upd' hn3 _) (Mm.le_trans (Mm.le_upd' hn5 _) (Mm.le_upd' hn6 _))) hn7
  replace hn6 : M b6 = none := Mm.none_of (Mm.le_trans (Mm.le_upd' hn3 _) (Mm.le_upd' hn5 _)) hn6
  replace hn5 : M b5 = none := Mm.none_of (Mm.le_upd' hn3 _) hn5
  replace hn3 : M b3 = none := Mm.none_of (Mm.le_refl _) hn3
  generalize ((((M.upd b3 (.cells ss 66)).upd b5 (.cells cc 27)).upd b6 (.cells z0 66)).upd b7 (.cells a00 30)) = M2 at h hle2 hb3 hb5 hb6 hb7
  have BA2 := Lib.hid (BA.out M2)
  have RE2 := Lib.hid (RE.out M2)
  have LV2 := Lib.hid (LV.out M2)
  have DO2 := Lib.hid (DO.out M2)
  have NX2 := Lib.hid (NX.out M2)
  refine wp_region_class (Has σ M2) (by kernel_rfl) (by kernel_rfl) h.drew ?_
  clear h
  repeat (first
    | go_big_quiet_skip
    | (go_big_quiet_want; first
      | (go_loud (refine quiet_agg_has 66 _ rfl rfl hb3 sx sz Tryz.underlying66 rfl (by kernel_rfl) ?_); simp only [Act.put, List.setIfInBounds_toArray, List.set_cons_zero, List.set_cons_succ]; go_big_quiet_on)
      | (go_loud (refine quiet_agg_has 27 _ rfl rfl hb5 cx cz Tryz.underlying27 rfl (by kernel_rfl) ?_); simp only [Act.put, List.setIfInBounds_toArray, List.set_cons_zero, List.set_cons_succ]; go_big_quiet_on)
      | (go_big_quiet_op; first | go_big_quiet_on | go_big_quiet_call (first | with_reducible exact fun _ => rfl | with_reducible exact BA2.out _ | with_reducible exact RE2.out _))))
  refine wpQuiet_nil ?_
  try clear w
  intro w h
  go_upto_region 4 with (fail)
  refine wp_region_head (Has σ M2) 14 (by kernel_rfl) (by kernel_rfl) (fun _ _ _ _ _ h => h) h.drew ?_
  clear h
  simp only [List.take_succ_cons, List.take_zero, List.drop_succ_cons, List.drop_zero]
  repeat (first
    | go_big_quiet_skip
    | (go_big_quiet_want; first
      | (go_loud (refine quiet_agg_has 66 _ rfl rfl hb3 sx sz Tryz.underlying66 rfl (by kernel_rfl) ?_); simp only [Act.put, List.setIfInBounds_toArray, List.set_cons_zero, List.set_cons_succ]; go_big_quiet_on)
      | (go_loud (refine quiet_agg_has 38 _ rfl rfl hb3 sc oz Tryz.underlying38 rfl (by kernel_rfl) ?_); simp only [Act.put, List.setIfInBounds_toArray, List.set_cons_zero, List.set_cons_succ]; go_big_quiet_on)
      | (refine quiet_load_has 3 _ rfl rfl hb3 s14 Tryz.underlying3 rfl ?_; simp only [Act.put, List.setIfInBounds_toArray, List.set_cons_zero, List.set_cons_succ]; go_big_quiet_on)
      | (go_loud (refine quiet_agg_has 27 _ rfl rfl hb5 cx cz Tryz.underlying27 rfl (by kernel_rfl) ?_); simp only [Act.put, List.setIfInBounds_toArray, List.set_cons_zero, List.set_cons_succ]; go_big_quiet_on)
      | (go_big_quiet_op; first | go_big_quiet_on | go_big_quiet_call (first | with_reducible exact fun _ => rfl | with_reducible exact LV2.out _ | with_reducible exact NX2.out _ | with_reducible exact DO2.out _))))
  refine wpQuiet_nil ?_
  try clear w
  intro w h
  go_wp2_with (first
    | ((with_reducible show wpList _ _ _ ({ dst := _, op := Op.store 66 _ _, type := _, pos := _, after := _, guard := _ } :: _) _ _); refine wpList_storeAll_has (cells := ss) h rfl 66 _ _ rfl rfl rfl hb6 rfl z0z sz (by kernel_rfl) sO.out ?_; clear h; intro w h)
    | ((with_reducible show wpList _ _ _ ({ dst := _, op := Op.store 30 _ _, type := _, pos := _, after := _, guard := _ } :: _) _ _); refine wpList_storeAll_has (cells := aa) h rfl 30 _ _ rfl rfl rfl ((Mm.upd_ne (Ne.symm n_b6_b7)).trans hb7) rfl aZ.out az (by kernel_rfl) aO.out ?_; clear h; intro w h))
  exact bodyPost_ret (results_cc rfl (CellRes.of h ((Mm.upd_ne n_b6_b7).trans (Mm.upd_same _ _ _)) rfl Tryz.underlying66 rfl (by rw [sz]; kernel_rfl)) (CellRes.of h (Mm.upd_same _ _ _) rfl Tryz.underlying30 rfl (by rw [az]; kernel_rfl))) rfl ⟨rfl, h.le (Mm.le_upd (Mm.le_upd hle2 hn6 _) hn7 _)⟩
set_option maxHeartbeats 2000000 in
set_option maxRecDepth 20000 in
theorem dTold (h : Has σ M w) : Calls Tryz.prog 17 #[.agg sG, .int .i64 0, .agg cG, .agg aG] w fun r w' => r = .returned (.tuple #[.agg sG, .bool true]) ∧ Has σ M w' := by
  have zs := zST
  have za := zans
  have z0z : st0.size = 63 := st0_size
  have aZ : Hid ((ansR 0 0 0 0 0 0).size = 6) := Lib.hid rfl
  have sO : Hid (sG.toList.all (·.oneCell') = true) := Lib.hid sG_one
  have aO : Hid (aG.toList.all (·.oneCell') = true) := Lib.hid rfl
  have sz := sG_size
  have sx := sG_all
  have cz := cG_size
  have cx := cG_all
  have az := aG_size
  have ax := aG_all
  have c0 : cG[0]? = some (.int .i64 1) := rfl
  have c2 : cG[2]? = some (.int .i64 0) := rfl
  have a0 : aG[0]? = some (.int .i64 6) := rfl
  have a3 : aG[3]? = some (.int .u64 0) := rfl
  have s14 : sG[14]? = some (.int .i64 0) := rfl
  have s15 : sG[15]? = some nilS := rfl
  have sc := sG_conf
  have oz := oneR_size
  have FT : Hid (fits ansKs aG.toList) := Lib.hid (ansR_fits 6 0 0 0 0 0)
  have SM : Hid (sames aG.toList aG.toList = true) := Lib.hid (ansR_same 6 0 0 0 0 0)
  have BA := Lib.hid (fun (M : Mm) (w : World) (h : Has σ M w) => dBare h)
  have RE := Lib.hid (fun (M : Mm) (w : World) (h : Has σ M w) => dRefused h)
  have LV := Lib.hid (fun (M : Mm) (w : World) (h : Has σ M w) => dLevel h)
  have DO := Lib.hid (fun (M : Mm) (w : World) (h : Has σ M w) => dDo h 0)
  have FI := Lib.hid (fun (M : Mm) (w : World) (h : Has σ M w) => dFits h)
  generalize oneR = oc at *
  generalize cG = cc at *
  generalize aG = aa at *
  generalize sG = ss at *
  generalize st0 = z0 at *
  generalize ansR 0 0 0 0 0 0 = a00 at *
  go_enter Tryz.func17, Tryz.ntmps17
  go_upto_region 1 with (first
    | ((with_reducible show wpList _ _ _ ({ dst := _, op := Op.box 66 _, type := _, pos := _, after := _, guard := _ } :: _) _ _); go_loud (refine wpList_box_has h rfl 66 _ rfl ?_); clear h; intro b4 w h hn4; try simp only [Act.put, List.setIfInBounds_toArray, List.set_cons_zero, List.set_cons_succ])
    | ((with_reducible show wpList _ _ _ ({ dst := _, op := Op.box 27 _, type := _, pos := _, after := _, guard := _ } :: _) _ _); go_loud (refine wpList_box_has h rfl 27 _ rfl ?_); clear h; intro b6 w h hn6; try simp only [Act.put, List.setIfInBounds_toArray, List.set_cons_zero, List.set_cons_succ])
    | ((with_reducible show wpList _ _ _ ({ dst := _, op := Op.box 30 _, type := _, pos := _, after := _, guard := _ } :: _) _ _); go_loud (refine wpList_box_has h rfl 30 _ rfl ?_); clear h; intro b7 w h hn7; try simp only [Act.put, List.setIfInBounds_toArray, List.set_cons_zero, List.set_cons_succ])
    | ((with_reducible show wpList _ _ _ ({ dst := some 8, op := Op.alloc 66, type := _, pos := _, after := _, guard := _ } :: _) _ _); go_loud (refine wpList_alloc_has h rfl 66 rfl _ zs ?_); clear h; intro b8 w h hn8; try simp only [Act.put, List.setIfInBounds_toArray, List.set_cons_zero, List.set_cons_succ]))
  replace hn4 : M b4 = none := hn4
  replace hn6 : (M.upd b4 (.cells ss 66)) b6 = none := hn6
  replace hn7 : ((M.upd b4 (.cells ss 66)).upd b6 (.cells cc 27)) b7 = none := hn7
  replace hn8 : (((M.upd b4 (.cells ss 66)).upd b6 (.cells cc 27)).upd b7 (.cells aa 30)) b8 = none := hn8
  replace h : Has σ ((((M.upd b4 (.cells ss 66)).upd b6 (.cells cc 27)).upd b7 (.cells aa 30)).upd b8 (.cells z0 66)) w := h
  have hle2 : M.le ((((M.upd b4 (.cells ss 66)).upd b6 (.cells cc 27)).upd b7 (.cells aa 30)).upd b8 (.cells z0 66)) := Mm.le_trans (Mm.le_upd' hn4 _) (Mm.le_trans (Mm.le_upd' hn6 _) (Mm.le_trans (Mm.le_upd' hn7 _) (Mm.le_upd' hn8 _)))
  have hb4 : ((((M.upd b4 (.cells ss 66)).upd b6 (.cells cc 27)).upd b7 (.cells aa 30)).upd b8 (.cells z0 66)) b4 = some (.cells ss 66) := (Mm.le_trans (Mm.le_upd' hn6 _) (Mm.le_trans (Mm.le_upd' hn7 _) (Mm.le_upd' hn8 _))) _ _ (Mm.upd_same _ _ _)
  have hb6 : ((((M.upd b4 (.cells ss 66)).upd b6 (.cells cc 27)).upd b7 (.cells aa 30)).upd b8 (.cells z0 66)) b6 = some (.cells cc 27) := (Mm.le_trans (Mm.le_upd' hn7 _) (Mm.le_upd' hn8 _)) _ _ (Mm.upd_same _ _ _)
  have hb7 : ((((M.upd b4 (.cells ss 66)).upd b6 (.cells cc 27)).upd b7 (.cells aa 30)).upd b8 (.cells z0 66)) b7 = some (.cells aa 30) := (Mm.le_upd' hn8 _) _ _ (Mm.upd_same _ _ _)
  have hb8 : ((((M.upd b4 (.cells ss 66)).upd b6 (.cells cc 27)).upd b7 (.cells aa 30)).upd b8 (.cells z0 66)) b8 = some (.cells z0 66) := (Mm.le_refl _) _ _ (Mm.upd_same _ _ _)
  have n_b4_b6 : b4 ≠ b6 := Mm.ne_of hn6 ((Mm.le_refl _) _ _ (Mm.upd_same _ _ _))
  have n_b4_b7 : b4 ≠ b7 := Mm.ne_of hn7 ((Mm.le_upd' hn6 _) _ _ (Mm.upd_same _ _ _))
  have n_b6_b7 : b6 ≠ b7 := Mm.ne_of hn7 ((Mm.le_refl _) _ _ (Mm.upd_same _ _ _))
  have n_b4_b8 : b4 ≠ b8 := Mm.ne_of hn8 ((Mm.le_trans (Mm.le_upd' hn6 _) (Mm.le_upd' hn7 _)) _ _ (Mm.upd_same _ _ _))
  have n_b6_b8 : b6 ≠ b8 := Mm.ne_of hn8 ((Mm.le_upd' hn7 _) _ _ (Mm.upd_same _ _ _))
  have n_b7_b8 : b7 ≠ b8 := Mm.ne_of hn8 ((Mm.le_refl _) _ _ (Mm.upd_same _ _ _))
  replace hn8 : M b8 = none := Mm.none_of (Mm.le_trans (Mm.le_upd' hn4 _) (Mm.le_trans (Mm.le_upd' hn6 _) (Mm.le_upd' hn7 _))) hn8
  replace hn7 : M b7 = none := Mm.none_of (Mm.le_trans (Mm.le_upd' hn4 _) (Mm.le_upd' hn6 _)) hn7
  replace hn6 : M b6 = none := Mm.none_of (Mm.le_upd' hn4 _) hn6
  replace hn4 : M b4 = none := Mm.none_of (Mm.le_refl _) hn4
  generalize ((((M.upd b4 (.cells ss 66)).upd b6 (.cells cc 27)).upd b7 (.cells aa 30)).upd b8 (.cells z0 66)) = M2 at h hle2 hb4 hb6 hb7 hb8
  have BA2 := Lib.hid (BA.out M2)
  have RE2 := Lib.hid (RE.out M2)
  have LV2 := Lib.hid (LV.out M2)
  have FI2 := Lib.hid (FI.out M2)
  refine wp_region_class (Has σ M2) (by kernel_rfl) (by kernel_rfl) h.drew ?_
  clear h
  repeat (first
    | go_big_quiet_skip
    | (go_big_quiet_want; first
      | (go_loud (refine quiet_agg_has 66 _ rfl rfl hb4 sx sz Tryz.underlying66 rfl (by kernel_rfl) ?_); simp only [Act.put, List.setIfInBounds_toArray, List.set_cons_zero, List.set_cons_succ]; go_big_quiet_on)
      | (go_loud (refine quiet_agg_has 27 _ rfl rfl hb6 cx cz Tryz.underlying27 rfl (by kernel_rfl) ?_); simp only [Act.put, List.setIfInBounds_toArray, List.set_cons_zero, List.set_cons_succ]; go_big_quiet_on)
      | (go_big_quiet_op; first | go_big_quiet_on | go_big_quiet_call (first | with_reducible exact fun _ => rfl | with_reducible exact BA2.out _ | with_reducible exact RE2.out _))))
  refine wpQuiet_nil ?_
  try clear w
  intro w h
  go_upto_region 4 with (fail)
  refine wp_region_class (Has σ M2) (by kernel_rfl) (by kernel_rfl) h.drew ?_
  clear h
  repeat (first
    | go_big_quiet_skip
    | (go_big_quiet_want; first
      | (go_loud (refine quiet_agg_has 38 _ rfl rfl hb4 sc oz Tryz.underlying38 rfl (by kernel_rfl) ?_); simp only [Act.put, List.setIfInBounds_toArray, List.set_cons_zero, List.set_cons_succ]; go_big_quiet_on)
      | (refine quiet_load_has 3 _ rfl rfl hb4 s14 Tryz.underlying3 rfl ?_; simp only [Act.put, List.setIfInBounds_toArray, List.set_cons_zero, List.set_cons_succ]; go_big_quiet_on)
      | (go_big_quiet_op; first | go_big_quiet_on | go_big_quiet_call (first | with_reducible exact fun _ => rfl | with_reducible exact LV2.out _))))
  refine wpQuiet_nil ?_
  try clear w
  intro w h
  go_upto_region 5 with (fail)
  refine wp_region_class (Has σ M2) (by kernel_rfl) (by kernel_rfl) h.drew ?_
  clear h
  repeat (first
    | go_big_quiet_skip
    | (go_big_quiet_want; first
      | (go_loud (refine quiet_agg_has 27 _ rfl rfl hb6 cx cz Tryz.underlying27 rfl (by kernel_rfl) ?_); simp only [Act.put, List.setIfInBounds_toArray, List.set_cons_zero, List.set_cons_succ]; go_big_quiet_on)
      | (go_loud (refine quiet_agg_has 30 _ rfl rfl hb7 ax az Tryz.underlying30 rfl (by kernel_rfl) ?_); simp only [Act.put, List.setIfInBounds_toArray, List.set_cons_zero, List.set_cons_succ]; go_big_quiet_on)
      | (go_big_quiet_op; first | go_big_quiet_on | go_big_quiet_call (first | with_reducible exact fun _ => rfl | with_reducible exact BA2.out _ | with_reducible exact FI2.out _))))
  refine wpQuiet_nil ?_
  try clear w
  intro w h
  go_upto_region 14 with (first
    | (with_reducible show wpList _ _ _ ({ dst := _, op := Op.load 28 _, type := _, pos := _, after := _, guard := _ } :: _) _ _; go_loud (refine wpList_load1_has h rfl 28 _ rfl rfl hb7 a0 Tryz.underlying28 rfl ?_))
    | (with_reducible show wpList _ _ _ ({ dst := _, op := Op.load 3 _, type := _, pos := _, after := _, guard := _ } :: _) _ _; go_loud (refine wpList_load1_has h rfl 3 _ rfl rfl hb6 c0 Tryz.underlying3 rfl ?_))
    | ((with_reducible show wpList _ _ _ ({ dst := _, op := Op.load 66 _, type := _, pos := _, after := _, guard := _ } :: _) _ _); go_loud (refine wpList_agg_has h rfl 66 _ rfl rfl hb4 sx sz Tryz.underlying66 rfl (by kernel_rfl) ?_); try simp only [Act.put, List.setIfInBounds_toArray, List.set_cons_zero, List.set_cons_succ])
    | ((with_reducible show wpList _ _ _ ({ dst := _, op := Op.load 27 _, type := _, pos := _, after := _, guard := _ } :: _) _ _); go_loud (refine wpList_agg_has h rfl 27 _ rfl rfl hb6 cx cz Tryz.underlying27 rfl (by kernel_rfl) ?_); try simp only [Act.put, List.setIfInBounds_toArray, List.set_cons_zero, List.set_cons_succ])
    | (with_reducible show wpList _ _ _ ({ dst := _, op := Op.load 23 _, type := _, pos := _, after := _, guard := _ } :: _) _ _; go_loud (refine wpList_load1_has h rfl 23 _ rfl rfl hb7 a3 Tryz.underlying23 rfl ?_))
    | (go_at_call 25; go_loud (refine (DO.out _ _ h).mono ?_); clear h; rintro _ w ⟨rfl, h⟩)
    | ((with_reducible show wpList _ _ _ ({ dst := some 12, op := Op.alloc 66, type := _, pos := _, after := _, guard := _ } :: _) _ _); go_loud (refine wpList_alloc_has h rfl 66 rfl _ zs ?_); clear h; intro b12 w h hn12; try simp only [Act.put, List.setIfInBounds_toArray, List.set_cons_zero, List.set_cons_succ])
    | ((with_reducible show wpList _ _ _ ({ dst := some 13, op := Op.alloc 30, type := _, pos := _, after := _, guard := _ } :: _) _ _); go_loud (refine wpList_alloc_has h rfl 30 rfl _ za ?_); clear h; intro b13 w h hn13; try simp only [Act.put, List.setIfInBounds_toArray, List.set_cons_zero, List.set_cons_succ])
    | ((with_reducible show wpList _ _ _ ({ dst := _, op := Op.store 66 _ _, type := _, pos := _, after := _, guard := _ } :: _) _ _); have hx12 := Mm.le_upd' hn13 (.cells a00 30) _ _ (Mm.upd_same M2 b12 (.cells z0 66)); refine wpList_storeAll_has (cells := ss) h rfl 66 _ _ rfl rfl rfl hx12 rfl z0z sz (by kernel_rfl) sO.out ?_; clear h; intro w h)
    | ((with_reducible show wpList _ _ _ ({ dst := _, op := Op.store 30 _ _, type := _, pos := _, after := _, guard := _ } :: _) _ _); have n12_13 : b12 ≠ b13 := (fun e => by subst e; rw [Mm.upd_same] at hn13; cases hn13); have hx13 := (Mm.upd_ne (o := .cells ss 66) (Ne.symm n12_13)).trans (Mm.upd_same (M2.upd b12 (.cells z0 66)) b13 (.cells a00 30)); refine wpList_storeAll_has (cells := aa) h rfl 30 _ _ rfl rfl rfl hx13 rfl aZ.out az (by kernel_rfl) aO.out ?_; clear h; intro w h))
  replace h : Has σ ((((M2.upd b12 (.cells z0 66)).upd b13 (.cells a00 30)).upd b12 (.cells ss 66)).upd b13 (.cells aa 30)) w := h
  replace hn13 : (M2.upd b12 (.cells z0 66)) b13 = none := hn13
  obtain ⟨hle5, hb12, hb13⟩ := Mm.again (o' := .cells a00 30) hn12 hn13 (.cells ss 66) (.cells aa 30)
  have hb75 := hle5 _ _ hb7
  have hb85 := hle5 _ _ hb8
  have hle6 := Mm.le_trans hle2 hle5
  clear hb4 hb6 hb7 hb8 hle5
  generalize (((M2.upd b12 (.cells z0 66)).upd b13 (.cells a00 30)).upd b12 (.cells ss 66)).upd b13 (.cells aa 30) = M6 at *
  go_wp2_with (first
    | ((with_reducible show wpList _ _ _ ({ dst := _, op := Op.load 30 _, type := _, pos := _, after := _, guard := _ } :: _) _ _); go_loud (refine wpList_agg_has h rfl 30 _ rfl rfl hb75 ax az Tryz.underlying30 rfl (by kernel_rfl) ?_); try simp only [Act.put, List.setIfInBounds_toArray, List.set_cons_zero, List.set_cons_succ])
    | ((with_reducible show wpList _ _ _ ({ dst := _, op := Op.load 30 _, type := _, pos := _, after := _, guard := _ } :: _) _ _); go_loud (refine wpList_agg_has h rfl 30 _ rfl rfl hb13 ax az Tryz.underlying30 rfl (by kernel_rfl) ?_); try simp only [Act.put, List.setIfInBounds_toArray, List.set_cons_zero, List.set_cons_succ])
    | ((with_reducible show wpList _ _ _ ({ dst := _, op := Op.load 66 _, type := _, pos := _, after := _, guard := _ } :: _) _ _); go_loud (refine wpList_agg_has h rfl 66 _ rfl rfl hb12 sx sz Tryz.underlying66 rfl (by kernel_rfl) ?_); try simp only [Act.put, List.setIfInBounds_toArray, List.set_cons_zero, List.set_cons_succ])
    | ((refine wpList_neq_flat rfl 30 _ _ _ rfl (xs := aa) (ys := aa) rfl rfl 10 (by omega) (ks := ansKs) (by kernel_rfl) rfl (by kernel_rfl) Tryz.underlying30 rfl (by kernel_rfl) FT.out FT.out ?_; rw [SM.out, Bool.not_true]))
    | ((with_reducible show wpList _ _ _ ({ dst := _, op := Op.store 66 _ _, type := _, pos := _, after := _, guard := _ } :: _) _ _); refine wpList_storeAll_has (cells := ss) h rfl 66 _ _ rfl rfl rfl hb85 rfl z0z sz (by kernel_rfl) sO.out ?_; clear h; intro w h))
  exact bodyPost_ret (results_ct rfl (CellRes.of h (Mm.upd_same _ _ _) rfl Tryz.underlying66 rfl (by rw [sz]; kernel_rfl))) rfl ⟨rfl, h.le (Mm.le_upd hle6 hn8 _)⟩
set_option maxHeartbeats 1000000 in
set_option maxRecDepth 20000 in
theorem dNew (h : Has σ M w) : Calls Tryz.prog 12 #[.agg oneR, .int .i64 0] w fun r w' => r = .returned (.agg sG) ∧ Has σ M w' := by
  have oz := oneR_size
  have ox : oneR.extract 0 (0 + 14) = oneR := rfl
  have zs := zST
  go_enter Tryz.func12, Tryz.ntmps12
  go_upto_region 1 with (first
    | ((with_reducible show wpList _ _ _ ({ dst := _, op := Op.box 38 _, type := _, pos := _, after := _, guard := _ } :: _) _ _); go_loud (refine wpList_box_has h rfl 38 _ rfl ?_); clear h; intro b2 w h hn2; try simp only [Act.put, List.setIfInBounds_toArray, List.set_cons_zero, List.set_cons_succ])
    | ((with_reducible show wpList _ _ _ ({ dst := some 4, op := Op.alloc 66, type := _, pos := _, after := _, guard := _ } :: _) _ _); go_loud (refine wpList_alloc_has h rfl 66 rfl _ zs ?_); clear h; intro b4 w h hn4; try simp only [Act.put, List.setIfInBounds_toArray, List.set_cons_zero, List.set_cons_succ]))
  replace hn2 : M b2 = none := hn2
  replace hn4 : (M.upd b2 (.cells oneR 38)) b4 = none := hn4
  replace h : Has σ ((M.upd b2 (.cells oneR 38)).upd b4 (.cells st0 66)) w := h
  have hle2 : M.le ((M.upd b2 (.cells oneR 38)).upd b4 (.cells st0 66)) := Mm.le_trans (Mm.le_upd' hn2 _) (Mm.le_upd' hn4 _)
  have hb2 : ((M.upd b2 (.cells oneR 38)).upd b4 (.cells st0 66)) b2 = some (.cells oneR 38) := (Mm.le_upd' hn4 _) _ _ (Mm.upd_same _ _ _)
  have hb4 : ((M.upd b2 (.cells oneR 38)).upd b4 (.cells st0 66)) b4 = some (.cells st0 66) := (Mm.le_refl _) _ _ (Mm.upd_same _ _ _)
  have n_b2_b4 : b2 ≠ b4 := Mm.ne_of hn4 ((Mm.le_refl _) _ _ (Mm.upd_same _ _ _))
  replace hn4 : M b4 = none := Mm.none_of (Mm.le_upd' hn2 _) hn4
  replace hn2 : M b2 = none := Mm.none_of (Mm.le_refl _) hn2
  generalize ((M.upd b2 (.cells oneR 38)).upd b4 (.cells st0 66)) = M2 at h hle2 hb2 hb4
  go_wp2_with (first
    | ((with_reducible show wpList _ _ _ ({ dst := _, op := Op.load 38 _, type := _, pos := _, after := _, guard := _ } :: _) _ _); go_loud (refine wpList_agg_has h rfl 38 _ rfl rfl hb2 ox oz Tryz.underlying38 rfl (by kernel_rfl) ?_); try simp only [Act.put, List.setIfInBounds_toArray, List.set_cons_zero, List.set_cons_succ])
    | ((refine wpList_build_has rfl 66 _ rfl sG (by kernel_rfl) ?_; try simp only [Act.put, List.setIfInBounds_toArray, List.set_cons_zero, List.set_cons_succ]))
    | ((refine wpList_storeAll_has (cells := sG) h rfl 66 _ _ rfl rfl rfl hb4 rfl st0_size sG_size (by kernel_rfl) sG_one ?_; clear h; intro w h)))
  exact bodyPost_ret (results_c1 rfl (CellRes.of h (Mm.upd_same _ _ _) rfl Tryz.underlying66 rfl (by rw [sG_size]; kernel_rfl))) rfl ⟨rfl, h.le (Mm.le_upd hle2 hn4 _)⟩
end
end
section
open Go.RowKit
set_option linter.unusedVariables false
set_option linter.unusedSimpArgs false
set_option linter.unnecessarySimpa false
theorem rangeI_at {n k : Nat} (h : k < n) : (rangeI n)[k]? = some (k : Int) := by
  unfold rangeI
  rw [List.getElem?_map, List.getElem?_range h]
  rfl
theorem rangeI_len (n : Nat) : (rangeI n).length = n := by unfold rangeI; simp
theorem gets_may {l : List OpS} {n : Nat} (hl : l.length = n) (hG : GetsN l) : MayO l (rangeI n) := by
  refine ⟨fun j x hj hx => ?_, fun i o ho => ⟨?_, fun j x y hx h0 hy ha => ?_⟩⟩
  · obtain ⟨h1, rfl⟩ := rangeI_get n j x hx
    have e := posO_range_lt n j h1
    refine ⟨by omega, by omega, by first | exact e | omega⟩
  · have hi := (List.getElem?_eq_some_iff.1 ho).1
    rw [posO_range_lt n i (by omega)]
    omega
  · have hi := (List.getElem?_eq_some_iff.1 ho).1
    obtain ⟨h1, rfl⟩ := rangeI_get n j x hx
    rw [posO_range_lt n i (by omega)]
    rw [hG i o ho, hG _ y hy] at ha
    unfold OpS.ahead opG at ha
    simp at ha
    omega
set_option maxHeartbeats 4000000 in
set_option maxRecDepth 20000 in
theorem dBehind {σ w : World} {M : Mm} (h : Has σ M w) (va vo : Value) (l : List OpS) (n : Nat) (hl : l.length = n) (hG : GetsN l) (ha : Rd M 16 va n (l.flatMap encO)) (ho : Rd M 1 vo n (ints1 (rangeI n))) (hn1 : n ≤ 1000) :
    Calls Tryz.prog 11 #[.agg sG, va, vo] w fun r w' => r = .returned (.tuple #[.agg sG, .bool true]) ∧ Has σ M w' := by
  have HA := Lib.hid ha
  have HO := Lib.hid ho
  have HL := Lib.hid hl
  have HG := Lib.hid hG
  obtain ⟨A, c, rfl⟩ := ha.form
  obtain ⟨B, d, rfl⟩ := ho.form
  clear ha ho hl hG
  have zs := zST
  have za := zans
  have z0z : st0.size = 63 := st0_size
  have aZ : Hid ((ansR 0 0 0 0 0 0).size = 6) := Lib.hid rfl
  have sO : Hid (sG.toList.all (·.oneCell') = true) := Lib.hid sG_one
  have aO : Hid (aG.toList.all (·.oneCell') = true) := Lib.hid rfl
  have sz := sG_size
  have sx := sG_all
  have cz := cG_size
  have az := aG_size
  have DS := Lib.hid (fun (M : Mm) (w : World) (h : Has σ M w) => dDoes h)
  have TD := Lib.hid (fun (M : Mm) (w : World) (h : Has σ M w) => dTold h)
  have RC : Hid (∀ k, (opG k).row.extract 1 (1 + 7) = cG) := Lib.hid fun k => rfl
  have RA : Hid (∀ k, (opG k).row.extract 8 (8 + 6) = aG) := Lib.hid fun k => rfl
  generalize cG = cc at *
  generalize aG = aa at *
  generalize sG = ss at *
  generalize st0 = z0 at *
  generalize ansR 0 0 0 0 0 0 = a00 at *
  go_enter Tryz.func11, Tryz.ntmps11
  go_upto_region 1 with (first
    | ((with_reducible show wpList _ _ _ ({ dst := _, op := Op.box 66 _, type := _, pos := _, after := _, guard := _ } :: _) _ _); go_loud (refine wpList_box_has h rfl 66 _ rfl ?_); clear h; intro b3 w h hn3; try simp only [Act.put, List.setIfInBounds_toArray, List.set_cons_zero, List.set_cons_succ])
    | ((with_reducible show wpList _ _ _ ({ dst := some 6, op := Op.alloc 66, type := _, pos := _, after := _, guard := _ } :: _) _ _); go_loud (refine wpList_alloc_has h rfl 66 rfl _ zs ?_); clear h; intro b6 w h hn6; try simp only [Act.put, List.setIfInBounds_toArray, List.set_cons_zero, List.set_cons_succ]))
  replace hn3 : M b3 = none := hn3
  replace hn6 : (M.upd b3 (.cells ss 66)) b6 = none := hn6
  replace h : Has σ ((M.upd b3 (.cells ss 66)).upd b6 (.cells z0 66)) w := h
  have hle2 : M.le ((M.upd b3 (.cells ss 66)).upd b6 (.cells z0 66)) := Mm.le_trans (Mm.le_upd' hn3 _) (Mm.le_upd' hn6 _)
  have hb3 : ((M.upd b3 (.cells ss 66)).upd b6 (.cells z0 66)) b3 = some (.cells ss 66) := (Mm.le_upd' hn6 _) _ _ (Mm.upd_same _ _ _)
  have hb6 : ((M.upd b3 (.cells ss 66)).upd b6 (.cells z0 66)) b6 = some (.cells z0 66) := (Mm.le_refl _) _ _ (Mm.upd_same _ _ _)
  have n_b3_b6 : b3 ≠ b6 := Mm.ne_of hn6 ((Mm.le_refl _) _ _ (Mm.upd_same _ _ _))
  replace hn6 : M b6 = none := Mm.none_of (Mm.le_upd' hn3 _) hn6
  replace hn3 : M b3 = none := Mm.none_of (Mm.le_refl _) hn3
  generalize ((M.upd b3 (.cells ss 66)).upd b6 (.cells z0 66)) = M2 at h hle2 hb3 hb6
  go_upto_region 2 with (first
    | ((with_reducible show wpList _ _ _ ({ dst := _, op := Op.load 66 _, type := _, pos := _, after := _, guard := _ } :: _) _ _); go_loud (refine wpList_agg_has h rfl 66 _ rfl rfl hb3 sx sz Tryz.underlying66 rfl (by kernel_rfl) ?_); try simp only [Act.put, List.setIfInBounds_toArray, List.set_cons_zero, List.set_cons_succ])
    | ((with_reducible show wpList _ _ _ ({ dst := some 8, op := Op.alloc 66, type := _, pos := _, after := _, guard := _ } :: _) _ _); go_loud (refine wpList_alloc_has h rfl 66 rfl _ zs ?_); clear h; intro b8 w h hn8; try simp only [Act.put, List.setIfInBounds_toArray, List.set_cons_zero, List.set_cons_succ])
    | ((with_reducible show wpList _ _ _ ({ dst := _, op := Op.store 66 _ _, type := _, pos := _, after := _, guard := _ } :: _) _ _); refine wpList_storeAll_has (cells := ss) h rfl 66 _ _ rfl rfl rfl (Mm.upd_same _ _ _) rfl z0z sz (by kernel_rfl) sO.out ?_; clear h; intro w h))
  rw [Mm.upd_upd] at h
  have hle3 := Mm.le_upd' hn8 (.cells ss 66)
  have hb8 := Mm.upd_same M2 b8 (.cells ss 66)
  have hb33 := hle3 _ _ hb3
  have hb63 := hle3 _ _ hb6
  have hleA := Mm.le_trans hle2 hle3
  clear hb3 hb6 hn8 hle2 hle3
  generalize M2.upd b8 (.cells ss 66) = M3 at *
  have e8 : Hid (M3.upd b8 (.cells ss 66) = M3) := Lib.hid (funext fun x => by unfold Mm.upd; split <;> simp_all)
  go_wp2
  go_loopw [9] (fun i wr => ∃ k : Nat, k ≤ n ∧ i = .int .i64 (k : Nat) ∧ Has σ M3 wr) (fun i _ => n - (intOf i).toNat)
  case atStart => exact ⟨0, Nat.zero_le _, rfl, h⟩
  case round =>
    clear h w
    obtain ⟨w, rfl⟩ : ∃ x : World, x = wr := ⟨_, rfl⟩
    obtain ⟨k, hk, rfl, h⟩ := hrel
    by_cases hlt : k < n
    · have hlt' : (k : Int) < (n : Int) := by omega
      have hy : l[k]? = some (opG k) := by
        have := List.getElem?_eq_getElem (l := l) (i := k) (by have := HL.out; omega)
        rw [this, HG.out k _ this]
      obtain ⟨_, B', d', e, hd, hB⟩ := HO.out
      cases e
      obtain ⟨b1, o1, cs1, t1, f1, rfl, hO1, hx1⟩ := hB (by omega)
      have e1 := hx1 k (.int .i64 (k : Int)) (by simp [ints1, rangeI_at hlt])
      obtain ⟨bl, ol, cl, csl, tl, fl, e2, hMl, hxl⟩ := HA.out.elem encO_len hlt hy
      cases e2
      have hO2 := hleA _ _ hO1
      have hMl2 := hleA _ _ hMl
      have g16 : csl.extract (ol + k * 16) (ol + k * 16 + 16) = (opG k).row := extract_of (n := 16) hxl rfl
      have d0 : decide ((k : Int) < 0) = false := decide_eq_false (by omega)
      have d1 : decide ((n : Int) ≤ (k : Int)) = false := decide_eq_false (by omega)
      have d2 : decide (n ≤ k) = false := decide_eq_false (by omega)
      have wk : IntKind.i64.wrap ((k : Int) + 1) = ((k + 1 : Nat) : Int) := by rw [show (k : Int) + 1 = ((k + 1 : Nat) : Int) by omega]; exact IntWalk.i64_in _ (by omega)
      clear hB hx1 hxl hO1 hMl hy
      have v15 : (opG k).row[15]? = some (.int .i64 (2 * (k : Int) + 1)) := rfl
      have g15 : decide ((0 : Int) ≤ 2 * (k : Int) + 1) = true := decide_eq_true (by omega)
      have v0 : (opG k).row[0]? = some (.int .i64 0) := rfl
      have vc := RC.out k
      have va := RA.out k
      generalize (2 * (k : Int) + 1) = tt at *
      have hyz : (opG k).row.size = 16 := rfl
      have YO : Hid ((opG k).row.toList.all (·.oneCell') = true) := Lib.hid rfl
      generalize (opG k).row = yr at *
      have zo := zoper
      have oz0 : (OpS.row ⟨0, 0, 0, 0, 0, 0, 0, 0, 0, 0, 0, 0, 0, 0, 0, 0⟩).size = 16 := rfl
      generalize (OpS.row ⟨0, 0, 0, 0, 0, 0, 0, 0, 0, 0, 0, 0, 0, 0, 0, 0⟩) = zr at *
      go_upto_region 7 with (first
        | (with_reducible show wpList _ _ _ ({ dst := _, op := Op.load 3 _, type := _, pos := _, after := _, guard := _ } :: _) _ _; go_loud (refine wpList_load1_has h rfl 3 _ rfl rfl hO2 e1 Tryz.underlying3 rfl ?_)))
      go_upto_region 8 with (first
        | (with_reducible show wpList _ _ _ ({ dst := _, op := Op.load 3 _, type := _, pos := _, after := _, guard := _ } :: _) _ _; go_loud (refine wpList_load1_has h rfl 3 _ rfl rfl hO2 e1 Tryz.underlying3 rfl ?_))
        | ((with_reducible show wpList _ _ _ ({ dst := _, op := Op.load 32 _, type := _, pos := _, after := _, guard := _ } :: _) _ _); go_loud (refine wpList_agg_has h rfl 32 _ rfl rfl hMl2 g16 hyz Tryz.underlying32 rfl (by kernel_rfl) ?_); try simp only [Act.put, List.setIfInBounds_toArray, List.set_cons_zero, List.set_cons_succ])
        | ((with_reducible show wpList _ _ _ ({ dst := _, op := Op.alloc 32, type := _, pos := _, after := _, guard := _ } :: _) _ _); go_loud (refine wpList_alloc_has h rfl 32 rfl _ zo ?_); clear h; intro b10 w h hn10; try simp only [Act.put, List.setIfInBounds_toArray, List.set_cons_zero, List.set_cons_succ])
        | ((with_reducible show wpList _ _ _ ({ dst := _, op := Op.store 32 _ _, type := _, pos := _, after := _, guard := _ } :: _) _ _); refine wpList_storeAll_has (cells := yr) h rfl 32 _ _ rfl rfl rfl (Mm.upd_same _ _ _) rfl oz0 hyz (by kernel_rfl) YO.out ?_; clear h; intro w h))
      rw [Mm.upd_upd] at h
      have hb10 := Mm.upd_same M3 b10 (.cells yr 32)
      have hl10 := Mm.le_upd' hn10 (.cells yr 32)
      have hb84 := hl10 _ _ hb8
      clear hO2 hMl2 hn10 g16
      generalize M3.upd b10 (.cells yr 32) = M4 at *
      go_upto_region 9 with (first
        | (with_reducible show wpList _ _ _ ({ dst := _, op := Op.load 3 _, type := _, pos := _, after := _, guard := _ } :: _) _ _; go_loud (refine wpList_load1_has h rfl 3 _ rfl rfl hb10 v0 Tryz.underlying3 rfl ?_))
        | ((with_reducible show wpList _ _ _ ({ dst := _, op := Op.load 66 _, type := _, pos := _, after := _, guard := _ } :: _) _ _); go_loud (refine wpList_agg_has h rfl 66 _ rfl rfl hb84 sx sz Tryz.underlying66 rfl (by kernel_rfl) ?_); try simp only [Act.put, List.setIfInBounds_toArray, List.set_cons_zero, List.set_cons_succ])
        | ((with_reducible show wpList _ _ _ ({ dst := _, op := Op.load 27 _, type := _, pos := _, after := _, guard := _ } :: _) _ _); go_loud (refine wpList_agg_has h rfl 27 _ rfl rfl hb10 vc cz Tryz.underlying27 rfl (by kernel_rfl) ?_); try simp only [Act.put, List.setIfInBounds_toArray, List.set_cons_zero, List.set_cons_succ])
        | (go_at_call 16; go_loud (refine (DS.out _ _ h).mono ?_); clear h; rintro _ w ⟨rfl, h⟩)
        | ((with_reducible show wpList _ _ _ ({ dst := some 11, op := Op.alloc 66, type := _, pos := _, after := _, guard := _ } :: _) _ _); go_loud (refine wpList_alloc_has h rfl 66 rfl _ zs ?_); clear h; intro b11 w h hn11; try simp only [Act.put, List.setIfInBounds_toArray, List.set_cons_zero, List.set_cons_succ])
        | ((with_reducible show wpList _ _ _ ({ dst := some 12, op := Op.alloc 30, type := _, pos := _, after := _, guard := _ } :: _) _ _); go_loud (refine wpList_alloc_has h rfl 30 rfl _ za ?_); clear h; intro b12 w h hn12; try simp only [Act.put, List.setIfInBounds_toArray, List.set_cons_zero, List.set_cons_succ])
        | ((with_reducible show wpList _ _ _ ({ dst := _, op := Op.store 66 _ _, type := _, pos := _, after := _, guard := _ } :: _) _ _); have hx11 := Mm.le_upd' hn12 (.cells a00 30) _ _ (Mm.upd_same M4 b11 (.cells z0 66)); refine wpList_storeAll_has (cells := ss) h rfl 66 _ _ rfl rfl rfl hx11 rfl z0z sz (by kernel_rfl) sO.out ?_; clear h; intro w h)
        | ((with_reducible show wpList _ _ _ ({ dst := _, op := Op.store 30 _ _, type := _, pos := _, after := _, guard := _ } :: _) _ _); have n11_12 : b11 ≠ b12 := (fun e => by subst e; rw [Mm.upd_same] at hn12; cases hn12); have hx12 := (Mm.upd_ne (o := .cells ss 66) (Ne.symm n11_12)).trans (Mm.upd_same (M4.upd b11 (.cells z0 66)) b12 (.cells a00 30)); refine wpList_storeAll_has (cells := aa) h rfl 30 _ _ rfl rfl rfl hx12 rfl aZ.out az (by kernel_rfl) aO.out ?_; clear h; intro w h))
      replace h : Has σ ((((M4.upd b11 (.cells z0 66)).upd b12 (.cells a00 30)).upd b11 (.cells ss 66)).upd b12 (.cells aa 30)) w := h
      replace hn12 : (M4.upd b11 (.cells z0 66)) b12 = none := hn12
      obtain ⟨hle5, hb11, hb12⟩ := Mm.again (o' := .cells a00 30) hn11 hn12 (.cells ss 66) (.cells aa 30)
      have hb106 := hle5 _ _ hb10
      have hb86 := hle5 _ _ hb84
      have hle6 := Mm.le_trans hl10 hle5
      clear hb10 hb84 hle5 hl10 hn11 hn12 hb12
      generalize (((M4.upd b11 (.cells z0 66)).upd b12 (.cells a00 30)).upd b11 (.cells ss 66)).upd b12 (.cells aa 30) = M6 at *
      have e11 : Hid (M6.upd b11 (.cells ss 66) = M6) := Lib.hid (funext fun x => by unfold Mm.upd; split <;> simp_all)
      have e86 : Hid (M6.upd b8 (.cells ss 66) = M6) := Lib.hid (funext fun x => by unfold Mm.upd; split <;> simp_all)
      go_upto_region 12 with (first
        | (with_reducible show wpList _ _ _ ({ dst := _, op := Op.load 3 _, type := _, pos := _, after := _, guard := _ } :: _) _ _; go_loud (refine wpList_load1_has h rfl 3 _ rfl rfl hb106 v15 Tryz.underlying3 rfl ?_))
        | (with_reducible show wpList _ _ _ ({ dst := _, op := Op.load 3 _, type := _, pos := _, after := _, guard := _ } :: _) _ _; go_loud (refine wpList_load1_has h rfl 3 _ rfl rfl hb106 v0 Tryz.underlying3 rfl ?_))
        | ((with_reducible show wpList _ _ _ ({ dst := _, op := Op.load 66 _, type := _, pos := _, after := _, guard := _ } :: _) _ _); go_loud (refine wpList_agg_has h rfl 66 _ rfl rfl hb86 sx sz Tryz.underlying66 rfl (by kernel_rfl) ?_); try simp only [Act.put, List.setIfInBounds_toArray, List.set_cons_zero, List.set_cons_succ])
        | ((with_reducible show wpList _ _ _ ({ dst := _, op := Op.load 27 _, type := _, pos := _, after := _, guard := _ } :: _) _ _); go_loud (refine wpList_agg_has h rfl 27 _ rfl rfl hb106 vc cz Tryz.underlying27 rfl (by kernel_rfl) ?_); try simp only [Act.put, List.setIfInBounds_toArray, List.set_cons_zero, List.set_cons_succ])
        | ((with_reducible show wpList _ _ _ ({ dst := _, op := Op.load 30 _, type := _, pos := _, after := _, guard := _ } :: _) _ _); go_loud (refine wpList_agg_has h rfl 30 _ rfl rfl hb106 va az Tryz.underlying30 rfl (by kernel_rfl) ?_); try simp only [Act.put, List.setIfInBounds_toArray, List.set_cons_zero, List.set_cons_succ])
        | (go_at_call 17; go_loud (refine (TD.out _ _ h).mono ?_); clear h; rintro _ w ⟨rfl, h⟩)
        | ((with_reducible show wpList _ _ _ ({ dst := _, op := Op.store 66 _ _, type := _, pos := _, after := _, guard := _ } :: _) _ _); refine wpList_storeAll_has (cells := ss) h rfl 66 _ _ rfl rfl rfl hb11 rfl sz sz (by kernel_rfl) sO.out ?_; clear h; intro w h))
      rw [e11.out] at h
      go_upto_region 14 with (first
        | ((with_reducible show wpList _ _ _ ({ dst := _, op := Op.load 66 _, type := _, pos := _, after := _, guard := _ } :: _) _ _); go_loud (refine wpList_agg_has h rfl 66 _ rfl rfl hb11 sx sz Tryz.underlying66 rfl (by kernel_rfl) ?_); try simp only [Act.put, List.setIfInBounds_toArray, List.set_cons_zero, List.set_cons_succ]))
      go_wp2_with (first
        | ((with_reducible show wpList _ _ _ ({ dst := _, op := Op.load 66 _, type := _, pos := _, after := _, guard := _ } :: _) _ _); go_loud (refine wpList_agg_has h rfl 66 _ rfl rfl hb11 sx sz Tryz.underlying66 rfl (by kernel_rfl) ?_); try simp only [Act.put, List.setIfInBounds_toArray, List.set_cons_zero, List.set_cons_succ])
        | ((with_reducible show wpList _ _ _ ({ dst := _, op := Op.store 66 _ _, type := _, pos := _, after := _, guard := _ } :: _) _ _); refine wpList_storeAll_has (cells := ss) h rfl 66 _ _ rfl rfl rfl hb86 rfl sz sz (by kernel_rfl) sO.out ?_; clear h; intro w h))
      rw [e86.out] at h
      replace h := h.le hle6
      go_roundw
      case rel => exact ⟨k + 1, hlt, by go_num, h⟩
      case measure => simp [intOf]; omega
    · obtain rfl : k = n := by omega
      go_upto_region 15 with (fail)
      go_wp2_with (first
        | ((with_reducible show wpList _ _ _ ({ dst := _, op := Op.load 66 _, type := _, pos := _, after := _, guard := _ } :: _) _ _); go_loud (refine wpList_agg_has h rfl 66 _ rfl rfl hb8 sx sz Tryz.underlying66 rfl (by kernel_rfl) ?_); try simp only [Act.put, List.setIfInBounds_toArray, List.set_cons_zero, List.set_cons_succ])
        | ((with_reducible show wpList _ _ _ ({ dst := _, op := Op.store 66 _ _, type := _, pos := _, after := _, guard := _ } :: _) _ _); refine wpList_storeAll_has (cells := ss) h rfl 66 _ _ rfl rfl rfl hb63 rfl z0z sz (by kernel_rfl) sO.out ?_; clear h; intro w h))
      exact bodyPost_ret (results_ct rfl (CellRes.of h (Mm.upd_same _ _ _) rfl Tryz.underlying66 rfl (by rw [sz]; kernel_rfl))) rfl ⟨rfl, h.le (Mm.le_upd hleA hn6 _)⟩
set_option maxHeartbeats 1000000 in
set_option maxRecDepth 20000 in
theorem dExplains {σ w : World} {M : Mm} (h : Has σ M w) (va vo : Value) (l : List OpS) (n : Nat) (hl : l.length = n) (hG : GetsN l) (ha : Rd M 16 va n (l.flatMap encO)) (ho : Rd M 1 vo n (ints1 (rangeI n))) (hn1 : n ≤ 1000) :
    Calls Tryz.prog 8 #[.agg oneR, .int .i64 0, va, vo] w fun r w' => r = .returned (.bool true) ∧ Has σ M w' := by
  have NW := Lib.hid (fun (M : Mm) (w : World) (h : Has σ M w) => dNew h)
  have BE := Lib.hid (fun (M' : Mm) (w : World) (hle : M.le M') (h : Has σ M' w) => dBehind h va vo l n hl hG (ha.le hle) (ho.le hle) hn1)
  have MY := Lib.hid (fun (M' : Mm) (w : World) (hle : M.le M') (h : Has σ M' w) => refMay_eq h va vo l (rangeI n) n n hl (rangeI_len n) (ha.le hle) (ho.le hle) (by omega) (by omega))
  have ME := Lib.hid (gets_may hl hG)
  have zs := zST
  have z0z : st0.size = 63 := st0_size
  have sO : Hid (sG.toList.all (·.oneCell') = true) := Lib.hid sG_one
  have sz := sG_size
  have oz := oneR_size
  have ox : oneR.extract 0 (0 + 14) = oneR := rfl
  clear ha ho hl hG hn1
  generalize oneR = oc at *
  generalize sG = ss at *
  generalize st0 = z0 at *
  go_enter Tryz.func8, Tryz.ntmps8
  go_upto_region 1 with (first
    | ((with_reducible show wpList _ _ _ ({ dst := _, op := Op.box 38 _, type := _, pos := _, after := _, guard := _ } :: _) _ _); go_loud (refine wpList_box_has h rfl 38 _ rfl ?_); clear h; intro b4 w h hn4; try simp only [Act.put, List.setIfInBounds_toArray, List.set_cons_zero, List.set_cons_succ]))
  replace hn4 : M b4 = none := hn4
  replace h : Has σ (M.upd b4 (.cells oc 38)) w := h
  have hle2 : M.le (M.upd b4 (.cells oc 38)) := Mm.le_upd' hn4 _
  have hb4 : (M.upd b4 (.cells oc 38)) b4 = some (.cells oc 38) := (Mm.le_refl _) _ _ (Mm.upd_same _ _ _)
  replace hn4 : M b4 = none := Mm.none_of (Mm.le_refl _) hn4
  generalize (M.upd b4 (.cells oc 38)) = M2 at h hle2 hb4
  go_upto_region 2 with (first
    | ((with_reducible show wpList _ _ _ ({ dst := _, op := Op.load 38 _, type := _, pos := _, after := _, guard := _ } :: _) _ _); go_loud (refine wpList_agg_has h rfl 38 _ rfl rfl hb4 ox oz Tryz.underlying38 rfl (by kernel_rfl) ?_); try simp only [Act.put, List.setIfInBounds_toArray, List.set_cons_zero, List.set_cons_succ])
    | (go_at_call 12; go_loud (refine (NW.out _ _ h).mono ?_); clear h; rintro _ w ⟨rfl, h⟩)
    | (go_at_call 11; go_loud (refine (BE.out _ _ hle2 h).mono ?_); clear h; rintro _ w ⟨rfl, h⟩)
    | ((with_reducible show wpList _ _ _ ({ dst := some 9, op := Op.alloc 66, type := _, pos := _, after := _, guard := _ } :: _) _ _); go_loud (refine wpList_alloc_has h rfl 66 rfl _ zs ?_); clear h; intro b9 w h hn9; try simp only [Act.put, List.setIfInBounds_toArray, List.set_cons_zero, List.set_cons_succ])
    | ((with_reducible show wpList _ _ _ ({ dst := _, op := Op.store 66 _ _, type := _, pos := _, after := _, guard := _ } :: _) _ _); refine wpList_storeAll_has (cells := ss) h rfl 66 _ _ rfl rfl rfl (Mm.upd_same _ _ _) rfl z0z sz (by kernel_rfl) sO.out ?_; clear h; intro w h))
  rw [Mm.upd_upd] at h
  replace h := h.le (Mm.le_upd' hn9 _)
  go_wp2_with (first
    | (go_at_call 13; go_loud (refine (MY.out _ _ hle2 h).mono ?_); clear h; rintro _ w ⟨b, rfl, hb, h⟩))
  go_ret
  exact ⟨by rw [hb.2 ME.out]; rfl, h.le hle2⟩
end
section
open Go.RowKit
set_option linter.unusedVariables false
set_option linter.unusedSimpArgs false
set_option linter.unnecessarySimpa false
def oZ : OpS := ⟨0, 0, 0, 0, 0, 0, 0, 0, 0, 0, 0, 0, 0, 0, 0, 0⟩
theorem made_opers (n : Nat) : madeCells oZ.row (n * 16) = ((List.replicate n oZ).flatMap encO).toArray := by
  apply Array.ext_getElem?
  intro i
  unfold madeCells
  by_cases hi : i < n * 16
  · have hk : i / 16 < n := by omega
    have e : i = i / 16 * 16 + i % 16 := by omega
    have hL : ((List.replicate n oZ).flatMap encO)[i / 16 * 16 + i % 16]? = (encO oZ)[i % 16]? := flat_get encO_len _ _ _ (by rw [List.getElem?_replicate, if_pos hk]) (i % 16) (by omega)
    rw [← e] at hL
    have hL2 : ((List.replicate n oZ).flatMap encO).toArray[i]? = (encO oZ)[i % 16]? := by rw [← Array.getElem?_toList]; exact hL
    rw [hL2, Array.getElem?_map, Array.getElem?_range, if_pos hi, Option.map_some]
    show some (oZ.row[i % 16]!) = (oZ.row.toList)[i % 16]?
    have hm : i % 16 < 16 := by omega
    generalize i % 16 = j at hm
    rcases (show j = 0 ∨ j = 1 ∨ j = 2 ∨ j = 3 ∨ j = 4 ∨ j = 5 ∨ j = 6 ∨ j = 7 ∨ j = 8 ∨ j = 9 ∨ j = 10 ∨ j = 11 ∨ j = 12 ∨ j = 13 ∨ j = 14 ∨ j = 15 by omega) with h | h | h | h | h | h | h | h | h | h | h | h | h | h | h | h <;> (subst h; rfl)
  · rw [Array.getElem?_eq_none (by simp; omega), Array.getElem?_eq_none (by rw [List.size_toArray, flat_length encO_len]; simp; omega)]
theorem mk_opers (N : Nat) (h : N ≤ 1000) (W : World) : (Instr.makeSlice 22 (.int .i64 N) (.int .i64 N)).run Tryz.prog W = .ok (.slice (some ⟨W.heap.size, 0, none⟩) N N) (W.alloc (.cells ((List.replicate N oZ).flatMap encO).toArray 32)) := by
  obtain ⟨i, hi, he⟩ := Option.map_eq_some_iff.1 info_op17
  simp only [Prod.mk.injEq] at he
  obtain ⟨h1, h2, h3⟩ := he
  rw [run_makeSlice W 22 32 i (.agg oZ.row) Tryz.underlying22 hi h1 .i64 .i64 N N (by omega) (by omega) (by rw [h2, Int.toNat_natCast]; omega) (by rw [h3]; omega) (by omega), Int.toNat_natCast, h2]
  show Result.ok _ (W.alloc (.cells (madeCells oZ.row (N * 16)) 32)) = _
  rw [made_opers N]
set_option maxHeartbeats 4000000 in
set_option maxRecDepth 20000 in
theorem orderMany_eq {σ w : World} {M : Mm} (h : Has σ M w) (n : Nat) (hn : n < 256) : Calls Tryz.prog 3 #[.int .u8 (n : Nat)] w fun r w' => r = .returned (.bool true) ∧ Has σ M w' := by
  have MK := mk_opers n (by omega)
  have wn : IntKind.i64.wrap ((n : Nat) : Int) = (n : Int) := IntWalk.i64_in _ (by omega)
  go_enter Tryz.func3, Tryz.ntmps3
  go_upto_region 2 with (fail)
  obtain ⟨M1, hbx, hle1, hb1, hn1⟩ := h.box (.cells ((List.replicate n oZ).flatMap encO).toArray 32)
  generalize w.alloc _ = wx at hbx ⊢
  generalize w.heap.size = b at hb1 hn1 ⊢
  clear h
  try clear w
  have h := hbx
  clear hbx
  obtain ⟨w, rfl⟩ : ∃ x : World, x = wx := ⟨_, rfl⟩
  have hown0 : Own M M1 32 16 (.slice (some ⟨b, 0, none⟩) n n) n ((List.replicate n oZ).flatMap encO) := ⟨by rw [flat_length encO_len]; simp, .inr ⟨b, n, _, rfl, hn1, hb1, Nat.le_refl _, by unfold maxLen; omega, by rw [List.size_toArray, flat_length encO_len]; simp, by rw [List.take_of_length_le (by rw [flat_length encO_len]; simp)]⟩⟩
  clear MK hb1 hn1
  go_wp2_with (fail)
  go_loopw [4] (fun i wr => ∃ (k : Nat) (M' : Mm) (L : List OpS), k ≤ n ∧ i = .int .i64 (k : Nat) ∧ Has σ M' wr ∧ M.le M' ∧ L.length = n ∧ (∀ (j : Nat) (y : OpS), j < k → L[j]? = some y → y = opG j) ∧ Own M M' 32 16 (.slice (some ⟨b, 0, none⟩) n n) n (L.flatMap encO)) (fun i _ => n - (intOf i).toNat)
  case atStart => exact ⟨0, M1, _, Nat.zero_le _, rfl, h, hle1, by simp, fun j y hj => absurd hj (Nat.not_lt_zero _), hown0⟩
  case round =>
    clear h w hle1 hown0
    obtain ⟨w, rfl⟩ : ∃ x : World, x = wr := ⟨_, rfl⟩
    obtain ⟨k, M2, L, hk, rfl, h, hle, hL, hG, hown⟩ := hrel
    by_cases hlt : k < n
    · have hlt' : (k : Int) < (n : Int) := by omega
      have w1 : IntKind.i64.wrap (2 * (k : Int)) = 2 * (k : Int) := IntWalk.i64_in _ (by omega)
      have w2 : IntKind.i64.wrap (2 * (k : Int) + 1) = 2 * (k : Int) + 1 := IntWalk.i64_in _ (by omega)
      have wk : IntKind.i64.wrap ((k : Int) + 1) = ((k + 1 : Nat) : Int) := by rw [show (k : Int) + 1 = ((k + 1 : Nat) : Int) by omega]; exact IntWalk.i64_in _ (by omega)
      have OO : Hid (∀ u ∈ encO (opG k), u.oneCell' = true) := Lib.hid (List.all_eq_true.1 (rfl : (encO (opG k)).all (·.oneCell') = true))
      have HG := Lib.hid hG
      have HL := Lib.hid hL
      clear hG
      go_upto_region 4 with (first
        | ((with_reducible show wpList _ _ _ ({ dst := some 18, op := Op.build 27 _, type := _, pos := _, after := _, guard := _ } :: _) _ _); (refine wpList_build_has rfl 27 _ rfl cG (by kernel_rfl) ?_; try simp only [Act.put, List.setIfInBounds_toArray, List.set_cons_zero, List.set_cons_succ]))
        | ((with_reducible show wpList _ _ _ ({ dst := some 19, op := Op.build 30 _, type := _, pos := _, after := _, guard := _ } :: _) _ _); (refine wpList_build_has rfl 30 _ rfl aG (by kernel_rfl) ?_; try simp only [Act.put, List.setIfInBounds_toArray, List.set_cons_zero, List.set_cons_succ]))
        | ((with_reducible show wpList _ _ _ ({ dst := some 25, op := Op.build 32 _, type := _, pos := _, after := _, guard := _ } :: _) _ _); (refine wpList_build_has rfl 32 _ rfl (opG k).row (by kernel_rfl) ?_; try simp only [Act.put, List.setIfInBounds_toArray, List.set_cons_zero, List.set_cons_succ]))
        | ((with_reducible show wpList _ _ _ ({ dst := _, op := Op.store 32 _ _, type := _, pos := _, after := _, guard := _ } :: _) _ _); (refine wpList_putRow encO_len h hle hown hL rfl 32 _ _ rfl rfl (k := k) (by first | rfl | (show Value.pointer _ = Value.pointer _; simp)) rfl hlt (opG k) rfl OO.out (by kernel_rfl) ?_; clear h hle hown; intro w M3 h hle hown)))
      go_wp2
      go_roundw
      case rel => exact ⟨k + 1, M3, L.set k (opG k), hlt, by first | rfl | go_num, h, hle, by rw [List.length_set]; exact HL.out, fun j y hj hy => by
        rw [List.getElem?_set] at hy
        by_cases e : k = j
        · subst e; rw [if_pos rfl] at hy; split at hy
          · exact (Option.some.inj hy).symm
          · cases hy
        · rw [if_neg e] at hy
          exact HG.out j y (by omega) hy, hown⟩
      case measure => simp [intOf]; omega
    · obtain rfl : k = n := by omega
      have GE : Hid (GetsN L) := Lib.hid fun i y hy => hG i y (by have := (List.getElem?_eq_some_iff.1 hy).1; omega) hy
      have HR := Lib.hid hown.rd
      have HL := Lib.hid hL
      clear hG hown hL
      have ON := Lib.hid (fun (M : Mm) (w : World) (h : Has σ M w) => one17_eq h)
      have LI := Lib.hid (fun (M : Mm) (w : World) (h : Has σ M w) => lives17_eq h)
      by_cases hm : 40 < k
      · have hgt : decide (40 < (k : Int)) = true := decide_eq_true (by omega)
        have FD := Lib.hid (fun (M : Mm) (w : World) (h : Has σ M w) => find_many (A := some ⟨b, 0, none⟩) (c := k) h hm (by omega))
        have TR := Lib.hid (fun (M : Mm) (w : World) (h : Has σ M w) => tries_many (A := some ⟨b, 0, none⟩) (c := k) h hm (by omega))
        clear hm
        generalize oneR = oc at *
        generalize hns : nilS = ns at *
        have HNS := Lib.hid hns
        go_upto_region 7 with (first
          | (go_at_call 5; go_loud (refine (ON.out _ _ h).mono ?_); clear h; rintro _ w ⟨rfl, h⟩)
          | (go_at_call 4; go_loud (refine (FD.out _ _ h).mono ?_); clear h; rintro _ w ⟨rfl, h⟩))
        subst hns
        go_wp2_with (first
          | (go_at_call 5; go_loud (refine (ON.out _ _ h).mono ?_); clear h; rintro _ w ⟨rfl, h⟩)
          | (go_at_call 6; go_loud (refine (TR.out _ _ h).mono ?_); clear h; rintro _ w ⟨rfl, h⟩)
          | (go_at_call 7; go_loud (refine (LI.out _ _ h).mono ?_); clear h; rintro _ w ⟨rfl, h⟩))
        go_ret
        exact ⟨rfl, h.le hle⟩
      · have hgt : decide (40 < (k : Int)) = false := decide_eq_false (by omega)
        have hkk : ((k : Int) == (k : Int)) = true := by simp
        have FD := Lib.hid (fun (w : World) (h : Has σ M2 w) => find_gets h HL.out (by omega) HR.out GE.out)
        have DE : Hid (∀ (M3 : Mm) (A : Option Addr) (c : Nat) (w : World), M2.le M3 → Has σ M3 w → Own M2 M3 3 1 (.slice A k c) k (ints1 (rangeI k)) → Calls Tryz.prog 8 #[.agg oneR, .int .i64 0, .slice (some ⟨b, 0, none⟩) k k, .slice A k c] w fun r w' => r = .returned (.bool true) ∧ Has σ M3 w') := Lib.hid fun M3 A c w hl h ho => dExplains h _ _ L k HL.out GE.out (HR.out.le hl) ho.rd (by omega)
        clear hm
        generalize oneR = oc at *
        go_upto_region 7 with (first
          | (go_at_call 5; go_loud (refine (ON.out _ _ h).mono ?_); clear h; rintro _ w ⟨rfl, h⟩)
          | (go_at_call 4; go_loud (refine (FD.out _ h).mono ?_); clear h; rintro _ w ⟨A, c, M3, rfl, h, hle3, hown3⟩))
        have DE3 := Lib.hid (fun (w : World) (h : Has σ M3 w) => DE.out M3 A c w hle3 h hown3)
        have hleF := Mm.le_trans hle hle3
        clear hown3 hle3 hle
        go_wp2_with (first
          | (go_at_call 5; go_loud (refine (ON.out _ _ h).mono ?_); clear h; rintro _ w ⟨rfl, h⟩)
          | (go_at_call 8; go_loud (refine (DE3.out _ h).mono ?_); clear h; rintro _ w ⟨rfl, h⟩)
          | (go_at_call 7; go_loud (refine (LI.out _ _ h).mono ?_); clear h; rintro _ w ⟨rfl, h⟩))
        go_ret
        exact ⟨rfl, h.le hleF⟩
end
end Go.Proofs.YtjnhklhgcbknkaaGreatDoor
