/- order.step: an oper as it was answered. -/
import Derived.Test.YtjnhklhgcbknkaaGreatDoorMapM
import Derived.Test.YtjnhklhgcbknkaaGreatDoorPfH
namespace Go.Proofs.YtjnhklhgcbknkaaGreatDoor
open Go.RowKit
set_option linter.unusedVariables false
set_option linter.unusedSimpArgs false
set_option linter.unnecessarySimpa false
def StPost (Q : Array Value → Prop) (b : Bool) (σ : World) (M : Mm) (r : Ending) (w' : World) : Prop :=
  ∃ (rs' : Array Value) (M' : Mm), r = .returned (.tuple #[.agg rs', .bool b]) ∧ StRow rs' ∧ Q rs' ∧ Has σ M' w' ∧ M.le M'
def OpS.callO (y : OpS) : Array Value := callR y.op y.lv y.ky y.pa y.pb y.ha y.rg
def OpS.ansO (y : OpS) : Array Value := ansR y.er y.qa y.qb y.hb y.nn y.kb
set_option maxHeartbeats 2000000 in
set_option maxRecDepth 20000 in
theorem step_told {σ w : World} {M : Mm} (h : Has σ M w) (Q : Array Value → Prop) (b : Bool) (rs : Array Value) (y : OpS) (ht : 0 ≤ y.tt) (hrs : StRow rs)
    (TD : ∀ (M' : Mm) (w : World), M.le M' → Has σ M' w → Calls Tryz.prog 57 #[.agg rs, .int .i64 y.th, .agg y.callO, .agg y.ansO] w fun r w' => StPost Q b σ M' r w') :
    Calls Tryz.prog 38 #[.agg rs, .agg y.row] w fun r w' => StPost Q b σ M r w' := by
  have TD := Lib.hid TD
  have hneg : decide (y.tt < 0) = false := decide_eq_false (by omega)
  have y0 : y.row[0]? = some (.int .i64 y.th) := rfl
  have y15 : y.row[15]? = some (.int .i64 y.tt) := rfl
  have yc : y.row.extract 1 (1 + 7) = y.callO := rfl
  have ya : y.row.extract 8 (8 + 6) = y.ansO := rfl
  have yc7 : y.callO.size = 7 := rfl
  have ya6 : y.ansO.size = 6 := rfl
  have rz := hrs.1
  have ra : rs.extract 0 (0 + 63) = rs := by rw [← rz, Nat.zero_add, Array.extract_size]
  have s0z : st0.size = 63 := rfl
  have ZS := zst
  generalize hs0 : st0 = s0 at *
  have HS0 := Lib.hid hs0
  clear hs0
  clear ht hrs
  generalize y.tt = tt at *
  generalize y.th = th at *
  generalize y.callO = yc1 at *
  generalize y.ansO = ya1 at *
  generalize y.row = yr at *
  go_enter Tryz.func38, Tryz.ntmps38
  go_upto_region 1 with (first
    | ((with_reducible show wpList _ _ _ ({ dst := _, op := Op.box 85 _, type := _, pos := _, after := _, guard := _ } :: _) _ _); refine wpList_box_has h rfl 85 _ rfl ?_; clear h; intro b2 w h hn2; try simp only [Act.put, List.setIfInBounds_toArray, List.set_cons_zero, List.set_cons_succ])
    | ((with_reducible show wpList _ _ _ ({ dst := _, op := Op.box 32 _, type := _, pos := _, after := _, guard := _ } :: _) _ _); refine wpList_box_has h rfl 32 _ rfl ?_; clear h; intro b3 w h hn3; try simp only [Act.put, List.setIfInBounds_toArray, List.set_cons_zero, List.set_cons_succ])
    | ((with_reducible show wpList _ _ _ ({ dst := some 4, op := Op.alloc 85, type := _, pos := _, after := _, guard := _ } :: _) _ _); refine wpList_alloc_has h rfl 85 rfl _ ZS ?_; clear h; intro b4 w h hn4; try simp only [Act.put, List.setIfInBounds_toArray, List.set_cons_zero, List.set_cons_succ]))
  replace hn2 : M b2 = none := hn2
  replace hn3 : (M.upd b2 (.cells rs 85)) b3 = none := hn3
  replace hn4 : ((M.upd b2 (.cells rs 85)).upd b3 (.cells yr 32)) b4 = none := hn4
  replace h : Has σ (((M.upd b2 (.cells rs 85)).upd b3 (.cells yr 32)).upd b4 (.cells s0 85)) w := h
  have hle2 : M.le (((M.upd b2 (.cells rs 85)).upd b3 (.cells yr 32)).upd b4 (.cells s0 85)) := Mm.le_trans (Mm.le_upd' hn2 _) (Mm.le_trans (Mm.le_upd' hn3 _) (Mm.le_upd' hn4 _))
  have hb2 : (((M.upd b2 (.cells rs 85)).upd b3 (.cells yr 32)).upd b4 (.cells s0 85)) b2 = some (.cells rs 85) := (Mm.le_trans (Mm.le_upd' hn3 _) (Mm.le_upd' hn4 _)) _ _ (Mm.upd_same _ _ _)
  have hb3 : (((M.upd b2 (.cells rs 85)).upd b3 (.cells yr 32)).upd b4 (.cells s0 85)) b3 = some (.cells yr 32) := (Mm.le_upd' hn4 _) _ _ (Mm.upd_same _ _ _)
  have hb4 : (((M.upd b2 (.cells rs 85)).upd b3 (.cells yr 32)).upd b4 (.cells s0 85)) b4 = some (.cells s0 85) := (Mm.le_refl _) _ _ (Mm.upd_same _ _ _)
  have n_b2_b3 : b2 ≠ b3 := Mm.ne_of hn3 ((Mm.le_refl _) _ _ (Mm.upd_same _ _ _))
  have n_b2_b4 : b2 ≠ b4 := Mm.ne_of hn4 ((Mm.le_upd' hn3 _) _ _ (Mm.upd_same _ _ _))
  have n_b3_b4 : b3 ≠ b4 := Mm.ne_of hn4 ((Mm.le_refl _) _ _ (Mm.upd_same _ _ _))
  replace hn4 : M b4 = none := Mm.none_of (Mm.le_trans (Mm.le_upd' hn2 _) (Mm.le_upd' hn3 _)) hn4
  replace hn3 : M b3 = none := Mm.none_of (Mm.le_upd' hn2 _) hn3
  replace hn2 : M b2 = none := Mm.none_of (Mm.le_refl _) hn2
  generalize (((M.upd b2 (.cells rs 85)).upd b3 (.cells yr 32)).upd b4 (.cells s0 85)) = M2 at h hle2 hb2 hb3 hb4
  go_upto_region 4 with (first
    | (with_reducible show wpList _ _ _ ({ dst := _, op := Op.load 3 _, type := _, pos := _, after := _, guard := _ } :: _) _ _; refine wpList_load1_has h rfl 3 _ rfl rfl hb3 y15 Tryz.underlying3 rfl ?_))
  go_wp2_with (first
    | ((with_reducible show wpList _ _ _ ({ dst := _, op := Op.load 85 _, type := _, pos := _, after := _, guard := _ } :: _) _ _); refine wpList_agg_has h rfl 85 _ rfl rfl hb2 ra rz Tryz.underlying85 rfl (by kernel_rfl) ?_; try simp only [Act.put, List.setIfInBounds_toArray, List.set_cons_zero, List.set_cons_succ])
    | (with_reducible show wpList _ _ _ ({ dst := _, op := Op.load 3 _, type := _, pos := _, after := _, guard := _ } :: _) _ _; refine wpList_load1_has h rfl 3 _ rfl rfl hb3 y0 Tryz.underlying3 rfl ?_)
    | ((with_reducible show wpList _ _ _ ({ dst := _, op := Op.load 27 _, type := _, pos := _, after := _, guard := _ } :: _) _ _); refine wpList_agg_has h rfl 27 _ rfl rfl hb3 yc yc7 Tryz.underlying27 rfl (by kernel_rfl) ?_; try simp only [Act.put, List.setIfInBounds_toArray, List.set_cons_zero, List.set_cons_succ])
    | ((with_reducible show wpList _ _ _ ({ dst := _, op := Op.load 30 _, type := _, pos := _, after := _, guard := _ } :: _) _ _); refine wpList_agg_has h rfl 30 _ rfl rfl hb3 ya ya6 Tryz.underlying30 rfl (by kernel_rfl) ?_; try simp only [Act.put, List.setIfInBounds_toArray, List.set_cons_zero, List.set_cons_succ])
    | (go_at_call 57; refine (TD.out _ _ hle2 h).mono ?_; clear h; rintro _ w ⟨rs', M3, rfl, hrs', hq, h, hle3⟩; have hb43 := hle3 _ _ hb4; have z2 := hrs'.1; have o2 := hrs'.2)
    | ((with_reducible show wpList _ _ _ ({ dst := _, op := Op.store 85 _ _, type := _, pos := _, after := _, guard := _ } :: _) _ _); refine wpList_storeAll_has (cells := rs') h rfl 85 _ _ rfl rfl rfl hb43 rfl (s0z.trans z2.symm) rfl (by rw [z2]; kernel_rfl) o2 ?_; clear h; intro w h))
  exact bodyPost_ret (results_ct rfl (CellRes.of h (Mm.upd_same _ _ _) rfl Tryz.underlying85 rfl (by rw [z2]; kernel_rfl))) rfl ⟨rs', _, rfl, hrs', hq, h, Mm.le_upd (Mm.le_trans hle2 hle3) hn4 _⟩
end Go.Proofs.YtjnhklhgcbknkaaGreatDoor
