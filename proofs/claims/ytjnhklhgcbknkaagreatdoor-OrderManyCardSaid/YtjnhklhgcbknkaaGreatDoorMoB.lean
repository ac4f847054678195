/- Layer 13: a state is told an answer, whatever the call: by what its parts tell. -/
import Derived.Test.YtjnhklhgcbknkaaGreatDoorMoA
namespace Go.Proofs.YtjnhklhgcbknkaaGreatDoor
open Go.RowKit
set_option linter.unusedVariables false
set_option linter.unusedSimpArgs false
set_option linter.unnecessarySimpa false
/-- A state and an answer are told; one word of the state is new. -/
def OutG (Y : Mm → Mm → Value → Prop) (mk : Value → Array Value) (σ : World) (M : Mm) (bb : Array Value) (r : Ending) (w' : World) : Prop :=
  ∃ (q' : Value) (M' : Mm), r = .returned (.tuple #[.agg (mk q'), .agg bb]) ∧ q'.oneCell' = true ∧ Has σ M' w' ∧ M.le M' ∧ Y M M' q'
def ToldG (Y : Mm → Mm → Value → Prop) (mk : Value → Array Value) (σ : World) (M : Mm) (r : Ending) (w' : World) : Prop :=
  ∃ (q' : Value) (M' : Mm), r = .returned (.tuple #[.agg (mk q'), .bool true]) ∧ q'.oneCell' = true ∧ Has σ M' w' ∧ M.le M' ∧ Y M M' q'
/-- A row that is a state's. -/
def StRow (rs : Array Value) : Prop := rs.size = 63 ∧ rs.toList.all (·.oneCell') = true

set_option maxHeartbeats 2000000 in
set_option maxRecDepth 20000 in
theorem told_gen {σ w : World} {M : Mm} {Y : Mm → Mm → Value → Prop} {mk : Value → Array Value} (hY : Stays Y) (hmk : ∀ q', q'.oneCell' = true → StRow (mk q')) (h : Has σ M w) (rs aa bb : Array Value) (op ky pa pb ha rg hv : Int)
    (hrs : StRow rs) (hrc : rs.extract 0 (0 + 14) = oneR) (hrv : rs[14]? = some (.int .i64 0)) (hop : OkCall op 0) (h9 : op ≠ 9) (h12 : op ≠ 12) (haz : aa.size = 6) (ha3 : aa[3]? = some (.int .u64 hv)) (hbz : bb.size = 6) (hbo : bb.toList.all (·.oneCell') = true) (hfa : fits ansKs aa.toList) (hfb : fits ansKs bb.toList) (hsm : sames aa.toList bb.toList = true)
    (RF : ∀ (M : Mm) (w : World), Has σ M w → Calls Tryz.prog 68 #[.agg rs, .int .i64 0, .agg (callR op 0 ky pa pb ha 0)] w fun r w' => r = .returned (.int .i64 0) ∧ Has σ M w')
    (MN : ∀ (M : Mm) (w : World), Has σ M w → Calls Tryz.prog 72 #[.agg rs, .bool true, .agg (callR op 0 ky pa pb ha 0), .agg aa] w fun r w' => r = .returned (.bool false) ∧ Has σ M w')
    (DO : ∀ (M' : Mm) (w : World), M.le M' → Has σ M' w → Calls Tryz.prog 69 #[.agg rs, .bool true, .agg (callR op 0 ky pa pb ha 0), .int .u64 hv] w fun r w' => OutG Y mk σ M' bb r w') :
    Calls Tryz.prog 57 #[.agg rs, .int .i64 0, .agg (callR op 0 ky pa pb ha rg), .agg aa] w fun r w' => ToldG Y mk σ M r w' := by
  have RF := Lib.hid RF
  have MN := Lib.hid MN
  have DO := Lib.hid DO
  have HY := Lib.hid hY
  have HMK := Lib.hid hmk
  have o12 : (op == 12) = false := beq_eq_false_iff_ne.2 h12
  have o9 : (op == 9) = false := beq_eq_false_iff_ne.2 h9
  have cz := callR_size op 0 ky pa pb ha 0
  have cx := callR_all op 0 ky pa pb ha 0
  have c0 := callR_op op 0 ky pa pb ha 0
  have cs6 : (callR op 0 ky pa pb ha rg).setIfInBounds 6 (.int .i64 0) = callR op 0 ky pa pb ha 0 := rfl
  have cz0 := callR_size op 0 ky pa pb ha rg
  have ax := ext_all haz
  have rc := hrc
  have rv := hrv
  have oz := oneR_size
  have rz := hrs.1
  have ra := ext_all hrs.1
  have z0 := st0_size
  have bz := hbz
  have bo := Lib.hid hbo
  have FA := Lib.hid hfa
  have FB := Lib.hid hfb
  have FBA := Lib.hid hsm
  have az := haz
  have a3 := ha3
  have lv := Lib.hid (fun (M : Mm) (w : World) (h : Has σ M w) => level_one h)
  clear h9 h12 hop hY hmk hrs hrc hrv hbz hbo hfa hfb hsm haz ha3
  generalize callR op 0 ky pa pb ha 0 = cc at *
  generalize callR op 0 ky pa pb ha rg = cr at *
  generalize hoo : oneR = oo at *
  clear hoo
  go_enter Tryz.func57, Tryz.ntmps57
  go_upto_region 1 with (first
    | ((with_reducible show wpList _ _ _ ({ dst := _, op := Op.box 85 _, type := _, pos := _, after := _, guard := _ } :: _) _ _); refine wpList_box_has h rfl 85 _ rfl ?_; clear h; intro b4 w h hn4; try simp only [Act.put, List.setIfInBounds_toArray, List.set_cons_zero, List.set_cons_succ])
    | ((with_reducible show wpList _ _ _ ({ dst := _, op := Op.box 27 _, type := _, pos := _, after := _, guard := _ } :: _) _ _); refine wpList_box_has h rfl 27 _ rfl ?_; clear h; intro b6 w h hn6; try simp only [Act.put, List.setIfInBounds_toArray, List.set_cons_zero, List.set_cons_succ])
    | ((with_reducible show wpList _ _ _ ({ dst := _, op := Op.box 30 _, type := _, pos := _, after := _, guard := _ } :: _) _ _); refine wpList_box_has h rfl 30 _ rfl ?_; clear h; intro b7 w h hn7; try simp only [Act.put, List.setIfInBounds_toArray, List.set_cons_zero, List.set_cons_succ])
    | ((with_reducible show wpList _ _ _ ({ dst := some 8, op := Op.alloc 85, type := _, pos := _, after := _, guard := _ } :: _) _ _); refine wpList_alloc_has h rfl 85 rfl _ zst ?_; clear h; intro b8 w h hn8; try simp only [Act.put, List.setIfInBounds_toArray, List.set_cons_zero, List.set_cons_succ]))
  replace hn4 : M b4 = none := hn4
  replace hn6 : (M.upd b4 (.cells rs 85)) b6 = none := hn6
  replace hn7 : ((M.upd b4 (.cells rs 85)).upd b6 (.cells cr 27)) b7 = none := hn7
  replace hn8 : (((M.upd b4 (.cells rs 85)).upd b6 (.cells cr 27)).upd b7 (.cells aa 30)) b8 = none := hn8
  replace h : Has σ ((((M.upd b4 (.cells rs 85)).upd b6 (.cells cr 27)).upd b7 (.cells aa 30)).upd b8 (.cells st0 85)) w := h
  have hle2 : M.le ((((M.upd b4 (.cells rs 85)).upd b6 (.cells cr 27)).upd b7 (.cells aa 30)).upd b8 (.cells st0 85)) := Mm.le_trans (Mm.le_upd' hn4 _) (Mm.le_trans (Mm.le_upd' hn6 _) (Mm.le_trans (Mm.le_upd' hn7 _) (Mm.le_upd' hn8 _)))
  have hb4 : ((((M.upd b4 (.cells rs 85)).upd b6 (.cells cr 27)).upd b7 (.cells aa 30)).upd b8 (.cells st0 85)) b4 = some (.cells rs 85) := (Mm.le_trans (Mm.le_upd' hn6 _) (Mm.le_trans (Mm.le_upd' hn7 _) (Mm.le_upd' hn8 _))) _ _ (Mm.upd_same _ _ _)
  have hb6 : ((((M.upd b4 (.cells rs 85)).upd b6 (.cells cr 27)).upd b7 (.cells aa 30)).upd b8 (.cells st0 85)) b6 = some (.cells cr 27) := (Mm.le_trans (Mm.le_upd' hn7 _) (Mm.le_upd' hn8 _)) _ _ (Mm.upd_same _ _ _)
  have hb7 : ((((M.upd b4 (.cells rs 85)).upd b6 (.cells cr 27)).upd b7 (.cells aa 30)).upd b8 (.cells st0 85)) b7 = some (.cells aa 30) := (Mm.le_upd' hn8 _) _ _ (Mm.upd_same _ _ _)
  have hb8 : ((((M.upd b4 (.cells rs 85)).upd b6 (.cells cr 27)).upd b7 (.cells aa 30)).upd b8 (.cells st0 85)) b8 = some (.cells st0 85) := (Mm.le_refl _) _ _ (Mm.upd_same _ _ _)
  have n_b4_b6 : b4 ≠ b6 := Mm.ne_of hn6 ((Mm.le_refl _) _ _ (Mm.upd_same _ _ _))
  have n_b4_b7 : b4 ≠ b7 := Mm.ne_of hn7 ((Mm.le_upd' hn6 _) _ _ (Mm.upd_same _ _ _))
  have n_b6_b7 : b6 ≠ b7 := Mm.ne_of hn7 ((Mm.le_refl _) _ _ (Mm.upd_same _ _ _))
  have n_b4_b8 : b4 ≠ b8 := Mm.ne_of hn8 ((Mm.le_trans (Mm.le_upd' hn6 _) (Mm.le_upd' hn7 _)) _ _ (Mm.upd_same _ _ _))
  have n_b6_b8 : b6 ≠ b8 := Mm.ne_of hn8 ((Mm.le_upd' hn7 _) _ _ (Mm.upd_same _ _ _))
  have n_b7_b8 : b7 ≠ b8 := Mm.ne_of hn8 ((Mm.le_refl _) _ _ (Mm.upd_same _ _ _))
  replace hn8 : M b8 = none := Mm.none_of (Mm.le_trans (Mm.le_upd' hn4 _) (Mm.le_trans (Mm.le_upd' hn6 _) (Mm.le_upd' hn7 _))) hn8
  replace hn7 : M b7 = none := Mm.none_of (Mm.le_trans (Mm.le_upd' hn4 _) (Mm.le_upd' hn6 _)) hn7
  replace hn6 : M b6 = none := Mm.none_of (Mm.le_upd' hn4 _) hn6
  replace hn4 : M b4 = none := Mm.none_of (Mm.le_refl _) hn4
  generalize ((((M.upd b4 (.cells rs 85)).upd b6 (.cells cr 27)).upd b7 (.cells aa 30)).upd b8 (.cells st0 85)) = M2 at h hle2 hb4 hb6 hb7 hb8
  generalize st0 = s0 at *
  have l6 : 6 < cr.size := by rw [cz0]; decide
  go_upto_region 2 with (first
    | (with_reducible show wpList _ _ _ ({ dst := _, op := Op.store 3 _ _, type := _, pos := _, after := _, guard := _ } :: _) _ _; refine wpList_store1_has h rfl 3 _ _ rfl rfl rfl hb6 l6 rfl (by kernel_rfl) ?_; clear h; intro w h))
  replace h : Has σ (M2.upd b6 (.cells cc 27)) w := by rw [← cs6]; exact h
  have hb61 := Mm.upd_same M2 b6 (.cells cc 27)
  have hb41 := (Mm.upd_ne (M := M2) (o := .cells cc 27) n_b4_b6).trans hb4
  have hb71 := (Mm.upd_ne (M := M2) (o := .cells cc 27) (Ne.symm n_b6_b7)).trans hb7
  have hb81 := (Mm.upd_ne (M := M2) (o := .cells cc 27) (Ne.symm n_b6_b8)).trans hb8
  have hle1 : M.le (M2.upd b6 (.cells cc 27)) := Mm.le_upd hle2 hn6 _
  clear hb4 hb6 hb7 hb8 hle2 cs6 cz0 l6
  generalize M2.upd b6 _ = M1 at *
  go_upto_region 5 with (first
    | ((with_reducible show wpList _ _ _ ({ dst := _, op := Op.load 85 _, type := _, pos := _, after := _, guard := _ } :: _) _ _); refine wpList_agg_has h rfl 85 _ rfl rfl hb41 ra rz Tryz.underlying85 rfl (by kernel_rfl) ?_; try simp only [Act.put, List.setIfInBounds_toArray, List.set_cons_zero, List.set_cons_succ])
    | ((with_reducible show wpList _ _ _ ({ dst := _, op := Op.load 27 _, type := _, pos := _, after := _, guard := _ } :: _) _ _); refine wpList_agg_has h rfl 27 _ rfl rfl hb61 cx cz Tryz.underlying27 rfl (by kernel_rfl) ?_; try simp only [Act.put, List.setIfInBounds_toArray, List.set_cons_zero, List.set_cons_succ])
    | (go_at_call 68; refine (RF.out _ _ h).mono ?_; clear h; rintro _ w ⟨rfl, h⟩))
  have LV1 := Lib.hid (lv.out M1)
  refine wp_region_class (Has σ M1) (by kernel_rfl) (by kernel_rfl) h.drew ?_
  clear h
  repeat (first
    | go_big_quiet_skip
    | (go_big_quiet_want; first
      | (refine quiet_agg_has 38 _ rfl rfl hb41 rc oz Tryz.underlying38 rfl (by kernel_rfl) ?_; simp only [Act.put, List.setIfInBounds_toArray, List.set_cons_zero, List.set_cons_succ]; go_big_quiet_on)
      | (refine quiet_load_has 3 _ rfl rfl hb41 rv Tryz.underlying3 rfl ?_; simp only [Act.put, List.setIfInBounds_toArray, List.set_cons_zero, List.set_cons_succ]; go_big_quiet_on)
      | (go_big_quiet_op; first | go_big_quiet_on | go_big_quiet_call (first | with_reducible exact fun _ => rfl | with_reducible exact LV1.out _))))
  refine wpQuiet_nil ?_
  try clear w
  intro w h
  go_upto_region 12 with (first
    | ((with_reducible show wpList _ _ _ ({ dst := _, op := Op.load 85 _, type := _, pos := _, after := _, guard := _ } :: _) _ _); refine wpList_agg_has h rfl 85 _ rfl rfl hb41 ra rz Tryz.underlying85 rfl (by kernel_rfl) ?_; try simp only [Act.put, List.setIfInBounds_toArray, List.set_cons_zero, List.set_cons_succ])
    | ((with_reducible show wpList _ _ _ ({ dst := _, op := Op.load 27 _, type := _, pos := _, after := _, guard := _ } :: _) _ _); refine wpList_agg_has h rfl 27 _ rfl rfl hb61 cx cz Tryz.underlying27 rfl (by kernel_rfl) ?_; try simp only [Act.put, List.setIfInBounds_toArray, List.set_cons_zero, List.set_cons_succ])
    | ((with_reducible show wpList _ _ _ ({ dst := _, op := Op.load 30 _, type := _, pos := _, after := _, guard := _ } :: _) _ _); refine wpList_agg_has h rfl 30 _ rfl rfl hb71 ax az Tryz.underlying30 rfl (by kernel_rfl) ?_; try simp only [Act.put, List.setIfInBounds_toArray, List.set_cons_zero, List.set_cons_succ])
    | (go_at_call 72; refine (MN.out _ _ h).mono ?_; clear h; rintro _ w ⟨rfl, h⟩)
    | (with_reducible show wpList _ _ _ ({ dst := _, op := Op.load 3 _, type := _, pos := _, after := _, guard := _ } :: _) _ _; refine wpList_load1_has h rfl 3 _ rfl rfl hb61 c0 Tryz.underlying3 rfl ?_))
  go_upto_region 13 with (first
    | ((with_reducible show wpList _ _ _ ({ dst := _, op := Op.load 85 _, type := _, pos := _, after := _, guard := _ } :: _) _ _); refine wpList_agg_has h rfl 85 _ rfl rfl hb41 ra rz Tryz.underlying85 rfl (by kernel_rfl) ?_; try simp only [Act.put, List.setIfInBounds_toArray, List.set_cons_zero, List.set_cons_succ])
    | ((with_reducible show wpList _ _ _ ({ dst := _, op := Op.load 27 _, type := _, pos := _, after := _, guard := _ } :: _) _ _); refine wpList_agg_has h rfl 27 _ rfl rfl hb61 cx cz Tryz.underlying27 rfl (by kernel_rfl) ?_; try simp only [Act.put, List.setIfInBounds_toArray, List.set_cons_zero, List.set_cons_succ])
    | (with_reducible show wpList _ _ _ ({ dst := _, op := Op.load 23 _, type := _, pos := _, after := _, guard := _ } :: _) _ _; refine wpList_load1_has h rfl 23 _ rfl rfl hb71 a3 Tryz.underlying23 rfl ?_)
    | (go_at_call 69; refine (DO.out _ _ hle1 h).mono ?_; clear h; rintro _ w ⟨q', M3, rfl, hq1, h, hle3, hy⟩)
    | ((with_reducible show wpList _ _ _ ({ dst := some 12, op := Op.alloc 85, type := _, pos := _, after := _, guard := _ } :: _) _ _); refine wpList_alloc_has h rfl 85 rfl _ zst ?_; clear h; intro b12 w h hn12; try simp only [Act.put, List.setIfInBounds_toArray, List.set_cons_zero, List.set_cons_succ])
    | ((with_reducible show wpList _ _ _ ({ dst := some 13, op := Op.alloc 30, type := _, pos := _, after := _, guard := _ } :: _) _ _); refine wpList_alloc_has h rfl 30 rfl _ zans ?_; clear h; intro b13 w h hn13; try simp only [Act.put, List.setIfInBounds_toArray, List.set_cons_zero, List.set_cons_succ])
    | ((with_reducible show wpList _ _ _ ({ dst := _, op := Op.store 85 _ _, type := _, pos := _, after := _, guard := _ } :: _) _ _); have hx12 := Mm.le_upd' hn13 (.cells (ansR 0 0 0 0 0 0) 30) _ _ (Mm.upd_same M3 b12 (.cells st0 85)); refine wpList_storeAll_has (cells := mk q') h rfl 85 _ _ rfl rfl rfl hx12 rfl st0_size (HMK.out q' hq1).1 (by kernel_rfl) (HMK.out q' hq1).2 ?_; clear h; intro w h)
    | ((with_reducible show wpList _ _ _ ({ dst := _, op := Op.store 30 _ _, type := _, pos := _, after := _, guard := _ } :: _) _ _); have n12_13 := Mm.ne_of hn13 (Mm.upd_same M3 b12 (.cells st0 85)); have hx13 := (Mm.upd_ne (o := .cells (mk q') 85) (Ne.symm n12_13)).trans (Mm.upd_same (M3.upd b12 (.cells st0 85)) b13 (.cells (ansR 0 0 0 0 0 0) 30)); refine wpList_storeAll_has (cells := bb) h rfl 30 _ _ rfl rfl rfl hx13 rfl rfl bz (by kernel_rfl) bo.out ?_; clear h; intro w h))
  replace h : Has σ ((((M3.upd b12 (.cells st0 85)).upd b13 (.cells (ansR 0 0 0 0 0 0) 30)).upd b12 (.cells (mk q') 85)).upd b13 (.cells bb 30)) w := h
  replace hn13 : (M3.upd b12 (.cells st0 85)) b13 = none := hn13
  obtain ⟨hle5, hb12, hb13⟩ := Mm.again (o' := .cells (ansR 0 0 0 0 0 0) 30) hn12 hn13 (.cells (mk q') 85) (.cells bb 30)
  have HYY := Lib.hid hy
  have HL3 := Lib.hid hle3
  have HB8 := Lib.hid hb81
  have hb47 := hle5 _ _ (hle3 _ _ hb41)
  have hb77 := hle5 _ _ (hle3 _ _ hb71)
  have hb87 := hle5 _ _ (hle3 _ _ hb81)
  have HY5 : Hid (Y M1 ((((M3.upd b12 (.cells st0 85)).upd b13 (.cells (ansR 0 0 0 0 0 0) 30)).upd b12 (.cells (mk q') 85)).upd b13 (.cells bb 30)) q') := HY.out.le hle5 hy
  have hle6 := Mm.le_trans hle1 (Mm.le_trans hle3 hle5)
  clear hb41 hb61 hb71 hb81 hy hle3 hle5
  generalize (((M3.upd b12 (.cells st0 85)).upd b13 (.cells (ansR 0 0 0 0 0 0) 30)).upd b12 (.cells (mk q') 85)).upd b13 (.cells bb 30) = M6 at *
  have bx := ext_all bz
  have tz := (HMK.out q' hq1).1
  have tx := ext_all tz
  have to_ := Lib.hid (HMK.out q' hq1).2
  generalize hts : mk q' = ts at *
  have HTS := Lib.hid hts
  clear hts
  go_upto_region 15 with (first
    | ((with_reducible show wpList _ _ _ ({ dst := _, op := Op.load 30 _, type := _, pos := _, after := _, guard := _ } :: _) _ _); refine wpList_agg_has h rfl 30 _ rfl rfl hb77 ax az Tryz.underlying30 rfl (by kernel_rfl) ?_; try simp only [Act.put, List.setIfInBounds_toArray, List.set_cons_zero, List.set_cons_succ])
    | ((with_reducible show wpList _ _ _ ({ dst := _, op := Op.load 30 _, type := _, pos := _, after := _, guard := _ } :: _) _ _); refine wpList_agg_has h rfl 30 _ rfl rfl hb13 bx bz Tryz.underlying30 rfl (by kernel_rfl) ?_; try simp only [Act.put, List.setIfInBounds_toArray, List.set_cons_zero, List.set_cons_succ])
    | ((refine wpList_neq_flat rfl 30 _ _ _ rfl (xs := aa) (ys := bb) rfl rfl 10 (by omega) (ks := ansKs) (by kernel_rfl) rfl (by kernel_rfl) Tryz.underlying30 rfl (by kernel_rfl) FA.out FB.out ?_; rw [FBA.out, Bool.not_true])))
  go_wp2_with (first
    | ((with_reducible show wpList _ _ _ ({ dst := _, op := Op.load 85 _, type := _, pos := _, after := _, guard := _ } :: _) _ _); refine wpList_agg_has h rfl 85 _ rfl rfl hb12 tx tz Tryz.underlying85 rfl (by kernel_rfl) ?_; try simp only [Act.put, List.setIfInBounds_toArray, List.set_cons_zero, List.set_cons_succ])
    | ((with_reducible show wpList _ _ _ ({ dst := _, op := Op.store 85 _ _, type := _, pos := _, after := _, guard := _ } :: _) _ _); refine wpList_storeAll_has (cells := ts) h rfl 85 _ _ rfl rfl rfl hb87 rfl (z0.trans tz.symm) rfl (by rw [tz]; kernel_rfl) to_.out ?_; clear h; intro w h))
  exact bodyPost_ret (results_ct rfl (CellRes.of h (Mm.upd_same _ _ _) rfl Tryz.underlying85 rfl (by rw [tz]; kernel_rfl))) rfl ⟨q', _, by rw [HTS.out]; rfl, hq1, h, Mm.le_upd hle6 hn8 _, HY.out.base hle1 (HY.out.upd HB8.out HY5.out _)⟩
end Go.Proofs.YtjnhklhgcbknkaaGreatDoor
