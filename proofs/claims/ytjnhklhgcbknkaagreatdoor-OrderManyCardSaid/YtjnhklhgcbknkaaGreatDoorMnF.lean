/- Layer 13: a state is told an answer to Push or Pop of a lone thread. -/
import Derived.Test.YtjnhklhgcbknkaaGreatDoorMnE
namespace Go.Proofs.YtjnhklhgcbknkaaGreatDoor
open Go.RowKit
set_option linter.unusedVariables false
set_option linter.unusedSimpArgs false
set_option linter.unnecessarySimpa false
/-- A state is told, and whether it may be. -/
def ToldYes (Y : Mm → Mm → Value → Prop) (σ : World) (M : Mm) (se li tl : Value) (r : Ending) (w' : World) : Prop :=
  ∃ (q' : Value) (M' : Mm), r = .returned (.tuple #[.agg (stR se q' li tl), .bool true]) ∧ q'.oneCell' = true ∧ Has σ M' w' ∧ M.le M' ∧ Y M M' q'
section
variable {σ w : World} {M : Mm} {Y : Mm → Mm → Value → Prop}
set_option maxHeartbeats 2000000 in
set_option maxRecDepth 20000 in
theorem told_yes (hY : Stays Y) (h : Has σ M w) (se q li tl : Value) (op ky pa pb ha rg xa xb : Int) (ho : op = 6 ∨ op = 7) (h1 : One4 se q li tl)
    (TD : ∀ (M : Mm) (w : World), Has σ M w → Calls Tryz.prog 92 #[.agg (callR op 0 ky pa pb ha 0), .agg (ansR 0 xa xb 0 0 0)] w fun r w' => r = .returned (.agg (ansR 0 xa xb 0 0 0)) ∧ Has σ M w')
    (LN : ∀ (M' : Mm) (w : World), M.le M' → Has σ M' w → Calls Tryz.prog 86 #[.agg (stR se q li tl), .agg (callR op 0 ky pa pb ha 0)] w fun r w' => Out Y σ M' se li tl 0 xa xb r w') :
    Calls Tryz.prog 57 #[.agg (stR se q li tl), .int .i64 0, .agg (callR op 0 ky pa pb ha rg), .agg (ansR 0 xa xb 0 0 0)] w fun r w' => ToldYes Y σ M se li tl r w' := by
  obtain ⟨er, ya, yb, h0, hx, hy⟩ : ∃ er ya yb : Int, er = 0 ∧ ya = xa ∧ yb = xb := ⟨_, _, _, rfl, rfl, rfl⟩
  replace LN : ∀ (M' : Mm) (w : World), M.le M' → Has σ M' w → Calls Tryz.prog 86 #[.agg (stR se q li tl), .agg (callR op 0 ky pa pb ha 0)] w fun r w' => Out Y σ M' se li tl er ya yb r w' := by rw [h0, hx, hy]; exact LN
  have EB : Hid ((ansR er ya yb 0 0 0) = (ansR 0 xa xb 0 0 0)) := by show (ansR er ya yb 0 0 0) = (ansR 0 xa xb 0 0 0); rw [h0, hx, hy]
  clear h0 hx hy
  have TD := Lib.hid TD
  have FT := Lib.hid (fun (M : Mm) (w : World) (h : Has σ M w) => fits_ok h op ky pa pb ha 0 xa xb ⟨by omega, by omega⟩ TD.out fun M w h => fine_67 h op 0 ky pa pb ha 0 xa xb 0 0 ho)
  have RF := Lib.hid (fun (M : Mm) (w : World) (h : Has σ M w) => refused_ok h se q li tl op ky pa pb ha 0 ⟨by omega, by omega⟩)
  have MN := Lib.hid (fun (M : Mm) (w : World) (h : Has σ M w) => mayNot_ok h se q li tl true op ky pa pb ha 0 xa xb FT.out)
  have DO := Lib.hid (fun (M' : Mm) (w : World) (hM : M.le M') (h : Has σ M' w) => does_out hY h se q li tl op ky pa pb ha 0 er ya yb 0 true ho h1 fun M'' w hM' h' => LN M'' w (Mm.le_trans hM hM') h')
  have H1 := Lib.hid h1
  have HY := Lib.hid hY
  have o12 : (op == 12) = false := by rcases ho with rfl | rfl <;> rfl
  have o9 : (op == 9) = false := by rcases ho with rfl | rfl <;> rfl
  have cz := callR_size op 0 ky pa pb ha 0
  have cx := callR_all op 0 ky pa pb ha 0
  have c0 := callR_op op 0 ky pa pb ha 0
  have cs6 : (callR op 0 ky pa pb ha rg).setIfInBounds 6 (.int .i64 0) = (callR op 0 ky pa pb ha 0) := rfl
  have cz0 := callR_size op 0 ky pa pb ha rg
  have az := ansR_size 0 xa xb 0 0 0
  have ax := ansR_all 0 xa xb 0 0 0
  have a0 : (ansR 0 xa xb 0 0 0)[0]? = some (.int .i64 0) := rfl
  have a3 : (ansR 0 xa xb 0 0 0)[3]? = some (.int .u64 0) := rfl
  have rc := stR_conf se q li tl
  have rv := stR_lv se q li tl
  have oz := oneR_size
  have rz := stR_size se q li tl
  have ra := stR_all se q li tl
  have ro := Lib.hid (stR_one (se := se) (q := q) (li := li) (tl := tl) h1)
  have z0 := st0_size
  have FA := Lib.hid (ansR_fits 0 xa xb 0 0 0)
  have FB := Lib.hid (ansR_fits er ya yb 0 0 0)
  have lv := Lib.hid (fun (M : Mm) (w : World) (h : Has σ M w) => level_one h)
  clear ho h1 hY LN
  generalize hcc : (callR op 0 ky pa pb ha 0) = cc at *
  generalize callR op 0 ky pa pb ha rg = cr at *
  have SM : Hid (sames (ansR 0 xa xb 0 0 0).toList (ansR 0 xa xb 0 0 0).toList = true) := ansR_same 0 xa xb 0 0 0
  generalize hrs : stR se q li tl = rs at *
  have HRS := Lib.hid hrs
  generalize haa : (ansR 0 xa xb 0 0 0) = aa at *
  generalize hoo : oneR = oo at *
  clear hrs hcc haa hoo
  go_enter Tryz.func57, Tryz.ntmps57
  go_upto_region 1 with (first
    | ((with_reducible show wpList _ _ _ ({ dst := _, op := Op.box 85 _, type := _, pos := _, after := _, guard := _ } :: _) _ _); refine wpList_box_has h rfl 85 _ rfl ?_; clear h; intro b4 w h hn4; try simp only [Act.put, List.setIfInBounds_toArray, List.set_cons_zero, List.set_cons_succ])
    | ((with_reducible show wpList _ _ _ ({ dst := _, op := Op.box 27 _, type := _, pos := _, after := _, guard := _ } :: _) _ _); refine wpList_box_has h rfl 27 _ rfl ?_; clear h; intro b6 w h hn6; try simp only [Act.put, List.setIfInBounds_toArray, List.set_cons_zero, List.set_cons_succ])
    | ((with_reducible show wpList _ _ _ ({ dst := _, op := Op.box 30 _, type := _, pos := _, after := _, guard := _ } :: _) _ _); refine wpList_box_has h rfl 30 _ rfl ?_; clear h; intro b7 w h hn7; try simp only [Act.put, List.setIfInBounds_toArray, List.set_cons_zero, List.set_cons_succ])
    | ((with_reducible show wpList _ _ _ ({ dst := some 8, op := Op.alloc 85, type := _, pos := _, after := _, guard := _ } :: _) _ _); refine wpList_alloc_has h rfl 85 rfl _ zst ?_; clear h; intro b8 w h hn8; try simp only [Act.put, List.setIfInBounds_toArray, List.set_cons_zero, List.set_cons_succ]))
  replace hn4 : M b4 = none := hn4
  replace hn6 : (M.upd b4 (.cells rs 85)) b6 = none := hn6
  replace hn7 : ((M.upd b4 (.cells rs 85)).upd b6 (.cells cr 27)) b7 = none := hn7
  replace hn8 : (((M.upd b4 (.cells rs 85)).upd b6 (.cells cr 27)).upd b7 (.cells aa 30)) b8 = none := hn8
  replace h : Has σ ((((M.upd b4 (.cells rs 85)).upd b6 (.cells cr 27)).upd b7 (.cells aa 30)).upd b8 (.cells st0 85)) w := h
  have hle2 : M.le ((((M.upd b4 (.cells rs 85)).upd b6 (.cells cr 27)).upd b7 (.cells aa 30)).upd b8 (.cells st0 85)) := Mm.le_trans (Mm.le_upd' hn4 _) (Mm.le_trans (Mm.le_upd' hn6 _) (Mm.le_trans (Mm.le_upd' hn7 _) (Mm.le_upd' hn8 _)))
  have hb4 : ((((M.upd b4 (.cells rs 85)).upd b6 (.cells cr 27)).upd b7 (.cells aa 30)).upd b8 (.cells st0 85)) b4 = some (.cells rs 85) := (Mm.le_trans (Mm.le_upd' hn6 _) (Mm.le_trans (Mm.le_upd' hn7 _) (Mm.le_upd' hn8 _))) _ _ (Mm.upd_same _ _ _)
  have hb6 : ((((M.upd b4 (.cells rs 85)).upd b6 (.cells cr 27)).upd b7 (.cells aa 30)).upd b8 (.cells st0 85)) b6 = some (.cells cr 27) := (Mm.le_trans (Mm.le_upd' hn7 _) (Mm.le_upd' hn8 _)) _ _ (Mm.upd_same _ _ _)
  have hb7 : ((((M.upd b4 (.cells rs 85)).upd b6 (.cells cr 27)).upd b7 (.cells aa 30)).upd b8 (.cells st0 85)) b7 = some (.cells aa 30) := (Mm.le_upd' hn8 _) _ _ (Mm.upd_same _ _ _)
  have hb8 : ((((M.upd b4 (.cells rs 85)).upd b6 (.cells cr 27)).upd b7 (.cells aa 30)).upd b8 (.cells st0 85)) b8 = some (.cells st0 85) := (Mm.le_refl _) _ _ (Mm.upd_same _ _ _)
  have n_b4_b6 : b4 ≠ b6 := Mm.ne_of hn6 ((Mm.le_refl _) _ _ (Mm.upd_same _ _ _))
  have n_b4_b7 : b4 ≠ b7 := Mm.ne_of hn7 ((Mm.le_upd' hn6 _) _ _ (Mm.upd_same _ _ _))
  have n_b6_b7 : b6 ≠ b7 := Mm.ne_of hn7 ((Mm.le_refl _) _ _ (Mm.upd_same _ _ _))
  have n_b4_b8 : b4 ≠ b8 := Mm.ne_of hn8 ((Mm.le_trans (Mm.le_upd' hn6 _) (Mm.le_upd' hn7 _)) _ _ (Mm.upd_same _ _ _))
  have n_b6_b8 : b6 ≠ b8 := Mm.ne_of hn8 ((Mm.le_upd' hn7 _) _ _ (Mm.upd_same _ _ _))
  have n_b7_b8 : b7 ≠ b8 := Mm.ne_of hn8 ((Mm.le_refl _) _ _ (Mm.upd_same _ _ _))
  replace hn8 : M b8 = none := Mm.none_of (Mm.le_trans (Mm.le_upd' hn4 _) (Mm.le_trans (Mm.le_upd' hn6 _) (Mm.le_upd' hn7 _))) hn8
  replace hn7 : M b7 = none := Mm.none_of (Mm.le_trans (Mm.le_upd' hn4 _) (Mm.le_upd' hn6 _)) hn7
  replace hn6 : M b6 = none := Mm.none_of (Mm.le_upd' hn4 _) hn6
  replace hn4 : M b4 = none := Mm.none_of (Mm.le_refl _) hn4
  generalize ((((M.upd b4 (.cells rs 85)).upd b6 (.cells cr 27)).upd b7 (.cells aa 30)).upd b8 (.cells st0 85)) = M2 at h hle2 hb4 hb6 hb7 hb8
  generalize st0 = s0 at *
  have l6 : 6 < cr.size := by rw [cz0]; decide
  go_upto_region 2 with (first
    | (with_reducible show wpList _ _ _ ({ dst := _, op := Op.store 3 _ _, type := _, pos := _, after := _, guard := _ } :: _) _ _; refine wpList_store1_has h rfl 3 _ _ rfl rfl rfl hb6 l6 rfl (by kernel_rfl) ?_; clear h; intro w h))
  replace h : Has σ (M2.upd b6 (.cells cc 27)) w := by rw [← cs6]; exact h
  have hb61 := Mm.upd_same M2 b6 (.cells cc 27)
  have hb41 := (Mm.upd_ne (M := M2) (o := .cells cc 27) n_b4_b6).trans hb4
  have hb71 := (Mm.upd_ne (M := M2) (o := .cells cc 27) (Ne.symm n_b6_b7)).trans hb7
  have hb81 := (Mm.upd_ne (M := M2) (o := .cells cc 27) (Ne.symm n_b6_b8)).trans hb8
  have hle1 : M.le (M2.upd b6 (.cells cc 27)) := Mm.le_upd hle2 hn6 _
  clear hb4 hb6 hb7 hb8 hle2 cs6 cz0 l6
  generalize M2.upd b6 _ = M1 at *
  go_upto_region 5 with (first
    | ((with_reducible show wpList _ _ _ ({ dst := _, op := Op.load 85 _, type := _, pos := _, after := _, guard := _ } :: _) _ _); refine wpList_agg_has h rfl 85 _ rfl rfl hb41 ra rz Tryz.underlying85 rfl (by kernel_rfl) ?_; try simp only [Act.put, List.setIfInBounds_toArray, List.set_cons_zero, List.set_cons_succ])
    | ((with_reducible show wpList _ _ _ ({ dst := _, op := Op.load 27 _, type := _, pos := _, after := _, guard := _ } :: _) _ _); refine wpList_agg_has h rfl 27 _ rfl rfl hb61 cx cz Tryz.underlying27 rfl (by kernel_rfl) ?_; try simp only [Act.put, List.setIfInBounds_toArray, List.set_cons_zero, List.set_cons_succ])
    | (go_at_call 68; refine (RF.out _ _ h).mono ?_; clear h; rintro _ w ⟨rfl, h⟩))
  have LV1 := Lib.hid (lv.out M1)
  refine wp_region_class (Has σ M1) (by kernel_rfl) (by kernel_rfl) h.drew ?_
  clear h
  repeat (first
    | go_big_quiet_skip
    | (go_big_quiet_want; first
      | (refine quiet_agg_has 38 _ rfl rfl hb41 rc oz Tryz.underlying38 rfl (by kernel_rfl) ?_; simp only [Act.put, List.setIfInBounds_toArray, List.set_cons_zero, List.set_cons_succ]; go_big_quiet_on)
      | (refine quiet_load_has 3 _ rfl rfl hb41 rv Tryz.underlying3 rfl ?_; simp only [Act.put, List.setIfInBounds_toArray, List.set_cons_zero, List.set_cons_succ]; go_big_quiet_on)
      | (go_big_quiet_op; first | go_big_quiet_on | go_big_quiet_call (first | with_reducible exact fun _ => rfl | with_reducible exact LV1.out _))))
  refine wpQuiet_nil ?_
  try clear w
  intro w h
  go_upto_region 12 with (first
    | ((with_reducible show wpList _ _ _ ({ dst := _, op := Op.load 85 _, type := _, pos := _, after := _, guard := _ } :: _) _ _); refine wpList_agg_has h rfl 85 _ rfl rfl hb41 ra rz Tryz.underlying85 rfl (by kernel_rfl) ?_; try simp only [Act.put, List.setIfInBounds_toArray, List.set_cons_zero, List.set_cons_succ])
    | ((with_reducible show wpList _ _ _ ({ dst := _, op := Op.load 27 _, type := _, pos := _, after := _, guard := _ } :: _) _ _); refine wpList_agg_has h rfl 27 _ rfl rfl hb61 cx cz Tryz.underlying27 rfl (by kernel_rfl) ?_; try simp only [Act.put, List.setIfInBounds_toArray, List.set_cons_zero, List.set_cons_succ])
    | ((with_reducible show wpList _ _ _ ({ dst := _, op := Op.load 30 _, type := _, pos := _, after := _, guard := _ } :: _) _ _); refine wpList_agg_has h rfl 30 _ rfl rfl hb71 ax az Tryz.underlying30 rfl (by kernel_rfl) ?_; try simp only [Act.put, List.setIfInBounds_toArray, List.set_cons_zero, List.set_cons_succ])
    | (go_at_call 72; refine (MN.out _ _ h).mono ?_; clear h; rintro _ w ⟨rfl, h⟩)
    | (with_reducible show wpList _ _ _ ({ dst := _, op := Op.load 3 _, type := _, pos := _, after := _, guard := _ } :: _) _ _; refine wpList_load1_has h rfl 3 _ rfl rfl hb61 c0 Tryz.underlying3 rfl ?_))
  go_upto_region 13 with (first
    | ((with_reducible show wpList _ _ _ ({ dst := _, op := Op.load 85 _, type := _, pos := _, after := _, guard := _ } :: _) _ _); refine wpList_agg_has h rfl 85 _ rfl rfl hb41 ra rz Tryz.underlying85 rfl (by kernel_rfl) ?_; try simp only [Act.put, List.setIfInBounds_toArray, List.set_cons_zero, List.set_cons_succ])
    | ((with_reducible show wpList _ _ _ ({ dst := _, op := Op.load 27 _, type := _, pos := _, after := _, guard := _ } :: _) _ _); refine wpList_agg_has h rfl 27 _ rfl rfl hb61 cx cz Tryz.underlying27 rfl (by kernel_rfl) ?_; try simp only [Act.put, List.setIfInBounds_toArray, List.set_cons_zero, List.set_cons_succ])
    | (with_reducible show wpList _ _ _ ({ dst := _, op := Op.load 23 _, type := _, pos := _, after := _, guard := _ } :: _) _ _; refine wpList_load1_has h rfl 23 _ rfl rfl hb71 a3 Tryz.underlying23 rfl ?_)
    | (go_at_call 69; refine (DO.out _ _ hle1 h).mono ?_; clear h; rintro _ w ⟨q', M3, rfl, hq1, h, hle3, hy⟩)
    | ((with_reducible show wpList _ _ _ ({ dst := some 12, op := Op.alloc 85, type := _, pos := _, after := _, guard := _ } :: _) _ _); refine wpList_alloc_has h rfl 85 rfl _ zst ?_; clear h; intro b12 w h hn12; try simp only [Act.put, List.setIfInBounds_toArray, List.set_cons_zero, List.set_cons_succ])
    | ((with_reducible show wpList _ _ _ ({ dst := some 13, op := Op.alloc 30, type := _, pos := _, after := _, guard := _ } :: _) _ _); refine wpList_alloc_has h rfl 30 rfl _ zans ?_; clear h; intro b13 w h hn13; try simp only [Act.put, List.setIfInBounds_toArray, List.set_cons_zero, List.set_cons_succ])
    | ((with_reducible show wpList _ _ _ ({ dst := _, op := Op.store 85 _ _, type := _, pos := _, after := _, guard := _ } :: _) _ _); have hx12 := Mm.le_upd' hn13 (.cells (ansR 0 0 0 0 0 0) 30) _ _ (Mm.upd_same M3 b12 (.cells st0 85)); refine wpList_storeAll_has (cells := stR se q' li tl) h rfl 85 _ _ rfl rfl rfl hx12 rfl st0_size (stR_size se q' li tl) (by kernel_rfl) (stR_one ⟨H1.out.1, hq1, H1.out.2.2⟩) ?_; clear h; intro w h)
    | ((with_reducible show wpList _ _ _ ({ dst := _, op := Op.store 30 _ _, type := _, pos := _, after := _, guard := _ } :: _) _ _); have n12_13 := Mm.ne_of hn13 (Mm.upd_same M3 b12 (.cells st0 85)); have hx13 := (Mm.upd_ne (o := .cells (stR se q' li tl) 85) (Ne.symm n12_13)).trans (Mm.upd_same (M3.upd b12 (.cells st0 85)) b13 (.cells (ansR 0 0 0 0 0 0) 30)); refine wpList_storeAll_has (cells := (ansR er ya yb 0 0 0)) h rfl 30 _ _ rfl rfl rfl hx13 rfl rfl rfl (by kernel_rfl) rfl ?_; clear h; intro w h))
  replace h : Has σ ((((M3.upd b12 (.cells st0 85)).upd b13 (.cells (ansR 0 0 0 0 0 0) 30)).upd b12 (.cells (stR se q' li tl) 85)).upd b13 (.cells (ansR er ya yb 0 0 0) 30)) w := h
  replace hn13 : (M3.upd b12 (.cells st0 85)) b13 = none := hn13
  obtain ⟨hle5, hb12, hb13⟩ := Mm.again (o' := .cells (ansR 0 0 0 0 0 0) 30) hn12 hn13 (.cells (stR se q' li tl) 85) (.cells (ansR er ya yb 0 0 0) 30)
  have HYY := Lib.hid hy
  have HL3 := Lib.hid hle3
  have HB8 := Lib.hid hb81
  have hb47 := hle5 _ _ (hle3 _ _ hb41)
  have hb77 := hle5 _ _ (hle3 _ _ hb71)
  have hb87 := hle5 _ _ (hle3 _ _ hb81)
  have HY5 : Hid (Y M1 ((((M3.upd b12 (.cells st0 85)).upd b13 (.cells (ansR 0 0 0 0 0 0) 30)).upd b12 (.cells (stR se q' li tl) 85)).upd b13 (.cells (ansR er ya yb 0 0 0) 30)) q') := HY.out.le hle5 hy
  have hle6 := Mm.le_trans hle1 (Mm.le_trans hle3 hle5)
  clear hb41 hb61 hb71 hb81 hy hle3 hle5
  generalize (((M3.upd b12 (.cells st0 85)).upd b13 (.cells (ansR 0 0 0 0 0 0) 30)).upd b12 (.cells (stR se q' li tl) 85)).upd b13 (.cells (ansR er ya yb 0 0 0) 30) = M6 at *
  have bz := ansR_size er ya yb 0 0 0
  have bx := ansR_all er ya yb 0 0 0
  have FBA : Hid (sames aa.toList (ansR er ya yb 0 0 0).toList = true) := by show sames aa.toList (ansR er ya yb 0 0 0).toList = true; rw [EB.out]; exact SM.out
  generalize (ansR er ya yb 0 0 0) = bb at *
  have tz := stR_size se q' li tl
  have tx := stR_all se q' li tl
  have to_ := Lib.hid (stR_one (se := se) (q := q') (li := li) (tl := tl) ⟨H1.out.1, hq1, H1.out.2.2⟩)
  generalize hts : stR se q' li tl = ts at *
  have HTS := Lib.hid hts
  clear hts
  go_upto_region 15 with (first
    | ((with_reducible show wpList _ _ _ ({ dst := _, op := Op.load 30 _, type := _, pos := _, after := _, guard := _ } :: _) _ _); refine wpList_agg_has h rfl 30 _ rfl rfl hb77 ax az Tryz.underlying30 rfl (by kernel_rfl) ?_; try simp only [Act.put, List.setIfInBounds_toArray, List.set_cons_zero, List.set_cons_succ])
    | ((with_reducible show wpList _ _ _ ({ dst := _, op := Op.load 30 _, type := _, pos := _, after := _, guard := _ } :: _) _ _); refine wpList_agg_has h rfl 30 _ rfl rfl hb13 bx bz Tryz.underlying30 rfl (by kernel_rfl) ?_; try simp only [Act.put, List.setIfInBounds_toArray, List.set_cons_zero, List.set_cons_succ])
    | ((refine wpList_neq_flat rfl 30 _ _ _ rfl (xs := aa) (ys := bb) rfl rfl 10 (by omega) (ks := ansKs) (by kernel_rfl) rfl (by kernel_rfl) Tryz.underlying30 rfl (by kernel_rfl) FA.out FB.out ?_; rw [FBA.out, Bool.not_true])))
  go_wp2_with (first
    | ((with_reducible show wpList _ _ _ ({ dst := _, op := Op.load 85 _, type := _, pos := _, after := _, guard := _ } :: _) _ _); refine wpList_agg_has h rfl 85 _ rfl rfl hb12 tx tz Tryz.underlying85 rfl (by kernel_rfl) ?_; try simp only [Act.put, List.setIfInBounds_toArray, List.set_cons_zero, List.set_cons_succ])
    | ((with_reducible show wpList _ _ _ ({ dst := _, op := Op.store 85 _ _, type := _, pos := _, after := _, guard := _ } :: _) _ _); refine wpList_storeAll_has (cells := ts) h rfl 85 _ _ rfl rfl rfl hb87 rfl (z0.trans tz.symm) rfl (by rw [tz]; kernel_rfl) to_.out ?_; clear h; intro w h))
  exact bodyPost_ret (results_ct rfl (CellRes.of h (Mm.upd_same _ _ _) rfl Tryz.underlying85 rfl (by rw [tz]; kernel_rfl))) rfl ⟨q', _, by rw [HTS.out]; rfl, hq1, h, Mm.le_upd hle6 hn8 _, HY.out.base hle1 (HY.out.upd HB8.out HY5.out _)⟩
set_option maxHeartbeats 2000000 in
set_option maxRecDepth 20000 in
theorem told_no (hY : Stays Y) (h : Has σ M w) (se q li tl : Value) (op ky pa pb ha rg xa xb er ya yb : Int) (ho : op = 6 ∨ op = 7) (h1 : One4 se q li tl)
    (TD : ∀ (M : Mm) (w : World), Has σ M w → Calls Tryz.prog 92 #[.agg (callR op 0 ky pa pb ha 0), .agg (ansR 0 xa xb 0 0 0)] w fun r w' => r = .returned (.agg (ansR 0 xa xb 0 0 0)) ∧ Has σ M w')
    (LN : ∀ (M' : Mm) (w : World), M.le M' → Has σ M' w → Calls Tryz.prog 86 #[.agg (stR se q li tl), .agg (callR op 0 ky pa pb ha 0)] w fun r w' => Out Y σ M' se li tl er ya yb r w') (hne : er ≠ 0) :
    Calls Tryz.prog 57 #[.agg (stR se q li tl), .int .i64 0, .agg (callR op 0 ky pa pb ha rg), .agg (ansR 0 xa xb 0 0 0)] w fun r w' => r = .returned (.tuple #[.agg (stR se q li tl), .bool false]) ∧ Has σ M w' := by
  have EB : Hid (sames (ansR 0 xa xb 0 0 0).toList (ansR er ya yb 0 0 0).toList = false) := by
    have : ((0 : Int) == er) = false := beq_eq_false_iff_ne.2 (Ne.symm hne)
    show sames (ansR 0 xa xb 0 0 0).toList (ansR er ya yb 0 0 0).toList = false
    simp [ansR, sames, same, this]
  clear hne
  have TD := Lib.hid TD
  have FT := Lib.hid (fun (M : Mm) (w : World) (h : Has σ M w) => fits_ok h op ky pa pb ha 0 xa xb ⟨by omega, by omega⟩ TD.out fun M w h => fine_67 h op 0 ky pa pb ha 0 xa xb 0 0 ho)
  have RF := Lib.hid (fun (M : Mm) (w : World) (h : Has σ M w) => refused_ok h se q li tl op ky pa pb ha 0 ⟨by omega, by omega⟩)
  have MN := Lib.hid (fun (M : Mm) (w : World) (h : Has σ M w) => mayNot_ok h se q li tl true op ky pa pb ha 0 xa xb FT.out)
  have DO := Lib.hid (fun (M' : Mm) (w : World) (hM : M.le M') (h : Has σ M' w) => does_out hY h se q li tl op ky pa pb ha 0 er ya yb 0 true ho h1 fun M'' w hM' h' => LN M'' w (Mm.le_trans hM hM') h')
  have H1 := Lib.hid h1
  have HY := Lib.hid hY
  have o12 : (op == 12) = false := by rcases ho with rfl | rfl <;> rfl
  have o9 : (op == 9) = false := by rcases ho with rfl | rfl <;> rfl
  have cz := callR_size op 0 ky pa pb ha 0
  have cx := callR_all op 0 ky pa pb ha 0
  have c0 := callR_op op 0 ky pa pb ha 0
  have cs6 : (callR op 0 ky pa pb ha rg).setIfInBounds 6 (.int .i64 0) = (callR op 0 ky pa pb ha 0) := rfl
  have cz0 := callR_size op 0 ky pa pb ha rg
  have az := ansR_size 0 xa xb 0 0 0
  have ax := ansR_all 0 xa xb 0 0 0
  have a0 : (ansR 0 xa xb 0 0 0)[0]? = some (.int .i64 0) := rfl
  have a3 : (ansR 0 xa xb 0 0 0)[3]? = some (.int .u64 0) := rfl
  have rc := stR_conf se q li tl
  have rv := stR_lv se q li tl
  have oz := oneR_size
  have rz := stR_size se q li tl
  have ra := stR_all se q li tl
  have ro := Lib.hid (stR_one (se := se) (q := q) (li := li) (tl := tl) h1)
  have z0 := st0_size
  have FA := Lib.hid (ansR_fits 0 xa xb 0 0 0)
  have FB := Lib.hid (ansR_fits er ya yb 0 0 0)
  have lv := Lib.hid (fun (M : Mm) (w : World) (h : Has σ M w) => level_one h)
  clear ho h1 hY LN
  generalize hcc : (callR op 0 ky pa pb ha 0) = cc at *
  generalize callR op 0 ky pa pb ha rg = cr at *
  have SM : Hid (sames (ansR 0 xa xb 0 0 0).toList (ansR 0 xa xb 0 0 0).toList = true) := ansR_same 0 xa xb 0 0 0
  generalize hrs : stR se q li tl = rs at *
  have HRS := Lib.hid hrs
  generalize haa : (ansR 0 xa xb 0 0 0) = aa at *
  generalize hoo : oneR = oo at *
  clear hrs hcc haa hoo
  go_enter Tryz.func57, Tryz.ntmps57
  go_upto_region 1 with (first
    | ((with_reducible show wpList _ _ _ ({ dst := _, op := Op.box 85 _, type := _, pos := _, after := _, guard := _ } :: _) _ _); refine wpList_box_has h rfl 85 _ rfl ?_; clear h; intro b4 w h hn4; try simp only [Act.put, List.setIfInBounds_toArray, List.set_cons_zero, List.set_cons_succ])
    | ((with_reducible show wpList _ _ _ ({ dst := _, op := Op.box 27 _, type := _, pos := _, after := _, guard := _ } :: _) _ _); refine wpList_box_has h rfl 27 _ rfl ?_; clear h; intro b6 w h hn6; try simp only [Act.put, List.setIfInBounds_toArray, List.set_cons_zero, List.set_cons_succ])
    | ((with_reducible show wpList _ _ _ ({ dst := _, op := Op.box 30 _, type := _, pos := _, after := _, guard := _ } :: _) _ _); refine wpList_box_has h rfl 30 _ rfl ?_; clear h; intro b7 w h hn7; try simp only [Act.put, List.setIfInBounds_toArray, List.set_cons_zero, List.set_cons_succ])
    | ((with_reducible show wpList _ _ _ ({ dst := some 8, op := Op.alloc 85, type := _, pos := _, after := _, guard := _ } :: _) _ _); refine wpList_alloc_has h rfl 85 rfl _ zst ?_; clear h; intro b8 w h hn8; try simp only [Act.put, List.setIfInBounds_toArray, List.set_cons_zero, List.set_cons_succ]))
  replace hn4 : M b4 = none := hn4
  replace hn6 : (M.upd b4 (.cells rs 85)) b6 = none := hn6
  replace hn7 : ((M.upd b4 (.cells rs 85)).upd b6 (.cells cr 27)) b7 = none := hn7
  replace hn8 : (((M.upd b4 (.cells rs 85)).upd b6 (.cells cr 27)).upd b7 (.cells aa 30)) b8 = none := hn8
  replace h : Has σ ((((M.upd b4 (.cells rs 85)).upd b6 (.cells cr 27)).upd b7 (.cells aa 30)).upd b8 (.cells st0 85)) w := h
  have hle2 : M.le ((((M.upd b4 (.cells rs 85)).upd b6 (.cells cr 27)).upd b7 (.cells aa 30)).upd b8 (.cells st0 85)) := Mm.le_trans (Mm.le_upd' hn4 _) (Mm.le_trans (Mm.le_upd' hn6 _) (Mm.le_trans (Mm.le_upd' hn7 _) (Mm.le_upd' hn8 _)))
  have hb4 : ((((M.upd b4 (.cells rs 85)).upd b6 (.cells cr 27)).upd b7 (.cells aa 30)).upd b8 (.cells st0 85)) b4 = some (.cells rs 85) := (Mm.le_trans (Mm.le_upd' hn6 _) (Mm.le_trans (Mm.le_upd' hn7 _) (Mm.le_upd' hn8 _))) _ _ (Mm.upd_same _ _ _)
  have hb6 : ((((M.upd b4 (.cells rs 85)).upd b6 (.cells cr 27)).upd b7 (.cells aa 30)).upd b8 (.cells st0 85)) b6 = some (.cells cr 27) := (Mm.le_trans (Mm.le_upd' hn7 _) (Mm.le_upd' hn8 _)) _ _ (Mm.upd_same _ _ _)
  have hb7 : ((((M.upd b4 (.cells rs 85)).upd b6 (.cells cr 27)).upd b7 (.cells aa 30)).upd b8 (.cells st0 85)) b7 = some (.cells aa 30) := (Mm.le_upd' hn8 _) _ _ (Mm.upd_same _ _ _)
  have hb8 : ((((M.upd b4 (.cells rs 85)).upd b6 (.cells cr 27)).upd b7 (.cells aa 30)).upd b8 (.cells st0 85)) b8 = some (.cells st0 85) := (Mm.le_refl _) _ _ (Mm.upd_same _ _ _)
  have n_b4_b6 : b4 ≠ b6 := Mm.ne_of hn6 ((Mm.le_refl _) _ _ (Mm.upd_same _ _ _))
  have n_b4_b7 : b4 ≠ b7 := Mm.ne_of hn7 ((Mm.le_upd' hn6 _) _ _ (Mm.upd_same _ _ _))
  have n_b6_b7 : b6 ≠ b7 := Mm.ne_of hn7 ((Mm.le_refl _) _ _ (Mm.upd_same _ _ _))
  have n_b4_b8 : b4 ≠ b8 := Mm.ne_of hn8 ((Mm.le_trans (Mm.le_upd' hn6 _) (Mm.le_upd' hn7 _)) _ _ (Mm.upd_same _ _ _))
  have n_b6_b8 : b6 ≠ b8 := Mm.ne_of hn8 ((Mm.le_upd' hn7 _) _ _ (Mm.upd_same _ _ _))
  have n_b7_b8 : b7 ≠ b8 := Mm.ne_of hn8 ((Mm.le_refl _) _ _ (Mm.upd_same _ _ _))
  replace hn8 : M b8 = none := Mm.none_of (Mm.le_trans (Mm.le_upd' hn4 _) (Mm.le_trans (Mm.le_upd' hn6 _) (Mm.le_upd' hn7 _))) hn8
  replace hn7 : M b7 = none := Mm.none_of (Mm.le_trans (Mm.le_upd' hn4 _) (Mm.le_upd' hn6 _)) hn7
  replace hn6 : M b6 = none := Mm.none_of (Mm.le_upd' hn4 _) hn6
  replace hn4 : M b4 = none := Mm.none_of (Mm.le_refl _) hn4
  generalize ((((M.upd b4 (.cells rs 85)).upd b6 (.cells cr 27)).upd b7 (.cells aa 30)).upd b8 (.cells st0 85)) = M2 at h hle2 hb4 hb6 hb7 hb8
  generalize st0 = s0 at *
  have l6 : 6 < cr.size := by rw [cz0]; decide
  go_upto_region 2 with (first
    | (with_reducible show wpList _ _ _ ({ dst := _, op := Op.store 3 _ _, type := _, pos := _, after := _, guard := _ } :: _) _ _; refine wpList_store1_has h rfl 3 _ _ rfl rfl rfl hb6 l6 rfl (by kernel_rfl) ?_; clear h; intro w h))
  replace h : Has σ (M2.upd b6 (.cells cc 27)) w := by rw [← cs6]; exact h
  have hb61 := Mm.upd_same M2 b6 (.cells cc 27)
  have hb41 := (Mm.upd_ne (M := M2) (o := .cells cc 27) n_b4_b6).trans hb4
  have hb71 := (Mm.upd_ne (M := M2) (o := .cells cc 27) (Ne.symm n_b6_b7)).trans hb7
  have hb81 := (Mm.upd_ne (M := M2) (o := .cells cc 27) (Ne.symm n_b6_b8)).trans hb8
  have hle1 : M.le (M2.upd b6 (.cells cc 27)) := Mm.le_upd hle2 hn6 _
  clear hb4 hb6 hb7 hb8 hle2 cs6 cz0 l6
  generalize M2.upd b6 _ = M1 at *
  go_upto_region 5 with (first
    | ((with_reducible show wpList _ _ _ ({ dst := _, op := Op.load 85 _, type := _, pos := _, after := _, guard := _ } :: _) _ _); refine wpList_agg_has h rfl 85 _ rfl rfl hb41 ra rz Tryz.underlying85 rfl (by kernel_rfl) ?_; try simp only [Act.put, List.setIfInBounds_toArray, List.set_cons_zero, List.set_cons_succ])
    | ((with_reducible show wpList _ _ _ ({ dst := _, op := Op.load 27 _, type := _, pos := _, after := _, guard := _ } :: _) _ _); refine wpList_agg_has h rfl 27 _ rfl rfl hb61 cx cz Tryz.underlying27 rfl (by kernel_rfl) ?_; try simp only [Act.put, List.setIfInBounds_toArray, List.set_cons_zero, List.set_cons_succ])
    | (go_at_call 68; refine (RF.out _ _ h).mono ?_; clear h; rintro _ w ⟨rfl, h⟩))
  have LV1 := Lib.hid (lv.out M1)
  refine wp_region_class (Has σ M1) (by kernel_rfl) (by kernel_rfl) h.drew ?_
  clear h
  repeat (first
    | go_big_quiet_skip
    | (go_big_quiet_want; first
      | (refine quiet_agg_has 38 _ rfl rfl hb41 rc oz Tryz.underlying38 rfl (by kernel_rfl) ?_; simp only [Act.put, List.setIfInBounds_toArray, List.set_cons_zero, List.set_cons_succ]; go_big_quiet_on)
      | (refine quiet_load_has 3 _ rfl rfl hb41 rv Tryz.underlying3 rfl ?_; simp only [Act.put, List.setIfInBounds_toArray, List.set_cons_zero, List.set_cons_succ]; go_big_quiet_on)
      | (go_big_quiet_op; first | go_big_quiet_on | go_big_quiet_call (first | with_reducible exact fun _ => rfl | with_reducible exact LV1.out _))))
  refine wpQuiet_nil ?_
  try clear w
  intro w h
  go_upto_region 12 with (first
    | ((with_reducible show wpList _ _ _ ({ dst := _, op := Op.load 85 _, type := _, pos := _, after := _, guard := _ } :: _) _ _); refine wpList_agg_has h rfl 85 _ rfl rfl hb41 ra rz Tryz.underlying85 rfl (by kernel_rfl) ?_; try simp only [Act.put, List.setIfInBounds_toArray, List.set_cons_zero, List.set_cons_succ])
    | ((with_reducible show wpList _ _ _ ({ dst := _, op := Op.load 27 _, type := _, pos := _, after := _, guard := _ } :: _) _ _); refine wpList_agg_has h rfl 27 _ rfl rfl hb61 cx cz Tryz.underlying27 rfl (by kernel_rfl) ?_; try simp only [Act.put, List.setIfInBounds_toArray, List.set_cons_zero, List.set_cons_succ])
    | ((with_reducible show wpList _ _ _ ({ dst := _, op := Op.load 30 _, type := _, pos := _, after := _, guard := _ } :: _) _ _); refine wpList_agg_has h rfl 30 _ rfl rfl hb71 ax az Tryz.underlying30 rfl (by kernel_rfl) ?_; try simp only [Act.put, List.setIfInBounds_toArray, List.set_cons_zero, List.set_cons_succ])
    | (go_at_call 72; refine (MN.out _ _ h).mono ?_; clear h; rintro _ w ⟨rfl, h⟩)
    | (with_reducible show wpList _ _ _ ({ dst := _, op := Op.load 3 _, type := _, pos := _, after := _, guard := _ } :: _) _ _; refine wpList_load1_has h rfl 3 _ rfl rfl hb61 c0 Tryz.underlying3 rfl ?_))
  go_upto_region 13 with (first
    | ((with_reducible show wpList _ _ _ ({ dst := _, op := Op.load 85 _, type := _, pos := _, after := _, guard := _ } :: _) _ _); refine wpList_agg_has h rfl 85 _ rfl rfl hb41 ra rz Tryz.underlying85 rfl (by kernel_rfl) ?_; try simp only [Act.put, List.setIfInBounds_toArray, List.set_cons_zero, List.set_cons_succ])
    | ((with_reducible show wpList _ _ _ ({ dst := _, op := Op.load 27 _, type := _, pos := _, after := _, guard := _ } :: _) _ _); refine wpList_agg_has h rfl 27 _ rfl rfl hb61 cx cz Tryz.underlying27 rfl (by kernel_rfl) ?_; try simp only [Act.put, List.setIfInBounds_toArray, List.set_cons_zero, List.set_cons_succ])
    | (with_reducible show wpList _ _ _ ({ dst := _, op := Op.load 23 _, type := _, pos := _, after := _, guard := _ } :: _) _ _; refine wpList_load1_has h rfl 23 _ rfl rfl hb71 a3 Tryz.underlying23 rfl ?_)
    | (go_at_call 69; refine (DO.out _ _ hle1 h).mono ?_; clear h; rintro _ w ⟨q', M3, rfl, hq1, h, hle3, hy⟩)
    | ((with_reducible show wpList _ _ _ ({ dst := some 12, op := Op.alloc 85, type := _, pos := _, after := _, guard := _ } :: _) _ _); refine wpList_alloc_has h rfl 85 rfl _ zst ?_; clear h; intro b12 w h hn12; try simp only [Act.put, List.setIfInBounds_toArray, List.set_cons_zero, List.set_cons_succ])
    | ((with_reducible show wpList _ _ _ ({ dst := some 13, op := Op.alloc 30, type := _, pos := _, after := _, guard := _ } :: _) _ _); refine wpList_alloc_has h rfl 30 rfl _ zans ?_; clear h; intro b13 w h hn13; try simp only [Act.put, List.setIfInBounds_toArray, List.set_cons_zero, List.set_cons_succ])
    | ((with_reducible show wpList _ _ _ ({ dst := _, op := Op.store 85 _ _, type := _, pos := _, after := _, guard := _ } :: _) _ _); have hx12 := Mm.le_upd' hn13 (.cells (ansR 0 0 0 0 0 0) 30) _ _ (Mm.upd_same M3 b12 (.cells st0 85)); refine wpList_storeAll_has (cells := stR se q' li tl) h rfl 85 _ _ rfl rfl rfl hx12 rfl st0_size (stR_size se q' li tl) (by kernel_rfl) (stR_one ⟨H1.out.1, hq1, H1.out.2.2⟩) ?_; clear h; intro w h)
    | ((with_reducible show wpList _ _ _ ({ dst := _, op := Op.store 30 _ _, type := _, pos := _, after := _, guard := _ } :: _) _ _); have n12_13 := Mm.ne_of hn13 (Mm.upd_same M3 b12 (.cells st0 85)); have hx13 := (Mm.upd_ne (o := .cells (stR se q' li tl) 85) (Ne.symm n12_13)).trans (Mm.upd_same (M3.upd b12 (.cells st0 85)) b13 (.cells (ansR 0 0 0 0 0 0) 30)); refine wpList_storeAll_has (cells := (ansR er ya yb 0 0 0)) h rfl 30 _ _ rfl rfl rfl hx13 rfl rfl rfl (by kernel_rfl) rfl ?_; clear h; intro w h))
  replace h : Has σ ((((M3.upd b12 (.cells st0 85)).upd b13 (.cells (ansR 0 0 0 0 0 0) 30)).upd b12 (.cells (stR se q' li tl) 85)).upd b13 (.cells (ansR er ya yb 0 0 0) 30)) w := h
  replace hn13 : (M3.upd b12 (.cells st0 85)) b13 = none := hn13
  obtain ⟨hle5, hb12, hb13⟩ := Mm.again (o' := .cells (ansR 0 0 0 0 0 0) 30) hn12 hn13 (.cells (stR se q' li tl) 85) (.cells (ansR er ya yb 0 0 0) 30)
  have HYY := Lib.hid hy
  have HL3 := Lib.hid hle3
  have HB8 := Lib.hid hb81
  have hb47 := hle5 _ _ (hle3 _ _ hb41)
  have hb77 := hle5 _ _ (hle3 _ _ hb71)
  have hb87 := hle5 _ _ (hle3 _ _ hb81)
  have HY5 : Hid (Y M1 ((((M3.upd b12 (.cells st0 85)).upd b13 (.cells (ansR 0 0 0 0 0 0) 30)).upd b12 (.cells (stR se q' li tl) 85)).upd b13 (.cells (ansR er ya yb 0 0 0) 30)) q') := HY.out.le hle5 hy
  have hle6 := Mm.le_trans hle1 (Mm.le_trans hle3 hle5)
  clear hb41 hb61 hb71 hb81 hy hle3 hle5
  generalize (((M3.upd b12 (.cells st0 85)).upd b13 (.cells (ansR 0 0 0 0 0 0) 30)).upd b12 (.cells (stR se q' li tl) 85)).upd b13 (.cells (ansR er ya yb 0 0 0) 30) = M6 at *
  have bz := ansR_size er ya yb 0 0 0
  have bx := ansR_all er ya yb 0 0 0
  have FBA : Hid (sames aa.toList (ansR er ya yb 0 0 0).toList = false) := EB
  generalize (ansR er ya yb 0 0 0) = bb at *
  have tz := stR_size se q' li tl
  have tx := stR_all se q' li tl
  have to_ := Lib.hid (stR_one (se := se) (q := q') (li := li) (tl := tl) ⟨H1.out.1, hq1, H1.out.2.2⟩)
  generalize hts : stR se q' li tl = ts at *
  have HTS := Lib.hid hts
  clear hts
  go_upto_region 14 with (first
    | ((with_reducible show wpList _ _ _ ({ dst := _, op := Op.load 30 _, type := _, pos := _, after := _, guard := _ } :: _) _ _); refine wpList_agg_has h rfl 30 _ rfl rfl hb77 ax az Tryz.underlying30 rfl (by kernel_rfl) ?_; try simp only [Act.put, List.setIfInBounds_toArray, List.set_cons_zero, List.set_cons_succ])
    | ((with_reducible show wpList _ _ _ ({ dst := _, op := Op.load 30 _, type := _, pos := _, after := _, guard := _ } :: _) _ _); refine wpList_agg_has h rfl 30 _ rfl rfl hb13 bx bz Tryz.underlying30 rfl (by kernel_rfl) ?_; try simp only [Act.put, List.setIfInBounds_toArray, List.set_cons_zero, List.set_cons_succ])
    | ((refine wpList_neq_flat rfl 30 _ _ _ rfl (xs := aa) (ys := bb) rfl rfl 10 (by omega) (ks := ansKs) (by kernel_rfl) rfl (by kernel_rfl) Tryz.underlying30 rfl (by kernel_rfl) FA.out FB.out ?_; rw [FBA.out, Bool.not_false])))
  go_wp2_with (first
    | ((with_reducible show wpList _ _ _ ({ dst := _, op := Op.load 85 _, type := _, pos := _, after := _, guard := _ } :: _) _ _); refine wpList_agg_has h rfl 85 _ rfl rfl hb47 ra rz Tryz.underlying85 rfl (by kernel_rfl) ?_; try simp only [Act.put, List.setIfInBounds_toArray, List.set_cons_zero, List.set_cons_succ])
    | ((with_reducible show wpList _ _ _ ({ dst := _, op := Op.store 85 _ _, type := _, pos := _, after := _, guard := _ } :: _) _ _); refine wpList_storeAll_has (cells := rs) h rfl 85 _ _ rfl rfl rfl hb87 rfl (z0.trans rz.symm) rfl (by rw [rz]; kernel_rfl) ro.out ?_; clear h; intro w h))
  exact bodyPost_ret (results_ct rfl (CellRes.of h (Mm.upd_same _ _ _) rfl Tryz.underlying85 rfl (by rw [rz]; kernel_rfl))) rfl ⟨rfl, h.le (Mm.le_upd hle6 hn8 _)⟩
end
end Go.Proofs.YtjnhklhgcbknkaaGreatDoor
