/- Layer 13: a state does a call, and is told an answer: Push and Pop of a lone thread. -/
import Derived.Test.YtjnhklhgcbknkaaGreatDoorMnD
namespace Go.Proofs.YtjnhklhgcbknkaaGreatDoor
open Go.RowKit
set_option linter.unusedVariables false
set_option linter.unusedSimpArgs false
set_option linter.unnecessarySimpa false
/-- What is said of the line behind a call stays true as other blocks change. -/
structure Stays (Y : Mm → Mm → Value → Prop) : Prop where
  base : ∀ {M0 M M' q}, M0.le M → Y M M' q → Y M0 M' q
  le : ∀ {M M' M2 q}, M'.le M2 → Y M M' q → Y M M2 q
  upd : ∀ {M M' q b o}, M b = some o → Y M M' q → ∀ o', Y M (M'.upd b o') q
theorem stays_own (n : Nat) (xs : List Value) : Stays (fun M M' q => Own M M' 25 2 q n xs) := ⟨fun hl h => h.base fun b hb => Mm.none_of hl hb, fun hl h => h.le hl, fun hb h o' => h.upd_at hb o'⟩
theorem stays_any (p : Value → Prop) : Stays (fun _ _ q => p q) := ⟨fun _ h => h, fun _ h => h, fun _ h _ => h⟩
/-- A state and an answer are told. -/
def Out (Y : Mm → Mm → Value → Prop) (σ : World) (M : Mm) (se li tl : Value) (er pa pb : Int) (r : Ending) (w' : World) : Prop :=
  ∃ (q' : Value) (M' : Mm), r = .returned (.tuple #[.agg (stR se q' li tl), .agg (ansR er pa pb 0 0 0)]) ∧ q'.oneCell' = true ∧ Has σ M' w' ∧ M.le M' ∧ Y M M' q'
section
variable {σ w : World} {M : Mm} {Y : Mm → Mm → Value → Prop}
set_option maxHeartbeats 1000000 in
set_option maxRecDepth 20000 in
theorem does_out (hY : Stays Y) (h : Has σ M w) (se q li tl : Value) (op ky pa pb ha rg er xa xb told : Int) (own : Bool) (ho : op = 6 ∨ op = 7) (h1 : One4 se q li tl)
    (LN : ∀ (M' : Mm) (w : World), M.le M' → Has σ M' w → Calls Tryz.prog 86 #[.agg (stR se q li tl), .agg (callR op 0 ky pa pb ha rg)] w fun r w' => Out Y σ M' se li tl er xa xb r w') :
    Calls Tryz.prog 69 #[.agg (stR se q li tl), .bool own, .agg (callR op 0 ky pa pb ha rg), .int .u64 told] w fun r w' => Out Y σ M se li tl er xa xb r w' := by
  have H1 := Lib.hid h1
  have LN := Lib.hid LN
  have HY := Lib.hid hY
  have o0 : (op == 0) = false := by rcases ho with rfl | rfl <;> rfl
  have o1 : (op == 1) = false := by rcases ho with rfl | rfl <;> rfl
  have o2 : (op == 2) = false := by rcases ho with rfl | rfl <;> rfl
  have o3 : (op == 3) = false := by rcases ho with rfl | rfl <;> rfl
  have o4 : (op == 4) = false := by rcases ho with rfl | rfl <;> rfl
  have o5 : (op == 5) = false := by rcases ho with rfl | rfl <;> rfl
  have o7 : (op == 6) = true ∨ (op == 6) = false ∧ (op == 7) = true := by rcases ho with rfl | rfl <;> simp
  have cz := callR_size op 0 ky pa pb ha rg
  have cx := callR_all op 0 ky pa pb ha rg
  have c0 := callR_op op 0 ky pa pb ha rg
  have rz := stR_size se q li tl
  have ra := stR_all se q li tl
  have z0 := st0_size
  clear h1 ho hY
  generalize callR op 0 ky pa pb ha rg = cc at *
  generalize stR se q li tl = rs at *
  go_enter Tryz.func69, Tryz.ntmps69
  go_upto_region 1 with (first
    | ((with_reducible show wpList _ _ _ ({ dst := _, op := Op.box 85 _, type := _, pos := _, after := _, guard := _ } :: _) _ _); refine wpList_box_has h rfl 85 _ rfl ?_; clear h; intro b2 w h hn2; try simp only [Act.put, List.setIfInBounds_toArray, List.set_cons_zero, List.set_cons_succ])
    | ((with_reducible show wpList _ _ _ ({ dst := _, op := Op.box 27 _, type := _, pos := _, after := _, guard := _ } :: _) _ _); refine wpList_box_has h rfl 27 _ rfl ?_; clear h; intro b3 w h hn3; try simp only [Act.put, List.setIfInBounds_toArray, List.set_cons_zero, List.set_cons_succ])
    | ((with_reducible show wpList _ _ _ ({ dst := some 8, op := Op.alloc 85, type := _, pos := _, after := _, guard := _ } :: _) _ _); refine wpList_alloc_has h rfl 85 rfl _ zst ?_; clear h; intro b4 w h hn4; try simp only [Act.put, List.setIfInBounds_toArray, List.set_cons_zero, List.set_cons_succ])
    | ((with_reducible show wpList _ _ _ ({ dst := some 9, op := Op.alloc 30, type := _, pos := _, after := _, guard := _ } :: _) _ _); refine wpList_alloc_has h rfl 30 rfl _ zans ?_; clear h; intro b5 w h hn5; try simp only [Act.put, List.setIfInBounds_toArray, List.set_cons_zero, List.set_cons_succ]))
  replace hn2 : M b2 = none := hn2
  replace hn3 : (M.upd b2 (.cells rs 85)) b3 = none := hn3
  replace hn4 : ((M.upd b2 (.cells rs 85)).upd b3 (.cells cc 27)) b4 = none := hn4
  replace hn5 : (((M.upd b2 (.cells rs 85)).upd b3 (.cells cc 27)).upd b4 (.cells st0 85)) b5 = none := hn5
  replace h : Has σ ((((M.upd b2 (.cells rs 85)).upd b3 (.cells cc 27)).upd b4 (.cells st0 85)).upd b5 (.cells (ansR 0 0 0 0 0 0) 30)) w := h
  have hle2 : M.le ((((M.upd b2 (.cells rs 85)).upd b3 (.cells cc 27)).upd b4 (.cells st0 85)).upd b5 (.cells (ansR 0 0 0 0 0 0) 30)) := Mm.le_trans (Mm.le_upd' hn2 _) (Mm.le_trans (Mm.le_upd' hn3 _) (Mm.le_trans (Mm.le_upd' hn4 _) (Mm.le_upd' hn5 _)))
  have hb2 : ((((M.upd b2 (.cells rs 85)).upd b3 (.cells cc 27)).upd b4 (.cells st0 85)).upd b5 (.cells (ansR 0 0 0 0 0 0) 30)) b2 = some (.cells rs 85) := (Mm.le_trans (Mm.le_upd' hn3 _) (Mm.le_trans (Mm.le_upd' hn4 _) (Mm.le_upd' hn5 _))) _ _ (Mm.upd_same _ _ _)
  have hb3 : ((((M.upd b2 (.cells rs 85)).upd b3 (.cells cc 27)).upd b4 (.cells st0 85)).upd b5 (.cells (ansR 0 0 0 0 0 0) 30)) b3 = some (.cells cc 27) := (Mm.le_trans (Mm.le_upd' hn4 _) (Mm.le_upd' hn5 _)) _ _ (Mm.upd_same _ _ _)
  have hb4 : ((((M.upd b2 (.cells rs 85)).upd b3 (.cells cc 27)).upd b4 (.cells st0 85)).upd b5 (.cells (ansR 0 0 0 0 0 0) 30)) b4 = some (.cells st0 85) := (Mm.le_upd' hn5 _) _ _ (Mm.upd_same _ _ _)
  have hb5 : ((((M.upd b2 (.cells rs 85)).upd b3 (.cells cc 27)).upd b4 (.cells st0 85)).upd b5 (.cells (ansR 0 0 0 0 0 0) 30)) b5 = some (.cells (ansR 0 0 0 0 0 0) 30) := (Mm.le_refl _) _ _ (Mm.upd_same _ _ _)
  have n_b2_b3 : b2 ≠ b3 := Mm.ne_of hn3 ((Mm.le_refl _) _ _ (Mm.upd_same _ _ _))
  have n_b2_b4 : b2 ≠ b4 := Mm.ne_of hn4 ((Mm.le_upd' hn3 _) _ _ (Mm.upd_same _ _ _))
  have n_b3_b4 : b3 ≠ b4 := Mm.ne_of hn4 ((Mm.le_refl _) _ _ (Mm.upd_same _ _ _))
  have n_b2_b5 : b2 ≠ b5 := Mm.ne_of hn5 ((Mm.le_trans (Mm.le_upd' hn3 _) (Mm.le_upd' hn4 _)) _ _ (Mm.upd_same _ _ _))
  have n_b3_b5 : b3 ≠ b5 := Mm.ne_of hn5 ((Mm.le_upd' hn4 _) _ _ (Mm.upd_same _ _ _))
  have n_b4_b5 : b4 ≠ b5 := Mm.ne_of hn5 ((Mm.le_refl _) _ _ (Mm.upd_same _ _ _))
  replace hn5 : M b5 = none := Mm.none_of (Mm.le_trans (Mm.le_upd' hn2 _) (Mm.le_trans (Mm.le_upd' hn3 _) (Mm.le_upd' hn4 _))) hn5
  replace hn4 : M b4 = none := Mm.none_of (Mm.le_trans (Mm.le_upd' hn2 _) (Mm.le_upd' hn3 _)) hn4
  replace hn3 : M b3 = none := Mm.none_of (Mm.le_upd' hn2 _) hn3
  replace hn2 : M b2 = none := Mm.none_of (Mm.le_refl _) hn2
  generalize ((((M.upd b2 (.cells rs 85)).upd b3 (.cells cc 27)).upd b4 (.cells st0 85)).upd b5 (.cells (ansR 0 0 0 0 0 0) 30)) = M2 at h hle2 hb2 hb3 hb4 hb5
  generalize st0 = s0 at *
  rcases o7 with o6 | ⟨o6, o7⟩
  all_goals
    go_upto_region 18 with (first
      | (with_reducible show wpList _ _ _ ({ dst := _, op := Op.load 3 _, type := _, pos := _, after := _, guard := _ } :: _) _ _; refine wpList_load1_has h rfl 3 _ rfl rfl hb3 c0 Tryz.underlying3 rfl ?_))
    go_wp2_with (first
      | ((with_reducible show wpList _ _ _ ({ dst := _, op := Op.load 85 _, type := _, pos := _, after := _, guard := _ } :: _) _ _); refine wpList_agg_has h rfl 85 _ rfl rfl hb2 ra rz Tryz.underlying85 rfl (by kernel_rfl) ?_; try simp only [Act.put, List.setIfInBounds_toArray, List.set_cons_zero, List.set_cons_succ])
      | ((with_reducible show wpList _ _ _ ({ dst := _, op := Op.load 27 _, type := _, pos := _, after := _, guard := _ } :: _) _ _); refine wpList_agg_has h rfl 27 _ rfl rfl hb3 cx cz Tryz.underlying27 rfl (by kernel_rfl) ?_; try simp only [Act.put, List.setIfInBounds_toArray, List.set_cons_zero, List.set_cons_succ])
      | (go_at_call 86; refine (LN.out _ _ hle2 h).mono ?_; clear h; rintro _ w ⟨q', M3, rfl, hq1, h, hle3, hy⟩)
      | ((with_reducible show wpList _ _ _ ({ dst := _, op := Op.store 85 _ _, type := _, pos := _, after := _, guard := _ } :: _) _ _); have hb43 := hle3 _ _ hb4; refine wpList_storeAll_has (cells := stR se q' li tl) h rfl 85 _ _ rfl rfl rfl hb43 rfl z0 (stR_size se q' li tl) (by kernel_rfl) (stR_one ⟨H1.out.1, hq1, H1.out.2.2⟩) ?_; clear h; intro w h)
      | ((with_reducible show wpList _ _ _ ({ dst := _, op := Op.store 30 _ _, type := _, pos := _, after := _, guard := _ } :: _) _ _); have hb53 := (Mm.upd_ne (o := .cells (stR se q' li tl) 85) (Ne.symm n_b4_b5)).trans (hle3 _ _ hb5); refine wpList_storeAll_has (cells := ansR er xa xb 0 0 0) h rfl 30 _ _ rfl rfl rfl hb53 rfl rfl rfl (by kernel_rfl) rfl ?_; clear h; intro w h))
    exact bodyPost_ret (results_cc rfl (CellRes.of h ((Mm.upd_ne n_b4_b5).trans (Mm.upd_same _ _ _)) rfl Tryz.underlying85 rfl (by rw [stR_size]; kernel_rfl)) (CellRes.of h (Mm.upd_same _ _ _) rfl Tryz.underlying30 rfl (by kernel_rfl))) rfl
      ⟨q', _, rfl, hq1, h, Mm.le_upd (Mm.le_upd (Mm.le_trans hle2 hle3) hn4 _) hn5 _, HY.out.base hle2 (HY.out.upd hb5 (HY.out.upd hb4 hy _) _)⟩
theorem Out.le {hY : Stays Y} {M0 : Mm} {se li tl : Value} {er pa pb : Int} {r : Ending} {w' : World} (hl : M0.le M) (h : Out Y σ M se li tl er pa pb r w') : Out Y σ M0 se li tl er pa pb r w' := by
  obtain ⟨q', M', e, h1, h2, h3, h4⟩ := h
  exact ⟨q', M', e, h1, h2, Mm.le_trans hl h3, hY.base hl h4⟩
set_option maxHeartbeats 1000000 in
set_option maxRecDepth 20000 in
theorem refused_ok (h : Has σ M w) (se q li tl : Value) (op ky pa pb ha rg : Int) (ho : OkCall op rg) :
    Calls Tryz.prog 68 #[.agg (stR se q li tl), .int .i64 0, .agg (callR op 0 ky pa pb ha rg)] w fun r w' => r = .returned (.int .i64 0) ∧ Has σ M w' := by
  have PY := Lib.hid (fun (M : Mm) (w : World) (h : Has σ M w) => policy_one h op ky pa pb ha rg ho)
  have cz := callR_size op 0 ky pa pb ha rg
  have cx := callR_all op 0 ky pa pb ha rg
  have c1 : (callR op 0 ky pa pb ha rg)[1]? = some (.int .i64 0) := rfl
  have rc := stR_conf se q li tl
  have rv := stR_lv se q li tl
  have oz := oneR_size
  clear ho
  generalize callR op 0 ky pa pb ha rg = cc at *
  generalize stR se q li tl = rs at *
  generalize oneR = oo at *
  go_enter Tryz.func68, Tryz.ntmps68
  go_upto_region 1 with (first
    | ((with_reducible show wpList _ _ _ ({ dst := _, op := Op.box 85 _, type := _, pos := _, after := _, guard := _ } :: _) _ _); refine wpList_box_has h rfl 85 _ rfl ?_; clear h; intro b2 w h hn2; try simp only [Act.put, List.setIfInBounds_toArray, List.set_cons_zero, List.set_cons_succ])
    | ((with_reducible show wpList _ _ _ ({ dst := _, op := Op.box 27 _, type := _, pos := _, after := _, guard := _ } :: _) _ _); refine wpList_box_has h rfl 27 _ rfl ?_; clear h; intro b3 w h hn3; try simp only [Act.put, List.setIfInBounds_toArray, List.set_cons_zero, List.set_cons_succ]))
  replace hn2 : M b2 = none := hn2
  replace hn3 : (M.upd b2 (.cells rs 85)) b3 = none := hn3
  replace h : Has σ ((M.upd b2 (.cells rs 85)).upd b3 (.cells cc 27)) w := h
  have hle2 : M.le ((M.upd b2 (.cells rs 85)).upd b3 (.cells cc 27)) := Mm.le_trans (Mm.le_upd' hn2 _) (Mm.le_upd' hn3 _)
  have hb2 : ((M.upd b2 (.cells rs 85)).upd b3 (.cells cc 27)) b2 = some (.cells rs 85) := (Mm.le_upd' hn3 _) _ _ (Mm.upd_same _ _ _)
  have hb3 : ((M.upd b2 (.cells rs 85)).upd b3 (.cells cc 27)) b3 = some (.cells cc 27) := (Mm.le_refl _) _ _ (Mm.upd_same _ _ _)
  have n_b2_b3 : b2 ≠ b3 := Mm.ne_of hn3 ((Mm.le_refl _) _ _ (Mm.upd_same _ _ _))
  replace hn3 : M b3 = none := Mm.none_of (Mm.le_upd' hn2 _) hn3
  replace hn2 : M b2 = none := Mm.none_of (Mm.le_refl _) hn2
  generalize ((M.upd b2 (.cells rs 85)).upd b3 (.cells cc 27)) = M2 at h hle2 hb2 hb3
  go_wp2_with (first
    | (with_reducible show wpList _ _ _ ({ dst := _, op := Op.load 3 _, type := _, pos := _, after := _, guard := _ } :: _) _ _; refine wpList_load1_has h rfl 3 _ rfl rfl hb3 c1 Tryz.underlying3 rfl ?_)
    | (with_reducible show wpList _ _ _ ({ dst := _, op := Op.load 3 _, type := _, pos := _, after := _, guard := _ } :: _) _ _; refine wpList_load1_has h rfl 3 _ rfl rfl hb2 rv Tryz.underlying3 rfl ?_)
    | ((with_reducible show wpList _ _ _ ({ dst := _, op := Op.load 38 _, type := _, pos := _, after := _, guard := _ } :: _) _ _); refine wpList_agg_has h rfl 38 _ rfl rfl hb2 rc oz Tryz.underlying38 rfl (by kernel_rfl) ?_; try simp only [Act.put, List.setIfInBounds_toArray, List.set_cons_zero, List.set_cons_succ])
    | ((with_reducible show wpList _ _ _ ({ dst := _, op := Op.load 27 _, type := _, pos := _, after := _, guard := _ } :: _) _ _); refine wpList_agg_has h rfl 27 _ rfl rfl hb3 cx cz Tryz.underlying27 rfl (by kernel_rfl) ?_; try simp only [Act.put, List.setIfInBounds_toArray, List.set_cons_zero, List.set_cons_succ])
    | (go_at_call 82; refine (PY.out _ _ h).mono ?_; clear h; rintro _ w ⟨rfl, h⟩)
    | (go_at_call 81; refine (code_nil h).mono ?_; clear h; rintro _ w ⟨rfl, h⟩))
  go_ret
  exact ⟨rfl, h.le hle2⟩
set_option maxHeartbeats 1000000 in
set_option maxRecDepth 20000 in
theorem mayNot_ok (h : Has σ M w) (se q li tl : Value) (own : Bool) (op ky pa pb ha rg xa xb : Int)
    (FT : ∀ (M : Mm) (w : World), Has σ M w → Calls Tryz.prog 73 #[.agg (callR op 0 ky pa pb ha rg), .agg (ansR 0 xa xb 0 0 0)] w fun r w' => r = .returned (.bool true) ∧ Has σ M w') :
    Calls Tryz.prog 72 #[.agg (stR se q li tl), .bool own, .agg (callR op 0 ky pa pb ha rg), .agg (ansR 0 xa xb 0 0 0)] w fun r w' => r = .returned (.bool false) ∧ Has σ M w' := by
  have FT := Lib.hid FT
  have cz := callR_size op 0 ky pa pb ha rg
  have cx := callR_all op 0 ky pa pb ha rg
  have az := ansR_size 0 xa xb 0 0 0
  have ax := ansR_all 0 xa xb 0 0 0
  have a0 : (ansR 0 xa xb 0 0 0)[0]? = some (.int .i64 0) := rfl
  generalize callR op 0 ky pa pb ha rg = cc at *
  generalize stR se q li tl = rs at *
  generalize ansR 0 xa xb 0 0 0 = aa at *
  go_enter Tryz.func72, Tryz.ntmps72
  go_upto_region 1 with (first
    | ((with_reducible show wpList _ _ _ ({ dst := _, op := Op.box 85 _, type := _, pos := _, after := _, guard := _ } :: _) _ _); refine wpList_box_has h rfl 85 _ rfl ?_; clear h; intro b2 w h hn2; try simp only [Act.put, List.setIfInBounds_toArray, List.set_cons_zero, List.set_cons_succ])
    | ((with_reducible show wpList _ _ _ ({ dst := _, op := Op.box 27 _, type := _, pos := _, after := _, guard := _ } :: _) _ _); refine wpList_box_has h rfl 27 _ rfl ?_; clear h; intro b3 w h hn3; try simp only [Act.put, List.setIfInBounds_toArray, List.set_cons_zero, List.set_cons_succ])
    | ((with_reducible show wpList _ _ _ ({ dst := _, op := Op.box 30 _, type := _, pos := _, after := _, guard := _ } :: _) _ _); refine wpList_box_has h rfl 30 _ rfl ?_; clear h; intro b4 w h hn4; try simp only [Act.put, List.setIfInBounds_toArray, List.set_cons_zero, List.set_cons_succ]))
  replace hn2 : M b2 = none := hn2
  replace hn3 : (M.upd b2 (.cells rs 85)) b3 = none := hn3
  replace hn4 : ((M.upd b2 (.cells rs 85)).upd b3 (.cells cc 27)) b4 = none := hn4
  replace h : Has σ (((M.upd b2 (.cells rs 85)).upd b3 (.cells cc 27)).upd b4 (.cells aa 30)) w := h
  have hle2 : M.le (((M.upd b2 (.cells rs 85)).upd b3 (.cells cc 27)).upd b4 (.cells aa 30)) := Mm.le_trans (Mm.le_upd' hn2 _) (Mm.le_trans (Mm.le_upd' hn3 _) (Mm.le_upd' hn4 _))
  have hb2 : (((M.upd b2 (.cells rs 85)).upd b3 (.cells cc 27)).upd b4 (.cells aa 30)) b2 = some (.cells rs 85) := (Mm.le_trans (Mm.le_upd' hn3 _) (Mm.le_upd' hn4 _)) _ _ (Mm.upd_same _ _ _)
  have hb3 : (((M.upd b2 (.cells rs 85)).upd b3 (.cells cc 27)).upd b4 (.cells aa 30)) b3 = some (.cells cc 27) := (Mm.le_upd' hn4 _) _ _ (Mm.upd_same _ _ _)
  have hb4 : (((M.upd b2 (.cells rs 85)).upd b3 (.cells cc 27)).upd b4 (.cells aa 30)) b4 = some (.cells aa 30) := (Mm.le_refl _) _ _ (Mm.upd_same _ _ _)
  have n_b2_b3 : b2 ≠ b3 := Mm.ne_of hn3 ((Mm.le_refl _) _ _ (Mm.upd_same _ _ _))
  have n_b2_b4 : b2 ≠ b4 := Mm.ne_of hn4 ((Mm.le_upd' hn3 _) _ _ (Mm.upd_same _ _ _))
  have n_b3_b4 : b3 ≠ b4 := Mm.ne_of hn4 ((Mm.le_refl _) _ _ (Mm.upd_same _ _ _))
  replace hn4 : M b4 = none := Mm.none_of (Mm.le_trans (Mm.le_upd' hn2 _) (Mm.le_upd' hn3 _)) hn4
  replace hn3 : M b3 = none := Mm.none_of (Mm.le_upd' hn2 _) hn3
  replace hn2 : M b2 = none := Mm.none_of (Mm.le_refl _) hn2
  generalize (((M.upd b2 (.cells rs 85)).upd b3 (.cells cc 27)).upd b4 (.cells aa 30)) = M2 at h hle2 hb2 hb3 hb4
  go_wp2_with (first
    | (with_reducible show wpList _ _ _ ({ dst := _, op := Op.load 28 _, type := _, pos := _, after := _, guard := _ } :: _) _ _; refine wpList_load1_has h rfl 28 _ rfl rfl hb4 a0 Tryz.underlying28 rfl ?_)
    | ((with_reducible show wpList _ _ _ ({ dst := _, op := Op.load 30 _, type := _, pos := _, after := _, guard := _ } :: _) _ _); refine wpList_agg_has h rfl 30 _ rfl rfl hb4 ax az Tryz.underlying30 rfl (by kernel_rfl) ?_; try simp only [Act.put, List.setIfInBounds_toArray, List.set_cons_zero, List.set_cons_succ])
    | ((with_reducible show wpList _ _ _ ({ dst := _, op := Op.load 27 _, type := _, pos := _, after := _, guard := _ } :: _) _ _); refine wpList_agg_has h rfl 27 _ rfl rfl hb3 cx cz Tryz.underlying27 rfl (by kernel_rfl) ?_; try simp only [Act.put, List.setIfInBounds_toArray, List.set_cons_zero, List.set_cons_succ])
    | (go_at_call 73; refine (FT.out _ _ h).mono ?_; clear h; rintro _ w ⟨rfl, h⟩))
  go_ret
  exact ⟨rfl, h.le hle2⟩
end
end Go.Proofs.YtjnhklhgcbknkaaGreatDoor
