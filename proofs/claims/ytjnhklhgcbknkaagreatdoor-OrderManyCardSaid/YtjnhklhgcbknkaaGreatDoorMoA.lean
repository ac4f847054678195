/- Layer 10 and 13: rows of a level that has none: Get and Put of a lone thread. -/
import Derived.Test.YtjnhklhgcbknkaaGreatDoorMnF
import Derived.Test.YtjnhklhgcbknkaaGreatDoorRng
namespace Go.Proofs.YtjnhklhgcbknkaaGreatDoor
open Go.RowKit
set_option linter.unusedVariables false
set_option linter.unusedSimpArgs false
set_option linter.unnecessarySimpa false
theorem zrow : (Tryz.prog.info? 59).bind (·.zero) = some (.agg #[.int .i64 0, .int .u64 0, .int .u64 0]) := by kernel_rfl
theorem zintv : (Tryz.prog.info? 3).bind (·.zero) = some (.int .i64 0) := by kernel_rfl
theorem results_tct {P : Program} {w : World} {fn : Func} {tmps : Array Value} {p q u : Tmp} {ty : TypeId} {cs : Array Value} (h : fn.results = #[.tmp q, .cell p ty, .tmp u]) (hp : CellRes P w tmps p ty cs) : (results fn tmps).run P w = .ok (.tuple #[tmps.getD q undef, .agg cs, tmps.getD u undef]) w := by
  obtain ⟨g, h1, h2⟩ := hp.get
  simp [results, h, h1, asAddr, h2]
section
variable {σ w : World} {M : Mm}
set_option maxHeartbeats 1000000 in
theorem tail_nil (h : Has σ M w) (key : Int) : Calls Tryz.prog 154 #[nilS, .int .i64 key] w fun r w' => ∃ (b2 b3 : Nat) (M' : Mm), r = .returned (.func (.func 161) #[] #[.pointer (some ⟨b2, 0, none⟩), .pointer (some ⟨b3, 0, none⟩)]) ∧ Has σ M' w' ∧ M.le M' ∧ M' b2 = some (.cells #[nilS] 51) := by
  go_enter Tryz.func154, Tryz.ntmps154
  go_upto_region 1 with (first
    | ((with_reducible show wpList _ _ _ ({ dst := _, op := Op.box 51 _, type := _, pos := _, after := _, guard := _ } :: _) _ _); refine wpList_box_has h rfl 51 _ rfl ?_; clear h; intro b2 w h hn2; try simp only [Act.put, List.setIfInBounds_toArray, List.set_cons_zero, List.set_cons_succ])
    | ((with_reducible show wpList _ _ _ ({ dst := _, op := Op.box 2 _, type := _, pos := _, after := _, guard := _ } :: _) _ _); refine wpList_box_has h rfl 2 _ rfl ?_; clear h; intro b3 w h hn3; try simp only [Act.put, List.setIfInBounds_toArray, List.set_cons_zero, List.set_cons_succ]))
  replace hn2 : M b2 = none := hn2
  replace hn3 : (M.upd b2 (.cells #[nilS] 51)) b3 = none := hn3
  replace h : Has σ ((M.upd b2 (.cells #[nilS] 51)).upd b3 (.cells #[.int .i64 key] 2)) w := h
  have hle2 : M.le ((M.upd b2 (.cells #[nilS] 51)).upd b3 (.cells #[.int .i64 key] 2)) := Mm.le_trans (Mm.le_upd' hn2 _) (Mm.le_upd' hn3 _)
  have hb2 : ((M.upd b2 (.cells #[nilS] 51)).upd b3 (.cells #[.int .i64 key] 2)) b2 = some (.cells #[nilS] 51) := (Mm.le_upd' hn3 _) _ _ (Mm.upd_same _ _ _)
  have hb3 : ((M.upd b2 (.cells #[nilS] 51)).upd b3 (.cells #[.int .i64 key] 2)) b3 = some (.cells #[.int .i64 key] 2) := (Mm.le_refl _) _ _ (Mm.upd_same _ _ _)
  have n_b2_b3 : b2 ≠ b3 := Mm.ne_of hn3 ((Mm.le_refl _) _ _ (Mm.upd_same _ _ _))
  replace hn3 : M b3 = none := Mm.none_of (Mm.le_upd' hn2 _) hn3
  replace hn2 : M b2 = none := Mm.none_of (Mm.le_refl _) hn2
  generalize ((M.upd b2 (.cells #[nilS] 51)).upd b3 (.cells #[.int .i64 key] 2)) = M2 at h hle2 hb2 hb3
  go_wp2
  go_ret
  exact ⟨b2, b3, M2, rfl, h, hle2, hb2⟩
set_option maxHeartbeats 1000000 in
theorem tail1_nil {σ w : World} {M : Mm} (h : Has σ M w) (yv : Value) (b2 b3 : Nat) (hb2 : M b2 = some (.cells #[nilS] 51)) : Calls Tryz.prog 161 #[yv, .pointer (some ⟨b2, 0, none⟩), .pointer (some ⟨b3, 0, none⟩)] w fun r w' => r = .returned (.tuple #[]) ∧ Has σ M w' := by
  have q0 : (#[nilS] : Array Value)[0]? = some nilS := rfl
  go_enter Tryz.func161, Tryz.ntmps161
  go_upto_region 2 with (first
    | (with_reducible show wpList _ _ _ ({ dst := _, op := Op.load 51 _, type := _, pos := _, after := _, guard := _ } :: _) _ _; refine wpList_load1_has h rfl 51 _ rfl rfl hb2 q0 Tryz.underlying51 rfl ?_))
  go_loopw [9] (fun i wr => i = .int .i64 0 ∧ Has σ M wr) (fun i _ => 0)
  case atStart => exact ⟨rfl, h⟩
  case round =>
    clear h w
    obtain ⟨w, rfl⟩ : ∃ x : World, x = wr := ⟨_, rfl⟩
    obtain ⟨rfl, h⟩ := hrel
    go_wp2
    go_end0
    exact ⟨rfl, h⟩
set_option maxHeartbeats 1000000 in
theorem at_nil (h : Has σ M w) (key : Int) : Calls Tryz.prog 134 #[nilS, .int .i64 key] w fun r w' => r = .returned (.tuple #[.int .i64 0, .bool false]) ∧ Has σ M w' := by
  refine calls_marks Tryz.func134 rfl ?_
  simp only [Tryz.ntmps134, List.size_toArray, List.length_cons, List.length_nil, Nat.reduceAdd, Nat.reduceSub, Array.replicate_succ,
     Array.replicate_zero, List.push_toArray, List.append_toArray, List.nil_append, List.cons_append]
  go_upto_region 2 with (first
    | ((with_reducible show wpList _ _ _ ({ dst := some 6, op := Op.alloc 3, type := _, pos := _, after := _, guard := _ } :: _) _ _); refine wpList_alloc_has h rfl 3 rfl _ zintv ?_; clear h; intro b6 w h hn6; try simp only [Act.put, List.setIfInBounds_toArray, List.set_cons_zero, List.set_cons_succ])
    | ((with_reducible show wpList _ _ _ ({ dst := _, op := Op.store 3 _ _, type := _, pos := _, after := _, guard := _ } :: _) _ _); have hx6 := Mm.upd_same M b6 (.cells #[.int .i64 0] 3); refine wpList_store1_has h rfl 3 _ _ rfl rfl rfl hx6 (by decide) rfl (by kernel_rfl) ?_; clear h; intro w h))
  replace h : Has σ (M.upd b6 (.cells #[.int .i64 0] 3)) w := by rw [Mm.upd_upd] at h; exact h
  have hle1 := Mm.le_upd' hn6 (.cells #[.int .i64 0] 3)
  have hb6 := Mm.upd_same M b6 (.cells #[.int .i64 0] 3)
  generalize M.upd b6 _ = M1 at h hle1 hb6
  have TN := Lib.hid (fun (w : World) (h : Has σ M1 w) => tail_nil h key)
  go_wp2_with (first | (go_at_call 154; refine (TN.out _ h).mono ?_; clear h; rintro _ w ⟨b2, b3, M2, rfl, h, hle2, hb2⟩))
  refine wp_range_none h (gf := 161) rfl (Go.Proofs.enters_of Tryz.func161 (by kernel_rfl) rfl) (fun y M4 w2 hl h => (tail1_nil h y b2 b3 (hl _ _ hb2)).mono fun r w3 ⟨e, h'⟩ => ⟨_, e, h'⟩) ?_
  clear h
  intro D M4 w h hl4 hD hDn
  have hb64 := hl4 _ _ (hle2 _ _ hb6)
  have z0 : (#[.int .i64 0] : Array Value)[0]? = some (.int .i64 0) := rfl
  have hM4 := Mm.le_trans hle1 (Mm.le_trans hle2 hl4)
  have hDM : M D = none := Mm.none_of (Mm.le_trans hle1 hle2) hDn
  clear hb6 hb2 hl4 hDn hle1 hle2
  go_step
  go_upto_region 5 with (first
    | (with_reducible show wpList _ _ _ ({ dst := _, op := Op.load 3 _, type := _, pos := _, after := _, guard := _ } :: _) _ _; refine wpList_load1_has h rfl 3 _ rfl rfl hb64 z0 Tryz.underlying3 rfl ?_))
  refine wp_region_class (Has σ M4) (by kernel_rfl) (by kernel_rfl) h.drew ?_
  clear h
  repeat (first
    | go_big_quiet_skip
    | (go_big_quiet_want; first
      | (refine quiet_load_has 3 _ rfl rfl hb64 z0 Tryz.underlying3 rfl ?_; simp only [Act.put, List.setIfInBounds_toArray, List.set_cons_zero, List.set_cons_succ]; go_big_quiet_on)
      | (go_big_quiet_op; first | go_big_quiet_on | go_big_quiet_call (first | with_reducible exact fun _ => rfl))))
  refine wpQuiet_nil ?_
  try clear w
  intro w h
  go_wp2
  exact ret_mark h hD fun w' h' => ⟨by simp [results, Tryz.results134, go_sem], rfl, h'.le (Mm.le_upd hM4 hDM _)⟩
set_option maxHeartbeats 1000000 in
theorem drop_nil (h : Has σ M w) (key : Int) : Calls Tryz.prog 109 #[nilS, .int .i64 key] w fun r w' => r = .returned (.tuple #[nilS, .agg #[.int .i64 0, .int .u64 0, .int .u64 0], .bool false]) ∧ Has σ M w' := by
  go_enter Tryz.func109, Tryz.ntmps109
  go_upto_region 1 with (first
    | ((with_reducible show wpList _ _ _ ({ dst := some 5, op := Op.alloc 59, type := _, pos := _, after := _, guard := _ } :: _) _ _); refine wpList_alloc_has h rfl 59 rfl _ zrow ?_; clear h; intro b5 w h hn5; try simp only [Act.put, List.setIfInBounds_toArray, List.set_cons_zero, List.set_cons_succ]))
  replace hn5 : M b5 = none := hn5
  replace h : Has σ (M.upd b5 (.cells #[.int .i64 0, .int .u64 0, .int .u64 0] 59)) w := h
  have hle2 : M.le (M.upd b5 (.cells #[.int .i64 0, .int .u64 0, .int .u64 0] 59)) := Mm.le_upd' hn5 _
  have hb5 : (M.upd b5 (.cells #[.int .i64 0, .int .u64 0, .int .u64 0] 59)) b5 = some (.cells #[.int .i64 0, .int .u64 0, .int .u64 0] 59) := (Mm.le_refl _) _ _ (Mm.upd_same _ _ _)
  replace hn5 : M b5 = none := Mm.none_of (Mm.le_refl _) hn5
  generalize (M.upd b5 (.cells #[.int .i64 0, .int .u64 0, .int .u64 0] 59)) = M2 at h hle2 hb5
  have AT := Lib.hid (fun (w : World) (h : Has σ M2 w) => at_nil h key)
  go_wp2_with (first
    | (go_at_call 134; refine (AT.out _ h).mono ?_; clear h; rintro _ w ⟨rfl, h⟩)
    | ((refine wpList_build_has rfl 59 _ rfl #[.int .i64 0, .int .u64 0, .int .u64 0] (by kernel_rfl) ?_; try simp only [Act.put, List.setIfInBounds_toArray, List.set_cons_zero, List.set_cons_succ]))
    | (with_reducible show wpList _ _ _ ({ dst := _, op := Op.store 59 _ _, type := _, pos := _, after := _, guard := _ } :: _) _ _; refine wpList_storeAll_has (cells := #[.int .i64 0, .int .u64 0, .int .u64 0]) h rfl 59 _ _ rfl rfl rfl hb5 rfl rfl rfl (by kernel_rfl) rfl ?_; clear h; intro w h))
  exact bodyPost_ret (results_tct rfl (CellRes.of h (Mm.upd_same _ _ _) rfl Tryz.underlying59 rfl (by kernel_rfl))) rfl ⟨rfl, h.le (Mm.le_upd hle2 hn5 _)⟩
theorem callR_key (op lv ky pa pb ha rg : Int) : (callR op lv ky pa pb ha rg)[2]? = some (.int .i64 ky) := rfl
theorem stR_se (se q li tl : Value) : (stR se q li tl)[15]? = some se := rfl
set_option maxHeartbeats 2000000 in
set_option maxRecDepth 20000 in
theorem session_get (h : Has σ M w) (q li tl : Value) (ky pa pb ha rg : Int) (h1 : One4 nilS q li tl) : Calls Tryz.prog 83 #[.agg (stR nilS q li tl), .agg (callR 1 0 ky pa pb ha rg)] w fun r w' => r = .returned (.tuple #[.agg (stR nilS q li tl), .agg (ansR 6 0 0 0 0 0)]) ∧ Has σ M w' := by
  have H1 := Lib.hid h1
  have cz := callR_size 1 0 ky pa pb ha rg
  have c0 := callR_op 1 0 ky pa pb ha rg
  have c2 := callR_key 1 0 ky pa pb ha rg
  have rz := stR_size nilS q li tl
  have rs15 := stR_se nilS q li tl
  have ra := stR_all nilS q li tl
  have z0 := st0_size
  have az := ansR_size 0 0 0 0 0 0
  have ro2 := Lib.hid (stR_one (se := nilS) (q := q) (li := li) (tl := tl) H1.out)
  clear h1
  go_enter Tryz.func83, Tryz.ntmps83
  go_upto_region 1 with (first
    | ((with_reducible show wpList _ _ _ ({ dst := _, op := Op.box 85 _, type := _, pos := _, after := _, guard := _ } :: _) _ _); refine wpList_box_has h rfl 85 _ rfl ?_; clear h; intro b2 w h hn2; try simp only [Act.put, List.setIfInBounds_toArray, List.set_cons_zero, List.set_cons_succ])
    | ((with_reducible show wpList _ _ _ ({ dst := _, op := Op.box 27 _, type := _, pos := _, after := _, guard := _ } :: _) _ _); refine wpList_box_has h rfl 27 _ rfl ?_; clear h; intro b3 w h hn3; try simp only [Act.put, List.setIfInBounds_toArray, List.set_cons_zero, List.set_cons_succ])
    | ((with_reducible show wpList _ _ _ ({ dst := some 4, op := Op.alloc 85, type := _, pos := _, after := _, guard := _ } :: _) _ _); refine wpList_alloc_has h rfl 85 rfl _ zst ?_; clear h; intro b4 w h hn4; try simp only [Act.put, List.setIfInBounds_toArray, List.set_cons_zero, List.set_cons_succ])
    | ((with_reducible show wpList _ _ _ ({ dst := some 5, op := Op.alloc 30, type := _, pos := _, after := _, guard := _ } :: _) _ _); refine wpList_alloc_has h rfl 30 rfl _ zans ?_; clear h; intro b5 w h hn5; try simp only [Act.put, List.setIfInBounds_toArray, List.set_cons_zero, List.set_cons_succ]))
  replace hn2 : M b2 = none := hn2
  replace hn3 : (M.upd b2 (.cells (stR nilS q li tl) 85)) b3 = none := hn3
  replace hn4 : ((M.upd b2 (.cells (stR nilS q li tl) 85)).upd b3 (.cells (callR 1 0 ky pa pb ha rg) 27)) b4 = none := hn4
  replace hn5 : (((M.upd b2 (.cells (stR nilS q li tl) 85)).upd b3 (.cells (callR 1 0 ky pa pb ha rg) 27)).upd b4 (.cells st0 85)) b5 = none := hn5
  replace h : Has σ ((((M.upd b2 (.cells (stR nilS q li tl) 85)).upd b3 (.cells (callR 1 0 ky pa pb ha rg) 27)).upd b4 (.cells st0 85)).upd b5 (.cells (ansR 0 0 0 0 0 0) 30)) w := h
  have hle2 : M.le ((((M.upd b2 (.cells (stR nilS q li tl) 85)).upd b3 (.cells (callR 1 0 ky pa pb ha rg) 27)).upd b4 (.cells st0 85)).upd b5 (.cells (ansR 0 0 0 0 0 0) 30)) := Mm.le_trans (Mm.le_upd' hn2 _) (Mm.le_trans (Mm.le_upd' hn3 _) (Mm.le_trans (Mm.le_upd' hn4 _) (Mm.le_upd' hn5 _)))
  have hb2 : ((((M.upd b2 (.cells (stR nilS q li tl) 85)).upd b3 (.cells (callR 1 0 ky pa pb ha rg) 27)).upd b4 (.cells st0 85)).upd b5 (.cells (ansR 0 0 0 0 0 0) 30)) b2 = some (.cells (stR nilS q li tl) 85) := (Mm.le_trans (Mm.le_upd' hn3 _) (Mm.le_trans (Mm.le_upd' hn4 _) (Mm.le_upd' hn5 _))) _ _ (Mm.upd_same _ _ _)
  have hb3 : ((((M.upd b2 (.cells (stR nilS q li tl) 85)).upd b3 (.cells (callR 1 0 ky pa pb ha rg) 27)).upd b4 (.cells st0 85)).upd b5 (.cells (ansR 0 0 0 0 0 0) 30)) b3 = some (.cells (callR 1 0 ky pa pb ha rg) 27) := (Mm.le_trans (Mm.le_upd' hn4 _) (Mm.le_upd' hn5 _)) _ _ (Mm.upd_same _ _ _)
  have hb4 : ((((M.upd b2 (.cells (stR nilS q li tl) 85)).upd b3 (.cells (callR 1 0 ky pa pb ha rg) 27)).upd b4 (.cells st0 85)).upd b5 (.cells (ansR 0 0 0 0 0 0) 30)) b4 = some (.cells st0 85) := (Mm.le_upd' hn5 _) _ _ (Mm.upd_same _ _ _)
  have hb5 : ((((M.upd b2 (.cells (stR nilS q li tl) 85)).upd b3 (.cells (callR 1 0 ky pa pb ha rg) 27)).upd b4 (.cells st0 85)).upd b5 (.cells (ansR 0 0 0 0 0 0) 30)) b5 = some (.cells (ansR 0 0 0 0 0 0) 30) := (Mm.le_refl _) _ _ (Mm.upd_same _ _ _)
  have n_b2_b3 : b2 ≠ b3 := Mm.ne_of hn3 ((Mm.le_refl _) _ _ (Mm.upd_same _ _ _))
  have n_b2_b4 : b2 ≠ b4 := Mm.ne_of hn4 ((Mm.le_upd' hn3 _) _ _ (Mm.upd_same _ _ _))
  have n_b3_b4 : b3 ≠ b4 := Mm.ne_of hn4 ((Mm.le_refl _) _ _ (Mm.upd_same _ _ _))
  have n_b2_b5 : b2 ≠ b5 := Mm.ne_of hn5 ((Mm.le_trans (Mm.le_upd' hn3 _) (Mm.le_upd' hn4 _)) _ _ (Mm.upd_same _ _ _))
  have n_b3_b5 : b3 ≠ b5 := Mm.ne_of hn5 ((Mm.le_upd' hn4 _) _ _ (Mm.upd_same _ _ _))
  have n_b4_b5 : b4 ≠ b5 := Mm.ne_of hn5 ((Mm.le_refl _) _ _ (Mm.upd_same _ _ _))
  replace hn5 : M b5 = none := Mm.none_of (Mm.le_trans (Mm.le_upd' hn2 _) (Mm.le_trans (Mm.le_upd' hn3 _) (Mm.le_upd' hn4 _))) hn5
  replace hn4 : M b4 = none := Mm.none_of (Mm.le_trans (Mm.le_upd' hn2 _) (Mm.le_upd' hn3 _)) hn4
  replace hn3 : M b3 = none := Mm.none_of (Mm.le_upd' hn2 _) hn3
  replace hn2 : M b2 = none := Mm.none_of (Mm.le_refl _) hn2
  generalize ((((M.upd b2 (.cells (stR nilS q li tl) 85)).upd b3 (.cells (callR 1 0 ky pa pb ha rg) 27)).upd b4 (.cells st0 85)).upd b5 (.cells (ansR 0 0 0 0 0 0) 30)) = M2 at h hle2 hb2 hb3 hb4 hb5
  generalize callR 1 0 ky pa pb ha rg = cc at *
  generalize hrs : stR nilS q li tl = rs at *
  have HRS := Lib.hid hrs
  clear hrs
  generalize st0 = s0 at *
  have DR := Lib.hid (fun (w : World) (h : Has σ M2 w) => drop_nil h ky)
  go_upto_region 8 with (first
    | (with_reducible show wpList _ _ _ ({ dst := _, op := Op.load 3 _, type := _, pos := _, after := _, guard := _ } :: _) _ _; refine wpList_load1_has h rfl 3 _ rfl rfl hb3 c0 Tryz.underlying3 rfl ?_)
    | (with_reducible show wpList _ _ _ ({ dst := _, op := Op.load 51 _, type := _, pos := _, after := _, guard := _ } :: _) _ _; refine wpList_load1_has h rfl 51 _ rfl rfl hb2 rs15 Tryz.underlying51 rfl ?_)
    | (with_reducible show wpList _ _ _ ({ dst := _, op := Op.load 2 _, type := _, pos := _, after := _, guard := _ } :: _) _ _; refine wpList_load1_has h rfl 2 _ rfl rfl hb3 c2 Tryz.underlying2 rfl ?_)
    | (go_at_call 109; refine (DR.out _ h).mono ?_; clear h; rintro _ w ⟨rfl, h⟩)
    | ((with_reducible show wpList _ _ _ ({ dst := some 9, op := Op.alloc 59, type := _, pos := _, after := _, guard := _ } :: _) _ _); refine wpList_alloc_has h rfl 59 rfl _ zrow ?_; clear h; intro b9 w h hn9; try simp only [Act.put, List.setIfInBounds_toArray, List.set_cons_zero, List.set_cons_succ])
    | ((with_reducible show wpList _ _ _ ({ dst := _, op := Op.store 59 _ _, type := _, pos := _, after := _, guard := _ } :: _) _ _); have hx9 := Mm.upd_same M2 b9 (.cells #[.int .i64 0, .int .u64 0, .int .u64 0] 59); refine wpList_storeAll_has (cells := #[.int .i64 0, .int .u64 0, .int .u64 0]) h rfl 59 _ _ rfl rfl rfl hx9 rfl rfl rfl (by kernel_rfl) rfl ?_; clear h; intro w h))
  replace h : Has σ (M2.upd b9 (.cells #[.int .i64 0, .int .u64 0, .int .u64 0] 59)) w := by rw [Mm.upd_upd] at h; exact h
  have hle3 := Mm.le_upd' hn9 (.cells #[.int .i64 0, .int .u64 0, .int .u64 0] 59)
  replace hb2 := hle3 _ _ hb2
  replace hb4 := hle3 _ _ hb4
  replace hb5 := hle3 _ _ hb5
  replace hle2 := Mm.le_trans hle2 hle3
  clear hb3 hle3
  generalize M2.upd b9 (.cells #[.int .i64 0, .int .u64 0, .int .u64 0] 59) = M3 at *
  go_wp2_with (first
    | ((with_reducible show wpList _ _ _ ({ dst := _, op := Op.load 85 _, type := _, pos := _, after := _, guard := _ } :: _) _ _); refine wpList_agg_has h rfl 85 _ rfl rfl hb2 ra rz Tryz.underlying85 rfl (by kernel_rfl) ?_; try simp only [Act.put, List.setIfInBounds_toArray, List.set_cons_zero, List.set_cons_succ])
    | ((refine wpList_build_has rfl 30 _ rfl (ansR 6 0 0 0 0 0) (by kernel_rfl) ?_; try simp only [Act.put, List.setIfInBounds_toArray, List.set_cons_zero, List.set_cons_succ]))
    | ((with_reducible show wpList _ _ _ ({ dst := _, op := Op.store 85 _ _, type := _, pos := _, after := _, guard := _ } :: _) _ _); refine wpList_storeAll_has (cells := rs) h rfl 85 _ _ rfl rfl rfl hb4 rfl (z0.trans rz.symm) rfl (by rw [rz]; kernel_rfl) ro2.out ?_; clear h; intro w h)
    | ((with_reducible show wpList _ _ _ ({ dst := _, op := Op.store 30 _ _, type := _, pos := _, after := _, guard := _ } :: _) _ _); have hb55 := (Mm.upd_ne (M := M3) (o := .cells rs 85) (Ne.symm n_b4_b5)).trans hb5; refine wpList_storeAll_has (cells := ansR 6 0 0 0 0 0) h rfl 30 _ _ rfl rfl rfl hb55 rfl az rfl (by kernel_rfl) rfl ?_; clear h; intro w h))
  exact bodyPost_ret (results_cc rfl (CellRes.of h ((Mm.upd_ne n_b4_b5).trans (Mm.upd_same _ _ _)) rfl Tryz.underlying85 rfl (by rw [rz]; kernel_rfl)) (CellRes.of h (Mm.upd_same _ _ _) rfl Tryz.underlying30 rfl (by kernel_rfl))) rfl ⟨by rw [HRS.out], h.le (Mm.le_upd (Mm.le_upd hle2 hn4 _) hn5 _)⟩
end
end Go.Proofs.YtjnhklhgcbknkaaGreatDoor
