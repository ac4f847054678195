/- Layer 10 and 13: a row is put where there is none. -/
import Derived.Test.YtjnhklhgcbknkaaGreatDoorMoC
namespace Go.Proofs.YtjnhklhgcbknkaaGreatDoor
open Go.RowKit
set_option linter.unusedVariables false
set_option linter.unusedSimpArgs false
set_option linter.unnecessarySimpa false
theorem info_row : (Tryz.prog.info? 59).map (fun i => (i.zero, i.size, i.bytes)) = some (some (.agg #[.int .i64 0, .int .u64 0, .int .u64 0]), 3, 24) := by kernel_rfl
section
variable {σ w : World} {M : Mm}
set_option maxHeartbeats 1000000 in
set_option maxRecDepth 100000 in
theorem cloneR_nil (h : Has σ M w) : Calls Tryz.prog 136 #[nilS] w fun r w' => r = .returned nilS ∧ Has σ M w' := by
  show Calls _ _ #[.slice none 0 0] _ _
  have hb : ∀ w, (binOp .eql 51 (.slice none 0 0) (.slice none 0 0)).run Tryz.prog w = .ok (.bool true) w := fun w => by kernel_rfl
  go_enter Tryz.func136, Tryz.ntmps136
  go_wp2
  go_ret
  exact ⟨rfl, h⟩
def InsPost (σ : World) (M : Mm) (row : List Value) (r : Ending) (w' : World) : Prop := ∃ (A : Option Addr) (c : Nat) (M' : Mm), r = .returned (.slice A 1 c) ∧ Has σ M' w' ∧ M.le M' ∧ Own M M' 59 3 (.slice A 1 c) 1 row
set_option maxHeartbeats 1000000 in
theorem insertR_0 (h : Has σ M w) (A : Option Addr) (c : Nat) (row : List Value) (hr : Rd M 3 (.slice A 1 c) 1 row) (h1 : ∀ y ∈ row, y.oneCell' = true) : Calls Tryz.prog 135 #[nilS, .int .i64 0, .slice A 1 c] w fun r w' => InsPost σ M row r w' := by
  have H1 := Lib.hid h1
  have HR := Lib.hid hr
  have hle := Mm.le_refl M
  have hown : Own M M 59 3 nilS 0 [] := Own.nil _ _ _ _
  clear hr h1
  go_enter Tryz.func135, Tryz.ntmps135
  go_wp2_with (first
    | (at_builtin; refine wpList_append_rd h hle rfl _ _ _ rfl Tryz.underlying51 info_row rfl (by omega) rfl hown rfl HR.out H1.out (by omega) (by omega) ?_; clear h hle hown; intro v w hacc))
  go_ret
  obtain ⟨M', h, hl, ho⟩ := hacc
  obtain ⟨A', c', rfl⟩ := ho.form
  exact ⟨A', c', M', rfl, h, hl, by simpa using ho⟩
def PutPost (σ : World) (M : Mm) (row : List Value) (r : Ending) (w' : World) : Prop := ∃ (A : Option Addr) (c : Nat) (M' : Mm), r = .returned (.tuple #[.slice A 1 c, .bool true]) ∧ Has σ M' w' ∧ M.le M' ∧ Own M M' 59 3 (.slice A 1 c) 1 row
set_option maxHeartbeats 2000000 in
set_option maxRecDepth 20000 in
theorem put_nil (h : Has σ M w) (ky pa pb : Int) : Calls Tryz.prog 108 #[nilS, .agg #[.int .i64 ky, .int .u64 pa, .int .u64 pb]] w fun r w' => PutPost σ M [.int .i64 ky, .int .u64 pa, .int .u64 pb] r w' := by
  have r0 : (#[.int .i64 ky, .int .u64 pa, .int .u64 pb] : Array Value)[0]? = some (.int .i64 ky) := rfl
  have rx : (#[.int .i64 ky, .int .u64 pa, .int .u64 pb] : Array Value).extract 0 (0 + 3) = #[.int .i64 ky, .int .u64 pa, .int .u64 pb] := rfl
  go_enter Tryz.func108, Tryz.ntmps108
  go_upto_region 1 with (first
    | ((with_reducible show wpList _ _ _ ({ dst := _, op := Op.box 59 _, type := _, pos := _, after := _, guard := _ } :: _) _ _); refine wpList_box_has h rfl 59 _ rfl ?_; clear h; intro b3 w h hn3; try simp only [Act.put, List.setIfInBounds_toArray, List.set_cons_zero, List.set_cons_succ]))
  replace hn3 : M b3 = none := hn3
  replace h : Has σ (M.upd b3 (.cells #[.int .i64 ky, .int .u64 pa, .int .u64 pb] 59)) w := h
  have hle2 : M.le (M.upd b3 (.cells #[.int .i64 ky, .int .u64 pa, .int .u64 pb] 59)) := Mm.le_upd' hn3 _
  have hb3 : (M.upd b3 (.cells #[.int .i64 ky, .int .u64 pa, .int .u64 pb] 59)) b3 = some (.cells #[.int .i64 ky, .int .u64 pa, .int .u64 pb] 59) := (Mm.le_refl _) _ _ (Mm.upd_same _ _ _)
  replace hn3 : M b3 = none := Mm.none_of (Mm.le_refl _) hn3
  generalize (M.upd b3 (.cells #[.int .i64 ky, .int .u64 pa, .int .u64 pb] 59)) = M2 at h hle2 hb3
  have AT := Lib.hid (fun (w : World) (h : Has σ M2 w) => at_nil h ky)
  go_upto_region 4 with (first
    | (with_reducible show wpList _ _ _ ({ dst := _, op := Op.load 2 _, type := _, pos := _, after := _, guard := _ } :: _) _ _; refine wpList_load1_has h rfl 2 _ rfl rfl hb3 r0 Tryz.underlying2 rfl ?_)
    | (go_at_call 134; refine (AT.out _ h).mono ?_; clear h; rintro _ w ⟨rfl, h⟩))
  refine wp_region_held_drew (S := Has σ (M2)) (by kernel_rfl) (h.drew) (fun hHeld => ?_)
  replace h := h.drew
  generalize w.drew = w at h hHeld ⊢
  refine wpAnyH_take (i := 0) (v := ?_) rfl (by kernel_rfl) (by kernel_rfl) (by kernel_rfl) (fun _ _ _ h => h) (Or.inl ⟨by rfl, ?_⟩) hHeld ?_
  rotate_left
  · (intro wz _; go_simp; try with_reducible rfl)
  try simp only [List.getElem_toArray, List.getElem_cons_succ, List.getElem_cons_zero, Act.put, List.setIfInBounds_toArray, List.set_cons_zero, List.set_cons_succ]
  refine wpAnyH_take (i := 2) (v := ?_) rfl (by kernel_rfl) (by kernel_rfl) (by kernel_rfl) (fun _ _ _ h => h) (Or.inl ⟨by rfl, ?_⟩) hHeld ?_
  rotate_left
  · (intro wz _; go_simp; try with_reducible rfl)
  try simp only [List.getElem_toArray, List.getElem_cons_succ, List.getElem_cons_zero, Act.put, List.setIfInBounds_toArray, List.set_cons_zero, List.set_cons_succ]
  refine wpAnyH_take (i := 3) (v := _) rfl (by kernel_rfl) (by kernel_rfl) (by kernel_rfl) (fun _ _ _ h => h) (yields_agg rfl 59 _ rfl rfl hb3 rx rfl Tryz.underlying59 rfl (by kernel_rfl)) hHeld ?_
  try simp only [List.getElem_toArray, List.getElem_cons_succ, List.getElem_cons_zero, Act.put, List.setIfInBounds_toArray, List.set_cons_zero, List.set_cons_succ]
  refine wpAnyH_ready (rs := [1, 4]) (by kernel_rfl) (by simp) ?_
  refine AllReadyH.cons rfl (fun K hK => ?_) (AllReadyH.cons rfl (fun K hK => ?_) AllReadyH.nil)
  · skip
    (go_simp; go_wp2_with (go_at_call 136; refine (cloneR_nil h).mono ?_; clear h; rintro _ w ⟨rfl, h⟩))
    refine hK.out _ _ h (fun hHeld => ?_)
    clear hK K
    try simp only [Act.put, List.setIfInBounds_toArray, List.set_cons_zero, List.set_cons_succ]
    refine wpAnyH_ready (rs := [4]) (by kernel_rfl) (by simp) ?_
    refine AllReadyH.cons rfl (fun K hK => ?_) AllReadyH.nil
    (refine step_lit1 rfl 51 _ rfl Tryz.underlying51 info_row rfl (by decide) (by decide) (by kernel_rfl) ?_)
    obtain ⟨M3, hbx, hle3, hb9, hn9⟩ := h.box (.cells #[.int .i64 ky, .int .u64 pa, .int .u64 pb] 59)
    generalize w.alloc _ = wx at hbx ⊢
    generalize w.heap.size = b9 at hb9 hn9 ⊢
    clear h
    have h := hbx
    clear hbx
    try clear hHeld
    try clear w
    obtain ⟨w, rfl⟩ : ∃ x : World, x = wx := ⟨_, rfl⟩
    refine hK.out _ _ (h.le hle3) (fun hHeld => ?_)
    clear hK K
    try simp only [Act.put, List.setIfInBounds_toArray, List.set_cons_zero, List.set_cons_succ]
    have IN := Lib.hid (fun (w : World) (h : Has σ M3 w) => insertR_0 h (some ⟨b9, 0, none⟩) 1 [.int .i64 ky, .int .u64 pa, .int .u64 pb] ⟨rfl, _, 1, rfl, Nat.le_refl _, fun _ => ⟨b9, 0, _, 59, (0, 0), rfl, hb9, fun j u hu => by rw [Nat.zero_add]; simpa using hu⟩⟩ (by intro y hy; rcases List.mem_cons.1 hy with rfl | hy; rfl; rcases List.mem_cons.1 hy with rfl | hy; rfl; rcases List.mem_cons.1 hy with rfl | hy; rfl; cases hy))
    refine wpAnyH_ready (rs := [5]) (by kernel_rfl) (by simp) ?_
    refine AllReadyH.cons rfl (fun K hK => ?_) AllReadyH.nil
    (go_simp; go_wp2_with (go_at_call 135; refine (IN.out _ h).mono ?_; clear h; try clear hHeld; rintro _ w ⟨A, c, M4, rfl, h, hle4, hown⟩))
    refine hK.out _ _ (h.le (Mm.le_trans hle3 hle4)) (fun hHeld => ?_)
    clear hK K
    try simp only [Act.put, List.setIfInBounds_toArray, List.set_cons_zero, List.set_cons_succ]
    refine wpAnyH_take (i := 6) (v := ?_) rfl (by kernel_rfl) (by kernel_rfl) (by kernel_rfl) (fun _ _ _ h => h) (Or.inl ⟨by rfl, ?_⟩) hHeld ?_
    rotate_left
    · (intro wz _; go_simp; try with_reducible rfl)
    try simp only [List.getElem_toArray, List.getElem_cons_succ, List.getElem_cons_zero, Act.put, List.setIfInBounds_toArray, List.set_cons_zero, List.set_cons_succ]
    refine wpAnyH_take (i := 7) (v := ?_) rfl (by kernel_rfl) (by kernel_rfl) (by kernel_rfl) (fun _ _ _ h => h) (Or.inl ⟨by rfl, ?_⟩) hHeld ?_
    rotate_left
    · (intro wz _; go_simp; try with_reducible rfl)
    try simp only [List.getElem_toArray, List.getElem_cons_succ, List.getElem_cons_zero, Act.put, List.setIfInBounds_toArray, List.set_cons_zero, List.set_cons_succ]
    refine wpAnyH_done (by kernel_rfl) ?_ _
    go_wp2
    go_ret2
    exact ⟨A, c, M4, rfl, h, Mm.le_trans hle2 (Mm.le_trans hle3 hle4), hown.base fun b hb => Mm.none_of (Mm.le_trans hle2 hle3) hb⟩
  · skip
    (refine step_lit1 rfl 51 _ rfl Tryz.underlying51 info_row rfl (by decide) (by decide) (by kernel_rfl) ?_)
    obtain ⟨M3, hbx, hle3, hb9, hn9⟩ := h.box (.cells #[.int .i64 ky, .int .u64 pa, .int .u64 pb] 59)
    generalize w.alloc _ = wx at hbx ⊢
    generalize w.heap.size = b9 at hb9 hn9 ⊢
    clear h
    have h := hbx
    clear hbx
    try clear hHeld
    try clear w
    obtain ⟨w, rfl⟩ : ∃ x : World, x = wx := ⟨_, rfl⟩
    refine hK.out _ _ (h.le hle3) (fun hHeld => ?_)
    clear hK K
    try simp only [Act.put, List.setIfInBounds_toArray, List.set_cons_zero, List.set_cons_succ]
    refine wpAnyH_ready (rs := [1]) (by kernel_rfl) (by simp) ?_
    refine AllReadyH.cons rfl (fun K hK => ?_) AllReadyH.nil
    (go_simp; go_wp2_with (go_at_call 136; refine (cloneR_nil h).mono ?_; clear h; rintro _ w ⟨rfl, h⟩))
    refine hK.out _ _ (h.le hle3) (fun hHeld => ?_)
    clear hK K
    try simp only [Act.put, List.setIfInBounds_toArray, List.set_cons_zero, List.set_cons_succ]
    have IN := Lib.hid (fun (w : World) (h : Has σ M3 w) => insertR_0 h (some ⟨b9, 0, none⟩) 1 [.int .i64 ky, .int .u64 pa, .int .u64 pb] ⟨rfl, _, 1, rfl, Nat.le_refl _, fun _ => ⟨b9, 0, _, 59, (0, 0), rfl, hb9, fun j u hu => by rw [Nat.zero_add]; simpa using hu⟩⟩ (by intro y hy; rcases List.mem_cons.1 hy with rfl | hy; rfl; rcases List.mem_cons.1 hy with rfl | hy; rfl; rcases List.mem_cons.1 hy with rfl | hy; rfl; cases hy))
    refine wpAnyH_ready (rs := [5]) (by kernel_rfl) (by simp) ?_
    refine AllReadyH.cons rfl (fun K hK => ?_) AllReadyH.nil
    (go_simp; go_wp2_with (go_at_call 135; refine (IN.out _ h).mono ?_; clear h; try clear hHeld; rintro _ w ⟨A, c, M4, rfl, h, hle4, hown⟩))
    refine hK.out _ _ (h.le (Mm.le_trans hle3 hle4)) (fun hHeld => ?_)
    clear hK K
    try simp only [Act.put, List.setIfInBounds_toArray, List.set_cons_zero, List.set_cons_succ]
    refine wpAnyH_take (i := 6) (v := ?_) rfl (by kernel_rfl) (by kernel_rfl) (by kernel_rfl) (fun _ _ _ h => h) (Or.inl ⟨by rfl, ?_⟩) hHeld ?_
    rotate_left
    · (intro wz _; go_simp; try with_reducible rfl)
    try simp only [List.getElem_toArray, List.getElem_cons_succ, List.getElem_cons_zero, Act.put, List.setIfInBounds_toArray, List.set_cons_zero, List.set_cons_succ]
    refine wpAnyH_take (i := 7) (v := ?_) rfl (by kernel_rfl) (by kernel_rfl) (by kernel_rfl) (fun _ _ _ h => h) (Or.inl ⟨by rfl, ?_⟩) hHeld ?_
    rotate_left
    · (intro wz _; go_simp; try with_reducible rfl)
    try simp only [List.getElem_toArray, List.getElem_cons_succ, List.getElem_cons_zero, Act.put, List.setIfInBounds_toArray, List.set_cons_zero, List.set_cons_succ]
    refine wpAnyH_done (by kernel_rfl) ?_ _
    go_wp2
    go_ret2
    exact ⟨A, c, M4, rfl, h, Mm.le_trans hle2 (Mm.le_trans hle3 hle4), hown.base fun b hb => Mm.none_of (Mm.le_trans hle2 hle3) hb⟩
def SessPost (σ : World) (M : Mm) (q li tl : Value) (bb : Array Value) (r : Ending) (w' : World) : Prop := OutG (fun _ _ _ => True) (fun se => stR se q li tl) σ M bb r w'
theorem stR_putS (se q li tl v : Value) : (stR se q li tl).setIfInBounds 15 v = stR v q li tl := rfl
set_option maxHeartbeats 2000000 in
set_option maxRecDepth 20000 in
theorem session_put (h : Has σ M w) (q li tl : Value) (ky pa pb ha rg : Int) (h1 : One4 nilS q li tl) : Calls Tryz.prog 83 #[.agg (stR nilS q li tl), .agg (callR 0 0 ky pa pb ha rg)] w fun r w' => SessPost σ M q li tl (ansR 0 0 0 0 0 0) r w' := by
  have H1 := Lib.hid h1
  have cz := callR_size 0 0 ky pa pb ha rg
  have c0 := callR_op 0 0 ky pa pb ha rg
  have c2 := callR_key 0 0 ky pa pb ha rg
  have cp := callR_pair 0 0 ky pa pb ha rg
  have rz := stR_size nilS q li tl
  have rs15 := stR_se nilS q li tl
  have z0 := st0_size
  have az := ansR_size 0 0 0 0 0 0
  have RP := fun v => stR_putS nilS q li tl v
  clear h1
  go_enter Tryz.func83, Tryz.ntmps83
  go_upto_region 1 with (first
    | ((with_reducible show wpList _ _ _ ({ dst := _, op := Op.box 85 _, type := _, pos := _, after := _, guard := _ } :: _) _ _); refine wpList_box_has h rfl 85 _ rfl ?_; clear h; intro b2 w h hn2; try simp only [Act.put, List.setIfInBounds_toArray, List.set_cons_zero, List.set_cons_succ])
    | ((with_reducible show wpList _ _ _ ({ dst := _, op := Op.box 27 _, type := _, pos := _, after := _, guard := _ } :: _) _ _); refine wpList_box_has h rfl 27 _ rfl ?_; clear h; intro b3 w h hn3; try simp only [Act.put, List.setIfInBounds_toArray, List.set_cons_zero, List.set_cons_succ])
    | ((with_reducible show wpList _ _ _ ({ dst := some 4, op := Op.alloc 85, type := _, pos := _, after := _, guard := _ } :: _) _ _); refine wpList_alloc_has h rfl 85 rfl _ zst ?_; clear h; intro b4 w h hn4; try simp only [Act.put, List.setIfInBounds_toArray, List.set_cons_zero, List.set_cons_succ])
    | ((with_reducible show wpList _ _ _ ({ dst := some 5, op := Op.alloc 30, type := _, pos := _, after := _, guard := _ } :: _) _ _); refine wpList_alloc_has h rfl 30 rfl _ zans ?_; clear h; intro b5 w h hn5; try simp only [Act.put, List.setIfInBounds_toArray, List.set_cons_zero, List.set_cons_succ]))
  replace hn2 : M b2 = none := hn2
  replace hn3 : (M.upd b2 (.cells (stR nilS q li tl) 85)) b3 = none := hn3
  replace hn4 : ((M.upd b2 (.cells (stR nilS q li tl) 85)).upd b3 (.cells (callR 0 0 ky pa pb ha rg) 27)) b4 = none := hn4
  replace hn5 : (((M.upd b2 (.cells (stR nilS q li tl) 85)).upd b3 (.cells (callR 0 0 ky pa pb ha rg) 27)).upd b4 (.cells st0 85)) b5 = none := hn5
  replace h : Has σ ((((M.upd b2 (.cells (stR nilS q li tl) 85)).upd b3 (.cells (callR 0 0 ky pa pb ha rg) 27)).upd b4 (.cells st0 85)).upd b5 (.cells (ansR 0 0 0 0 0 0) 30)) w := h
  have hle2 : M.le ((((M.upd b2 (.cells (stR nilS q li tl) 85)).upd b3 (.cells (callR 0 0 ky pa pb ha rg) 27)).upd b4 (.cells st0 85)).upd b5 (.cells (ansR 0 0 0 0 0 0) 30)) := Mm.le_trans (Mm.le_upd' hn2 _) (Mm.le_trans (Mm.le_upd' hn3 _) (Mm.le_trans (Mm.le_upd' hn4 _) (Mm.le_upd' hn5 _)))
  have hb2 : ((((M.upd b2 (.cells (stR nilS q li tl) 85)).upd b3 (.cells (callR 0 0 ky pa pb ha rg) 27)).upd b4 (.cells st0 85)).upd b5 (.cells (ansR 0 0 0 0 0 0) 30)) b2 = some (.cells (stR nilS q li tl) 85) := (Mm.le_trans (Mm.le_upd' hn3 _) (Mm.le_trans (Mm.le_upd' hn4 _) (Mm.le_upd' hn5 _))) _ _ (Mm.upd_same _ _ _)
  have hb3 : ((((M.upd b2 (.cells (stR nilS q li tl) 85)).upd b3 (.cells (callR 0 0 ky pa pb ha rg) 27)).upd b4 (.cells st0 85)).upd b5 (.cells (ansR 0 0 0 0 0 0) 30)) b3 = some (.cells (callR 0 0 ky pa pb ha rg) 27) := (Mm.le_trans (Mm.le_upd' hn4 _) (Mm.le_upd' hn5 _)) _ _ (Mm.upd_same _ _ _)
  have hb4 : ((((M.upd b2 (.cells (stR nilS q li tl) 85)).upd b3 (.cells (callR 0 0 ky pa pb ha rg) 27)).upd b4 (.cells st0 85)).upd b5 (.cells (ansR 0 0 0 0 0 0) 30)) b4 = some (.cells st0 85) := (Mm.le_upd' hn5 _) _ _ (Mm.upd_same _ _ _)
  have hb5 : ((((M.upd b2 (.cells (stR nilS q li tl) 85)).upd b3 (.cells (callR 0 0 ky pa pb ha rg) 27)).upd b4 (.cells st0 85)).upd b5 (.cells (ansR 0 0 0 0 0 0) 30)) b5 = some (.cells (ansR 0 0 0 0 0 0) 30) := (Mm.le_refl _) _ _ (Mm.upd_same _ _ _)
  have n_b2_b3 : b2 ≠ b3 := Mm.ne_of hn3 ((Mm.le_refl _) _ _ (Mm.upd_same _ _ _))
  have n_b2_b4 : b2 ≠ b4 := Mm.ne_of hn4 ((Mm.le_upd' hn3 _) _ _ (Mm.upd_same _ _ _))
  have n_b3_b4 : b3 ≠ b4 := Mm.ne_of hn4 ((Mm.le_refl _) _ _ (Mm.upd_same _ _ _))
  have n_b2_b5 : b2 ≠ b5 := Mm.ne_of hn5 ((Mm.le_trans (Mm.le_upd' hn3 _) (Mm.le_upd' hn4 _)) _ _ (Mm.upd_same _ _ _))
  have n_b3_b5 : b3 ≠ b5 := Mm.ne_of hn5 ((Mm.le_upd' hn4 _) _ _ (Mm.upd_same _ _ _))
  have n_b4_b5 : b4 ≠ b5 := Mm.ne_of hn5 ((Mm.le_refl _) _ _ (Mm.upd_same _ _ _))
  replace hn5 : M b5 = none := Mm.none_of (Mm.le_trans (Mm.le_upd' hn2 _) (Mm.le_trans (Mm.le_upd' hn3 _) (Mm.le_upd' hn4 _))) hn5
  replace hn4 : M b4 = none := Mm.none_of (Mm.le_trans (Mm.le_upd' hn2 _) (Mm.le_upd' hn3 _)) hn4
  replace hn3 : M b3 = none := Mm.none_of (Mm.le_upd' hn2 _) hn3
  replace hn2 : M b2 = none := Mm.none_of (Mm.le_refl _) hn2
  generalize ((((M.upd b2 (.cells (stR nilS q li tl) 85)).upd b3 (.cells (callR 0 0 ky pa pb ha rg) 27)).upd b4 (.cells st0 85)).upd b5 (.cells (ansR 0 0 0 0 0 0) 30)) = M2 at h hle2 hb2 hb3 hb4 hb5
  generalize callR 0 0 ky pa pb ha rg = cc at *
  generalize st0 = s0 at *
  have PU := Lib.hid (fun (w : World) (h : Has σ M2 w) => put_nil h ky pa pb)
  have kk : (15 : Nat) < 63 := by decide
  go_upto_region 6 with (first
    | (with_reducible show wpList _ _ _ ({ dst := _, op := Op.load 3 _, type := _, pos := _, after := _, guard := _ } :: _) _ _; refine wpList_load1_has h rfl 3 _ rfl rfl hb3 c0 Tryz.underlying3 rfl ?_)
    | (with_reducible show wpList _ _ _ ({ dst := _, op := Op.load 51 _, type := _, pos := _, after := _, guard := _ } :: _) _ _; refine wpList_load1_has h rfl 51 _ rfl rfl hb2 rs15 Tryz.underlying51 rfl ?_)
    | (with_reducible show wpList _ _ _ ({ dst := _, op := Op.load 2 _, type := _, pos := _, after := _, guard := _ } :: _) _ _; refine wpList_load1_has h rfl 2 _ rfl rfl hb3 c2 Tryz.underlying2 rfl ?_)
    | ((with_reducible show wpList _ _ _ ({ dst := _, op := Op.load 25 _, type := _, pos := _, after := _, guard := _ } :: _) _ _); refine wpList_agg_has h rfl 25 _ rfl rfl hb3 cp rfl Tryz.underlying25 rfl (by kernel_rfl) ?_; try simp only [Act.put, List.setIfInBounds_toArray, List.set_cons_zero, List.set_cons_succ])
    | ((refine wpList_build_has rfl 59 _ rfl #[.int .i64 ky, .int .u64 pa, .int .u64 pb] (by kernel_rfl) ?_; try simp only [Act.put, List.setIfInBounds_toArray, List.set_cons_zero, List.set_cons_succ]))
    | (go_at_call 108; refine (PU.out _ h).mono ?_; clear h; rintro _ w ⟨A, c, M3, rfl, h, hle3, hown⟩)
    | ((with_reducible show wpList _ _ _ ({ dst := _, op := Op.store 51 _ _, type := _, pos := _, after := _, guard := _ } :: _) _ _); have hb23 := hle3 _ _ hb2; refine wpList_store1_has h rfl 51 _ _ rfl rfl rfl hb23 (by rw [rz]; exact kk) rfl (by kernel_rfl) ?_; clear h; intro w h))
  replace h : Has σ (M3.upd b2 (.cells (stR (.slice A 1 c) q li tl) 85)) w := by rw [← RP]; exact h
  have hb44 := (Mm.upd_ne (o := .cells (stR (.slice A 1 c) q li tl) 85) (Ne.symm n_b2_b4)).trans (hle3 _ _ hb4)
  have hb54 := (Mm.upd_ne (o := .cells (stR (.slice A 1 c) q li tl) 85) (Ne.symm n_b2_b5)).trans (hle3 _ _ hb5)
  have hb24 := Mm.upd_same M3 b2 (.cells (stR (.slice A 1 c) q li tl) 85)
  have hle4 : M.le (M3.upd b2 (.cells (stR (.slice A 1 c) q li tl) 85)) := Mm.le_upd (Mm.le_trans hle2 hle3) hn2 _
  have rz2 := stR_size (.slice A 1 c) q li tl
  have ra2 := stR_all (.slice A 1 c) q li tl
  have ro2 := Lib.hid (stR_one (se := .slice A 1 c) (q := q) (li := li) (tl := tl) ⟨rfl, H1.out.2⟩)
  clear hb2 hb3 hb4 hb5 rz rs15 RP PU
  generalize M3.upd b2 (.cells (stR (.slice A 1 c) q li tl) 85) = M4 at *
  generalize hrs : stR (.slice A 1 c) q li tl = rs at *
  have HRS := Lib.hid hrs
  clear hrs
  go_wp2_with (first
    | ((with_reducible show wpList _ _ _ ({ dst := _, op := Op.load 85 _, type := _, pos := _, after := _, guard := _ } :: _) _ _); refine wpList_agg_has h rfl 85 _ rfl rfl hb24 ra2 rz2 Tryz.underlying85 rfl (by kernel_rfl) ?_; try simp only [Act.put, List.setIfInBounds_toArray, List.set_cons_zero, List.set_cons_succ])
    | ((refine wpList_build_has rfl 30 _ rfl (ansR 0 0 0 0 0 0) (by kernel_rfl) ?_; try simp only [Act.put, List.setIfInBounds_toArray, List.set_cons_zero, List.set_cons_succ]))
    | ((with_reducible show wpList _ _ _ ({ dst := _, op := Op.store 85 _ _, type := _, pos := _, after := _, guard := _ } :: _) _ _); refine wpList_storeAll_has (cells := rs) h rfl 85 _ _ rfl rfl rfl hb44 rfl (z0.trans rz2.symm) rfl (by rw [rz2]; kernel_rfl) ro2.out ?_; clear h; intro w h)
    | ((with_reducible show wpList _ _ _ ({ dst := _, op := Op.store 30 _ _, type := _, pos := _, after := _, guard := _ } :: _) _ _); have hb55 := (Mm.upd_ne (M := M4) (o := .cells rs 85) (Ne.symm n_b4_b5)).trans hb54; refine wpList_storeAll_has (cells := ansR 0 0 0 0 0 0) h rfl 30 _ _ rfl rfl rfl hb55 rfl az rfl (by kernel_rfl) rfl ?_; clear h; intro w h))
  exact bodyPost_ret (results_cc rfl (CellRes.of h ((Mm.upd_ne n_b4_b5).trans (Mm.upd_same _ _ _)) rfl Tryz.underlying85 rfl (by rw [rz2]; kernel_rfl)) (CellRes.of h (Mm.upd_same _ _ _) rfl Tryz.underlying30 rfl (by kernel_rfl))) rfl ⟨.slice A 1 c, _, by show _ = Ending.returned (.tuple #[.agg (stR (.slice A 1 c) q li tl), _]); rw [HRS.out], rfl, h, Mm.le_upd (Mm.le_upd hle4 hn4 _) hn5 _, trivial⟩
/-- A state that has no rows is told that Put was done. -/
theorem told_put (h : Has σ M w) (q li tl : Value) (ky pa pb ha rg : Int) (h1 : One4 nilS q li tl) (TD : ∀ (M : Mm) (w : World), Has σ M w → Calls Tryz.prog 73 #[.agg (callR 0 0 ky pa pb ha 0), .agg (ansR 0 0 0 0 0 0)] w fun r w' => r = .returned (.bool true) ∧ Has σ M w') :
    Calls Tryz.prog 57 #[.agg (stR nilS q li tl), .int .i64 0, .agg (callR 0 0 ky pa pb ha rg), .agg (ansR 0 0 0 0 0 0)] w fun r w' => ToldG (fun _ _ _ => True) (fun se => stR se q li tl) σ M r w' := by
  have hst : StRow (stR nilS q li tl) := ⟨stR_size _ _ _ _, stR_one h1⟩
  have hmk : ∀ q', q'.oneCell' = true → StRow ((fun se => stR se q li tl) q') := fun q' hq => ⟨stR_size _ _ _ _, stR_one ⟨hq, h1.2⟩⟩
  exact told_gen (stays_any fun _ => True) hmk h (stR nilS q li tl) (ansR 0 0 0 0 0 0) (ansR 0 0 0 0 0 0) 0 ky pa pb ha rg 0 hst (stR_conf _ _ _ _) (stR_lv _ _ _ _) ⟨by omega, by omega⟩ (by omega) (by omega) rfl rfl rfl rfl (ansR_fits _ _ _ _ _ _) (ansR_fits _ _ _ _ _ _) (ansR_same _ _ _ _ _ _)
    (fun M w h => refused_ok h _ _ _ _ 0 ky pa pb ha 0 ⟨by omega, by omega⟩) (fun M w h => mayNot_ok h nilS q li tl true 0 ky pa pb ha 0 0 0 TD) (fun M' w hM h => does_rows (stays_any fun _ => True) hmk h _ _ 0 ky pa pb ha 0 0 true (.inl rfl) hst rfl rfl fun M2 w h2 h => session_put h q li tl ky pa pb ha 0 h1)
end
end Go.Proofs.YtjnhklhgcbknkaaGreatDoor
