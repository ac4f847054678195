/- Walks: where a place's word is. -/
import Derived.Test.YtlpkimpdeeiaaaaGreatPlanC
namespace Go.Proofs.YtlpkimpdeeiaaaaGreat
open Go.RowKit
set_option linter.unusedVariables false
set_option linter.unusedSimpArgs false
set_option linter.unnecessarySimpa false
def plc (lv k i j : Int) : Array Value := #[.int .i64 lv, .int .i64 k, .int .i64 i, .int .i64 j]
def baseK (k : Nat) : Int := if k = 8 ∨ k = 9 then 1 else 0
/-- Which word of its kind a place is. -/
def numK (k : Nat) (i j : Int) : Int := if k = 9 then (i - 1) * 5 + j else i - baseK k
/-- There is such a place, as far as its kind goes. -/
structure InK (c : Nat → Int) (k : Nat) (i j : Int) : Prop where
  kind : k < 10
  low : baseK k ≤ i
  j0 : 0 ≤ j
  j5 : j < 5
  node : k ≠ 9 → j = 0
  high : numK k i j < many c k
theorem manyRow2 (c : Nat → Int) {k : Nat} (h : k < 10) : (ints .i64 35 (planC c))[14 + k]? = some (.int .i64 (many c k)) := by
  rw [ints_get (by omega)]
  unfold planC planAt
  rw [if_neg (by omega), if_pos (by omega), show 14 + k - 14 = k by omega]
set_option maxHeartbeats 4000000 in
theorem which_yes {σ w : World} {M : Mm} (h : Has σ M w) (c : Nat → Int) (hc : ConfMay c) {p : Nat} (hp : M p = some (planRow c)) (lv : Int) (k : Nat) (i j : Int) (hk : InK c k i j) :
    Calls Tryz.prog 73 #[.pointer (some ⟨p, 0, none⟩), .agg (plc lv k i j)] w fun e w' => e = .returned (.tuple #[.int .i64 (numK k i j), .bool true]) ∧ Has σ M w' := by
  obtain ⟨hk10, hlow, hj0, hj5, hnode, hhigh⟩ := hk
  have hS : 2 ≤ c 10 ∧ c 10 ≤ 60 := ⟨hc.2.2.2.2.1.1, hc.2.2.2.2.1.2⟩
  have hB : 1 ≤ c 11 ∧ c 11 ≤ 40 := ⟨hc.2.2.2.2.2.1.1, hc.2.2.2.2.2.1.2⟩
  have hm : many c k = (if k = 9 then c 10 * 5 else many c k) := by
    split
    · rename_i h9; subst h9; rfl
    · rfl
  have hmb : many c k ≤ 300 := by
    unfold many
    repeat (split; omega)
    omega
  have BA := Lib.hid (fun (M : Mm) (w : World) (h : Has σ M w) => base_has h (k : Int) (baseK k) (by unfold baseK; split <;> split <;> omega))
  have hb01 : 0 ≤ baseK k ∧ baseK k ≤ 1 := by unfold baseK; split <;> omega
  have hi : i ≤ 400 := by
    unfold numK at hhigh
    split at hhigh <;> omega
  have HG := Lib.hid (manyRow2 c hk10)
  have hhm : i - baseK k < many c k := by
    unfold numK at hhigh
    split at hhigh
    · rename_i h9; subst h9; unfold baseK; simp; omega
    · exact hhigh
  have g1 : decide ((k : Int) < 0) = false := decide_eq_false (by omega)
  have g2 : decide ((10 : Int) ≤ (k : Int)) = false := decide_eq_false (by omega)
  have g3 : decide (i < baseK k) = false := decide_eq_false (by omega)
  have g4 : decide (j < 0) = false := decide_eq_false (by omega)
  have g5 : decide (5 ≤ j) = false := decide_eq_false (by omega)
  have g6 : decide (many c k ≤ i - baseK k) = false := decide_eq_false (by omega)
  have w1 : IntKind.i64.wrap (i - baseK k) = i - baseK k := IntWalk.i64_in _ (by omega)
  by_cases h9 : k = 9
  · have N : Hid (numK k i j = (i - baseK k) * 5 + j) := by show _ = _; subst h9; rfl
    have g7 : ((k : Int) == 9) = true := beq_iff_eq.2 (by omega)
    have g7' : ((k : Int) != 9) = false := by unfold bne; rw [g7]; rfl
    have w2 : IntKind.i64.wrap ((i - baseK k) * 5) = (i - baseK k) * 5 := IntWalk.i64_in _ (by omega)
    have w3 : IntKind.i64.wrap ((i - baseK k) * 5 + j) = (i - baseK k) * 5 + j := IntWalk.i64_in _ (by omega)
    have g8 : decide ((i - baseK k) * 5 + j < many c k) = true := decide_eq_true (by rw [← N.out]; exact hhigh)
    have hk0 : 0 ≤ (k : Int) := by omega
    have hk9 : (k : Int) < 10 := by omega
    clear hnode hhigh hm hmb hlow hj0 hj5 hS hB hc hi hhm hk10 h9
    generalize baseK k = b at *
    generalize many c k = mk at *
    go_enter Tryz.func73, Tryz.ntmps73
    go_upto_region 1 with (first
      | ((with_reducible show wpList _ _ _ ({ dst := _, op := Op.box 103 _, type := _, pos := _, after := _, guard := _ } :: _) _ _); refine wpList_box_has h rfl 103 _ rfl ?_; clear h; intro bx w h hnx; try simp only [Act.put, List.setIfInBounds_toArray, List.set_cons_zero, List.set_cons_succ]))
    generalize hM1 : M.upd bx _ = M1 at h
    have hle : M.le M1 := by rw [← hM1]; exact Mm.le_upd' hnx _
    have hbx : M1 bx = some (.cells (plc lv k i j) 103) := by rw [← hM1]; exact Mm.upd_same _ _ _
    replace hp := hle _ _ hp
    clear hM1 hnx
    have d1 : (plc lv k i j)[1]? = some (.int .i64 k) := rfl
    have d2 : (plc lv k i j)[2]? = some (.int .i64 i) := rfl
    have d3 : (plc lv k i j)[3]? = some (.int .i64 j) := rfl
    refine wp_region_class (Has σ M1) (by kernel_rfl) (by kernel_rfl) h.drew ?_
    clear h
    repeat (first
      | go_big_quiet_skip
      | (go_big_quiet_want; first
        | (refine quiet_load_has 3 _ rfl rfl hbx d1 Tryz.underlying3 rfl ?_; simp only [Act.put, List.setIfInBounds_toArray, List.set_cons_zero, List.set_cons_succ]; go_big_quiet_on)
        | (refine quiet_load_has 3 _ rfl rfl hbx d2 Tryz.underlying3 rfl ?_; simp only [Act.put, List.setIfInBounds_toArray, List.set_cons_zero, List.set_cons_succ]; go_big_quiet_on)
        | (refine quiet_load_has 3 _ rfl rfl hbx d3 Tryz.underlying3 rfl ?_; simp only [Act.put, List.setIfInBounds_toArray, List.set_cons_zero, List.set_cons_succ]; go_big_quiet_on)
        | (go_big_quiet_op; first | go_big_quiet_on | go_big_quiet_call (first | with_reducible exact fun _ => rfl | with_reducible exact BA.out M1 _))))
    refine wpQuiet_nil ?_
    try clear w
    intro w h
    go_upto_region 3 with (fail)
    refine wp_region_class (Has σ M1) (by kernel_rfl) (by kernel_rfl) h.drew ?_
    clear h
    repeat (first
      | go_big_quiet_skip
      | (go_big_quiet_want; first
        | (refine quiet_load_has 3 _ rfl rfl hbx d1 Tryz.underlying3 rfl ?_; simp only [Act.put, List.setIfInBounds_toArray, List.set_cons_zero, List.set_cons_succ]; go_big_quiet_on)
        | (refine quiet_load_has 3 _ rfl rfl hbx d2 Tryz.underlying3 rfl ?_; simp only [Act.put, List.setIfInBounds_toArray, List.set_cons_zero, List.set_cons_succ]; go_big_quiet_on)
        | (go_big_quiet_op; first | go_big_quiet_on | go_big_quiet_call (first | with_reducible exact fun _ => rfl | with_reducible exact BA.out M1 _))))
    refine wpQuiet_nil ?_
    try clear w
    intro w h
    go_upto_region 4 with (fail)
    refine wp_region_class (Has σ M1) (by kernel_rfl) (by kernel_rfl) h.drew ?_
    clear h
    repeat (first
      | go_big_quiet_skip
      | (go_big_quiet_want; first
        | (refine quiet_load_has 3 _ rfl rfl hbx d1 Tryz.underlying3 rfl ?_; simp only [Act.put, List.setIfInBounds_toArray, List.set_cons_zero, List.set_cons_succ]; go_big_quiet_on)
        | (refine quiet_load_has 3 _ rfl rfl hp HG.out Tryz.underlying3 rfl ?_; simp only [Act.put, List.setIfInBounds_toArray, List.set_cons_zero, List.set_cons_succ]; go_big_quiet_on)
        | (go_big_quiet_op; first | go_big_quiet_on | go_big_quiet_call (first | with_reducible exact fun _ => rfl))))
    refine wpQuiet_nil ?_
    try clear w
    intro w h
    go_upto_region 8 with (first
      | (with_reducible show wpList _ _ _ ({ dst := _, op := Op.load 3 _, type := _, pos := _, after := _, guard := _ } :: _) _ _; refine wpList_load1_has h rfl 3 _ rfl rfl hbx d1 Tryz.underlying3 rfl ?_)
      | (with_reducible show wpList _ _ _ ({ dst := _, op := Op.load 3 _, type := _, pos := _, after := _, guard := _ } :: _) _ _; refine wpList_load1_has h rfl 3 _ rfl rfl hbx d3 Tryz.underlying3 rfl ?_))
    refine wp_region_class (Has σ M1) (by kernel_rfl) (by kernel_rfl) h.drew ?_
    clear h
    repeat (first
      | go_big_quiet_skip
      | (go_big_quiet_want; first
        | (refine quiet_load_has 3 _ rfl rfl hbx d1 Tryz.underlying3 rfl ?_; simp only [Act.put, List.setIfInBounds_toArray, List.set_cons_zero, List.set_cons_succ]; go_big_quiet_on)
        | (refine quiet_load_has 3 _ rfl rfl hp HG.out Tryz.underlying3 rfl ?_; simp only [Act.put, List.setIfInBounds_toArray, List.set_cons_zero, List.set_cons_succ]; go_big_quiet_on)
        | (go_big_quiet_op; first | go_big_quiet_on | go_big_quiet_call (first | with_reducible exact fun _ => rfl))))
    refine wpQuiet_nil ?_
    try clear w
    intro w h
    go_wp2
    go_ret2
    exact ⟨by rw [N.out]; rfl, h.le hle⟩
  · obtain rfl := hnode h9
    have N : Hid (numK k i 0 = i - baseK k) := if_neg h9
    have g7 : ((k : Int) == 9) = false := beq_eq_false_iff_ne.2 (by omega)
    have g7' : ((k : Int) != 9) = true := by unfold bne; rw [g7]; rfl
    have g8 : decide (i - baseK k < many c k) = true := decide_eq_true hhm
    have hk0 : 0 ≤ (k : Int) := by omega
    have hk9 : (k : Int) < 10 := by omega
    clear hnode hhigh hm hmb hlow hj0 hj5 g4 g5 hS hB hc hi hhm hk10 h9
    generalize baseK k = b at *
    generalize many c k = mk at *
    go_enter Tryz.func73, Tryz.ntmps73
    go_upto_region 1 with (first
      | ((with_reducible show wpList _ _ _ ({ dst := _, op := Op.box 103 _, type := _, pos := _, after := _, guard := _ } :: _) _ _); refine wpList_box_has h rfl 103 _ rfl ?_; clear h; intro bx w h hnx; try simp only [Act.put, List.setIfInBounds_toArray, List.set_cons_zero, List.set_cons_succ]))
    generalize hM1 : M.upd bx _ = M1 at h
    have hle : M.le M1 := by rw [← hM1]; exact Mm.le_upd' hnx _
    have hbx : M1 bx = some (.cells (plc lv k i 0) 103) := by rw [← hM1]; exact Mm.upd_same _ _ _
    replace hp := hle _ _ hp
    clear hM1 hnx
    have d1 : (plc lv k i 0)[1]? = some (.int .i64 k) := rfl
    have d2 : (plc lv k i 0)[2]? = some (.int .i64 i) := rfl
    have d3 : (plc lv k i 0)[3]? = some (.int .i64 0) := rfl
    refine wp_region_class (Has σ M1) (by kernel_rfl) (by kernel_rfl) h.drew ?_
    clear h
    repeat (first
      | go_big_quiet_skip
      | (go_big_quiet_want; first
        | (refine quiet_load_has 3 _ rfl rfl hbx d1 Tryz.underlying3 rfl ?_; simp only [Act.put, List.setIfInBounds_toArray, List.set_cons_zero, List.set_cons_succ]; go_big_quiet_on)
        | (refine quiet_load_has 3 _ rfl rfl hbx d2 Tryz.underlying3 rfl ?_; simp only [Act.put, List.setIfInBounds_toArray, List.set_cons_zero, List.set_cons_succ]; go_big_quiet_on)
        | (refine quiet_load_has 3 _ rfl rfl hbx d3 Tryz.underlying3 rfl ?_; simp only [Act.put, List.setIfInBounds_toArray, List.set_cons_zero, List.set_cons_succ]; go_big_quiet_on)
        | (go_big_quiet_op; first | go_big_quiet_on | go_big_quiet_call (first | with_reducible exact fun _ => rfl | with_reducible exact BA.out M1 _))))
    refine wpQuiet_nil ?_
    try clear w
    intro w h
    go_upto_region 3 with (fail)
    refine wp_region_class (Has σ M1) (by kernel_rfl) (by kernel_rfl) h.drew ?_
    clear h
    repeat (first
      | go_big_quiet_skip
      | (go_big_quiet_want; first
        | (refine quiet_load_has 3 _ rfl rfl hbx d1 Tryz.underlying3 rfl ?_; simp only [Act.put, List.setIfInBounds_toArray, List.set_cons_zero, List.set_cons_succ]; go_big_quiet_on)
        | (refine quiet_load_has 3 _ rfl rfl hbx d2 Tryz.underlying3 rfl ?_; simp only [Act.put, List.setIfInBounds_toArray, List.set_cons_zero, List.set_cons_succ]; go_big_quiet_on)
        | (go_big_quiet_op; first | go_big_quiet_on | go_big_quiet_call (first | with_reducible exact fun _ => rfl | with_reducible exact BA.out M1 _))))
    refine wpQuiet_nil ?_
    try clear w
    intro w h
    go_upto_region 4 with (fail)
    refine wp_region_class (Has σ M1) (by kernel_rfl) (by kernel_rfl) h.drew ?_
    clear h
    repeat (first
      | go_big_quiet_skip
      | (go_big_quiet_want; first
        | (refine quiet_load_has 3 _ rfl rfl hbx d1 Tryz.underlying3 rfl ?_; simp only [Act.put, List.setIfInBounds_toArray, List.set_cons_zero, List.set_cons_succ]; go_big_quiet_on)
        | (refine quiet_load_has 3 _ rfl rfl hp HG.out Tryz.underlying3 rfl ?_; simp only [Act.put, List.setIfInBounds_toArray, List.set_cons_zero, List.set_cons_succ]; go_big_quiet_on)
        | (go_big_quiet_op; first | go_big_quiet_on | go_big_quiet_call (first | with_reducible exact fun _ => rfl))))
    refine wpQuiet_nil ?_
    try clear w
    intro w h
    go_upto_region 8 with (first
      | (with_reducible show wpList _ _ _ ({ dst := _, op := Op.load 3 _, type := _, pos := _, after := _, guard := _ } :: _) _ _; refine wpList_load1_has h rfl 3 _ rfl rfl hbx d1 Tryz.underlying3 rfl ?_)
      | (with_reducible show wpList _ _ _ ({ dst := _, op := Op.load 3 _, type := _, pos := _, after := _, guard := _ } :: _) _ _; refine wpList_load1_has h rfl 3 _ rfl rfl hbx d3 Tryz.underlying3 rfl ?_))
    refine wp_region_class (Has σ M1) (by kernel_rfl) (by kernel_rfl) h.drew ?_
    clear h
    repeat (first
      | go_big_quiet_skip
      | (go_big_quiet_want; first
        | (refine quiet_load_has 3 _ rfl rfl hbx d1 Tryz.underlying3 rfl ?_; simp only [Act.put, List.setIfInBounds_toArray, List.set_cons_zero, List.set_cons_succ]; go_big_quiet_on)
        | (refine quiet_load_has 3 _ rfl rfl hp HG.out Tryz.underlying3 rfl ?_; simp only [Act.put, List.setIfInBounds_toArray, List.set_cons_zero, List.set_cons_succ]; go_big_quiet_on)
        | (go_big_quiet_op; first | go_big_quiet_on | go_big_quiet_call (first | with_reducible exact fun _ => rfl))))
    refine wpQuiet_nil ?_
    try clear w
    intro w h
    go_wp2
    go_ret2
    exact ⟨by rw [N.out]; rfl, h.le hle⟩

def atK (c : Nat → Int) (lv : Int) (k : Nat) (i j : Int) : Int := lv * firsts c 10 + firsts c k + numK k i j
theorem numK_nn {c : Nat → Int} {k : Nat} {i j : Int} (hk : InK c k i j) : 0 ≤ numK k i j := by
  have h1 := hk.low
  have h2 := hk.j0
  unfold numK
  split
  · rename_i h9; subst h9; unfold baseK at h1; simp at h1; omega
  · omega
theorem many_le {c : Nat → Int} (hc : ConfMay c) (k : Nat) : many c k ≤ 300 := by
  have hS : 2 ≤ c 10 ∧ c 10 ≤ 60 := ⟨hc.2.2.2.2.1.1, hc.2.2.2.2.1.2⟩
  have hB : 1 ≤ c 11 ∧ c 11 ≤ 40 := ⟨hc.2.2.2.2.2.1.1, hc.2.2.2.2.2.1.2⟩
  unfold many
  repeat (split; omega)
  omega
theorem mul_bd {c : Nat → Int} (hc : ConfMay c) {lv : Int} (h0 : 0 ≤ lv) (h1 : lv < c 0) : 0 ≤ lv * firsts c 10 ∧ lv * firsts c 10 ≤ 3 * 418 := by
  have hb := firsts_bd hc 10
  have h4 := hc.1.2
  exact ⟨Int.mul_nonneg h0 hb.1, Int.le_trans (Int.mul_le_mul_of_nonneg_right (by omega : lv ≤ 3) hb.1) (by omega)⟩
set_option maxHeartbeats 2000000 in
theorem at_yes {σ w : World} {M : Mm} (h : Has σ M w) (c : Nat → Int) (hc : ConfMay c) {p : Nat} (hp : M p = some (planRow c)) (lv : Int) (k : Nat) (i j : Int) (hl0 : 0 ≤ lv) (hl1 : lv < c 0) (hk : InK c k i j) :
    Calls Tryz.prog 42 #[.pointer (some ⟨p, 0, none⟩), .agg (plc lv k i j)] w fun e w' => e = .returned (.int .i64 (atK c lv k i j)) ∧ Has σ M w' := by
  have WH := Lib.hid (fun (M : Mm) (w : World) (h : Has σ M w) hp => which_yes h c hc (p := p) hp lv k i j hk)
  have SZ := Lib.hid (fun (M : Mm) (w : World) (h : Has σ M w) hp => size_has h c (p := p) hp)
  have A : Hid (atK c lv k i j = lv * firsts c 10 + firsts c k + numK k i j) := rfl
  have hk10 := hk.kind
  have b1 := mul_bd hc hl0 hl1
  have b2 := firsts_bd hc k
  have b3 := numK_nn hk
  have b4 := hk.high
  have b5 := many_le hc k
  have HF := Lib.hid (planRow_first c (k := k) (by omega))
  have H0 : Hid ((ints .i64 35 (planC c))[0]? = some (.int .i64 (c 0))) := rfl
  have g1 : decide (lv < 0) = false := decide_eq_false (by omega)
  have g2 : decide (c 0 ≤ lv) = false := decide_eq_false (by omega)
  have w1 : IntKind.i64.wrap (lv * firsts c 10) = lv * firsts c 10 := IntWalk.i64_in _ (by omega)
  have w2 : IntKind.i64.wrap (lv * firsts c 10 + firsts c k) = lv * firsts c 10 + firsts c k := IntWalk.i64_in _ (by omega)
  have w3 : IntKind.i64.wrap (lv * firsts c 10 + firsts c k + numK k i j) = lv * firsts c 10 + firsts c k + numK k i j := IntWalk.i64_in _ (by omega)
  have hk0 : 0 ≤ (k : Int) := by omega
  have hk9 : (k : Int) < 11 := by omega
  clear b1 b2 b3 b4 b5 hk hc hl0 hl1 hk10
  generalize numK k i j = nk at *
  generalize firsts c 10 = sz at *
  generalize firsts c k = fk at *
  generalize c 0 = c0 at *
  generalize atK c lv k i j = rr at *
  go_enter Tryz.func42, Tryz.ntmps42
  go_upto_region 1 with (first
    | ((with_reducible show wpList _ _ _ ({ dst := _, op := Op.box 103 _, type := _, pos := _, after := _, guard := _ } :: _) _ _); refine wpList_box_has h rfl 103 _ rfl ?_; clear h; intro bx w h hnx; try simp only [Act.put, List.setIfInBounds_toArray, List.set_cons_zero, List.set_cons_succ]))
  generalize hM1 : M.upd bx _ = M1 at h
  have hle : M.le M1 := by rw [← hM1]; exact Mm.le_upd' hnx _
  have hbx : M1 bx = some (.cells (plc lv k i j) 103) := by rw [← hM1]; exact Mm.upd_same _ _ _
  replace hp := hle _ _ hp
  clear hM1 hnx
  have d0 : (plc lv k i j)[0]? = some (.int .i64 lv) := rfl
  have d1 : (plc lv k i j)[1]? = some (.int .i64 k) := rfl
  have dx : (plc lv k i j).extract 0 (0 + 4) = plc lv k i j := rfl
  have HW := Lib.hid (fun (w : World) (h : Has σ M1 w) => WH.out M1 w h hp)
  have HS := Lib.hid (fun (w : World) (h : Has σ M1 w) => SZ.out M1 w h hp)
  clear WH SZ
  refine wp_region_class (Has σ M1) (by kernel_rfl) (by kernel_rfl) h.drew ?_
  clear h
  repeat (first
    | go_big_quiet_skip
    | (go_big_quiet_want; first
      | (refine quiet_load_has 3 _ rfl rfl hbx d0 Tryz.underlying3 rfl ?_; simp only [Act.put, List.setIfInBounds_toArray, List.set_cons_zero, List.set_cons_succ]; go_big_quiet_on)
      | (refine quiet_load_has 3 _ rfl rfl hp H0.out Tryz.underlying3 rfl ?_; simp only [Act.put, List.setIfInBounds_toArray, List.set_cons_zero, List.set_cons_succ]; go_big_quiet_on)
      | (go_big_quiet_op; first | go_big_quiet_on | go_big_quiet_call (first | with_reducible exact fun _ => rfl))))
  refine wpQuiet_nil ?_
  try clear w
  intro w h
  go_upto_region 6 with (first
    | ((with_reducible show wpList _ _ _ ({ dst := _, op := Op.load 103 _, type := _, pos := _, after := _, guard := _ } :: _) _ _); refine wpList_agg_has h rfl 103 _ rfl rfl hbx dx rfl Tryz.underlying103 rfl (by kernel_rfl) ?_; try simp only [Act.put, List.setIfInBounds_toArray, List.set_cons_zero, List.set_cons_succ])
    | (go_at_call 73; refine (HW.out _ h).mono ?_; clear h; rintro e w ⟨rfl, h⟩))
  refine wp_region_class (Has σ M1) (by kernel_rfl) (by kernel_rfl) h.drew ?_
  clear h
  repeat (first
    | go_big_quiet_skip
    | (go_big_quiet_want; first
      | (refine quiet_load_has 3 _ rfl rfl hbx d0 Tryz.underlying3 rfl ?_; simp only [Act.put, List.setIfInBounds_toArray, List.set_cons_zero, List.set_cons_succ]; go_big_quiet_on)
      | (refine quiet_load_has 3 _ rfl rfl hbx d1 Tryz.underlying3 rfl ?_; simp only [Act.put, List.setIfInBounds_toArray, List.set_cons_zero, List.set_cons_succ]; go_big_quiet_on)
      | (refine quiet_load_has 3 _ rfl rfl hp HF.out Tryz.underlying3 rfl ?_; simp only [Act.put, List.setIfInBounds_toArray, List.set_cons_zero, List.set_cons_succ]; go_big_quiet_on)
      | (go_big_quiet_op; first | go_big_quiet_on | go_big_quiet_call (first | with_reducible exact fun _ => rfl | with_reducible exact HS.out _))))
  refine wpQuiet_nil ?_
  try clear w
  intro w h
  go_wp2
  go_ret
  exact ⟨by rw [A.out]; rfl, h.le hle⟩
end Go.Proofs.YtlpkimpdeeiaaaaGreat
