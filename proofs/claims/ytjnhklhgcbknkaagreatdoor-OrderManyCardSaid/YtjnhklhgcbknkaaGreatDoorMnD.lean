/- Layer 9 by its words: whether Push and Pop may be answered so. -/
import Derived.Test.YtjnhklhgcbknkaaGreatDoorMnC
namespace Go.Proofs.YtjnhklhgcbknkaaGreatDoor
open Go.RowKit
set_option linter.unusedVariables false
set_option linter.unusedSimpArgs false
set_option linter.unnecessarySimpa false
def ansKs : List Kd := [some (some .i64), some (some .u64), some (some .u64), some (some .u64), some (some .i64), some (some .i64)]
theorem ansR_fits (er pa pb ha n ky : Int) : fits ansKs (ansR er pa pb ha n ky).toList := ⟨rfl, rfl, rfl, rfl, rfl, rfl, trivial⟩
theorem ansR_same (er pa pb ha n ky : Int) : sames (ansR er pa pb ha n ky).toList (ansR er pa pb ha n ky).toList = true := by simp [ansR, sames, same]
section
variable {σ w : World} {M : Mm}
set_option maxHeartbeats 1000000 in
theorem told_6 (h : Has σ M w) (lv ky pa pb ha rg xa xb xh n xk : Int) : Calls Tryz.prog 92 #[.agg (callR 6 lv ky pa pb ha rg), .agg (ansR 0 xa xb xh n xk)] w fun r w' => r = .returned (.agg (ansR 0 0 0 0 0 0)) ∧ Has σ M w' := by
  have hq : Calls Tryz.prog 92 #[.agg (callR 6 lv ky pa pb ha rg), .agg (ansR 0 xa xb xh n xk)] w fun r w' => r = .returned (.agg (ansR 0 0 0 0 0 0)) ∧ Below w.heap.size w w' := by
    clear h
    unfold callR ansR
    go_enter Tryz.func92, Tryz.ntmps92
    go_wp2
    exact bodyPost_ret (v := .agg (ansR 0 0 0 0 0 0)) (by simp [results, Tryz.results92, go_sem, ansR]) rfl ⟨rfl, by repeat (first | with_reducible exact Below.refl _ _ | with_reducible refine Below.drew ?_ | with_reducible refine below_put ?_ (by omega) _ | with_reducible refine Below.alloc ?_ (by simp <;> omega) _)⟩
  exact hq.mono fun _ _ ⟨h1, h2⟩ => ⟨h1, h.below h2⟩
set_option maxHeartbeats 1000000 in
theorem told_7 (h : Has σ M w) (lv ky pa pb ha rg xa xb xh n xk : Int) : Calls Tryz.prog 92 #[.agg (callR 7 lv ky pa pb ha rg), .agg (ansR 0 xa xb xh n xk)] w fun r w' => r = .returned (.agg (ansR 0 xa xb 0 0 0)) ∧ Has σ M w' := by
  have hq : Calls Tryz.prog 92 #[.agg (callR 7 lv ky pa pb ha rg), .agg (ansR 0 xa xb xh n xk)] w fun r w' => r = .returned (.agg (ansR 0 xa xb 0 0 0)) ∧ Below w.heap.size w w' := by
    clear h
    unfold callR ansR
    go_enter Tryz.func92, Tryz.ntmps92
    go_wp2
    exact bodyPost_ret (v := .agg (ansR 0 xa xb 0 0 0)) (by simp [results, Tryz.results92, go_sem, ansR]) rfl ⟨rfl, by repeat (first | with_reducible exact Below.refl _ _ | with_reducible refine Below.drew ?_ | with_reducible refine below_put ?_ (by omega) _ | with_reducible refine Below.alloc ?_ (by simp <;> omega) _)⟩
  exact hq.mono fun _ _ ⟨h1, h2⟩ => ⟨h1, h.below h2⟩
set_option maxHeartbeats 1000000 in
theorem fine_67 (h : Has σ M w) (op lv ky pa pb ha rg xa xb xh xk : Int) (ho : op = 6 ∨ op = 7) : Calls Tryz.prog 93 #[.agg (callR op lv ky pa pb ha rg), .agg (ansR 0 xa xb xh 0 xk)] w fun r w' => r = .returned (.bool true) ∧ Has σ M w' := by
  have hq : Calls Tryz.prog 93 #[.agg (callR op lv ky pa pb ha rg), .agg (ansR 0 xa xb xh 0 xk)] w fun r w' => r = .returned (.bool true) ∧ Below w.heap.size w w' := by
    clear h
    unfold callR ansR
    rcases ho with rfl | rfl
    all_goals
      go_enter Tryz.func93, Tryz.ntmps93
      go_wp2
      go_ret
      exact ⟨rfl, by repeat (first | with_reducible exact Below.refl _ _ | with_reducible refine Below.drew ?_ | with_reducible refine below_put ?_ (by omega) _ | with_reducible refine Below.alloc ?_ (by simp <;> omega) _)⟩
  exact hq.mono fun _ _ ⟨h1, h2⟩ => ⟨h1, h.below h2⟩
set_option maxHeartbeats 2000000 in
theorem fits_ok (h : Has σ M w) (op ky pa pb ha rg xa xb : Int) (ho : OkCall op rg)
    (TD : ∀ (M : Mm) (w : World), Has σ M w → Calls Tryz.prog 92 #[.agg (callR op 0 ky pa pb ha rg), .agg (ansR 0 xa xb 0 0 0)] w fun r w' => r = .returned (.agg (ansR 0 xa xb 0 0 0)) ∧ Has σ M w')
    (FN : ∀ (M : Mm) (w : World), Has σ M w → Calls Tryz.prog 93 #[.agg (callR op 0 ky pa pb ha rg), .agg (ansR 0 xa xb 0 0 0)] w fun r w' => r = .returned (.bool true) ∧ Has σ M w') :
    Calls Tryz.prog 73 #[.agg (callR op 0 ky pa pb ha rg), .agg (ansR 0 xa xb 0 0 0)] w fun r w' => r = .returned (.bool true) ∧ Has σ M w' := by
  have MY := Lib.hid (fun (M : Mm) (w : World) (h : Has σ M w) => callMay_ok h op ky pa pb ha rg ho)
  have TD := Lib.hid TD
  have FN := Lib.hid FN
  have cz := callR_size op 0 ky pa pb ha rg
  have cx := callR_all op 0 ky pa pb ha rg
  have az := ansR_size 0 xa xb 0 0 0
  have ax := ansR_all 0 xa xb 0 0 0
  have a0 : (ansR 0 xa xb 0 0 0)[0]? = some (.int .i64 0) := rfl
  have FT := Lib.hid (ansR_fits 0 xa xb 0 0 0)
  have SM := Lib.hid (ansR_same 0 xa xb 0 0 0)
  clear ho
  generalize callR op 0 ky pa pb ha rg = cc at *
  generalize ansR 0 xa xb 0 0 0 = aa at *
  go_enter Tryz.func73, Tryz.ntmps73
  go_upto_region 1 with (fail)
  obtain ⟨M2, hbx, hle, hb2, hb3, hn2, hn3⟩ := h.box2 (.cells cc 27) (.cells aa 30)
  generalize (w.alloc _).alloc _ = wx at hbx ⊢
  have hne_b2_b3 : w.heap.size ≠ w.heap.size + 1 := Nat.ne_of_lt (Nat.lt_succ_self _)
  generalize w.heap.size + 1 = b3 at hb3 hn3 hne_b2_b3 ⊢
  generalize w.heap.size = b2 at hb2 hn2 hne_b2_b3 ⊢
  clear h
  try clear w
  have h := hbx
  clear hbx
  obtain ⟨w, rfl⟩ : ∃ x : World, x = wx := ⟨_, rfl⟩
  have MY2 := Lib.hid (MY.out M2)
  have TD2 := Lib.hid (TD.out M2)
  refine wp_region_class (Has σ M2) (by kernel_rfl) (by kernel_rfl) h.drew ?_
  clear h
  repeat (first
    | go_big_quiet_skip
    | (go_big_quiet_want; first
      | (refine quiet_agg_has 27 _ rfl rfl hb2 cx cz Tryz.underlying27 rfl (by kernel_rfl) ?_; simp only [Act.put, List.setIfInBounds_toArray, List.set_cons_zero, List.set_cons_succ]; go_big_quiet_on)
      | (refine quiet_agg_has 30 _ rfl rfl hb3 ax az Tryz.underlying30 rfl (by kernel_rfl) ?_; simp only [Act.put, List.setIfInBounds_toArray, List.set_cons_zero, List.set_cons_succ]; go_big_quiet_on)
      | ((refine quiet_neq_flat 30 _ _ _ rfl rfl rfl 10 (by omega) (ks := ansKs) (by kernel_rfl) rfl (by kernel_rfl) Tryz.underlying30 rfl (by kernel_rfl) FT.out FT.out ?_; rw [SM.out]); simp only [Act.put, List.setIfInBounds_toArray, List.set_cons_zero, List.set_cons_succ]; go_big_quiet_on)
      | (go_big_quiet_op; first | go_big_quiet_on | go_big_quiet_call (first | with_reducible exact fun _ => rfl | with_reducible exact MY2.out _ | with_reducible exact TD2.out _))))
  refine wpQuiet_nil ?_
  try clear w
  intro w h
  go_wp2_with (first
    | (with_reducible show wpList _ _ _ ({ dst := _, op := Op.load 28 _, type := _, pos := _, after := _, guard := _ } :: _) _ _; refine wpList_load1_has h rfl 28 _ rfl rfl hb3 a0 Tryz.underlying28 rfl ?_)
    | ((with_reducible show wpList _ _ _ ({ dst := _, op := Op.load 27 _, type := _, pos := _, after := _, guard := _ } :: _) _ _); refine wpList_agg_has h rfl 27 _ rfl rfl hb2 cx cz Tryz.underlying27 rfl (by kernel_rfl) ?_; try simp only [Act.put, List.setIfInBounds_toArray, List.set_cons_zero, List.set_cons_succ])
    | ((with_reducible show wpList _ _ _ ({ dst := _, op := Op.load 30 _, type := _, pos := _, after := _, guard := _ } :: _) _ _); refine wpList_agg_has h rfl 30 _ rfl rfl hb3 ax az Tryz.underlying30 rfl (by kernel_rfl) ?_; try simp only [Act.put, List.setIfInBounds_toArray, List.set_cons_zero, List.set_cons_succ])
    | (go_at_call 93; refine (FN.out _ _ h).mono ?_; clear h; rintro _ w ⟨rfl, h⟩))
  go_ret
  exact ⟨rfl, h.le hle⟩
end
end Go.Proofs.YtjnhklhgcbknkaaGreatDoor
