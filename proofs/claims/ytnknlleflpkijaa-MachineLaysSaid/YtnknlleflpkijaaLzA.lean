/- Law 21, MachineLays: a range over the warden's map; how many slots of a level are held. -/
import Derived.Test.YtnknlleflpkijaaMachE
import Derived.Test.YtnknlleflpkijaaApC
import Derived.LaidEql
import Derived.Stop.Asserts
import Derived.RowKitTokens
import Derived.Laws.IdiomRangeMap
namespace Go.Proofs.Ytnknlleflpkijaa
section
open Go.RowKit
set_option linter.unusedVariables false
set_option linter.unusedSimpArgs false
set_option linter.unnecessarySimpa false
def zeroC : Nat → Int := fun _ => 0
theorem zeroC_may : confMayB zeroC = false := by kernel_rfl
theorem zeroC_level (t : Int) : levelOf zeroC t = -1 := by
  unfold levelOf
  rw [if_neg (fun h => by rw [zeroC_may] at h; cases h.1)]
section
variable {σ w : World} {M : Mm}
theorem nPlan_eq (h : Has σ M w) : Calls Try.prog 30 #[.pointer none] w fun r w' => r = .returned (.pointer none) ∧ Has σ M w' := by
  go_enter Try.func30, Try.ntmps30
  go_wp2
  go_ret
  exact ⟨rfl, h⟩
theorem nMem_eq (h : Has σ M w) : Calls Try.prog 12 #[.pointer none] w fun r w' => r = .returned (.pointer none) ∧ Has σ M w' := by
  go_enter Try.func12, Try.ntmps12
  go_wp2
  go_ret
  exact ⟨rfl, h⟩
theorem nWarden_eq (h : Has σ M w) : Calls Try.prog 31 #[.pointer none] w fun r w' => r = .returned (.pointer none) ∧ Has σ M w' := by
  go_enter Try.func31, Try.ntmps31
  go_wp2
  go_ret
  exact ⟨rfl, h⟩
theorem nThread_eq (h : Has σ M w) (t : Int) : Calls Try.prog 10 #[.pointer none, .int .i64 t] w fun r w' => r = .returned (.pointer none) ∧ Has σ M w' := by
  go_enter Try.func10, Try.ntmps10
  go_wp2
  go_ret
  exact ⟨rfl, h⟩
theorem nSteps_eq (h : Has σ M w) : Calls Try.prog 28 #[.pointer none] w fun r w' => r = .returned (.int .i64 0) ∧ Has σ M w' := by
  go_enter Try.func28, Try.ntmps28
  go_wp2
  go_ret
  exact ⟨rfl, h⟩
theorem nClock_eq (h : Has σ M w) (l : Int) : Calls Try.prog 14 #[.pointer none, .int .i64 l] w fun r w' => r = .returned (.int .i64 0) ∧ Has σ M w' := by
  go_enter Try.func14, Try.ntmps14
  go_wp2
  go_ret
  exact ⟨rfl, h⟩
theorem nFault_eq (h : Has σ M w) : Calls Try.prog 19 #[.pointer none] w fun r w' => r = .returned (.bool false) ∧ Has σ M w' := by
  go_enter Try.func19, Try.ntmps19
  go_wp2
  go_ret
  exact ⟨rfl, h⟩
theorem nGiven_eq (h : Has σ M w) : Calls Try.prog 29 #[.pointer none] w fun r w' => r = .returned (.slice none 0 0) ∧ Has σ M w' := by
  go_enter Try.func29, Try.ntmps29
  go_wp2
  go_ret
  exact ⟨rfl, h⟩
theorem nClone_eq (h : Has σ M w) : Calls Try.prog 34 #[.pointer none] w fun r w' => r = .returned (.pointer none) ∧ Has σ M w' := by
  go_enter Try.func34, Try.ntmps34
  go_wp2
  go_ret
  exact ⟨rfl, h⟩
theorem nConf_eq (h : Has σ M w) : Calls Try.prog 38 #[.pointer none] w fun r w' => r = .returned (confV zeroC) ∧ Has σ M w' := by
  go_enter Try.func38, Try.ntmps38
  go_upto_region 1 with (fail)
  obtain ⟨M4, hbx, hle4, hb4, hn4⟩ := h.box (.cells #[.int .i64 0, .int .i64 0, .int .i64 0, .int .i64 0, .int .i64 0, .int .i64 0, .int .i64 0, .int .i64 0, .int .i64 0, .int .i64 0, .int .i64 0, .int .i64 0, .int .i64 0, .int .i64 0] 24)
  generalize w.alloc _ = wx at hbx ⊢
  generalize w.heap.size = b4 at hb4 hn4 ⊢
  clear h
  try clear w
  have h := hbx
  clear hbx
  obtain ⟨w, rfl⟩ : ∃ x : World, x = wx := ⟨_, rfl⟩
  have hz : (ints .i64 14 zeroC).size = 14 := rfl
  go_wp2_with (first
    | (refine wpList_storeAll_has (cells := ints .i64 14 zeroC) h rfl 24 _ _ rfl rfl rfl hb4 rfl rfl rfl (by kernel_rfl) rfl ?_; clear h; intro w h))
  exact bodyPost_ret (results_cell_row rfl _ _ _ _ _ _ _ rfl (h.at_ b4 _ (Mm.upd_same _ _ _)) Try.underlying24 rfl (by rw [hz]; kernel_rfl)) rfl ⟨rfl, h.le (Mm.le_upd hle4 hn4 _)⟩
theorem nLevel_eq (h : Has σ M w) (t : Int) : Calls Try.prog 9 #[.pointer none, .int .i64 t] w fun r w' => r = .returned (.int .i64 (-1)) ∧ Has σ M w' := by
  have P1 := Lib.hid (fun (w : World) (h : Has σ M w) => nPlan_eq h)
  have P2 := Lib.hid (fun (w : World) (h : Has σ M w) => nConf_eq h)
  have P3 := Lib.hid (fun (w : World) (h : Has σ M w) => level_has h zeroC t)
  rw [zeroC_level] at P3
  generalize confV zeroC = cz at P2 P3
  go_enter Try.func9, Try.ntmps9
  go_wp2_with (first
    | (go_at_call 30; refine (P1.out _ h).mono ?_; clear h; rintro _ w ⟨rfl, h⟩)
    | (go_at_call 38; refine (P2.out _ h).mono ?_; clear h; rintro _ w ⟨rfl, h⟩)
    | (go_at_call 48; refine (P3.out _ h).mono ?_; clear h; rintro _ w ⟨rfl, h⟩))
  go_ret
  exact ⟨rfl, h⟩
theorem nStep_eq (h : Has σ M w) (t : Int) (dv : Value) : Calls Try.prog 15 #[.pointer none, .int .i64 t, dv] w fun r w' => r = .returned (.bool false) ∧ Has σ M w' := by
  have P1 := Lib.hid (fun (w : World) (h : Has σ M w) => nThread_eq h t)
  have P2 := Lib.hid (fun (w : World) (h : Has σ M w) => thrTop_none h)
  go_enter Try.func15, Try.ntmps15
  go_wp2_with (first
    | (go_at_call 10; refine (P1.out _ h).mono ?_; clear h; rintro _ w ⟨rfl, h⟩)
    | (go_at_call 49; refine (P2.out _ h).mono ?_; clear h; rintro _ w ⟨rfl, h⟩))
  go_ret
  exact ⟨rfl, h⟩
theorem nAt_eq (h : Has σ M w) (lv k i j : Int) : Calls Try.prog 59 #[.pointer none, .agg (plc lv k i j)] w fun r w' => r = .returned (.int .i64 (-1)) ∧ ∃ M', Has σ M' w' ∧ M.le M' := by
  go_enter Try.func59, Try.ntmps59
  go_upto_region 1 with (first
    | ((with_reducible show wpList _ _ _ ({ dst := _, op := Op.box 69 _, type := _, pos := _, after := _, guard := _ } :: _) _ _); refine wpList_box_has h rfl 69 _ rfl ?_; clear h; intro bx w h hnx; try simp only [Act.put, List.setIfInBounds_toArray, List.set_cons_zero, List.set_cons_succ]))
  generalize hM1 : M.upd bx _ = M1 at h
  have hle : M.le M1 := by rw [← hM1]; exact Mm.le_upd' hnx _
  clear hM1 hnx
  refine wp_region_class (Has σ M1) (by kernel_rfl) (by kernel_rfl) h.drew ?_
  clear h
  repeat (first
    | go_big_quiet_skip
    | (go_big_quiet_want; first
      | (go_big_quiet_op; first | go_big_quiet_on | go_big_quiet_call (first | with_reducible exact fun _ => rfl))))
  refine wpQuiet_nil ?_
  try clear w
  intro w h
  go_wp2
  go_ret
  exact ⟨rfl, _, h, hle⟩
set_option maxHeartbeats 1000000 in
theorem nSpot_eq (h : Has σ M w) (t x k i j : Int) :
    Calls Try.prog 33 #[.pointer none, .int .i64 t, .agg #[.int .i64 x, .int .i64 k, .int .i64 i, .int .i64 j]] w fun r w' => r = .returned (.int .i64 (-1)) ∧ ∃ M', Has σ M' w' ∧ M.le M' := by
  have LV := Lib.hid (fun (M' : Mm) (w : World) (h : Has σ M' w) => nLevel_eq h t)
  have PL := Lib.hid (fun (M' : Mm) (w : World) (h : Has σ M' w) => nPlan_eq h)
  have AT := Lib.hid (fun (M' : Mm) (w : World) (h : Has σ M' w) => nAt_eq h (-1) k i j)
  unfold plc at AT
  go_enter Try.func33, Try.ntmps33
  go_upto_region 1 with (fail)
  obtain ⟨M1, hbx, hle, hbx1, hnx⟩ := h.box (.cells #[.int .i64 x, .int .i64 k, .int .i64 i, .int .i64 j] 69)
  generalize w.alloc _ = wx at hbx ⊢
  generalize w.heap.size = bx at hbx1 hnx ⊢
  clear h
  try clear w
  have h := hbx
  clear hbx
  obtain ⟨w, rfl⟩ : ∃ x : World, x = wx := ⟨_, rfl⟩
  have hlt : 0 < (#[.int .i64 x, .int .i64 k, .int .i64 i, .int .i64 j] : Array Value).size := show 0 < 4 by omega
  go_upto_region 2 with (first
    | (go_at_call 9; refine (LV.out _ _ h).mono ?_; clear h; rintro _ w ⟨rfl, h⟩)
    | (with_reducible show wpList _ _ _ ({ dst := _, op := Op.store 3 _ _, type := _, pos := _, after := _, guard := _ } :: _) _ _; refine wpList_store1_has h rfl 3 _ _ rfl rfl rfl hbx1 hlt rfl (by kernel_rfl) ?_; clear h; intro w h))
  have h2 : Has σ (M1.upd bx (.cells #[.int .i64 (-1), .int .i64 k, .int .i64 i, .int .i64 j] 69)) w := h
  have hle2 : M.le (M1.upd bx (.cells #[.int .i64 (-1), .int .i64 k, .int .i64 i, .int .i64 j] 69)) := Mm.le_upd hle hnx _
  have hbx2 := Mm.upd_same M1 bx (.cells #[.int .i64 (-1), .int .i64 k, .int .i64 i, .int .i64 j] 69)
  clear h hbx1 hlt hle
  have h := h2
  clear h2
  generalize M1.upd bx _ = M2 at h hle2 hbx2
  have dx : (#[.int .i64 (-1), .int .i64 k, .int .i64 i, .int .i64 j] : Array Value).extract 0 (0 + 4) = #[.int .i64 (-1), .int .i64 k, .int .i64 i, .int .i64 j] := rfl
  have PL2 := Lib.hid (fun (w : World) (h : Has σ M2 w) => PL.out M2 w h)
  refine wp_region_head (Has σ M2) 3 (by kernel_rfl) (by kernel_rfl) (fun _ _ _ _ _ h => h) h.drew ?_
  clear h
  simp only [List.take_succ_cons, List.take_zero, List.drop_succ_cons, List.drop_zero]
  repeat (first
    | go_big_quiet_skip
    | (go_big_quiet_want; first
      | (refine quiet_agg_has 69 _ rfl rfl hbx2 dx rfl Try.underlying69 rfl (by kernel_rfl) ?_; simp only [Act.put, List.setIfInBounds_toArray, List.set_cons_zero, List.set_cons_succ]; go_big_quiet_on)
      | (go_big_quiet_op; first | go_big_quiet_on | go_big_quiet_call (first | with_reducible exact fun _ => rfl | with_reducible exact PL2.out _))))
  refine wpQuiet_nil ?_
  try clear w
  intro w h
  go_wp2_with (first
    | (go_at_call 59; refine (AT.out _ _ h).mono ?_; clear h; rintro _ w ⟨rfl, M3, h, hle3⟩))
  go_ret
  exact ⟨rfl, _, h, Mm.le_trans hle2 hle3⟩
theorem nThere_eq (h : Has σ M w) (l t : Int) : Calls Try.prog 71 #[.pointer none, spotV l t] w fun r w' => r = .returned (.bool false) ∧ ∃ M', Has σ M' w' ∧ M.le M' := by
  unfold spotV
  go_enter Try.func71, Try.ntmps71
  go_upto_region 1 with (fail)
  obtain ⟨M1, hbx, hle, hbx1, hnx⟩ := h.box (.cells #[.int .i64 l, .int .i64 t] 116)
  generalize w.alloc _ = wx at hbx ⊢
  generalize w.heap.size = bx at hbx1 hnx ⊢
  clear h
  try clear w
  have h := hbx
  clear hbx
  obtain ⟨w, rfl⟩ : ∃ x : World, x = wx := ⟨_, rfl⟩
  refine wp_region_class (Has σ M1) (by kernel_rfl) (by kernel_rfl) h.drew ?_
  clear h
  repeat (first
    | go_big_quiet_skip
    | (go_big_quiet_want; first
      | (go_big_quiet_op; first | go_big_quiet_on | go_big_quiet_call (first | with_reducible exact fun _ => rfl))))
  refine wpQuiet_nil ?_
  try clear w
  intro w h
  go_wp2
  go_ret
  exact ⟨rfl, _, h, hle⟩
theorem nNote_eq (h : Has σ M w) : Calls Try.prog 70 #[.pointer none, .bool false] w fun r w' => r = .returned (.bool false) ∧ Has σ M w' := by
  go_enter Try.func70, Try.ntmps70
  go_wp2
  go_ret
  exact ⟨rfl, h⟩
theorem nLink_eq (h : Has σ M w) (l t : Int) : Calls Try.prog 56 #[.pointer none, .int .i64 l, .int .i64 t] w fun r w' => r = .returned (.int .u64 0) ∧ ∃ M', Has σ M' w' ∧ M.le M' := by
  have TH := Lib.hid (fun (M : Mm) (w : World) (h : Has σ M w) => nThere_eq h l t)
  have dx : (#[.int .i64 l, .int .i64 t] : Array Value).extract 0 (0 + 2) = #[.int .i64 l, .int .i64 t] := rfl
  unfold spotV at TH
  go_enter Try.func56, Try.ntmps56
  go_upto_region 2 with (fail)
  obtain ⟨M1, hbx, hle, hbq, hnx⟩ := h.box (.cells #[.int .i64 l, .int .i64 t] 116)
  generalize w.alloc _ = wx at hbx ⊢
  generalize w.heap.size = bx at hbq hnx ⊢
  clear h
  try clear w
  have h := hbx
  clear hbx
  obtain ⟨w, rfl⟩ : ∃ x : World, x = wx := ⟨_, rfl⟩
  go_wp2_with (first
    | ((with_reducible show wpList _ _ _ ({ dst := _, op := Op.load 116 _, type := _, pos := _, after := _, guard := _ } :: _) _ _); refine wpList_agg_has h rfl 116 _ rfl rfl hbq dx rfl Try.underlying116 rfl (by kernel_rfl) ?_; try simp only [Act.put, List.setIfInBounds_toArray, List.set_cons_zero, List.set_cons_succ])
    | (go_at_call 71; refine (TH.out _ _ h).mono ?_; clear h; rintro _ w ⟨rfl, M2, h, hle2⟩))
  go_ret
  exact ⟨rfl, _, h, Mm.le_trans hle hle2⟩
set_option maxHeartbeats 1000000 in
theorem nDropW_eq (h : Has σ M w) (l t : Int) : Calls Try.prog 57 #[.pointer none, .int .i64 l, .int .i64 t] w fun r w' => r = .returned (.bool false) ∧ ∃ M', Has σ M' w' ∧ M.le M' := by
  have TH := Lib.hid (fun (M : Mm) (w : World) (h : Has σ M w) => nThere_eq h l t)
  have NO := Lib.hid (fun (M : Mm) (w : World) (h : Has σ M w) => nNote_eq h)
  have dx : (#[.int .i64 l, .int .i64 t] : Array Value).extract 0 (0 + 2) = #[.int .i64 l, .int .i64 t] := rfl
  unfold spotV at TH
  go_enter Try.func57, Try.ntmps57
  go_upto_region 2 with (fail)
  obtain ⟨M1, hbx, hle, hbq, hnx⟩ := h.box (.cells #[.int .i64 l, .int .i64 t] 116)
  generalize w.alloc _ = wx at hbx ⊢
  generalize w.heap.size = bx at hbq hnx ⊢
  clear h
  try clear w
  have h := hbx
  clear hbx
  obtain ⟨w, rfl⟩ : ∃ x : World, x = wx := ⟨_, rfl⟩
  have TH1 : Hid (∀ (w : World), Has σ M1 w → Calls Try.prog 71 #[.pointer none, .agg #[.int .i64 l, .int .i64 t]] w fun r w' => r = .returned (.bool false) ∧ Has σ M1 w') := Lib.hid fun w h => (TH.out M1 w h).mono fun r w' ⟨e, M2, h2, hle2⟩ => ⟨e, h2.le hle2⟩
  clear TH
  refine wp_region_head (Has σ M1) 13 (by kernel_rfl) (by kernel_rfl) (fun _ _ _ _ _ h => h) h.drew ?_
  clear h
  simp only [List.take_succ_cons, List.take_zero, List.drop_succ_cons, List.drop_zero]
  repeat (first
    | go_big_quiet_skip
    | (go_big_quiet_want; first
      | (refine quiet_agg_has 116 _ rfl rfl hbq dx rfl Try.underlying116 rfl (by kernel_rfl) ?_; simp only [Act.put, List.setIfInBounds_toArray, List.set_cons_zero, List.set_cons_succ]; go_big_quiet_on)
      | (go_big_quiet_op; first | go_big_quiet_on | go_big_quiet_call (first | with_reducible exact fun _ => rfl | with_reducible exact TH1.out _))))
  refine wpQuiet_nil ?_
  try clear w
  intro w h
  go_upto_region 3 with (first
    | (go_at_call 70; refine (NO.out _ _ h).mono ?_; clear h; rintro _ w ⟨rfl, h⟩))
  go_wp2
  go_ret
  exact ⟨rfl, _, h, hle⟩
theorem nDrop_eq (h : Has σ M w) (t n : Int) : Calls Try.prog 27 #[.pointer none, .int .i64 t, .int .i64 n] w fun r w' => r = .returned (.tuple #[]) ∧ Has σ M w' := by
  have P1 := Lib.hid (fun (M : Mm) (w : World) (h : Has σ M w) => nLevel_eq h t)
  have P2 := Lib.hid (fun (M : Mm) (w : World) (h : Has σ M w) => nWarden_eq h)
  have P3 := Lib.hid (fun (M : Mm) (w : World) (h : Has σ M w) => nLink_eq h (-1) n)
  have P4 := Lib.hid (fun (M : Mm) (w : World) (h : Has σ M w) => nDropW_eq h (-1) n)
  go_enter Try.func27, Try.ntmps27
  go_wp2_with (first
    | (go_at_call 9; refine (P1.out _ _ h).mono ?_; clear h; rintro _ w ⟨rfl, h⟩)
    | (go_at_call 31; refine (P2.out _ _ h).mono ?_; clear h; rintro _ w ⟨rfl, h⟩)
    | (go_at_call 56; refine (P3.out _ _ h).mono ?_; clear h; rintro _ w ⟨rfl, M2, h, hle2⟩)
    | (go_at_call 57; refine (P4.out _ _ h).mono ?_; clear h; rintro _ w ⟨rfl, M3, h, hle3⟩))
  go_end0
  exact ⟨rfl, h.le (Mm.le_trans hle2 hle3)⟩
end
end
section
open Go.RowKit Go.Extern.Stop Go.Stop Go.Extern
set_option linter.unusedVariables false
set_option linter.unusedSimpArgs false
set_option linter.unnecessarySimpa false
def hnd (t : Nat) : Value := .pointer (some ⟨0, t, none⟩)
def rty (t : Nat) : Value := .iface 142 (.agg #[hnd t])
def codeErr (e : Int) : Value := .iface 77 (.int .i64 e)
def errCells (e : Value) : Array Value := #[.int .i64 (-1), .int .i64 (-1), .string ⟨#[109, 97, 99, 104, 105, 110, 101]⟩, e]
theorem ta_UnP (v : Value) (xT : TypeId) (w : World) : (Instr.typeAssert (.iface 117 v) xT 147 true).run Try.prog w = .ok (.tuple #[.iface 117 v, .bool true]) w := run_typeAssert_hasB Try.underlying147 (by kernel_rfl) v xT w
theorem ta_IsP (v : Value) (xT : TypeId) (w : World) : (Instr.typeAssert (.iface 117 v) xT 144 true).run Try.prog w = .ok (.tuple #[.nilIface, .bool false]) w := run_typeAssert_lacksB Try.underlying144 (by kernel_rfl) (by kernel_rfl) v xT w
theorem ta_UnC (v : Value) (xT : TypeId) (w : World) : (Instr.typeAssert (.iface 77 v) xT 147 true).run Try.prog w = .ok (.tuple #[.nilIface, .bool false]) w := run_typeAssert_lacksB Try.underlying147 (by kernel_rfl) (by kernel_rfl) v xT w
theorem ta_UsC (v : Value) (xT : TypeId) (w : World) : (Instr.typeAssert (.iface 77 v) xT 149 true).run Try.prog w = .ok (.tuple #[.nilIface, .bool false]) w := run_typeAssert_lacksB Try.underlying149 (by kernel_rfl) (by kernel_rfl) v xT w
theorem ta_IsC (v : Value) (xT : TypeId) (w : World) : (Instr.typeAssert (.iface 77 v) xT 144 true).run Try.prog w = .ok (.tuple #[.nilIface, .bool false]) w := run_typeAssert_lacksB Try.underlying144 (by kernel_rfl) (by kernel_rfl) v xT w
theorem m_ptr_unwrap (v : Value) (w : World) : (method 286 117 v "Unwrap").run Try.prog w = .ok (106, v) w := by kernel_rfl
theorem eq_PC (v u : Value) (w : World) : (binOp .eql 28 (.iface 117 v) (.iface 77 u)).run Try.prog w = .ok (.bool false) w := run_eql_iface_types 117 77 v u Try.underlying28 (by decide) w
theorem eq_CC (c d : Int) (w : World) : (binOp .eql 28 (.iface 77 (.int .i64 c)) (.iface 77 (.int .i64 d))).run Try.prog w = .ok (.bool (c == d)) w := by kernel_rfl
theorem rv_methodComparable (h : Value) (w : World) : (Go.method 286 142 (.agg #[h]) "Comparable").run Try.prog w = .ok (110, .agg #[h]) w := by kernel_rfl
theorem rv_comparableC (w : World) : (ReflectliteType.method (fun t => do Rtype.noPackHeld "Comparable" t; (fun a : TypeInfo => Value.bool a.comparable) <$> typeInfo t) #[.agg #[hnd 77]]).run Try.prog w = .ok (.bool true) w := by kernel_rfl
theorem rv_typeOfC (v : Value) (w : World) : (ReflectliteType.typeOf #[.iface 77 v]).run Try.prog w = .ok (rty 77) w := by kernel_rfl
theorem ptr_unwrap {σ w : World} {M : Mm} (h : Has σ M w) {b : Nat} {e : Value} (hb : M b = some (.cells (errCells e) 119)) :
    Calls Try.prog 106 #[.pointer (some ⟨b, 0, none⟩)] w fun r w' => r = .returned e ∧ Has σ M w' := by
  go_enter Try.func106, Try.ntmps106
  go_wp2_with (first
    | (with_reducible show wpList _ _ _ ({ dst := _, op := Op.load 28 _, type := _, pos := _, after := _, guard := _ } :: _) _ _; refine wpList_load1_has h rfl 28 _ rfl rfl hb (rfl : _ = some e) Try.underlying28 rfl ?_))
  go_ret
  exact ⟨rfl, h⟩
set_option maxHeartbeats 2000000 in
theorem is_eq {σ w : World} {M : Mm} (h : Has σ M w) {b : Nat} {c : Int} (hb : M b = some (.cells (errCells (codeErr c)) 119)) :
    Calls Try.prog 80 #[errV b, codeErr c, .bool true] w fun r w' => r = .returned (.bool true) ∧ Has σ M w' := by
  have t2 := ta_IsP
  have t3 := ta_IsC
  have t5 := ta_UnP
  have t6 := ta_UnC
  have t7 := ta_UsC
  have m2 := m_ptr_unwrap
  have q2 := eq_PC
  have q3 := eq_CC c c
  rw [beq_self_eq_true] at q3
  have C := Lib.hid (fun (w : World) (h : Has σ M w) => ptr_unwrap h hb)
  clear hb
  unfold codeErr at C ⊢
  go_enter Try.func80, Try.ntmps80
  go_wp2
  go_loopw [0] (fun e wr => Has σ M wr ∧ (e = errV b ∨ e = .iface 77 (.int .i64 c))) (fun e _ => match e with | .iface _ (.pointer _) => 1 | _ => 0)
  case atStart => exact ⟨h, .inl rfl⟩
  case round =>
    clear h w
    obtain ⟨w, rfl⟩ : ∃ x : World, x = wr := ⟨_, rfl⟩
    obtain ⟨h, rfl | rfl⟩ := hrel
    · unfold errV
      go_wp2_with (first
        | (go_at_call 106; refine (C.out _ h).mono ?_; clear h; rintro r w ⟨rfl, h⟩))
      go_roundw
      case rel => exact ⟨h, .inr rfl⟩
      case measure => simp
    · go_wp2
      go_ret
      exact ⟨rfl, h⟩
set_option maxHeartbeats 2000000 in
theorem errIs_eq {σ w : World} {M : Mm} (h : Has σ M w) {b : Nat} {c : Int} (hb : M b = some (.cells (errCells (codeErr c)) 119)) :
    Calls Try.prog 63 #[errV b, codeErr c] w fun r w' => r = .returned (.bool true) ∧ Has σ M w' := by
  have h31 := @run_callFunc_extern Try.prog 79 _ ReflectliteType.typeOf Try.func79 (by kernel_rfl) (by kernel_rfl) (by kernel_rfl) (by kernel_rfl)
  have h72 := @run_callFunc_extern Try.prog 110 _ (ReflectliteType.method (fun t => do Rtype.noPackHeld "Comparable" t; pure (.bool (← typeInfo t).comparable))) Try.func110 (by kernel_rfl) (by kernel_rfl) (by kernel_rfl) (by kernel_rfl)
  have mC : ∀ w, (Go.method 286 142 (.agg #[hnd 77]) "Comparable").run Try.prog w = .ok (110, .agg #[hnd 77]) w := rv_methodComparable _
  have tO : ∀ w, (ReflectliteType.typeOf #[.iface 77 (.int .i64 c)]).run Try.prog w = .ok (rty 77) w := rv_typeOfC _
  have rC := rv_comparableC
  have C := Lib.hid (is_eq h hb)
  clear hb
  unfold codeErr errV at C ⊢
  unfold rty at tO
  unfold hnd at tO mC rC
  go_enter Try.func63, Try.ntmps63
  go_wp2_with (first
    | (go_at_call 80; refine (C.out).mono ?_; clear h; rintro r w ⟨rfl, h⟩))
  go_ret
  exact ⟨rfl, h⟩
set_option maxHeartbeats 1000000 in
theorem failIs_eq {σ w : World} {M : Mm} (h : Has σ M w) {b : Nat} {c : Int} (hb : M b = some (.cells (errCells (codeErr c)) 119)) :
    Calls Try.prog 35 #[errV b, .int .i64 c] w fun r w' => r = .returned (.bool true) ∧ Has σ M w' := by
  have C := Lib.hid (errIs_eq h hb)
  clear hb
  unfold codeErr errV at C
  unfold errV
  go_enter Try.func35, Try.ntmps35
  go_wp2_with (first
    | (go_at_call 63; refine (C.out).mono ?_; clear h; rintro r w ⟨rfl, h⟩))
  go_ret
  exact ⟨rfl, h⟩
theorem mNew_err {σ w : World} {M : Mm} (h : Has σ M w) (c : Nat → Int) (hc : confMayB c = false) :
    Calls Try.prog 6 #[confV c] w fun r w' => ∃ b M', r = .returned (.tuple #[.pointer none, errV b]) ∧ Has σ M' w' ∧ M.le M' ∧ M' b = some (.cells (errCells (codeErr 1)) 119) := by
  have PN := Lib.hid (fun (M' : Mm) (w : World) (h : Has σ M' w) => planNew_no h c hc)
  have FN := Lib.hid (fun (M' : Mm) (w : World) (h : Has σ M' w) => failMade h (-1) (-1) ⟨#[109, 97, 99, 104, 105, 110, 101]⟩ 1 (by omega))
  clear hc
  have hx : (ints .i64 14 c).extract 0 (0 + 14) = ints .i64 14 c := rfl
  have hz : (ints .i64 14 c).size = 14 := rfl
  simp only [confV] at PN ⊢
  generalize ints .i64 14 c = row at PN hx hz ⊢
  go_enter Try.func6, Try.ntmps6
  go_upto_region 1 with (fail)
  obtain ⟨M1, hbx, hle, hbf, hnf⟩ := h.box (.cells row 24)
  generalize w.alloc _ = wx at hbx ⊢
  generalize w.heap.size = bf at hbf hnf ⊢
  clear h
  try clear w
  have h := hbx
  clear hbx
  obtain ⟨w, rfl⟩ : ∃ x : World, x = wx := ⟨_, rfl⟩
  go_wp2_with (first
    | ((with_reducible show wpList _ _ _ ({ dst := _, op := Op.load 24 _, type := _, pos := _, after := _, guard := _ } :: _) _ _); refine wpList_agg_has h rfl 24 _ rfl rfl hbf hx hz Try.underlying24 rfl (by kernel_rfl) ?_; try simp only [Act.put, List.setIfInBounds_toArray, List.set_cons_zero, List.set_cons_succ])
    | (go_at_call 41; refine (PN.out _ _ h).mono ?_; clear h; rintro _ w ⟨rfl, h⟩)
    | (go_at_call 42; refine (FN.out _ _ h).mono ?_; clear h; rintro _ w ⟨b, M2, rfl, h, hle2, hb, hn⟩))
  go_ret2
  exact ⟨b, M2, rfl, h, Mm.le_trans hle hle2, hb⟩
end
section
open Go.RowKit
set_option linter.unusedVariables false
set_option linter.unusedSimpArgs false
set_option linter.unnecessarySimpa false
section
variable {σ w : World} {M : Mm} {it bm since c0 clock : Nat} {seen : Array Nat} {es : Array MapEntry}
theorem run_next_has (h : Has σ M w) (ty : TypeId) (hit : M it = some (.mapIter (some bm) since seen c0)) (hb : M bm = some (.map es clock)) (hold : ∀ x ∈ es.toList, x.born < since) (hsc : since ≤ c0) :
    ((leftOf es seen).size = 0 ∧ (Instr.next (.pointer (some ⟨it, 0, none⟩)) false ty).run Try.prog w = .ok (.tuple #[.bool false]) w) ∨
    ∃ e ∈ (leftOf es seen).toList, ∃ w1 : World, Has σ (M.upd it (.mapIter (some bm) since (seen.push e.born) clock)) w1 ∧ (Instr.next (.pointer (some ⟨it, 0, none⟩)) false ty).run Try.prog w = .ok (.tuple #[.bool true, e.key, e.val]) w1 := by
  have hwi := h.at_ _ _ hit
  have hwb := h.at_ _ _ hb
  simp only [Instr.next, getObj, Sem.run_bind, Sem.run, hwi, hwb, Result.andThen, next_test_false seen es since c0 hold hsc, Bool.false_eq_true, if_false]
  have hmem : ∀ x ∈ (Array.filter (fun e => !seen.contains e.born) es).toList, x.born < since := fun x hx => hold x (by simp at hx ⊢; exact hx.1)
  unfold leftOf
  generalize Array.filter (fun e => !seen.contains e.born) es = L at hmem ⊢
  have e1 : L.filter (fun x => decide (x.born < since)) = L := Array.filter_eq_self.2 (fun x hx => by simpa using hmem x (by simpa using hx))
  have e2 : L.filter (fun x => decide (x.born ≥ since)) = #[] := by
    rw [Array.filter_eq_empty_iff]
    intro x hx
    have := hmem x (by simpa using hx)
    simp
    omega
  simp only [e1, e2, Array.append_empty]
  by_cases h0 : L.size = 0
  · left
    have : L = #[] := Array.eq_empty_of_size_eq_zero h0
    subst this
    refine ⟨rfl, ?_⟩
    simp [choose, Sem.run, Question.forced]
  · right
    have hne : L.isEmpty = false := by simp [Array.isEmpty, h0]
    simp only [hne, Bool.false_eq_true, if_false, Array.empty_append, Array.size_map]
    have hch : ∃ (j : Nat) (w1 : World), j < L.size ∧ Has σ M w1 ∧ (choose (Question.mapNext L.size)).run Try.prog w = .ok j w1 := by
      by_cases hf : L.size ≤ 1
      · exact ⟨0, w, by omega, h, by simp [choose, Sem.run, Question.forced, hf]⟩
      · exact ⟨_, w.drew, Nat.mod_lt _ (by omega), h.drew, by
          simp only [choose, Sem.run, Question.forced, decide_eq_true_eq, hf, if_false, Question.cut]
          rfl⟩
    obtain ⟨j, w1, hj, h1, hrun⟩ := hch
    have hw1 := h1.at_ _ _ hit
    have hlt : it < w1.heap.size := lt_of_block hw1
    have fin : ∀ o : Obj, Has σ (M.upd it o) { w1 with heap := w1.heap.setIfInBounds it o } := fun o => h1.put ⟨rfl, rfl, rfl, by simp, fun k hk => by simp [Array.getElem?_setIfInBounds, Ne.symm hk]⟩ (by simp [hlt])
    refine ⟨L[j], by simp, _, fin _, ?_⟩
    have hset : ∀ (o' : Obj), (setObj it o').run Try.prog w1 = .ok () { w1 with heap := w1.heap.setIfInBounds it o' } := fun o' => by
      simp only [setObj, Sem.run]
      rw [hw1]
    simp only [hrun, Array.getElem?_map, Array.getElem?_eq_getElem hj, Option.map_some, Sem.run_bind, hset, Result.andThen]
    rfl
theorem run_entry_has (h : Has σ M w) {e : MapEntry} (hit : M it = some (.mapIter (some bm) since (seen.push e.born) clock)) (hb : M bm = some (.map es clock)) (he : e ∈ es.toList) (hn : (es.toList.map (·.born)).Nodup) :
    (Instr.entry (.pointer (some ⟨it, 0, none⟩))).run Try.prog w = .ok (.tuple #[e.key, e.val]) w := by
  have hwi := h.at_ _ _ hit
  have hwb := h.at_ _ _ hb
  have hf : es.find? (·.born == e.born) = some e := by rw [← Array.find?_toList]; exact find_born e es.toList hn he
  simp only [Instr.entry, getObj, Sem.run_bind, Sem.run, hwi, hwb, Result.andThen, Array.back?_push, bne_self_eq_false, Bool.false_eq_true, if_false, hf]
  rfl
theorem run_range_has (h : Has σ M w) (hb : M bm = some (.map es clock)) : (Instr.range 112 (.map (some bm))).run Try.prog w = .ok (.pointer (some ⟨w.heap.size, 0, none⟩)) (w.alloc (.mapIter (some bm) clock #[] clock)) :=
  run_range_map w 112 _ _ bm es clock Try.underlying112 (h.at_ _ _ hb)
theorem iterSeen_has (h : Has σ M w) {a : Option Nat} {b c : Nat} (hit : M it = some (.mapIter a b seen c)) : w.iterSeen it = seen := by
  unfold World.iterSeen
  rw [h.at_ _ _ hit]
end
/-- How many entries of a level have been handed out. -/
def cntE (l : Int) (seen : Array Nat) : List Ent → Nat
  | [] => 0
  | x :: r => (if seen.contains x.born = true ∧ x.l = l then 1 else 0) + cntE l seen r
theorem cntE_none (l : Int) : ∀ es : List Ent, cntE l #[] es = 0
  | [] => rfl
  | x :: r => by
    have : (#[] : Array Nat).contains x.born = false := by simp
    simp only [cntE, this, cntE_none l r]
    rfl
theorem cntE_other (l : Int) (seen : Array Nat) (b : Nat) : ∀ es : List Ent, b ∉ es.map (·.born) → cntE l (seen.push b) es = cntE l seen es
  | [], _ => rfl
  | x :: r, h => by
    have hx : (x.born == b) = false := by
      cases hc : x.born == b with
      | false => rfl
      | true => exact absurd (List.mem_cons.2 (Or.inl (beq_iff_eq.1 hc).symm)) h
    simp only [cntE, contains_push, hx, Bool.or_false, cntE_other l seen b r (fun e => h (List.mem_cons.2 (Or.inr e)))]
theorem cntE_push (l : Int) (seen : Array Nat) (e : Ent) (hs : seen.contains e.born = false) : ∀ es : List Ent, (es.map (·.born)).Nodup → e ∈ es → cntE l (seen.push e.born) es = cntE l seen es + (if e.l = l then 1 else 0)
  | x :: r, hn, he => by
    have hn' : x.born ∉ r.map (·.born) ∧ (r.map (·.born)).Nodup := List.nodup_cons.1 hn
    rcases List.mem_cons.1 he with rfl | h
    · simp only [cntE, contains_push, hs, beq_self_eq_true, Bool.or_true, true_and, Bool.false_eq_true, false_and, if_false, cntE_other l seen e.born r hn'.1]
      omega
    · have hx : (x.born == e.born) = false := by
        cases hc : x.born == e.born with
        | false => rfl
        | true => exact absurd (by rw [beq_iff_eq.1 hc]; exact List.mem_map.2 ⟨e, h, rfl⟩) hn'.1
      simp only [cntE, contains_push, hx, Bool.or_false, cntE_push l seen e hs r hn'.2 h]
      omega
theorem cntE_le (l : Int) (seen : Array Nat) : ∀ es : List Ent, cntE l seen es ≤ es.length
  | [] => Nat.le_refl _
  | x :: r => by
    have := cntE_le l seen r
    simp only [cntE, List.length_cons]
    split <;> omega
/-- How many entries of a level there are. -/
def allE (l : Int) (es : List Ent) : Nat := (es.filter fun x => x.l == l).length
theorem cntE_all (l : Int) (seen : Array Nat) : ∀ es : List Ent, (∀ x ∈ es, seen.contains x.born = true) → cntE l seen es = allE l es
  | [], _ => rfl
  | x :: r, h => by
    have ih := cntE_all l seen r fun y hy => h y (List.mem_cons.2 (Or.inr hy))
    unfold allE at ih ⊢
    simp only [cntE, h x (List.mem_cons.2 (Or.inl rfl)), true_and, List.filter_cons, ih]
    by_cases e : x.l = l
    · simp [e]; omega
    · simp [e]
theorem zspot : (Try.prog.info? 116).bind (·.zero) = some (.agg #[.int .i64 0, .int .i64 0]) := by kernel_rfl
theorem left_mem {es : List Ent} {seen : Array Nat} {e : MapEntry} (h : e ∈ (leftOf (es.map Ent.e).toArray seen).toList) : ∃ x ∈ es, e = x.e ∧ seen.contains x.born = false := by
  obtain ⟨h1, h2⟩ := mem_left h
  simp only [List.mem_map] at h1
  obtain ⟨x, hx, rfl⟩ := h1
  exact ⟨x, hx, rfl, h2⟩
set_option maxHeartbeats 2000000 in
set_option maxRecDepth 20000 in
theorem wardHeld_eq {σ w : World} {M : Mm} {p : Nat} {s : WardS} (h : Has σ M w) (hM : IsWard M p s) (l : Int) (hn : (s.held.map (·.born)).Nodup) (hold : ∀ x ∈ s.held, x.born < s.hclk) (hlen : s.held.length ≤ 1000) :
    Calls Try.prog 39 #[.pointer (some ⟨p, 0, none⟩), .int .i64 l] w fun r w' => r = .returned (.int .i64 (allE l s.held : Nat)) ∧ Has σ M w' := by
  have hh := hM.held
  have c2 : w.cell? ⟨p, 2, none⟩ = some (.map (some s.hb)) := h.cell hM.obj 2
  unfold mapRow at hh
  generalize s.held = es at *
  generalize s.hclk = clock at *
  have HN := Lib.hid hn
  have HO := Lib.hid hold
  have HL := Lib.hid hlen
  have RR := run_range_has h hh
  clear hM hn hold hlen
  go_enter Try.func39, Try.ntmps39
  go_upto_region 5 with (fail)
  clear RR c2
  obtain ⟨M1, hbx, hle, hit, hnit⟩ := h.box (.mapIter (some s.hb) clock #[] clock)
  generalize w.alloc _ = wx at hbx ⊢
  generalize w.heap.size = it at hit hnit ⊢
  clear h
  try clear w
  have h := hbx
  clear hbx
  obtain ⟨w, rfl⟩ : ∃ x : World, x = wx := ⟨_, rfl⟩
  have hb1 := hle _ _ hh
  go_loopw [5] (fun n wr => ∃ (M' : Mm) (seen : Array Nat), Has σ M' wr ∧ M.le M' ∧ M' it = some (.mapIter (some s.hb) clock seen clock) ∧ M' s.hb = some (.map (es.map Ent.e).toArray clock) ∧ n = .int .i64 (cntE l seen es : Nat)) (fun _ w' => (leftOf (es.map Ent.e).toArray (w'.iterSeen it)).size)
  case atStart => exact ⟨M1, #[], h, hle, hit, hb1, by rw [cntE_none]; rfl⟩
  case round =>
    clear h w hit hb1 hle M1 hh
    obtain ⟨w, rfl⟩ : ∃ x : World, x = wr := ⟨_, rfl⟩
    obtain ⟨M', seen, h, hle, hit, hb, rfl⟩ := hrel
    have IS := Lib.hid (iterSeen_has h hit)
    have law := fun ty => run_next_has h ty hit hb (fun x hx => by
      simp only [List.mem_map] at hx
      obtain ⟨y, hy, rfl⟩ := hx
      exact HO.out y hy) (Nat.le_refl _)
    have cle := cntE_le l seen es
    have hl2 := HL.out
    rcases law 0 with ⟨h0, hrun⟩ | ⟨e, he, w1, h1, hrun⟩
    · have hnx : ∀ ty, (Instr.next (.pointer (some ⟨it, 0, none⟩)) false ty).run Try.prog w = _ := fun _ => hrun
      have HC := Lib.hid (cntE_all l seen es fun x hx => all_seen _ _ h0 x.e (by simp only [List.mem_map]; exact ⟨x, hx, rfl⟩))
      clear law h0 hrun hb hit cle hl2
      go_wp2
      go_ret
      exact ⟨by rw [HC.out]; rfl, h.le hle⟩
    · obtain ⟨x, hx, rfl, hs⟩ := left_mem he
      have hnx : ∀ ty, (Instr.next (.pointer (some ⟨it, 0, none⟩)) false ty).run Try.prog w = .ok (.tuple #[.bool true, .agg #[.int .i64 x.l, .int .i64 x.s], .int .i64 x.v]) w1 := fun _ => hrun
      have SH := Lib.hid (left_shrinks _ _ _ he)
      have hit1 := Mm.upd_same M' it (.mapIter (some s.hb) clock (seen.push x.e.born) clock)
      have hne : s.hb ≠ it := fun e => by rw [e, hit] at hb; cases hb
      have hb1 : (M'.upd it (.mapIter (some s.hb) clock (seen.push x.e.born) clock)) s.hb = some (.map (es.map Ent.e).toArray clock) := (Mm.upd_ne hne).trans hb
      have hen : (Instr.entry (.pointer (some ⟨it, 0, none⟩))).run Try.prog w1 = .ok (.tuple #[.agg #[.int .i64 x.l, .int .i64 x.s], .int .i64 x.v]) w1 := run_entry_has h1 hit1 hb1 (by simp only [List.mem_map]; exact ⟨x, hx, rfl⟩) (by simpa [List.map_map, Function.comp_def, Ent.e] using HN.out)
      have CP := Lib.hid (cntE_push l seen x hs es HN.out hx)
      have hle1 : M.le (M'.upd it (.mapIter (some s.hb) clock (seen.push x.e.born) clock)) := Mm.le_upd hle hnit _
      clear law hrun he hb hs hit hle
      generalize M'.upd it _ = M2 at h1 hit1 hb1 hle1
      go_upto_region 6 with (fail)
      clear hnx h
      have h := h1
      clear h1
      go_upto_region 7 with (first
        | ((with_reducible show wpList _ _ _ ({ dst := _, op := Op.alloc 116, type := _, pos := _, after := _, guard := _ } :: _) _ _); refine wpList_alloc_has h rfl 116 rfl _ zspot ?_; clear h; intro bx w h hnx; try simp only [Act.put, List.setIfInBounds_toArray, List.set_cons_zero, List.set_cons_succ])
        | ((with_reducible show wpList _ _ _ ({ dst := _, op := Op.store 116 _ _, type := _, pos := _, after := _, guard := _ } :: _) _ _); refine wpList_storeAll_has (cells := #[.int .i64 x.l, .int .i64 x.s]) h rfl 116 _ _ rfl rfl rfl (Mm.upd_same _ _ _) rfl rfl rfl (by kernel_rfl) rfl ?_; clear h; intro w h))
      rw [Mm.upd_upd] at h
      have hit2 := Mm.upd_of (o := .cells #[.int .i64 x.l, .int .i64 x.s] 116) hnx hit1
      have hb2 := Mm.upd_of (o := .cells #[.int .i64 x.l, .int .i64 x.s] 116) hnx hb1
      have hbx := Mm.upd_same M2 bx (.cells #[.int .i64 x.l, .int .i64 x.s] 116)
      have hle2 : M.le (M2.upd bx (.cells #[.int .i64 x.l, .int .i64 x.s] 116)) := Mm.le_trans hle1 (Mm.le_upd' hnx _)
      clear hen hit1 hb1 hle1 hnx
      generalize M2.upd bx _ = M3 at h hit2 hb2 hbx hle2
      have d0 : (#[.int .i64 x.l, .int .i64 x.s] : Array Value)[0]? = some (.int .i64 x.l) := rfl
      by_cases hxl : x.l = l
      · rw [if_pos hxl] at CP
        replace d0 : (#[.int .i64 x.l, .int .i64 x.s] : Array Value)[0]? = some (.int .i64 l) := by rw [hxl]; rfl
        clear hxl
        go_wp2_with (first
          | (with_reducible show wpList _ _ _ ({ dst := _, op := Op.load 3 _, type := _, pos := _, after := _, guard := _ } :: _) _ _; refine wpList_load1_has h rfl 3 _ rfl rfl hbx d0 Try.underlying3 rfl ?_))
        go_roundw
        case rel => exact ⟨M3, seen.push x.e.born, h, hle2, hit2, hb2, by rw [show cntE l (seen.push x.e.born) es = cntE l seen es + 1 from CP.out]; go_num⟩
        case measure => rw [iterSeen_has h hit2, IS.out]; exact SH.out
      · rw [if_neg hxl] at CP
        have hxb : (x.l == l) = false := beq_eq_false_iff_ne.2 hxl
        clear hxl
        go_wp2_with (first
          | (with_reducible show wpList _ _ _ ({ dst := _, op := Op.load 3 _, type := _, pos := _, after := _, guard := _ } :: _) _ _; refine wpList_load1_has h rfl 3 _ rfl rfl hbx d0 Try.underlying3 rfl ?_))
        go_roundw
        case rel => exact ⟨M3, seen.push x.e.born, h, hle2, hit2, hb2, by rw [show cntE l (seen.push x.e.born) es = cntE l seen es + 0 from CP.out]; rfl⟩
        case measure => rw [iterSeen_has h hit2, IS.out]; exact SH.out
end
end Go.Proofs.Ytnknlleflpkijaa
