/- Words of Sets that are empty; bits turned on. -/
import Derived.Test.YtjnhklhgcbknkaaGreatDoorMoE
import Derived.Test.YtjnhklhgcbknkaaGreatDoorField
namespace Go.Proofs.YtjnhklhgcbknkaaGreatDoor
open Go.RowKit
set_option linter.unusedVariables false
set_option linter.unusedSimpArgs false
set_option linter.unnecessarySimpa false
theorem mask_one (a : Nat) : maskN a 1 = 2 ^ a := by unfold maskN; omega
theorem fieldTurn_on (x a : Nat) (hx : x < 2 ^ a) (ha : a < 64) (w : World) : Calls Tryz.prog 39 #[.int .u64 x, .int .i64 a, .bool true] w fun r w' => r = .returned (.int .u64 (2 ^ a + x : Nat)) ∧ w = w' := by
  have MK := Lib.hid (mask_any a 1 (by omega) (by omega))
  rw [mask_one] at MK
  have hp : 2 ^ a < 2 ^ 64 := Nat.pow_lt_pow_right (by decide) ha
  have B := bits_or_u64_nat x (2 ^ a) (by omega) hp
  have e : x ||| 2 ^ a = 2 ^ a + x := by rw [Nat.or_comm]; exact (Nat.two_pow_add_eq_or_of_lt hx 1 |> fun h => by simpa using h.symm)
  rw [e] at B
  generalize 2 ^ a + x = y at *
  generalize 2 ^ a = z at *
  clear e hp hx ha
  go_enter Tryz.func39, Tryz.ntmps39
  go_wp2_with (first
    | (go_at_call 58; refine (MK.out _).mono ?_; rintro r w' ⟨rfl, rfl⟩))
  go_ret
  exact ⟨rfl, rfl⟩

set_option maxHeartbeats 1000000 in
theorem fieldTurn_off0 {σ w : World} {M : Mm} (h : Has σ M w) (a : Nat) (ha : a < 64) : Calls Tryz.prog 39 #[.int .u64 0, .int .i64 a, .bool false] w fun r w' => r = .returned (.int .u64 0) ∧ Has σ M w' := by
  have MK := Lib.hid (mask_any a 1 (by omega) (by omega))
  have hm := maskN_lt (a := a) (s := 1) (by omega)
  have B := u64_andNot_nat 0 (maskN a 1) (by decide) hm
  have V : Hid (0 &&& (18446744073709551615 - maskN a 1) = 0) := Nat.zero_and _
  have B2 : bits BinOp.andNot IntKind.u64 0 (maskN a 1 : Int) = 0 := by rw [show (0 : Int) = ((0 : Nat) : Int) from rfl, B, Nat.zero_and]
  clear B V
  generalize maskN a 1 = m at *
  go_enter Tryz.func39, Tryz.ntmps39
  go_wp2_with (first
    | (go_at_call 58; refine (MK.out _).mono ?_; rintro r w' ⟨rfl, rfl⟩))
  go_ret
  exact ⟨rfl, h⟩
theorem fieldSet_0 {σ w : World} {M : Mm} (h : Has σ M w) (a s : Nat) (h1 : 1 ≤ s) (has : a + s ≤ 64) : Calls Tryz.prog 55 #[.int .u64 0, .int .i64 a, .int .i64 s, .int .u64 0] w fun r w' => r = .returned (.int .u64 0) ∧ Has σ M w' :=
  (fieldSet_any 0 a s 0 (by decide) (by decide) h1 has w).mono fun r w' ⟨e, hw⟩ => ⟨by rw [e]; simp [setN], hw ▸ h⟩
def set0 : Array Value := #[.int .i64 0, .bool false, .int .i64 0, .bool false, .int .i64 0, .bool false, .int .i64 0, .bool false, .int .i64 0, .int .u64 0]
def ways0 : Array Value := #[.int .i64 0, .bool false, .int .i64 0, .bool false, .int .i64 0, .bool false, .int .i64 0, .bool false]
theorem zway : (Tryz.prog.info? 72).bind (·.zero) = some (.agg #[.int .i64 0, .bool false]) := by kernel_rfl
set_option maxHeartbeats 1000000 in
set_option maxRecDepth 20000 in
theorem word_0 {σ w : World} {M : Mm} (h : Has σ M w) : Calls Tryz.prog 34 #[.agg set0] w fun r w' => r = .returned (.int .u64 0) ∧ Has σ M w' := by
  have s8 : set0[8]? = some (.int .i64 0) := rfl
  have s9 : set0[9]? = some (.int .u64 0) := rfl
  have sw : set0.extract 0 (0 + 8) = ways0 := by simp [set0, ways0]
  have sz : set0.size = 10 := rfl
  generalize set0 = ss at *
  go_enter Tryz.func34, Tryz.ntmps34
  go_upto_region 1 with (first
    | ((with_reducible show wpList _ _ _ ({ dst := _, op := Op.box 75 _, type := _, pos := _, after := _, guard := _ } :: _) _ _); refine wpList_box_has h rfl 75 _ rfl ?_; clear h; intro b1 w h hn1; try simp only [Act.put, List.setIfInBounds_toArray, List.set_cons_zero, List.set_cons_succ]))
  replace hn1 : M b1 = none := hn1
  replace h : Has σ (M.upd b1 (.cells ss 75)) w := h
  have hle2 : M.le (M.upd b1 (.cells ss 75)) := Mm.le_upd' hn1 _
  have hb1 : (M.upd b1 (.cells ss 75)) b1 = some (.cells ss 75) := (Mm.le_refl _) _ _ (Mm.upd_same _ _ _)
  replace hn1 : M b1 = none := Mm.none_of (Mm.le_refl _) hn1
  generalize (M.upd b1 (.cells ss 75)) = M2 at h hle2 hb1
  have S1 : Hid (∀ w, Has σ M2 w → Calls Tryz.prog 55 #[.int .u64 0, .int .i64 36, .int .i64 2, .int .u64 0] w fun r w' => r = .returned (.int .u64 0) ∧ Has σ M2 w') := fun w h => fieldSet_0 h 36 2 (by omega) (by omega)
  have S2 : Hid (∀ w, Has σ M2 w → Calls Tryz.prog 55 #[.int .u64 0, .int .i64 38, .int .i64 26, .int .u64 0] w fun r w' => r = .returned (.int .u64 0) ∧ Has σ M2 w') := fun w h => fieldSet_0 h 38 26 (by omega) (by omega)
  have wz : ways0.size = 8 := rfl
  go_upto_region 4 with (first
    | (with_reducible show wpList _ _ _ ({ dst := _, op := Op.load 3 _, type := _, pos := _, after := _, guard := _ } :: _) _ _; refine wpList_load1_has h rfl 3 _ rfl rfl hb1 s8 Tryz.underlying3 rfl ?_)
    | (with_reducible show wpList _ _ _ ({ dst := _, op := Op.load 23 _, type := _, pos := _, after := _, guard := _ } :: _) _ _; refine wpList_load1_has h rfl 23 _ rfl rfl hb1 s9 Tryz.underlying23 rfl ?_)
    | ((with_reducible show wpList _ _ _ ({ dst := _, op := Op.load 73 _, type := _, pos := _, after := _, guard := _ } :: _) _ _); refine wpList_agg_has h rfl 73 _ rfl rfl hb1 sw wz Tryz.underlying73 rfl (by kernel_rfl) ?_; try simp only [Act.put, List.setIfInBounds_toArray, List.set_cons_zero, List.set_cons_succ])
    | (go_at_call_of 55 (Value.int .i64 36); refine (S1.out _ h).mono ?_; clear h; rintro _ w ⟨rfl, h⟩)
    | (go_at_call_of 55 (Value.int .i64 38); refine (S2.out _ h).mono ?_; clear h; rintro _ w ⟨rfl, h⟩))
  go_loopw [3, 16] (fun u i wr => ∃ (k : Nat) (M' : Mm), k ≤ 4 ∧ i = .int .i64 k ∧ u = .int .u64 0 ∧ Has σ M' wr ∧ M.le M') (fun _ i _ => 4 - (intOf i).toNat)
  case atStart => exact ⟨0, M2, by omega, rfl, rfl, h, hle2⟩
  case round =>
    clear h w
    obtain ⟨w, rfl⟩ : ∃ x : World, x = wr := ⟨_, rfl⟩
    obtain ⟨k, M', hk, rfl, rfl, h, hle⟩ := hrel
    by_cases hlt : k < 4
    · have IX : ∀ w, (Instr.index 73 (.agg ways0) (.int .i64 (k : Int))).run Tryz.prog w = .ok (.agg #[.int .i64 0, .bool false]) w := fun w => by
        rcases (by omega : k = 0 ∨ k = 1 ∨ k = 2 ∨ k = 3) with rfl | rfl | rfl | rfl <;> kernel_rfl
      have FS : Hid (∀ (M' : Mm) w, Has σ M' w → Calls Tryz.prog 55 #[.int .u64 0, .int .i64 (9 * (k : Int)), .int .i64 8, .int .u64 0] w fun r w' => r = .returned (.int .u64 0) ∧ Has σ M' w') := fun M' w h => by
        have := fieldSet_0 h (9 * k) 8 (by omega) (by omega)
        simpa using this
      have FT : Hid (∀ (M' : Mm) w, Has σ M' w → Calls Tryz.prog 39 #[.int .u64 0, .int .i64 (9 * (k : Int) + 8), .bool false] w fun r w' => r = .returned (.int .u64 0) ∧ Has σ M' w') := fun M' w h => by
        have := fieldTurn_off0 h (9 * k + 8) (by omega)
        simpa using this
      generalize ways0 = wy at *
      go_upto_region 6 with (first
        | ((with_reducible show wpList _ _ _ ({ dst := _, op := Op.alloc 72, type := _, pos := _, after := _, guard := _ } :: _) _ _); refine wpList_alloc_has h rfl 72 rfl _ zway ?_; clear h; intro b5 w h hn5; try simp only [Act.put, List.setIfInBounds_toArray, List.set_cons_zero, List.set_cons_succ])
        | ((with_reducible show wpList _ _ _ ({ dst := _, op := Op.store 72 _ _, type := _, pos := _, after := _, guard := _ } :: _) _ _); have hx5 := Mm.upd_same M' b5 (.cells #[.int .i64 0, .bool false] 72); refine wpList_storeAll_has (cells := #[.int .i64 0, .bool false]) h rfl 72 _ _ rfl rfl rfl hx5 rfl rfl rfl (by kernel_rfl) rfl ?_; clear h; intro w h))
      replace h : Has σ (M'.upd b5 (.cells #[.int .i64 0, .bool false] 72)) w := by rw [Mm.upd_upd] at h; exact h
      have hb5 := Mm.upd_same M' b5 (.cells #[.int .i64 0, .bool false] 72)
      have hle5 := Mm.le_trans hle (Mm.le_upd' hn5 (.cells #[.int .i64 0, .bool false] 72))
      clear IX hn5
      generalize M'.upd b5 (.cells #[.int .i64 0, .bool false] 72) = M5 at *
      have y0 : (#[.int .i64 0, .bool false] : Array Value)[0]? = some (.int .i64 0) := rfl
      have y1 : (#[.int .i64 0, .bool false] : Array Value)[1]? = some (.bool false) := rfl
      go_wp2_with (first
        | (with_reducible show wpList _ _ _ ({ dst := _, op := Op.load 3 _, type := _, pos := _, after := _, guard := _ } :: _) _ _; refine wpList_load1_has h rfl 3 _ rfl rfl hb5 y0 Tryz.underlying3 rfl ?_)
        | (with_reducible show wpList _ _ _ ({ dst := _, op := Op.load 4 _, type := _, pos := _, after := _, guard := _ } :: _) _ _; refine wpList_load1_has h rfl 4 _ rfl rfl hb5 y1 Tryz.underlying4 rfl ?_)
        | (go_at_call 55; refine (FS.out _ _ h).mono ?_; clear h; rintro _ w ⟨rfl, h⟩)
        | (go_at_call 39; refine (FT.out _ _ h).mono ?_; clear h; rintro _ w ⟨rfl, h⟩))
      first
        | exact ⟨⟨k + 1, M5, hlt, rfl, rfl, h, hle5⟩, by simp [intOf]; omega⟩
        | (go_roundw
           case rel => exact ⟨k + 1, M5, hlt, rfl, rfl, h, hle5⟩
           case measure => simp [intOf]; omega)
    · obtain rfl : k = 4 := by omega
      go_wp2
      go_ret
      exact ⟨rfl, h.le hle⟩
end Go.Proofs.YtjnhklhgcbknkaaGreatDoor
