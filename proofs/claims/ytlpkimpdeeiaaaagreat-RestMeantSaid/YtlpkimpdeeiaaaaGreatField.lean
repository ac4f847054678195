/- Walks of layer 1 (field): parts of words. -/
import Derived.Test.YtlpkimpdeeiaaaaGreatBits
namespace Go.Proofs.YtlpkimpdeeiaaaaGreat
open Go.RowKit
set_option linter.unusedVariables false
set_option linter.unusedSimpArgs false
set_option linter.unnecessarySimpa false
theorem full_div (s : Nat) (h1 : 1 ≤ s) (h : s ≤ 64) : 18446744073709551615 / 2 ^ (64 - s) = 2 ^ s - 1 := by
  have e : (2 : Nat) ^ 64 = 2 ^ s * 2 ^ (64 - s) := by rw [← Nat.pow_add]; congr 1; omega
  have hp := Nat.pow_pos (n := 64 - s) (show 0 < 2 by decide)
  have hq := Nat.pow_pos (n := s) (show 0 < 2 by decide)
  rw [show 18446744073709551615 = (2 ^ s - 1) * 2 ^ (64 - s) + (2 ^ (64 - s) - 1) from ?_]
  · rw [Nat.add_comm, Nat.add_mul_div_right _ _ hp, Nat.div_eq_of_lt (by omega), Nat.zero_add]
  · rw [Nat.sub_mul, ← e]
    have : 2 ^ (64 - s) ≤ 2 ^ 64 := Nat.pow_le_pow_right (by decide) (by omega)
    omega
theorem mask_val (a s : Nat) (h1 : 1 ≤ s) (h : a + s ≤ 64) : IntKind.u64.wrap (((18446744073709551615 / 2 ^ (64 - s) : Nat) : Int) * 2 ^ a) = ((maskN a s : Nat) : Int) := by
  rw [full_div s h1 (by omega)]
  have e : (((2 ^ s - 1 : Nat) : Int) * 2 ^ a) = ((maskN a s : Nat) : Int) := by unfold maskN; push_cast; rfl
  rw [e]
  have := maskN_lt h
  exact IntWalk.u64_in _ (by omega)
theorem mask_valI (a s : Nat) (h1 : 1 ≤ s) (h : a + s ≤ 64) : IntKind.u64.wrap ((18446744073709551615 : Int) / 2 ^ (64 - s) * 2 ^ a) = ((maskN a s : Nat) : Int) := by
  rw [← mask_val a s h1 h]
  congr 1
theorem mask_any (a s : Nat) (h1 : 1 ≤ s) (h : a + s ≤ 64) (w : World) : Calls Tryz.prog 68 #[.int .i64 a, .int .i64 s] w fun r w' => r = .returned (.int .u64 (maskN a s : Nat)) ∧ w = w' := by
  have V := Lib.hid (mask_valI a s h1 h)
  have g1 : decide ((s : Int) < 1) = false := decide_eq_false (by omega)
  have g2 : decide ((64 : Int) ≤ (a : Int)) = false := decide_eq_false (by omega)
  have g3 : decide ((a : Int) < 0) = false := decide_eq_false (by omega)
  have w1 : IntKind.i64.wrap (64 - (a : Int)) = 64 - (a : Int) := IntWalk.i64_in _ (by omega)
  have w2 : IntKind.i64.wrap ((a : Int) + s) = (a : Int) + s := IntWalk.i64_in _ (by omega)
  have w5 : IntKind.i64.wrap (s : Int) = s := IntWalk.i64_in _ (by omega)
  have w4 : IntKind.i64.wrap (64 - (s : Int)) = ((64 - s : Nat) : Int) := by rw [show (64 : Int) - s = ((64 - s : Nat) : Int) by omega]; exact IntWalk.i64_in _ (by omega)
  by_cases hs : s < 64 - a
  · have g4 : decide ((s : Int) < 64 - (a : Int)) = true := decide_eq_true (by omega)
    have m1 : min 64 ((a : Int) + s) = (a : Int) + s := by omega
    have w3 : IntKind.i64.wrap ((a : Int) + s - a) = s := by rw [show (a : Int) + s - a = s by omega]; exact IntWalk.i64_in _ (by omega)
    go_enter Tryz.func68, Tryz.ntmps68
    go_upto_region 6 with (fail)
    rw [show (if 0 < a then (a : Int) else 0) = a by split <;> omega]
    go_wp2
    go_ret
    exact ⟨by rw [← V.out]; rfl, rfl⟩
  · have hs2 : s = 64 - a := by omega
    have g4 : decide ((s : Int) < 64 - (a : Int)) = false := decide_eq_false (by omega)
    have w3 : IntKind.i64.wrap (64 - (a : Int)) = s := by rw [show (64 : Int) - a = s by omega]; exact IntWalk.i64_in _ (by omega)
    have w6 : 64 - (a : Int) = s := by omega
    clear hs hs2
    go_enter Tryz.func68, Tryz.ntmps68
    go_upto_region 6 with (fail)
    rw [show (if 0 < a then (a : Int) else 0) = a by split <;> omega]
    clear w1 g4
    go_wp2
    go_ret
    exact ⟨by rw [← V.out]; rfl, rfl⟩
theorem shift_up (x k : Nat) (hk : k < 64) (w : World) : Calls Tryz.prog 67 #[.int .u64 x, .int .i64 k] w fun r w' => r = .returned (.int .u64 ((x * 2 ^ k % 2 ^ 64 : Nat) : Int)) ∧ w = w' := by
  have g1 : decide ((64 : Int) ≤ (k : Int)) = false := decide_eq_false (by omega)
  have g2 : decide ((k : Int) ≤ -64) = false := decide_eq_false (by omega)
  have g3 : decide ((0 : Int) ≤ (k : Int)) = true := decide_eq_true (by omega)
  have V : Hid (IntKind.u64.wrap ((x : Int) * 2 ^ k) = ((x * 2 ^ k % 2 ^ 64 : Nat) : Int)) := by
    show _ = _
    rw [IntKind.wrap_u64]
    show (x : Int) * 2 ^ k % 18446744073709551616 = ((x * 2 ^ k % 18446744073709551616 : Nat) : Int)
    rw [Int.natCast_emod, Int.natCast_mul, Int.natCast_pow]
    rfl
  go_enter Tryz.func67, Tryz.ntmps67
  go_wp2
  go_ret
  exact ⟨by rw [← V.out]; rfl, rfl⟩
theorem shift_down (x k : Nat) (h0 : 1 ≤ k) (hk : k < 64) (w : World) : Calls Tryz.prog 67 #[.int .u64 x, .int .i64 (-(k : Int))] w fun r w' => r = .returned (.int .u64 ((x / 2 ^ k : Nat) : Int)) ∧ w = w' := by
  have g1 : decide ((64 : Int) ≤ -(k : Int)) = false := decide_eq_false (by omega)
  have g4 : decide ((64 : Int) ≤ (k : Int)) = false := decide_eq_false (by omega)
  have g5 : decide (64 ≤ k) = false := decide_eq_false (by omega)
  have g3 : decide (k = 0) = false := decide_eq_false (by omega)
  have V : Hid ((x : Int) / 2 ^ k = ((x / 2 ^ k : Nat) : Int)) := by show _ = _; push_cast; rfl
  go_enter Tryz.func67, Tryz.ntmps67
  go_wp2
  go_ret
  exact ⟨by rw [← V.out]; rfl, rfl⟩
theorem fieldCut_any (x a s : Nat) (hx : x < 18446744073709551616) (h1 : 1 ≤ s) (h : a + s ≤ 64) (w : World) : Calls Tryz.prog 34 #[.int .u64 x, .int .i64 a, .int .i64 s] w fun r w' => r = .returned (.int .u64 (cutN x a s : Nat)) ∧ w = w' := by
  have MK := Lib.hid (mask_any a s h1 h)
  have hm := maskN_lt h
  have B := bits_and_u64_nat x (maskN a s) hx hm
  have C := cut_shift x a s
  have hlt : x &&& maskN a s < 2 ^ 64 := Nat.lt_of_le_of_lt Nat.and_le_left hx
  generalize maskN a s = m at *
  generalize x &&& m = y at *
  by_cases ha : a = 0
  · subst ha
    rw [Nat.pow_zero, Nat.div_one] at C
    have SH := Lib.hid (shift_up y 0 (by omega))
    rw [Nat.pow_zero, Nat.mul_one, Nat.mod_eq_of_lt hlt, C] at SH
    go_enter Tryz.func34, Tryz.ntmps34
    go_wp2_with (first
      | (go_at_call 68; refine (MK.out _).mono ?_; rintro r w' ⟨rfl, rfl⟩)
      | (go_at_call 67; refine (SH.out _).mono ?_; rintro r w' ⟨rfl, rfl⟩))
    go_ret
    exact ⟨rfl, rfl⟩
  · have SH := Lib.hid (shift_down y a (by omega) (by omega))
    rw [C] at SH
    have m1 : max (-64) (a : Int) = (a : Int) := by omega
    have w1 : IntKind.i64.wrap (-(a : Int)) = -(a : Int) := IntWalk.i64_in _ (by omega)
    clear ha
    go_enter Tryz.func34, Tryz.ntmps34
    go_wp2_with (first
      | (go_at_call 68; refine (MK.out _).mono ?_; rintro r w' ⟨rfl, rfl⟩)
      | (go_at_call 67; refine (SH.out _).mono ?_; rintro r w' ⟨rfl, rfl⟩))
    go_ret
    exact ⟨rfl, rfl⟩
theorem fieldSet_any (x a s n : Nat) (hx : x < 18446744073709551616) (hn : n < 18446744073709551616) (h1 : 1 ≤ s) (h : a + s ≤ 64) (w : World) : Calls Tryz.prog 69 #[.int .u64 x, .int .i64 a, .int .i64 s, .int .u64 n] w fun r w' => r = .returned (.int .u64 (setN x a s n : Nat)) ∧ w = w' := by
  have MK := Lib.hid (mask_any a s h1 h)
  have hm := maskN_lt h
  have B := u64_andNot_nat x (maskN a s) hx hm
  have SH := Lib.hid (shift_up n a (by omega))
  have hlt : n * 2 ^ a % 2 ^ 64 < 2 ^ 64 := Nat.mod_lt _ (by decide)
  have V := Lib.hid (set_bits x a s n hx h)
  have B2 := bits_and_u64_nat (n * 2 ^ a % 2 ^ 64) (maskN a s) hlt hm
  have B3 := bits_or_u64_nat (x &&& (18446744073709551615 - maskN a s)) ((n * 2 ^ a % 2 ^ 64) &&& maskN a s) (Nat.lt_of_le_of_lt Nat.and_le_left hx) (Nat.lt_of_le_of_lt Nat.and_le_right hm)
  generalize n * 2 ^ a % 2 ^ 64 = y at *
  generalize maskN a s = m at *
  have m1 : max (-64) (a : Int) = (a : Int) := by omega
  go_enter Tryz.func69, Tryz.ntmps69
  go_wp2_with (first
    | (go_at_call 68; refine (MK.out _).mono ?_; rintro r w' ⟨rfl, rfl⟩)
    | (go_at_call 67; refine (SH.out _).mono ?_; rintro r w' ⟨rfl, rfl⟩))
  go_ret
  exact ⟨by rw [← V.out]; rfl, rfl⟩
end Go.Proofs.YtlpkimpdeeiaaaaGreat
