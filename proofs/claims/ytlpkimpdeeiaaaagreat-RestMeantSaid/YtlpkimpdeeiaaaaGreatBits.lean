/- Plain laws: parts of words, by bits and by numbers. -/
import Derived.Test.YtlpkimpdeeiaaaaGreatWalk
import Derived.Laws.Bits64b
import Derived.Laws.BitsAllLaws
namespace Go.Proofs.YtlpkimpdeeiaaaaGreat
open Go.RowKit
set_option linter.unusedVariables false
set_option linter.unusedSimpArgs false
set_option linter.unnecessarySimpa false
/-- A part as a number; a word with another part. -/
def cutN (x at_ size : Nat) : Nat := x / 2 ^ at_ % 2 ^ size
def setN (x at_ size n : Nat) : Nat := 2 ^ at_ * (2 ^ size * (x / 2 ^ (at_ + size)) + n % 2 ^ size) + x % 2 ^ at_
def maskN (at_ size : Nat) : Nat := (2 ^ size - 1) * 2 ^ at_
theorem maskN_bit (a s j : Nat) : (maskN a s).testBit j = (decide (a ≤ j) && decide (j < a + s)) := by
  unfold maskN
  rw [Nat.testBit_mul_two_pow, Nat.testBit_two_pow_sub_one]
  by_cases h : a ≤ j
  · simp [h]; omega
  · simp [h]
theorem maskN_lt {a s : Nat} (h : a + s ≤ 64) : maskN a s < 2 ^ 64 := by
  unfold maskN
  have h1 : 2 ^ s - 1 < 2 ^ s := by have := Nat.pow_pos (n := s) (show 0 < 2 by decide); omega
  calc (2 ^ s - 1) * 2 ^ a < 2 ^ s * 2 ^ a := Nat.mul_lt_mul_of_pos_right h1 (Nat.pow_pos (by decide))
    _ = 2 ^ (s + a) := by rw [Nat.pow_add]
    _ ≤ 2 ^ 64 := Nat.pow_le_pow_right (by decide) (by omega)
theorem and_mask (x a s : Nat) : x &&& maskN a s = cutN x a s * 2 ^ a := by
  apply Nat.eq_of_testBit_eq
  intro j
  unfold cutN
  rw [Nat.testBit_and, maskN_bit, Nat.testBit_mul_two_pow, Nat.testBit_mod_two_pow, Nat.testBit_div_two_pow]
  by_cases h : a ≤ j
  · have e : j - a + a = j := by omega
    by_cases h2 : j < a + s
    · simp [h, h2, e]; omega
    · simp [h, h2, e]; omega
  · simp [h]
theorem cut_shift (x a s : Nat) : (x &&& maskN a s) / 2 ^ a = cutN x a s := by
  rw [and_mask]
  exact Nat.mul_div_cancel _ (Nat.pow_pos (by decide))
theorem setN_bit (x a s n j : Nat) : (setN x a s n).testBit j = (if j < a then x.testBit j else if j < a + s then n.testBit (j - a) else x.testBit j) := by
  unfold setN
  rw [Nat.testBit_two_pow_mul_add _ (Nat.mod_lt _ (Nat.pow_pos (by decide)))]
  by_cases h : j < a
  · rw [if_pos h, if_pos h, Nat.testBit_mod_two_pow]; simp [h]
  · rw [if_neg h, if_neg h, Nat.testBit_two_pow_mul_add _ (Nat.mod_lt _ (Nat.pow_pos (by decide)))]
    by_cases h2 : j < a + s
    · rw [if_pos (by omega), if_pos h2, Nat.testBit_mod_two_pow]; simp; omega
    · rw [if_neg (by omega), if_neg h2, Nat.testBit_div_two_pow]
      congr 1
      omega
theorem set_bits (x a s n : Nat) (hx : x < 2 ^ 64) (h : a + s ≤ 64) : (x &&& (2 ^ 64 - 1 - maskN a s)) ||| ((n * 2 ^ a) % 2 ^ 64 &&& maskN a s) = setN x a s n := by
  apply Nat.eq_of_testBit_eq
  intro j
  rw [setN_bit, Nat.testBit_or, Nat.testBit_and, Nat.testBit_and, maskN_bit, show 2 ^ 64 - 1 - maskN a s = 2 ^ 64 - (maskN a s + 1) by omega, Nat.testBit_two_pow_sub_succ (maskN_lt h), maskN_bit, Nat.testBit_mod_two_pow, Nat.testBit_mul_two_pow]
  by_cases h1 : j < a
  · have h64 : j < 64 := by omega
    simp [h1, show ¬ a ≤ j by omega, h64]
  · by_cases h2 : j < a + s
    · have h64 : j < 64 := by omega
      simp [h1, h2, show a ≤ j by omega, h64]
    · by_cases h64 : j < 64
      · simp [h1, h2, show a ≤ j by omega, h64]
      · have : x.testBit j = false := Nat.testBit_lt_two_pow (Nat.lt_of_lt_of_le hx (Nat.pow_le_pow_right (by decide) (by omega)))
        simp [h1, h2, h64, this]
theorem setN_lt {x a s n : Nat} (hx : x < 2 ^ 64) (h : a + s ≤ 64) : setN x a s n < 2 ^ 64 := by
  rw [← set_bits x a s n hx h]
  exact Nat.or_lt_two_pow (Nat.lt_of_le_of_lt Nat.and_le_left hx) (Nat.lt_of_le_of_lt Nat.and_le_right (maskN_lt h))
theorem cutN_lt (x a s : Nat) : cutN x a s < 2 ^ s := Nat.mod_lt _ (Nat.pow_pos (by decide))
end Go.Proofs.YtlpkimpdeeiaaaaGreat
