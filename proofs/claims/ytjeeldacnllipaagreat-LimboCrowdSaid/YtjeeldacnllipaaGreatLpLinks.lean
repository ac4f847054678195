import Derived.Test.YtjeeldacnllipaaGreatLpField
namespace Go.Proofs.YtjeeldacnllipaaGreat
set_option linter.unusedVariables false
set_option linter.unusedSimpArgs false
set_option linter.unnecessarySimpa false
section
open Go.RowKit
def xQ (slot gen : Nat) : Nat := setN (cutN slot 0 8) 8 32 gen
def yK (slot n : Nat) : Nat := setN (cutN slot 0 8) 8 56 n
def zA (gen state : Nat) : Nat := setN (cutN state 0 2) 2 32 gen
theorem qN {x a s : Nat} (h : s ≤ 64) : cutN x a s < 18446744073709551616 := Nat.lt_of_lt_of_le (yG x a s) (Nat.pow_le_pow_right (by decide : 0 < 2) h : 2 ^ s ≤ 2 ^ 64)
theorem tY {x : Nat} (h : x < 18446744073709551616) : IntKind.u64.wrap (x : Int) = x := IntWalk.u64_in _ (by omega)
theorem sJ (slot gen : Nat) (hs : slot < 9223372036854775808) (hg : gen < 9223372036854775808) (w : World) : Calls Tryz.prog 65 #[.int .i64 slot, .int .i64 gen] w fun r w' => r = .returned (.int .u64 (xQ slot gen : Nat)) ∧ w = w' := by
 have u1 := tY (x := slot) (by omega)
 have u2 := tY (x := gen) (by omega)
 have C := Lib.hid (yN slot 0 8 (by omega) (by omega) (by omega))
 have S1 := Lib.hid (vI (cutN slot 0 8) 8 32 gen (qN (by omega)) (by omega) (by omega) (by omega))
 have E : Hid (xQ slot gen = setN (cutN slot 0 8) 8 32 gen) := rfl
 generalize setN (cutN slot 0 8) 8 32 gen = y at S1 E
 generalize cutN slot 0 8 = x at S1 C
 clear hs hg
 go_enter Tryz.func65, Tryz.ntmps65
 go_wp2_with (first
  | (go_at_call 66; refine (C.out _).mono ?_; rintro r w' ⟨rfl, rfl⟩)
  | (go_at_call 106; refine (S1.out _).mono ?_; rintro r w' ⟨rfl, rfl⟩))
 go_ret
 exact ⟨by rw [E.out]; rfl, rfl⟩
theorem nR (slot n : Nat) (hs : slot < 9223372036854775808) (hg : n < 18446744073709551616) (w : World) : Calls Tryz.prog 88 #[.int .i64 slot, .int .u64 n] w fun r w' => r = .returned (.int .u64 (yK slot n : Nat)) ∧ w = w' := by
 have u1 := tY (x := slot) (by omega)
 have C := Lib.hid (yN slot 0 8 (by omega) (by omega) (by omega))
 have S1 := Lib.hid (vI (cutN slot 0 8) 8 56 n (qN (by omega)) (by omega) (by omega) (by omega))
 have E : Hid (yK slot n = setN (cutN slot 0 8) 8 56 n) := rfl
 generalize setN (cutN slot 0 8) 8 56 n = y at S1 E
 generalize cutN slot 0 8 = x at S1 C
 clear hs hg
 go_enter Tryz.func88, Tryz.ntmps88
 go_wp2_with (first
  | (go_at_call 66; refine (C.out _).mono ?_; rintro r w' ⟨rfl, rfl⟩)
  | (go_at_call 106; refine (S1.out _).mono ?_; rintro r w' ⟨rfl, rfl⟩))
 go_ret
 exact ⟨by rw [E.out]; rfl, rfl⟩
theorem vJ (gen state : Nat) (hs : state < 9223372036854775808) (hg : gen < 9223372036854775808) (w : World) : Calls Tryz.prog 89 #[.int .i64 gen, .int .i64 state] w fun r w' => r = .returned (.int .u64 (zA gen state : Nat)) ∧ w = w' := by
 have u1 := tY (x := state) (by omega)
 have u2 := tY (x := gen) (by omega)
 have C := Lib.hid (yN state 0 2 (by omega) (by omega) (by omega))
 have S1 := Lib.hid (vI (cutN state 0 2) 2 32 gen (qN (by omega)) (by omega) (by omega) (by omega))
 have E : Hid (zA gen state = setN (cutN state 0 2) 2 32 gen) := rfl
 generalize setN (cutN state 0 2) 2 32 gen = y at S1 E
 generalize cutN state 0 2 = x at S1 C
 clear hs hg
 go_enter Tryz.func89, Tryz.ntmps89
 go_wp2_with (first
  | (go_at_call 66; refine (C.out _).mono ?_; rintro r w' ⟨rfl, rfl⟩)
  | (go_at_call 106; refine (S1.out _).mono ?_; rintro r w' ⟨rfl, rfl⟩))
 go_ret
 exact ⟨by rw [E.out]; rfl, rfl⟩
theorem mkLink_1 : xQ 1 0 = 1 := by decide
theorem mkTop_2 : yK 2 0 = 2 := by decide
theorem mkHead_1 : zA 0 1 = 1 := by decide
end
end Go.Proofs.YtjeeldacnllipaaGreat
