/- Walks of layers 2, 3 (link, handle): words that are made. -/
import Derived.Test.YtlpkimpdeeiaaaaGreatField
namespace Go.Proofs.YtlpkimpdeeiaaaaGreat
open Go.RowKit
set_option linter.unusedVariables false
set_option linter.unusedSimpArgs false
set_option linter.unnecessarySimpa false
def mkLink (slot gen : Nat) : Nat := setN (cutN slot 0 8) 8 32 gen
def mkTop (slot n : Nat) : Nat := setN (cutN slot 0 8) 8 56 n
def mkHead (gen state : Nat) : Nat := setN (cutN state 0 2) 2 32 gen
theorem cutN_lt64 {x a s : Nat} (h : s ≤ 64) : cutN x a s < 18446744073709551616 := Nat.lt_of_lt_of_le (cutN_lt x a s) (Nat.pow_le_pow_right (by decide : 0 < 2) h : 2 ^ s ≤ 2 ^ 64)
theorem u64_nat {x : Nat} (h : x < 18446744073709551616) : IntKind.u64.wrap (x : Int) = x := IntWalk.u64_in _ (by omega)
theorem linkMake_any (slot gen : Nat) (hs : slot < 9223372036854775808) (hg : gen < 9223372036854775808) (w : World) : Calls Tryz.prog 41 #[.int .i64 slot, .int .i64 gen] w fun r w' => r = .returned (.int .u64 (mkLink slot gen : Nat)) ∧ w = w' := by
  have u1 := u64_nat (x := slot) (by omega)
  have u2 := u64_nat (x := gen) (by omega)
  have C := Lib.hid (fieldCut_any slot 0 8 (by omega) (by omega) (by omega))
  have S1 := Lib.hid (fieldSet_any (cutN slot 0 8) 8 32 gen (cutN_lt64 (by omega)) (by omega) (by omega) (by omega))
  have E : Hid (mkLink slot gen = setN (cutN slot 0 8) 8 32 gen) := rfl
  generalize setN (cutN slot 0 8) 8 32 gen = y at S1 E
  generalize cutN slot 0 8 = x at S1 C
  clear hs hg
  go_enter Tryz.func41, Tryz.ntmps41
  go_wp2_with (first
    | (go_at_call 34; refine (C.out _).mono ?_; rintro r w' ⟨rfl, rfl⟩)
    | (go_at_call 69; refine (S1.out _).mono ?_; rintro r w' ⟨rfl, rfl⟩))
  go_ret
  exact ⟨by rw [E.out]; rfl, rfl⟩
theorem linkTop_any (slot n : Nat) (hs : slot < 9223372036854775808) (hg : n < 18446744073709551616) (w : World) : Calls Tryz.prog 43 #[.int .i64 slot, .int .u64 n] w fun r w' => r = .returned (.int .u64 (mkTop slot n : Nat)) ∧ w = w' := by
  have u1 := u64_nat (x := slot) (by omega)
  have C := Lib.hid (fieldCut_any slot 0 8 (by omega) (by omega) (by omega))
  have S1 := Lib.hid (fieldSet_any (cutN slot 0 8) 8 56 n (cutN_lt64 (by omega)) (by omega) (by omega) (by omega))
  have E : Hid (mkTop slot n = setN (cutN slot 0 8) 8 56 n) := rfl
  generalize setN (cutN slot 0 8) 8 56 n = y at S1 E
  generalize cutN slot 0 8 = x at S1 C
  clear hs hg
  go_enter Tryz.func43, Tryz.ntmps43
  go_wp2_with (first
    | (go_at_call 34; refine (C.out _).mono ?_; rintro r w' ⟨rfl, rfl⟩)
    | (go_at_call 69; refine (S1.out _).mono ?_; rintro r w' ⟨rfl, rfl⟩))
  go_ret
  exact ⟨by rw [E.out]; rfl, rfl⟩
theorem handleHead_any (gen state : Nat) (hs : state < 9223372036854775808) (hg : gen < 9223372036854775808) (w : World) : Calls Tryz.prog 44 #[.int .i64 gen, .int .i64 state] w fun r w' => r = .returned (.int .u64 (mkHead gen state : Nat)) ∧ w = w' := by
  have u1 := u64_nat (x := state) (by omega)
  have u2 := u64_nat (x := gen) (by omega)
  have C := Lib.hid (fieldCut_any state 0 2 (by omega) (by omega) (by omega))
  have S1 := Lib.hid (fieldSet_any (cutN state 0 2) 2 32 gen (cutN_lt64 (by omega)) (by omega) (by omega) (by omega))
  have E : Hid (mkHead gen state = setN (cutN state 0 2) 2 32 gen) := rfl
  generalize setN (cutN state 0 2) 2 32 gen = y at S1 E
  generalize cutN state 0 2 = x at S1 C
  clear hs hg
  go_enter Tryz.func44, Tryz.ntmps44
  go_wp2_with (first
    | (go_at_call 34; refine (C.out _).mono ?_; rintro r w' ⟨rfl, rfl⟩)
    | (go_at_call 69; refine (S1.out _).mono ?_; rintro r w' ⟨rfl, rfl⟩))
  go_ret
  exact ⟨by rw [E.out]; rfl, rfl⟩
theorem mkLink_1 : mkLink 1 0 = 1 := by decide
theorem mkTop_2 : mkTop 2 0 = 2 := by decide
theorem mkHead_1 : mkHead 0 1 = 1 := by decide
end Go.Proofs.YtlpkimpdeeiaaaaGreat
