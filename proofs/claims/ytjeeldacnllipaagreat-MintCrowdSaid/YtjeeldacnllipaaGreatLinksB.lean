/- Walks of layers 2, 3 (link, handle): parts of words. -/
import Derived.Test.YtjeeldacnllipaaGreatLinks
import Derived.Test.YtjeeldacnllipaaGreatMem
namespace Go.Proofs.YtjeeldacnllipaaGreat
open Go.RowKit
set_option linter.unusedVariables false
set_option linter.unusedSimpArgs false
set_option linter.unnecessarySimpa false
theorem linkUnder_any (top : Nat) (ht : top < 18446744073709551616) (w : World) : Calls Tryz.prog 138 #[.int .u64 top] w fun r w' => r = .returned (.int .i64 (cutN top 0 8 : Nat)) ∧ w = w' := by
  have C := Lib.hid (fieldCut_any top 0 8 (by omega) (by omega) (by omega))
  have hl : cutN top 0 8 < 256 := cutN_lt top 0 8
  have u1 : IntKind.i64.wrap ((cutN top 0 8 : Nat) : Int) = ((cutN top 0 8 : Nat) : Int) := IntWalk.i64_in _ (by omega)
  generalize cutN top 0 8 = x at *
  clear ht hl
  go_enter Tryz.func138, Tryz.ntmps138
  go_wp2_with (first
    | (go_at_call 66; refine (C.out _).mono ?_; rintro r w' ⟨rfl, rfl⟩))
  go_ret
  exact ⟨rfl, rfl⟩
theorem linkChanged_any (top slot : Nat) (ht : top < 18446744073709551616) (hs : slot < 9223372036854775808) (w : World) : Calls Tryz.prog 146 #[.int .u64 top, .int .i64 slot] w fun r w' => r = .returned (.int .u64 (mkTop slot (cutN top 8 56 + 1) : Nat)) ∧ w = w' := by
  have C := Lib.hid (fieldCut_any top 8 56 (by omega) (by omega) (by omega))
  have hl : cutN top 8 56 < 72057594037927936 := cutN_lt top 8 56
  have T := Lib.hid (linkTop_any slot (cutN top 8 56 + 1) hs (by omega))
  have u1 : IntKind.u64.wrap (((cutN top 8 56 : Nat) : Int) + 1) = ((cutN top 8 56 + 1 : Nat) : Int) := by rw [show ((cutN top 8 56 : Nat) : Int) + 1 = ((cutN top 8 56 + 1 : Nat) : Int) by omega]; exact IntWalk.u64_in _ (by omega)
  generalize mkTop slot (cutN top 8 56 + 1) = y at T
  generalize cutN top 8 56 = x at *
  clear ht hl hs
  go_enter Tryz.func146, Tryz.ntmps146
  go_wp2_with (first
    | (go_at_call 66; refine (C.out _).mono ?_; rintro r w' ⟨rfl, rfl⟩)
    | (go_at_call 88; refine (T.out _).mono ?_; rintro r w' ⟨rfl, rfl⟩))
  go_ret
  exact ⟨rfl, rfl⟩
theorem handleState_any (x : Nat) (hx : x < 18446744073709551616) (w : World) : Calls Tryz.prog 142 #[.int .u64 x] w fun r w' => r = .returned (.tuple #[.int .i64 (cutN x 2 32 : Nat), .int .i64 (cutN x 0 2 : Nat)]) ∧ w = w' := by
  have C1 : Hid (∀ w, Calls Tryz.prog 66 #[.int .u64 x, .int .i64 2, .int .i64 32] w fun r w' => r = .returned (.int .u64 (cutN x 2 32 : Nat)) ∧ w = w') := Lib.hid (fieldCut_any x 2 32 (by omega) (by omega) (by omega))
  have C2 : Hid (∀ w, Calls Tryz.prog 66 #[.int .u64 x, .int .i64 0, .int .i64 2] w fun r w' => r = .returned (.int .u64 (cutN x 0 2 : Nat)) ∧ w = w') := Lib.hid (fieldCut_any x 0 2 (by omega) (by omega) (by omega))
  have l1 : cutN x 2 32 < 4294967296 := cutN_lt x 2 32
  have l2 : cutN x 0 2 < 4 := cutN_lt x 0 2
  have u1 : IntKind.i64.wrap ((cutN x 2 32 : Nat) : Int) = ((cutN x 2 32 : Nat) : Int) := IntWalk.i64_in _ (by omega)
  have u2 : IntKind.i64.wrap ((cutN x 0 2 : Nat) : Int) = ((cutN x 0 2 : Nat) : Int) := IntWalk.i64_in _ (by omega)
  generalize cutN x 2 32 = a at *
  generalize cutN x 0 2 = b at *
  clear hx l1 l2
  go_enter Tryz.func142, Tryz.ntmps142
  go_wp2_with (fail)
  go_at_call 66
  refine (C1.out _).mono ?_
  rintro r w' ⟨rfl, rfl⟩
  go_wp2_with (first
    | (go_at_call 66; refine (C2.out _).mono ?_; rintro r w' ⟨rfl, rfl⟩))
  go_ret2
  exact ⟨rfl, rfl⟩
end Go.Proofs.YtjeeldacnllipaaGreat
