/- Walks of layers 2, 3 (link, handle): parts of words. -/
import Derived.Test.YtlpkimpdeeiaaaaGreatLinks
import Derived.Test.YtlpkimpdeeiaaaaGreatMem
namespace Go.Proofs.YtlpkimpdeeiaaaaGreat
open Go.RowKit
set_option linter.unusedVariables false
set_option linter.unusedSimpArgs false
set_option linter.unnecessarySimpa false
theorem linkUnder_any (top : Nat) (ht : top < 18446744073709551616) (w : World) : Calls Tryz.prog 58 #[.int .u64 top] w fun r w' => r = .returned (.int .i64 (cutN top 0 8 : Nat)) ∧ w = w' := by
  have C := Lib.hid (fieldCut_any top 0 8 (by omega) (by omega) (by omega))
  have hl : cutN top 0 8 < 256 := cutN_lt top 0 8
  have u1 : IntKind.i64.wrap ((cutN top 0 8 : Nat) : Int) = ((cutN top 0 8 : Nat) : Int) := IntWalk.i64_in _ (by omega)
  generalize cutN top 0 8 = x at *
  clear ht hl
  go_enter Tryz.func58, Tryz.ntmps58
  go_wp2_with (first
    | (go_at_call 34; refine (C.out _).mono ?_; rintro r w' ⟨rfl, rfl⟩))
  go_ret
  exact ⟨rfl, rfl⟩
theorem handleState_any (x : Nat) (hx : x < 18446744073709551616) (w : World) : Calls Tryz.prog 59 #[.int .u64 x] w fun r w' => r = .returned (.tuple #[.int .i64 (cutN x 2 32 : Nat), .int .i64 (cutN x 0 2 : Nat)]) ∧ w = w' := by
  have C1 : Hid (∀ w, Calls Tryz.prog 34 #[.int .u64 x, .int .i64 2, .int .i64 32] w fun r w' => r = .returned (.int .u64 (cutN x 2 32 : Nat)) ∧ w = w') := Lib.hid (fieldCut_any x 2 32 (by omega) (by omega) (by omega))
  have C2 : Hid (∀ w, Calls Tryz.prog 34 #[.int .u64 x, .int .i64 0, .int .i64 2] w fun r w' => r = .returned (.int .u64 (cutN x 0 2 : Nat)) ∧ w = w') := Lib.hid (fieldCut_any x 0 2 (by omega) (by omega) (by omega))
  have l1 : cutN x 2 32 < 4294967296 := cutN_lt x 2 32
  have l2 : cutN x 0 2 < 4 := cutN_lt x 0 2
  have u1 : IntKind.i64.wrap ((cutN x 2 32 : Nat) : Int) = ((cutN x 2 32 : Nat) : Int) := IntWalk.i64_in _ (by omega)
  have u2 : IntKind.i64.wrap ((cutN x 0 2 : Nat) : Int) = ((cutN x 0 2 : Nat) : Int) := IntWalk.i64_in _ (by omega)
  generalize cutN x 2 32 = a at *
  generalize cutN x 0 2 = b at *
  clear hx l1 l2
  go_enter Tryz.func59, Tryz.ntmps59
  go_wp2_with (fail)
  go_at_call 34
  refine (C1.out _).mono ?_
  rintro r w' ⟨rfl, rfl⟩
  go_wp2_with (first
    | (go_at_call 34; refine (C2.out _).mono ?_; rintro r w' ⟨rfl, rfl⟩))
  go_ret2
  exact ⟨rfl, rfl⟩
end Go.Proofs.YtlpkimpdeeiaaaaGreat
