/- A configuration's cells, and who may, over known memory (for a seat without a plan). -/
import Derived.Test.YtjnhklhgcbknkaaGreatDoorWalk
import Derived.Test.YtjnhklhgcbknkaaGreatDoorConfMay
namespace Go.Proofs.YtjnhklhgcbknkaaGreatDoor
open Go.RowKit
set_option linter.unusedVariables false
theorem ints14_lit (c : Nat → Int) : ints .i64 14 c = #[.int .i64 (c 0), .int .i64 (c 1), .int .i64 (c 2), .int .i64 (c 3), .int .i64 (c 4), .int .i64 (c 5), .int .i64 (c 6), .int .i64 (c 7), .int .i64 (c 8), .int .i64 (c 9), .int .i64 (c 10), .int .i64 (c 11), .int .i64 (c 12), .int .i64 (c 13)] := rfl
theorem may_has {σ w : World} {M : Mm} (h : Has σ M w) (c : Nat → Int) : Calls Tryz.prog 88 #[confV c] w fun e w' => e = .returned (.bool (confMayB c)) ∧ Has σ M w' :=
  (confMay_any c w).mono fun e w' ⟨he, hb⟩ => ⟨he, h.below hb⟩
end Go.Proofs.YtjnhklhgcbknkaaGreatDoor
