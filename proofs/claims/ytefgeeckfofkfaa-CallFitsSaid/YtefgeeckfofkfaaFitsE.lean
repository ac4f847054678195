/- Walks of the document's answer for layer 9: which errors an op may be told. -/
import Derived.Test.YtefgeeckfofkfaaFitsB
import Derived.Deep.Light
namespace Go.Proofs.Ytefgeeckfofkfaa
open Go.RowKit
set_option linter.unusedVariables false

def refList (op : Int) : List Int := if op = 0 then [7, 8] else if op = 1 ∨ op = 4 ∨ op = 8 then [6, 13] else if op = 2 ∨ op = 5 ∨ op = 7 then [6, 9] else if op = 3 then [8, 9] else if op = 6 then [8] else if op = 9 then [8, 10] else if op = 10 then [11, 13] else if op = 11 then [11, 9] else []
def refSlice (op : Int) (b : Nat) : Value := if op = 12 then .slice none 0 0 else .slice (some ⟨b, 0, none⟩) (refList op).length (refList op).length
set_option maxHeartbeats 4000000 in
theorem refs_any (op : Int) (h : 0 ≤ op ∧ op ≤ 12) (w : World) : Calls Try.prog 26 #[.int .i64 op] w fun r w' => ∃ b, r = .returned (refSlice op b) ∧ (op ≠ 12 → Blk w' b ((refList op).map (Value.int .i64)).toArray 35) ∧ Below w.heap.size w w' := by
  rcases (by omega : op = 0 ∨ op = 1 ∨ op = 2 ∨ op = 3 ∨ op = 4 ∨ op = 5 ∨ op = 6 ∨ op = 7 ∨ op = 8 ∨ op = 9 ∨ op = 10 ∨ op = 11 ∨ op = 12) with rfl | rfl | rfl | rfl | rfl | rfl | rfl | rfl | rfl | rfl | rfl | rfl | rfl
  all_goals
    go_enter Try.func26, Try.ntmps26
    go_wp2
    go_ret
    first
    | exact ⟨w.heap.size, rfl, fun _ => Blk.new, by repeat (first | with_reducible exact Below.refl _ _ | with_reducible refine Below.drew ?_ | with_reducible refine below_put ?_ (by omega) _ | with_reducible refine Below.alloc ?_ (by simp <;> omega) _)⟩
    | exact ⟨0, rfl, fun h => absurd rfl h, Below.refl _ _⟩

end Go.Proofs.Ytefgeeckfofkfaa
