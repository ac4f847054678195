/- A function, changed at one place. -/
import Derived.Test.YtlpkimpdeeiaaaaGreatBase
namespace Go.Proofs.YtlpkimpdeeiaaaaGreat
open Go.RowKit
/-- Ints, as a slice's cells. -/
def natv (l : List Nat) : List Value := l.map fun n : Nat => Value.int .i64 n
theorem natv_snoc' (l : List Nat) (x : Nat) : natv (l ++ [x]) = natv l ++ [.int .i64 (x : Nat)] := by simp [natv]
theorem natv_len' (l : List Nat) : (natv l).length = l.length := by simp [natv]
def put1 {α : Type} (f : Nat → α) (k : Nat) (v : α) : Nat → α := fun j => if j = k then v else f j
theorem put1_same {α : Type} (f : Nat → α) (k : Nat) (v : α) : put1 f k v k = v := if_pos rfl
theorem put1_ne {α : Type} {f : Nat → α} {k j : Nat} {v : α} (h : j ≠ k) : put1 f k v j = f j := if_neg h
theorem put1_self {α : Type} (f : Nat → α) (k : Nat) : put1 f k (f k) = f := by funext j; unfold put1; by_cases hj : j = k <;> simp [hj]
theorem put1_put1 {α : Type} (f : Nat → α) (k : Nat) (a b : α) : put1 (put1 f k a) k b = put1 f k b := by funext j; unfold put1; by_cases hj : j = k <;> simp [hj]
end Go.Proofs.YtlpkimpdeeiaaaaGreat
