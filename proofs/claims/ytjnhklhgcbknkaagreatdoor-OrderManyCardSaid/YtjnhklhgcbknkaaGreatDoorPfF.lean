/- Layer 16, plain: which opers may come next. -/
import Derived.Test.YtjnhklhgcbknkaaGreatDoorPfD
namespace Go.Proofs.YtjnhklhgcbknkaaGreatDoor
set_option linter.unusedVariables false
set_option linter.unusedSimpArgs false
/-- One that is left is ahead. -/
def BadO (l : List OpS) (order : List Int) (i k : Nat) : Bool := decide (posO (k : Nat) order = 0) && decide (k ≠ i) && match l[k]?, l[i]? with | some a, some b => a.ahead b | _, _ => false
theorem freeO_eq (l : List OpS) (order : List Int) (i : Nat) : FreeO l order i = (decide (posO (i : Nat) order = 0) && (List.range l.length).all fun k => !BadO l order i k) := rfl
theorem freeO_yes {l : List OpS} {order : List Int} {n i : Nat} (hl : l.length = n) (h0 : posO (i : Nat) order = 0) (h : ∀ k, k < n → BadO l order i k = false) : FreeO l order i = true := by
  rw [freeO_eq, hl]
  simp only [h0, decide_true, Bool.true_and, List.all_eq_true, List.mem_range]
  intro k hk
  rw [h k hk]; rfl
theorem freeO_no {l : List OpS} {order : List Int} {n i k : Nat} (hl : l.length = n) (hk : k < n) (h : BadO l order i k = true) : FreeO l order i = false := by
  rw [freeO_eq, hl]
  cases hc : (List.range n).all fun k => !BadO l order i k with
  | false => simp
  | true =>
    have := List.all_eq_true.1 hc k (List.mem_range.2 hk)
    rw [h] at this
    cases this
theorem freeO_in {l : List OpS} {order : List Int} {i : Nat} (h : posO (i : Nat) order ≠ 0) : FreeO l order i = false := by
  rw [freeO_eq]; simp [h]
/-- The first k of what may come next. -/
def nextK (l : List OpS) (order : List Int) (k : Nat) : List Int := ((List.range k).filter (FreeO l order)).map fun (i : Nat) => (i : Int)
theorem nextK_succ (l : List OpS) (order : List Int) (k : Nat) : nextK l order (k + 1) = nextK l order k ++ if FreeO l order k then [(k : Int)] else [] := by
  unfold nextK
  rw [List.range_succ, List.filter_append, List.map_append]
  cases h : FreeO l order k <;> simp [List.filter_cons, h]
theorem nextK_le (l : List OpS) (order : List Int) (k : Nat) : (nextK l order k).length ≤ k := by
  have := List.length_filter_le (FreeO l order) (List.range k)
  simpa [nextK] using this
end Go.Proofs.YtjnhklhgcbknkaaGreatDoor
