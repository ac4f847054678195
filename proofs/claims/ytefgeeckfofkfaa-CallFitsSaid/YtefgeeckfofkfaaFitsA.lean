/- Walks of layer 9 (call): what an answer tells, and which errors an op may be told. -/
import Derived.Test.YtefgeeckfofkfaaCallWords
import Derived.Deep.Light
namespace Go.Proofs.Ytefgeeckfofkfaa
open Go.RowKit
set_option linter.unusedVariables false

/-- An answer by value: error, the pair's two words, handle, N, key. -/
def ansCs (e a b h n k : Int) : Array Value := #[.int .i64 e, .int .u64 a, .int .u64 b, .int .u64 h, .int .i64 n, .int .i64 k]
def pairOp (op : Int) : Bool := op == 1 || (op == 2 || (op == 4 || (op == 5 || (op == 7 || (op == 8 || op == 10)))))

set_option maxHeartbeats 1000000 in
theorem told_err (op level key ca cb ch reg e a b h n k : Int) (he : e ≠ 0) (w : World) : Calls Try.prog 23 #[.agg (callCs op level key ca cb ch reg), .agg (ansCs e a b h n k)] w fun r w' =>
    r = .returned (.agg (ansCs e 0 0 0 0 0)) ∧ Below w.heap.size w w' := by
  have hd : (e != 0) = true := bne_iff_ne.2 he
  have hd2 : (e == 0) = false := beq_eq_false_iff_ne.2 he
  clear he
  unfold callCs ansCs
  go_enter Try.func23, Try.ntmps23
  go_wp2
  exact bodyPost_ret (v := .agg (ansCs e 0 0 0 0 0)) (by simp [results, Try.results23, go_sem, ansCs]) rfl ⟨rfl, by repeat (first | with_reducible exact Below.refl _ _ | with_reducible refine Below.drew ?_ | with_reducible refine below_put ?_ (by omega) _ | with_reducible refine Below.alloc ?_ (by simp <;> omega) _)⟩

set_option maxHeartbeats 1000000 in
theorem told_p1 (op level key ca cb ch reg e a b h n k : Int) (w : World) : Calls Try.prog 23 #[.agg (callCs 1 level key ca cb ch reg), .agg (ansCs 0 a b h n k)] w fun r w' =>
    r = .returned (.agg (ansCs 0 a b 0 0 0)) ∧ Below w.heap.size w w' := by
  unfold callCs ansCs
  go_enter Try.func23, Try.ntmps23
  go_wp2
  exact bodyPost_ret (v := .agg (ansCs 0 a b 0 0 0)) (by simp [results, Try.results23, go_sem, ansCs]) rfl ⟨rfl, by repeat (first | with_reducible exact Below.refl _ _ | with_reducible refine Below.drew ?_ | with_reducible refine below_put ?_ (by omega) _ | with_reducible refine Below.alloc ?_ (by simp <;> omega) _)⟩

set_option maxHeartbeats 1000000 in
theorem told_p2 (op level key ca cb ch reg e a b h n k : Int) (w : World) : Calls Try.prog 23 #[.agg (callCs 2 level key ca cb ch reg), .agg (ansCs 0 a b h n k)] w fun r w' =>
    r = .returned (.agg (ansCs 0 a b 0 0 0)) ∧ Below w.heap.size w w' := by
  unfold callCs ansCs
  go_enter Try.func23, Try.ntmps23
  go_wp2
  exact bodyPost_ret (v := .agg (ansCs 0 a b 0 0 0)) (by simp [results, Try.results23, go_sem, ansCs]) rfl ⟨rfl, by repeat (first | with_reducible exact Below.refl _ _ | with_reducible refine Below.drew ?_ | with_reducible refine below_put ?_ (by omega) _ | with_reducible refine Below.alloc ?_ (by simp <;> omega) _)⟩

set_option maxHeartbeats 1000000 in
theorem told_p4 (op level key ca cb ch reg e a b h n k : Int) (w : World) : Calls Try.prog 23 #[.agg (callCs 4 level key ca cb ch reg), .agg (ansCs 0 a b h n k)] w fun r w' =>
    r = .returned (.agg (ansCs 0 a b 0 0 0)) ∧ Below w.heap.size w w' := by
  unfold callCs ansCs
  go_enter Try.func23, Try.ntmps23
  go_wp2
  exact bodyPost_ret (v := .agg (ansCs 0 a b 0 0 0)) (by simp [results, Try.results23, go_sem, ansCs]) rfl ⟨rfl, by repeat (first | with_reducible exact Below.refl _ _ | with_reducible refine Below.drew ?_ | with_reducible refine below_put ?_ (by omega) _ | with_reducible refine Below.alloc ?_ (by simp <;> omega) _)⟩

set_option maxHeartbeats 1000000 in
theorem told_p5 (op level key ca cb ch reg e a b h n k : Int) (w : World) : Calls Try.prog 23 #[.agg (callCs 5 level key ca cb ch reg), .agg (ansCs 0 a b h n k)] w fun r w' =>
    r = .returned (.agg (ansCs 0 a b 0 0 0)) ∧ Below w.heap.size w w' := by
  unfold callCs ansCs
  go_enter Try.func23, Try.ntmps23
  go_wp2
  exact bodyPost_ret (v := .agg (ansCs 0 a b 0 0 0)) (by simp [results, Try.results23, go_sem, ansCs]) rfl ⟨rfl, by repeat (first | with_reducible exact Below.refl _ _ | with_reducible refine Below.drew ?_ | with_reducible refine below_put ?_ (by omega) _ | with_reducible refine Below.alloc ?_ (by simp <;> omega) _)⟩

set_option maxHeartbeats 1000000 in
theorem told_p7 (op level key ca cb ch reg e a b h n k : Int) (w : World) : Calls Try.prog 23 #[.agg (callCs 7 level key ca cb ch reg), .agg (ansCs 0 a b h n k)] w fun r w' =>
    r = .returned (.agg (ansCs 0 a b 0 0 0)) ∧ Below w.heap.size w w' := by
  unfold callCs ansCs
  go_enter Try.func23, Try.ntmps23
  go_wp2
  exact bodyPost_ret (v := .agg (ansCs 0 a b 0 0 0)) (by simp [results, Try.results23, go_sem, ansCs]) rfl ⟨rfl, by repeat (first | with_reducible exact Below.refl _ _ | with_reducible refine Below.drew ?_ | with_reducible refine below_put ?_ (by omega) _ | with_reducible refine Below.alloc ?_ (by simp <;> omega) _)⟩

set_option maxHeartbeats 1000000 in
theorem told_p8 (op level key ca cb ch reg e a b h n k : Int) (w : World) : Calls Try.prog 23 #[.agg (callCs 8 level key ca cb ch reg), .agg (ansCs 0 a b h n k)] w fun r w' =>
    r = .returned (.agg (ansCs 0 a b 0 0 0)) ∧ Below w.heap.size w w' := by
  unfold callCs ansCs
  go_enter Try.func23, Try.ntmps23
  go_wp2
  exact bodyPost_ret (v := .agg (ansCs 0 a b 0 0 0)) (by simp [results, Try.results23, go_sem, ansCs]) rfl ⟨rfl, by repeat (first | with_reducible exact Below.refl _ _ | with_reducible refine Below.drew ?_ | with_reducible refine below_put ?_ (by omega) _ | with_reducible refine Below.alloc ?_ (by simp <;> omega) _)⟩

set_option maxHeartbeats 1000000 in
theorem told_p10 (op level key ca cb ch reg e a b h n k : Int) (w : World) : Calls Try.prog 23 #[.agg (callCs 10 level key ca cb ch reg), .agg (ansCs 0 a b h n k)] w fun r w' =>
    r = .returned (.agg (ansCs 0 a b 0 0 0)) ∧ Below w.heap.size w w' := by
  unfold callCs ansCs
  go_enter Try.func23, Try.ntmps23
  go_wp2
  exact bodyPost_ret (v := .agg (ansCs 0 a b 0 0 0)) (by simp [results, Try.results23, go_sem, ansCs]) rfl ⟨rfl, by repeat (first | with_reducible exact Below.refl _ _ | with_reducible refine Below.drew ?_ | with_reducible refine below_put ?_ (by omega) _ | with_reducible refine Below.alloc ?_ (by simp <;> omega) _)⟩

set_option maxHeartbeats 1000000 in
theorem told_new (op level key ca cb ch reg e a b h n k : Int) (w : World) : Calls Try.prog 23 #[.agg (callCs 9 level key ca cb ch reg), .agg (ansCs 0 a b h n k)] w fun r w' =>
    r = .returned (.agg (ansCs 0 0 0 h 0 0)) ∧ Below w.heap.size w w' := by
  unfold callCs ansCs
  go_enter Try.func23, Try.ntmps23
  go_wp2
  exact bodyPost_ret (v := .agg (ansCs 0 0 0 h 0 0)) (by simp [results, Try.results23, go_sem, ansCs]) rfl ⟨rfl, by repeat (first | with_reducible exact Below.refl _ _ | with_reducible refine Below.drew ?_ | with_reducible refine below_put ?_ (by omega) _ | with_reducible refine Below.alloc ?_ (by simp <;> omega) _)⟩

set_option maxHeartbeats 1000000 in
theorem told_store2 (op level key ca cb ch reg e a b h n k : Int) (w : World) : Calls Try.prog 23 #[.agg (callCs 3 level key ca cb ch reg), .agg (ansCs 0 a b h 2 k)] w fun r w' =>
    r = .returned (.agg (ansCs 0 0 0 0 2 k)) ∧ Below w.heap.size w w' := by
  unfold callCs ansCs
  go_enter Try.func23, Try.ntmps23
  go_wp2
  exact bodyPost_ret (v := .agg (ansCs 0 0 0 0 2 k)) (by simp [results, Try.results23, go_sem, ansCs]) rfl ⟨rfl, by repeat (first | with_reducible exact Below.refl _ _ | with_reducible refine Below.drew ?_ | with_reducible refine below_put ?_ (by omega) _ | with_reducible refine Below.alloc ?_ (by simp <;> omega) _)⟩

set_option maxHeartbeats 1000000 in
theorem told_store (op level key ca cb ch reg e a b h n k : Int)  (hn : n ≠ 2) (w : World) : Calls Try.prog 23 #[.agg (callCs 3 level key ca cb ch reg), .agg (ansCs 0 a b h n k)] w fun r w' =>
    r = .returned (.agg (ansCs 0 0 0 0 n 0)) ∧ Below w.heap.size w w' := by
  have hd : (n == 2) = false := beq_eq_false_iff_ne.2 hn
  clear hn
  unfold callCs ansCs
  go_enter Try.func23, Try.ntmps23
  go_wp2
  exact bodyPost_ret (v := .agg (ansCs 0 0 0 0 n 0)) (by simp [results, Try.results23, go_sem, ansCs]) rfl ⟨rfl, by repeat (first | with_reducible exact Below.refl _ _ | with_reducible refine Below.drew ?_ | with_reducible refine below_put ?_ (by omega) _ | with_reducible refine Below.alloc ?_ (by simp <;> omega) _)⟩

set_option maxHeartbeats 1000000 in
theorem told_tend (op level key ca cb ch reg e a b h n k : Int) (w : World) : Calls Try.prog 23 #[.agg (callCs 12 level key ca cb ch reg), .agg (ansCs 0 a b h n k)] w fun r w' =>
    r = .returned (.agg (ansCs 0 0 0 0 n 0)) ∧ Below w.heap.size w w' := by
  unfold callCs ansCs
  go_enter Try.func23, Try.ntmps23
  go_wp2
  exact bodyPost_ret (v := .agg (ansCs 0 0 0 0 n 0)) (by simp [results, Try.results23, go_sem, ansCs]) rfl ⟨rfl, by repeat (first | with_reducible exact Below.refl _ _ | with_reducible refine Below.drew ?_ | with_reducible refine below_put ?_ (by omega) _ | with_reducible refine Below.alloc ?_ (by simp <;> omega) _)⟩

set_option maxHeartbeats 1000000 in
theorem told_o0 (op level key ca cb ch reg e a b h n k : Int) (w : World) : Calls Try.prog 23 #[.agg (callCs 0 level key ca cb ch reg), .agg (ansCs 0 a b h n k)] w fun r w' =>
    r = .returned (.agg (ansCs 0 0 0 0 0 0)) ∧ Below w.heap.size w w' := by
  unfold callCs ansCs
  go_enter Try.func23, Try.ntmps23
  go_wp2
  exact bodyPost_ret (v := .agg (ansCs 0 0 0 0 0 0)) (by simp [results, Try.results23, go_sem, ansCs]) rfl ⟨rfl, by repeat (first | with_reducible exact Below.refl _ _ | with_reducible refine Below.drew ?_ | with_reducible refine below_put ?_ (by omega) _ | with_reducible refine Below.alloc ?_ (by simp <;> omega) _)⟩

set_option maxHeartbeats 1000000 in
theorem told_o6 (op level key ca cb ch reg e a b h n k : Int) (w : World) : Calls Try.prog 23 #[.agg (callCs 6 level key ca cb ch reg), .agg (ansCs 0 a b h n k)] w fun r w' =>
    r = .returned (.agg (ansCs 0 0 0 0 0 0)) ∧ Below w.heap.size w w' := by
  unfold callCs ansCs
  go_enter Try.func23, Try.ntmps23
  go_wp2
  exact bodyPost_ret (v := .agg (ansCs 0 0 0 0 0 0)) (by simp [results, Try.results23, go_sem, ansCs]) rfl ⟨rfl, by repeat (first | with_reducible exact Below.refl _ _ | with_reducible refine Below.drew ?_ | with_reducible refine below_put ?_ (by omega) _ | with_reducible refine Below.alloc ?_ (by simp <;> omega) _)⟩

set_option maxHeartbeats 1000000 in
theorem told_o11 (op level key ca cb ch reg e a b h n k : Int) (w : World) : Calls Try.prog 23 #[.agg (callCs 11 level key ca cb ch reg), .agg (ansCs 0 a b h n k)] w fun r w' =>
    r = .returned (.agg (ansCs 0 0 0 0 0 0)) ∧ Below w.heap.size w w' := by
  unfold callCs ansCs
  go_enter Try.func23, Try.ntmps23
  go_wp2
  exact bodyPost_ret (v := .agg (ansCs 0 0 0 0 0 0)) (by simp [results, Try.results23, go_sem, ansCs]) rfl ⟨rfl, by repeat (first | with_reducible exact Below.refl _ _ | with_reducible refine Below.drew ?_ | with_reducible refine below_put ?_ (by omega) _ | with_reducible refine Below.alloc ?_ (by simp <;> omega) _)⟩


def refusedB (op e : Int) : Bool :=
  if op = 0 then e == 7 || e == 8 else if op = 6 then e == 8 else if op = 3 then e == 8 || e == 9 else if op = 2 ∨ op = 5 ∨ op = 7 then e == 6 || e == 9
  else if op = 1 ∨ op = 4 ∨ op = 8 then e == 6 || e == 13 else if op = 9 then e == 8 || e == 10 else if op = 10 then e == 11 || e == 13 else if op = 11 then e == 11 || e == 9 else false
set_option maxHeartbeats 4000000 in
theorem refused_any (op e : Int) (h : 0 ≤ op ∧ op ≤ 12) (w : World) : Calls Try.prog 25 #[.int .i64 op, .int .i64 e] w fun r w' => r = .returned (.bool (refusedB op e)) ∧ w = w' := by
  rcases (by omega : op = 0 ∨ op = 1 ∨ op = 2 ∨ op = 3 ∨ op = 4 ∨ op = 5 ∨ op = 6 ∨ op = 7 ∨ op = 8 ∨ op = 9 ∨ op = 10 ∨ op = 11 ∨ op = 12) with rfl | rfl | rfl | rfl | rfl | rfl | rfl | rfl | rfl | rfl | rfl | rfl | rfl
  all_goals
    go_enter Try.func25, Try.ntmps25
    go_wp2
  all_goals
    go_ret
    refine ⟨congrArg (fun b => Ending.returned (Value.bool b)) ?_, rfl⟩
    go_light
    simp_all [refusedB]

def fineB (op h n : Int) : Bool := if op = 3 then decide (0 ≤ n ∧ n ≤ 2) else if op = 9 then h != 0 else decide (0 ≤ n)
set_option maxHeartbeats 4000000 in
theorem fine_any (op level key ca cb ch reg e a b h n k : Int) (w : World) : Calls Try.prog 24 #[.agg (callCs op level key ca cb ch reg), .agg (ansCs e a b h n k)] w fun r w' => r = .returned (.bool (fineB op h n)) ∧ Below w.heap.size w w' := by
  unfold callCs ansCs
  by_cases h3 : op = 3
  · subst h3
    go_enter Try.func24, Try.ntmps24
    go_wp2_with (go_at_call 22; refine (in_any _ _ _ _).mono ?_; rintro r w1 ⟨rfl, rfl⟩)
    go_ret
    exact ⟨congrArg (fun b => Ending.returned (Value.bool b)) (by simp [fineB]), by repeat (first | with_reducible exact Below.refl _ _ | with_reducible refine Below.drew ?_ | with_reducible refine below_put ?_ (by omega) _ | with_reducible refine Below.alloc ?_ (by simp <;> omega) _)⟩
  · by_cases h9 : op = 9
    · subst h9
      go_enter Try.func24, Try.ntmps24
      go_wp2
      go_ret
      exact ⟨rfl, by repeat (first | with_reducible exact Below.refl _ _ | with_reducible refine Below.drew ?_ | with_reducible refine below_put ?_ (by omega) _ | with_reducible refine Below.alloc ?_ (by simp <;> omega) _)⟩
    · have N : Hid (fineB op h n = decide (0 ≤ n)) := by
        show _ = _
        rw [fineB, if_neg h3, if_neg h9]
      have d3 : (op == 3) = false := beq_eq_false_iff_ne.2 h3
      have d9 : (op == 9) = false := beq_eq_false_iff_ne.2 h9
      clear h3 h9
      go_enter Try.func24, Try.ntmps24
      go_wp2
      go_ret
      exact ⟨by rw [N.out]; rfl, by repeat (first | with_reducible exact Below.refl _ _ | with_reducible refine Below.drew ?_ | with_reducible refine below_put ?_ (by omega) _ | with_reducible refine Below.alloc ?_ (by simp <;> omega) _)⟩

end Go.Proofs.Ytefgeeckfofkfaa
