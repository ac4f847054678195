/- Walks of layer 9 (call), on: what an op is called, which op a word is, which look, and parts. -/
import Derived.Test.YtefgeeckfofkfaaCallA
namespace Go.Proofs.Ytefgeeckfofkfaa
open Go.RowKit

set_option maxHeartbeats 400000 in
theorem words_any (w : World) : Calls Try.prog 21 #[] w fun e w' => e = .returned (.agg wordCells) ∧ Below w.heap.size w w' := by
  go_enter Try.func21, Try.ntmps21
  go_wp2
  exact bodyPost_ret (v := .agg wordCells) (by simp [results, Try.results21, go_sem]; rfl) rfl ⟨rfl, by repeat (first | with_reducible exact Below.refl _ _ | with_reducible refine Below.drew ?_ | with_reducible refine below_put ?_ (Nat.le_refl _) _ | with_reducible refine Below.alloc ?_ (by simp) _)⟩

set_option maxHeartbeats 400000 in
theorem word_any (op : Int) (w : World) : Calls Try.prog 10 #[.int .i64 op] w fun e w' => e = .returned (.string (wordOf op)) ∧ Below w.heap.size w w' := by
  by_cases h : 0 ≤ op ∧ op ≤ 12
  · have hs : Hid (wordOf op = wordAt op.toNat) := if_pos h
    have hd : Hid (decide (0 ≤ op ∧ op ≤ 12) = true) := decide_eq_true h
    obtain ⟨h1, h2⟩ := h
    have hix := fun w : World => run_index_one (P := Try.prog) w Try.underlying50 Try.underlying9 rfl (by kernel_rfl) wordCells .i64 op h1 (by omega) (wordCells_get (k := op.toNat) (by omega))
    go_enter Try.func10, Try.ntmps10
    go_wp2_with (first
      | (go_at_call 22; refine (in_any _ _ _ _).mono ?_; rintro e w' ⟨rfl, rfl⟩; rw [hd.out])
      | (go_at_call 21; refine (words_any _).mono ?_; rintro e w' ⟨rfl, hb⟩))
    go_ret
    exact ⟨by rw [hs.out]; rfl, hb⟩
  · have hs : Hid (wordOf op = ⟨#[]⟩) := if_neg h
    have hd : Hid (decide (0 ≤ op ∧ op ≤ 12) = false) := decide_eq_false h
    clear h
    go_enter Try.func10, Try.ntmps10
    go_wp2_with (first
      | (go_at_call 22; refine (in_any _ _ _ _).mono ?_; rintro e w' ⟨rfl, rfl⟩; rw [hd.out]))
    go_ret
    exact ⟨by rw [hs.out]; rfl, Below.refl _ _⟩

def looksB (op : Int) : Bool := op == 1 || (op == 4 || (op == 8 || op == 10))
set_option maxHeartbeats 400000 in
theorem looks_any (op : Int) (w : World) : Calls Try.prog 11 #[.int .i64 op] w fun e w' => e = .returned (.bool (looksB op)) ∧ w = w' := by
  go_enter Try.func11, Try.ntmps11
  go_wp2
  all_goals
    go_ret
    refine ⟨congrArg (fun b => Ending.returned (Value.bool b)) ?_, rfl⟩
    unfold looksB
    rw [Bool.eq_iff_iff]
    simp [*]
set_option maxHeartbeats 400000 in
theorem refLooks_any (op : Int) (w : World) : Calls Try.prog 12 #[.int .i64 op] w fun e w' => e = .returned (.bool (looksB op)) ∧ w = w' := by
  go_enter Try.func12, Try.ntmps12
  go_wp2
  all_goals
    go_ret
    refine ⟨congrArg (fun b => Ending.returned (Value.bool b)) ?_, rfl⟩
    unfold looksB
    rw [Bool.eq_iff_iff]
    simp [*]

def partOf (op : Int) : Int := if op < 0 ∨ 11 < op then -1 else op / 3
set_option maxHeartbeats 1000000 in
theorem part_any (op : Int) (w : World) : Calls Try.prog 13 #[.int .i64 op] w fun e w' => e = .returned (.int .i64 (partOf op)) ∧ w = w' := by
  by_cases h : op < 0 ∨ 11 < op
  · have hs : Hid (partOf op = -1) := if_pos h
    have n0 : (op == 0) = false := by rw [beq_eq_false_iff_ne]; omega
    have n1 : (op == 1) = false := by rw [beq_eq_false_iff_ne]; omega
    have n2 : (op == 2) = false := by rw [beq_eq_false_iff_ne]; omega
    have n3 : (op == 3) = false := by rw [beq_eq_false_iff_ne]; omega
    have n4 : (op == 4) = false := by rw [beq_eq_false_iff_ne]; omega
    have n5 : (op == 5) = false := by rw [beq_eq_false_iff_ne]; omega
    have n6 : (op == 6) = false := by rw [beq_eq_false_iff_ne]; omega
    have n7 : (op == 7) = false := by rw [beq_eq_false_iff_ne]; omega
    have n8 : (op == 8) = false := by rw [beq_eq_false_iff_ne]; omega
    have n9 : (op == 9) = false := by rw [beq_eq_false_iff_ne]; omega
    have n10 : (op == 10) = false := by rw [beq_eq_false_iff_ne]; omega
    have n11 : (op == 11) = false := by rw [beq_eq_false_iff_ne]; omega
    clear h
    go_enter Try.func13, Try.ntmps13
    go_wp2
    go_ret
    exact ⟨by rw [hs.out]; rfl, rfl⟩
  · rcases (by omega : op = 0 ∨ op = 1 ∨ op = 2 ∨ op = 3 ∨ op = 4 ∨ op = 5 ∨ op = 6 ∨ op = 7 ∨ op = 8 ∨ op = 9 ∨ op = 10 ∨ op = 11) with rfl | rfl | rfl | rfl | rfl | rfl | rfl | rfl | rfl | rfl | rfl | rfl
    all_goals
      go_enter Try.func13, Try.ntmps13
      go_wp2
      go_ret
      exact ⟨rfl, rfl⟩
set_option maxHeartbeats 1000000 in
theorem refPart_any (op : Int) (w : World) : Calls Try.prog 14 #[.int .i64 op] w fun e w' => e = .returned (.int .i64 (partOf op)) ∧ w = w' := by
  by_cases h : op < 0 ∨ 11 < op
  · have hs : Hid (partOf op = -1) := if_pos h
    rcases h with h | h
    all_goals
      go_enter Try.func14, Try.ntmps14
      go_wp2
      go_ret
      exact ⟨by rw [hs.out]; rfl, rfl⟩
  · have hs : Hid (partOf op = op / 3) := if_neg h
    have h1 : 0 ≤ op := by omega
    have h2 : op ≤ 11 := by omega
    clear h
    go_enter Try.func14, Try.ntmps14
    go_wp2
    go_ret
    exact ⟨by rw [hs.out]; rfl, rfl⟩

/-- Which of the first k ops has a word: the last one that has. -/
def find (word : ByteArray) : Nat → Nat × Bool
  | 0 => (0, false)
  | k + 1 => if (wordAt k == word) = true then (k, true) else find word k
theorem find_succ (word : ByteArray) (k : Nat) : find word (k + 1) = if (wordAt k == word) = true then (k, true) else find word k := rfl

end Go.Proofs.Ytefgeeckfofkfaa
