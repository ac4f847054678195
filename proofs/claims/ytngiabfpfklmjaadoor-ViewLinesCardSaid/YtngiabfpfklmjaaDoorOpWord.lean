/- What ops are called: the program's answer, and the document's. (Lines of XCallA, XCallB.) -/
import Derived.Test.YtngiabfpfklmjaaDoorQuiet
namespace Go.Proofs.YtngiabfpfklmjaaDoor
open Go.RowKit
/-- What ops are called. -/
def wordList : List ByteArray := [⟨#[112, 117, 116]⟩, ⟨#[103, 101, 116]⟩, ⟨#[100, 101, 108]⟩, ⟨#[115, 116, 111, 114, 101]⟩, ⟨#[102, 101, 116, 99, 104]⟩, ⟨#[100, 114, 111, 112]⟩, ⟨#[112, 117, 115, 104]⟩, ⟨#[112, 111, 112]⟩, ⟨#[112, 101, 101, 107]⟩, ⟨#[110, 101, 119]⟩, ⟨#[114, 101, 97, 100]⟩, ⟨#[102, 114, 101, 101]⟩, ⟨#[116, 101, 110, 100]⟩]
def wordAt (k : Nat) : ByteArray := wordList.getD k ⟨#[]⟩
def wordCells : Array Value := (wordList.map Value.string).toArray
theorem wordCells_get {k : Nat} (h : k < 13) : wordCells[k]? = some (.string (wordAt k)) := by
  rcases (by omega : k = 0 ∨ k = 1 ∨ k = 2 ∨ k = 3 ∨ k = 4 ∨ k = 5 ∨ k = 6 ∨ k = 7 ∨ k = 8 ∨ k = 9 ∨ k = 10 ∨ k = 11 ∨ k = 12) with rfl | rfl | rfl | rfl | rfl | rfl | rfl | rfl | rfl | rfl | rfl | rfl | rfl <;> rfl
def wordOf (op : Int) : ByteArray := if 0 ≤ op ∧ op ≤ 12 then wordAt op.toNat else ⟨#[]⟩

set_option maxHeartbeats 400000 in
theorem in_any (n lo hi : Int) (w : World) : Calls Tryd.prog 26 #[.int .i64 n, .int .i64 lo, .int .i64 hi] w fun e w' => e = .returned (.bool (decide (lo ≤ n ∧ n ≤ hi))) ∧ w = w' := by
  by_cases h1 : lo ≤ n
  · by_cases h2 : n ≤ hi
    · go_enter Tryd.func26, Tryd.ntmps26
      go_wp2
      go_ret
      exact ⟨by rw [decide_eq_true (⟨h1, h2⟩ : lo ≤ n ∧ n ≤ hi)]; rfl, rfl⟩
    · have hd : decide (n ≤ hi) = false := decide_eq_false h2
      have hs : Hid (decide (lo ≤ n ∧ n ≤ hi) = false) := decide_eq_false (fun h => h2 h.2)
      clear h2
      go_enter Tryd.func26, Tryd.ntmps26
      go_wp2
      go_ret
      exact ⟨by rw [hs.out]; rfl, rfl⟩
  · have hd : decide (lo ≤ n) = false := decide_eq_false h1
    have hs : Hid (decide (lo ≤ n ∧ n ≤ hi) = false) := decide_eq_false (fun h => h1 h.1)
    clear h1
    go_enter Tryd.func26, Tryd.ntmps26
    go_wp2
    go_ret
    exact ⟨by rw [hs.out]; rfl, rfl⟩

set_option maxHeartbeats 4000000 in
theorem refWord_any (op : Int) (w : World) : Calls Tryd.prog 18 #[.int .i64 op] w fun e w' => e = .returned (.string (wordOf op)) ∧ Below w.heap.size w w' := by
  unfold wordOf
  by_cases h0 : op < 0
  · rw [if_neg (by omega)]
    go_enter Tryd.func18, Tryd.ntmps18
    go_wp2
    go_ret
    exact ⟨rfl, (Below.refl _ _).alloc (Nat.le_refl _) _⟩
  · by_cases h1 : 13 ≤ op
    · rw [if_neg (by omega)]
      go_enter Tryd.func18, Tryd.ntmps18
      go_wp2
      go_ret
      exact ⟨rfl, (Below.refl _ _).alloc (Nat.le_refl _) _⟩
    · rw [if_pos (by omega)]
      rcases (by omega : op = 0 ∨ op = 1 ∨ op = 2 ∨ op = 3 ∨ op = 4 ∨ op = 5 ∨ op = 6 ∨ op = 7 ∨ op = 8 ∨ op = 9 ∨ op = 10 ∨ op = 11 ∨ op = 12) with rfl | rfl | rfl | rfl | rfl | rfl | rfl | rfl | rfl | rfl | rfl | rfl | rfl
      all_goals
        go_enter Tryd.func18, Tryd.ntmps18
        go_wp2
        go_ret
        exact ⟨rfl, (Below.refl _ _).alloc (Nat.le_refl _) _⟩

set_option maxHeartbeats 400000 in
theorem words_any (w : World) : Calls Tryd.prog 27 #[] w fun e w' => e = .returned (.agg wordCells) ∧ Below w.heap.size w w' := by
  go_enter Tryd.func27, Tryd.ntmps27
  go_wp2
  exact bodyPost_ret (v := .agg wordCells) (by simp [results, Tryd.results27, go_sem]; rfl) rfl ⟨rfl, by repeat (first | with_reducible exact Below.refl _ _ | with_reducible refine Below.drew ?_ | with_reducible refine below_put ?_ (Nat.le_refl _) _ | with_reducible refine Below.alloc ?_ (by simp) _)⟩

set_option maxHeartbeats 400000 in
theorem callWord_any (op : Int) (w : World) : Calls Tryd.prog 13 #[.int .i64 op] w fun e w' => e = .returned (.string (wordOf op)) ∧ Below w.heap.size w w' := by
  by_cases h : 0 ≤ op ∧ op ≤ 12
  · have hs : Hid (wordOf op = wordAt op.toNat) := if_pos h
    have hd : Hid (decide (0 ≤ op ∧ op ≤ 12) = true) := decide_eq_true h
    obtain ⟨h1, h2⟩ := h
    have hix := fun w : World => run_index_one (P := Tryd.prog) w Tryd.underlying60 Tryd.underlying9 rfl (by kernel_rfl) wordCells .i64 op h1 (by omega) (wordCells_get (k := op.toNat) (by omega))
    go_enter Tryd.func13, Tryd.ntmps13
    go_wp2_with (first
      | (go_at_call 26; refine (in_any _ _ _ _).mono ?_; rintro e w' ⟨rfl, rfl⟩; rw [hd.out])
      | (go_at_call 27; refine (words_any _).mono ?_; rintro e w' ⟨rfl, hb⟩))
    go_ret
    exact ⟨by rw [hs.out]; rfl, hb⟩
  · have hs : Hid (wordOf op = ⟨#[]⟩) := if_neg h
    have hd : Hid (decide (0 ≤ op ∧ op ≤ 12) = false) := decide_eq_false h
    clear h
    go_enter Tryd.func13, Tryd.ntmps13
    go_wp2_with (first
      | (go_at_call 26; refine (in_any _ _ _ _).mono ?_; rintro e w' ⟨rfl, rfl⟩; rw [hd.out]))
    go_ret
    exact ⟨by rw [hs.out]; rfl, Below.refl _ _⟩

theorem wordOf_size (op : Int) : (wordOf op).size ≤ 5 := by
  unfold wordOf
  split
  · rename_i h
    generalize hk : op.toNat = k
    rcases (by omega : k = 0 ∨ k = 1 ∨ k = 2 ∨ k = 3 ∨ k = 4 ∨ k = 5 ∨ k = 6 ∨ k = 7 ∨ k = 8 ∨ k = 9 ∨ k = 10 ∨ k = 11 ∨ k = 12) with rfl | rfl | rfl | rfl | rfl | rfl | rfl | rfl | rfl | rfl | rfl | rfl | rfl <;> decide +kernel
  · decide +kernel
end Go.Proofs.YtngiabfpfklmjaaDoor
