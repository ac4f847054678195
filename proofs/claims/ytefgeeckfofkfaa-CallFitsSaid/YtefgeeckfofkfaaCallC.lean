/- Walks of layer 9 (call), on: which op a word is. -/
import Derived.Test.YtefgeeckfofkfaaCallB
namespace Go.Proofs.Ytefgeeckfofkfaa
open Go.RowKit

theorem bytes_beq {a b : ByteArray} : (a == b) = true ↔ a = b := by
  rw [beq_toListBytes]
  exact ⟨fun h => bytes_ext (eq_of_beq h), fun h => by rw [h]; exact beq_self_eq_true _⟩
theorem wordAt_inj : ∀ i, i < 13 → ∀ j, j < 13 → wordAt i = wordAt j → i = j := by decide +kernel
theorem find_none (word : ByteArray) (k : Nat) (h : ∀ j, j < k → (wordAt j == word) = false) : find word k = (0, false) := by
  induction k with
  | zero => rfl
  | succ k ih => rw [find_succ, h k (by omega), if_neg (by simp), ih (fun j hj => h j (by omega))]
theorem find_some (word : ByteArray) (j : Nat) (hj : (wordAt j == word) = true) (k : Nat) (h : j < k) (hk : k ≤ 13) : find word k = (j, true) := by
  induction k with
  | zero => omega
  | succ k ih =>
    rw [find_succ]
    split
    · rename_i e
      have := wordAt_inj k (by omega) j (by omega) ((bytes_beq.1 e).trans (bytes_beq.1 hj).symm)
      rw [this]
    · rename_i e
      have : k ≠ j := fun h => e (by rw [h]; exact hj)
      exact ih (by omega) (by omega)

set_option maxHeartbeats 1000000 in
theorem op_any (word : ByteArray) (w : World) : Calls Try.prog 7 #[.string word] w fun e w' => e = .returned (.tuple #[.int .i64 (find word 13).1, .bool (find word 13).2]) ∧ Below w.heap.size w w' := by
  go_enter Try.func7, Try.ntmps7
  go_wp2_with (go_at_call 21; refine (words_any _).mono ?_; rintro e w1 ⟨rfl, hb⟩)
  go_loop [4, 5, 7] (fun _ _ i => ∃ k : Nat, k ≤ 13 ∧ i = .int .i64 k ∧ ∀ j, j < k → (wordAt j == word) = false) (fun _ _ i => 13 - (intOf i).toNat)
  case atStart => exact ⟨0, by omega, rfl, by omega⟩
  case round =>
    obtain ⟨k, hk, rfl, hn⟩ := hrel
    have Hn := Lib.hid hn
    clear hn
    by_cases hlt : k < 13
    · have hix := fun w : World => run_index_one (P := Try.prog) w Try.underlying50 Try.underlying9 rfl (by kernel_rfl) wordCells .i64 k (by omega) (by omega) (wordCells_get (k := (k : Int).toNat) (by omega))
      rw [Int.toNat_natCast] at hix
      cases he : (wordAt k == word) with
      | true =>
        have hf : Hid (find word 13 = (k, true)) := find_some word k he 13 hlt (by omega)
        have he2 : ((wordAt k).toList == word.toList) = true := by rw [← beq_toListBytes]; exact he
        go_wp2
        go_ret2
        exact ⟨by rw [hf.out]; rfl, hb⟩
      | false =>
        have he2 : ((wordAt k).toList == word.toList) = false := by rw [← beq_toListBytes]; exact he
        have Hs : Hid (∀ j, j < k + 1 → (wordAt j == word) = false) := fun j hj => by
          rcases Nat.lt_succ_iff_lt_or_eq.1 hj with h | rfl
          · exact Hn.out j h
          · exact he
        go_wp2
        go_round
        case rel => exact ⟨k + 1, by omega, by go_num, Hs.out⟩
        case measure => simp [intOf]; omega
    · obtain rfl : k = 13 := by omega
      have hf : Hid (find word 13 = (0, false)) := find_none word 13 Hn.out
      go_wp2
      go_ret2
      exact ⟨by rw [hf.out]; rfl, hb⟩

end Go.Proofs.Ytefgeeckfofkfaa
