/- Plain law: all words at first, step by step. -/
import Derived.Test.YtlpkimpdeeiaaaaGreatWalk
namespace Go.Proofs.YtlpkimpdeeiaaaaGreat
open Go.RowKit
set_option linter.unusedVariables false
set_option linter.unusedSimpArgs false
set_option linter.unnecessarySimpa false
/-- A level's words while its links are laid, up to s. -/
def w0 (B S s r : Nat) : Int := if r ≤ 1 then 2 else if r ≤ 3 then 1 else if r = 18 + B + S then 1 else if 18 + B + 1 ≤ r ∧ r + 1 < 18 + B + s then (r : Int) - (18 + B) + 2 else 0
def wl (B S l : Nat) (i : Nat) : Int := if i / (18 + B + 6 * S) < l then w0 B S S (i % (18 + B + 6 * S)) else 0
def wls (B S l s : Nat) (i : Nat) : Int := if i / (18 + B + 6 * S) < l then w0 B S S (i % (18 + B + 6 * S)) else if i / (18 + B + 6 * S) = l then w0 B S s (i % (18 + B + 6 * S)) else 0
theorem idx_iff {sz l r i : Nat} (h : r < sz) : i = l * sz + r ↔ i / sz = l ∧ i % sz = r := by
  constructor
  · rintro rfl
    rw [Nat.mul_comm, Nat.mul_add_div (by omega), Nat.div_eq_of_lt h, Nat.mul_add_mod, Nat.mod_eq_of_lt h]
    exact ⟨by omega, rfl⟩
  · rintro ⟨rfl, rfl⟩
    rw [Nat.mul_comm]
    exact (Nat.div_add_mod i sz).symm
theorem wl_zero (B S : Nat) : wl B S 0 = fun _ => 0 := by funext i; unfold wl; rw [if_neg (Nat.not_lt_zero _)]
theorem wls_end (B S l : Nat) : wls B S l S = wl B S (l + 1) := by
  funext i
  unfold wls wl
  by_cases h1 : i / (18 + B + 6 * S) < l
  · rw [if_pos h1, if_pos (by omega)]
  · rw [if_neg h1]
    by_cases h2 : i / (18 + B + 6 * S) = l
    · rw [if_pos h2, if_pos (by omega)]
    · rw [if_neg h2, if_neg (by omega)]
theorem wls_begin (B S l : Nat) (hS : 2 ≤ S) : upd (upd (upd (upd (upd (wl B S l) (l * (18 + B + 6 * S) + 1) 2) (l * (18 + B + 6 * S) + 2) 1) (l * (18 + B + 6 * S) + 3) 1) (l * (18 + B + 6 * S) + 0) 2) (l * (18 + B + 6 * S) + (18 + B + S)) 1 = wls B S l 2 := by
  funext i
  unfold upd
  simp only [show i = l * (18 + B + 6 * S) + (18 + B + S) ↔ i / (18 + B + 6 * S) = l ∧ i % (18 + B + 6 * S) = 18 + B + S from idx_iff (by omega),
    show i = l * (18 + B + 6 * S) + 0 ↔ i / (18 + B + 6 * S) = l ∧ i % (18 + B + 6 * S) = 0 from idx_iff (by omega),
    show i = l * (18 + B + 6 * S) + 1 ↔ i / (18 + B + 6 * S) = l ∧ i % (18 + B + 6 * S) = 1 from idx_iff (by omega),
    show i = l * (18 + B + 6 * S) + 2 ↔ i / (18 + B + 6 * S) = l ∧ i % (18 + B + 6 * S) = 2 from idx_iff (by omega),
    show i = l * (18 + B + 6 * S) + 3 ↔ i / (18 + B + 6 * S) = l ∧ i % (18 + B + 6 * S) = 3 from idx_iff (by omega)]
  unfold wl wls w0
  generalize i / (18 + B + 6 * S) = q
  generalize i % (18 + B + 6 * S) = r
  repeat' split
  all_goals omega
theorem wls_step (B S l s : Nat) (hs : 2 ≤ s) (hsS : s < S) : upd (wls B S l s) (l * (18 + B + 6 * S) + (18 + B + (s - 1))) ((s : Int) + 1) = wls B S l (s + 1) := by
  funext i
  unfold upd
  simp only [show i = l * (18 + B + 6 * S) + (18 + B + (s - 1)) ↔ i / (18 + B + 6 * S) = l ∧ i % (18 + B + 6 * S) = 18 + B + (s - 1) from idx_iff (by omega)]
  unfold wls w0
  generalize i / (18 + B + 6 * S) = q
  generalize i % (18 + B + 6 * S) = r
  repeat' split
  all_goals omega
theorem idx_lt {sz l L r : Nat} (hl : l < L) (hr : r < sz) : l * sz + r < L * sz := by
  have : (l + 1) * sz ≤ L * sz := Nat.mul_le_mul_right _ hl
  rw [Nat.succ_mul] at this
  omega
end Go.Proofs.YtlpkimpdeeiaaaaGreat
