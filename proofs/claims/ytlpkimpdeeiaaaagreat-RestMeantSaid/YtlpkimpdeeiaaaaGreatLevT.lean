/- Threads' levels, as numbers. -/
import Derived.Test.YtlpkimpdeeiaaaaGreatConfLevel
import Derived.Test.YtlpkimpdeeiaaaaGreatWords
namespace Go.Proofs.YtlpkimpdeeiaaaaGreat
open Go.RowKit
set_option linter.unusedVariables false
def levT (c : Nat → Int) (t : Nat) : Nat := (levelOf c t).toNat
theorem levT_of {c : Nat → Int} {L B S T : Nat} (hc : ConfMay c) (hn : Nums c L B S) (hT : c 1 = (T : Nat)) {t : Nat} (ht : t < T) : levelOf c (t : Nat) = (levT c t : Nat) ∧ levT c t < L := by
  obtain ⟨_, ⟨a3, a4⟩, _, a5, _⟩ := id hc
  have h8 := a5 t (by omega)
  have hl : levelOf c (t : Nat) = c (2 + t) := by
    unfold levelOf
    rw [if_pos ⟨decide_eq_true hc, by omega, by omega⟩, Int.toNat_natCast]
  have hlev := hn.lev
  unfold levT
  rw [hl]
  omega
theorem levT_out {c : Nat → Int} {T : Nat} (hT : c 1 = (T : Nat)) {t : Int} (ht : ¬ (0 ≤ t ∧ t < T)) : levelOf c t = -1 := by
  unfold levelOf
  exact if_neg fun g => ht ⟨g.2.1, by have := g.2.2; omega⟩
theorem lev_cell {c : Nat → Int} {L B S T : Nat} (hc : ConfMay c) (hn : Nums c L B S) (hT : c 1 = (T : Nat)) {y : Nat} (hy : y < T) : c (2 + y) = (levT c y : Nat) := by
  rw [← (levT_of hc hn hT hy).1]
  unfold levelOf
  rw [if_pos ⟨decide_eq_true hc, by omega, by omega⟩, Int.toNat_natCast]
end Go.Proofs.YtlpkimpdeeiaaaaGreat
