/- Walks of layer 5 (plan): a word's place. -/
import Derived.Test.YtlpkimpdeeiaaaaGreatPlanB
namespace Go.Proofs.YtlpkimpdeeiaaaaGreat
open Go.RowKit
set_option linter.unusedVariables false
set_option linter.unusedSimpArgs false
set_option linter.unnecessarySimpa false

def plI (c : Nat → Int) (k : Nat) (r : Int) : Int := if k = 9 then (r - firsts c 9) / 5 + 1 else if k = 8 then r - firsts c 8 + 1 else r - firsts c k
def plJ (c : Nat → Int) (k : Nat) (r : Int) : Int := if k = 9 then (r - firsts c 9) % 5 else 0
theorem firsts_bd {c : Nat → Int} (hc : ConfMay c) (k : Nat) : 0 ≤ firsts c k ∧ firsts c k ≤ 418 := by
  obtain ⟨_, _, _, _, ⟨h2, h3⟩, ⟨h4, h5⟩, _⟩ := hc
  unfold firsts
  repeat' split
  all_goals omega
theorem firsts_ten {c : Nat → Int} (hc : ConfMay c) : 31 ≤ firsts c 10 := by
  obtain ⟨_, _, _, _, ⟨h2, h3⟩, ⟨h4, h5⟩, _⟩ := hc
  unfold firsts
  simp
  omega

end Go.Proofs.YtlpkimpdeeiaaaaGreat
