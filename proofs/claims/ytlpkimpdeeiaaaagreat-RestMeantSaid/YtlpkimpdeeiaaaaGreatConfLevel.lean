/- Walks of layer 4 (conf): a thread's level, and who may read and write where. -/
import Derived.Test.YtlpkimpdeeiaaaaGreatConfMay
namespace Go.Proofs.YtlpkimpdeeiaaaaGreat
open Go.RowKit

theorem confMay_of {c : Nat → Int} (h : confMayB c = true) : ConfMay c := of_decide_eq_true h
/-- A thread's level; -1: there is no such thread. -/
def levelOf (c : Nat → Int) (t : Int) : Int := if confMayB c = true ∧ 0 ≤ t ∧ t ≤ c 1 - 1 then c (2 + t.toNat) else -1
def readsB (c : Nat → Int) (t l : Int) : Bool := decide (0 ≤ l ∧ l ≤ levelOf c t)
def writesB (c : Nat → Int) (t l : Int) : Bool := readsB c t l && (l == c (2 + t.toNat))
theorem levelOf_may {c : Nat → Int} {t : Int} (h : 0 ≤ levelOf c t) : ConfMay c ∧ 0 ≤ t ∧ t ≤ c 1 - 1 := by
  unfold levelOf at h
  split at h
  · rename_i h1; exact ⟨confMay_of h1.1, h1.2⟩
  · omega

section
variable {c : Nat → Int} {w w1 : World}
theorem c_confMay (h : Inv14 c w w1) : Calls Tryz.prog 38 #[.agg (ints .i64 14 c)] w1 fun e w' => e = .returned (.bool (confMayB c)) ∧ Inv14 c w w' :=
  (confMay_any c w1).mono fun _ _ ⟨h1, h2⟩ => ⟨h1, h.on h2⟩
end

section
variable {c : Nat → Int} {w w1 : World}
end


end Go.Proofs.YtlpkimpdeeiaaaaGreat
