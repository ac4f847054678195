/- Walks of layer 16: May. -/
import Derived.Test.YtjnhklhgcbknkaaGreatDoorPfD
namespace Go.Proofs.YtjnhklhgcbknkaaGreatDoor
open Go.RowKit
set_option linter.unusedVariables false
set_option linter.unusedSimpArgs false
set_option linter.unnecessarySimpa false
/-- What May tells. -/
def MayPost (σ : World) (M : Mm) (l : List OpS) (order : List Int) (r : Ending) (w' : World) : Prop := ∃ b : Bool, r = .returned (.bool b) ∧ (b = true ↔ MayO l order) ∧ Has σ M w'
/-- What holds at each round of the range. -/
def InRel (σ : World) (M2 : Mm) (it pm : Nat) (es : List EntI) (l : List OpS) (pk : Nat) (o : OpS) (wr : World) : Prop := ∃ (M' : Mm) (seen : Array Nat), Has σ M' wr ∧ M2.le M' ∧ M' it = some (.mapIter (some pm) es.length seen es.length) ∧ ∀ x ∈ es, seen.contains x.born = true → FineE l pk o x
theorem same_born {n : Nat} {order : List Int} {i : Nat} {es : List EntI} (h : PlI n order i es) {x y : EntI} (hx : x ∈ es) (hy : y ∈ es) (e : x.born = y.born) : x = y := by
  have hn := h.nodup
  clear h
  induction es with
  | nil => cases hx
  | cons z r ih =>
    have hn' : z.born ∉ r.map (·.born) ∧ (r.map (·.born)).Nodup := List.nodup_cons.1 hn
    rcases List.mem_cons.1 hx with hx1 | hx1
    · rcases List.mem_cons.1 hy with hy1 | hy1
      · rw [hx1, hy1]
      · exact absurd (List.mem_map.2 ⟨y, hy1, by rw [← e, hx1]⟩) hn'.1
    · rcases List.mem_cons.1 hy with hy1 | hy1
      · exact absurd (List.mem_map.2 ⟨x, hx1, by rw [e, hy1]⟩) hn'.1
      · exact ih hx1 hy1 hn'.2
end Go.Proofs.YtjnhklhgcbknkaaGreatDoor
