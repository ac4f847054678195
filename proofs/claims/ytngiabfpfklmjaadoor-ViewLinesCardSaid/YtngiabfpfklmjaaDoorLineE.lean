/- Plain law: both lines are the same. -/
import Derived.Test.YtngiabfpfklmjaaDoorLineR
namespace Go.Proofs.YtngiabfpfklmjaaDoor
open Go.RowKit
set_option linter.unusedVariables false
set_option linter.unusedSimpArgs false
set_option linter.unnecessarySimpa false
theorem addW_of {s : ByteArray} (t : ByteArray) (h : 1 ≤ s.size) : addW s t = s ++ ⟨#[32]⟩ ++ t := if_neg (by omega)
theorem preL_pos (x : Sn) : 1 ≤ (preL x).size := by
  unfold preL
  exact Nat.le_trans (Nat.le_trans (Nat.le_trans (addW_pos _ _ (by rw [ByteArray.size_append]; exact Nat.le_add_left 1 _)) (addW_ge _ _)) (addW_ge _ _)) (Nat.le_refl _)
theorem preL_eq (x : Sn) : preL x ++ ⟨#[32]⟩ = preR x := by
  unfold preL preR
  rw [addW_of (s := addW _ _) _ (Nat.le_trans (addW_pos _ _ (by rw [ByteArray.size_append]; exact Nat.le_add_left 1 _)) (addW_ge _ _)),
    addW_of _ (addW_pos _ _ (by rw [ByteArray.size_append]; exact Nat.le_add_left 1 _))]
  have e : addW (⟨#[]⟩ : ByteArray) (decI x.t ++ ⟨#[58]⟩) = ⟨#[]⟩ ++ (decI x.t ++ ⟨#[58]⟩) := if_pos rfl
  rw [e]
  apply ByteArray.ext
  simp only [ByteArray.data_append]
  apply Array.toList_inj.1
  simp
theorem pos_W {s : ByteArray} (t : ByteArray) (h : 1 ≤ s.size) : 1 ≤ (s ++ ⟨#[32]⟩ ++ t).size := by rw [← addW_of t h]; exact Nat.le_trans h (addW_ge _ _)
theorem ap (a b c : ByteArray) : a ++ b ++ c = a ++ (b ++ c) := by
  apply ByteArray.ext
  simp only [ByteArray.data_append, Array.append_assoc]
theorem addWs1 (s : ByteArray) (a : Nat) : addWs s [a] = addW s (decU a) := rfl
theorem addWs2 (s : ByteArray) (a b : Nat) : addWs s [a, b] = addW (addW s (decU a)) (decU b) := rfl
theorem addWs3 (s : ByteArray) (a b c : Nat) : addWs s [a, b, c] = addW (addW (addW s (decU a)) (decU b)) (decU c) := rfl
theorem line0 (x : Sn) (h : x.wh = 0) : refLine0 x = implLine x := by
  unfold implLine refLine0
  rw [if_pos h]
  have p0 := preL_pos x
  rw [addW_of _ p0]
  have p1 := pos_W (wordOf x.op) p0
  rw [addW_of _ p1]
  have p2 := pos_W (decI x.cl) p1
  rw [addW_of _ p2]
  have p3 := pos_W (decI x.key) p2
  rw [addWs3, addW_of _ p3]
  have p4 := pos_W (decU x.pa) p3
  rw [addW_of _ p4]
  have p5 := pos_W (decU x.pb) p4
  rw [addW_of _ p5, preL_eq]
theorem line1 (x : Sn) (h : x.wh = 1) : refLine1 x = implLine x := by
  unfold implLine refLine1
  rw [if_neg (by omega), if_pos h]
  have p0 := preL_pos x
  rw [addW_of _ p0]
  have p1 := pos_W ⟨#[98, 97, 99, 107]⟩ p0
  rw [addW_of _ p1]
  have p2 := pos_W (codeName x.err) p1
  rw [addWs1, addWs2, addW_of _ p2]
  have p3 := pos_W (decU x.qa) p2
  rw [addW_of _ p3]
  have p4 := pos_W (decU x.qb) p3
  rw [addW_of _ p4]
  have p5 := pos_W (decI x.n) p4
  rw [addW_of _ p5]
  have p6 := pos_W (decI x.ak) p5
  rw [addW_of _ p6, preL_eq]
  have e : preR x ++ ⟨#[98, 97, 99, 107, 32]⟩ = preR x ++ ⟨#[98, 97, 99, 107]⟩ ++ ⟨#[32]⟩ := by rw [ap]; rfl
  rw [e]
theorem line2 (x : Sn) (h : ¬ x.wh = 0) (h1 : ¬ x.wh = 1) : refLine2 x = implLine x := by
  unfold implLine refLine2
  rw [if_neg h, if_neg h1]
  have p0 := preL_pos x
  rw [addW_of _ p0]
  have p1 := pos_W ⟨#[103, 97, 118, 101]⟩ p0
  rw [addWs1, addW_of _ p1, preL_eq]
  have e : preR x ++ ⟨#[103, 97, 118, 101, 32]⟩ = preR x ++ ⟨#[103, 97, 118, 101]⟩ ++ ⟨#[32]⟩ := by rw [ap]; rfl
  rw [e]
theorem refLine_eq {σ w : World} {M : Mm} (h : Has σ M w) (x : Sn) (hx : x.Ok) :
    Calls Tryd.prog 7 #[.agg x.cells] w fun r w' => r = .returned (.string (implLine x)) ∧ Has σ M w' := by
  by_cases h0 : x.wh = 0
  · rw [← line0 x h0]; exact refLine_0 h x hx h0
  · by_cases h1 : x.wh = 1
    · rw [← line1 x h1]; exact refLine_1 h x hx h1
    · rw [← line2 x h0 h1]; exact refLine_2 h x hx h0 h1
end Go.Proofs.YtngiabfpfklmjaaDoor
