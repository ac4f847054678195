/- The document's 'make': what is known while entries are gone through. -/
import Derived.Test.YtlgnknaffnnkkaaWevO
namespace Go.Proofs.Ytlgnknaffnnkkaa
open Go.RowKit
set_option linter.unusedVariables false
set_option linter.unusedSimpArgs false
set_option linter.unnecessarySimpa false
section
variable {σ w : World} {M M' N : Mm} {b : Nat} {o X X' : Obj} {e : TypeId} {sz n : Nat} {v vh vl v' : Value} {xs : List Value} {a hi lo : List PEnt} {x : PEnt}
theorem Own.unbox (h : Own (N.upd b o) M e sz v n xs) : Own N (M.drop b) e sz v n xs := by
  obtain ⟨hl, h | ⟨g, cap, cur, hv, hg, hh, r⟩⟩ := h
  · exact ⟨hl, .inl h⟩
  · have hne : g ≠ b := fun e => by subst e; rw [Mm.upd_same] at hg; cases hg
    exact ⟨hl, .inr ⟨g, cap, cur, hv, by rw [Mm.upd_ne hne] at hg; exact hg, Mm.drop_of hh hne, r⟩⟩
theorem Mm.upd_comm {b c : Nat} {o o' : Obj} (hne : b ≠ c) : (M.upd b o).upd c o' = (M.upd c o').upd b o := by
  funext d
  unfold Mm.upd
  by_cases h1 : d = c
  · subst h1; rw [if_pos rfl, if_neg (Ne.symm hne), if_pos rfl]
  · by_cases h2 : d = b
    · subst h2; rw [if_neg h1, if_pos rfl, if_pos rfl]
    · rw [if_neg h1, if_neg h2, if_neg h2, if_neg h1]
/-- Three rows of the call's own, and one block beside all. -/
def MakeInv (σ : World) (N : Mm) (w : World) (b : Nat) (X : Obj) (v vh vl : Value) (a hi lo : List PEnt) : Prop :=
  ∃ M', Has σ (M'.upd b X) w ∧ M' b = none ∧ N.le M' ∧ Own N M' 43 2 v a.length (a.flatMap encE) ∧ Own N M' 43 2 vh hi.length (hi.flatMap encE) ∧ Own N M' 43 2 vl lo.length (lo.flatMap encE) ∧ Apart v vh ∧ Apart v vl ∧ Apart vh vl
theorem Mm.le_box (hN : N.le M) : (N.upd b X).le (M.upd b X) := fun c x hc => by
  by_cases e : c = b
  · subst e; rw [Mm.upd_same] at hc ⊢; exact hc
  · rw [Mm.upd_ne e] at hc ⊢; exact hN _ _ hc
theorem Has.redrop (h : Has σ M w) (hb : M b = some X) : Has σ ((M.drop b).upd b X) w := by
  rw [Mm.drop_self hb]
  exact h
theorem snocE (a : List PEnt) (x : PEnt) : (a ++ [x]).flatMap encE = a.flatMap encE ++ encE x := by simp
theorem MakeInv.high (h7 : M' b = none) (hle : N.le M') (o1 : Own N M' 43 2 v a.length (a.flatMap encE)) (o2 : Own N M' 43 2 vh hi.length (hi.flatMap encE)) (o3 : Own N M' 43 2 vl lo.length (lo.flatMap encE)) (a1 : Apart v vh) (a2 : Apart v vl) (a3 : Apart vh vl)
    (hacc : Acc σ ((M'.upd b X).less vh) w 43 2 v' (hi.length + 1) (hi.flatMap encE ++ encE x)) : MakeInv σ N w b X v v' vl a (hi ++ [x]) lo := by
  obtain ⟨M5, h, hle5, own5, keep⟩ := Acc.split (o2.box h7) (Mm.le_box hle) hacc
  obtain ⟨k1, p1⟩ := keep _ _ _ _ _ (o1.box h7) a1.symm
  obtain ⟨k3, p3⟩ := keep _ _ _ _ _ (o3.box h7) a3
  exact ⟨M5.drop b, h.redrop (hle5 _ _ (Mm.upd_same _ _ _)), Mm.drop_none _ _, Mm.le_drop (Mm.none_of hle h7) (Mm.le_trans (Mm.le_upd' (Mm.none_of hle h7) _) hle5), k1.unbox, by rw [snocE, List.length_append]; exact own5.unbox, k3.unbox, p1.symm, a2, p3⟩
theorem MakeInv.low (h7 : M' b = none) (hle : N.le M') (o1 : Own N M' 43 2 v a.length (a.flatMap encE)) (o2 : Own N M' 43 2 vh hi.length (hi.flatMap encE)) (o3 : Own N M' 43 2 vl lo.length (lo.flatMap encE)) (a1 : Apart v vh) (a2 : Apart v vl) (a3 : Apart vh vl)
    (hacc : Acc σ ((M'.upd b X).less vl) w 43 2 v' (lo.length + 1) (lo.flatMap encE ++ encE x)) : MakeInv σ N w b X v vh v' a hi (lo ++ [x]) := by
  obtain ⟨M5, h, hle5, own5, keep⟩ := Acc.split (o3.box h7) (Mm.le_box hle) hacc
  obtain ⟨k1, p1⟩ := keep _ _ _ _ _ (o1.box h7) a2.symm
  obtain ⟨k2, p2⟩ := keep _ _ _ _ _ (o2.box h7) a3.symm
  exact ⟨M5.drop b, h.redrop (hle5 _ _ (Mm.upd_same _ _ _)), Mm.drop_none _ _, Mm.le_drop (Mm.none_of hle h7) (Mm.le_trans (Mm.le_upd' (Mm.none_of hle h7) _) hle5), k1.unbox, k2.unbox, by rw [snocE, List.length_append]; exact own5.unbox, a1, p1.symm, p2.symm⟩
theorem MakeInv.ents (h7 : M' b = none) (hle : N.le M') (o1 : Own N M' 43 2 v a.length (a.flatMap encE)) (o2 : Own N M' 43 2 vh hi.length (hi.flatMap encE)) (o3 : Own N M' 43 2 vl lo.length (lo.flatMap encE)) (a1 : Apart v vh) (a2 : Apart v vl) (a3 : Apart vh vl)
    (hacc : Acc σ ((M'.upd b X).less v) w 43 2 v' (a.length + 1) (a.flatMap encE ++ encE x)) : v'.oneCell' = true ∧ ∃ M5, Has σ M5 w ∧ M5 b = some X ∧ ∀ w' X', Has σ (M5.upd b X') w' → MakeInv σ N w' b X' v' vh vl (a ++ [x]) hi lo := by
  obtain ⟨M5, h, hle5, own5, keep⟩ := Acc.split (o1.box h7) (Mm.le_box hle) hacc
  obtain ⟨k2, p2⟩ := keep _ _ _ _ _ (o2.box h7) a1
  obtain ⟨k3, p3⟩ := keep _ _ _ _ _ (o3.box h7) a2
  exact ⟨own5.one, M5, h, hle5 _ _ (Mm.upd_same _ _ _), fun w' X' h' => ⟨M5.drop b, by rw [Mm.drop_upd_eq]; exact h', Mm.drop_none _ _, Mm.le_drop (Mm.none_of hle h7) (Mm.le_trans (Mm.le_upd' (Mm.none_of hle h7) _) hle5), by rw [snocE, List.length_append]; exact own5.unbox, k2.unbox, k3.unbox, p2, p3, a3⟩⟩
/-- One block more is known. -/
theorem MakeInv.base {N' : Mm} (h : MakeInv σ N' w b X v vh vl a hi lo) (hle : N.le N') : MakeInv σ N w b X v vh vl a hi lo := by
  obtain ⟨M', h, h7, hl, o1, o2, o3, a1, a2, a3⟩ := h
  exact ⟨M', h, h7, Mm.le_trans hle hl, o1.base fun b hb => Mm.none_of hle hb, o2.base fun b hb => Mm.none_of hle hb, o3.base fun b hb => Mm.none_of hle hb, a1, a2, a3⟩
theorem MakeInv.boxed {c : Nat} {Y : Obj} (h7 : M' b = none) (hle : N.le M') (o1 : Own N M' 43 2 v a.length (a.flatMap encE)) (o2 : Own N M' 43 2 vh hi.length (hi.flatMap encE)) (o3 : Own N M' 43 2 vl lo.length (lo.flatMap encE)) (a1 : Apart v vh) (a2 : Apart v vl) (a3 : Apart vh vl)
    (hc : (M'.upd b X) c = none) (h : Has σ ((M'.upd b X).upd c Y) w) : MakeInv σ (N.upd c Y) w b X v vh vl a hi lo := by
  have hne : b ≠ c := fun e => by subst e; rw [Mm.upd_same] at hc; cases hc
  have hc' : M' c = none := by rw [Mm.upd_ne (Ne.symm hne)] at hc; exact hc
  rw [Mm.upd_comm hne] at h
  exact ⟨M'.upd c Y, h, by rw [Mm.upd_ne hne]; exact h7, Mm.le_box hle, o1.box hc', o2.box hc', o3.box hc', a1, a2, a3⟩
end
theorem eachE_one (c : Nat → Int) (l : Int) (E : List PEnt) : eachE c l 1 E = E := by
  unfold eachE
  have : ∀ x : PEnt, manyOf c l 1 x = 1 := fun x => by unfold manyOf; split <;> rfl
  simp [this]
end Go.Proofs.Ytlgnknaffnnkkaa
