/- What is known, but for one block. -/
import Derived.Test.YtlpkimpdeeiaaaaGreatWalk
namespace Go.Proofs.YtlpkimpdeeiaaaaGreat
open Go.RowKit
set_option linter.unusedVariables false
section
variable {M M' : Mm} {b c : Nat} {o o' : Obj}
/-- What is known, but for one block. -/
def Mm.drop (M : Mm) (b : Nat) : Mm := fun c => if c = b then none else M c
theorem Mm.drop_le (M : Mm) (b : Nat) : (M.drop b).le M := fun c o h => by unfold Mm.drop at h; split at h; cases h; exact h
theorem Mm.drop_of (h : M c = some o) (hne : c ≠ b) : M.drop b c = some o := by unfold Mm.drop; rw [if_neg hne]; exact h
theorem Mm.drop_upd (h : (M.drop b).le M') (o : Obj) : (M.drop b).le (M'.upd b o) := fun c x hc => by
  have hne : c ≠ b := fun e => by subst e; simp [Mm.drop] at hc
  rw [Mm.upd_ne hne]
  exact h _ _ hc
theorem Mm.ne_cells {cs cs' : Array Value} {t t' : TypeId} (h : M b = some (.cells cs t)) (h' : M c = some (.cells cs' t')) (ht : t ≠ t') : b ≠ c := fun e => by
  subst e
  rw [h] at h'
  injection h' with h'
  injection h' with _ h'
  exact ht h'
end
section
variable {M0 M' : Mm} {e : TypeId} {sz n b : Nat} {v : Value} {xs : List Value} {o o' : Obj}
theorem Own.rd_drop (h : Own M0 M' e sz v n xs) (hb : M0 b = some o) : Rd (M'.drop b) sz v n xs := by
  obtain ⟨hl, ⟨rfl, rfl⟩ | ⟨g, cap, cur, rfl, hg, hh, hc, hm, hs, ht⟩⟩ := h
  · exact ⟨hl, none, 0, rfl, Nat.le_refl _, fun hn => absurd hn (by omega)⟩
  · have hne : g ≠ b := fun e => by subst e; rw [hb] at hg; cases hg
    have h2 : Own M0 (M'.drop b) e sz (.slice (some ⟨g, 0, none⟩) n cap) n xs := ⟨hl, .inr ⟨g, cap, cur, rfl, hg, Mm.drop_of hh hne, hc, hm, hs, ht⟩⟩
    exact h2.rd
theorem Mm.drop_upd_eq (M : Mm) (b : Nat) (o : Obj) : (M.drop b).upd b o = M.upd b o := by
  funext c
  unfold Mm.upd Mm.drop
  split
  · rfl
  · rfl
theorem Own.rd_drop2 {b' : Nat} (h : Own M0 M' e sz v n xs) (hb : M0 b = some o) (hb' : M0 b' = some o') : Rd ((M'.drop b).drop b') sz v n xs := by
  obtain ⟨hl, ⟨rfl, rfl⟩ | ⟨g, cap, cur, rfl, hg, hh, hc, hm, hs, ht⟩⟩ := h
  · exact ⟨hl, none, 0, rfl, Nat.le_refl _, fun hn => absurd hn (by omega)⟩
  · have hne : g ≠ b := fun e => by subst e; rw [hb] at hg; cases hg
    have hne' : g ≠ b' := fun e => by subst e; rw [hb'] at hg; cases hg
    have h2 : Own M0 ((M'.drop b).drop b') e sz (.slice (some ⟨g, 0, none⟩) n cap) n xs := ⟨hl, .inr ⟨g, cap, cur, rfl, hg, Mm.drop_of (Mm.drop_of hh hne) hne', hc, hm, hs, ht⟩⟩
    exact h2.rd
theorem Has.two {σ w : World} {M : Mm} {b b' : Nat} {o o' : Obj} (h : Has σ (M.upd b o) w) (hb : M b' = some o') (hne : b' ≠ b) : Has σ ((((M.drop b).drop b').upd b' o').upd b o) w := h.less fun c x hc => by
  by_cases e : c = b
  · subst e; rw [Mm.upd_same] at hc ⊢; exact hc
  · rw [Mm.upd_ne e] at hc ⊢
    by_cases e' : c = b'
    · subst e'; rw [Mm.upd_same] at hc; rw [← hc]; exact hb
    · rw [Mm.upd_ne e'] at hc
      exact Mm.drop_le _ _ _ _ (Mm.drop_le _ _ _ _ hc)
theorem Mm.drop_none (M : Mm) (b : Nat) : M.drop b b = none := if_pos rfl
theorem Mm.le_drop {N : Mm} (hN : N b = none) (h : N.le M') : N.le (M'.drop b) := fun c x hc => Mm.drop_of (h _ _ hc) fun e => by subst e; rw [hN] at hc; cases hc
end
section
variable {M0 M M' N : Mm} {e : TypeId} {sz n b : Nat} {v : Value} {xs : List Value} {o o' : Obj}
theorem Own.rd_in (h : Own M0 M' e sz v n xs) (hN : ∀ c x, M0 c = none → M' c = some x → N c = some x) : Rd N sz v n xs := by
  obtain ⟨hl, ⟨rfl, rfl⟩ | ⟨g, cap, cur, rfl, hg, hh, r⟩⟩ := h
  · exact ⟨hl, none, 0, rfl, Nat.le_refl _, fun hn => absurd hn (by omega)⟩
  · have h2 : Own M0 N e sz (.slice (some ⟨g, 0, none⟩) n cap) n xs := ⟨hl, .inr ⟨g, cap, cur, rfl, hg, hN _ _ hg hh, r⟩⟩
    exact h2.rd
theorem Mm.drop_mono (h : M.le M') (b : Nat) : (M.drop b).le (M'.drop b) := fun c x hc => by
  have hne : c ≠ b := fun e => by subst e; simp [Mm.drop] at hc
  exact Mm.drop_of (h _ _ (Mm.drop_le _ _ _ _ hc)) hne
theorem Mm.drop_in {c : Nat} {x : Obj} (h : M c = some x) (h0 : M0 c = none) (hb : M0 b = some o) : M.drop b c = some x := Mm.drop_of h fun e => by subst e; rw [hb] at h0; cases h0
end
theorem Mm.upd_mono {M M1 : Mm} (hle : M.le M1) (p : Nat) (o : Obj) : (M.upd p o).le (M1.upd p o) := fun c o' hc => by
  by_cases e : c = p
  · subst e; rw [Mm.upd_same] at hc ⊢; exact hc
  · rw [Mm.upd_ne e] at hc ⊢; exact hle _ _ hc
end Go.Proofs.YtlpkimpdeeiaaaaGreat
