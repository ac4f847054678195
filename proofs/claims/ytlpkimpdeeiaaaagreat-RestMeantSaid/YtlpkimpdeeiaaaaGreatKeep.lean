/- Parts of a memory, told apart by labels: what one part's change leaves of the others. -/
import Derived.Test.YtlpkimpdeeiaaaaGreatDrop
import Derived.Lib.SlBuf
import Derived.Laws.CopyRow
import Derived.Laws.IdiomCopy
namespace Go.Proofs.YtlpkimpdeeiaaaaGreat
open Go.RowKit
set_option linter.unusedVariables false
set_option linter.unusedSimpArgs false
set_option linter.unnecessarySimpa false
/-- What is known, but for the blocks of one label. -/
def Mm.out (M : Mm) (lab : Nat → Nat) (k : Nat) : Mm := fun c => if lab c = k then none else M c
/-- All is kept but what has one of the labels A. -/
def Kp (A : Nat → Prop) (M : Mm) (lab : Nat → Nat) (M' : Mm) (lab' : Nat → Nat) : Prop := ∀ c o, M c = some o → ¬ A (lab c) → M' c = some o ∧ lab' c = lab c
def Non : Nat → Prop := fun _ => False
/-- A row of label k. -/
def Row (M : Mm) (lab : Nat → Nat) (k : Nat) (e : TypeId) (sz : Nat) (v : Value) (n : Nat) (xs : List Value) : Prop := Own (M.out lab k) M e sz v n xs
/-- What a caller knows besides: label 0. -/
def Base (K M : Mm) (lab : Nat → Nat) : Prop := ∀ c o, K c = some o → M c = some o ∧ lab c = 0
section
variable {M M' M2 K K' : Mm} {lab lab' lab2 : Nat → Nat} {A B : Nat → Prop} {k k' b n sz : Nat} {o o' : Obj} {e : TypeId} {v : Value} {xs ys : List Value} {σ w : World}
theorem Mm.out_le (M : Mm) (lab : Nat → Nat) (k : Nat) : (M.out lab k).le M := fun c o h => by unfold Mm.out at h; split at h; cases h; exact h
theorem Mm.out_of (h : M b = some o) (hl : lab b ≠ k) : M.out lab k b = some o := by unfold Mm.out; rw [if_neg hl]; exact h
theorem Mm.out_none (hl : lab b = k) : M.out lab k b = none := if_pos hl
theorem Kp.refl (A : Nat → Prop) (M : Mm) (lab : Nat → Nat) : Kp A M lab M lab := fun c o h _ => ⟨h, rfl⟩
theorem Kp.trans (h : Kp A M lab M' lab') (h' : Kp A M' lab' M2 lab2) : Kp A M lab M2 lab2 := fun c o hc hA => by
  obtain ⟨h1, h2⟩ := h c o hc hA
  obtain ⟨h3, h4⟩ := h' c o h1 (by rw [h2]; exact hA)
  exact ⟨h3, h4.trans h2⟩
theorem Kp.mono (h : Kp A M lab M' lab') (hB : ∀ k, A k → B k) : Kp B M lab M' lab' := fun c o hc hA => h c o hc fun ha => hA (hB _ ha)
theorem Kp.non (h : Kp Non M lab M' lab') : Kp B M lab M' lab' := h.mono fun _ h => h.elim
theorem Kp.get (h : Kp A M lab M' lab') (hb : M b = some o) (hl : lab b = k) (hA : ¬ A k) : M' b = some o ∧ lab' b = k := by
  subst hl; exact h b o hb hA
theorem Kp.upd (hl : lab b = k) (o : Obj) : Kp (fun j => j = k) M lab (M.upd b o) lab := fun c o' hc hA => by
  refine ⟨?_, rfl⟩
  rw [Mm.upd_ne (fun e => by subst e; exact hA hl)]
  exact hc
/-- What is new is labelled. -/
def relab (M : Mm) (lab f : Nat → Nat) : Nat → Nat := fun c => match M c with | none => f c | some _ => lab c
theorem relab_new (hb : M b = none) (f : Nat → Nat) : relab M lab f b = f b := by unfold relab; rw [hb]
theorem Kp.le (h : M.le M') (f : Nat → Nat) : Kp Non M lab M' (relab M lab f) := fun c o hc _ => ⟨h c o hc, by unfold relab; rw [hc]⟩
theorem Row.grow (h : (M.out lab k).le M') (ho : Own (M.out lab k) M' e sz v n xs) : ∃ lab', Kp (fun j => j = k) M lab M' lab' ∧ Row M' lab' k e sz v n xs := by
  obtain ⟨hl, ⟨hv, h0⟩ | ⟨g, cap, cur, hv, hg, hh, r⟩⟩ := ho
  · exact ⟨lab, fun c o hc hA => ⟨h c o (Mm.out_of hc hA), rfl⟩, hl, .inl ⟨hv, h0⟩⟩
  · refine ⟨fun c => if c = g then k else lab c, fun c o hc hA => ⟨h c o (Mm.out_of hc hA), if_neg fun e => ?_⟩, hl, .inr ⟨g, cap, cur, hv, Mm.out_none (if_pos rfl), hh, r⟩⟩
    subst e
    rw [Mm.out_of hc hA] at hg
    cases hg
theorem Row.keep (h : Row M lab k e sz v n xs) (hK : Kp A M lab M' lab') (hA : ¬ A k) : Row M' lab' k e sz v n xs := by
  obtain ⟨hl, ⟨hv, h0⟩ | ⟨g, cap, cur, hv, hg, hh, r⟩⟩ := h
  · exact ⟨hl, .inl ⟨hv, h0⟩⟩
  · have hgk : lab g = k := by
      by_cases e : lab g = k
      · exact e
      · rw [Mm.out_of hh e] at hg; cases hg
    obtain ⟨h1, h2⟩ := hK.get hh hgk hA
    exact ⟨hl, .inr ⟨g, cap, cur, hv, Mm.out_none h2, h1, r⟩⟩
theorem Row.nil (M : Mm) (lab : Nat → Nat) (k : Nat) (e : TypeId) (sz : Nat) : Row M lab k e sz (.slice none 0 0) 0 [] := Own.nil _ _ _ _
theorem Row.rd (h : Row M lab k e sz v n xs) : Rd M sz v n xs := Own.rd h
theorem Row.form (h : Row M lab k e sz v n xs) : ∃ A c, v = .slice A n c := h.rd.form
theorem Base.le (h : Base K M lab) : K.le M := fun c o hc => (h c o hc).1
theorem Base.keep (h : Base K M lab) (hK : Kp A M lab M' lab') (hA : ¬ A 0) : Base K M' lab' := fun c o hc => hK.get (h c o hc).1 (h c o hc).2 hA
theorem Base.less (h : Base K M lab) (hle : K'.le K) : Base K' M lab := fun c o hc => h c o (hle c o hc)
/-- Something new of the caller's. -/
theorem Base.upd (h : Base K M lab) (hl : lab b = 0) : Base (K.upd b o) (M.upd b o) lab := fun c o' hc => by
  by_cases e : c = b
  · subst e; rw [Mm.upd_same] at hc ⊢; exact ⟨hc, hl⟩
  · rw [Mm.upd_ne e] at hc ⊢; exact h c o' hc
theorem Base.fresh (h : Base K M lab) (hb : M b = none) : K b = none := Mm.none_of h.le hb
theorem Base.off (h : Base K M lab) (hb : lab b ≠ 0) : K b = none := by
  cases hc : K b with
  | none => rfl
  | some o => exact absurd (h b o hc).2 hb
end
section
variable {P : Program} {σ w : World} {M : Mm} {ops : Array Oper} {rest : List Oper} {op : Oper} {a : Act} {Q : Exit → Act → World → Prop}
/-- A slice that reads as a list is copied onto a part of a row. -/
theorem wpList_copy_in (h : Has σ M w) (hg : op.guard = none) (d s : Operand) (t t' : TypeId) (ho : op.op = .call { callee := .builtin .copy, args := #[d, s], argTypes := #[t, t'] })
    {g o n c m : Nat} {v : Value} {xs : List Value} {cur : Array Value} {T el : TypeId} (hd : a.eval d = .slice (some ⟨g, o, none⟩) n c) (hs : a.eval s = v) (hr : Rd M 1 v m xs)
    (hu : P.underlying t = some (.slice el)) (hi : (P.info? el).map (·.size) = some 1)
    (hG : M g = some (.cells cur T (0, 0))) (hm : m ≤ n) (hfit : o + m ≤ cur.size) (h1 : ∀ v ∈ xs, v.oneCell' = true)
    (hk : ∀ w', Has σ (M.upd g (.cells (cur.toList.take o ++ xs ++ cur.toList.drop (o + m)).toArray T)) w' → wpList P ops Q rest (a.put op.dst (goInt m)) w') : wpList P ops Q (op :: rest) a w := by
  obtain ⟨hl, A, c', rfl, hc, hA⟩ := hr
  rw [Nat.mul_one] at hl
  rcases Nat.eq_zero_or_pos m with h0 | h0
  · subst h0
    have hn : xs = [] := List.eq_nil_of_length_eq_zero hl
    subst hn
    have hrun := run_copy_none (P := P) w t t' op.type el (some ⟨g, o, none⟩) A n c 0 c' hu hi (by simp)
    have hcs : (cur.toList.take o ++ [] ++ cur.toList.drop (o + 0)).toArray = cur := by simp
    rw [hcs] at hk
    exact Lib.wpList_copy_run w hg d s t t' ho _ _ hd hs hrun (hk _ (h.less fun c' o' hc' => by
      by_cases e : c' = g
      · subst e; rw [Mm.upd_same] at hc'; rw [← hc']; exact hG
      · rw [Mm.upd_ne e] at hc'; exact hc'))
  · obtain ⟨b, o', cs, t2, fz, rfl, hb, hx⟩ := hA h0
    have hrun := run_copy_row (P := P) w t t' op.type el g o n c ⟨b, o', none⟩ m c' cur T xs hu hi (h.at_ g _ hG) (by rw [hl]; exact (Nat.min_eq_left hm).symm) (fun j v hj => by
      rw [Addr.add_mid, h.cell hb]
      exact hx j v hj) (by rw [hl]; exact hfit) h1
    rw [hl] at hrun
    refine Lib.wpList_copy_run w hg d s t t' ho _ _ hd hs hrun (hk _ (h.put ?_ (setRow_heap w g cur _ T (0, 0) (h.at_ g _ hG))))
    refine ⟨rfl, rfl, rfl, by simp [World.setRow], fun k hk => ?_⟩
    simp only [World.setRow, Array.getElem?_modify]
    rw [if_neg (fun e => hk e.symm)]
end
end Go.Proofs.YtlpkimpdeeiaaaaGreat
