/- Walks of layer 16: whether an order may be. -/
import Derived.Test.YtjnhklhgcbknkaaGreatDoorPfC
import Derived.Test.YtjnhklhgcbknkaaGreatDoorMapR
namespace Go.Proofs.YtjnhklhgcbknkaaGreatDoor
open Go.RowKit
set_option linter.unusedVariables false
set_option linter.unusedSimpArgs false
set_option linter.unnecessarySimpa false
theorem encO_len (y : OpS) : (encO y).length = 16 := rfl
theorem zoper : (Tryz.prog.info? 32).bind (·.zero) = some (.agg (OpS.row ⟨0, 0, 0, 0, 0, 0, 0, 0, 0, 0, 0, 0, 0, 0, 0, 0⟩)) := by kernel_rfl
theorem posO_len (n : Int) (l : List Int) : posO n l ≤ l.length := by
  by_cases h : posO n l = 0
  · omega
  · have := (List.getElem?_eq_some_iff.1 (posO_at n l h)).1
    omega
/-- What 16.1 asks of an oper. -/
def MayI (l : List OpS) (order : List Int) (i : Nat) : Prop := ∀ o : OpS, l[i]? = some o → ¬ (posO (i : Nat) order = 0 ∧ 0 ≤ o.tt) ∧
  ∀ (j : Nat) (x : Int) (y : OpS), order[j]? = some x → 0 ≤ x → l[x.toNat]? = some y → o.ahead y = true → posO (i : Nat) order ≠ 0 ∧ posO (i : Nat) order ≤ j + 1
theorem mayO_all {l : List OpS} {order : List Int} {n m : Nat} (hl : l.length = n) (hm : order.length = m) (hok : OkO n order m) (h : ∀ i, i < n → MayI l order i) : MayO l order := by
  subst hl hm
  exact ⟨hok, fun i o ho => h i (List.getElem?_eq_some_iff.1 ho).1 o ho⟩
theorem mayO_one {l : List OpS} {order : List Int} (h : MayO l order) (i : Nat) : MayI l order i := fun o ho => h.2 i o ho
/-- An entry holds nothing against an oper. -/
def FineE (l : List OpS) (pk : Nat) (o : OpS) (x : EntI) : Prop := ∀ y : OpS, l[x.k.toNat]? = some y → o.ahead y = true → pk ≠ 0 ∧ (pk : Int) ≤ x.v
theorem mayI_of {l : List OpS} {order : List Int} {n m : Nat} {es : List EntI} (hl : l.length = n) (hm : order.length = m) (hok : OkO n order m) (hP : PlI n order m es) {i : Nat} {o : OpS} (ho : l[i]? = some o) (h1 : ¬ (posO (i : Nat) order = 0 ∧ 0 ≤ o.tt))
    (h2 : ∀ x ∈ es, FineE l (posO (i : Nat) order) o x) : MayI l order i := by
  intro o' ho'
  rw [ho] at ho'
  cases ho'
  refine ⟨h1, fun j x y hx h0 hy ha => ?_⟩
  have hj : j < m := by rw [← hm]; exact (List.getElem?_eq_some_iff.1 hx).1
  obtain ⟨_, hn, hp⟩ := hok j x hj hx
  have hh := hP.all x h0 hn (by omega) (by omega)
  obtain ⟨e, he, rfl, _⟩ := valI_some x es hh
  obtain ⟨_, _, hv, _, _⟩ := hP.mem e he
  obtain ⟨a1, a2⟩ := h2 e he y hy ha
  exact ⟨a1, by omega⟩
theorem fine_of {l : List OpS} {order : List Int} {n m : Nat} {es : List EntI} (hm : order.length = m) (hP : PlI n order m es) {i : Nat} {o : OpS} (ho : l[i]? = some o) (h : MayI l order i) {x : EntI} (hx : x ∈ es) : FineE l (posO (i : Nat) order) o x := by
  intro y hy ha
  obtain ⟨h0, hn, hv, hp, hl⟩ := hP.mem x hx
  have hat := posO_at x.k order (by omega)
  obtain ⟨a1, a2⟩ := (h o ho).2 _ x.k y hat h0 hy ha
  exact ⟨a1, by omega⟩
end Go.Proofs.YtjnhklhgcbknkaaGreatDoor
