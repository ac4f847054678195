/- Layer 16, plain: orders grow. -/
import Derived.Test.YtigfmnfdphijaaaGreatDoorPfF
namespace Go.Proofs.YtigfmnfdphijaaaGreatDoor
set_option linter.unusedVariables false
set_option linter.unusedSimpArgs false
/-- How many below n are so. -/
def cntO (p : Nat → Bool) : Nat → Nat
  | 0 => 0
  | n + 1 => cntO p n + if p n then 1 else 0
theorem cntO_le (p : Nat → Bool) : ∀ n, cntO p n ≤ n
  | 0 => Nat.le_refl _
  | n + 1 => by have := cntO_le p n; unfold cntO; split <;> omega
theorem cntO_congr {p q : Nat → Bool} : ∀ n, (∀ i, i < n → p i = q i) → cntO p n = cntO q n
  | 0, _ => rfl
  | n + 1, h => by unfold cntO; rw [cntO_congr n fun i hi => h i (by omega), h n (by omega)]
theorem cntO_all {p : Nat → Bool} : ∀ n, cntO p n = n → ∀ i, i < n → p i = true
  | 0, _, i, hi => absurd hi (by omega)
  | n + 1, h, i, hi => by
    have hl := cntO_le p n
    unfold cntO at h
    cases hp : p n
    · rw [hp] at h; simp at h; omega
    · rw [hp] at h
      simp at h
      by_cases e : i = n
      · subst e; exact hp
      · exact cntO_all n h i (by omega)
theorem cntO_zero {p : Nat → Bool} : ∀ n, cntO p n = 0 ↔ ∀ i, i < n → p i = false
  | 0 => ⟨fun _ i hi => absurd hi (by omega), fun _ => rfl⟩
  | n + 1 => by
    unfold cntO
    constructor
    · intro h i hi
      cases hp : p n
      · rw [hp] at h
        by_cases e : i = n
        · subst e; exact hp
        · exact (cntO_zero n).1 (by simpa using h) i (by omega)
      · rw [hp] at h; simp at h
    · intro h
      rw [(cntO_zero n).2 fun i hi => h i (by omega), h n (by omega)]
      rfl
theorem cntO_split (p q : Nat → Bool) : ∀ n, cntO (fun i => p i && q i) n + cntO (fun i => !p i && q i) n = cntO q n
  | 0 => rfl
  | n + 1 => by
    have ih := cntO_split p q n
    simp only [cntO]
    have e1 : (if (p n && q n) = true then 1 else 0) + (if (!p n && q n) = true then 1 else 0) = (if q n = true then 1 else 0 : Nat) := by cases p n <;> cases q n <;> rfl
    omega
theorem cntO_add {p q : Nat → Bool} {k : Nat} (hp : p k = false) (hq : q k = true) (h : ∀ i, i ≠ k → p i = q i) : ∀ n, cntO q n = cntO p n + if k < n then 1 else 0
  | 0 => by simp [cntO]
  | n + 1 => by
    have ih := cntO_add hp hq h n
    simp only [cntO]
    rw [ih]
    by_cases e : n = k
    · subst e
      rw [hp, hq, if_neg (by omega), if_pos (by omega : n < n + 1), if_pos rfl, if_neg (by simp)]
    · rw [h n e]
      by_cases hk : k < n
      · rw [if_pos hk, if_pos (by omega : k < n + 1)]; omega
      · rw [if_neg hk, if_neg (by omega : ¬ k < n + 1)]; omega
theorem posO_app (n x : Int) : ∀ l : List Int, posO n (l ++ [x]) = if posO n l ≠ 0 then posO n l else if x = n then l.length + 1 else 0
  | [] => by simp [posO]
  | y :: r => by
    have ih := posO_app n x r
    simp only [List.cons_append, posO, List.length_cons]
    by_cases e : y = n
    · simp [e]
    · rw [if_neg e, if_neg e, ih]
      by_cases h0 : posO n r = 0
      · by_cases hx : x = n
        · simp [h0, hx]
        · simp [h0, hx]
      · simp [h0]
/-- Answered behind its beginning, or not at all. -/
def WellO (l : List OpS) : Prop := ∀ (i : Nat) (o : OpS), l[i]? = some o → 0 ≤ o.tt → 0 ≤ o.fr ∧ o.fr < o.tt
def doneO (l : List OpS) (i : Nat) : Bool := match l[i]? with | some o => decide (0 ≤ o.tt) | none => false
def inO (order : List Int) (i : Nat) : Bool := decide (posO (i : Nat) order ≠ 0)
/-- What an order that grew so keeps. -/
structure GrO (l : List OpS) (order : List Int) : Prop where
  ok : OkO l.length order order.length
  cl : ∀ (j : Nat) (x : Int) (i : Nat) (a b : OpS), order[j]? = some x → l[x.toNat]? = some b → l[i]? = some a → a.ahead b = true → posO (i : Nat) order ≠ 0 ∧ posO (i : Nat) order ≤ j + 1
  cnt : cntO (inO order) l.length = order.length
theorem GrO.first (l : List OpS) : GrO l [] := by
  refine ⟨fun j x hj => absurd hj (by simp), fun j x i a b hx => by simp at hx, ?_⟩
  exact (cntO_zero (p := inO []) l.length).2 fun i _ => rfl
theorem GrO.next {l : List OpS} {order : List Int} (h : GrO l order) {k : Nat} (hk : k < l.length) (hf : FreeO l order k = true) : GrO l (order ++ [(k : Int)]) := by
  rw [freeO_eq] at hf
  simp only [Bool.and_eq_true, decide_eq_true_eq, List.all_eq_true, List.mem_range] at hf
  obtain ⟨h0, hb⟩ := hf
  have hpos : ∀ n : Int, posO n order ≠ 0 → posO n (order ++ [(k : Int)]) = posO n order := fun n hn => by rw [posO_app, if_pos hn]
  have hpk : posO (k : Nat) (order ++ [(k : Int)]) = order.length + 1 := by rw [posO_app, if_neg (by simpa using h0), if_pos rfl]
  refine ⟨fun j x hj hx => ?_, fun j x i a b hx hb' ha hah => ?_, ?_⟩
  · simp only [List.length_append, List.length_singleton] at hj
    by_cases e : j < order.length
    · rw [List.getElem?_append_left e] at hx
      obtain ⟨x0, xn, xp⟩ := h.ok j x e hx
      exact ⟨x0, xn, by rw [hpos x (by omega)]; exact xp⟩
    · rw [List.getElem?_append_right (by omega), show j - order.length = 0 by omega] at hx
      cases hx
      exact ⟨by omega, by omega, by rw [hpk]; omega⟩
  · by_cases e : j < order.length
    · rw [List.getElem?_append_left e] at hx
      obtain ⟨p0, pl⟩ := h.cl j x i a b hx hb' ha hah
      rw [hpos _ p0]
      exact ⟨p0, pl⟩
    · have hj := (List.getElem?_eq_some_iff.1 hx).1
      simp only [List.length_append, List.length_singleton] at hj
      rw [List.getElem?_append_right (by omega), show j - order.length = 0 by omega] at hx
      cases hx
      have hb2 : l[k]? = some b := by simpa using hb'
      by_cases hi0 : posO (i : Nat) order = 0
      · have hin : i < l.length := (List.getElem?_eq_some_iff.1 ha).1
        have hbi := hb i hin
        simp only [Bool.not_eq_true'] at hbi
        unfold BadO at hbi
        rw [ha, hb2, hi0] at hbi
        simp only [decide_true, Bool.true_and] at hbi
        by_cases hik : i = k
        · subst hik
          rw [hpk]
          omega
        · simp [hik] at hbi
          rw [hah] at hbi
          cases hbi
      · rw [hpos _ hi0]
        refine ⟨hi0, ?_⟩
        have := posO_at (i : Nat) order hi0
        have := (List.getElem?_eq_some_iff.1 this).1
        omega
  · rw [cntO_add (p := inO order) (q := inO (order ++ [(k : Int)])) (k := k) (by simp [inO, h0]) (by simp [inO, hpk]) (fun i hi => by
      unfold inO
      by_cases e : posO (i : Nat) order = 0
      · rw [posO_app, if_neg (by simpa using e), if_neg (by omega), e]
      · rw [hpos _ e]) l.length, h.cnt, if_pos hk]
    simp
/-- One may come next as long as one is left. -/
theorem GrO.one {l : List OpS} {order : List Int} (h : GrO l order) (hw : WellO l) (hlt : order.length < l.length) : ∃ i, i < l.length ∧ FreeO l order i = true := by
  have hex : ∃ i, i < l.length ∧ posO (i : Nat) order = 0 := by
    by_cases hc : ∃ i, i < l.length ∧ posO (i : Nat) order = 0
    · exact hc
    · exfalso
      have hall : ∀ i, i < l.length → inO order i = true := fun i hi => by
        unfold inO
        exact decide_eq_true fun e => hc ⟨i, hi, e⟩
      have hc2 := h.cnt
      have : cntO (inO order) l.length = l.length := by
        have e := cntO_split (inO order) (fun _ => true) l.length
        rw [(cntO_zero (p := fun i => !inO order i && true) l.length).2 fun i hi => by rw [hall i hi]; rfl] at e
        have e2 : cntO (fun _ => true) l.length = l.length := by
          have : ∀ n, cntO (fun _ => true) n = n := fun n => by induction n with | zero => rfl | succ n ih => simp [cntO, ih]
          exact this _
        rw [e2] at e
        rw [Nat.add_zero] at e
        exact (cntO_congr (p := inO order) (q := fun i => inO order i && true) l.length fun i _ => (Bool.and_true _).symm).trans e
      omega
  have key : ∀ m : Nat, ∀ i o, i < l.length → posO (i : Nat) order = 0 → l[i]? = some o → o.fr.toNat ≤ m → ∃ i, i < l.length ∧ FreeO l order i = true := by
    intro m
    induction m with
    | zero =>
      intro i o hi hp ho hm
      refine ⟨i, hi, freeO_yes rfl hp fun k hk => ?_⟩
      unfold BadO
      obtain ⟨y, hy⟩ : ∃ y, l[k]? = some y := ⟨_, List.getElem?_eq_getElem hk⟩
      rw [ho, hy]
      cases ha : y.ahead o
      · show (_ && _ && y.ahead o) = false
        rw [ha, Bool.and_false]
      · exfalso
        unfold OpS.ahead at ha
        simp only [Bool.and_eq_true, decide_eq_true_eq] at ha
        obtain ⟨h1, h2⟩ := hw k y hy ha.1
        omega
    | succ m ih =>
      intro i o hi hp ho hm
      by_cases hc : ∃ k, k < l.length ∧ BadO l order i k = true
      · obtain ⟨k, hk, hb⟩ := hc
        obtain ⟨y, hy⟩ : ∃ y, l[k]? = some y := ⟨_, List.getElem?_eq_getElem hk⟩
        unfold BadO at hb
        rw [ho, hy] at hb
        simp only [Bool.and_eq_true, decide_eq_true_eq] at hb
        obtain ⟨⟨hkp, hki⟩, ha⟩ := hb
        unfold OpS.ahead at ha
        simp only [Bool.and_eq_true, decide_eq_true_eq] at ha
        obtain ⟨h1, h2⟩ := hw k y hy ha.1
        exact ih k y hk hkp hy (by omega)
      · refine ⟨i, hi, freeO_yes rfl hp fun k hk => ?_⟩
        cases hb : BadO l order i k with
        | false => rfl
        | true => exact absurd ⟨k, hk, hb⟩ hc
  obtain ⟨i, hi, hp⟩ := hex
  obtain ⟨o, ho⟩ : ∃ o, l[i]? = some o := ⟨_, List.getElem?_eq_getElem hi⟩
  exact key o.fr.toNat i o hi hp ho (Nat.le_refl _)
theorem nextO_mem {l : List OpS} {order : List Int} {x : Int} (h : x ∈ NextO l order) : ∃ k : Nat, x = (k : Int) ∧ k < l.length ∧ FreeO l order k = true := by
  unfold NextO at h
  obtain ⟨k, hk, rfl⟩ := List.mem_map.1 h
  obtain ⟨h1, h2⟩ := List.mem_filter.1 hk
  exact ⟨k, rfl, List.mem_range.1 h1, h2⟩
theorem GrO.nextO_pos {l : List OpS} {order : List Int} (h : GrO l order) (hw : WellO l) (hlt : order.length < l.length) : 0 < (NextO l order).length := by
  obtain ⟨i, hi, hf⟩ := h.one hw hlt
  exact List.length_pos_of_mem (List.mem_map.2 ⟨i, List.mem_filter.2 ⟨List.mem_range.2 hi, hf⟩, rfl⟩)
theorem GrO.nextO_end {l : List OpS} {order : List Int} (h : GrO l order) (he : order.length = l.length) : NextO l order = [] := by
  unfold NextO
  rw [List.map_eq_nil_iff, List.filter_eq_nil_iff]
  intro k hk hf
  have := cntO_all _ (h.cnt.trans he) k (List.mem_range.1 hk)
  unfold inO at this
  rw [freeO_in (of_decide_eq_true this)] at hf
  cases hf
/-- How many of the answered ones are in; whether the order may be. -/
def gotO (l : List OpS) (order : List Int) : Nat := cntO (fun i => inO order i && doneO l i) l.length
theorem gotO_next {l : List OpS} {order : List Int} {k : Nat} (hk : k < l.length) (h0 : posO (k : Nat) order = 0) : gotO l (order ++ [(k : Int)]) = gotO l order + if doneO l k then 1 else 0 := by
  unfold gotO
  have hpk : posO (k : Nat) (order ++ [(k : Int)]) ≠ 0 := by rw [posO_app, if_neg (by simpa using h0), if_pos rfl]; omega
  have hoth : ∀ i, i ≠ k → inO (order ++ [(k : Int)]) i = inO order i := fun i hi => by
    unfold inO
    by_cases e : posO (i : Nat) order = 0
    · rw [posO_app, if_neg (by simpa using e), if_neg (by omega), e]
    · rw [posO_app, if_pos e]
  cases hd : doneO l k
  · simp only [Bool.false_eq_true, if_false, Nat.add_zero]
    refine cntO_congr _ fun i _ => ?_
    by_cases e : i = k
    · subst e; simp [hd]
    · rw [hoth i e]
  · rw [cntO_add (p := fun i => inO order i && doneO l i) (q := fun i => inO (order ++ [(k : Int)]) i && doneO l i) (k := k) (by simp [inO, h0]) (by simp [inO, hpk, hd]) (fun i hi => by simp only [hoth i hi]) l.length, if_pos hk]
    simp
theorem GrO.may {l : List OpS} {order : List Int} (h : GrO l order) : MayO l order ↔ gotO l order = cntO (doneO l) l.length := by
  have hs := cntO_split (inO order) (doneO l) l.length
  have hiff : gotO l order = cntO (doneO l) l.length ↔ ∀ i, i < l.length → (!inO order i && doneO l i) = false := by
    rw [← cntO_zero (p := fun i => !inO order i && doneO l i)]
    unfold gotO
    omega
  rw [hiff]
  constructor
  · intro hm i hi
    obtain ⟨o, ho⟩ : ∃ o, l[i]? = some o := ⟨_, List.getElem?_eq_getElem hi⟩
    have := (hm.2 i o ho).1
    unfold inO doneO
    rw [ho]
    by_cases e : posO (i : Nat) order = 0
    · simp only [e, true_and] at this
      simp [e, this]
    · simp [e]
  · intro ha
    refine ⟨h.ok, fun i o ho => ⟨fun ⟨e, ht⟩ => ?_, fun j x y hx h0 hy hah => h.cl j x i o y hx hy ho hah⟩⟩
    have := ha i (List.getElem?_eq_some_iff.1 ho).1
    unfold inO doneO at this
    rw [ho, e] at this
    simp [ht] at this
end Go.Proofs.YtigfmnfdphijaaaGreatDoor
