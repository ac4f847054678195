/- Law 21, MachineSteps: the plain law. -/
import Derived.Test.YtnknlleflpkijaaSpA
import Derived.Test.YtnknlleflpkijaaApD
namespace Go.Proofs.Ytnknlleflpkijaa
open Go.RowKit
set_option linter.unusedVariables false
set_option linter.unusedSimpArgs false
set_option linter.unnecessarySimpa false
/-- What the law counts. -/
structure SpS where
  steps : Nat
  given : Nat
  clk : Nat → Int
  fault : Bool
  held : Nat → Bool
def badAct (c : Nat → Int) (lv : Nat) (a : ActS) : Bool :=
  a.kind == 3 || ((decide (0 < a.kind) && decide (a.kind < 4)) && ((!(decide (0 ≤ a.at_ ∧ a.at_ < c 0 * firsts c 10)) || decide ((lv : Int) < a.at_ / firsts c 10)) || (a.kind == 2 && (a.at_ / firsts c 10 != (lv : Int)))))
def SpS.drops (x : SpS) (lv : Nat) (a : ActS) : Bool := a.kind == 5 && (a.at_ == 1 && !x.held lv)
def SpS.next (x : SpS) (c : Nat → Int) (lv : Nat) (a : ActS) : SpS :=
  { steps := x.steps + 1
    clk := fun j => if lv ≤ j then x.clk j + 1 else x.clk j
    fault := if x.drops lv a then x.fault else (x.fault || (badAct c lv a || a.kind == 5))
    held := if x.drops lv a then (fun j => if j = lv then true else x.held j) else x.held
    given := if x.drops lv a then x.given + 1 else x.given }
/-- A spot is in a map once. -/
def OnceE (es : List Ent) : Prop := (es.map fun x => (x.l, x.s)).Nodup
structure SpInv (c : Nat → Int) (i : Nat) (s : MachS) (x : SpS) : Prop where
  cc : s.c = c
  steps : s.steps = x.steps
  stepsLe : x.steps ≤ i
  given : s.given.length = x.given
  givenLe : x.given ≤ i
  clk : ∀ j, j < 4 → x.clk j = (s.clk j : Nat)
  clkLe : ∀ j, s.clk j ≤ i
  bad : s.bad = x.fault
  held : ∀ l : Nat, (l : Int) < c 0 → valE l 1 s.ward.held = if x.held l then 0 else 1
  other : ∀ l t : Int, t ≠ 1 → valE l t s.ward.held = 0
  acc : s.mem.acc ≤ 2 * i
  wr : s.mem.wr ≤ i
  slips : s.ward.slips ≤ i
  stamp : StampE s.ward.gens s.ward.gclk
  gens : ∀ l t : Int, 0 ≤ valE l t s.ward.gens ∧ valE l t s.ward.gens ≤ i
  deep : ∀ t, (s.thr t).frames.length ≤ i
  ki : ∀ t, (s.thr t).ki = false
  wlv : s.ward.lv = c 0
  wsl : s.ward.sl = c 10
  memN : (s.mem.N : Int) = c 0 * firsts c 10
  once : OnceE s.ward.held
theorem SpInv.mono {c : Nat → Int} {i j : Nat} {s : MachS} {x : SpS} (h : SpInv c i s x) (hij : i ≤ j) : SpInv c j s x :=
  ⟨h.cc, h.steps, Nat.le_trans h.stepsLe hij, h.given, Nat.le_trans h.givenLe hij, h.clk, fun k => Nat.le_trans (h.clkLe k) hij, h.bad, h.held, h.other, by have := h.acc; omega, Nat.le_trans h.wr hij, Nat.le_trans h.slips hij, h.stamp, fun l t => by have := h.gens l t; omega, fun t => Nat.le_trans (h.deep t) hij, h.ki, h.wlv, h.wsl, h.memN, h.once⟩
/-- Another state of the threads. -/
theorem SpInv.thrs {c : Nat → Int} {i j : Nat} {s : MachS} {x : SpS} (h : SpInv c i s x) (hij : i ≤ j) (f : Nat → ThrS) (h1 : ∀ t, (f t).frames.length ≤ j) (h2 : ∀ t, (f t).ki = false) : SpInv c j { s with thr := f } x :=
  let h := h.mono hij
  ⟨h.cc, h.steps, h.stepsLe, h.given, h.givenLe, h.clk, h.clkLe, h.bad, h.held, h.other, h.acc, h.wr, h.slips, h.stamp, h.gens, h1, h2, h.wlv, h.wsl, h.memN, h.once⟩
def MachS.stalled (s : MachS) (t : Nat) (b : Bool) : MachS := { s with thr := fun j => if j = t then { s.thr t with st := b } else s.thr j }
theorem SpInv.stalled {c : Nat → Int} {i : Nat} {s : MachS} {x : SpS} (h : SpInv c i s x) (t : Nat) (b : Bool) : SpInv c i (s.stalled t b) x := by
  refine h.thrs (Nat.le_refl _) _ (fun j => ?_) (fun j => ?_)
  · show (if j = t then { s.thr t with st := b } else s.thr j).frames.length ≤ i
    split
    · exact h.deep t
    · exact h.deep j
  · show (if j = t then { s.thr t with st := b } else s.thr j).ki = false
    split
    · exact h.ki t
    · exact h.ki j
theorem SpInv.called {c : Nat → Int} {i : Nat} {s : MachS} {x : SpS} (h : SpInv c i s x) (t : Nat) (fn : Int) (us : List Int) : SpInv c (i + 1) (s.called t fn us) x := by
  refine h.thrs (Nat.le_succ _) _ (fun j => ?_) (fun j => ?_)
  · show (if j = t then (s.thr t).call fn us else s.thr j).frames.length ≤ i + 1
    split
    · unfold ThrS.call
      have := h.deep t
      simp
      omega
    · have := h.deep j
      omega
  · show (if j = t then (s.thr t).call fn us else s.thr j).ki = false
    split
    · exact h.ki t
    · exact h.ki j
theorem firstHeld_val (n : Nat) : ∀ l t : Int, valE l t (firstHeld n) = if t = 1 ∧ 0 ≤ l ∧ l < n then 1 else 0 := by
  intro l t
  induction n with
  | zero => simp [firstHeld, valE]
  | succ n ih =>
    have e : ∀ (a b : List Ent), valE l t (a ++ b) = if hasE l t a then valE l t a else valE l t b := fun a b => by
      induction a with
      | nil => simp [hasE]
      | cons x r ih2 =>
        simp only [List.cons_append, valE, hasE]
        by_cases h : (l == x.l && t == x.s) = true
        · simp only [h, if_true, Bool.true_or]
        · simp only [Bool.not_eq_true] at h
          simp only [h, Bool.false_eq_true, if_false, Bool.false_or, ih2]
    have hv : hasE l t (firstHeld n) = true → valE l t (firstHeld n) = 1 := by
      have : ∀ (ls : List Nat), hasE l t (ls.map fun (l : Nat) => (⟨l, 1, 1, l⟩ : Ent)) = true → valE l t (ls.map fun (l : Nat) => (⟨l, 1, 1, l⟩ : Ent)) = 1 := fun ls => by
        induction ls with
        | nil => intro h; cases h
        | cons x r ih2 =>
          intro h
          simp only [List.map_cons, hasE, valE] at h ⊢
          cases h3 : (l == (x : Int) && t == 1)
          · rw [h3] at h; simp only [Bool.false_or] at h; simpa using ih2 h
          · simp
      exact this _
    rw [← firstHeld_put, putE_none _ _ _ _ _ (firstHeld_has n), e]
    cases hh : hasE l t (firstHeld n)
    · have := hasE_val hh
      rw [this] at ih
      simp only [Bool.false_eq_true, if_false, valE]
      split
      · rename_i h
        simp only [Bool.and_eq_true, beq_iff_eq] at h
        rw [if_pos (by omega)]
      · rename_i h
        simp only [Bool.and_eq_true, beq_iff_eq] at h
        split at ih
        · cases ih
        · rw [if_neg (by omega)]
    · have h1 := hv hh
      rw [h1] at ih
      simp only [if_true]
      rw [h1]
      split at ih
      · rw [if_pos (by omega)]
      · cases ih
def spFirst : SpS := ⟨0, 0, fun _ => 0, false, fun _ => false⟩
theorem SpInv.first {c : Nat → Int} {L B S : Nat} (hn : Nums c L B S) {s : MachS} (h : s.New c L B S) (w1 : s.ward.lv = s.c 0) (w2 : s.ward.sl = s.c 10) (hN : (s.mem.N : Int) = s.c 0 * firsts s.c 10) : SpInv c 0 s spFirst := by
  obtain ⟨wb, hm⟩ := h.mem
  have hc := h.c
  refine ⟨hc, h.steps, Nat.le_refl _, by rw [h.given]; rfl, Nat.le_refl _, fun j _ => by rw [h.clk]; rfl, fun j => by rw [h.clk]; exact Nat.le_refl _, ?_, fun l hl => ?_, fun l t ht => ?_, by rw [hm]; exact Nat.le_refl _, by rw [hm]; exact Nat.le_refl _, by rw [h.slips]; exact Nat.le_refl _, ?_, fun l t => by rw [h.gens.1]; exact ⟨Int.le_refl _, Int.le_refl _⟩, fun t => by rw [h.thr]; exact Nat.le_refl _, fun t => by rw [h.thr]; rfl, by rw [w1, hc], by rw [w2, hc], by rw [hN, hc], ?_⟩
  · unfold MachS.bad
    rw [h.fault, hm, h.slips]
    rfl
  · rw [h.held.1, firstHeld_val, if_pos ⟨rfl, by omega, by have := hn.lev; omega⟩]; rfl
  · rw [h.held.1, firstHeld_val, if_neg (by omega)]
  · rw [h.gens.1]
    exact ⟨fun x hx => by simp at hx, by simp⟩
  · rw [h.held.1]
    unfold OnceE firstHeld
    rw [List.map_map]
    have : ((fun x : Ent => (x.l, x.s)) ∘ fun (l : Nat) => (⟨l, 1, 1, l⟩ : Ent)) = fun l : Nat => ((l : Int), (1 : Int)) := rfl
    rw [this]
    exact List.Pairwise.map _ (fun a b hab e => hab (by have := congrArg Prod.fst e; exact Int.ofNat_inj.1 this)) (List.nodup_range (n := L))
theorem valE_put (l t v : Int) (clk : Nat) (l' t' : Int) : ∀ es : List Ent, valE l' t' (putE l t v clk es) = if l' = l ∧ t' = t then v else valE l' t' es
  | [] => by
    simp only [putE, valE]
    by_cases h : l' = l ∧ t' = t
    · rw [if_pos h, if_pos (by simpa using h)]
    · rw [if_neg h, if_neg (by simpa using h)]
  | x :: r => by
    have ih := valE_put l t v clk l' t' r
    unfold putE
    cases hx : (l == x.l && t == x.s)
    · simp only [Bool.false_eq_true, if_false, valE, ih]
      by_cases h : l' = l ∧ t' = t
      · obtain ⟨rfl, rfl⟩ := h
        rw [hx]
        simp
      · simp only [if_neg h]
    · simp only [Bool.and_eq_true, beq_iff_eq] at hx
      obtain ⟨rfl, rfl⟩ := hx
      simp only [if_true, valE]
      by_cases h : l' = x.l ∧ t' = x.s
      · rw [if_pos h]
        simp [h.1, h.2]
      · rw [if_neg h]
        have : (l' == x.l && t' == x.s) = false := by simpa using h
        simp only [this, Bool.false_eq_true, if_false]
theorem StampE.put {es : List Ent} {clk : Nat} (h : StampE es clk) (l t v : Int) : StampE (putE l t v clk es) (if hasE l t es then clk else clk + 1) := by
  have hb : ∀ es : List Ent, hasE l t es = true → (putE l t v clk es).map (·.born) = es.map (·.born) := by
    intro es
    induction es with
    | nil => intro h; cases h
    | cons x r ih =>
      intro h
      unfold hasE at h
      unfold putE
      cases hx : (l == x.l && t == x.s)
      · rw [hx, Bool.false_or] at h
        simp [ih h]
      · simp
  cases hh : hasE l t es
  · rw [putE_none _ _ _ _ _ hh]
    simp only [Bool.false_eq_true, if_false]
    refine ⟨fun y hy => ?_, ?_⟩
    · rcases List.mem_append.1 hy with hy | hy
      · exact Nat.lt_succ_of_lt (h.1 y hy)
      · simp at hy; subst hy; exact Nat.lt_succ_self _
    · rw [List.map_append, List.nodup_append]
      refine ⟨h.2, by simp, fun a ha b hb => ?_⟩
      simp at hb
      subst hb
      obtain ⟨y, hy, rfl⟩ := List.mem_map.1 ha
      have := h.1 y hy
      omega
  · simp only [if_true]
    have e := hb es hh
    refine ⟨fun y hy => ?_, by rw [e]; exact h.2⟩
    have : y.born ∈ es.map (·.born) := by rw [← e]; exact List.mem_map_of_mem hy
    obtain ⟨z, hz, e2⟩ := List.mem_map.1 this
    have := h.1 z hz
    omega
theorem valE_del_ne (l t l' t' : Int) (hne : ¬ (l' = l ∧ t' = t)) : ∀ es : List Ent, valE l' t' (delE l t es) = valE l' t' es
  | [] => rfl
  | x :: r => by
    have ih := valE_del_ne l t l' t' hne r
    unfold delE
    cases hx : (l == x.l && t == x.s)
    · simp only [Bool.false_eq_true, if_false, valE, ih]
    · simp only [Bool.and_eq_true, beq_iff_eq] at hx
      obtain ⟨rfl, rfl⟩ := hx
      have : (l' == x.l && t' == x.s) = false := by simpa using hne
      simp only [if_true, valE, this, Bool.false_eq_true, if_false]
theorem valE_del (l t : Int) : ∀ es : List Ent, OnceE es → valE l t (delE l t es) = 0
  | [], _ => rfl
  | x :: r, h => by
    unfold OnceE at h
    simp only [List.map_cons, List.nodup_cons] at h
    unfold delE
    cases hx : (l == x.l && t == x.s)
    · simp only [Bool.false_eq_true, if_false, valE, hx]
      exact valE_del l t r h.2
    · simp only [Bool.and_eq_true, beq_iff_eq] at hx
      obtain ⟨rfl, rfl⟩ := hx
      simp only [if_true]
      apply hasE_val
      have h1 := h.1
      have : ∀ r : List Ent, (x.l, x.s) ∉ r.map (fun x => (x.l, x.s)) → hasE x.l x.s r = false := by
        intro r
        induction r with
        | nil => intro _; rfl
        | cons y r ih =>
          intro h
          simp only [List.map_cons, List.mem_cons, not_or] at h
          unfold hasE
          rw [ih h.2, Bool.or_false]
          have := h.1
          simp only [Prod.mk.injEq] at this
          simpa using this
      exact this r h1
end Go.Proofs.Ytnknlleflpkijaa
