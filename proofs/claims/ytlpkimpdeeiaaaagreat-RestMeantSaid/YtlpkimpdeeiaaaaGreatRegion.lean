/- A region that draws its order: first operations that are quiet in a class of worlds, in whatever order; behind all of them, one by one, the others. -/
import Derived.Test.YtlpkimpdeeiaaaaGreatMem
namespace Go.Proofs.YtlpkimpdeeiaaaaGreat
open Go.RowKit
set_option linter.unusedVariables false
set_option linter.unusedSimpArgs false
set_option linter.unnecessarySimpa false

section
def edgesOf (l : List Oper) (i : Nat) : List Nat := ((l[i]?).map fun o => (o.after.toList.filter fun e => Region.binds .any e).map (·.on)).getD []
def dstOf (l : List Oper) (i : Nat) : Option Tmp := (l[i]?).bind (·.dst)
def looksOf (l : List Oper) (i : Nat) : List Tmp := ((l[i]?).map (·.looksAt l.toArray)).getD []
/-- A copy of a slot that no operation of the first n writes. -/
def floatB (l : List Oper) (n j : Nat) : Bool :=
  match l[j]? with
  | some o => (match o.op with | .move _ => true | _ => false) && o.guard.isNone && (List.range n).all fun i => match dstOf l i with | some d => !(looksOf l j).contains d | none => true
  | none => false
/-- What must have come up ahead of operation n. -/
def sunkL (l : List Oper) (n : Nat) : List Nat :=
  (List.range n).reverse.foldl (fun acc j => if (n :: acc).any (fun k => decide (j < k) && (edgesOf l k).contains j) then j :: acc else acc) []
/-- The Bool over a region: its first n operations, then the others one behind the other; a copy may come up later than that. -/
def headB (l : List Oper) (n : Nat) : Bool :=
  Region.noSelect l.toArray && decide (n < l.length) &&
  ((List.range l.length).all fun i => (edgesOf l i).all fun j => decide (j < i)) &&
  ((List.range n).all fun i => (List.range n).all fun j => i == j ||
    ((match dstOf l j with | some d => !((looksOf l i).contains d) || (edgesOf l i).contains j | none => true) &&
     (match dstOf l i with | some d => dstOf l j != some d | none => true))) &&
  ((sunkL l n).all fun j => decide (j < n) && (n :: sunkL l n).any fun k => decide (j < k) && decide (k ≤ n) && (edgesOf l k).contains j) &&
  ((List.range n).all fun j => (sunkL l n).contains j || floatB l n j) &&
  ((List.range l.length).all fun i => decide (i < n) || i + 1 == l.length || (edgesOf l (i + 1)).contains i) &&
  ((List.range l.length).all fun k => decide (k < n) || (List.range n).all fun j => (sunkL l n).contains j || (edgesOf l k).contains j ||
    ((match dstOf l j with | some d => !((looksOf l k).contains d) && dstOf l k != some d | none => true) && (match dstOf l k with | some d => !((looksOf l j).contains d) | none => true)))

structure HeadOk (l : List Oper) (n : Nat) (S : Nat → Prop) : Prop where
  sel : Region.noSelect l.toArray = true
  le : n < l.length
  back : ∀ i j, j ∈ edgesOf l i → j < i
  reads : ∀ i j d, i < n → j < n → i ≠ j → dstOf l j = some d → d ∈ looksOf l i → j ∈ edgesOf l i
  dsts : ∀ i j d, i < n → j < n → i ≠ j → dstOf l i = some d → dstOf l j ≠ some d
  sink : ∀ j, S j → j < n ∧ ∃ k, j < k ∧ (k = n ∨ S k) ∧ j ∈ edgesOf l k
  flt : ∀ j, j < n → ¬ S j → floatB l n j = true
  chain : ∀ i, n ≤ i → i + 1 < l.length → i ∈ edgesOf l (i + 1)
  tail : ∀ k j, n ≤ k → k < l.length → j < n → ¬ S j → j ∉ edgesOf l k → (∀ d, dstOf l j = some d → d ∉ looksOf l k ∧ dstOf l k ≠ some d) ∧ (∀ d, dstOf l k = some d → d ∉ looksOf l j)

theorem headB_ok {l : List Oper} {n : Nat} (h : headB l n = true) : HeadOk l n (· ∈ sunkL l n) := by
  simp only [headB, Bool.and_eq_true, decide_eq_true_eq, List.all_eq_true, List.mem_range, Bool.or_eq_true, beq_iff_eq] at h
  obtain ⟨⟨⟨⟨⟨⟨⟨h1, h2⟩, h3⟩, h4⟩, h5⟩, h6⟩, h7⟩, h8⟩ := h
  refine ⟨h1, h2, fun i j hj => ?_, fun i j d hi hj hne hd hl => ?_, fun i j d hi hj hne hd => ?_, fun j hj => ?_, fun j hj hs => ?_, fun i hi hl => ?_, fun k j hk hkl hj hs he => ?_⟩
  · by_cases hi : i < l.length
    · exact h3 i hi j hj
    · have : l[i]? = none := List.getElem?_eq_none (by omega)
      simp [edgesOf, this] at hj
  · rcases h4 i hi j hj with e | ⟨h, _⟩
    · exact absurd e hne
    · simp only [hd, Bool.or_eq_true, Bool.not_eq_true', List.contains_eq_mem, decide_eq_true_eq, decide_eq_false_iff_not] at h
      rcases h with h | h
      · exact absurd hl h
      · exact h
  · rcases h4 i hi j hj with e | ⟨_, h⟩
    · exact absurd e hne
    · simpa [hd] using h
  · obtain ⟨hlt, h⟩ := h5 j hj
    simp only [List.any_eq_true, Bool.and_eq_true, decide_eq_true_eq, List.contains_eq_mem] at h
    obtain ⟨k, hk, ⟨h1, _⟩, h2⟩ := h
    exact ⟨hlt, k, h1, (List.mem_cons.1 hk), h2⟩
  · rcases h6 j hj with h | h
    · exact absurd (by simpa using h) hs
    · exact h
  · rcases h7 i (by omega) with (h | h) | h
    · omega
    · omega
    · simpa using h
  · rcases h8 k hkl with h | h
    · omega
    · rcases h j hj with (h | h) | ⟨ha, hb⟩
      · exact absurd (by simpa using h) hs
      · exact absurd (by simpa using h) he
      · refine ⟨fun d hd => ?_, fun d hd => ?_⟩
        · simpa [hd] using ha
        · simpa [hd] using hb
end

section
variable {P : Program} {l : List Oper} {n : Nat} {C : World → Prop}

/-- The values of the first operations, in the text's order: each of them in every world of the class. -/
def Vals (P : Program) (l : List Oper) (C : World → Prop) (i : Nat) (v : Value) (a : Act) : Prop :=
  ∃ o, l[i]? = some o ∧ ((Region.wanted o (yielded l.toArray a.tmps) = true ∧ ∀ w, C w → o.quietAt P a C w v) ∨ (Region.wanted o (yielded l.toArray a.tmps) = false ∧ v = undef))
/-- The frame behind the first k operations, in the text's order. -/
def lexAct (l : List Oper) (vs : Nat → Value) (a : Act) : Nat → Act
  | 0 => a
  | k + 1 => (lexAct l vs a k).put (dstOf l k) (vs k)

theorem vals_of_quiet {Q : Act → Prop} : ∀ (m k : Nat) (a : Act), k + m ≤ l.length → wpQuiet P l.toArray C Q ((l.drop k).take m) a →
    ∃ vs : Nat → Value, ∃ ac : Nat → Act, ac k = a ∧ (∀ i, k ≤ i → i < k + m → ac (i + 1) = (ac i).put (dstOf l i) (vs i) ∧ Vals P l C i (vs i) (ac i)) ∧ Q (ac (k + m))
  | 0, k, a, _, h => ⟨fun _ => undef, fun _ => a, rfl, fun i h1 h2 => absurd h2 (by omega), by simpa [wpQuiet] using h⟩
  | m + 1, k, a, hk, h => by
    have hlt : k < l.length := by omega
    have e : (l.drop k).take (m + 1) = l[k] :: (l.drop (k + 1)).take m := by rw [List.drop_eq_getElem_cons hlt]; rfl
    have h0 : l[k]? = some l[k] := List.getElem?_eq_getElem hlt
    rw [e] at h
    have step : ∀ v, wpQuiet P l.toArray C Q ((l.drop (k + 1)).take m) (a.put (dstOf l k) v) → Vals P l C k v a →
        ∃ vs : Nat → Value, ∃ ac : Nat → Act, ac k = a ∧ (∀ i, k ≤ i → i < k + (m + 1) → ac (i + 1) = (ac i).put (dstOf l i) (vs i) ∧ Vals P l C i (vs i) (ac i)) ∧ Q (ac (k + (m + 1))) := by
      intro v hq hv
      obtain ⟨vs, ac, ha, hs, hQ⟩ := vals_of_quiet m (k + 1) _ (by omega) hq
      refine ⟨fun i => if i = k then v else vs i, fun i => if i = k then a else ac i, if_pos rfl, fun i h1 h2 => ?_, ?_⟩
      · by_cases e : i = k
        · subst e
          simp only [if_true, if_neg (show i + 1 ≠ i by omega)]
          exact ⟨ha, hv⟩
        · simp only [if_neg e, if_neg (show i + 1 ≠ k by omega)]
          exact hs i (by omega) (by omega)
      · simp only [if_neg (show k + (m + 1) ≠ k by omega)]
        rw [show k + (m + 1) = k + 1 + m by omega]
        exact hQ
    have hd : dstOf l k = l[k].dst := by simp [dstOf, h0]
    simp only [wpQuiet] at h
    by_cases hw : Region.wanted l[k] (yielded l.toArray a.tmps) = true
    · rw [if_pos hw] at h
      obtain ⟨v, h1, h2⟩ := h
      exact step v (by rw [hd]; exact h2) ⟨_, h0, .inl ⟨hw, h1⟩⟩
    · rw [if_neg hw] at h
      exact step undef (by rw [hd]; exact h) ⟨_, h0, .inr ⟨by simpa using hw, rfl⟩⟩

/-- The frame a bears the values of the operations of S, and is a0 elsewhere. -/
structure Bears (l : List Oper) (n : Nat) (vs : Nat → Value) (a0 : Act) (S : Nat → Prop) (a : Act) : Prop where
  defers : a.defers = a0.defers
  size : a.tmps.size = a0.tmps.size
  new : ∀ j d, j < n → S j → dstOf l j = some d → d < a0.tmps.size → a.tmps[d]? = some (vs j)
  old : ∀ d, (∀ j, j < n → S j → dstOf l j ≠ some d) → a.tmps[d]? = a0.tmps[d]?

theorem Bears.put {vs : Nat → Value} {a0 a : Act} {S S' : Nat → Prop} {SS : Nat → Prop} (hk : HeadOk l n SS) (h : Bears l n vs a0 S a) {i : Nat} (hi : i < n) (hS : ∀ j, j < n → (S' j ↔ S j ∨ j = i)) (hn : ¬ S i) :
    Bears l n vs a0 S' (a.put (dstOf l i) (vs i)) := by
  cases hd : dstOf l i with
  | none =>
    refine ⟨h.defers, h.size, fun j d hj hs hjd hlt => ?_, fun d hall => ?_⟩
    · rcases (hS j hj).1 hs with h1 | rfl
      · exact h.new j d hj h1 hjd hlt
      · rw [hd] at hjd; cases hjd
    · exact h.old d fun j hj hs => hall j hj ((hS j hj).2 (.inl hs))
  | some e =>
    refine ⟨h.defers, by simp [Act.put, h.size], fun j d hj hs hjd hlt => ?_, fun d hall => ?_⟩
    · rcases (hS j hj).1 hs with h1 | rfl
      · have hji : j ≠ i := fun e' => hn (e' ▸ h1)
        have hed : e ≠ d := fun e' => hk.dsts i j e hi hj (Ne.symm hji) hd (e' ▸ hjd)
        simp only [Act.put, Array.getElem?_setIfInBounds_ne hed]
        exact h.new j d hj h1 hjd hlt
      · rw [hd] at hjd
        cases hjd
        simp [Act.put, h.size, hlt]
    · have hed : e ≠ d := fun e' => hall i hi ((hS i hi).2 (.inr rfl)) (e' ▸ hd)
      simp only [Act.put, Array.getElem?_setIfInBounds_ne hed]
      exact h.old d fun j hj hs => hall j hj ((hS j hj).2 (.inl hs))

theorem Bears.eq {vs : Nat → Value} {a0 a b : Act} {S S' : Nat → Prop} (h : Bears l n vs a0 S a) (h' : Bears l n vs a0 S' b) {d : Nat} (hd : ∀ j, j < n → dstOf l j = some d → (S j ↔ S' j)) : a.tmps[d]? = b.tmps[d]? := by
  by_cases hlt : d < a0.tmps.size
  · by_cases hex : ∃ j, j < n ∧ S j ∧ dstOf l j = some d
    · obtain ⟨j, hj, hs, hjd⟩ := hex
      rw [h.new j d hj hs hjd hlt, h'.new j d hj ((hd j hj hjd).1 hs) hjd hlt]
    · rw [h.old d fun j hj hs e => hex ⟨j, hj, hs, e⟩, h'.old d fun j hj hs e => hex ⟨j, hj, (hd j hj e).2 hs, e⟩]
  · have e1 : a.tmps.size ≤ d := by rw [h.size]; omega
    have e2 : b.tmps.size ≤ d := by rw [h'.size]; omega
    rw [Array.getElem?_eq_none e1, Array.getElem?_eq_none e2]

theorem Bears.all {vs : Nat → Value} {a0 a b : Act} {S S' : Nat → Prop} (h : Bears l n vs a0 S a) (h' : Bears l n vs a0 S' b) (hd : ∀ j, j < n → (S j ↔ S' j)) : a = b := by
  have h1 : a.tmps = b.tmps := Array.ext_getElem? fun d => h.eq h' fun j hj _ => hd j hj
  have h2 : a.defers = b.defers := h.defers.trans h'.defers.symm
  cases a; cases b; simp_all

theorem execOp_same {o : Oper} (hs : ∀ cs b, o.op ≠ .select cs b) {ops : Array Oper} {a b : Act} (h : ∀ d, d ∈ o.looksAt ops → a.tmps[d]? = b.tmps[d]?) : execOp a.eval o = execOp b.eval o :=
  execOp_congr o hs fun x hx => by
    cases x with
    | tmp t =>
      have := h t (List.mem_append_left _ (List.mem_filterMap.2 ⟨.tmp t, by simpa using hx, rfl⟩))
      simp [Act.eval, this]
    | _ => rfl
theorem wanted_same {o : Oper} {ops : Array Oper} {a b : Act} (h : ∀ d, d ∈ o.looksAt ops → a.tmps[d]? = b.tmps[d]?) : Region.wanted o (yielded ops a.tmps) = Region.wanted o (yielded ops b.tmps) := by
  unfold Region.wanted
  cases hg : o.guard with
  | none => rfl
  | some gw =>
    obtain ⟨g, want⟩ := gw
    have hy : yielded ops a.tmps g = yielded ops b.tmps g := by
      unfold yielded
      cases ht : (ops[g]?).bind (·.dst) with
      | none => rfl
      | some t => simp [h t (by simp [Oper.looksAt, hg, ht])]
    simp only [hy]

theorem mem_edges {l : List Oper} {i : Nat} {o : Oper} (h : l[i]? = some o) (j : Nat) : j ∈ edgesOf l i ↔ ∃ e ∈ o.after, Region.binds .any e = true ∧ e.on = j := by
  simp [edgesOf, h, and_assoc]

theorem ready_iff {listed : Array Bool} {i : Nat} : i ∈ Region.ready .any l.toArray listed ↔ i < l.length ∧ listed.getD i true = false ∧ ∀ j, j ∈ edgesOf l i → listed.getD j false = true := by
  rw [mem_ready]
  constructor
  · rintro ⟨h1, o, ho, hall⟩
    have ho : l[i]? = some o := by simpa using ho
    refine ⟨(List.getElem?_eq_some_iff.1 ho).1, h1, fun j hj => ?_⟩
    obtain ⟨e, he, hb, rfl⟩ := (mem_edges ho j).1 hj
    exact hall e he hb
  · rintro ⟨hi, h1, hall⟩
    have ho : l[i]? = some l[i] := List.getElem?_eq_getElem hi
    exact ⟨h1, l[i], by simpa using ho, fun e he hb => hall _ ((mem_edges ho _).2 ⟨e, he, hb, rfl⟩)⟩

/-- What is listed: all that it waited for is listed too. -/
structure Down (l : List Oper) (listed : Array Bool) : Prop where
  size : listed.size = l.length
  down : ∀ i, listed.getD i false = true → ∀ j, j ∈ edgesOf l i → listed.getD j false = true

theorem getD_set_self {listed : Array Bool} {i : Nat} (hi : i < listed.size) (d : Bool) : (listed.setIfInBounds i true).getD i d = true := by simp [hi]
theorem getD_tf {listed : Array Bool} {i : Nat} (hi : i < listed.size) (d d' : Bool) : listed.getD i d = listed.getD i d' := by simp [hi]
theorem Down.put {listed : Array Bool} (h : Down l listed) {i : Nat} (hi : i ∈ Region.ready .any l.toArray listed) : Down l (listed.setIfInBounds i true) := by
  obtain ⟨h0, h1, h2⟩ := ready_iff.1 hi
  refine ⟨by simpa using h.size, fun k hk j hj => ?_⟩
  by_cases hik : i = k
  · subst hik
    by_cases hij : i = j
    · subst hij; exact getD_set_self (by rw [h.size]; omega) _
    · rw [getD_set_ne false hij]; exact h2 j hj
  · rw [getD_set_ne false hik] at hk
    by_cases hij : i = j
    · subst hij; exact getD_set_self (by rw [h.size]; omega) _
    · rw [getD_set_ne false hij]; exact h.down k hk j hj
theorem Down.under {SS : Nat → Prop} {listed : Array Bool} (hk : HeadOk l n SS) (h : Down l listed) (h2 : ∀ j, j ∈ edgesOf l n → listed.getD j false = true) : ∀ m j, j + m = n → SS j → listed.getD j false = true := by
  intro m
  induction m using Nat.strongRecOn with
  | ind m ih =>
    intro j hj hs
    obtain ⟨hlt, k, h1, h3, h4⟩ := hk.sink j hs
    rcases h3 with rfl | h3
    · exact h2 j h4
    · have := (hk.sink k h3).1
      exact h.down k (ih (n - k) (by omega) k (by omega) h3) j h4
/-- The least that isn't listed may come up. -/
theorem Down.least {SS : Nat → Prop} {listed : Array Bool} (hk : HeadOk l n SS) (h : Down l listed) : ∀ i, i < l.length → listed.getD i true = false → ∃ j, j ≤ i ∧ j ∈ Region.ready .any l.toArray listed := by
  intro i
  induction i using Nat.strongRecOn with
  | ind i ih =>
    intro hi hl
    by_cases hall : ∀ j, j ∈ edgesOf l i → listed.getD j false = true
    · exact ⟨i, Nat.le_refl _, ready_iff.2 ⟨hi, hl, hall⟩⟩
    · obtain ⟨j, hj⟩ := Classical.not_forall.1 hall
      obtain ⟨hj, hjl⟩ := Classical.not_imp.1 hj
      have hlt := hk.back i j hj
      obtain ⟨k, hk1, hk2⟩ := ih j hlt (by omega) (by rw [getD_tf (by rw [h.size]; omega) true false]; simpa using hjl)
      exact ⟨k, by omega, hk2⟩

variable {Q : Exit → Act → World → Prop}
theorem wp_rel {o : Oper} {a b : Act} {w : World} {K K' : Act → World → Prop} (he : execOp a.eval o = execOp b.eval o) (hdf : a.defers = b.defers) (hQ : ∀ c (t t' : Array Value) (ds : List Deferred) w, Q (.panic c) ⟨t', ds⟩ w → Q (.panic c) ⟨t, ds⟩ w)
    (hK : ∀ v w', K (b.put o.dst v) w' → K' (a.put o.dst v) w') (hD : ∀ d w', K ({ b with defers := d :: b.defers }.put o.dst undef) w' → K' ({ a with defers := d :: a.defers }.put o.dst undef) w')
    (h : o.wp P b w K Q) : o.wp P a w K' Q := by
  have hQ' : ∀ c w, Q (.panic c) b w → Q (.panic c) a w := fun c w h => by
    obtain ⟨ta, da⟩ := a
    obtain ⟨tb, db⟩ := b
    cases hdf
    exact hQ c _ _ _ w h
  unfold Oper.wp at *
  rw [he]
  generalize (execOp b.eval o).run P w = r at *
  cases r with
  | ok m w' =>
    cases m <;> simp only [Oper.upon] at h ⊢ <;> first | exact hK _ _ h | exact hD _ _ h | skip
    · exact h.mono fun e w'' he => by cases e <;> first | exact hK _ _ he | exact hQ' _ _ he | exact he
    · exact h.mono fun _ _ he => hK _ _ he
  | halt x w' => cases x <;> simp only [Oper.upon] at h ⊢ <;> exact hQ' _ _ h

/-- Some copies have not come up yet: the frame a is b but for their slots. -/
structure Lags (l : List Oper) (n : Nat) (vs : Nat → Value) (listed : Array Bool) (a b : Act) : Prop where
  defers : a.defers = b.defers
  size : a.tmps.size = b.tmps.size
  same : ∀ d, (∀ j, j < n → listed.getD j false = false → dstOf l j ≠ some d) → a.tmps[d]? = b.tmps[d]?
  late : ∀ j, j < n → listed.getD j false = false → ∀ d, dstOf l j = some d → d < b.tmps.size → b.tmps[d]? = some (vs j)
  move : ∀ j, j < n → listed.getD j false = false → ∃ o x, l[j]? = some o ∧ o.op = .move x ∧ o.guard = none ∧ a.eval x = vs j

theorem eval_same {a b : Act} {x : Operand} (h : ∀ d, x = .tmp d → a.tmps[d]? = b.tmps[d]?) : a.eval x = b.eval x := by
  cases x with
  | tmp t => simp [Act.eval, h t rfl]
  | _ => rfl
theorem looks_move {j : Nat} {o : Oper} {x : Operand} {d : Nat} (h : l[j]? = some o) (ho : o.op = .move x) (hx : x = .tmp d) : d ∈ looksOf l j := by
  subst hx
  simp [looksOf, h, Oper.looksAt, ho, Op.operands]

def late (n : Nat) (listed : Array Bool) : Nat := (List.range n).countP fun j => !listed.getD j false
theorem late_set {listed : Array Bool} {i : Nat} (hi : i < n) (hs : i < listed.size) (h1 : listed.getD i false = false) : late n (listed.setIfInBounds i true) + 1 = late n listed := by
  unfold late
  have e1 : ∀ m, m ≤ i → (List.range m).countP (fun j => !(listed.setIfInBounds i true).getD j false) = (List.range m).countP (fun j => !listed.getD j false) := by
    intro m hm
    refine List.countP_congr fun j hj => ?_
    rw [getD_set_ne false (by have := List.mem_range.1 hj; omega)]
  have e2 : ∀ d, i + 1 + d ≤ n → (List.range (i + 1 + d)).countP (fun j => !(listed.setIfInBounds i true).getD j false) + 1 = (List.range (i + 1 + d)).countP (fun j => !listed.getD j false) := by
    intro d
    induction d with
    | zero =>
      intro _
      rw [Nat.add_zero, List.range_succ, List.countP_append, List.countP_append, e1 i (Nat.le_refl _)]
      have g1 : (listed.setIfInBounds i true).getD i false = true := getD_set_self hs _
      simp only [List.countP_cons, List.countP_nil, g1, h1]
      simp
    | succ d ih =>
      intro hd
      rw [show i + 1 + (d + 1) = (i + 1 + d) + 1 by omega, List.range_succ, List.countP_append, List.countP_append, ← ih (by omega)]
      have : (listed.setIfInBounds i true).getD (i + 1 + d) false = listed.getD (i + 1 + d) false := getD_set_ne false (by omega)
      simp only [List.countP_cons, List.countP_nil, this]
      omega
  have := e2 (n - (i + 1)) (by omega)
  rw [show i + 1 + (n - (i + 1)) = n by omega] at this
  omega
theorem late_zero {listed : Array Bool} (h : late n listed = 0) : ∀ j, j < n → listed.getD j false = true := fun j hj => by
  have := List.countP_eq_zero.1 h j (List.mem_range.2 hj)
  simpa using this

/-- Behind the first ones: one by one, and copies. -/
theorem any_tail {SS : Nat → Prop} (hk : HeadOk l n SS) (hQ : ∀ c (t t' : Array Value) (ds : List Deferred) w, Q (.panic c) ⟨t', ds⟩ w → Q (.panic c) ⟨t, ds⟩ w) {vs : Nat → Value} : ∀ (g k : Nat) (listed : Array Bool) (a b : Act) (w : World),
    (l.length - k) + late n listed = g → n ≤ k → k ≤ l.length → Down l listed → (∀ j, n ≤ j → (listed.getD j false = true ↔ j < k)) → (∀ j, j < n → listed.getD j false = false → ¬ SS j) → Lags l n vs listed a b →
    wpList P l.toArray Q (l.drop k) b w → wpAny P .any l.toArray Q g listed a w
  | 0, k, listed, a, b, w, hg, hn, hkl, hD, hL, hF, hR, h => by
    have hall := late_zero (n := n) (listed := listed) (by omega)
    have hr : Region.ready .any l.toArray listed = [] := by
      apply List.eq_nil_iff_forall_not_mem.2
      intro i hi
      obtain ⟨h0, h1, _⟩ := ready_iff.1 hi
      have : listed.getD i false = true := by
        rcases Nat.lt_or_ge i n with h | h
        · exact hall i h
        · exact (hL i h).2 (by omega)
      rw [getD_tf (by rw [hD.size]; omega) false true, h1] at this
      cases this
    have hab : a = b := by
      have h1 : a.tmps = b.tmps := Array.ext_getElem? fun d => hR.same d fun j hj hl => by rw [hall j hj] at hl; cases hl
      have h2 := hR.defers
      cases a; cases b; simp_all
    subst hab
    refine ⟨hr, ?_⟩
    rw [List.drop_eq_nil_of_le (by omega)] at h
    exact h
  | g + 1, k, listed, a, b, w, hg, hn, hkl, hD, hL, hF, hR, h => by
    have hex : ∃ i, i < l.length ∧ listed.getD i true = false := by
      by_cases hk' : k < l.length
      · refine ⟨k, hk', ?_⟩
        rw [getD_tf (by rw [hD.size]; omega) true false]
        cases e : listed.getD k false with
        | false => rfl
        | true => have := (hL k hn).1 e; omega
      · have hpos : 0 < late n listed := by omega
        obtain ⟨j, hj, hj'⟩ := List.countP_pos_iff.1 hpos
        have hj := List.mem_range.1 hj
        have := hk.le
        exact ⟨j, by omega, by rw [getD_tf (show j < listed.size by rw [hD.size]; omega) true false]; simpa using hj'⟩
    obtain ⟨i0, hi0, hi1⟩ := hex
    obtain ⟨m0, _, hm0⟩ := hD.least hk i0 hi0 hi1
    refine ⟨fun h0 => (by rw [h0] at hm0; cases hm0), fun i hi => ?_⟩
    obtain ⟨hil, h1, h2⟩ := ready_iff.1 hi
    have hsz : i < listed.size := by rw [hD.size]; omega
    have h1' : listed.getD i false = false := by rw [getD_tf hsz false true]; exact h1
    rcases Nat.lt_or_ge i n with hin | hin
    · -- a copy comes up
      obtain ⟨o, x, ho, hop, hgd, hx⟩ := hR.move i hin h1'
      have ho' : l.toArray[i]? = some o := by simpa using ho
      have hdo : dstOf l i = o.dst := by simp [dstOf, ho]
      unfold wpOp
      simp only [ho']
      rw [if_pos (by simp [Region.wanted, hgd])]
      refine .inl ?_
      unfold Oper.wp
      rw [show (execOp a.eval o).run P w = .ok (.value (a.eval x)) w by rw [BigFrame.run_move x hop]]
      simp only [Oper.upon, hx]
      refine any_tail hk hQ (vs := vs) g k _ _ b w (by have := late_set hin hsz h1'; omega) hn hkl (hD.put hi) (fun j hj => by rw [getD_set_ne false (by omega)]; exact hL j hj) (fun j hj hl => ?_) ?_ h
      · by_cases hij : i = j
        · subst hij; exact hF i hin h1'
        · rw [getD_set_ne false hij] at hl; exact hF j hj hl
      · have hlate : ∀ j, (listed.setIfInBounds i true).getD j false = false → listed.getD j false = false ∧ j ≠ i := fun j hl => by
          by_cases hij : i = j
          · subst hij; rw [getD_set_self hsz] at hl; cases hl
          · rw [getD_set_ne false hij] at hl; exact ⟨hl, fun e => hij e.symm⟩
        refine ⟨by rw [show (a.put o.dst (vs i)).defers = a.defers by cases o.dst <;> rfl]; exact hR.defers, by rw [show (a.put o.dst (vs i)).tmps.size = a.tmps.size by cases o.dst <;> simp [Act.put]]; exact hR.size, fun d hall => ?_, fun j hj hl d hd hlt => hR.late j hj (hlate j hl).1 d hd hlt, fun j hj hl => ?_⟩
        · cases hd : o.dst with
          | none =>
            refine hR.same d fun j hj hl => ?_
            by_cases hij : j = i
            · subst hij; rw [hdo, hd]; simp
            · exact hall j hj (by rw [getD_set_ne false (Ne.symm hij)]; exact hl)
          | some e =>
            by_cases hed : e = d
            · subst hed
              by_cases hlt : e < b.tmps.size
              · rw [hR.late i hin h1' e (by rw [hdo, hd]) hlt]
                have : e < a.tmps.size := by rw [hR.size]; exact hlt
                simp [Act.put, this]
              · have q1 : b.tmps.size ≤ e := Nat.le_of_not_lt hlt
                rw [Array.getElem?_eq_none q1, Array.getElem?_eq_none (by simp [Act.put, hR.size]; exact q1)]
            · simp only [Act.put, Array.getElem?_setIfInBounds_ne hed]
              refine hR.same d fun j hj hl => ?_
              by_cases hij : j = i
              · subst hij; rw [hdo, hd]; simpa using hed
              · exact hall j hj (by rw [getD_set_ne false (Ne.symm hij)]; exact hl)
        · obtain ⟨hl', hji⟩ := hlate j hl
          obtain ⟨oj, xj, hoj, hopj, hgdj, hxj⟩ := hR.move j hj hl'
          refine ⟨oj, xj, hoj, hopj, hgdj, ?_⟩
          rw [← hxj]
          refine eval_same fun d hd => ?_
          have hlook := looks_move hoj hopj hd
          cases hd' : o.dst with
          | none => rfl
          | some e =>
            have hed : e ≠ d := by
              intro hed
              have hf := hk.flt j hj (hF j hj hl')
              simp only [floatB, hoj, Bool.and_eq_true, List.all_eq_true, List.mem_range] at hf
              have := hf.2 i hin
              rw [hdo, hd'] at this
              simp [hed] at this
              exact this hlook
            simp [Act.put, Array.getElem?_setIfInBounds_ne hed]
    · -- the next one of the others
      have hik : i = k := by
        rcases Nat.lt_trichotomy i k with h3 | h3 | h3
        · rw [(hL i hin).2 h3] at h1'; cases h1'
        · exact h3
        · obtain ⟨m, rfl⟩ : ∃ m, i = m + 1 := ⟨i - 1, by omega⟩
          have := (hL m (by omega)).1 (h2 m (hk.chain m (by omega) hil))
          omega
      subst hik
      have h0 : l[i]? = some l[i] := List.getElem?_eq_getElem hil
      have hdo : dstOf l i = l[i].dst := by simp [dstOf, h0]
      have hlk : looksOf l i = l[i].looksAt l.toArray := by simp [looksOf, h0]
      have hapart : ∀ j, j < n → listed.getD j false = false → (∀ d, dstOf l j = some d → d ∉ looksOf l i ∧ dstOf l i ≠ some d) ∧ (∀ d, dstOf l i = some d → d ∉ looksOf l j) := fun j hj hl =>
        hk.tail i j hin hil hj (hF j hj hl) fun he => by rw [h2 j he] at hl; cases hl
      have hlook : ∀ d, d ∈ l[i].looksAt l.toArray → a.tmps[d]? = b.tmps[d]? := fun d hd => hR.same d fun j hj hl hjd => ((hapart j hj hl).1 d hjd).1 (by rw [hlk]; exact hd)
      have hsel : ∀ cs b, l[i].op ≠ .select cs b := fun cs b => Region.noSelect_spec hk.sel i _ cs b (by simpa using h0)
      have he := execOp_same hsel hlook
      have hwa := wanted_same (o := l[i]) hlook
      have hld : ∀ j, j < n → (listed.setIfInBounds i true).getD j false = listed.getD j false := fun j hj => getD_set_ne false (by omega)
      have hnew : ∀ (a' b' : Act) (v : Value), a'.tmps = a.tmps → b'.tmps = b.tmps → a'.defers = b'.defers → Lags l n vs (listed.setIfInBounds i true) (a'.put l[i].dst v) (b'.put l[i].dst v) := fun a' b' v ea eb ed => by
        cases hd : l[i].dst with
        | none =>
          refine ⟨ed, by simp [Act.put, ea, eb, hR.size], fun d hall => ?_, fun j hj hl d hjd hlt => ?_, fun j hj hl => ?_⟩
          · simp only [Act.put, ea, eb]
            exact hR.same d fun j hj hl => hall j hj (by rw [hld j hj]; exact hl)
          · simp only [Act.put, eb] at hlt ⊢
            exact hR.late j hj (by rw [← hld j hj]; exact hl) d hjd hlt
          · obtain ⟨oj, xj, q1, q2, q3, q4⟩ := hR.move j hj (by rw [← hld j hj]; exact hl)
            exact ⟨oj, xj, q1, q2, q3, by rw [← q4]; exact eval_same fun d _ => by simp [Act.put, ea]⟩
        | some e =>
          refine ⟨ed, by simp [Act.put, ea, eb, hR.size], fun d hall => ?_, fun j hj hl d hjd hlt => ?_, fun j hj hl => ?_⟩
          · by_cases hed : e = d
            · subst hed
              simp [Act.put, ea, eb, Array.getElem?_setIfInBounds, hR.size]
            · simp only [Act.put, Array.getElem?_setIfInBounds_ne hed, ea, eb]
              exact hR.same d fun j hj hl => hall j hj (by rw [hld j hj]; exact hl)
          · have hl' : listed.getD j false = false := by rw [← hld j hj]; exact hl
            have hed : e ≠ d := fun h3 => ((hapart j hj hl').1 d hjd).2 (by rw [hdo, hd, h3])
            simp only [Act.put, eb, Array.getElem?_setIfInBounds_ne hed, Array.size_setIfInBounds] at hlt ⊢
            exact hR.late j hj hl' d hjd hlt
          · have hl' : listed.getD j false = false := by rw [← hld j hj]; exact hl
            obtain ⟨oj, xj, q1, q2, q3, q4⟩ := hR.move j hj hl'
            refine ⟨oj, xj, q1, q2, q3, ?_⟩
            rw [← q4]
            refine eval_same fun d hx => ?_
            have hed : e ≠ d := fun h3 => (hapart j hj hl').2 e (by rw [hdo, hd]) (h3 ▸ looks_move q1 q2 hx)
            simp [Act.put, ea, Array.getElem?_setIfInBounds_ne hed]
      have hlate : late n (listed.setIfInBounds i true) = late n listed := by
        unfold late
        exact List.countP_congr fun j hj => by rw [hld j (List.mem_range.1 hj)]
      have go : ∀ (a' b' : Act) w', Lags l n vs (listed.setIfInBounds i true) a' b' → wpList P l.toArray Q (l.drop (i + 1)) b' w' → wpAny P .any l.toArray Q g (listed.setIfInBounds i true) a' w' := fun a' b' w' hR' h' =>
        any_tail hk hQ (vs := vs) g (i + 1) _ a' b' w' (by omega) (by omega) (by omega) (hD.put hi) (fun j hj => by
          by_cases hij : i = j
          · subst hij; simp [getD_set_self hsz]
          · rw [getD_set_ne false hij, hL j hj]; omega) (fun j hj hl => hF j hj (by rw [← hld j hj]; exact hl)) hR' h'
      rw [List.drop_eq_getElem_cons hil] at h
      have ho' : l.toArray[i]? = some l[i] := by simpa using h0
      unfold wpOp
      simp only [ho']
      unfold wpList at h
      rw [hwa]
      split
      · rename_i hw
        rw [if_pos hw] at h
        rcases h with h | ⟨h3, h4⟩
        · refine .inl (wp_rel he hR.defers hQ (fun v w' h' => go _ _ w' (hnew a b v rfl rfl hR.defers) h') (fun d w' h' => go _ _ w' (hnew { a with defers := d :: a.defers } { b with defers := d :: b.defers } undef rfl rfl (by rw [hR.defers])) h') h)
        · refine .inr ⟨?_, h4⟩
          unfold Oper.asks at h3 ⊢
          rw [he]
          exact h3
      · rename_i hw
        rw [if_neg hw] at h
        exact go _ _ w (hnew a b undef rfl rfl hR.defers) h
theorem any_head {SS : Nat → Prop} [DecidablePred SS] (hk : HeadOk l n SS) (hQp : ∀ c (t t' : Array Value) (ds : List Deferred) w, Q (.panic c) ⟨t', ds⟩ w → Q (.panic c) ⟨t, ds⟩ w) {vs : Nat → Value} {ac : Nat → Act} (hv : ∀ i, i < n → ac (i + 1) = (ac i).put (dstOf l i) (vs i) ∧ Vals P l C i (vs i) (ac i))
    (hQ : ∀ w', C w' → wpList P l.toArray Q (l.drop n) (ac n) w') : ∀ (f : Nat) (listed : Array Bool) (a : Act) (w : World), C w → Down l listed → (∀ j, n ≤ j → listed.getD j false = false) →
      Bears l n vs (ac 0) (fun j => listed.getD j false = true) a → late n listed = f → wpAny P .any l.toArray Q (f + (l.length - n)) listed a w := by
  have hlen := hk.le
  have hL : ∀ i, i ≤ n → Bears l n vs (ac 0) (fun j => j < i) (ac i) := by
    intro i
    induction i with
    | zero => exact fun _ => ⟨rfl, rfl, fun j d _ h => absurd h (by omega), fun d _ => rfl⟩
    | succ i ih =>
      intro hi
      rw [(hv i (by omega)).1]
      exact (ih (by omega)).put hk (by omega) (fun j _ => by omega) (by omega)
  -- all that must come up ahead has come up
  have done : ∀ (listed : Array Bool) (a : Act) (w : World), C w → Down l listed → (∀ j, n ≤ j → listed.getD j false = false) → Bears l n vs (ac 0) (fun j => listed.getD j false = true) a →
      (∀ j, j < n → listed.getD j false = false → ¬ SS j) → wpAny P .any l.toArray Q (late n listed + (l.length - n)) listed a w := fun listed a w hC hD hN hB hF => by
    refine any_tail hk hQp (vs := vs) _ n listed a (ac n) w (by omega) (Nat.le_refl _) (by omega) hD (fun j hj => by rw [hN j hj]; simp; omega) hF ?_ (hQ w hC)
    have hfull := hL n (Nat.le_refl _)
    refine ⟨hB.defers.trans hfull.defers.symm, hB.size.trans hfull.size.symm, fun d hall => ?_, fun j hj hl d hd hlt => hfull.new j d hj hj hd (by rw [← hfull.size]; exact hlt), fun j hj hl => ?_⟩
    · refine hB.eq hfull fun j hj hjd => ?_
      cases hl : listed.getD j false with
      | true => simp [hj]
      | false => exact absurd hjd (hall j hj hl)
    · obtain ⟨_, o, ho, hval⟩ := hv j hj
      have hf := hk.flt j hj (hF j hj hl)
      simp only [floatB, ho, Bool.and_eq_true, List.all_eq_true, List.mem_range] at hf
      obtain ⟨⟨hm, hg⟩, hr⟩ := hf
      have hgd : o.guard = none := by simpa using hg
      obtain ⟨x, hx⟩ : ∃ x, o.op = .move x := by
        revert hm
        cases o.op <;> simp
      refine ⟨o, x, ho, hx, hgd, ?_⟩
      have hev : a.eval x = (ac j).eval x := eval_same fun d hd => by
        refine hB.eq (hL j (by omega)) fun i hi hid => ?_
        exfalso
        have := hr i hi
        rw [hid] at this
        simp at this
        exact this (looks_move ho hx hd)
      rw [hev]
      rcases hval with ⟨_, hq⟩ | ⟨hw, _⟩
      · have := hq w hC
        unfold Oper.quietAt at this
        rw [BigFrame.run_move x hx] at this
        exact this.2
      · simp [Region.wanted, hgd] at hw
  intro f
  induction f with
  | zero =>
    intro listed a w hC hD hN hB hf
    have hall := late_zero hf
    have := done listed a w hC hD hN hB fun j hj hl => by rw [hall j hj] at hl; cases hl
    rwa [hf] at this
  | succ f ih =>
    intro listed a w hC hD hN hB hf
    by_cases hF : ∀ j, j < n → listed.getD j false = false → ¬ SS j
    · have := done listed a w hC hD hN hB hF
      rwa [hf] at this
    · obtain ⟨j1, hj1⟩ := Classical.not_forall.1 hF
      obtain ⟨hj1n, hj1'⟩ := Classical.not_imp.1 hj1
      obtain ⟨hj1l, hj1s⟩ := Classical.not_imp.1 hj1'
      have hj1s : SS j1 := Classical.not_not.1 hj1s
      rw [show f + 1 + (l.length - n) = (f + (l.length - n)) + 1 by omega]
      obtain ⟨m, hm, hmr⟩ := hD.least hk j1 (by omega) (by rw [getD_tf (by rw [hD.size]; omega) true false]; exact hj1l)
      refine ⟨fun h0 => (by rw [h0] at hmr; cases hmr), fun i hi => ?_⟩
      obtain ⟨hil, h1, h2⟩ := ready_iff.1 hi
      have h1' : listed.getD i false = false := by rw [getD_tf (by rw [hD.size]; omega) false true]; exact h1
      have hin : i < n := by
        rcases Nat.lt_or_ge i n with h | h
        · exact h
        · exfalso
          have key : ∀ d, n + d = i → False := by
            intro d hd
            match d, hd with
            | 0, hd =>
              have : i = n := by omega
              subst this
              have := hD.under hk h2 (i - j1) j1 (by omega) hj1s
              rw [hj1l] at this
              cases this
            | d + 1, hd =>
              have := h2 (n + d) (by have := hk.chain (n + d) (by omega) (by omega); rw [show n + d + 1 = i by omega] at this; exact this)
              rw [hN (n + d) (by omega)] at this
              cases this
          exact key (i - n) (by omega)
      obtain ⟨hnext, o, ho, hval⟩ := hv i hin
      have hlook : ∀ d, d ∈ o.looksAt l.toArray → a.tmps[d]? = (ac i).tmps[d]? := fun d hd => by
        refine hB.eq (hL i (by omega)) fun j hj hjd => ?_
        by_cases hji : j = i
        · subst hji; simp [h1']
        · have hmem := hk.reads i j d hin hj (Ne.symm hji) hjd (by simpa [looksOf, ho] using hd)
          have := hk.back i j hmem
          simp [h2 j hmem, this]
      have hsel : ∀ cs b, o.op ≠ .select cs b := fun cs b => Region.noSelect_spec hk.sel i o cs b (by simpa using ho)
      have hex := execOp_same hsel hlook
      have hwa := wanted_same (o := o) hlook
      have hdo : dstOf l i = o.dst := by simp [dstOf, ho]
      have hsz : i < listed.size := by rw [hD.size]; omega
      have go : ∀ w', C w' → wpAny P .any l.toArray Q (f + (l.length - n)) (listed.setIfInBounds i true) (a.put o.dst (vs i)) w' := fun w' hw' => by
        refine ih _ _ w' hw' (hD.put hi) (fun j hj => by rw [getD_set_ne false (by omega)]; exact hN j hj) ?_ (by have := late_set hin hsz h1'; omega)
        rw [← hdo]
        refine hB.put hk hin (fun j hj => ?_) (by simp [h1'])
        by_cases hij : i = j
        · subst hij; simp [getD_set_self hsz]
        · rw [getD_set_ne false hij]
          constructor
          · exact fun h => .inl h
          · rintro (h | rfl)
            · exact h
            · exact absurd rfl hij
      have ho' : l.toArray[i]? = some o := by simpa using ho
      unfold wpOp
      simp only [ho']
      rcases hval with ⟨hw1, hq⟩ | ⟨hw1, hu⟩
      · rw [if_pos (hwa.trans hw1)]
        refine .inl (Oper.wp_of_quiet (C := C) (K := fun a' => a' = a.put o.dst (vs i)) hC (fun a' w' hw' e => by rw [e]; exact go w' hw') ⟨vs i, fun w' hw' => ?_, rfl⟩)
        have := hq w' hw'
        unfold Oper.quietAt at this ⊢
        rw [hex]
        exact this
      · rw [if_neg (by rw [hwa, hw1]; simp), ← hu]
        exact go w hC

/-- THE LAW. -/
theorem wp_region_head (C : World → Prop) (n : Nat) {id : Nat} {a : Act} {w : World} (hm : P.follows .mixedOrders = true) (hB : headB l n = true) (hQp : ∀ c (t t' : Array Value) (ds : List Deferred) w, Q (.panic c) ⟨t', ds⟩ w → Q (.panic c) ⟨t, ds⟩ w) (hC : C w.drew)
    (h : wpQuiet P l.toArray C (fun a' => ∀ w', C w' → wpList P l.toArray Q (l.drop n) a' w') (l.take n) a) : (Code.region id l.toArray true).wp P Q a w := by
  have hk := headB_ok hB
  have hle := hk.le
  obtain ⟨vs, ac, h0, hs, hQ⟩ := vals_of_quiet (l := l) n 0 a (by omega) (by simpa using h)
  subst h0
  rw [Nat.zero_add] at hQ
  refine wp_region_any hm ?_
  have hf : late n (Array.replicate l.toArray.size false) = n := by
    unfold late
    have : (List.range n).countP (fun j => !(Array.replicate l.toArray.size false).getD j false) = (List.range n).length := by
      refine List.countP_eq_length.2 fun j hj => ?_
      have := List.mem_range.1 hj
      simp [show j < l.length by omega]
    simpa using this
  have hfalse : ∀ j, (Array.replicate l.toArray.size false).getD j false = false := fun j => by
    rw [Array.getD_eq_getD_getElem?, Array.getElem?_replicate]
    split <;> rfl
  have := any_head (C := C) (Q := Q) hk hQp (fun i hi => hs i (Nat.zero_le _) (by omega)) hQ n (Array.replicate l.toArray.size false) (ac 0) w.drew hC
    ⟨by simp, fun i hi => (by rw [hfalse] at hi; cases hi)⟩ (fun j _ => hfalse j)
    ⟨rfl, rfl, fun j d _ hj => (by rw [hfalse] at hj; cases hj), fun d _ => rfl⟩ hf
  rw [show n + (l.length - n) = l.toArray.size by simp; omega] at this
  exact this
end
end Go.Proofs.YtlpkimpdeeiaaaaGreat
