/- Layer 16, plain: opers, orders of their places, and the map of places. -/
import Derived.Test.YtjnhklhgcbknkaaGreatDoorMapI
namespace Go.Proofs.YtjnhklhgcbknkaaGreatDoor
set_option linter.unusedVariables false
set_option linter.unusedSimpArgs false
set_option linter.unnecessarySimpa false
/-- An oper: thread; op, level, key, pair, handle, reg; error, pair, handle, n, key; from, to. -/
structure OpS where
  th : Int
  op : Int
  lv : Int
  ky : Int
  pa : Int
  pb : Int
  ha : Int
  rg : Int
  er : Int
  qa : Int
  qb : Int
  hb : Int
  nn : Int
  kb : Int
  fr : Int
  tt : Int
def OpS.row (y : OpS) : Array Value := #[.int .i64 y.th, .int .i64 y.op, .int .i64 y.lv, .int .i64 y.ky, .int .u64 y.pa, .int .u64 y.pb, .int .u64 y.ha, .int .i64 y.rg, .int .i64 y.er, .int .u64 y.qa, .int .u64 y.qb, .int .u64 y.hb, .int .i64 y.nn, .int .i64 y.kb, .int .i64 y.fr, .int .i64 y.tt]
def encO (y : OpS) : List Value := y.row.toList
def OpS.ahead (a b : OpS) : Bool := decide (0 ≤ a.tt) && decide (a.tt < b.fr)
/-- At which place of an order, from 1 on, a number stands first; 0: at none. -/
def posO (n : Int) : List Int → Nat
  | [] => 0
  | x :: r => if x = n then 1 else if posO n r = 0 then 0 else posO n r + 1
theorem posO_none (n : Int) : ∀ l : List Int, (∀ (j : Nat) (x : Int), l[j]? = some x → x ≠ n) → posO n l = 0
  | [], _ => rfl
  | x :: r, h => by
    have h0 := h 0 x rfl
    have ih := posO_none n r fun j y hy => h (j + 1) y (by simpa using hy)
    simp [posO, h0, ih]
theorem posO_hit (n : Int) : ∀ (l : List Int) (i : Nat), l[i]? = some n → (∀ (j : Nat) (x : Int), j < i → l[j]? = some x → x ≠ n) → posO n l = i + 1
  | [], i, h, _ => by simp at h
  | x :: r, 0, h, _ => by
    have : x = n := by simpa using h
    simp [posO, this]
  | x :: r, i + 1, h, hb => by
    have h0 := hb 0 x (by omega) rfl
    have ih := posO_hit n r i (by simpa using h) fun j y hj hy => hb (j + 1) y (by omega) (by simpa using hy)
    simp [posO, h0, ih]
theorem posO_at (n : Int) : ∀ l : List Int, posO n l ≠ 0 → l[posO n l - 1]? = some n
  | [], h => absurd rfl h
  | x :: r, h => by
    unfold posO at h ⊢
    by_cases e : x = n
    · simp [e]
    · rw [if_neg e] at h ⊢
      by_cases h0 : posO n r = 0
      · rw [if_pos h0] at h; exact absurd rfl h
      · rw [if_neg h0]
        have ih := posO_at n r h0
        rw [show posO n r + 1 - 1 = (posO n r - 1) + 1 by omega, List.getElem?_cons_succ]
        exact ih
theorem posO_le (n : Int) : ∀ (l : List Int) (i : Nat), l[i]? = some n → 0 < posO n l ∧ posO n l ≤ i + 1
  | [], i, h => by simp at h
  | x :: r, i, h => by
    unfold posO
    by_cases e : x = n
    · rw [if_pos e]; omega
    · rw [if_neg e]
      cases i with
      | zero => exact absurd (by simpa using h) e
      | succ i =>
        have ih := posO_le n r i (by simpa using h)
        rw [if_neg (by omega)]
        omega
theorem hasI_app (k : Int) (y : EntI) : ∀ es : List EntI, hasI k (es ++ [y]) = (hasI k es || k == y.k)
  | [] => by simp [hasI]
  | x :: r => by simp [hasI, hasI_app k y r, Bool.or_assoc]
theorem valI_none (k : Int) : ∀ es : List EntI, hasI k es = false → valI k es = 0
  | [], _ => rfl
  | x :: r, h => by
    unfold hasI at h
    simp only [Bool.or_eq_false_iff] at h
    unfold valI
    rw [if_neg (by rw [h.1]; exact Bool.false_ne_true), valI_none k r h.2]
theorem valI_some (k : Int) : ∀ es : List EntI, hasI k es = true → ∃ x ∈ es, x.k = k ∧ valI k es = x.v
  | [], h => by cases h
  | x :: r, h => by
    unfold hasI at h
    unfold valI
    cases hx : (k == x.k)
    · rw [hx, Bool.false_or] at h
      obtain ⟨y, hy, h1, h2⟩ := valI_some k r h
      exact ⟨y, List.mem_cons.2 (Or.inr hy), h1, by simpa using h2⟩
    · exact ⟨x, List.mem_cons.2 (Or.inl rfl), (beq_iff_eq.1 hx).symm, by simp⟩
/-- What the map of places has behind i places of an order. -/
structure PlI (n : Nat) (order : List Int) (i : Nat) (es : List EntI) : Prop where
  born : es.map (·.born) = List.range es.length
  len : es.length ≤ i
  mem : ∀ x ∈ es, 0 ≤ x.k ∧ x.k < (n : Int) ∧ x.v = (posO x.k order : Int) ∧ 0 < x.v ∧ x.v ≤ (i : Int)
  all : ∀ k : Int, 0 ≤ k → k < (n : Int) → 0 < posO k order → posO k order ≤ i → hasI k es = true
theorem PlI.first (n : Nat) (order : List Int) : PlI n order 0 [] := ⟨rfl, Nat.le_refl _, fun x hx => (by cases hx), fun k _ _ h1 h2 => by omega⟩
theorem PlI.val {n : Nat} {order : List Int} {i : Nat} {es : List EntI} (h : PlI n order i es) (k : Int) (h0 : 0 ≤ k) (hn : k < (n : Int)) : valI k es = if posO k order ≤ i then (posO k order : Int) else 0 := by
  cases hh : hasI k es
  · rw [valI_none k es hh]
    split
    · rename_i hle
      by_cases hp : 0 < posO k order
      · rw [h.all k h0 hn hp hle] at hh; cases hh
      · omega
    · rfl
  · obtain ⟨x, hx, rfl, hv⟩ := valI_some k es hh
    obtain ⟨_, _, h3, h4, h5⟩ := h.mem x hx
    rw [hv, h3]
    rw [if_pos (by omega)]
theorem PlI.born_lt {n : Nat} {order : List Int} {i : Nat} {es : List EntI} (h : PlI n order i es) : ∀ x ∈ es, x.born < es.length := fun x hx => by
  have : x.born ∈ es.map (·.born) := List.mem_map.2 ⟨x, hx, rfl⟩
  rw [h.born] at this
  exact List.mem_range.1 this
theorem PlI.nodup {n : Nat} {order : List Int} {i : Nat} {es : List EntI} (h : PlI n order i es) : (es.map (·.born)).Nodup := by rw [h.born]; exact List.nodup_range
/-- A place is put down. -/
theorem PlI.put {n : Nat} {order : List Int} {i : Nat} {es : List EntI} (h : PlI n order i es) {x : Int} (hx : order[i]? = some x) (h0 : 0 ≤ x) (hn : x < (n : Int)) (hv : ¬ 0 < valI x es) :
    hasI x es = false ∧ posO x order = i + 1 ∧ PlI n order (i + 1) (putI x ((i : Int) + 1) es.length es) := by
  obtain ⟨hp, hle⟩ := posO_le x order i hx
  rw [h.val x h0 hn] at hv
  have hpe : posO x order = i + 1 := by
    split at hv <;> omega
  have hh : hasI x es = false := by
    cases hc : hasI x es with
    | false => rfl
    | true =>
      obtain ⟨y, hy, rfl, _⟩ := valI_some x es hc
      obtain ⟨_, _, h3, _, h5⟩ := h.mem y hy
      omega
  refine ⟨hh, hpe, ?_⟩
  rw [putI_none x _ _ es hh]
  refine ⟨by simp [h.born, List.range_succ], by simpa using h.len, fun y hy => ?_, fun k k0 kn kp kl => ?_⟩
  · rcases List.mem_append.1 hy with hy | hy
    · obtain ⟨h1, h2, h3, h4, h5⟩ := h.mem y hy
      exact ⟨h1, h2, h3, h4, by omega⟩
    · have hy := List.mem_singleton.1 hy
      subst hy
      exact ⟨h0, hn, by show (i : Int) + 1 = _; rw [hpe]; omega, by show (0 : Int) < (i : Int) + 1; omega, by show (i : Int) + 1 ≤ _; omega⟩
  · rw [hasI_app]
    by_cases e : posO k order ≤ i
    · rw [h.all k k0 kn kp e]; rfl
    · have h1 := posO_at k order (by omega)
      rw [show posO k order - 1 = i by omega, hx] at h1
      cases h1
      simp
/-- A place is passed over. -/
theorem PlI.pass {n : Nat} {order : List Int} {i : Nat} {es : List EntI} (h : PlI n order i es) {x : Int} (hx : order[i]? = some x) (hv : ¬ (0 ≤ x ∧ x < (n : Int)) ∨ 0 < valI x es) : PlI n order (i + 1) es ∧ (0 ≤ x → x < (n : Int) → posO x order ≠ i + 1) := by
  have hne : 0 ≤ x → x < (n : Int) → posO x order ≠ i + 1 := fun h0 hn e => by
    rcases hv with hv | hv
    · exact hv ⟨h0, hn⟩
    · rw [h.val x h0 hn, if_neg (by omega)] at hv
      omega
  refine ⟨⟨h.born, Nat.le_succ_of_le h.len, fun y hy => ?_, fun k k0 kn kp kl => ?_⟩, hne⟩
  · obtain ⟨h1, h2, h3, h4, h5⟩ := h.mem y hy
    exact ⟨h1, h2, h3, h4, by omega⟩
  · by_cases e : posO k order ≤ i
    · exact h.all k k0 kn kp e
    · have h1 := posO_at k order (by omega)
      rw [show posO k order - 1 = i by omega, hx] at h1
      cases h1
      exact absurd (by omega) (hne k0 kn)
/-- So far each place is one, and none is there twice. -/
def OkO (n : Nat) (order : List Int) (i : Nat) : Prop := ∀ (j : Nat) (x : Int), j < i → order[j]? = some x → 0 ≤ x ∧ x < (n : Int) ∧ posO x order = j + 1
theorem OkO.next {n : Nat} {order : List Int} {i : Nat} {x : Int} (hx : order[i]? = some x) : OkO n order (i + 1) ↔ OkO n order i ∧ 0 ≤ x ∧ x < (n : Int) ∧ posO x order = i + 1 := by
  constructor
  · intro h
    exact ⟨fun j y hj hy => h j y (by omega) hy, h i x (by omega) hx⟩
  · rintro ⟨h1, h2⟩ j y hj hy
    by_cases e : j = i
    · subst e
      rw [hx] at hy
      cases hy
      exact h2
    · exact h1 j y (by omega) hy
/-- 16.1: an order may be. -/
def MayO (l : List OpS) (order : List Int) : Prop := OkO l.length order order.length ∧ ∀ (i : Nat) (o : OpS), l[i]? = some o → ¬ (posO (i : Nat) order = 0 ∧ 0 ≤ o.tt) ∧
  ∀ (j : Nat) (x : Int) (y : OpS), order[j]? = some x → 0 ≤ x → l[x.toNat]? = some y → o.ahead y = true → posO (i : Nat) order ≠ 0 ∧ posO (i : Nat) order ≤ j + 1
/-- 16.2: an oper may come next. -/
def FreeO (l : List OpS) (order : List Int) (i : Nat) : Bool :=
  decide (posO (i : Nat) order = 0) && (List.range l.length).all fun k => !(decide (posO (k : Nat) order = 0) && decide (k ≠ i) && match l[k]?, l[i]? with | some a, some b => a.ahead b | _, _ => false)
def NextO (l : List OpS) (order : List Int) : List Int := ((List.range l.length).filter (FreeO l order)).map fun (i : Nat) => (i : Int)
end Go.Proofs.YtjnhklhgcbknkaaGreatDoor
