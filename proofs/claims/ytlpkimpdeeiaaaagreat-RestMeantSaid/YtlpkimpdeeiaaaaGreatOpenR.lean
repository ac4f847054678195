/- Arguments that are structs, opened: their cells; rows of elements of several cells each. -/
import Derived.Test.YtlpkimpdeeiaaaaGreatOpen
import Derived.OpenShut
namespace Go.Proofs.YtlpkimpdeeiaaaaGreat
open Go.ChangeShapes Go.WideShapes Go.RowKit
set_option linter.unusedVariables false
set_option linter.unusedSimpArgs false
set_option linter.unnecessarySimpa false
section
variable {H : Type} {enc : TypeId × Value → H} {P : Program} {w : World} {base : Nat} {held : Bool}
/-- A slice of elements of several cells each. -/
theorem open_rows {α : Type} {en : α → List Value} {sz : Nat} (hen : ∀ y, (en y).length = sz) (hpos : 0 < sz) {t e : TypeId} {v : Value} {d : DataW H} {ps : List MemPlace} (ht : P.underlying t = some (.slice e)) (hC : P.cellsOf e = sz)
    (hcell : ∀ (m : Nat) (cs : List Value) (x : DataW H × List MemPlace), DataW.trod enc P w base (fun _ => true) held m e cs = some x → ∃ y, cs = en y) (hv : v.cells = #[v])
    (h : DataW.Trod enc P w base (fun _ => true) held t v d ps) : ∃ L : List α, Rd (World.mm w) sz v L.length (L.flatMap en) := by
  obtain ⟨fuel, hf⟩ := h
  rcases Deep.open_slice ht hf with ⟨h1, _⟩ | ⟨a, len, cap, m, n, D, Pl, h1, _, hle, hm, hmm, _, hi⟩
  · rw [hv] at h1
    have : v = .slice none 0 0 := by simpa using h1
    subst this
    exact ⟨[], Rd.nil _ _ _⟩
  · rw [hv] at h1
    have : v = .slice (some a) len cap := by simpa using h1
    subst this
    have hm' : m = cap := by simpa using hmm
    subst hm'
    have key : ∀ i, i < len → ∃ y, ∀ j, j < sz → w.cell? (a.add (i * sz + j)) = (en y)[j]? := by
      intro i hil
      obtain ⟨cs', hcs, htr⟩ := hi i (by omega)
      rw [hC] at hcs
      obtain ⟨y, rfl⟩ := hcell n cs' _ htr
      obtain ⟨_, hcl, hat⟩ := World.cells?_some hcs
      refine ⟨y, fun j hj => ?_⟩
      rw [← Deep.add_add]
      exact hat j (by omega)
    cases len with
    | zero => exact ⟨[], by simpa using ⟨by simp, some a, m, rfl, Nat.zero_le _, fun h => absurd h (by omega)⟩⟩
    | succ len =>
      have L : List α := []
      obtain ⟨y0, _⟩ := key 0 (by omega)
      let f : Nat → α := fun i => if h : i < len + 1 then (key i h).choose else y0
      have hf2 : ∀ i, i < len + 1 → ∀ j, j < sz → w.cell? (a.add (i * sz + j)) = (en (f i))[j]? := fun i hi => by
        show ∀ j, j < sz → w.cell? (a.add (i * sz + j)) = (en (if h : i < len + 1 then (key i h).choose else y0))[j]?
        rw [dif_pos hi]
        exact (key i hi).choose_spec
      refine ⟨(List.range (len + 1)).map f, ?_⟩
      have hln : ((List.range (len + 1)).map f).length = len + 1 := by simp
      rw [hln]
      refine rd_of_cells (by rw [flat_length hen, hln]) hle hpos fun q u hq => ?_
      have hq' := (List.getElem?_eq_some_iff.1 hq).1
      rw [flat_length hen, hln] at hq'
      obtain ⟨i, j, rfl, hil, hjl⟩ : ∃ i j, q = i * sz + j ∧ i < len + 1 ∧ j < sz :=
        ⟨q / sz, q % sz, by rw [Nat.mul_comm]; exact (Nat.div_add_mod _ _).symm, Nat.div_lt_of_lt_mul (by rw [Nat.mul_comm]; exact hq'), Nat.mod_lt _ hpos⟩
      rw [flat_get hen _ i (f i) (by simp [hil]) j hjl] at hq
      rw [hf2 i hil j hjl, hq]
end
section
variable {H : Type} {enc : TypeId × Value → H} {w : World} {base : Nat} {held : Bool}
theorem one_int {spare : Nat → Bool} {k : IntKind} {n : Nat} {t : TypeId} {a : Value} {x : Option (DataW H × List MemPlace)} (hu : Tryz.prog.underlying t = some (.int k)) (h : DataW.trod enc Tryz.prog w base spare held n t [a] = x) (hx : x.isSome = true) : ∃ z, a = .int k z := by
  cases hx' : x with
  | none => rw [hx'] at hx; cases hx
  | some y =>
    rw [hx'] at h
    obtain ⟨z, hz, _⟩ := DataW.trod_int hu h
    simp only [List.cons.injEq, and_true] at hz
    exact ⟨z, hz⟩
theorem one_str {spare : Nat → Bool} {n : Nat} {t : TypeId} {a : Value} {x : Option (DataW H × List MemPlace)} (hu : Tryz.prog.underlying t = some .string) (h : DataW.trod enc Tryz.prog w base spare held n t [a] = x) (hx : x.isSome = true) : ∃ z, a = .string z := by
  cases hx' : x with
  | none => rw [hx'] at hx; cases hx
  | some y =>
    rw [hx'] at h
    obtain ⟨z, hz, _⟩ := DataW.trod_string hu h
    simp only [List.cons.injEq, and_true] at hz
    exact ⟨z, hz⟩
theorem pick_u {ts : List Nat} {i t : Nat} {Q : Nat → Prop} (h : ∃ u, ts[i % ts.length]? = some u ∧ Q u) (ht : ts[i % ts.length]? = some t) : Q t := by
  obtain ⟨u, h1, h2⟩ := h
  rw [ht] at h1
  cases h1
  exact h2
theorem slice_cell {P : Program} {r : Reach} {b : Nat} {t e : TypeId} {v : Value} (hu : P.underlying t = some (.slice e)) (hv : Cell.okWide P w r b t v) : v.cells = #[v] := by
  unfold Cell.okWide at hv
  rw [hu] at hv
  cases v <;> first | rfl | (simp [Cell.ok, hu] at hv)
theorem int_cell {P : Program} {r : Reach} {b : Nat} {t : TypeId} {k : IntKind} {v : Value} (hu : P.underlying t = some (.int k)) (hv : Cell.okWide P w r b t v) : ∃ z, v = .int k z := by
  unfold Cell.okWide at hv
  rw [hu] at hv
  cases v <;> simp [Cell.ok, hu] at hv
  obtain ⟨rfl, _⟩ := hv
  exact ⟨_, rfl⟩
theorem str_cell {P : Program} {r : Reach} {b : Nat} {t : TypeId} {v : Value} (hu : P.underlying t = some .string) (hv : Cell.okWide P w r b t v) : ∃ z, v = .string z := by
  unfold Cell.okWide at hv
  rw [hu] at hv
  cases v <;> simp [Cell.ok, hu] at hv
  exact ⟨_, rfl⟩
theorem bool_cell {P : Program} {r : Reach} {b : Nat} {t : TypeId} {v : Value} (hu : P.underlying t = some .bool) (hv : Cell.okWide P w r b t v) : ∃ z, v = .bool z := by
  unfold Cell.okWide at hv
  rw [hu] at hv
  cases v <;> simp [Cell.ok, hu] at hv
  exact ⟨_, rfl⟩
end
end Go.Proofs.YtlpkimpdeeiaaaaGreat
