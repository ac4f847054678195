/- A script as an argument, opened. -/
import Derived.Test.YtlgnknaffnnkkaaWevP
import Derived.Test.YtlgnknaffnnkkaaOpen
import Derived.OpenShut
namespace Go.Proofs.Ytlgnknaffnnkkaa
open Go.ChangeShapes Go.WideShapes Go.RowKit
set_option linter.unusedVariables false
set_option linter.unusedSimpArgs false
set_option linter.unnecessarySimpa false
theorem cellsScr : Try.prog.cellsOf 29 = 23 := by kernel_rfl
theorem typesScr : Try.prog.cellTypes Try.prog.depth 29 = some (List.replicate 14 3 ++ List.replicate 8 25 ++ [27]) := by kernel_rfl
section
variable {H : Type} {enc : TypeId × Value → H} {P : Program} {w : World} {base : Nat} {held : Bool}
/-- A slice of elements of several cells each. -/
theorem open_rows {α : Type} {en : α → List Value} {sz : Nat} (hen : ∀ y, (en y).length = sz) (hpos : 0 < sz) {t e : TypeId} {v : Value} {d : DataW H} {ps : List MemPlace} (ht : P.underlying t = some (.slice e)) (hC : P.cellsOf e = sz)
    (hcell : ∀ (m : Nat) (cs : List Value) (x : DataW H × List MemPlace), DataW.trod enc P w base (fun _ => true) held m e cs = some x → ∃ y, cs = en y) (hv : v.cells = #[v])
    (h : DataW.Trod enc P w base (fun _ => true) held t v d ps) : ∃ L : List α, Rd (World.mm w) sz v L.length (L.flatMap en) := by
  obtain ⟨fuel, hf⟩ := h
  rcases Deep.open_slice ht hf with ⟨h1, _⟩ | ⟨a, len, cap, m, n, D, Pl, h1, _, hle, hm, hmm, _, hi⟩
  · rw [hv] at h1
    have : v = .slice none 0 0 := by simpa using h1
    subst this
    exact ⟨[], Rd.nil _ _ _⟩
  · rw [hv] at h1
    have : v = .slice (some a) len cap := by simpa using h1
    subst this
    have hm' : m = cap := by simpa using hmm
    subst hm'
    have key : ∀ i, i < len → ∃ y, ∀ j, j < sz → w.cell? (a.add (i * sz + j)) = (en y)[j]? := by
      intro i hil
      obtain ⟨cs', hcs, htr⟩ := hi i (by omega)
      rw [hC] at hcs
      obtain ⟨y, rfl⟩ := hcell n cs' _ htr
      obtain ⟨_, hcl, hat⟩ := World.cells?_some hcs
      refine ⟨y, fun j hj => ?_⟩
      rw [← Deep.add_add]
      exact hat j (by omega)
    cases len with
    | zero => exact ⟨[], by simpa using ⟨by simp, some a, m, rfl, Nat.zero_le _, fun h => absurd h (by omega)⟩⟩
    | succ len =>
      have L : List α := []
      obtain ⟨y0, _⟩ := key 0 (by omega)
      let f : Nat → α := fun i => if h : i < len + 1 then (key i h).choose else y0
      have hf2 : ∀ i, i < len + 1 → ∀ j, j < sz → w.cell? (a.add (i * sz + j)) = (en (f i))[j]? := fun i hi => by
        show ∀ j, j < sz → w.cell? (a.add (i * sz + j)) = (en (if h : i < len + 1 then (key i h).choose else y0))[j]?
        rw [dif_pos hi]
        exact (key i hi).choose_spec
      refine ⟨(List.range (len + 1)).map f, ?_⟩
      have hln : ((List.range (len + 1)).map f).length = len + 1 := by simp
      rw [hln]
      refine rd_of_cells (by rw [flat_length hen, hln]) hle hpos fun q u hq => ?_
      have hq' := (List.getElem?_eq_some_iff.1 hq).1
      rw [flat_length hen, hln] at hq'
      obtain ⟨i, j, rfl, hil, hjl⟩ : ∃ i j, q = i * sz + j ∧ i < len + 1 ∧ j < sz :=
        ⟨q / sz, q % sz, by rw [Nat.mul_comm]; exact (Nat.div_add_mod _ _).symm, Nat.div_lt_of_lt_mul (by rw [Nat.mul_comm]; exact hq'), Nat.mod_lt _ hpos⟩
      rw [flat_get hen _ i (f i) (by simp [hil]) j hjl] at hq
      rw [hf2 i hil j hjl, hq]
end
section
variable {H : Type} {enc : TypeId × Value → H} {w : World} {base : Nat} {held : Bool}
theorem one_int {spare : Nat → Bool} {k : IntKind} {n : Nat} {t : TypeId} {a : Value} {x : Option (DataW H × List MemPlace)} (hu : Try.prog.underlying t = some (.int k)) (h : DataW.trod enc Try.prog w base spare held n t [a] = x) (hx : x.isSome = true) : ∃ z, a = .int k z := by
  cases hx' : x with
  | none => rw [hx'] at hx; cases hx
  | some y =>
    rw [hx'] at h
    obtain ⟨z, hz, _⟩ := DataW.trod_int hu h
    simp only [List.cons.injEq, and_true] at hz
    exact ⟨z, hz⟩
theorem call_cells {spare : Nat → Bool} (n : Nat) (cs : List Value) (x : DataW H × List MemPlace) (h : DataW.trod enc Try.prog w base spare held n 55 cs = some x) : ∃ y, cs = encK y := by
  obtain ⟨ys, m, _, _, hl, hyl, hfl⟩ := DataW.trod_struct Try.underlying55 h
  have hl : cs.length = 7 := hl.trans (by kernel_rfl)
  match cs, hl with
  | [a0, a1, a2, a3, a4, a5, a6], _ =>
    have hy : ∀ i, i < 6 → (ys[i]?).isSome = true := fun i hi => by rw [List.getElem?_eq_getElem (by rw [hyl]; exact hi)]; rfl
    obtain ⟨z0, rfl⟩ := one_int Try.underlying3 (hfl 0 _ rfl) (hy 0 (by omega))
    obtain ⟨z1, rfl⟩ := one_int Try.underlying3 (hfl 1 _ rfl) (hy 1 (by omega))
    obtain ⟨z2, rfl⟩ := one_int Try.underlying2 (hfl 2 _ rfl) (hy 2 (by omega))
    obtain ⟨z5, rfl⟩ := one_int Try.underlying51 (hfl 4 _ rfl) (hy 4 (by omega))
    obtain ⟨z6, rfl⟩ := one_int Try.underlying3 (hfl 5 _ rfl) (hy 5 (by omega))
    have h3 := hfl 3 _ rfl
    rw [List.getElem?_eq_getElem (by rw [hyl]; decide)] at h3
    obtain ⟨qs, m', _, _, _, hql, hgl⟩ := DataW.trod_struct Try.underlying53 h3
    have hq : ∀ i, i < 2 → (qs[i]?).isSome = true := fun i hi => by rw [List.getElem?_eq_getElem (by rw [hql]; exact hi)]; rfl
    obtain ⟨z3, rfl⟩ := one_int Try.underlying51 (hgl 0 _ rfl) (hq 0 (by omega))
    obtain ⟨z4, rfl⟩ := one_int Try.underlying51 (hgl 1 _ rfl) (hq 1 (by omega))
    exact ⟨fun i => [z0, z1, z2, z3, z4, z5, z6].getD i 0, rfl⟩
theorem ent_cells {spare : Nat → Bool} (n : Nat) (cs : List Value) (x : DataW H × List MemPlace) (h : DataW.trod enc Try.prog w base spare held n 43 cs = some x) : ∃ y, cs = encE y := by
  obtain ⟨ys, m, _, _, hl, hyl, hfl⟩ := DataW.trod_struct Try.underlying43 h
  have hl : cs.length = 2 := hl.trans (by kernel_rfl)
  match cs, hl with
  | [a0, a1], _ =>
    have hy : ∀ i, i < 2 → (ys[i]?).isSome = true := fun i hi => by rw [List.getElem?_eq_getElem (by rw [hyl]; exact hi)]; rfl
    obtain ⟨z0, rfl⟩ := one_int Try.underlying3 (hfl 0 _ rfl) (hy 0 (by omega))
    obtain ⟨z1, rfl⟩ := one_int Try.underlying3 (hfl 1 _ rfl) (hy 1 (by omega))
    exact ⟨(z0, z1), rfl⟩
theorem slice_cell {P : Program} {r : Reach} {b : Nat} {t e : TypeId} {v : Value} (hu : P.underlying t = some (.slice e)) (hv : Cell.okWide P w r b t v) : v.cells = #[v] := by
  unfold Cell.okWide at hv
  rw [hu] at hv
  cases v <;> first | rfl | (simp [Cell.ok, hu] at hv)
theorem int_cell {P : Program} {r : Reach} {b : Nat} {t : TypeId} {k : IntKind} {v : Value} (hu : P.underlying t = some (.int k)) (hv : Cell.okWide P w r b t v) : ∃ z, v = .int k z := by
  unfold Cell.okWide at hv
  rw [hu] at hv
  cases v <;> simp [Cell.ok, hu] at hv
  obtain ⟨rfl, _⟩ := hv
  exact ⟨_, rfl⟩
theorem open_script {r : Reach} {b : Nat} {v : Value} {d : DataW H} {ps : List MemPlace} (hv : Value.okWide Try.prog w r b 29 v) (h : DataW.Trod enc Try.prog w base (fun _ => true) held 29 v d ps) :
    ∃ c p e P E, v = scrV c p e ∧ RdS (World.mm w) p e P E := by
  have hu := Try.underlying29
  simp only [Value.okWide, hu] at hv
  obtain ⟨cs, rfl, hsz, ts', hts, _, hall⟩ := hv
  rw [typesScr] at hts
  cases hts
  rw [cellsScr] at hsz
  have hI : ∀ i, i < 14 → ∃ z, cs[i]? = some (.int .i64 z) := fun i hi => by
    obtain ⟨u, h1, h2⟩ := hall i _ (Array.getElem?_eq_getElem (by omega))
    have : u = 3 := by
      rcases i with _ | _ | _ | _ | _ | _ | _ | _ | _ | _ | _ | _ | _ | _ | i
      all_goals first | omega | (cases h1; rfl)
    subst this
    obtain ⟨z, hz⟩ := int_cell Try.underlying3 h2
    exact ⟨z, by rw [Array.getElem?_eq_getElem (by omega), hz]⟩
  have hS : ∀ t, t < 8 → ∃ x, cs[14 + t]? = some x ∧ x.cells = #[x] := fun t ht => by
    obtain ⟨u, h1, h2⟩ := hall (14 + t) _ (Array.getElem?_eq_getElem (by omega))
    have : u = 25 := by
      rcases t with _ | _ | _ | _ | _ | _ | _ | _ | t
      all_goals first | omega | (cases h1; rfl)
    subst this
    exact ⟨_, Array.getElem?_eq_getElem (by omega), slice_cell Try.underlying25 h2⟩
  have hE : ∃ x, cs[22]? = some x ∧ x.cells = #[x] := by
    obtain ⟨u, h1, h2⟩ := hall 22 _ (Array.getElem?_eq_getElem (by omega))
    have : u = 27 := by cases h1; rfl
    subst this
    exact ⟨_, Array.getElem?_eq_getElem (by omega), slice_cell Try.underlying27 h2⟩
  obtain ⟨fuel, hf⟩ := h
  obtain ⟨xs, n, rfl, _, _, hxl, hfl⟩ := DataW.trod_struct hu hf
  have hPr : ∀ t, t < 8 → ∃ L : List PCall, ∃ x, cs[14 + t]? = some x ∧ Rd (World.mm w) 7 x L.length (L.flatMap encK) := fun t ht => by
    obtain ⟨x, hx, hxc⟩ := hS t ht
    have h1 := hfl 1 _ rfl
    rw [List.getElem?_eq_getElem (by rw [hxl]; decide)] at h1
    obtain ⟨ys, m, _, _, _, hyl, hat⟩ := DataW.trod_array Try.underlying26 h1
    have h2 := hat t ht
    rw [List.getElem?_eq_getElem (by omega)] at h2
    obtain ⟨L, hL⟩ := open_rows (d := ys[t].1) (ps := ys[t].2) encK_len (by omega) Try.underlying25 (by kernel_rfl) call_cells hxc ⟨m, by
      rw [hxc]
      refine Eq.trans ?_ h2
      congr 1
      have e1 : Try.prog.cellsOf 25 = 1 := by kernel_rfl
      have e2 : Try.prog.cellsOf 26 = 8 := by kernel_rfl
      show [x] = ((((cs.toList.drop 14).take (Try.prog.cellsOf 26))).drop (t * Try.prog.cellsOf 25)).take (Try.prog.cellsOf 25)
      rw [e1, e2]
      have hx' : cs.toList[14 + t]? = some x := by simpa using hx
      apply List.ext_getElem?
      intro i
      rw [List.getElem?_take]
      rcases i with _ | i
      · rw [if_pos (by omega), List.getElem?_drop, List.getElem?_take, if_pos (by omega), List.getElem?_drop, show 14 + (t * 1 + 0) = 14 + t by omega, hx']
        rfl
      · rw [if_neg (by omega)]
        rfl⟩
    exact ⟨L, x, hx, hL⟩
  have hEn : ∃ L : List PEnt, ∃ x, cs[22]? = some x ∧ Rd (World.mm w) 2 x L.length (L.flatMap encE) := by
    obtain ⟨x, hx, hxc⟩ := hE
    have h1 := hfl 2 _ rfl
    rw [List.getElem?_eq_getElem (by rw [hxl]; decide)] at h1
    obtain ⟨L, hL⟩ := open_rows (d := (xs[2]'(by rw [hxl]; decide)).1) (ps := (xs[2]'(by rw [hxl]; decide)).2) encE_len (by omega) Try.underlying27 (by kernel_rfl) ent_cells hxc ⟨n, by
      rw [hxc]
      refine Eq.trans ?_ h1
      congr 1
      have e1 : Try.prog.cellsOf 27 = 1 := by kernel_rfl
      show [x] = ((cs.toList.drop 22).take (Try.prog.cellsOf 27))
      rw [e1]
      have hx' : cs.toList[22]? = some x := by simpa using hx
      apply List.ext_getElem?
      intro i
      rw [List.getElem?_take]
      rcases i with _ | i
      · rw [if_pos (by omega), List.getElem?_drop, hx']
        rfl
      · rw [if_neg (by omega)]
        rfl⟩
    exact ⟨L, x, hx, hL⟩
  obtain ⟨E, e, he, hEr⟩ := hEn
  obtain ⟨C, hC⟩ : ∃ C : Nat → Int, ∀ i, i < 14 → cs[i]? = some (.int .i64 (C i)) := ⟨fun i => if h : i < 14 then (hI i h).choose else 0, fun i hi => by
    simp only [dif_pos hi]
    exact (hI i hi).choose_spec⟩
  obtain ⟨p, hp⟩ : ∃ p : Nat → Value, ∀ t, t < 8 → cs[14 + t]? = some (p t) := ⟨fun t => cs.getD (14 + t) undef, fun t ht => by
    obtain ⟨_, x, hx, _⟩ := hPr t ht
    simp only [Array.getD_eq_getD_getElem?, hx]
    rfl⟩
  have hPr' : ∀ t, t < 8 → ∃ L : List PCall, Rd (World.mm w) 7 (p t) L.length (L.flatMap encK) := fun t ht => by
    obtain ⟨L, x, hx, hr⟩ := hPr t ht
    rw [hp t ht] at hx
    cases hx
    exact ⟨L, hr⟩
  refine ⟨C, p, e, fun t => if h : t < 8 then (hPr' t h).choose else [], E, ?_, ⟨fun t ht => ?_, hEr⟩⟩
  · unfold scrV
    congr 1
    apply Array.ext_getElem?
    intro i
    rcases i with _ | _ | _ | _ | _ | _ | _ | _ | _ | _ | _ | _ | _ | _ | _ | _ | _ | _ | _ | _ | _ | _ | _ | i
    · exact hC 0 (by omega)
    · exact hC 1 (by omega)
    · exact hC 2 (by omega)
    · exact hC 3 (by omega)
    · exact hC 4 (by omega)
    · exact hC 5 (by omega)
    · exact hC 6 (by omega)
    · exact hC 7 (by omega)
    · exact hC 8 (by omega)
    · exact hC 9 (by omega)
    · exact hC 10 (by omega)
    · exact hC 11 (by omega)
    · exact hC 12 (by omega)
    · exact hC 13 (by omega)
    · exact hp 0 (by omega)
    · exact hp 1 (by omega)
    · exact hp 2 (by omega)
    · exact hp 3 (by omega)
    · exact hp 4 (by omega)
    · exact hp 5 (by omega)
    · exact hp 6 (by omega)
    · exact hp 7 (by omega)
    · exact he
    · rw [Array.getElem?_eq_none (by omega), Array.getElem?_eq_none (by rw [scr_size]; omega)]
  · simp only [dif_pos ht]
    exact (hPr' t ht).choose_spec
end
end Go.Proofs.Ytlgnknaffnnkkaa
