/- Law 16: opers as an argument. -/
import Derived.Test.YtigfmnfdphijaaaGreatDoorPfJ
import Derived.Test.YtigfmnfdphijaaaGreatDoorOpenR
import Derived.ChangeMaps5
namespace Go.Proofs.YtigfmnfdphijaaaGreatDoor
open Go.ChangeShapes Go.WideShapes Go.ChangeAt Go.RowKit Go.ChangeMaps
set_option linter.unusedVariables false
set_option linter.unusedSimpArgs false
set_option linter.unnecessarySimpa false
section
variable {H : Type} {enc : TypeId × Value → H} {w : World} {base : Nat} {held : Bool}
set_option maxRecDepth 100000 in
theorem pairO_cells {spare : Nat → Bool} {n : Nat} {cs : List Value} {x : Option (DataW H × List MemPlace)} (h : DataW.trod enc Tryz.prog w base spare held n 31 cs = x) (hx : x.isSome = true) : ∃ a b : Int, cs = [.int .u64 a, .int .u64 b] := by
  obtain ⟨x', rfl⟩ := Option.isSome_iff_exists.1 hx
  obtain ⟨ys, m, _, _, hl, hyl, hfl⟩ := DataW.trod_struct Tryz.underlying31 h
  have hl : cs.length = 2 := hl.trans (by kernel_rfl)
  match cs, hl with
  | [a0, a1], _ =>
    have hy : ∀ i, i < 2 → (ys[i]?).isSome = true := fun i hi => by rw [List.getElem?_eq_getElem (by rw [hyl]; exact hi)]; rfl
    obtain ⟨z0, rfl⟩ := one_int Tryz.underlying29 (hfl 0 _ rfl) (hy 0 (by omega))
    obtain ⟨z1, rfl⟩ := one_int Tryz.underlying29 (hfl 1 _ rfl) (hy 1 (by omega))
    exact ⟨z0, z1, rfl⟩
set_option maxRecDepth 100000 in
theorem callO_cells {spare : Nat → Bool} {n : Nat} {cs : List Value} {x : Option (DataW H × List MemPlace)} (h : DataW.trod enc Tryz.prog w base spare held n 33 cs = x) (hx : x.isSome = true) : ∃ a b c d e f g : Int, cs = (callR a b c d e f g).toList := by
  obtain ⟨x', rfl⟩ := Option.isSome_iff_exists.1 hx
  obtain ⟨ys, m, _, _, hl, hyl, hfl⟩ := DataW.trod_struct Tryz.underlying33 h
  have hl : cs.length = 7 := hl.trans (by kernel_rfl)
  match cs, hl with
  | [a0, a1, a2, a3, a4, a5, a6], _ =>
    have hy : ∀ i, i < 6 → (ys[i]?).isSome = true := fun i hi => by rw [List.getElem?_eq_getElem (by rw [hyl]; exact hi)]; rfl
    obtain ⟨z0, rfl⟩ := one_int Tryz.underlying3 (hfl 0 _ rfl) (hy 0 (by omega))
    obtain ⟨z1, rfl⟩ := one_int Tryz.underlying3 (hfl 1 _ rfl) (hy 1 (by omega))
    obtain ⟨z2, rfl⟩ := one_int Tryz.underlying2 (hfl 2 _ rfl) (hy 2 (by omega))
    obtain ⟨z3, z4, e⟩ := pairO_cells (hfl 3 _ rfl) (hy 3 (by omega))
    obtain ⟨z5, rfl⟩ := one_int Tryz.underlying29 (hfl 4 _ rfl) (hy 4 (by omega))
    obtain ⟨z6, rfl⟩ := one_int Tryz.underlying3 (hfl 5 _ rfl) (hy 5 (by omega))
    have e : [a3, a4] = [Value.int .u64 z3, .int .u64 z4] := e
    cases e
    exact ⟨z0, z1, z2, z3, z4, z5, z6, rfl⟩
set_option maxRecDepth 100000 in
theorem ansO_cells {spare : Nat → Bool} {n : Nat} {cs : List Value} {x : Option (DataW H × List MemPlace)} (h : DataW.trod enc Tryz.prog w base spare held n 36 cs = x) (hx : x.isSome = true) : ∃ a b c d e f : Int, cs = (ansR a b c d e f).toList := by
  obtain ⟨x', rfl⟩ := Option.isSome_iff_exists.1 hx
  obtain ⟨ys, m, _, _, hl, hyl, hfl⟩ := DataW.trod_struct Tryz.underlying36 h
  have hl : cs.length = 6 := hl.trans (by kernel_rfl)
  match cs, hl with
  | [a0, a1, a2, a3, a4, a5], _ =>
    have hy : ∀ i, i < 5 → (ys[i]?).isSome = true := fun i hi => by rw [List.getElem?_eq_getElem (by rw [hyl]; exact hi)]; rfl
    obtain ⟨z0, rfl⟩ := one_int Tryz.underlying34 (hfl 0 _ rfl) (hy 0 (by omega))
    obtain ⟨z1, z2, e⟩ := pairO_cells (hfl 1 _ rfl) (hy 1 (by omega))
    obtain ⟨z3, rfl⟩ := one_int Tryz.underlying29 (hfl 2 _ rfl) (hy 2 (by omega))
    obtain ⟨z4, rfl⟩ := one_int Tryz.underlying3 (hfl 3 _ rfl) (hy 3 (by omega))
    obtain ⟨z5, rfl⟩ := one_int Tryz.underlying2 (hfl 4 _ rfl) (hy 4 (by omega))
    have e : [a1, a2] = [Value.int .u64 z1, .int .u64 z2] := e
    cases e
    exact ⟨z0, z1, z2, z3, z4, z5, rfl⟩
set_option maxRecDepth 100000 in
theorem oper_cells {spare : Nat → Bool} (n : Nat) (cs : List Value) (x : DataW H × List MemPlace) (h : DataW.trod enc Tryz.prog w base spare held n 38 cs = some x) : ∃ y : OpS, cs = encO y := by
  obtain ⟨ys, m, _, _, hl, hyl, hfl⟩ := DataW.trod_struct Tryz.underlying38 h
  have hl : cs.length = 16 := hl.trans (by kernel_rfl)
  match cs, hl with
  | [a0, a1, a2, a3, a4, a5, a6, a7, a8, a9, a10, a11, a12, a13, a14, a15], _ =>
    have hy : ∀ i, i < 5 → (ys[i]?).isSome = true := fun i hi => by rw [List.getElem?_eq_getElem (by rw [hyl]; exact hi)]; rfl
    obtain ⟨z0, rfl⟩ := one_int Tryz.underlying3 (hfl 0 _ rfl) (hy 0 (by omega))
    obtain ⟨b1, b2, b3, b4, b5, b6, b7, e1⟩ := callO_cells (hfl 1 _ rfl) (hy 1 (by omega))
    obtain ⟨c1, c2, c3, c4, c5, c6, e2⟩ := ansO_cells (hfl 2 _ rfl) (hy 2 (by omega))
    obtain ⟨z14, rfl⟩ := one_int Tryz.underlying3 (hfl 3 _ rfl) (hy 3 (by omega))
    obtain ⟨z15, rfl⟩ := one_int Tryz.underlying3 (hfl 4 _ rfl) (hy 4 (by omega))
    have e1 : [a1, a2, a3, a4, a5, a6, a7] = (callR b1 b2 b3 b4 b5 b6 b7).toList := e1
    have e2 : [a8, a9, a10, a11, a12, a13] = (ansR c1 c2 c3 c4 c5 c6).toList := e2
    cases e1
    cases e2
    exact ⟨⟨z0, b1, b2, b3, b4, b5, b6, b7, c1, c2, c3, c4, c5, c6, z14, z15⟩, rfl⟩
theorem cells_one {P : Program} {w : World} {r : Reach} {b : Nat} {t e : TypeId} {v : Value} (hu : P.underlying t = some (.slice e)) (hv : Value.okWide P w r b t v) : v.cells = #[v] := by
  simp only [Value.okWide, hu] at hv
  unfold Cell.okWide at hv
  rw [hu] at hv
  cases v <;> first | rfl | (simp [Cell.ok, hu] at hv)
set_option maxRecDepth 100000 in
theorem open_opers {r : Reach} {b : Nat} {v : Value} {d : DataW H} {ps : List MemPlace} (hv : Value.okWide Tryz.prog w r b 22 v) (h : DataW.Trod enc Tryz.prog w base (fun _ => true) held 22 v d ps) : ∃ L : List OpS, Rd (World.mm w) 16 v L.length (L.flatMap encO) := by
  obtain ⟨L, hL⟩ := open_rows (en := encO) (sz := 16) (fun _ => rfl) (by omega) Tryz.underlying22 (by kernel_rfl) (fun m cs x h => oper_cells m cs x h) (cells_one Tryz.underlying22 hv) h
  exact ⟨L, hL⟩
theorem int1_cells {spare : Nat → Bool} (n : Nat) (cs : List Value) (x : DataW H × List MemPlace) (h : DataW.trod enc Tryz.prog w base spare held n 3 cs = some x) : ∃ y : Int, cs = [Value.int .i64 y] := by
  obtain ⟨z, hz, _⟩ := DataW.trod_int Tryz.underlying3 h
  exact ⟨z, hz⟩
theorem flat_ints (L : List Int) : (L.flatMap fun y => [Value.int .i64 y]) = ints1 L := by
  induction L with
  | nil => rfl
  | cons a L ih =>
    show Value.int .i64 a :: (L.flatMap _) = _
    rw [ih]
    rfl
set_option maxRecDepth 100000 in
theorem open_ints {r : Reach} {b : Nat} {v : Value} {d : DataW H} {ps : List MemPlace} (hv : Value.okWide Tryz.prog w r b 23 v) (h : DataW.Trod enc Tryz.prog w base (fun _ => true) held 23 v d ps) : ∃ L : List Int, Rd (World.mm w) 1 v L.length (ints1 L) := by
  obtain ⟨L, hL⟩ := open_rows (en := fun y : Int => [Value.int .i64 y]) (sz := 1) (fun _ => rfl) (by omega) Tryz.underlying23 (by kernel_rfl) (fun m cs x h => int1_cells m cs x h) (cells_one Tryz.underlying23 hv) h
  rw [flat_ints] at hL
  exact ⟨L, hL⟩
end
/-- A world for the witness: the variable holds the type's handle. -/
noncomputable def laidWorld (os : Os) : World :=
  let w0 := World.holding Tryz.prog os ⟨#[], #[], []⟩
  { w0 with heap := w0.heap.modify 0 fun
      | .cells _ t frozen => .cells #[.iface 172 (.agg #[typeHandle Tryz.prog 87])] t frozen
      | o => o }
end Go.Proofs.YtigfmnfdphijaaaGreatDoor
