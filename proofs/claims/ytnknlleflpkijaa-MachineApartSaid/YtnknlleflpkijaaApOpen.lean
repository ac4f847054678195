/- Law 21: what threads do, as an argument: a row of Acts. -/
import Derived.Test.YtnknlleflpkijaaApE
import Derived.Test.YtnknlleflpkijaaOpenR
import Derived.ChangeMaps5
namespace Go.Proofs.Ytnknlleflpkijaa
open Go.ChangeShapes Go.WideShapes Go.ChangeAt Go.RowKit Go.ChangeMaps
set_option linter.unusedVariables false
set_option linter.unusedSimpArgs false
set_option linter.unnecessarySimpa false
theorem cellsConf : Try.prog.cellsOf 24 = 14 := by kernel_rfl
theorem typesConf : Try.prog.cellTypes Try.prog.depth 24 = some (List.replicate 14 3) := by kernel_rfl
section
variable {H : Type} {enc : TypeId × Value → H} {w : World} {base : Nat} {held : Bool}
theorem one_bool {spare : Nat → Bool} {n : Nat} {t : TypeId} {a : Value} {x : Option (DataW H × List MemPlace)} (hu : Try.prog.underlying t = some .bool) (h : DataW.trod enc Try.prog w base spare held n t [a] = x) (hx : x.isSome = true) : ∃ z, a = .bool z := by
  cases hx' : x with
  | none => rw [hx'] at hx; cases hx
  | some y =>
    rw [hx'] at h
    obtain ⟨z, hz, _⟩ := DataW.trod_bool hu h
    simp only [List.cons.injEq, and_true] at hz
    exact ⟨z, hz⟩
set_option maxRecDepth 100000 in
theorem act_cells {spare : Nat → Bool} (n : Nat) (cs : List Value) (x : DataW H × List MemPlace) (h : DataW.trod enc Try.prog w base spare held n 35 cs = some x) : ∃ y : ActS, cs = encA y := by
  obtain ⟨ys, m, _, _, hl, hyl, hfl⟩ := DataW.trod_struct Try.underlying35 h
  have hl : cs.length = 5 := hl.trans (by kernel_rfl)
  match cs, hl with
  | [a0, a1, a2, a3, a4], _ =>
    have hy : ∀ i, i < 5 → (ys[i]?).isSome = true := fun i hi => by rw [List.getElem?_eq_getElem (by rw [hyl]; exact hi)]; rfl
    obtain ⟨z0, rfl⟩ := one_int Try.underlying3 (hfl 0 _ rfl) (hy 0 (by omega))
    obtain ⟨z1, rfl⟩ := one_int Try.underlying3 (hfl 1 _ rfl) (hy 1 (by omega))
    obtain ⟨z2, rfl⟩ := one_int Try.underlying3 (hfl 2 _ rfl) (hy 2 (by omega))
    obtain ⟨z3, rfl⟩ := one_int Try.underlying33 (hfl 3 _ rfl) (hy 3 (by omega))
    obtain ⟨z4, rfl⟩ := one_bool Try.underlying4 (hfl 4 _ rfl) (hy 4 (by omega))
    exact ⟨⟨z0, z1, z2, z3, z4⟩, rfl⟩
theorem cells_one {P : Program} {w : World} {r : Reach} {b : Nat} {t e : TypeId} {v : Value} (hu : P.underlying t = some (.slice e)) (hv : Value.okWide P w r b t v) : v.cells = #[v] := by
  simp only [Value.okWide, hu] at hv
  unfold Cell.okWide at hv
  rw [hu] at hv
  cases v <;> first | rfl | (simp [Cell.ok, hu] at hv)
set_option maxRecDepth 100000 in
theorem open_acts {r : Reach} {b : Nat} {v : Value} {d : DataW H} {ps : List MemPlace} (hv : Value.okWide Try.prog w r b 25 v) (h : DataW.Trod enc Try.prog w base (fun _ => true) held 25 v d ps) : ∃ (L : List ActS) (A : Option Addr) (n cap : Nat), v = .slice A n cap ∧ L.length = n ∧ Rd (World.mm w) 5 (.slice A n cap) n (L.flatMap encA) := by
  obtain ⟨L, hL⟩ := open_rows (en := encA) (sz := 5) (fun _ => rfl) (by omega) Try.underlying25 (by kernel_rfl) (fun m cs x h => act_cells m cs x h) (cells_one Try.underlying25 hv) h
  obtain ⟨_, A, cap, rfl, _⟩ := id hL
  exact ⟨L, A, L.length, cap, rfl, rfl, hL⟩
end
end Go.Proofs.Ytnknlleflpkijaa
