/- MachineSteps returns true for any configuration and any list of acts, and leaves its arguments as they were. No condition. -/
import Derived.Test.YtnknlleflpkijaaSpE
import Derived.Test.YtnknlleflpkijaaOpenR
import Derived.ChangeMaps5
namespace Go.Proofs.Ytnknlleflpkijaa
section
open Go.ChangeShapes Go.WideShapes Go.ChangeAt Go.RowKit Go.ChangeMaps
set_option linter.unusedVariables false
set_option linter.unusedSimpArgs false
set_option linter.unnecessarySimpa false
theorem cellsConf : Try.prog.cellsOf 24 = 14 := by kernel_rfl
theorem typesConf : Try.prog.cellTypes Try.prog.depth 24 = some (List.replicate 14 3) := by kernel_rfl
section
variable {H : Type} {enc : TypeId × Value → H} {w : World} {base : Nat} {held : Bool}
theorem one_bool {spare : Nat → Bool} {n : Nat} {t : TypeId} {a : Value} {x : Option (DataW H × List MemPlace)} (hu : Try.prog.underlying t = some .bool) (h : DataW.trod enc Try.prog w base spare held n t [a] = x) (hx : x.isSome = true) : ∃ z, a = .bool z := by
  cases hx' : x with
  | none => rw [hx'] at hx; cases hx
  | some y =>
    rw [hx'] at h
    obtain ⟨z, hz, _⟩ := DataW.trod_bool hu h
    simp only [List.cons.injEq, and_true] at hz
    exact ⟨z, hz⟩
set_option maxRecDepth 100000 in
theorem act_cells {spare : Nat → Bool} (n : Nat) (cs : List Value) (x : DataW H × List MemPlace) (h : DataW.trod enc Try.prog w base spare held n 35 cs = some x) : ∃ y : ActS, cs = encA y := by
  obtain ⟨ys, m, _, _, hl, hyl, hfl⟩ := DataW.trod_struct Try.underlying35 h
  have hl : cs.length = 5 := hl.trans (by kernel_rfl)
  match cs, hl with
  | [a0, a1, a2, a3, a4], _ =>
    have hy : ∀ i, i < 5 → (ys[i]?).isSome = true := fun i hi => by rw [List.getElem?_eq_getElem (by rw [hyl]; exact hi)]; rfl
    obtain ⟨z0, rfl⟩ := one_int Try.underlying3 (hfl 0 _ rfl) (hy 0 (by omega))
    obtain ⟨z1, rfl⟩ := one_int Try.underlying3 (hfl 1 _ rfl) (hy 1 (by omega))
    obtain ⟨z2, rfl⟩ := one_int Try.underlying3 (hfl 2 _ rfl) (hy 2 (by omega))
    obtain ⟨z3, rfl⟩ := one_int Try.underlying33 (hfl 3 _ rfl) (hy 3 (by omega))
    obtain ⟨z4, rfl⟩ := one_bool Try.underlying4 (hfl 4 _ rfl) (hy 4 (by omega))
    exact ⟨⟨z0, z1, z2, z3, z4⟩, rfl⟩
theorem cells_one {P : Program} {w : World} {r : Reach} {b : Nat} {t e : TypeId} {v : Value} (hu : P.underlying t = some (.slice e)) (hv : Value.okWide P w r b t v) : v.cells = #[v] := by
  simp only [Value.okWide, hu] at hv
  unfold Cell.okWide at hv
  rw [hu] at hv
  cases v <;> first | rfl | (simp [Cell.ok, hu] at hv)
set_option maxRecDepth 100000 in
theorem open_acts {r : Reach} {b : Nat} {v : Value} {d : DataW H} {ps : List MemPlace} (hv : Value.okWide Try.prog w r b 25 v) (h : DataW.Trod enc Try.prog w base (fun _ => true) held 25 v d ps) : ∃ (L : List ActS) (A : Option Addr) (n cap : Nat), v = .slice A n cap ∧ L.length = n ∧ Rd (World.mm w) 5 (.slice A n cap) n (L.flatMap encA) := by
  obtain ⟨L, hL⟩ := open_rows (en := encA) (sz := 5) (fun _ => rfl) (by omega) Try.underlying25 (by kernel_rfl) (fun m cs x h => act_cells m cs x h) (cells_one Try.underlying25 hv) h
  obtain ⟨_, A, cap, rfl, _⟩ := id hL
  exact ⟨L, A, L.length, cap, rfl, rfl, hL⟩
end
end
open Go.ChangeShapes Go.WideShapes Go.ChangeAt Go.RowKit Go.ChangeMaps

set_option maxRecDepth 100000 in
theorem machineSteps_lifted (os : Os) (started : os.Started) (H : Type) (enc : TypeId × Value → H) :
    ReturnsInHanded {} Try.checked os 4 .any (Rows.machineStepsSpec.pre6 enc Try.prog Try.f4 Rows.machineStepsRow.domain false) (Rows.machineStepsSpec.post enc Try.prog Try.f4 false true false false) := by
  refine returnsInHanded_of_change (C := Try.checked) own started (by kernel_rfl) Try.func4
    (ChangeSpec.witness6 (enc := enc) (C := Try.checked) false ⟨#[], #[.agg #[.int .i64 0, .int .i64 0, .int .i64 0, .int .i64 0, .int .i64 0, .int .i64 0, .int .i64 0, .int .i64 0, .int .i64 0, .int .i64 0, .int .i64 0, .int .i64 0, .int .i64 0, .int .i64 0], .slice none 0 0], []⟩ 8 (by kernel_rfl) (by kernel_rfl) (by kernel_rfl) (by kernel_rfl)) ?_
  intro W base args ds gs before hval0 hW _ _
  have hval : ∀ (j : Nat) t v, Try.f4.params[j]? = some t → args[j]? = some v → Value.okWide Try.prog W .any base t v := hval0
  have hW' := hW
  obtain ⟨p, q, hA0, hV, rfl, hfz, hnd⟩ := hW
  have hA : DataW.TrodAll enc Try.prog W 0 (fun _ => true) true Try.f4.params.toList args.toList ds p := hA0
  rw [Try.params4] at hA hval
  obtain ⟨v0, vs0, d0, ds0, p0, q0, hargs, rfl, rfl, h0, r0⟩ := trodAll_cons hA
  obtain ⟨v1, vs1, d1, ds1, p1, q1, rfl, rfl, rfl, h1, r1⟩ := trodAll_cons r0
  obtain ⟨rfl, rfl, rfl⟩ := trodAll_nil r1
  obtain rfl : args = #[v0, v1] := by cases args; simp_all
  obtain ⟨rfl, rfl⟩ := trodVars_none hV
  obtain ⟨c, rfl, _⟩ := open_ints_agg Try.underlying24 cellsConf typesConf Try.underlying3 (hval 0 _ v0 rfl rfl)
  obtain ⟨L, A, n, cap, rfl, hl, hr⟩ := open_acts (hval 1 _ v1 rfl rfl) h1
  have key : Calls Try.prog 4 #[confV c, .slice A n cap] W fun r w' => r = .returned (.bool true) ∧ Has W (World.mm W) w' := by
    by_cases hs : confMayB c = false ∨ 60 < n
    · exact steps_short (Has.new W) c hs
    · have hm : confMayB c = true := by
        cases e : confMayB c
        · exact absurd (Or.inl e) hs
        · rfl
      have hc := confMay_of hm
      obtain ⟨L', B, S, hn⟩ := Nums.of hc
      exact steps_long (Has.new W) c hc hn hr hl (by omega)
  refine key.mono fun r W' ⟨hr, hb⟩ => ⟨_, hr, ?_⟩
  exact law_post laidOut (by rw [Try.params4]; decide +kernel) rfl Try.underlying4 rfl rfl hW' (hb.toBelow fun _ _ h => h)

theorem machineSteps_holds : Rows.MachineStepsSaid :=
  OpenClaim.holds_of_wide 4 Try.f4 rfl rfl rfl rfl rfl rfl rfl ⟨rfl, rfl, rfl, rfl, rfl⟩ rfl rfl rfl rfl rfl (by kernel_rfl) Try.func4 (by kernel_rfl)
    (of_decide_eq_true (by kernel_rfl)) (by unfold Func.isWrapper; first | (rw [if_pos (by decide +kernel)]; kernel_rfl) | (rw [if_neg (by decide +kernel)]; exact ⟨rfl, rfl⟩))
    (fun os started H enc _ => machineSteps_lifted os started H enc)
#print axioms machineSteps_holds
end Go.Proofs.Ytnknlleflpkijaa
