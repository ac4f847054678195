/- ProofMay returns true for any opers and any order of any places, and leaves its arguments as they were; the package-level variable errors.errorType starts as the program's text lays it. No other condition. -/
import Derived.Test.YtigfmnfdphijaaaGreatDoorPfO
import Derived.Test.YtigfmnfdphijaaaGreatDoorCards
import Derived.Test.YtigfmnfdphijaaaGreatDoorTie
import Derived.Deep.DeepHandedRow
import Derived.Lib.LaidTab
import Derived.LaidHandle
namespace Go.Proofs.YtigfmnfdphijaaaGreatDoor
open Go.ChangeShapes Go.WideShapes Go.ChangeAt Go.RowKit
set_option linter.unusedVariables false
set_option linter.unusedSimpArgs false
set_option linter.unnecessarySimpa false
theorem laid_met (os : Os) (args : Array Value) : laidMetH Tryz.prog Rows.proofMayRow.laid ((laidWorld os).forCall (fun _ _ => 0) ⟨#[], args, []⟩).memory :=
  laidMetH_of_parts (laidMet_nil _ _) (by kernel_rfl)
theorem reads (os : Os) {H : Type} (enc : TypeId × Value → H) : ∃ places, DataW.whole enc Tryz.prog ((laidWorld os).forCall (fun _ _ => 0) ⟨#[], #[.slice none 0 0, .slice none 0 0], []⟩).memory Tryz.f3.params.toList Rows.proofMaySpec.vars false #[.slice none 0 0, .slice none 0 0].toList 8 = some ([.nil, .nil], [], places) :=
  ⟨[], by kernel_rfl⟩
set_option maxRecDepth 100000 in
theorem proofMay_lifted (os : Os) (started : os.Started) (H : Type) (enc : TypeId × Value → H) (F : Stop.Interp) :
    ReturnsInHanded {} Tryz.checked os 3 .any ((OpenSpec.ofChange Rows.proofMaySpec).preRow enc Tryz.prog Tryz.f3 Rows.proofMayRow.domain false Rows.proofMayRow.laid) (((OpenSpec.ofChange Rows.proofMaySpec).at F).post enc Tryz.prog Tryz.f3 false true false false) := by
  obtain ⟨places, hx⟩ := reads os enc
  refine returnsInHanded_of_row (C := Tryz.checked) (s := OpenSpec.ofChange Rows.proofMaySpec) own started (by kernel_rfl) Tryz.func3
    (witness_row_at (enc := enc) (C := Tryz.checked) false (laidWorld os) #[.slice none 0 0, .slice none 0 0] rfl (by kernel_rfl) (by kernel_rfl) (by kernel_rfl)
      (OpenSpec.preRow_of_cond 8 hx (by kernel_rfl) (fun k hk => by cases hk) (by kernel_rfl) (laid_met os _))) ?_
  intro W base args ds gs before hval0 hW _ _ _ hL hsh _
  have hval : ∀ (j : Nat) t v, Tryz.f3.params[j]? = some t → args[j]? = some v → Value.okWide Tryz.prog W .any base t v := hval0
  have hW' := hW
  obtain ⟨p, q, hA0, hV, rfl, hfz, hnd⟩ := hW
  have hA : DataW.TrodAll enc Tryz.prog W 0 (fun _ => true) true Tryz.f3.params.toList args.toList ds p := hA0
  rw [Tryz.params3] at hA hval
  obtain ⟨v0, vs0, d0, ds0, p0, q0, hargs, rfl, rfl, h0, r0⟩ := trodAll_cons hA
  obtain ⟨v1, vs1, d1, ds1, p1, q1, rfl, rfl, rfl, h1, r1⟩ := trodAll_cons r0
  obtain ⟨rfl, rfl, rfl⟩ := trodAll_nil r1
  obtain rfl : args = #[v0, v1] := by cases args; simp_all
  obtain ⟨rfl, rfl⟩ := trodVars_none hV
  obtain ⟨l, hl⟩ := open_opers (hval 0 _ v0 rfl rfl) h0
  obtain ⟨o, ho⟩ := open_ints (hval 1 _ v1 rfl rfl) h1
  refine (proofMay_eq (Has.new W) v0 v1 l o _ _ rfl rfl hl ho).mono fun r W' ⟨hr, hb⟩ => ⟨_, hr, ?_⟩
  exact law_post laidOut (by rw [Tryz.params3]; decide +kernel) rfl Tryz.underlying4 rfl rfl hW' (hb.toBelow fun _ _ h => h)
theorem proofMay_said : Rows.ProofMaySaid :=
  OpenClaim.holds_of_cond 3 Tryz.f3 rfl rfl rfl rfl rfl rfl rfl ⟨rfl, rfl, rfl, rfl, rfl⟩ rfl rfl rfl rfl rfl (by kernel_rfl) Tryz.func3 (by kernel_rfl)
    (of_decide_eq_true (by kernel_rfl)) (by unfold Func.isWrapper; first | (rw [if_pos (by decide +kernel)]; kernel_rfl) | (rw [if_neg (by decide +kernel)]; exact ⟨rfl, rfl⟩))
    (fun os started H enc _ F => by rw [OpenClaim.pre_eq_preRow]; exact proofMay_lifted os started H enc F)
theorem proofMay_plain (f : FuncId) (fn : Func) (hf : Tryz.pinned.checked.prog.funcNamed "burnbag/burnbaglaw16.ProofMay" = some f) (hfn : Tryz.pinned.checked.prog.funcs[f]? = some fn) :
    true = Tryz.pinned.checked.prog.looks [] ∧ ∀ (j : Nat) t, fn.params[j]? = some t → Tryz.pinned.checked.prog.wantsStandIn t = false := by
  obtain rfl : f = 3 := Option.some.inj ((show Tryz.prog.funcNamed "burnbag/burnbaglaw16.ProofMay" = some 3 by kernel_rfl).symm.trans hf) |>.symm
  obtain rfl : fn = Tryz.f3 := (Option.some.inj (Tryz.func3.symm.trans hfn)).symm
  refine ⟨by kernel_rfl, fun j t ht => ?_⟩
  rw [Tryz.params3] at ht
  rcases j with _ | _ | j
  · cases ht; exact (show Tryz.prog.wantsStandIn 22 = false by kernel_rfl)
  · cases ht; exact (show Tryz.prog.wantsStandIn 23 = false by kernel_rfl)
  · simp at ht
theorem proofMay_holds : Rows.ProofMayCardSaid :=
  Claim7.holds_tied_plain_at .later [] _ _ _ _ proofMay_said (fun _ h => by cases h) (by kernel_rfl) (fun _ h => by cases h) proofMay_row_tie rfl ⟨rfl, rfl⟩ (by kernel_rfl) rfl proofMay_plain (by kernel_rfl)
#print axioms proofMay_holds
end Go.Proofs.YtigfmnfdphijaaaGreatDoor
