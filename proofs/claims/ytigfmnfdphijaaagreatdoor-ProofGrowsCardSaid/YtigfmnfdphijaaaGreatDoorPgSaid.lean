/- ProofGrows returns true for any opers and any picks, and leaves its arguments as they were; the package-level variable errors.errorType starts as the program's text lays it. No other condition. -/
import Derived.Test.YtigfmnfdphijaaaGreatDoorPfO
import Derived.Test.YtigfmnfdphijaaaGreatDoorPgB
import Derived.Test.YtigfmnfdphijaaaGreatDoorCards
import Derived.Test.YtigfmnfdphijaaaGreatDoorTie
import Derived.Deep.DeepHandedRow
import Derived.Lib.LaidTab
import Derived.LaidHandle
namespace Go.Proofs.YtigfmnfdphijaaaGreatDoor
open Go.ChangeShapes Go.WideShapes Go.ChangeAt Go.RowKit
set_option linter.unusedVariables false
set_option linter.unusedSimpArgs false
set_option linter.unnecessarySimpa false
section
variable {H : Type} {enc : TypeId × Value → H} {w : World} {base : Nat} {held : Bool}
/-- A number of eight bits. -/
abbrev U8 : Type := { z : Nat // z ≤ 255 }
theorem u8_cells {spare : Nat → Bool} (n : Nat) (cs : List Value) (x : DataW H × List MemPlace) (h : DataW.trod enc Tryz.prog w base spare held n 5 cs = some x) : ∃ y : U8, cs = [Value.int .u8 ((y.1 : Nat) : Int)] := by
  obtain ⟨z, hz, _, hw⟩ := DataW.trod_int Tryz.underlying5 h
  simp only [Lit.wf, Bool.and_eq_true, decide_eq_true_eq] at hw
  have h0 : (0 : Int) ≤ z := hw.1
  have h1 : z ≤ 255 := hw.2
  exact ⟨⟨z.toNat, by omega⟩, by rw [hz, Int.toNat_of_nonneg h0]⟩
theorem flat_u8s (L : List U8) : (L.flatMap fun y => [Value.int .u8 ((y.1 : Nat) : Int)]) = u8s (L.map (·.1)) := by
  induction L with
  | nil => rfl
  | cons a L ih =>
    show Value.int .u8 ((a.1 : Nat) : Int) :: (L.flatMap _) = _
    rw [ih]
    rfl
set_option maxRecDepth 100000 in
theorem open_u8s {r : Reach} {b : Nat} {v : Value} {d : DataW H} {ps : List MemPlace} (hv : Value.okWide Tryz.prog w r b 28 v) (h : DataW.Trod enc Tryz.prog w base (fun _ => true) held 28 v d ps) : ∃ L : List U8, Rd (World.mm w) 1 v (L.map (·.1)).length (u8s (L.map (·.1))) ∧ ∀ (i z : Nat), (L.map (·.1))[i]? = some z → z ≤ 255 := by
  obtain ⟨L, hL⟩ := open_rows (en := fun y : U8 => [Value.int .u8 ((y.1 : Nat) : Int)]) (sz := 1) (fun _ => rfl) (by omega) Tryz.underlying28 (by kernel_rfl) (fun m cs x h => u8_cells m cs x h) (cells_one Tryz.underlying28 hv) h
  rw [flat_u8s] at hL
  refine ⟨L, by rw [List.length_map]; exact hL, fun i z hz => ?_⟩
  rw [List.getElem?_map] at hz
  cases hi : L[i]? with
  | none => rw [hi] at hz; cases hz
  | some y => rw [hi] at hz; cases hz; exact y.2
end
theorem laid_met (os : Os) (args : Array Value) : laidMetH Tryz.prog Rows.proofGrowsRow.laid ((laidWorld os).forCall (fun _ _ => 0) ⟨#[], args, []⟩).memory :=
  laidMetH_of_parts (laidMet_nil _ _) (by kernel_rfl)
theorem reads (os : Os) {H : Type} (enc : TypeId × Value → H) : ∃ places, DataW.whole enc Tryz.prog ((laidWorld os).forCall (fun _ _ => 0) ⟨#[], #[.slice none 0 0, .slice none 0 0], []⟩).memory Tryz.f4.params.toList Rows.proofGrowsSpec.vars false #[.slice none 0 0, .slice none 0 0].toList 8 = some ([.nil, .nil], [], places) :=
  ⟨[], by kernel_rfl⟩
set_option maxRecDepth 100000 in
theorem proofGrows_lifted (os : Os) (started : os.Started) (H : Type) (enc : TypeId × Value → H) (F : Stop.Interp) :
    ReturnsInHanded {} Tryz.checked os 4 .any ((OpenSpec.ofChange Rows.proofGrowsSpec).preRow enc Tryz.prog Tryz.f4 Rows.proofGrowsRow.domain false Rows.proofGrowsRow.laid) (((OpenSpec.ofChange Rows.proofGrowsSpec).at F).post enc Tryz.prog Tryz.f4 false true false false) := by
  obtain ⟨places, hx⟩ := reads os enc
  refine returnsInHanded_of_row (C := Tryz.checked) (s := OpenSpec.ofChange Rows.proofGrowsSpec) own started (by kernel_rfl) Tryz.func4
    (witness_row_at (enc := enc) (C := Tryz.checked) false (laidWorld os) #[.slice none 0 0, .slice none 0 0] rfl (by kernel_rfl) (by kernel_rfl) (by kernel_rfl)
      (OpenSpec.preRow_of_cond 8 hx (by kernel_rfl) (fun k hk => by cases hk) (by kernel_rfl) (laid_met os _))) ?_
  intro W base args ds gs before hval0 hW _ _ _ hL hsh _
  have hval : ∀ (j : Nat) t v, Tryz.f4.params[j]? = some t → args[j]? = some v → Value.okWide Tryz.prog W .any base t v := hval0
  have hW' := hW
  obtain ⟨p, q, hA0, hV, rfl, hfz, hnd⟩ := hW
  have hA : DataW.TrodAll enc Tryz.prog W 0 (fun _ => true) true Tryz.f4.params.toList args.toList ds p := hA0
  rw [Tryz.params4] at hA hval
  obtain ⟨v0, vs0, d0, ds0, p0, q0, hargs, rfl, rfl, h0, r0⟩ := trodAll_cons hA
  obtain ⟨v1, vs1, d1, ds1, p1, q1, rfl, rfl, rfl, h1, r1⟩ := trodAll_cons r0
  obtain ⟨rfl, rfl, rfl⟩ := trodAll_nil r1
  obtain rfl : args = #[v0, v1] := by cases args; simp_all
  obtain ⟨rfl, rfl⟩ := trodVars_none hV
  obtain ⟨l, hl⟩ := open_opers (hval 0 _ v0 rfl rfl) h0
  obtain ⟨zs, hz, hb255⟩ := open_u8s (hval 1 _ v1 rfl rfl) h1
  refine (proofGrows_eq (Has.new W) v0 v1 l (zs.map (·.1)) _ _ rfl rfl hb255 hl hz).mono fun r W' ⟨hr, hb⟩ => ⟨_, hr, ?_⟩
  exact law_post laidOut (by rw [Tryz.params4]; decide +kernel) rfl Tryz.underlying4 rfl rfl hW' (hb.toBelow fun _ _ h => h)
theorem proofGrows_said : Rows.ProofGrowsSaid :=
  OpenClaim.holds_of_cond 4 Tryz.f4 rfl rfl rfl rfl rfl rfl rfl ⟨rfl, rfl, rfl, rfl, rfl⟩ rfl rfl rfl rfl rfl (by kernel_rfl) Tryz.func4 (by kernel_rfl)
    (of_decide_eq_true (by kernel_rfl)) (by unfold Func.isWrapper; first | (rw [if_pos (by decide +kernel)]; kernel_rfl) | (rw [if_neg (by decide +kernel)]; exact ⟨rfl, rfl⟩))
    (fun os started H enc _ F => by rw [OpenClaim.pre_eq_preRow]; exact proofGrows_lifted os started H enc F)
theorem proofGrows_plain (f : FuncId) (fn : Func) (hf : Tryz.pinned.checked.prog.funcNamed "burnbag/burnbaglaw16.ProofGrows" = some f) (hfn : Tryz.pinned.checked.prog.funcs[f]? = some fn) :
    true = Tryz.pinned.checked.prog.looks [] ∧ ∀ (j : Nat) t, fn.params[j]? = some t → Tryz.pinned.checked.prog.wantsStandIn t = false := by
  obtain rfl : f = 4 := Option.some.inj ((show Tryz.prog.funcNamed "burnbag/burnbaglaw16.ProofGrows" = some 4 by kernel_rfl).symm.trans hf) |>.symm
  obtain rfl : fn = Tryz.f4 := (Option.some.inj (Tryz.func4.symm.trans hfn)).symm
  refine ⟨by kernel_rfl, fun j t ht => ?_⟩
  rw [Tryz.params4] at ht
  rcases j with _ | _ | j
  · cases ht; exact (show Tryz.prog.wantsStandIn 22 = false by kernel_rfl)
  · cases ht; exact (show Tryz.prog.wantsStandIn 28 = false by kernel_rfl)
  · simp at ht
theorem proofGrows_holds : Rows.ProofGrowsCardSaid :=
  Claim7.holds_tied_plain_at .later [] _ _ _ _ proofGrows_said (fun _ h => by cases h) (by kernel_rfl) (fun _ h => by cases h) proofGrows_row_tie rfl ⟨rfl, rfl⟩ (by kernel_rfl) rfl proofGrows_plain (by kernel_rfl)
#print axioms proofGrows_holds
end Go.Proofs.YtigfmnfdphijaaaGreatDoor
