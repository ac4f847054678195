/- OrderMany returns true for any number, and leaves its argument as it was; the package-level variable errors.errorType and the library's tables start as the program's text lays them. No other condition. -/
import Derived.Test.YtjnhklhgcbknkaaGreatDoorOgB
import Derived.Test.YtjnhklhgcbknkaaGreatDoorCards
import Derived.Test.YtjnhklhgcbknkaaGreatDoorTie
import Derived.Deep.DeepHandedRow
import Derived.Lib.LaidTab
import Derived.LaidHandle
namespace Go.Proofs.YtjnhklhgcbknkaaGreatDoor
section
open Go.ChangeShapes Go.WideShapes Go.ChangeAt Go.RowKit
set_option linter.unusedVariables false
set_option linter.unusedSimpArgs false
set_option linter.unnecessarySimpa false
/-- The cells that a table's datum reads as. -/
def litCells {H : Type} : DataW H → Array Value
  | .agg ds => (ds.map fun d => match d with | .lit (.int k n) => Value.int k n | _ => undef).toArray
  | _ => #[]
/-- A world for the witness: the variable holds the type's handle. -/
noncomputable def laidWorld (os : Os) : World :=
  let w0 := World.holding Tryz.prog os ⟨#[], #[], []⟩
  { w0 with heap := w0.heap.modify 1 fun
      | .cells _ t frozen => .cells #[.iface 257 (.agg #[typeHandle Tryz.prog 145])] t frozen
      | o => o }
/-- A world for the witness: the tables and the type's handle are as laid. -/
noncomputable def laidWorldB (os : Os) : World :=
  let w0 := laidWorld os
  let put (g : Nat) (d : DataW Unit) (w : World) : World := { w with heap := w.heap.modify g fun
    | .cells _ t frozen => .cells (litCells d) t frozen
    | o => o }
  put 0 Rows.laid_internal_strconv_uint64pow10 (put 2 Rows.laid_math_bits_deBruijn32tab (put 3 Rows.laid_math_bits_deBruijn64tab w0))
theorem laid_metB (os : Os) (args : Array Value) : laidMetH Tryz.prog Rows.orderManyRow.laid ((laidWorldB os).forCall (fun _ _ => 0) ⟨#[], args, []⟩).memory :=
  laidMetH_of_parts (laidMet_of_run' 8 (by kernel_rfl) (by kernel_rfl)) (by kernel_rfl)
theorem readsOm (os : Os) {H : Type} (enc : TypeId × Value → H) : ∃ places, DataW.whole enc Tryz.prog ((laidWorldB os).forCall (fun _ _ => 0) ⟨#[], #[.int .u8 0], []⟩).memory Tryz.f3.params.toList Rows.orderManySpec.vars false #[.int .u8 0].toList 8 = some ([.lit (.int .u8 0)], [], places) :=
  ⟨[], by kernel_rfl⟩
set_option maxRecDepth 100000 in
theorem orderMany_lifted (os : Os) (started : os.Started) (H : Type) (enc : TypeId × Value → H) (F : Stop.Interp) :
    ReturnsInHanded {} Tryz.checked os 3 .any ((OpenSpec.ofChange Rows.orderManySpec).preRow enc Tryz.prog Tryz.f3 Rows.orderManyRow.domain false Rows.orderManyRow.laid) (((OpenSpec.ofChange Rows.orderManySpec).at F).post enc Tryz.prog Tryz.f3 false true false false) := by
  obtain ⟨places, hx⟩ := readsOm os enc
  refine returnsInHanded_of_row (C := Tryz.checked) (s := OpenSpec.ofChange Rows.orderManySpec) own started (by kernel_rfl) Tryz.func3
    (witness_row_at (enc := enc) (C := Tryz.checked) false (laidWorldB os) #[.int .u8 0] rfl (by kernel_rfl) (by kernel_rfl) (by kernel_rfl)
      (OpenSpec.preRow_of_cond 8 hx (by kernel_rfl) (fun k hk => by cases hk) (by kernel_rfl) (laid_metB os _))) ?_
  intro W base args ds gs before hval0 hW _ _ _ hL hsh _
  have hval : ∀ (j : Nat) t v, Tryz.f3.params[j]? = some t → args[j]? = some v → Value.okWide Tryz.prog W .any base t v := hval0
  have hW' := hW
  obtain ⟨p, q, hA0, hV, rfl, hfz, hnd⟩ := hW
  have hA : DataW.TrodAll enc Tryz.prog W 0 (fun _ => true) true Tryz.f3.params.toList args.toList ds p := hA0
  rw [Tryz.params3] at hA hval
  obtain ⟨v0, vs0, d0, ds0, p0, q0, hargs, rfl, rfl, h0, r0⟩ := trodAll_cons hA
  obtain ⟨rfl, rfl, rfl⟩ := trodAll_nil r0
  obtain rfl : args = #[v0] := by cases args; simp_all
  obtain ⟨rfl, rfl⟩ := trodVars_none hV
  obtain ⟨c, rfl, _, _, hb⟩ := open_int Tryz.underlying5 (hval 0 _ v0 rfl rfl) h0
  have hbb : 0 ≤ c ∧ c ≤ 255 := by simpa [Lit.wf, IntKind.min, IntKind.max, IntKind.signed, IntKind.bits] using hb
  obtain ⟨c1, c2⟩ := hbb
  obtain ⟨n, rfl⟩ : ∃ n : Nat, c = (n : Int) := ⟨c.toNat, (Int.toNat_of_nonneg c1).symm⟩
  refine (orderMany_eq (Has.new W) n (by omega)).mono fun r W' ⟨hr, hb⟩ => ⟨_, hr, ?_⟩
  exact law_post laidOut (by rw [Tryz.params3]; decide +kernel) rfl Tryz.underlying4 rfl rfl hW' (hb.toBelow fun _ _ h => h)
theorem orderMany_said : Rows.OrderManySaid :=
  OpenClaim.holds_of_cond 3 Tryz.f3 rfl rfl rfl rfl rfl rfl rfl ⟨rfl, rfl, rfl, rfl, rfl⟩ rfl rfl rfl rfl rfl (by kernel_rfl) Tryz.func3 (by kernel_rfl)
    (of_decide_eq_true (by kernel_rfl)) (by unfold Func.isWrapper; first | (rw [if_pos (by decide +kernel)]; kernel_rfl) | (rw [if_neg (by decide +kernel)]; exact ⟨rfl, rfl⟩))
    (fun os started H enc _ F => by rw [OpenClaim.pre_eq_preRow]; exact orderMany_lifted os started H enc F)
theorem orderMany_plain (f : FuncId) (fn : Func) (hf : Tryz.pinned.checked.prog.funcNamed "burnbag/burnbaglaw17.OrderMany" = some f) (hfn : Tryz.pinned.checked.prog.funcs[f]? = some fn) :
    true = Tryz.pinned.checked.prog.looks [] ∧ ∀ (j : Nat) t, fn.params[j]? = some t → Tryz.pinned.checked.prog.wantsStandIn t = false := by
  obtain rfl : f = 3 := Option.some.inj ((show Tryz.prog.funcNamed "burnbag/burnbaglaw17.OrderMany" = some 3 by kernel_rfl).symm.trans hf) |>.symm
  obtain rfl : fn = Tryz.f3 := (Option.some.inj (Tryz.func3.symm.trans hfn)).symm
  refine ⟨by kernel_rfl, fun j t ht => ?_⟩
  rw [Tryz.params3] at ht
  rcases j with _ | j
  · cases ht; exact (show Tryz.prog.wantsStandIn 5 = false by kernel_rfl)
  · simp at ht
theorem orderMany_holds : Rows.OrderManyCardSaid :=
  Claim7.holds_tied_plain_at .later [] _ _ _ _ orderMany_said (fun _ h => by cases h) (by kernel_rfl) (fun _ h => by cases h) orderMany_row_tie rfl ⟨rfl, rfl⟩ (by kernel_rfl) rfl orderMany_plain (by kernel_rfl)
#print axioms orderMany_holds
end
end Go.Proofs.YtjnhklhgcbknkaaGreatDoor
