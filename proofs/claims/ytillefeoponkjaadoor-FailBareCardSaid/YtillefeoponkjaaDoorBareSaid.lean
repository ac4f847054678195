/- FailBare returns true for any two codes and any text, and leaves its arguments as they were; the package-level variable errors.errorType and the library's tables start as the program's text lays them. No other condition. -/
import Derived.Test.YtillefeoponkjaaDoorAsK
import Derived.Test.YtillefeoponkjaaDoorKeepsSaid
namespace Go.Proofs.YtillefeoponkjaaDoor
open Go.ChangeShapes Go.WideShapes Go.ChangeAt Go.RowKit
set_option linter.unusedVariables false
set_option linter.unusedSimpArgs false
set_option linter.unnecessarySimpa false
/-- The cells that a table's datum reads as. -/
def litCells {H : Type} : DataW H → Array Value
  | .agg ds => (ds.map fun d => match d with | .lit (.int k n) => Value.int k n | _ => undef).toArray
  | _ => #[]
/-- A world for the witness: the variable holds the type's handle. -/
noncomputable def laidWorldB (os : Os) : World :=
  let w0 := laidWorld os
  let put (g : Nat) (d : DataW Unit) (w : World) : World := { w with heap := w.heap.modify g fun
    | .cells _ t frozen => .cells (litCells d) t frozen
    | o => o }
  put 1 Rows.laid_internal_strconv_uint64pow10 (put 2 Rows.laid_math_bits_deBruijn32tab (put 3 Rows.laid_math_bits_deBruijn64tab w0))
theorem laid_metB (os : Os) (args : Array Value) : laidMetH Tryd.prog Rows.failBareRow.laid ((laidWorldB os).forCall (fun _ _ => 0) ⟨#[], args, []⟩).memory :=
  laidMetH_of_parts (laidMet_of_run' 8 (by kernel_rfl) (by kernel_rfl)) (by kernel_rfl)
theorem readsB (os : Os) {H : Type} (enc : TypeId × Value → H) : ∃ places, DataW.whole enc Tryd.prog ((laidWorldB os).forCall (fun _ _ => 0) ⟨#[], #[.int .i64 0, .int .i64 0, .string ⟨#[]⟩], []⟩).memory Tryd.f4.params.toList Rows.failBareSpec.vars false #[.int .i64 0, .int .i64 0, .string ⟨#[]⟩].toList 8 = some ([.lit (.int .i64 0), .lit (.int .i64 0), .lit (.string [])], [], places) :=
  ⟨[], by kernel_rfl⟩
set_option maxRecDepth 100000 in
theorem failBare_lifted (os : Os) (started : os.Started) (H : Type) (enc : TypeId × Value → H) (F : Stop.Interp) :
    ReturnsInHanded {} Tryd.checked os 4 .any ((OpenSpec.ofChange Rows.failBareSpec).preRow enc Tryd.prog Tryd.f4 Rows.failBareRow.domain false Rows.failBareRow.laid) (((OpenSpec.ofChange Rows.failBareSpec).at F).post enc Tryd.prog Tryd.f4 false true false false) := by
  obtain ⟨places, hx⟩ := readsB os enc
  refine returnsInHanded_of_row (C := Tryd.checked) (s := OpenSpec.ofChange Rows.failBareSpec) own started (by kernel_rfl) Tryd.func4
    (witness_row_at (enc := enc) (C := Tryd.checked) false (laidWorldB os) #[.int .i64 0, .int .i64 0, .string ⟨#[]⟩] rfl (by kernel_rfl) (by kernel_rfl) (by kernel_rfl)
      (OpenSpec.preRow_of_cond 8 hx (by kernel_rfl) (fun k hk => by cases hk) (by kernel_rfl) (laid_metB os _))) ?_
  intro W base args ds gs before hval0 hW _ _ _ hL hsh _
  have hval : ∀ (j : Nat) t v, Tryd.f4.params[j]? = some t → args[j]? = some v → Value.okWide Tryd.prog W .any base t v := hval0
  have hW' := hW
  obtain ⟨p, q, hA0, hV, rfl, hfz, hnd⟩ := hW
  have hA : DataW.TrodAll enc Tryd.prog W 0 (fun _ => true) true Tryd.f4.params.toList args.toList ds p := hA0
  rw [Tryd.params4] at hA hval
  obtain ⟨v0, vs0, d0, ds0, p0, q0, hargs, rfl, rfl, h0, r0⟩ := trodAll_cons hA
  obtain ⟨v1, vs1, d1, ds1, p1, q1, rfl, rfl, rfl, h1, r1⟩ := trodAll_cons r0
  obtain ⟨v2, vs2, d2, ds2, p2, q2, rfl, rfl, rfl, h2, r2⟩ := trodAll_cons r1
  obtain ⟨rfl, rfl, rfl⟩ := trodAll_nil r2
  obtain rfl : args = #[v0, v1, v2] := by cases args; simp_all
  obtain ⟨rfl, rfl⟩ := trodVars_none hV
  obtain ⟨c, rfl, _, _, _⟩ := open_int Tryd.underlying22 (hval 0 _ v0 rfl rfl) h0
  obtain ⟨o, rfl, _, _, _⟩ := open_int Tryd.underlying22 (hval 1 _ v1 rfl rfl) h1
  obtain ⟨a, rfl, _, _, _⟩ := Go.ChangeMaps.open_string Tryd.underlying9 (hval 2 _ v2 rfl rfl) h2
  have hT : ETy (World.mm W) := eTy_of_laid (l := Rows.failBareRow.laid) (by first | exact List.mem_singleton.2 rfl | simp) (show laidMet _ _ _ ∧ handlesMet _ _ _ from hL).2 hsh
  refine (bare_walk (Has.new W) hT c o a).mono fun r W' ⟨hr, hb⟩ => ⟨_, hr, ?_⟩
  exact law_post laidOut (by rw [Tryd.params4]; decide +kernel) rfl Tryd.underlying4 rfl rfl hW' (hb.toBelow fun _ _ h => h)

theorem failBare_said : Rows.FailBareSaid :=
  OpenClaim.holds_of_cond 4 Tryd.f4 rfl rfl rfl rfl rfl rfl rfl ⟨rfl, rfl, rfl, rfl, rfl⟩ rfl rfl rfl rfl rfl (by kernel_rfl) Tryd.func4 (by kernel_rfl)
    (of_decide_eq_true (by kernel_rfl)) (by unfold Func.isWrapper; first | (rw [if_pos (by decide +kernel)]; kernel_rfl) | (rw [if_neg (by decide +kernel)]; exact ⟨rfl, rfl⟩))
    (fun os started H enc _ F => by rw [OpenClaim.pre_eq_preRow]; exact failBare_lifted os started H enc F)

theorem failBare_plain (f : FuncId) (fn : Func) (hf : Tryd.pinned.checked.prog.funcNamed "burnbag/burnbaglaw08.FailBare" = some f) (hfn : Tryd.pinned.checked.prog.funcs[f]? = some fn) :
    true = Tryd.pinned.checked.prog.looks [] ∧ ∀ (j : Nat) t, fn.params[j]? = some t → Tryd.pinned.checked.prog.wantsStandIn t = false := by
  obtain rfl : f = 4 := Option.some.inj ((show Tryd.prog.funcNamed "burnbag/burnbaglaw08.FailBare" = some 4 by kernel_rfl).symm.trans hf) |>.symm
  obtain rfl : fn = Tryd.f4 := (Option.some.inj (Tryd.func4.symm.trans hfn)).symm
  refine ⟨by kernel_rfl, fun j t ht => ?_⟩
  rw [Tryd.params4] at ht
  rcases j with _ | _ | _ | j
  · cases ht; exact (show Tryd.prog.wantsStandIn 22 = false by kernel_rfl)
  · cases ht; exact (show Tryd.prog.wantsStandIn 22 = false by kernel_rfl)
  · cases ht; exact (show Tryd.prog.wantsStandIn 9 = false by kernel_rfl)
  · simp at ht

theorem failBare_holds : Rows.FailBareCardSaid :=
  Claim7.holds_tied_plain_at .later [] _ _ _ _ failBare_said (fun _ h => by cases h) (by kernel_rfl) (fun _ h => by cases h) failBare_row_tie rfl ⟨rfl, rfl⟩ (by kernel_rfl) rfl failBare_plain (by kernel_rfl)
#print axioms failBare_holds
end Go.Proofs.YtillefeoponkjaaDoor
