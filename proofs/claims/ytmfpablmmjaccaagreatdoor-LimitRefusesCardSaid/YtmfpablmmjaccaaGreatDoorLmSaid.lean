/- LimitRefuses returns true for any configuration, any level and any three numbers, and leaves its arguments as they were; the package-level variable errors.errorType starts as the program's text lays it. No other condition. -/
import Derived.Test.YtmfpablmmjaccaaGreatDoorLmF
import Derived.Test.YtmfpablmmjaccaaGreatDoorCards
import Derived.Test.YtmfpablmmjaccaaGreatDoorTie
import Derived.Deep.DeepHandedRow
import Derived.Lib.LaidTab
import Derived.LaidHandle
import Derived.ChangeMaps
namespace Go.Proofs.YtmfpablmmjaccaaGreatDoor
open Go.ChangeShapes Go.WideShapes Go.ChangeAt Go.RowKit Go.ChangeMaps
set_option linter.unusedVariables false
set_option linter.unusedSimpArgs false
set_option linter.unnecessarySimpa false
theorem open_ints_arr {P : Program} {w : World} {r : Reach} {b : Nat} {t e : TypeId} {m : Nat} {te : TypeId} {k : IntKind} {n : Nat} {v : Value} (hu : P.underlying t = some (.array m te)) (hC : P.cellsOf t = n)
    (hT : P.cellTypes P.depth t = some (List.replicate n e)) (he : P.underlying e = some (.int k)) (hv : Value.okWide P w r b t v) :
    ∃ c : Nat → Int, v = .agg (ints k n c) ∧ ∀ i, i < n → k.min ≤ c i ∧ c i ≤ k.max := by
  simp only [Value.okWide, hu] at hv
  obtain ⟨cs, rfl, hsz, ts, hts, _, hall⟩ := hv
  rw [hT] at hts
  cases hts
  have hcell : ∀ i, i < n → ∃ z, cs[i]? = some (.int k z) ∧ k.min ≤ z ∧ z ≤ k.max := fun i hi => by
    have hi' : i < cs.size := by omega
    obtain ⟨u, h1, h2⟩ := hall i _ (Array.getElem?_eq_getElem hi')
    have hu : u = e := by
      have := List.mem_of_getElem? h1
      exact (List.mem_replicate.1 this).2
    subst hu
    simp only [Cell.okWide, Cell.ok, he] at h2
    split at h2 <;> simp_all [IntKind.has]
  refine ⟨fun i => if h : i < n then (hcell i h).choose else 0, ?_, fun i hi => ?_⟩
  · congr 1
    apply Array.ext_getElem?
    intro i
    by_cases hi : i < n
    · rw [ints_get hi]; simp only [hi, dif_pos]; exact (hcell i hi).choose_spec.1
    · rw [Array.getElem?_eq_none (by omega), Array.getElem?_eq_none (by rw [ints_size]; omega)]
  · simp only [hi, dif_pos]
    exact (hcell i hi).choose_spec.2

/-! ### A struct or an array, loaded or stored as a whole, in a block that is known whole. -/
theorem cellsConfL : Tryz.prog.cellsOf 24 = 14 := by kernel_rfl
theorem typesConfL : Tryz.prog.cellTypes Tryz.prog.depth 24 = some (List.replicate 14 3) := by kernel_rfl
theorem cellsX3 : Tryz.prog.cellsOf 25 = 3 := by kernel_rfl
theorem typesX3 : Tryz.prog.cellTypes Tryz.prog.depth 25 = some (List.replicate 3 3) := by kernel_rfl
/-- A world for the witness: the variable holds the type's handle. -/
noncomputable def laidWorld (os : Os) : World :=
  let w0 := World.holding Tryz.prog os ⟨#[], #[], []⟩
  { w0 with heap := w0.heap.modify 0 fun
      | .cells _ t frozen => .cells #[.iface 217 (.agg #[typeHandle Tryz.prog 28])] t frozen
      | o => o }
theorem laid_metL (os : Os) (args : Array Value) : laidMetH Tryz.prog Rows.limitRefusesRow.laid ((laidWorld os).forCall (fun _ _ => 0) ⟨#[], args, []⟩).memory :=
  laidMetH_of_parts (laidMet_nil _ _) (by kernel_rfl)
theorem readsLm (os : Os) {H : Type} (enc : TypeId × Value → H) : ∃ places, DataW.whole enc Tryz.prog ((laidWorld os).forCall (fun _ _ => 0) ⟨#[], #[.agg #[.int .i64 0, .int .i64 0, .int .i64 0, .int .i64 0, .int .i64 0, .int .i64 0, .int .i64 0, .int .i64 0, .int .i64 0, .int .i64 0, .int .i64 0, .int .i64 0, .int .i64 0, .int .i64 0], .int .i64 0, .agg #[.int .i64 0, .int .i64 0, .int .i64 0]], []⟩).memory Tryz.f3.params.toList Rows.limitRefusesSpec.vars false #[.agg #[.int .i64 0, .int .i64 0, .int .i64 0, .int .i64 0, .int .i64 0, .int .i64 0, .int .i64 0, .int .i64 0, .int .i64 0, .int .i64 0, .int .i64 0, .int .i64 0, .int .i64 0, .int .i64 0], .int .i64 0, .agg #[.int .i64 0, .int .i64 0, .int .i64 0]].toList 8 = some ([.agg [.lit (.int .i64 0), .lit (.int .i64 0), .agg [.lit (.int .i64 0), .lit (.int .i64 0), .lit (.int .i64 0), .lit (.int .i64 0), .lit (.int .i64 0), .lit (.int .i64 0), .lit (.int .i64 0), .lit (.int .i64 0)], .lit (.int .i64 0), .lit (.int .i64 0), .lit (.int .i64 0), .lit (.int .i64 0)], .lit (.int .i64 0), .agg [.lit (.int .i64 0), .lit (.int .i64 0), .lit (.int .i64 0)]], [], places) :=
  ⟨[], by kernel_rfl⟩
set_option maxRecDepth 100000 in
theorem limitRefuses_lifted (os : Os) (started : os.Started) (H : Type) (enc : TypeId × Value → H) (F : Stop.Interp) :
    ReturnsInHanded {} Tryz.checked os 3 .any ((OpenSpec.ofChange Rows.limitRefusesSpec).preRow enc Tryz.prog Tryz.f3 Rows.limitRefusesRow.domain false Rows.limitRefusesRow.laid) (((OpenSpec.ofChange Rows.limitRefusesSpec).at F).post enc Tryz.prog Tryz.f3 false true false false) := by
  obtain ⟨places, hx⟩ := readsLm os enc
  refine returnsInHanded_of_row (C := Tryz.checked) (s := OpenSpec.ofChange Rows.limitRefusesSpec) own started (by kernel_rfl) Tryz.func3
    (witness_row_at (enc := enc) (C := Tryz.checked) false (laidWorld os) #[.agg #[.int .i64 0, .int .i64 0, .int .i64 0, .int .i64 0, .int .i64 0, .int .i64 0, .int .i64 0, .int .i64 0, .int .i64 0, .int .i64 0, .int .i64 0, .int .i64 0, .int .i64 0, .int .i64 0], .int .i64 0, .agg #[.int .i64 0, .int .i64 0, .int .i64 0]] rfl (by kernel_rfl) (by kernel_rfl) (by kernel_rfl)
      (OpenSpec.preRow_of_cond 8 hx (by kernel_rfl) (fun k hk => by cases hk) (by kernel_rfl) (laid_metL os _))) ?_
  intro W base args ds gs before hval0 hW _ _ _ hL hsh _
  have hval : ∀ (j : Nat) t v, Tryz.f3.params[j]? = some t → args[j]? = some v → Value.okWide Tryz.prog W .any base t v := hval0
  have hW' := hW
  obtain ⟨p, q, hA0, hV, rfl, hfz, hnd⟩ := hW
  have hA : DataW.TrodAll enc Tryz.prog W 0 (fun _ => true) true Tryz.f3.params.toList args.toList ds p := hA0
  rw [Tryz.params3] at hA hval
  obtain ⟨v0, vs0, d0, ds0, p0, q0, hargs, rfl, rfl, h0, r0⟩ := trodAll_cons hA
  obtain ⟨v1, vs1, d1, ds1, p1, q1, rfl, rfl, rfl, h1, r1⟩ := trodAll_cons r0
  obtain ⟨v2, vs2, d2, ds2, p2, q2, rfl, rfl, rfl, h2, r2⟩ := trodAll_cons r1
  obtain ⟨rfl, rfl, rfl⟩ := trodAll_nil r2
  obtain rfl : args = #[v0, v1, v2] := by cases args; simp_all
  obtain ⟨rfl, rfl⟩ := trodVars_none hV
  obtain ⟨c, rfl, _⟩ := open_ints_agg Tryz.underlying24 cellsConfL typesConfL Tryz.underlying3 (hval 0 _ v0 rfl rfl)
  obtain ⟨lv, rfl, _⟩ := open_int Tryz.underlying3 (hval 1 _ v1 rfl rfl) h1
  obtain ⟨x, rfl, _⟩ := open_ints_arr Tryz.underlying25 cellsX3 typesX3 Tryz.underlying3 (hval 2 _ v2 rfl rfl)
  have key : Calls Tryz.prog 3 #[confV c, .int .i64 lv, .agg (x3R (x 0) (x 1) (x 2))] W fun r w' => r = .returned (.bool true) ∧ Has W (World.mm W) w' := by
    cases hm : confMayB c
    · exact lmRef_no (Has.new W) c lv _ _ _ hm
    · have hc := confMay_of hm
      obtain ⟨lev, B, S, hn⟩ := Nums.of hc
      obtain ⟨T, hT⟩ : ∃ T : Nat, c 1 = (T : Nat) := ⟨(c 1).toNat, by have := hc; unfold ConfMay at this; omega⟩
      exact lmRef_yes (Has.new W) c hc hn hT lv _ _ _
  refine key.mono fun r W' ⟨hr, hb⟩ => ⟨_, hr, ?_⟩
  exact law_post laidOut (by rw [Tryz.params3]; decide +kernel) rfl Tryz.underlying4 rfl rfl hW' (hb.toBelow fun _ _ h => h)
theorem limitRefuses_said : Rows.LimitRefusesSaid :=
  OpenClaim.holds_of_cond 3 Tryz.f3 rfl rfl rfl rfl rfl rfl rfl ⟨rfl, rfl, rfl, rfl, rfl⟩ rfl rfl rfl rfl rfl (by kernel_rfl) Tryz.func3 (by kernel_rfl)
    (of_decide_eq_true (by kernel_rfl)) (by unfold Func.isWrapper; first | (rw [if_pos (by decide +kernel)]; kernel_rfl) | (rw [if_neg (by decide +kernel)]; exact ⟨rfl, rfl⟩))
    (fun os started H enc _ F => by rw [OpenClaim.pre_eq_preRow]; exact limitRefuses_lifted os started H enc F)
theorem limitRefuses_plain (f : FuncId) (fn : Func) (hf : Tryz.pinned.checked.prog.funcNamed "burnbag/burnbaglaw39.LimitRefuses" = some f) (hfn : Tryz.pinned.checked.prog.funcs[f]? = some fn) :
    true = Tryz.pinned.checked.prog.looks [] ∧ ∀ (j : Nat) t, fn.params[j]? = some t → Tryz.pinned.checked.prog.wantsStandIn t = false := by
  obtain rfl : f = 3 := Option.some.inj ((show Tryz.prog.funcNamed "burnbag/burnbaglaw39.LimitRefuses" = some 3 by kernel_rfl).symm.trans hf) |>.symm
  obtain rfl : fn = Tryz.f3 := (Option.some.inj (Tryz.func3.symm.trans hfn)).symm
  refine ⟨by kernel_rfl, fun j t ht => ?_⟩
  rw [Tryz.params3] at ht
  rcases j with _ | _ | _ | j
  · cases ht; exact (show Tryz.prog.wantsStandIn 24 = false by kernel_rfl)
  · cases ht; exact (show Tryz.prog.wantsStandIn 3 = false by kernel_rfl)
  · cases ht; exact (show Tryz.prog.wantsStandIn 25 = false by kernel_rfl)
  · simp at ht
theorem limitRefuses_holds : Rows.LimitRefusesCardSaid :=
  Claim7.holds_tied_plain_at .later [] _ _ _ _ limitRefuses_said (fun _ h => by cases h) (by kernel_rfl) (fun _ h => by cases h) limitRefuses_row_tie rfl ⟨rfl, rfl⟩ (by kernel_rfl) rfl limitRefuses_plain (by kernel_rfl)
#print axioms limitRefuses_holds
end Go.Proofs.YtmfpablmmjaccaaGreatDoor
