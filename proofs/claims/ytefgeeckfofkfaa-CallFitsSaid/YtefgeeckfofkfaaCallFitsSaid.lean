/- CallFits returns true for any call and any two answers, and leaves its arguments as they were. No condition. -/
import Derived.Test.YtefgeeckfofkfaaCallFits
import Derived.ChangeMaps5
namespace Go.Proofs.Ytefgeeckfofkfaa
open Go.ChangeShapes Go.WideShapes Go.ChangeAt Go.RowKit Go.ChangeMaps

theorem cellsCall : Try.prog.cellsOf 26 = 7 := by kernel_rfl
theorem typesCall : Try.prog.cellTypes Try.prog.depth 26 = some [3, 3, 2, 22, 22, 22, 3] := by kernel_rfl
def callKinds (i : Nat) : IntKind := if i = 3 ∨ i = 4 ∨ i = 5 then .u64 else .i64
theorem open_call {w : World} {r : Reach} {b : Nat} {v : Value} (hv : Value.okWide Try.prog w r b 26 v) :
    ∃ c : Nat → Int, v = .agg (callCs (c 0) (c 1) (c 2) (c 3) (c 4) (c 5) (c 6)) ∧ ∀ i, i < 7 → (callKinds i).min ≤ c i ∧ c i ≤ (callKinds i).max := by
  obtain ⟨c, hc, hr⟩ := open_mixed (kk := callKinds) Try.underlying26 cellsCall typesCall rfl (fun i hi => by
    rcases (by omega : i = 0 ∨ i = 1 ∨ i = 2 ∨ i = 3 ∨ i = 4 ∨ i = 5 ∨ i = 6) with rfl | rfl | rfl | rfl | rfl | rfl | rfl
    all_goals exact ⟨_, rfl, by kernel_rfl⟩) hv
  exact ⟨c, hc, hr⟩

theorem cellsAns : Try.prog.cellsOf 37 = 6 := by kernel_rfl
theorem typesAns : Try.prog.cellTypes Try.prog.depth 37 = some [35, 22, 22, 22, 3, 2] := by kernel_rfl
def ansKinds (i : Nat) : IntKind := if i = 1 ∨ i = 2 ∨ i = 3 then .u64 else .i64
theorem open_ans {w : World} {r : Reach} {b : Nat} {v : Value} (hv : Value.okWide Try.prog w r b 37 v) :
    ∃ c : Nat → Int, v = .agg (ansCs (c 0) (c 1) (c 2) (c 3) (c 4) (c 5)) ∧ ∀ i, i < 6 → (ansKinds i).min ≤ c i ∧ c i ≤ (ansKinds i).max := by
  obtain ⟨c, hc, hr⟩ := open_mixed (kk := ansKinds) Try.underlying37 cellsAns typesAns rfl (fun i hi => by
    rcases (by omega : i = 0 ∨ i = 1 ∨ i = 2 ∨ i = 3 ∨ i = 4 ∨ i = 5) with rfl | rfl | rfl | rfl | rfl | rfl
    all_goals exact ⟨_, rfl, by kernel_rfl⟩) hv
  exact ⟨c, hc, hr⟩

set_option maxRecDepth 100000 in
theorem callFits_lifted (os : Os) (started : os.Started) (H : Type) (enc : TypeId × Value → H) :
    ReturnsInHanded {} Try.checked os 4 .any (Rows.callFitsSpec.pre6 enc Try.prog Try.f4 Rows.callFitsRow.domain false) (Rows.callFitsSpec.post enc Try.prog Try.f4 false true false false) := by
  refine returnsInHanded_of_change (C := Try.checked) own started (by kernel_rfl) Try.func4
    (ChangeSpec.witness6 (enc := enc) (C := Try.checked) false ⟨#[], #[.agg #[.int .i64 0, .int .i64 0, .int .i64 0, .int .u64 0, .int .u64 0, .int .u64 0, .int .i64 0], .agg #[.int .i64 0, .int .u64 0, .int .u64 0, .int .u64 0, .int .i64 0, .int .i64 0], .agg #[.int .i64 0, .int .u64 0, .int .u64 0, .int .u64 0, .int .i64 0, .int .i64 0]], []⟩ 8 (by kernel_rfl) (by kernel_rfl) (by kernel_rfl) (by kernel_rfl)) ?_
  intro W base args ds gs before hval0 hW _ _
  have hval : ∀ (j : Nat) t v, Try.f4.params[j]? = some t → args[j]? = some v → Value.okWide Try.prog W .any base t v := hval0
  have hW' := hW
  obtain ⟨p, q, hA0, hV, rfl, hfz, hnd⟩ := hW
  have hA : DataW.TrodAll enc Try.prog W 0 (fun _ => true) true Try.f4.params.toList args.toList ds p := hA0
  rw [Try.params4] at hA hval
  obtain ⟨v0, vs0, d0, ds0, p0, q0, hargs, rfl, rfl, h0, r0⟩ := trodAll_cons hA
  obtain ⟨v1, vs1, d1, ds1, p1, q1, rfl, rfl, rfl, h1, r1⟩ := trodAll_cons r0
  obtain ⟨v2, vs2, d2, ds2, p2, q2, rfl, rfl, rfl, h2, r2⟩ := trodAll_cons r1
  obtain ⟨rfl, rfl, rfl⟩ := trodAll_nil r2
  obtain rfl : args = #[v0, v1, v2] := by cases args; simp_all
  obtain ⟨rfl, rfl⟩ := trodVars_none hV
  obtain ⟨c, rfl, _⟩ := open_call (hval 0 _ v0 rfl rfl)
  obtain ⟨x, rfl, hx⟩ := open_ans (hval 1 _ v1 rfl rfl)
  obtain ⟨y, rfl, _⟩ := open_ans (hval 2 _ v2 rfl rfl)
  have hh : 0 ≤ x 3 := (hx 3 (by omega)).1
  refine (callFits_walk (c 0) (c 1) (c 2) (c 3) (c 4) (c 5) (c 6) (x 0) (x 1) (x 2) (x 3) (x 4) (x 5) (y 0) (y 1) (y 2) (y 3) (y 4) (y 5) hh W).mono fun r W' ⟨hr, hb⟩ => ⟨_, hr, ?_⟩
  exact law_post laidOut (by rw [Try.params4]; decide +kernel) rfl Try.underlying4 rfl rfl hW' hb

theorem callFits_holds : Rows.CallFitsSaid :=
  OpenClaim.holds_of_wide 4 Try.f4 rfl rfl rfl rfl rfl rfl rfl ⟨rfl, rfl, rfl, rfl, rfl⟩ rfl rfl rfl rfl rfl (by kernel_rfl) Try.func4 (by kernel_rfl)
    (of_decide_eq_true (by kernel_rfl)) (by unfold Func.isWrapper; first | (rw [if_pos (by decide +kernel)]; kernel_rfl) | (rw [if_neg (by decide +kernel)]; exact ⟨rfl, rfl⟩))
    (fun os started H enc _ => callFits_lifted os started H enc)
#print axioms callFits_holds
end Go.Proofs.Ytefgeeckfofkfaa
