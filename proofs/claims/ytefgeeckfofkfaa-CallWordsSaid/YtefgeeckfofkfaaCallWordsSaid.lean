/- CallWords returns true for any call and any word, and leaves its arguments as they were. No condition. -/
import Derived.Test.YtefgeeckfofkfaaCallWords
import Derived.ChangeMaps5
namespace Go.Proofs.Ytefgeeckfofkfaa
open Go.ChangeShapes Go.WideShapes Go.ChangeAt Go.RowKit Go.ChangeMaps

theorem cellsCall : Try.prog.cellsOf 26 = 7 := by kernel_rfl
theorem typesCall : Try.prog.cellTypes Try.prog.depth 26 = some [3, 3, 2, 22, 22, 22, 3] := by kernel_rfl
def callKinds (i : Nat) : IntKind := if i = 3 ∨ i = 4 ∨ i = 5 then .u64 else .i64
theorem open_call {w : World} {r : Reach} {b : Nat} {v : Value} (hv : Value.okWide Try.prog w r b 26 v) :
    ∃ c : Nat → Int, v = .agg (callCs (c 0) (c 1) (c 2) (c 3) (c 4) (c 5) (c 6)) ∧ ∀ i, i < 7 → (callKinds i).min ≤ c i ∧ c i ≤ (callKinds i).max := by
  obtain ⟨c, hc, hr⟩ := open_mixed (kk := callKinds) Try.underlying26 cellsCall typesCall rfl (fun i hi => by
    rcases (by omega : i = 0 ∨ i = 1 ∨ i = 2 ∨ i = 3 ∨ i = 4 ∨ i = 5 ∨ i = 6) with rfl | rfl | rfl | rfl | rfl | rfl | rfl
    all_goals exact ⟨_, rfl, by kernel_rfl⟩) hv
  exact ⟨c, hc, hr⟩

set_option maxRecDepth 100000 in
theorem callWords_lifted (os : Os) (started : os.Started) (H : Type) (enc : TypeId × Value → H) :
    ReturnsInHanded {} Try.checked os 3 .any (Rows.callWordsSpec.pre6 enc Try.prog Try.f3 Rows.callWordsRow.domain false) (Rows.callWordsSpec.post enc Try.prog Try.f3 false true false false) := by
  refine returnsInHanded_of_change (C := Try.checked) own started (by kernel_rfl) Try.func3
    (ChangeSpec.witness6 (enc := enc) (C := Try.checked) false ⟨#[], #[.agg #[.int .i64 0, .int .i64 0, .int .i64 0, .int .u64 0, .int .u64 0, .int .u64 0, .int .i64 0], .string ⟨#[]⟩], []⟩ 8 (by kernel_rfl) (by kernel_rfl) (by kernel_rfl) (by kernel_rfl)) ?_
  intro W base args ds gs before hval0 hW _ _
  have hval : ∀ (j : Nat) t v, Try.f3.params[j]? = some t → args[j]? = some v → Value.okWide Try.prog W .any base t v := hval0
  have hW' := hW
  obtain ⟨p, q, hA0, hV, rfl, hfz, hnd⟩ := hW
  have hA : DataW.TrodAll enc Try.prog W 0 (fun _ => true) true Try.f3.params.toList args.toList ds p := hA0
  rw [Try.params3] at hA hval
  obtain ⟨v0, vs0, d0, ds0, p0, q0, hargs, rfl, rfl, h0, r0⟩ := trodAll_cons hA
  obtain ⟨v1, vs1, d1, ds1, p1, q1, rfl, rfl, rfl, h1, r1⟩ := trodAll_cons r0
  obtain ⟨rfl, rfl, rfl⟩ := trodAll_nil r1
  obtain rfl : args = #[v0, v1] := by cases args; simp_all
  obtain ⟨rfl, rfl⟩ := trodVars_none hV
  obtain ⟨c, rfl, _⟩ := open_call (hval 0 _ v0 rfl rfl)
  obtain ⟨word, rfl, rfl, rfl, hm⟩ := open_string Try.underlying9 (hval 1 _ v1 rfl rfl) h1
  refine (callWords_walk (c 0) (c 1) (c 2) (c 3) (c 4) (c 5) (c 6) word hm W).mono fun r W' ⟨hr, hb⟩ => ⟨_, hr, ?_⟩
  exact law_post laidOut (by rw [Try.params3]; decide +kernel) rfl Try.underlying4 rfl rfl hW' hb

theorem callWords_holds : Rows.CallWordsSaid :=
  OpenClaim.holds_of_wide 3 Try.f3 rfl rfl rfl rfl rfl rfl rfl ⟨rfl, rfl, rfl, rfl, rfl⟩ rfl rfl rfl rfl rfl (by kernel_rfl) Try.func3 (by kernel_rfl)
    (of_decide_eq_true (by kernel_rfl)) (by unfold Func.isWrapper; first | (rw [if_pos (by decide +kernel)]; kernel_rfl) | (rw [if_neg (by decide +kernel)]; exact ⟨rfl, rfl⟩))
    (fun os started H enc _ => callWords_lifted os started H enc)
#print axioms callWords_holds
end Go.Proofs.Ytefgeeckfofkfaa
