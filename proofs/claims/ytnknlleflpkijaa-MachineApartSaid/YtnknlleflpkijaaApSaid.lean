/- MachineApart returns true for any configuration and any list of acts, and leaves its arguments as they were. No condition. -/
import Derived.Test.YtnknlleflpkijaaApF
import Derived.Test.YtnknlleflpkijaaApOpen
namespace Go.Proofs.Ytnknlleflpkijaa
open Go.ChangeShapes Go.WideShapes Go.ChangeAt Go.RowKit Go.ChangeMaps

set_option maxRecDepth 100000 in
theorem machineApart_lifted (os : Os) (started : os.Started) (H : Type) (enc : TypeId × Value → H) :
    ReturnsInHanded {} Try.checked os 3 .any (Rows.machineApartSpec.pre6 enc Try.prog Try.f3 Rows.machineApartRow.domain false) (Rows.machineApartSpec.post enc Try.prog Try.f3 false true false false) := by
  refine returnsInHanded_of_change (C := Try.checked) own started (by kernel_rfl) Try.func3
    (ChangeSpec.witness6 (enc := enc) (C := Try.checked) false ⟨#[], #[.agg #[.int .i64 0, .int .i64 0, .int .i64 0, .int .i64 0, .int .i64 0, .int .i64 0, .int .i64 0, .int .i64 0, .int .i64 0, .int .i64 0, .int .i64 0, .int .i64 0, .int .i64 0, .int .i64 0], .slice none 0 0], []⟩ 8 (by kernel_rfl) (by kernel_rfl) (by kernel_rfl) (by kernel_rfl)) ?_
  intro W base args ds gs before hval0 hW _ _
  have hval : ∀ (j : Nat) t v, Try.f3.params[j]? = some t → args[j]? = some v → Value.okWide Try.prog W .any base t v := hval0
  have hW' := hW
  obtain ⟨p, q, hA0, hV, rfl, hfz, hnd⟩ := hW
  have hA : DataW.TrodAll enc Try.prog W 0 (fun _ => true) true Try.f3.params.toList args.toList ds p := hA0
  rw [Try.params3] at hA hval
  obtain ⟨v0, vs0, d0, ds0, p0, q0, hargs, rfl, rfl, h0, r0⟩ := trodAll_cons hA
  obtain ⟨v1, vs1, d1, ds1, p1, q1, rfl, rfl, rfl, h1, r1⟩ := trodAll_cons r0
  obtain ⟨rfl, rfl, rfl⟩ := trodAll_nil r1
  obtain rfl : args = #[v0, v1] := by cases args; simp_all
  obtain ⟨rfl, rfl⟩ := trodVars_none hV
  obtain ⟨c, rfl, _⟩ := open_ints_agg Try.underlying24 cellsConf typesConf Try.underlying3 (hval 0 _ v0 rfl rfl)
  obtain ⟨L, A, n, cap, rfl, hl, hr⟩ := open_acts (hval 1 _ v1 rfl rfl) h1
  have key : Calls Try.prog 3 #[confV c, .slice A n cap] W fun r w' => r = .returned (.bool true) ∧ Has W (World.mm W) w' := by
    by_cases hs : confMayB c = false ∨ 40 < n
    · exact apart_short (Has.new W) c hs
    · have hm : confMayB c = true := by
        cases e : confMayB c
        · exact absurd (Or.inl e) hs
        · rfl
      have hc := confMay_of hm
      obtain ⟨L', B, S, hn⟩ := Nums.of hc
      exact apart_long (Has.new W) c hc hn hr hl (by omega)
  refine key.mono fun r W' ⟨hr, hb⟩ => ⟨_, hr, ?_⟩
  exact law_post laidOut (by rw [Try.params3]; decide +kernel) rfl Try.underlying4 rfl rfl hW' (hb.toBelow fun _ _ h => h)

theorem machineApart_holds : Rows.MachineApartSaid :=
  OpenClaim.holds_of_wide 3 Try.f3 rfl rfl rfl rfl rfl rfl rfl ⟨rfl, rfl, rfl, rfl, rfl⟩ rfl rfl rfl rfl rfl (by kernel_rfl) Try.func3 (by kernel_rfl)
    (of_decide_eq_true (by kernel_rfl)) (by unfold Func.isWrapper; first | (rw [if_pos (by decide +kernel)]; kernel_rfl) | (rw [if_neg (by decide +kernel)]; exact ⟨rfl, rfl⟩))
    (fun os started H enc _ => machineApart_lifted os started H enc)
#print axioms machineApart_holds
end Go.Proofs.Ytnknlleflpkijaa
