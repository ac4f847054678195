/- StockNone returns true for any configuration, thread and routine, and leaves its arguments as they were. No condition. -/
import Derived.Test.YtefjjagejgeedaaStNone
import Derived.ChangeMaps5
namespace Go.Proofs.Ytefjjagejgeedaa
section
open Go.ChangeShapes Go.WideShapes Go.ChangeAt Go.RowKit Go.ChangeMaps
set_option linter.unusedVariables false
theorem cellsConf : Try.prog.cellsOf 24 = 14 := by kernel_rfl
theorem typesConf : Try.prog.cellTypes Try.prog.depth 24 = some (List.replicate 14 3) := by kernel_rfl

set_option maxRecDepth 100000 in
theorem stockNone_lifted (os : Os) (started : os.Started) (H : Type) (enc : TypeId × Value → H) :
    ReturnsInHanded {} Try.checked os 3 .any (Rows.stockNoneSpec.pre6 enc Try.prog Try.f3 Rows.stockNoneRow.domain false) (Rows.stockNoneSpec.post enc Try.prog Try.f3 false true false false) := by
  refine returnsInHanded_of_change (C := Try.checked) own started (by kernel_rfl) Try.func3
    (ChangeSpec.witness6 (enc := enc) (C := Try.checked) false ⟨#[], #[.agg #[.int .i64 0, .int .i64 0, .int .i64 0, .int .i64 0, .int .i64 0, .int .i64 0, .int .i64 0, .int .i64 0, .int .i64 0, .int .i64 0, .int .i64 0, .int .i64 0, .int .i64 0, .int .i64 0], .int .i64 0, .int .i64 0], []⟩ 8 (by kernel_rfl) (by kernel_rfl) (by kernel_rfl) (by kernel_rfl)) ?_
  intro W base args ds gs before hval0 hW _ _
  have hval : ∀ (j : Nat) t v, Try.f3.params[j]? = some t → args[j]? = some v → Value.okWide Try.prog W .any base t v := hval0
  have hW' := hW
  obtain ⟨p, q, hA0, hV, rfl, hfz, hnd⟩ := hW
  have hA : DataW.TrodAll enc Try.prog W 0 (fun _ => true) true Try.f3.params.toList args.toList ds p := hA0
  rw [Try.params3] at hA hval
  obtain ⟨v0, vs0, d0, ds0, p0, q0, hargs, rfl, rfl, h0, r0⟩ := trodAll_cons hA
  obtain ⟨v1, vs1, d1, ds1, p1, q1, rfl, rfl, rfl, h1, r1⟩ := trodAll_cons r0
  obtain ⟨v2, vs2, d2, ds2, p2, q2, rfl, rfl, rfl, h2, r2⟩ := trodAll_cons r1
  obtain ⟨rfl, rfl, rfl⟩ := trodAll_nil r2
  obtain rfl : args = #[v0, v1, v2] := by cases args; simp_all
  obtain ⟨rfl, rfl⟩ := trodVars_none hV
  obtain ⟨c, rfl, _⟩ := open_ints_agg Try.underlying24 cellsConf typesConf Try.underlying3 (hval 0 _ v0 rfl rfl)
  obtain ⟨t, rfl, rfl, rfl, _⟩ := open_int Try.underlying3 (hval 1 _ v1 rfl rfl) h1
  obtain ⟨fn, rfl, rfl, rfl, _⟩ := open_int Try.underlying3 (hval 2 _ v2 rfl rfl) h2
  have key : Calls Try.prog 3 #[confV c, .int .i64 t, .int .i64 fn] W fun r w' => r = .returned (.bool true) ∧ Has W (World.mm W) w' := by
    cases hm : confMayB c
    · exact none_short (Has.new W) c t fn hm
    · have hc := confMay_of hm
      obtain ⟨L, B, S, hn⟩ := Nums.of hc
      by_cases ht : 0 ≤ t ∧ t < c 1
      · obtain ⟨tn, rfl⟩ : ∃ tn : Nat, t = (tn : Int) := ⟨t.toNat, by omega⟩
        exact none_in (Has.new W) c hc hn tn fn ht.2
      · refine none_out (Has.new W) c hc hn t fn ?_
        unfold levelOf
        exact if_neg fun g => ht ⟨g.2.1, by have := g.2.2; omega⟩
  refine key.mono fun r W' ⟨hr, hb⟩ => ⟨_, hr, ?_⟩
  exact law_post laidOut (by rw [Try.params3]; decide +kernel) rfl Try.underlying4 rfl rfl hW' (hb.toBelow fun _ _ h => h)

theorem stockNone_holds : Rows.StockNoneSaid :=
  OpenClaim.holds_of_wide 3 Try.f3 rfl rfl rfl rfl rfl rfl rfl ⟨rfl, rfl, rfl, rfl, rfl⟩ rfl rfl rfl rfl rfl (by kernel_rfl) Try.func3 (by kernel_rfl)
    (of_decide_eq_true (by kernel_rfl)) (by unfold Func.isWrapper; first | (rw [if_pos (by decide +kernel)]; kernel_rfl) | (rw [if_neg (by decide +kernel)]; exact ⟨rfl, rfl⟩))
    (fun os started H enc _ => stockNone_lifted os started H enc)
#print axioms stockNone_holds
end
end Go.Proofs.Ytefjjagejgeedaa
