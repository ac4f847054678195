/- LimboCrowd returns true for any configuration and any row of pairs, and leaves its arguments as they were. No condition. -/
import Derived.Test.YtjeeldacnllipaaGreatLpI
namespace Go.Proofs.YtjeeldacnllipaaGreat
set_option maxHeartbeats 100000000
set_option maxRecDepth 20000
set_option linter.unusedVariables false
set_option linter.unusedSimpArgs false
set_option linter.unnecessarySimpa false
section
section
open Go.ChangeShapes Go.WideShapes Go.ChangeAt Go.RowKit Go.ChangeMaps
theorem cellsConf : Tryz.prog.cellsOf 24 = 14 := by kernel_rfl
theorem typesConf : Tryz.prog.cellTypes Tryz.prog.depth 24 = some (List.replicate 14 3) := by kernel_rfl
set_option maxRecDepth 100000 in
theorem pJ (os : Os) (started : os.Started) (H : Type) (enc : TypeId × Value → H) :
  ReturnsInHanded {} Tryz.checked os 4 .any (Rows.limboCrowdSpec.pre6 enc Tryz.prog Tryz.f4 Rows.limboCrowdRow.domain false) (Rows.limboCrowdSpec.post enc Tryz.prog Tryz.f4 false true false false) := by
 refine returnsInHanded_of_change (C := Tryz.checked) own started (by kernel_rfl) Tryz.func4
  (ChangeSpec.witness6 (enc := enc) (C := Tryz.checked) false ⟨#[], #[.agg #[.int .i64 0, .int .i64 0, .int .i64 0, .int .i64 0, .int .i64 0, .int .i64 0, .int .i64 0, .int .i64 0, .int .i64 0, .int .i64 0, .int .i64 0, .int .i64 0, .int .i64 0, .int .i64 0], .slice none 0 0], []⟩ 8 (by kernel_rfl) (by kernel_rfl) (by kernel_rfl) (by kernel_rfl)) ?_
 intro W base args ds gs before hval0 hW _ _
 have hval : ∀ (j : Nat) t v, Tryz.f4.params[j]? = some t → args[j]? = some v → Value.okWide Tryz.prog W .any base t v := hval0
 have hW' := hW
 obtain ⟨p, q, hA0, hV, rfl, hfz, hnd⟩ := hW
 have hA : DataW.TrodAll enc Tryz.prog W 0 (fun _ => true) true Tryz.f4.params.toList args.toList ds p := hA0
 rw [Tryz.params4] at hA hval
 obtain ⟨v0, vs0, d0, ds0, p0, q0, hargs, rfl, rfl, h0, r0⟩ := trodAll_cons hA
 obtain ⟨v1, vs1, d1, ds1, p1, q1, rfl, rfl, rfl, h1, r1⟩ := trodAll_cons r0
 obtain ⟨rfl, rfl, rfl⟩ := trodAll_nil r1
 obtain rfl : args = #[v0, v1] := by cases args; simp_all
 obtain ⟨rfl, rfl⟩ := trodVars_none hV
 obtain ⟨c, rfl, _⟩ := kQ Tryz.underlying24 cellsConf typesConf Tryz.underlying3 (hval 0 _ v0 rfl rfl)
 obtain ⟨L, A, n, cap, rfl, hl, hr⟩ := open_pairs (hval 1 _ v1 rfl rfl) h1
 have key : Calls Tryz.prog 4 #[yM c, .slice A n cap] W fun r w' => r = .returned (.bool true) ∧ Has W (World.mm W) w' := by
  cases hm : yP c
  ·exact lcCrowd_no (Has.new W) c A n cap hm
  have hc := rY hm
  obtain ⟨lev, B, S, hn⟩ := Nums.of hc
  by_cases h60 : n ≤ 1200
  ·obtain ⟨gens, hg⟩ : ∃ gens : Nat, c 12 = (gens : Nat) := ⟨(c 12).toNat, by have := hc; unfold zF at this; omega⟩
   obtain ⟨T, hT⟩ : ∃ T : Nat, c 1 = (T : Nat) := ⟨(c 1).toNat, by have := hc; unfold zF at this; omega⟩
   exact lcCrowd_long (Has.new W) c hc hn hg hT hr hl h60
  exact lcCrowd_many (Has.new W) c hc hn A n cap hm (by omega)
 refine key.mono fun r W' ⟨hr, hb⟩ => ⟨_, hr, ?_⟩
 exact law_post laidOut (by rw [Tryz.params4]; decide +kernel) rfl Tryz.underlying4 rfl rfl hW' (hb.toBelow fun _ _ h => h)
theorem limboCrowd_holds : Rows.LimboCrowdSaid :=
 OpenClaim.holds_of_wide 4 Tryz.f4 rfl rfl rfl rfl rfl rfl rfl ⟨rfl, rfl, rfl, rfl, rfl⟩ rfl rfl rfl rfl rfl (by kernel_rfl) Tryz.func4 (by kernel_rfl)
  (of_decide_eq_true (by kernel_rfl)) (by unfold Func.isWrapper; first | (rw [if_pos (by decide +kernel)]; kernel_rfl) | (rw [if_neg (by decide +kernel)]; exact ⟨rfl, rfl⟩))
  (fun os started H enc _ => pJ os started H enc)
#print axioms limboCrowd_holds
end
end
end Go.Proofs.YtjeeldacnllipaaGreat
