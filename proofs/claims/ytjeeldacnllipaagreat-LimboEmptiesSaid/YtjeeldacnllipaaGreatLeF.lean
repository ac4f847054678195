/- LimboEmpties returns true for any configuration and any two numbers, and leaves its arguments as they were. No condition. -/
import Derived.Test.YtjeeldacnllipaaGreatLeMachT
import Derived.Test.YtjeeldacnllipaaGreatLePut1
import Derived.Test.YtjeeldacnllipaaGreatLeWalk
import Derived.ChangeSlices
import Derived.Deep.Slices
import Derived.Deep.Fields
import Derived.ChangeSame
import Derived.ChangeArms
import Derived.OpenShut
import Derived.ChangeMaps5
import Derived.Test.YtjeeldacnllipaaGreatLeG
namespace Go.Proofs.YtjeeldacnllipaaGreat
set_option linter.unusedVariables false
set_option linter.unusedSimpArgs false
set_option linter.unnecessarySimpa false
section
open Go.RowKit
/-- What is known, but for a row of the law's. -/
def outK (K M : Mm) (labK : Nat → Nat) (j : Nat) : Mm := fun c => match K c with | none => M c | some _ => if labK c = j then none else M c
section
variable {K M M' K' : Mm} {lab lab' labK labK' : Nat → Nat} {p n sz j : Nat} {s : MachS} {e : TypeId} {v : Value} {xs : List Value}
theorem Row.up (h : Row K labK j e sz v n xs) (hB : K.le M) : Own (outK K M labK j) M e sz v n xs := by
 obtain ⟨hl, ⟨hv, h0⟩ | ⟨g, cap, cur, hv, hg, hh, r⟩⟩ := h
 ·exact ⟨hl, .inl ⟨hv, h0⟩⟩
 ·have hgk : labK g = j := by
   by_cases e : labK g = j
   ·exact e
   ·rw [Mm.out_of hh e] at hg; cases hg
  refine ⟨hl, .inr ⟨g, cap, cur, hv, ?_, hB _ _ hh, r⟩⟩
  unfold outK
  rw [hh]
  simp only [if_pos hgk]
end
end
section
section
open Go.ChangeShapes Go.WideShapes Go.ChangeAt Go.RowKit Go.ChangeMaps
theorem cellsConf : Tryz.prog.cellsOf 24 = 14 := by kernel_rfl
theorem typesConf : Tryz.prog.cellTypes Tryz.prog.depth 24 = some (List.replicate 14 3) := by kernel_rfl
set_option maxRecDepth 100000 in
theorem limboEmpties_lifted (os : Os) (started : os.Started) (H : Type) (enc : TypeId × Value → H) :
  ReturnsInHanded {} Tryz.checked os 5 .any (Rows.limboEmptiesSpec.pre6 enc Tryz.prog Tryz.f5 Rows.limboEmptiesRow.domain false) (Rows.limboEmptiesSpec.post enc Tryz.prog Tryz.f5 false true false false) := by
 refine returnsInHanded_of_change (C := Tryz.checked) own started (by kernel_rfl) Tryz.func5
  (ChangeSpec.witness6 (enc := enc) (C := Tryz.checked) false ⟨#[], #[.agg #[.int .i64 0, .int .i64 0, .int .i64 0, .int .i64 0, .int .i64 0, .int .i64 0, .int .i64 0, .int .i64 0, .int .i64 0, .int .i64 0, .int .i64 0, .int .i64 0, .int .i64 0, .int .i64 0], .int .i64 0, .int .i64 0], []⟩ 8 (by kernel_rfl) (by kernel_rfl) (by kernel_rfl) (by kernel_rfl)) ?_
 intro W base args ds gs before hval0 hW _ _
 have hval : ∀ (j : Nat) t v, Tryz.f5.params[j]? = some t → args[j]? = some v → Value.okWide Tryz.prog W .any base t v := hval0
 have hW' := hW
 obtain ⟨p, q, hA0, hV, rfl, hfz, hnd⟩ := hW
 have hA : DataW.TrodAll enc Tryz.prog W 0 (fun _ => true) true Tryz.f5.params.toList args.toList ds p := hA0
 rw [Tryz.params5] at hA hval
 obtain ⟨v0, vs0, d0, ds0, p0, q0, hargs, rfl, rfl, h0, r0⟩ := trodAll_cons hA
 obtain ⟨v1, vs1, d1, ds1, p1, q1, rfl, rfl, rfl, h1, r1⟩ := trodAll_cons r0
 obtain ⟨v2, vs2, d2, ds2, p2, q2, rfl, rfl, rfl, h2, r2⟩ := trodAll_cons r1
 obtain ⟨rfl, rfl, rfl⟩ := trodAll_nil r2
 obtain rfl : args = #[v0, v1, v2] := by cases args; simp_all
 obtain ⟨rfl, rfl⟩ := trodVars_none hV
 obtain ⟨c, rfl, _⟩ := open_ints_agg Tryz.underlying24 cellsConf typesConf Tryz.underlying3 (hval 0 _ v0 rfl rfl)
 have hv1 : Value.okWide Tryz.prog _ .any base 3 v1 := hval 1 _ v1 rfl rfl
 obtain ⟨many, rfl, _⟩ := open_int Tryz.underlying3 hv1 h1
 have hv2 : Value.okWide Tryz.prog _ .any base 3 v2 := hval 2 _ v2 rfl rfl
 obtain ⟨t, rfl, _⟩ := open_int Tryz.underlying3 hv2 h2
 have key : Calls Tryz.prog 5 #[confV c, .int .i64 many, .int .i64 t] W fun r w' => r = .returned (.bool true) ∧ Has W (World.mm W) w' := by
  cases hm : confMayB c
  ·exact lEmp_no (Has.new W) c many t hm
  ·have hc := confMay_of hm
   obtain ⟨lev, B, S, hn⟩ := Nums.of hc
   obtain ⟨T, hT⟩ : ∃ T : Nat, c 1 = (T : Nat) := ⟨(c 1).toNat, by have := hc; unfold ConfMay at this; omega⟩
   obtain ⟨gens, hg⟩ : ∃ T : Nat, c 12 = (T : Nat) := ⟨(c 12).toNat, by have := hc.2.2.2.2.2.2.1; omega⟩
   by_cases ht : many ≤ 100 ∧ 0 ≤ t ∧ t < (T : Int)
   ·obtain ⟨tn, rfl⟩ : ∃ tn : Nat, t = (tn : Nat) := ⟨t.toNat, by omega⟩
    exact lEmp_yes (Has.new W) c hc hn hT hg (by omega) many ht.1
   ·exact lEmp_out (Has.new W) c hc hn hT many t ht
 refine key.mono fun r W' ⟨hr, hb⟩ => ⟨_, hr, ?_⟩
 exact law_post laidOut (by rw [Tryz.params5]; decide +kernel) rfl Tryz.underlying4 rfl rfl hW' (hb.toBelow fun _ _ h => h)
theorem limboEmpties_holds : Rows.LimboEmptiesSaid :=
 OpenClaim.holds_of_wide 5 Tryz.f5 rfl rfl rfl rfl rfl rfl rfl ⟨rfl, rfl, rfl, rfl, rfl⟩ rfl rfl rfl rfl rfl (by kernel_rfl) Tryz.func5 (by kernel_rfl)
  (of_decide_eq_true (by kernel_rfl)) (by unfold Func.isWrapper; first | (rw [if_pos (by decide +kernel)]; kernel_rfl) | (rw [if_neg (by decide +kernel)]; exact ⟨rfl, rfl⟩))
  (fun os started H enc _ => limboEmpties_lifted os started H enc)
#print axioms limboEmpties_holds
end
end
end Go.Proofs.YtjeeldacnllipaaGreat
