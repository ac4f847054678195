/- The document's Same, of rows of numbers that read alike. -/
import Derived.Test.YtmfpablmmjaccaaGreatDoorWalk
import Derived.Test.YtmfpablmmjaccaaGreatDoorThr
namespace Go.Proofs.YtmfpablmmjaccaaGreatDoor
open Go.RowKit
set_option linter.unusedVariables false
set_option linter.unusedSimpArgs false
set_option linter.unnecessarySimpa false
set_option maxHeartbeats 1000000 in
/-- Same, of rows that read alike. -/
theorem refSame_eq {σ w : World} {M : Mm} (h : Has σ M w) {va vb : Value} {n : Nat} {l : List Int} (ha : Rd M 1 va n (u64s l)) (hb : Rd M 1 vb n (u64s l)) (hn : n ≤ 100000) : Calls Tryz.prog 13 #[va, vb] w fun r w' => r = .returned (.bool true) ∧ Has σ M w' := by
  have hl : l.length = n := by have := ha.1; simp [u64s] at this; exact this
  obtain ⟨_, A, ca, rfl, _, hA⟩ := ha
  obtain ⟨_, B, cb, rfl, _, hB⟩ := hb
  have HA := Lib.hid hA
  have HB := Lib.hid hB
  clear hA hB
  go_enter Tryz.func13, Tryz.ntmps13
  go_wp2
  go_loopw [5] (fun i wr => ∃ k : Nat, k ≤ n ∧ i = .int .i64 (k : Nat) ∧ Has σ M wr) (fun i _ => n - (intOf i).toNat)
  case atStart => exact ⟨0, Nat.zero_le _, rfl, h⟩
  case round =>
    clear h w
    obtain ⟨w, rfl⟩ : ∃ x : World, x = wr := ⟨_, rfl⟩
    obtain ⟨k, hk, rfl, h⟩ := hrel
    by_cases hlt : k < n
    · have hlt' : (k : Int) < (n : Int) := by omega
      obtain ⟨ba, oa, csa, ta, fa, rfl, hMa, hxa⟩ := HA.out (by omega)
      obtain ⟨bb, ob, csb, tb, fb, rfl, hMb, hxb⟩ := HB.out (by omega)
      obtain ⟨v, hv⟩ : ∃ v, l[k]? = some v := ⟨_, List.getElem?_eq_getElem (by omega)⟩
      have ga : csa[oa + k]? = some (.int .u64 v) := hxa k _ (by simp [u64s, hv])
      have gb : csb[ob + k]? = some (.int .u64 v) := hxb k _ (by simp [u64s, hv])
      clear hxa hxb hv
      go_upto_region 6 with (fail)
      refine wp_region_class (Has σ M) (by kernel_rfl) (by kernel_rfl) h.drew ?_
      clear h
      repeat (first
        | go_big_quiet_skip
        | (go_big_quiet_want; first
          | (refine quiet_load_has 37 _ rfl rfl hMa ga Tryz.underlying37 rfl ?_; simp only [Act.put, List.setIfInBounds_toArray, List.set_cons_zero, List.set_cons_succ]; go_big_quiet_on)
          | (refine quiet_load_has 37 _ rfl rfl hMb gb Tryz.underlying37 rfl ?_; simp only [Act.put, List.setIfInBounds_toArray, List.set_cons_zero, List.set_cons_succ]; go_big_quiet_on)
          | (go_big_quiet_op; first | go_big_quiet_on | go_big_quiet_call (first | with_reducible exact fun _ => rfl))))
      refine wpQuiet_nil ?_
      try clear w
      intro w h
      go_wp2
      go_roundw
      case rel => exact ⟨k + 1, by omega, by go_num, h⟩
      case measure => simp [intOf]; omega
    · obtain rfl : k = n := by omega
      go_wp2
      go_ret
      exact ⟨rfl, h⟩
end Go.Proofs.YtmfpablmmjaccaaGreatDoor
