/- Law 16: ProofMay. -/
import Derived.Test.YtigfmnfdphijaaaGreatDoorPfI
import Derived.Test.YtigfmnfdphijaaaGreatDoorMnH
namespace Go.Proofs.YtigfmnfdphijaaaGreatDoor
open Go.RowKit
set_option linter.unusedVariables false
set_option linter.unusedSimpArgs false
set_option linter.unnecessarySimpa false
set_option maxHeartbeats 1000000 in
/-- Ints, of rows that read alike. -/
theorem refInts_eq {σ w : World} {M : Mm} (h : Has σ M w) {va vb : Value} {n : Nat} {l : List Int} (hl : l.length = n) (ha : Rd M 1 va n (ints1 l)) (hb : Rd M 1 vb n (ints1 l)) (hn : n ≤ 100000) : Calls Tryz.prog 8 #[va, vb] w fun r w' => r = .returned (.bool true) ∧ Has σ M w' := by
  obtain ⟨_, A, ca, rfl, _, hA⟩ := ha
  obtain ⟨_, B, cb, rfl, _, hB⟩ := hb
  have HA := Lib.hid hA
  have HB := Lib.hid hB
  have HL := Lib.hid hl
  clear hA hB hl
  go_enter Tryz.func8, Tryz.ntmps8
  go_wp2
  go_loopw [5] (fun i wr => ∃ k : Nat, k ≤ n ∧ i = .int .i64 (k : Nat) ∧ Has σ M wr) (fun i _ => n - (intOf i).toNat)
  case atStart => exact ⟨0, Nat.zero_le _, rfl, h⟩
  case round =>
    clear h w
    obtain ⟨w, rfl⟩ : ∃ x : World, x = wr := ⟨_, rfl⟩
    obtain ⟨k, hk, rfl, h⟩ := hrel
    by_cases hlt : k < n
    · have hlt' : (k : Int) < (n : Int) := by omega
      obtain ⟨ba, oa, csa, ta, fa, rfl, hMa, hxa⟩ := HA.out (by omega)
      obtain ⟨bb, ob, csb, tb, fb, rfl, hMb, hxb⟩ := HB.out (by omega)
      obtain ⟨v, hv⟩ : ∃ v, l[k]? = some v := ⟨_, List.getElem?_eq_getElem (by have := HL.out; omega)⟩
      have ga : csa[oa + k]? = some (.int .i64 v) := hxa k _ (by simp [ints1, hv])
      have gb : csb[ob + k]? = some (.int .i64 v) := hxb k _ (by simp [ints1, hv])
      clear hxa hxb hv
      go_upto_region 6 with (fail)
      refine wp_region_class (Has σ M) (by kernel_rfl) (by kernel_rfl) h.drew ?_
      clear h
      repeat (first
        | go_big_quiet_skip
        | (go_big_quiet_want; first
          | (refine quiet_load_has 3 _ rfl rfl hMa ga Tryz.underlying3 rfl ?_; simp only [Act.put, List.setIfInBounds_toArray, List.set_cons_zero, List.set_cons_succ]; go_big_quiet_on)
          | (refine quiet_load_has 3 _ rfl rfl hMb gb Tryz.underlying3 rfl ?_; simp only [Act.put, List.setIfInBounds_toArray, List.set_cons_zero, List.set_cons_succ]; go_big_quiet_on)
          | (go_big_quiet_op; first | go_big_quiet_on | go_big_quiet_call (first | with_reducible exact fun _ => rfl))))
      refine wpQuiet_nil ?_
      try clear w
      intro w h
      go_wp2
      go_roundw
      case rel => exact ⟨k + 1, by omega, by go_num, h⟩
      case measure => simp [intOf]; omega
    · obtain rfl : k = n := by omega
      go_wp2
      go_ret
      exact ⟨rfl, h⟩
theorem nextO_len (l : List OpS) (order : List Int) : (NextO l order).length ≤ l.length := by
  have := nextK_le l order l.length
  exact this
set_option maxHeartbeats 4000000 in
set_option maxRecDepth 20000 in
theorem proofMay_eq {σ w : World} {M : Mm} (h : Has σ M w) (va vo : Value) (l : List OpS) (order : List Int) (n m : Nat) (hl : l.length = n) (hm : order.length = m) (ha : Rd M 16 va n (l.flatMap encO)) (ho : Rd M 1 vo m (ints1 order)) :
    Calls Tryz.prog 3 #[va, vo] w fun r w' => r = .returned (.bool true) ∧ Has σ M w' := by
  have LV := Lib.hid (fun (M' : Mm) (w : World) (h : Has σ M' w) => lives_eq h)
  by_cases hn : n ≤ 40 ∧ m ≤ 60
  · have MY := Lib.hid (fun (w : World) (h : Has σ M w) => may_eq h va vo l order n m hl hm ha ho (by omega) (by omega))
    have RM := Lib.hid (fun (w : World) (h : Has σ M w) => refMay_eq h va vo l order n m hl hm ha ho (by omega) (by omega))
    have NX := Lib.hid (fun (w : World) (h : Has σ M w) => next_eq h va vo l order n m hl hm ha ho (by omega) (by omega))
    have RN := Lib.hid (fun (M' : Mm) (hM : M.le M') (w : World) (h : Has σ M' w) => refNext_eq h va vo l order n m hl hm (ha.le hM) (ho.le hM) (by omega) (by omega))
    have IT := Lib.hid (fun (M' : Mm) (w : World) (h : Has σ M' w) (va vb : Value) (ha : Rd M' 1 va (NextO l order).length (ints1 (NextO l order))) (hb : Rd M' 1 vb (NextO l order).length (ints1 (NextO l order))) => refInts_eq h rfl ha hb (by have := nextO_len l order; omega))
    obtain ⟨A, c, rfl⟩ := ha.form
    obtain ⟨B, d, rfl⟩ := ho.form
    clear hl hm ha ho
    have d1 : decide ((40 : Int) < (n : Int)) = false := decide_eq_false (by omega)
    have d2 : decide ((60 : Int) < (m : Int)) = false := decide_eq_false (by omega)
    have d3 : decide (40 < n) = false := decide_eq_false (by omega)
    have d4 : decide (60 < m) = false := decide_eq_false (by omega)
    go_enter Tryz.func3, Tryz.ntmps3
    go_upto_region 3 with (fail)
    clear d1 d2 d3 d4 hn
    go_wp2_with (first
      | (go_at_call 6; go_loud (refine (MY.out _ h).mono ?_); clear h; rintro _ w ⟨b, rfl, hb, h⟩)
      | ((go_at_call 7; refine (RM.out _ h).mono ?_; clear h; rintro _ w ⟨b2, rfl, hb2, h⟩; have hbb : b2 = b := by { rw [Bool.eq_iff_iff, hb, hb2] }; subst hbb; clear hb hb2))
      | (go_at_call 9; go_loud (refine (NX.out _ h).mono ?_); clear h; rintro _ w ⟨v1, rfl, M1, h, hle1, hown1⟩)
      | (go_at_call 10; go_loud (refine (RN.out _ hle1 _ h).mono ?_); clear h; rintro _ w ⟨v2, rfl, M2, h, hle2, hown2⟩)
      | (go_at_call 8; go_loud (refine (IT.out _ _ h _ _ (hown1.rd.le hle2) hown2.rd).mono ?_); clear h; rintro _ w ⟨rfl, h⟩)
      | (go_at_call 5; go_loud (refine (LV.out _ _ h).mono ?_); clear h; rintro _ w ⟨rfl, h⟩))
    go_ret
    exact ⟨rfl, h.le (Mm.le_trans hle1 hle2)⟩
  · obtain ⟨A, c, rfl⟩ := ha.form
    obtain ⟨B, d, rfl⟩ := ho.form
    clear hl hm ha ho
    by_cases h40 : n ≤ 40
    · have d1 : decide ((40 : Int) < (n : Int)) = false := decide_eq_false (by omega)
      have d2 : decide ((60 : Int) < (m : Int)) = true := decide_eq_true (by omega)
      have d3 : decide (40 < n) = false := decide_eq_false (by omega)
      have d4 : decide (60 < m) = true := decide_eq_true (by omega)
      clear hn h40
      go_enter Tryz.func3, Tryz.ntmps3
      go_wp2_with (first
        | (go_at_call 5; go_loud (refine (LV.out _ _ h).mono ?_); clear h; rintro _ w ⟨rfl, h⟩))
      go_ret
      exact ⟨rfl, h⟩
    · have d1 : decide ((40 : Int) < (n : Int)) = true := decide_eq_true (by omega)
      have d3 : decide (40 < n) = true := decide_eq_true (by omega)
      clear hn h40
      go_enter Tryz.func3, Tryz.ntmps3
      go_wp2_with (first
        | (go_at_call 5; go_loud (refine (LV.out _ _ h).mono ?_); clear h; rintro _ w ⟨rfl, h⟩))
      go_ret
      exact ⟨rfl, h⟩
end Go.Proofs.YtigfmnfdphijaaaGreatDoor
