/- Walks of layer 43: changes as the document's, whether lists are the same, a copy. -/
import Derived.Test.YtenpijejdibjpaaDoorTraceB
namespace Go.Proofs.YtenpijejdibjpaaDoor
open Go.RowKit
set_option linter.unusedVariables false
set_option linter.unusedSimpArgs false
set_option linter.unnecessarySimpa false

theorem take_snoc' {α : Type} {l : List α} {k : Nat} {x : α} (h : l[k]? = some x) : l.take (k + 1) = l.take k ++ [x] := by
  obtain ⟨hk, rfl⟩ := List.getElem?_eq_some_iff.1 h
  exact List.take_succ_eq_append_getElem hk
theorem take_eq_iff {α : Type} [DecidableEq α] {xs ys : List α} {k : Nat} {x y : α} (hx : xs[k]? = some x) (hy : ys[k]? = some y) (h : xs.take k = ys.take k) : xs.take (k + 1) = ys.take (k + 1) ↔ x = y := by
  rw [take_snoc' hx, take_snoc' hy, h]
  simp
theorem ne_of_take {α : Type} {xs ys : List α} {k : Nat} (h : xs.take k ≠ ys.take k) : xs ≠ ys := fun e => h (by rw [e])

set_option maxHeartbeats 1000000 in
theorem changes_eq {σ w : World} {M : Mm} (h : Has σ M w) (a : Value) (l : List Chg) (n : Nat) (hl : l.length = n) (ha : Rd M 3 a n (l.flatMap encC)) (hn : n ≤ 1000000) :
    Calls Tryd.prog 11 #[a] w fun r w' => ∃ v, r = .returned v ∧ Acc σ M w' 67 3 v n (l.flatMap encC) := by
  obtain ⟨A, c, rfl⟩ := ha.form
  have HL := Lib.hid hl
  clear hl
  go_enter Tryd.func11, Tryd.ntmps11
  go_wp2
  go_loopw [3, 4] (fun v i wr => ∃ k : Nat, k ≤ n ∧ i = .int .i64 k ∧ Acc σ M wr 67 3 v k ((l.take k).flatMap encC)) (fun _ i _ => n - (intOf i).toNat)
  case atStart => exact ⟨0, Nat.zero_le _, rfl, Acc.nil h _ _⟩
  case round =>
    clear h w
    obtain ⟨w, rfl⟩ : ∃ x : World, x = wr := ⟨_, rfl⟩
    obtain ⟨k, hk, rfl, M', h, hle, hown⟩ := hrel
    by_cases hlt : k < n
    · obtain ⟨⟨p, q, r⟩, hx⟩ : ∃ x, l[k]? = some x := ⟨_, List.getElem?_eq_getElem (by rw [HL.out]; exact hlt)⟩
      have T := Lib.hid (take_snoc' hx)
      obtain ⟨b1, o1, c1, cs1, t1, f1, e1, hM1, hx1⟩ := ha.elem encC_len hlt hx
      cases e1
      replace hM1 := hle _ _ hM1
      have hc1 : cs1.extract (o1 + k * 3) (o1 + k * 3 + 3) = #[.int .i64 p, .int .u64 q, .int .u64 r] := extract_of hx1 rfl
      clear hx1 hx
      go_wp2_with (first
        | (with_reducible show wpList _ _ _ ({ dst := _, op := Op.load 66 _, type := _, pos := _, after := _, guard := _ } :: _) _ _; refine wpList_agg_has h rfl 66 _ rfl rfl hM1 hc1 rfl Tryd.underlying66 rfl (by kernel_rfl) ?_; try simp only [Act.put, List.setIfInBounds_toArray, List.set_cons_zero, List.set_cons_succ])
        | (at_builtin; refine wpList_append_lit h hle rfl _ _ _ rfl rfl Tryd.underlying37 info_c rfl (by omega) rfl hown rfl rfl rfl (by omega) (by omega) ?_; clear h hle hown; intro v w hacc))
      go_roundw
      case rel => exact ⟨k + 1, by omega, by go_num, by rw [T.out, List.flatMap_append]; simpa [encC] using hacc⟩
      case measure => simp [intOf]; omega
    · go_wp2
      obtain rfl : k = n := by omega
      go_ret
      rw [List.take_of_length_le (by rw [HL.out]; exact Nat.le_refl _)] at hown
      exact ⟨_, rfl, M', h, hle, hown⟩

def chgKs : List Kd := [some (some .i64), some (some .u64), some (some .u64)]
theorem fits_chg (c : Chg) : fits chgKs (encC c).toArray.toList := ⟨rfl, rfl, rfl, trivial⟩
theorem sames_chg (a b : Chg) : sames (encC a).toArray.toList (encC b).toArray.toList = decide (a = b) := by
  have h := sames_eq (fits_chg a) (fits_chg b)
  by_cases e : a = b
  · subst e
    rw [h.2 rfl]
    simp
  · have : ¬ sames (encC a).toArray.toList (encC b).toArray.toList = true := fun h1 => e (by
      have := h.1 h1
      simp only [encC, List.cons.injEq, Value.int.injEq] at this
      obtain ⟨a1, a2, a3⟩ := a
      obtain ⟨b1, b2, b3⟩ := b
      simp at this
      obtain ⟨rfl, rfl, rfl⟩ := this
      rfl)
    rw [Bool.not_eq_true] at this
    rw [this]
    simp [e]

set_option maxHeartbeats 1000000 in
theorem same_eq {σ w : World} {M : Mm} (h : Has σ M w) (a b : Value) (xs ys : List Chg) (n m : Nat) (hx : xs.length = n) (hy : ys.length = m) (ha : Rd M 3 a n (xs.flatMap encC)) (hb : Rd M 3 b m (ys.flatMap encC)) (hn : n ≤ 1000000) (hm : m ≤ 1000000) :
    Calls Tryd.prog 12 #[a, b] w fun r w' => r = .returned (.bool (decide (xs = ys))) ∧ Has σ M w' := by
  obtain ⟨A, c, rfl⟩ := ha.form
  obtain ⟨B, d, rfl⟩ := hb.form
  have HX := Lib.hid hx
  have HY := Lib.hid hy
  clear hx hy
  by_cases hnm : n = m
  · subst hnm
    go_enter Tryd.func12, Tryd.ntmps12
    go_wp2
    go_loopw [5] (fun i wr => ∃ k : Nat, k ≤ n ∧ i = .int .i64 k ∧ Has σ M wr ∧ xs.take k = ys.take k) (fun i _ => n - (intOf i).toNat)
    case atStart => exact ⟨0, Nat.zero_le _, rfl, h, by simp⟩
    case round =>
      clear h w
      obtain ⟨w, rfl⟩ : ∃ x : World, x = wr := ⟨_, rfl⟩
      obtain ⟨k, hk, rfl, h, ht⟩ := hrel
      replace ht := Lib.hid ht
      by_cases hlt : k < n
      · obtain ⟨x, hx⟩ : ∃ x, xs[k]? = some x := ⟨_, List.getElem?_eq_getElem (by rw [HX.out]; exact hlt)⟩
        obtain ⟨y, hy⟩ : ∃ y, ys[k]? = some y := ⟨_, List.getElem?_eq_getElem (by rw [HY.out]; exact hlt)⟩
        have T := Lib.hid (take_eq_iff hx hy ht.out)
        obtain ⟨b1, o1, c1, cs1, t1, f1, e1, hM1, hx1⟩ := ha.elem encC_len hlt hx
        obtain ⟨b2, o2, c2, cs2, t2, f2, e2, hM2, hx2⟩ := hb.elem encC_len hlt hy
        cases e1
        cases e2
        have hc1 := extract_of hx1 (encC_len x)
        have hc2 := extract_of hx2 (encC_len y)
        have SC := Lib.hid (sames_chg x y)
        clear hx1 hx2 hx hy
        by_cases hxy : x = y
        · replace SC : Hid (sames (encC x).toArray.toList (encC y).toArray.toList = true) := by show _ = _; rw [SC.out]; simp [hxy]
          replace T : Hid (xs.take (k + 1) = ys.take (k + 1)) := T.out.2 hxy
          clear hxy
          go_upto_region 6 with (fail)
          refine wp_region_class (Has σ M) (by kernel_rfl) (by kernel_rfl) h.drew ?_
          clear h
          repeat (first
            | go_big_quiet_skip
            | (go_big_quiet_want; first
              | (refine quiet_agg_has 67 _ rfl rfl hM1 hc1 rfl Tryd.underlying67 rfl (by kernel_rfl) ?_; simp only [Act.put, List.setIfInBounds_toArray, List.set_cons_zero, List.set_cons_succ]; go_big_quiet_on)
              | (refine quiet_agg_has 67 _ rfl rfl hM2 hc2 rfl Tryd.underlying67 rfl (by kernel_rfl) ?_; simp only [Act.put, List.setIfInBounds_toArray, List.set_cons_zero, List.set_cons_succ]; go_big_quiet_on)
              | (refine quiet_neq_flat 67 _ _ _ rfl rfl rfl 10 (by omega) (ks := chgKs) (by kernel_rfl) rfl (by kernel_rfl) Tryd.underlying67 rfl (by kernel_rfl) (fits_chg x) (fits_chg y) ?_; rw [SC.out]; simp only [Act.put, List.setIfInBounds_toArray, List.set_cons_zero, List.set_cons_succ]; go_big_quiet_on)
              | (go_big_quiet_op; first | go_big_quiet_on | go_big_quiet_call (first | with_reducible exact fun _ => rfl))))
          refine wpQuiet_nil ?_
          try clear w
          intro w h
          go_wp2
          go_roundw
          case rel => exact ⟨k + 1, by omega, by go_num, h, T.out⟩
          case measure => simp [intOf]; omega
        · replace SC : Hid (sames (encC x).toArray.toList (encC y).toArray.toList = false) := by show _ = _; rw [SC.out]; simp [hxy]
          have N : Hid (decide (xs = ys) = false) := decide_eq_false (ne_of_take fun e => hxy (T.out.1 e))
          clear hxy T
          go_upto_region 6 with (fail)
          refine wp_region_class (Has σ M) (by kernel_rfl) (by kernel_rfl) h.drew ?_
          clear h
          repeat (first
            | go_big_quiet_skip
            | (go_big_quiet_want; first
              | (refine quiet_agg_has 67 _ rfl rfl hM1 hc1 rfl Tryd.underlying67 rfl (by kernel_rfl) ?_; simp only [Act.put, List.setIfInBounds_toArray, List.set_cons_zero, List.set_cons_succ]; go_big_quiet_on)
              | (refine quiet_agg_has 67 _ rfl rfl hM2 hc2 rfl Tryd.underlying67 rfl (by kernel_rfl) ?_; simp only [Act.put, List.setIfInBounds_toArray, List.set_cons_zero, List.set_cons_succ]; go_big_quiet_on)
              | (refine quiet_neq_flat 67 _ _ _ rfl rfl rfl 10 (by omega) (ks := chgKs) (by kernel_rfl) rfl (by kernel_rfl) Tryd.underlying67 rfl (by kernel_rfl) (fits_chg x) (fits_chg y) ?_; rw [SC.out]; simp only [Act.put, List.setIfInBounds_toArray, List.set_cons_zero, List.set_cons_succ]; go_big_quiet_on)
              | (go_big_quiet_op; first | go_big_quiet_on | go_big_quiet_call (first | with_reducible exact fun _ => rfl))))
          refine wpQuiet_nil ?_
          try clear w
          intro w h
          go_wp2
          go_ret
          exact ⟨by rw [N.out]; rfl, h⟩
      · go_wp2
        go_ret
        have N : decide (xs = ys) = true := decide_eq_true (by
          have := ht.out
          rwa [List.take_of_length_le (by rw [HX.out]; omega), List.take_of_length_le (by rw [HY.out]; omega)] at this)
        exact ⟨by rw [N]; rfl, h⟩
  · have N : Hid (decide (xs = ys) = false) := decide_eq_false fun e => hnm (by rw [← HX.out, ← HY.out, e])
    go_enter Tryd.func12, Tryd.ntmps12
    go_wp2
    go_ret
    exact ⟨by rw [N.out]; rfl, h⟩

set_option maxHeartbeats 1000000 in
theorem refSame_eq {σ w : World} {M : Mm} (h : Has σ M w) (a b : Value) (xs ys : List Int) (n m : Nat) (hx : xs.length = n) (hy : ys.length = m) (ha : Rd M 1 a n (u64s xs)) (hb : Rd M 1 b m (u64s ys)) (hn : n ≤ 1000000) (hm : m ≤ 1000000) :
    Calls Tryd.prog 15 #[a, b] w fun r w' => r = .returned (.bool (decide (xs = ys))) ∧ Has σ M w' := by
  obtain ⟨_, A, c, rfl, hc, hA⟩ := ha
  obtain ⟨_, B, d, rfl, hd, hB⟩ := hb
  have HX := Lib.hid hx
  have HY := Lib.hid hy
  clear hx hy
  by_cases hnm : n = m
  · subst hnm
    go_enter Tryd.func15, Tryd.ntmps15
    go_wp2
    go_loopw [5] (fun i wr => ∃ k : Nat, k ≤ n ∧ i = .int .i64 k ∧ Has σ M wr ∧ xs.take k = ys.take k) (fun i _ => n - (intOf i).toNat)
    case atStart => exact ⟨0, Nat.zero_le _, rfl, h, by simp⟩
    case round =>
      clear h w
      obtain ⟨w, rfl⟩ : ∃ x : World, x = wr := ⟨_, rfl⟩
      obtain ⟨k, hk, rfl, h, ht⟩ := hrel
      replace ht := Lib.hid ht
      by_cases hlt : k < n
      · obtain ⟨x, hx⟩ : ∃ x, xs[k]? = some x := ⟨_, List.getElem?_eq_getElem (by rw [HX.out]; exact hlt)⟩
        obtain ⟨y, hy⟩ : ∃ y, ys[k]? = some y := ⟨_, List.getElem?_eq_getElem (by rw [HY.out]; exact hlt)⟩
        have T := Lib.hid (take_eq_iff hx hy ht.out)
        obtain ⟨b1, o1, cs1, t1, f1, rfl, hM1, hx1⟩ := hA (by omega)
        obtain ⟨b2, o2, cs2, t2, f2, rfl, hM2, hx2⟩ := hB (by omega)
        have e1 := hx1 k (.int .u64 x) (by simp [u64s, hx])
        have e2 := hx2 k (.int .u64 y) (by simp [u64s, hy])
        clear hx1 hx2 hx hy hA hB
        cases hxy : (x != y)
        · replace T : Hid (xs.take (k + 1) = ys.take (k + 1)) := T.out.2 (by simpa using hxy)
          go_upto_region 6 with (fail)
          refine wp_region_class (Has σ M) (by kernel_rfl) (by kernel_rfl) h.drew ?_
          clear h
          repeat (first
            | go_big_quiet_skip
            | (go_big_quiet_want; first
              | (refine quiet_load_has 64 _ rfl rfl hM1 e1 Tryd.underlying64 rfl ?_; simp only [Act.put, List.setIfInBounds_toArray, List.set_cons_zero, List.set_cons_succ]; go_big_quiet_on)
              | (refine quiet_load_has 64 _ rfl rfl hM2 e2 Tryd.underlying64 rfl ?_; simp only [Act.put, List.setIfInBounds_toArray, List.set_cons_zero, List.set_cons_succ]; go_big_quiet_on)
              | (go_big_quiet_op; first | go_big_quiet_on | go_big_quiet_call (first | with_reducible exact fun _ => rfl))))
          refine wpQuiet_nil ?_
          try clear w
          intro w h
          go_wp2
          go_roundw
          case rel => exact ⟨k + 1, by omega, by go_num, h, T.out⟩
          case measure => simp [intOf]; omega
        · have N : Hid (decide (xs = ys) = false) := decide_eq_false (ne_of_take fun e => (by simpa using hxy : x ≠ y) (T.out.1 e))
          clear T
          go_upto_region 6 with (fail)
          refine wp_region_class (Has σ M) (by kernel_rfl) (by kernel_rfl) h.drew ?_
          clear h
          repeat (first
            | go_big_quiet_skip
            | (go_big_quiet_want; first
              | (refine quiet_load_has 64 _ rfl rfl hM1 e1 Tryd.underlying64 rfl ?_; simp only [Act.put, List.setIfInBounds_toArray, List.set_cons_zero, List.set_cons_succ]; go_big_quiet_on)
              | (refine quiet_load_has 64 _ rfl rfl hM2 e2 Tryd.underlying64 rfl ?_; simp only [Act.put, List.setIfInBounds_toArray, List.set_cons_zero, List.set_cons_succ]; go_big_quiet_on)
              | (go_big_quiet_op; first | go_big_quiet_on | go_big_quiet_call (first | with_reducible exact fun _ => rfl))))
          refine wpQuiet_nil ?_
          try clear w
          intro w h
          go_wp2
          go_ret
          exact ⟨by rw [N.out]; rfl, h⟩
      · clear hA hB
        go_wp2
        go_ret
        have N : decide (xs = ys) = true := decide_eq_true (by
          have := ht.out
          rwa [List.take_of_length_le (by rw [HX.out]; omega), List.take_of_length_le (by rw [HY.out]; omega)] at this)
        exact ⟨by rw [N]; rfl, h⟩
  · have N : Hid (decide (xs = ys) = false) := decide_eq_false fun e => hnm (by rw [← HX.out, ← HY.out, e])
    clear hA hB
    go_enter Tryd.func15, Tryd.ntmps15
    go_wp2
    go_ret
    exact ⟨by rw [N.out]; rfl, h⟩
end Go.Proofs.YtenpijejdibjpaaDoor
