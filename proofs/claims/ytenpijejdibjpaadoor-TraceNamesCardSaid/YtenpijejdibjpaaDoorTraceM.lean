/- The walk of TraceNames, over a list of names. -/
import Derived.Test.YtenpijejdibjpaaDoorTraceP
namespace Go.Proofs.YtenpijejdibjpaaDoor
open Go.RowKit
set_option linter.unusedVariables false
set_option linter.unusedSimpArgs false
set_option linter.unnecessarySimpa false

/-- What the loop knows behind k rounds. -/
def Found (l : List ByteArray) (s : ByteArray) (k at_ : Nat) (is : Bool) : Prop :=
  (is = false ∧ at_ = 0 ∧ ∀ j, j < k → ((l.getD j ⟨#[]⟩).toList == s.toList) = false) ∨ (is = true ∧ at_ < k ∧ ((l.getD at_ ⟨#[]⟩).toList == s.toList) = true)
theorem found_end {l : List ByteArray} {s : ByteArray} {at_ : Nat} {is : Bool} (hf : Found l s l.length at_ is)
    (INJ : ∀ i j, i < l.length → j < l.length → (l.getD i ⟨#[]⟩).toList = (l.getD j ⟨#[]⟩).toList → i = j) : placeEnd l s = .returned (.tuple #[.int .i64 at_, .bool is]) := by
  rcases hf with ⟨rfl, rfl, hall⟩ | ⟨rfl, hlt, hk⟩
  · have F : ¬ placeOf l s < l.length := by
      intro h1
      have h2 := List.findIdx_getElem (w := h1)
      have := hall (placeOf l s) h1
      unfold placeOf at this h1
      simp [List.getD, h1] at this
      simp at h2
      exact this h2
    rw [placeEnd, if_neg F]
    rfl
  · have h1 : placeOf l s < l.length := by
      unfold placeOf
      exact List.findIdx_lt_length_of_exists ⟨l.getD at_ ⟨#[]⟩, by simp [List.getD, hlt], hk⟩
    have h2 := List.findIdx_getElem (w := h1)
    have e : placeOf l s = at_ := by
      refine INJ _ _ h1 hlt ?_
      have h3 : (l.getD (placeOf l s) ⟨#[]⟩).toList = s.toList := by
        unfold placeOf at h1 ⊢
        simp at h2
        simpa [List.getD, h1] using h2
      rw [h3]
      exact (by simpa using hk : _ = _).symm
    rw [placeEnd, if_pos h1, e]
theorem found_no {l : List ByteArray} {s : ByteArray} {k at_ : Nat} {is : Bool} (hf : Found l s k at_ is) (h : ((l.getD k ⟨#[]⟩).toList == s.toList) = false) : Found l s (k + 1) at_ is := by
  rcases hf with ⟨h1, h2, hall⟩ | ⟨h1, h2, h3⟩
  · refine .inl ⟨h1, h2, fun j hj => ?_⟩
    rcases Nat.lt_or_ge j k with h4 | h4
    · exact hall j h4
    · obtain rfl : j = k := by omega
      exact h
  · exact .inr ⟨h1, by omega, h3⟩
theorem found_yes {l : List ByteArray} {s : ByteArray} {k : Nat} (h : ((l.getD k ⟨#[]⟩).toList == s.toList) = true) : Found l s (k + 1) k true := .inr ⟨rfl, by omega, h⟩

set_option maxHeartbeats 4000000 in
theorem traceNames_any {σ w : World} {M : Mm} (h : Has σ M w) (c : Nat → Int) (a : Int) (s : ByteArray) (l : List ByteArray) (hlen : l.length ≤ 2000)
    (INJ : Hid (∀ i j, i < l.length → j < l.length → (l.getD i ⟨#[]⟩).toList = (l.getD j ⟨#[]⟩).toList → i = j))
    (RN : Hid (∀ (M : Mm) (w : World), Has σ M w → Calls Tryd.prog 5 #[confV c] w fun r w' => ∃ v, r = .returned v ∧ Acc σ M w' 9 1 v l.length (strs l)))
    (NA : Hid (∀ (M : Mm) (w : World), Has σ M w → Calls Tryd.prog 7 #[confV c, .int .i64 a] w fun e w' => e = .returned (.string (nameAt l a)) ∧ Has σ M w'))
    (PL : Hid (∀ (M : Mm) (w : World), Has σ M w → Calls Tryd.prog 6 #[confV c, .string s] w fun e w' => e = placeEnd l s ∧ Has σ M w')) :
    Calls Tryd.prog 3 #[confV c, .int .i64 a, .string s] w fun r w' => r = .returned (.bool true) ∧ Has σ M w' := by
  have LV := Lib.hid (fun (M : Mm) (w : World) (h : Has σ M w) => lives_has h)
  simp only [confV, ints14_lit] at RN NA PL ⊢
  obtain ⟨n, hn⟩ : ∃ n, l.length = n := ⟨_, rfl⟩
  rw [hn] at hlen RN
  have HN := Lib.hid hn
  clear hn
  go_enter Tryd.func3, Tryd.ntmps3
  go_upto_region 1 with (fail)
  obtain ⟨M2, hbx, hle2, hb2, hn2⟩ := h.box (.cells #[.int .i64 (c 0), .int .i64 (c 1), .int .i64 (c 2), .int .i64 (c 3), .int .i64 (c 4), .int .i64 (c 5), .int .i64 (c 6), .int .i64 (c 7), .int .i64 (c 8), .int .i64 (c 9), .int .i64 (c 10), .int .i64 (c 11), .int .i64 (c 12), .int .i64 (c 13)] 24)
  generalize w.alloc _ = wx at hbx ⊢
  generalize w.heap.size = b2 at hb2 hn2 ⊢
  clear h
  try clear w
  have h := hbx
  clear hbx
  obtain ⟨w, rfl⟩ : ∃ x : World, x = wx := ⟨_, rfl⟩
  have hx : (#[.int .i64 (c 0), .int .i64 (c 1), .int .i64 (c 2), .int .i64 (c 3), .int .i64 (c 4), .int .i64 (c 5), .int .i64 (c 6), .int .i64 (c 7), .int .i64 (c 8), .int .i64 (c 9), .int .i64 (c 10), .int .i64 (c 11), .int .i64 (c 12), .int .i64 (c 13)] : Array Value).extract 0 (0 + 14) = #[.int .i64 (c 0), .int .i64 (c 1), .int .i64 (c 2), .int .i64 (c 3), .int .i64 (c 4), .int .i64 (c 5), .int .i64 (c 6), .int .i64 (c 7), .int .i64 (c 8), .int .i64 (c 9), .int .i64 (c 10), .int .i64 (c 11), .int .i64 (c 12), .int .i64 (c 13)] := rfl
  go_upto_region 3 with (first
    | (with_reducible show wpList _ _ _ ({ dst := _, op := Op.load 24 _, type := _, pos := _, after := _, guard := _ } :: _) _ _; refine wpList_agg_has h rfl 24 _ rfl rfl hb2 hx rfl Tryd.underlying24 rfl (by kernel_rfl) ?_; try simp only [Act.put, List.setIfInBounds_toArray, List.set_cons_zero, List.set_cons_succ])
    | (go_at_call 5; refine (RN.out _ _ h).mono ?_; clear h; rintro e w ⟨v3, rfl, M3, h, hle3, hv3⟩; obtain ⟨_, A, cap, rfl, hcap, hA⟩ := hv3.rd))
  have HA := Lib.hid hA
  have hb3 := hle3 _ _ hb2
  have hle := Mm.le_trans hle2 hle3
  clear hv3 hA hle2 hle3 hb2 hn2 RN
  obtain ⟨nm, hw⟩ : ∃ nm, nameAt l a = nm := ⟨_, rfl⟩
  rw [hw] at NA
  by_cases h0 : 0 ≤ a
  · by_cases h1 : a < n
    · obtain ⟨q, rfl⟩ : ∃ q : Nat, a = q := ⟨a.toNat, by omega⟩
      obtain ⟨b5, o5, cs5, t5, f5, eA, hM5, hx5⟩ := HA.out (by omega); cases eA
      have e5 := hx5 q (.string nm) (by have := HN.out; rw [← hw]; simp [strs, nameAt, show q < l.length by omega])
      have k5 := (h.cell hM5 _).trans e5
      clear hx5 e5
      go_upto_region 7 with (fail)
      clear k5 h0 h1
      have hnn : (nm.toList == nm.toList) = true := by simp
      go_loopw [9, 10, 11] (fun p v i wr => ∃ (k at_ : Nat) (is : Bool), k ≤ n ∧ at_ ≤ n ∧ i = .int .i64 k ∧ p = .int .i64 at_ ∧ v = .bool is ∧ Found l s k at_ is ∧ Has σ M3 wr) (fun _ _ i _ => n - (intOf i).toNat)
      case atStart => exact ⟨0, 0, false, by omega, by omega, rfl, rfl, rfl, .inl ⟨rfl, rfl, fun j hj => absurd hj (by omega)⟩, h⟩
      case round =>
        clear h w
        obtain ⟨w, rfl⟩ : ∃ x : World, x = wr := ⟨_, rfl⟩
        obtain ⟨k, at_, is, hk, hat, rfl, rfl, rfl, hf, h⟩ := hrel
        have HF := Lib.hid hf
        clear hf
        by_cases hlt : k < n
        · obtain ⟨b5, o5, cs5, t5, f5, eA, hM5, hx5⟩ := HA.out (by omega); cases eA
          have e5 := hx5 k (.string (l.getD k ⟨#[]⟩)) (by have := HN.out; simp [strs, show k < l.length by omega])
          have k5 := (h.cell hM5 _).trans e5
          clear hx5
          cases hks : ((l.getD k ⟨#[]⟩).toList == s.toList)
          · have F2 := Lib.hid (found_no HF.out hks)
            clear HF e5
            generalize l.getD k ⟨#[]⟩ = y at k5 hks
            go_wp2
            go_roundw
            case rel => exact ⟨k + 1, at_, is, by omega, by omega, by go_num, rfl, rfl, F2.out, h⟩
            case measure => simp [intOf]; omega
          · have F2 : Hid (Found l s (k + 1) k true) := found_yes hks
            clear HF e5
            generalize l.getD k ⟨#[]⟩ = y at k5 hks
            go_wp2
            go_roundw
            case rel => exact ⟨k + 1, k, true, by omega, by omega, by go_num, rfl, rfl, F2.out, h⟩
            case measure => simp [intOf]; omega
        · have PE : Hid (placeEnd l s = .returned (.tuple #[.int .i64 at_, .bool is])) := found_end (by
            have := HF.out
            rwa [show k = l.length by have := HN.out; omega] at this) INJ.out
          have P2 : Hid (∀ (M : Mm) (w : World), Has σ M w → Calls Tryd.prog 6 #[.agg #[.int .i64 (c 0), .int .i64 (c 1), .int .i64 (c 2), .int .i64 (c 3), .int .i64 (c 4), .int .i64 (c 5), .int .i64 (c 6), .int .i64 (c 7), .int .i64 (c 8), .int .i64 (c 9), .int .i64 (c 10), .int .i64 (c 11), .int .i64 (c 12), .int .i64 (c 13)], .string s] w fun e w' => e = .returned (.tuple #[.int .i64 at_, .bool is]) ∧ Has σ M w') := fun M w h => by
            have := PL.out M w h
            rwa [PE.out] at this
          clear HF PE
          have hat9 : at_ ≤ 2000 := by omega
          cases is
          · go_wp2_with (first
              | (with_reducible show wpList _ _ _ ({ dst := _, op := Op.load 24 _, type := _, pos := _, after := _, guard := _ } :: _) _ _; refine wpList_agg_has h rfl 24 _ rfl rfl hb3 hx rfl Tryd.underlying24 rfl (by kernel_rfl) ?_; try simp only [Act.put, List.setIfInBounds_toArray, List.set_cons_zero, List.set_cons_succ])
              | (go_at_call 6; refine (P2.out _ _ h).mono ?_; clear h; rintro e w ⟨rfl, h⟩)
              | (go_at_call 7; refine (NA.out _ _ h).mono ?_; clear h; rintro e w ⟨rfl, h⟩)
              | (go_at_call 8; refine (LV.out _ _ h).mono ?_; clear h; rintro e w ⟨rfl, h⟩))
            go_ret
            exact ⟨rfl, h.le hle⟩
          · go_wp2_with (first
              | (with_reducible show wpList _ _ _ ({ dst := _, op := Op.load 24 _, type := _, pos := _, after := _, guard := _ } :: _) _ _; refine wpList_agg_has h rfl 24 _ rfl rfl hb3 hx rfl Tryd.underlying24 rfl (by kernel_rfl) ?_; try simp only [Act.put, List.setIfInBounds_toArray, List.set_cons_zero, List.set_cons_succ])
              | (go_at_call 6; refine (P2.out _ _ h).mono ?_; clear h; rintro e w ⟨rfl, h⟩)
              | (go_at_call 7; refine (NA.out _ _ h).mono ?_; clear h; rintro e w ⟨rfl, h⟩)
              | (go_at_call 8; refine (LV.out _ _ h).mono ?_; clear h; rintro e w ⟨rfl, h⟩))
            go_ret
            exact ⟨rfl, h.le hle⟩
    · have hw' : nm = ⟨#[]⟩ := by rw [← hw, nameAt, if_pos h0]; have := HN.out; simp [List.getD, show l.length ≤ a.toNat by omega]
      subst hw'
      go_upto_region 7 with (fail)
      generalize hnm : (⟨#[]⟩ : ByteArray) = nm at NA ⊢
      have hnn : (nm.toList == nm.toList) = true := by simp
      go_loopw [9, 10, 11] (fun p v i wr => ∃ (k at_ : Nat) (is : Bool), k ≤ n ∧ at_ ≤ n ∧ i = .int .i64 k ∧ p = .int .i64 at_ ∧ v = .bool is ∧ Found l s k at_ is ∧ Has σ M3 wr) (fun _ _ i _ => n - (intOf i).toNat)
      case atStart => exact ⟨0, 0, false, by omega, by omega, rfl, rfl, rfl, .inl ⟨rfl, rfl, fun j hj => absurd hj (by omega)⟩, h⟩
      case round =>
        clear h w
        obtain ⟨w, rfl⟩ : ∃ x : World, x = wr := ⟨_, rfl⟩
        obtain ⟨k, at_, is, hk, hat, rfl, rfl, rfl, hf, h⟩ := hrel
        have HF := Lib.hid hf
        clear hf
        by_cases hlt : k < n
        · obtain ⟨b5, o5, cs5, t5, f5, eA, hM5, hx5⟩ := HA.out (by omega); cases eA
          have e5 := hx5 k (.string (l.getD k ⟨#[]⟩)) (by have := HN.out; simp [strs, show k < l.length by omega])
          have k5 := (h.cell hM5 _).trans e5
          clear hx5
          cases hks : ((l.getD k ⟨#[]⟩).toList == s.toList)
          · have F2 := Lib.hid (found_no HF.out hks)
            clear HF e5
            generalize l.getD k ⟨#[]⟩ = y at k5 hks
            go_wp2
            go_roundw
            case rel => exact ⟨k + 1, at_, is, by omega, by omega, by go_num, rfl, rfl, F2.out, h⟩
            case measure => simp [intOf]; omega
          · have F2 : Hid (Found l s (k + 1) k true) := found_yes hks
            clear HF e5
            generalize l.getD k ⟨#[]⟩ = y at k5 hks
            go_wp2
            go_roundw
            case rel => exact ⟨k + 1, k, true, by omega, by omega, by go_num, rfl, rfl, F2.out, h⟩
            case measure => simp [intOf]; omega
        · have PE : Hid (placeEnd l s = .returned (.tuple #[.int .i64 at_, .bool is])) := found_end (by
            have := HF.out
            rwa [show k = l.length by have := HN.out; omega] at this) INJ.out
          have P2 : Hid (∀ (M : Mm) (w : World), Has σ M w → Calls Tryd.prog 6 #[.agg #[.int .i64 (c 0), .int .i64 (c 1), .int .i64 (c 2), .int .i64 (c 3), .int .i64 (c 4), .int .i64 (c 5), .int .i64 (c 6), .int .i64 (c 7), .int .i64 (c 8), .int .i64 (c 9), .int .i64 (c 10), .int .i64 (c 11), .int .i64 (c 12), .int .i64 (c 13)], .string s] w fun e w' => e = .returned (.tuple #[.int .i64 at_, .bool is]) ∧ Has σ M w') := fun M w h => by
            have := PL.out M w h
            rwa [PE.out] at this
          clear HF PE
          have hat9 : at_ ≤ 2000 := by omega
          cases is
          · go_wp2_with (first
              | (with_reducible show wpList _ _ _ ({ dst := _, op := Op.load 24 _, type := _, pos := _, after := _, guard := _ } :: _) _ _; refine wpList_agg_has h rfl 24 _ rfl rfl hb3 hx rfl Tryd.underlying24 rfl (by kernel_rfl) ?_; try simp only [Act.put, List.setIfInBounds_toArray, List.set_cons_zero, List.set_cons_succ])
              | (go_at_call 6; refine (P2.out _ _ h).mono ?_; clear h; rintro e w ⟨rfl, h⟩)
              | (go_at_call 7; refine (NA.out _ _ h).mono ?_; clear h; rintro e w ⟨rfl, h⟩)
              | (go_at_call 8; refine (LV.out _ _ h).mono ?_; clear h; rintro e w ⟨rfl, h⟩))
            go_ret
            exact ⟨rfl, h.le hle⟩
          · go_wp2_with (first
              | (with_reducible show wpList _ _ _ ({ dst := _, op := Op.load 24 _, type := _, pos := _, after := _, guard := _ } :: _) _ _; refine wpList_agg_has h rfl 24 _ rfl rfl hb3 hx rfl Tryd.underlying24 rfl (by kernel_rfl) ?_; try simp only [Act.put, List.setIfInBounds_toArray, List.set_cons_zero, List.set_cons_succ])
              | (go_at_call 6; refine (P2.out _ _ h).mono ?_; clear h; rintro e w ⟨rfl, h⟩)
              | (go_at_call 7; refine (NA.out _ _ h).mono ?_; clear h; rintro e w ⟨rfl, h⟩)
              | (go_at_call 8; refine (LV.out _ _ h).mono ?_; clear h; rintro e w ⟨rfl, h⟩))
            go_ret
            exact ⟨rfl, h.le hle⟩
  · have hw' : nm = ⟨#[]⟩ := by rw [← hw, nameAt, if_neg h0]
    subst hw'
    go_upto_region 7 with (fail)
    generalize hnm : (⟨#[]⟩ : ByteArray) = nm at NA ⊢
    have hnn : (nm.toList == nm.toList) = true := by simp
    go_loopw [9, 10, 11] (fun p v i wr => ∃ (k at_ : Nat) (is : Bool), k ≤ n ∧ at_ ≤ n ∧ i = .int .i64 k ∧ p = .int .i64 at_ ∧ v = .bool is ∧ Found l s k at_ is ∧ Has σ M3 wr) (fun _ _ i _ => n - (intOf i).toNat)
    case atStart => exact ⟨0, 0, false, by omega, by omega, rfl, rfl, rfl, .inl ⟨rfl, rfl, fun j hj => absurd hj (by omega)⟩, h⟩
    case round =>
      clear h w
      obtain ⟨w, rfl⟩ : ∃ x : World, x = wr := ⟨_, rfl⟩
      obtain ⟨k, at_, is, hk, hat, rfl, rfl, rfl, hf, h⟩ := hrel
      have HF := Lib.hid hf
      clear hf
      by_cases hlt : k < n
      · obtain ⟨b5, o5, cs5, t5, f5, eA, hM5, hx5⟩ := HA.out (by omega); cases eA
        have e5 := hx5 k (.string (l.getD k ⟨#[]⟩)) (by have := HN.out; simp [strs, show k < l.length by omega])
        have k5 := (h.cell hM5 _).trans e5
        clear hx5
        cases hks : ((l.getD k ⟨#[]⟩).toList == s.toList)
        · have F2 := Lib.hid (found_no HF.out hks)
          clear HF e5
          generalize l.getD k ⟨#[]⟩ = y at k5 hks
          go_wp2
          go_roundw
          case rel => exact ⟨k + 1, at_, is, by omega, by omega, by go_num, rfl, rfl, F2.out, h⟩
          case measure => simp [intOf]; omega
        · have F2 : Hid (Found l s (k + 1) k true) := found_yes hks
          clear HF e5
          generalize l.getD k ⟨#[]⟩ = y at k5 hks
          go_wp2
          go_roundw
          case rel => exact ⟨k + 1, k, true, by omega, by omega, by go_num, rfl, rfl, F2.out, h⟩
          case measure => simp [intOf]; omega
      · have PE : Hid (placeEnd l s = .returned (.tuple #[.int .i64 at_, .bool is])) := found_end (by
          have := HF.out
          rwa [show k = l.length by have := HN.out; omega] at this) INJ.out
        have P2 : Hid (∀ (M : Mm) (w : World), Has σ M w → Calls Tryd.prog 6 #[.agg #[.int .i64 (c 0), .int .i64 (c 1), .int .i64 (c 2), .int .i64 (c 3), .int .i64 (c 4), .int .i64 (c 5), .int .i64 (c 6), .int .i64 (c 7), .int .i64 (c 8), .int .i64 (c 9), .int .i64 (c 10), .int .i64 (c 11), .int .i64 (c 12), .int .i64 (c 13)], .string s] w fun e w' => e = .returned (.tuple #[.int .i64 at_, .bool is]) ∧ Has σ M w') := fun M w h => by
          have := PL.out M w h
          rwa [PE.out] at this
        clear HF PE
        have hat9 : at_ ≤ 2000 := by omega
        cases is
        · go_wp2_with (first
            | (with_reducible show wpList _ _ _ ({ dst := _, op := Op.load 24 _, type := _, pos := _, after := _, guard := _ } :: _) _ _; refine wpList_agg_has h rfl 24 _ rfl rfl hb3 hx rfl Tryd.underlying24 rfl (by kernel_rfl) ?_; try simp only [Act.put, List.setIfInBounds_toArray, List.set_cons_zero, List.set_cons_succ])
            | (go_at_call 6; refine (P2.out _ _ h).mono ?_; clear h; rintro e w ⟨rfl, h⟩)
            | (go_at_call 7; refine (NA.out _ _ h).mono ?_; clear h; rintro e w ⟨rfl, h⟩)
            | (go_at_call 8; refine (LV.out _ _ h).mono ?_; clear h; rintro e w ⟨rfl, h⟩))
          go_ret
          exact ⟨rfl, h.le hle⟩
        · go_wp2_with (first
            | (with_reducible show wpList _ _ _ ({ dst := _, op := Op.load 24 _, type := _, pos := _, after := _, guard := _ } :: _) _ _; refine wpList_agg_has h rfl 24 _ rfl rfl hb3 hx rfl Tryd.underlying24 rfl (by kernel_rfl) ?_; try simp only [Act.put, List.setIfInBounds_toArray, List.set_cons_zero, List.set_cons_succ])
            | (go_at_call 6; refine (P2.out _ _ h).mono ?_; clear h; rintro e w ⟨rfl, h⟩)
            | (go_at_call 7; refine (NA.out _ _ h).mono ?_; clear h; rintro e w ⟨rfl, h⟩)
            | (go_at_call 8; refine (LV.out _ _ h).mono ?_; clear h; rintro e w ⟨rfl, h⟩))
          go_ret
          exact ⟨rfl, h.le hle⟩
end Go.Proofs.YtenpijejdibjpaaDoor
