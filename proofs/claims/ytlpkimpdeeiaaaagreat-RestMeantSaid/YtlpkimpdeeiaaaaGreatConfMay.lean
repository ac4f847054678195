/- Walks of layer 4 (conf): whether a configuration may be. -/
import Derived.Test.YtlpkimpdeeiaaaaGreatConf
namespace Go.Proofs.YtlpkimpdeeiaaaaGreat
open Go.RowKit

set_option maxHeartbeats 4000000 in
theorem confMay_any (c : Nat → Int) (w : World) : Calls Tryz.prog 38 #[confV c] w fun e w' => e = .returned (.bool (confMayB c)) ∧ Below w.heap.size w w' := by
  generalize hb1 : decide (1 ≤ c 0 ∧ c 0 ≤ 4) = b1
  generalize hb2 : decide (1 ≤ c 1 ∧ c 1 ≤ 8) = b2
  generalize hb3 : sames (ints .i64 8 fun i => c (2 + i)).toList (ints .i64 8 (clearedOf c)).toList = b3
  have B1 := Lib.hid hb1
  have B2 := Lib.hid hb2
  have B3 := Lib.hid hb3
  clear hb1 hb2 hb3
  have C1 : Hid (∀ w1, Inv14 c w w1 → Calls Tryz.prog 70 #[.int .i64 (c 0), .int .i64 1, .int .i64 4] w1 fun e w' => e = .returned (.bool b1) ∧ Inv14 c w w') :=
    fun w1 h => (confIn_any _ _ _ _).mono fun _ _ ⟨h1, h2⟩ => ⟨by rw [h1, B1.out], h2 ▸ h⟩
  have C2 : Hid (∀ w1, Inv14 c w w1 → Calls Tryz.prog 70 #[.int .i64 (c 1), .int .i64 1, .int .i64 8] w1 fun e w' => e = .returned (.bool b2) ∧ Inv14 c w w') :=
    fun w1 h => (confIn_any _ _ _ _).mono fun _ _ ⟨h1, h2⟩ => ⟨by rw [h1, B2.out], h2 ▸ h⟩
  have C3 : Hid (∀ w1, Inv14 c w w1 → Calls Tryz.prog 71 #[.agg (ints .i64 14 c)] w1 fun e w' => e = .returned (.agg (ints .i64 8 (clearedOf c))) ∧ Inv14 c w w') :=
    fun w1 h => (cleared_any c w1).mono fun _ _ ⟨h1, h2⟩ => ⟨h1, h.on h2⟩
  have no1 : b1 = false → Hid (confMayB c = false) := fun h => by
    have := B1.out; rw [h, decide_eq_false_iff_not] at this
    exact decide_eq_false (fun h => this h.1)
  have no2 : b2 = false → Hid (confMayB c = false) := fun h => by
    have := B2.out; rw [h, decide_eq_false_iff_not] at this
    exact decide_eq_false (fun h => this h.2.1)
  have no3 : b3 = false → Hid (confMayB c = false) := fun h => by
    have := B3.out; rw [h, sames_ints, decide_eq_false_iff_not] at this
    exact decide_eq_false (fun h => this h.2.2.1)
  unfold confV
  cases b1 with
  | false =>
    have N := no1 rfl
    clear no1 no2 no3
    go_enter Tryz.func38, Tryz.ntmps38
    go_upto_region 1 with (fail)
    have hI := Inv14.new c w
    generalize w.alloc (.cells (ints .i64 14 c) 29) = w1 at hI ⊢
    refine wp_region_class (Inv14 c w) (by kernel_rfl) (by kernel_rfl) hI.drew ?_
    repeat (first
      | go_big_quiet_skip
      | (go_big_quiet_want; first
        | (refine quiet_load_arr 27 _ rfl w.heap.size 2 rfl (ints .i64 8 fun i => c (2 + i)) _ (fun _ h => h.r8) Tryz.underlying27 rfl (by rw [ints_size]; kernel_rfl) ?_; simp only [Act.put, List.setIfInBounds_toArray, List.set_cons_zero, List.set_cons_succ]; go_big_quiet_on)
        | (refine quiet_load_arr 29 _ rfl w.heap.size 0 rfl (ints .i64 14 c) _ (fun _ h => h.r14) Tryz.underlying29 rfl (by rw [ints_size]; kernel_rfl) ?_; simp only [Act.put, List.setIfInBounds_toArray, List.set_cons_zero, List.set_cons_succ]; go_big_quiet_on)
        | (refine quiet_load_one 3 _ rfl w.heap.size 0 rfl (.int .i64 (c 0)) _ (fun _ h => h.cell (by omega)) Tryz.underlying3 rfl ?_; simp only [Act.put, List.setIfInBounds_toArray, List.set_cons_zero, List.set_cons_succ]; go_big_quiet_on)
        | (refine quiet_load_one 3 _ rfl w.heap.size 1 rfl (.int .i64 (c 1)) _ (fun _ h => h.cell (by omega)) Tryz.underlying3 rfl ?_; simp only [Act.put, List.setIfInBounds_toArray, List.set_cons_zero, List.set_cons_succ]; go_big_quiet_on)
        | (refine quiet_neq_flat 27 _ _ _ rfl rfl rfl 10 (by omega) (ks := List.replicate 8 (some (some .i64))) (by kernel_rfl) rfl (by kernel_rfl) Tryz.underlying27 rfl (by kernel_rfl) (fits_ints _ _ _) (fits_ints _ _ _) ?_; rw [B3.out]; simp only [Act.put, List.setIfInBounds_toArray, List.set_cons_zero, List.set_cons_succ]; go_big_quiet_on)
        | (go_big_quiet_op; first | go_big_quiet_on | go_big_quiet_call (first | with_reducible exact fun _ => rfl | with_reducible exact C1.out _ | with_reducible exact C2.out _ | with_reducible exact C3.out _))))
    refine wpQuiet_nil ?_
    intro w2 hI
    go_wp2
    go_ret
    exact ⟨by rw [N.out]; rfl, hI.2⟩
  | true =>
    cases b2 with
    | false =>
      have N := no2 rfl
      clear no1 no2 no3
      go_enter Tryz.func38, Tryz.ntmps38
      go_upto_region 1 with (fail)
      have hI := Inv14.new c w
      generalize w.alloc (.cells (ints .i64 14 c) 29) = w1 at hI ⊢
      refine wp_region_class (Inv14 c w) (by kernel_rfl) (by kernel_rfl) hI.drew ?_
      repeat (first
        | go_big_quiet_skip
        | (go_big_quiet_want; first
          | (refine quiet_load_arr 27 _ rfl w.heap.size 2 rfl (ints .i64 8 fun i => c (2 + i)) _ (fun _ h => h.r8) Tryz.underlying27 rfl (by rw [ints_size]; kernel_rfl) ?_; simp only [Act.put, List.setIfInBounds_toArray, List.set_cons_zero, List.set_cons_succ]; go_big_quiet_on)
          | (refine quiet_load_arr 29 _ rfl w.heap.size 0 rfl (ints .i64 14 c) _ (fun _ h => h.r14) Tryz.underlying29 rfl (by rw [ints_size]; kernel_rfl) ?_; simp only [Act.put, List.setIfInBounds_toArray, List.set_cons_zero, List.set_cons_succ]; go_big_quiet_on)
          | (refine quiet_load_one 3 _ rfl w.heap.size 0 rfl (.int .i64 (c 0)) _ (fun _ h => h.cell (by omega)) Tryz.underlying3 rfl ?_; simp only [Act.put, List.setIfInBounds_toArray, List.set_cons_zero, List.set_cons_succ]; go_big_quiet_on)
          | (refine quiet_load_one 3 _ rfl w.heap.size 1 rfl (.int .i64 (c 1)) _ (fun _ h => h.cell (by omega)) Tryz.underlying3 rfl ?_; simp only [Act.put, List.setIfInBounds_toArray, List.set_cons_zero, List.set_cons_succ]; go_big_quiet_on)
          | (refine quiet_neq_flat 27 _ _ _ rfl rfl rfl 10 (by omega) (ks := List.replicate 8 (some (some .i64))) (by kernel_rfl) rfl (by kernel_rfl) Tryz.underlying27 rfl (by kernel_rfl) (fits_ints _ _ _) (fits_ints _ _ _) ?_; rw [B3.out]; simp only [Act.put, List.setIfInBounds_toArray, List.set_cons_zero, List.set_cons_succ]; go_big_quiet_on)
          | (go_big_quiet_op; first | go_big_quiet_on | go_big_quiet_call (first | with_reducible exact fun _ => rfl | with_reducible exact C1.out _ | with_reducible exact C2.out _ | with_reducible exact C3.out _))))
      refine wpQuiet_nil ?_
      intro w2 hI
      go_wp2
      go_ret
      exact ⟨by rw [N.out]; rfl, hI.2⟩
    | true =>
      cases b3 with
      | false =>
        have N := no3 rfl
        clear no1 no2 no3
        go_enter Tryz.func38, Tryz.ntmps38
        go_upto_region 1 with (fail)
        have hI := Inv14.new c w
        generalize w.alloc (.cells (ints .i64 14 c) 29) = w1 at hI ⊢
        refine wp_region_class (Inv14 c w) (by kernel_rfl) (by kernel_rfl) hI.drew ?_
        repeat (first
          | go_big_quiet_skip
          | (go_big_quiet_want; first
            | (refine quiet_load_arr 27 _ rfl w.heap.size 2 rfl (ints .i64 8 fun i => c (2 + i)) _ (fun _ h => h.r8) Tryz.underlying27 rfl (by rw [ints_size]; kernel_rfl) ?_; simp only [Act.put, List.setIfInBounds_toArray, List.set_cons_zero, List.set_cons_succ]; go_big_quiet_on)
            | (refine quiet_load_arr 29 _ rfl w.heap.size 0 rfl (ints .i64 14 c) _ (fun _ h => h.r14) Tryz.underlying29 rfl (by rw [ints_size]; kernel_rfl) ?_; simp only [Act.put, List.setIfInBounds_toArray, List.set_cons_zero, List.set_cons_succ]; go_big_quiet_on)
            | (refine quiet_load_one 3 _ rfl w.heap.size 0 rfl (.int .i64 (c 0)) _ (fun _ h => h.cell (by omega)) Tryz.underlying3 rfl ?_; simp only [Act.put, List.setIfInBounds_toArray, List.set_cons_zero, List.set_cons_succ]; go_big_quiet_on)
            | (refine quiet_load_one 3 _ rfl w.heap.size 1 rfl (.int .i64 (c 1)) _ (fun _ h => h.cell (by omega)) Tryz.underlying3 rfl ?_; simp only [Act.put, List.setIfInBounds_toArray, List.set_cons_zero, List.set_cons_succ]; go_big_quiet_on)
            | (refine quiet_neq_flat 27 _ _ _ rfl rfl rfl 10 (by omega) (ks := List.replicate 8 (some (some .i64))) (by kernel_rfl) rfl (by kernel_rfl) Tryz.underlying27 rfl (by kernel_rfl) (fits_ints _ _ _) (fits_ints _ _ _) ?_; rw [B3.out]; simp only [Act.put, List.setIfInBounds_toArray, List.set_cons_zero, List.set_cons_succ]; go_big_quiet_on)
            | (go_big_quiet_op; first | go_big_quiet_on | go_big_quiet_call (first | with_reducible exact fun _ => rfl | with_reducible exact C1.out _ | with_reducible exact C2.out _ | with_reducible exact C3.out _))))
        refine wpQuiet_nil ?_
        intro w2 hI
        go_wp2
        go_ret
        exact ⟨by rw [N.out]; rfl, hI.2⟩
      | true =>
        clear no1 no2 no3
        go_enter Tryz.func38, Tryz.ntmps38
        go_upto_region 1 with (fail)
        have hI := Inv14.new c w
        generalize w.alloc (.cells (ints .i64 14 c) 29) = w1 at hI ⊢
        refine wp_region_class (Inv14 c w) (by kernel_rfl) (by kernel_rfl) hI.drew ?_
        repeat (first
          | go_big_quiet_skip
          | (go_big_quiet_want; first
            | (refine quiet_load_arr 27 _ rfl w.heap.size 2 rfl (ints .i64 8 fun i => c (2 + i)) _ (fun _ h => h.r8) Tryz.underlying27 rfl (by rw [ints_size]; kernel_rfl) ?_; simp only [Act.put, List.setIfInBounds_toArray, List.set_cons_zero, List.set_cons_succ]; go_big_quiet_on)
            | (refine quiet_load_arr 29 _ rfl w.heap.size 0 rfl (ints .i64 14 c) _ (fun _ h => h.r14) Tryz.underlying29 rfl (by rw [ints_size]; kernel_rfl) ?_; simp only [Act.put, List.setIfInBounds_toArray, List.set_cons_zero, List.set_cons_succ]; go_big_quiet_on)
            | (refine quiet_load_one 3 _ rfl w.heap.size 0 rfl (.int .i64 (c 0)) _ (fun _ h => h.cell (by omega)) Tryz.underlying3 rfl ?_; simp only [Act.put, List.setIfInBounds_toArray, List.set_cons_zero, List.set_cons_succ]; go_big_quiet_on)
            | (refine quiet_load_one 3 _ rfl w.heap.size 1 rfl (.int .i64 (c 1)) _ (fun _ h => h.cell (by omega)) Tryz.underlying3 rfl ?_; simp only [Act.put, List.setIfInBounds_toArray, List.set_cons_zero, List.set_cons_succ]; go_big_quiet_on)
            | (refine quiet_neq_flat 27 _ _ _ rfl rfl rfl 10 (by omega) (ks := List.replicate 8 (some (some .i64))) (by kernel_rfl) rfl (by kernel_rfl) Tryz.underlying27 rfl (by kernel_rfl) (fits_ints _ _ _) (fits_ints _ _ _) ?_; rw [B3.out]; simp only [Act.put, List.setIfInBounds_toArray, List.set_cons_zero, List.set_cons_succ]; go_big_quiet_on)
            | (go_big_quiet_op; first | go_big_quiet_on | go_big_quiet_call (first | with_reducible exact fun _ => rfl | with_reducible exact C1.out _ | with_reducible exact C2.out _ | with_reducible exact C3.out _))))
        refine wpQuiet_nil ?_
        intro w2 hI
        go_upto_region 3 with (fail)
        have r := hI.r8
        go_wp2_with (refine wpList_load_arr rfl 27 _ rfl w.heap.size 2 rfl (ints .i64 8 fun i => c (2 + i)) _ r Tryz.underlying27 rfl (by rw [ints_size]; kernel_rfl) ?_)
        clear r
        go_loopw [4, 24] (fun _ i wr => ∃ k : Nat, k ≤ 8 ∧ i = .int .i64 k ∧ (∀ j, j < k → 0 ≤ c (2 + j) ∧ c (2 + j) ≤ c 0 - 1) ∧ Inv14 c w wr) (fun _ i _ => 8 - (intOf i).toNat)
        case atStart => exact ⟨0, by omega, rfl, by omega, hI⟩
        case round =>
          clear hI
          obtain ⟨k, hk, rfl, hs, hI⟩ := hrel
          have Hs := Lib.hid hs
          clear hs
          have c0 := hI.cell (i := 0) (by omega)
          obtain ⟨g1, g2⟩ := of_decide_eq_true B1.out
          by_cases hlt : k < 8
          · have hix := fun w1 : World => run_index_one (P := Tryz.prog) w1 Tryz.underlying27 Tryz.underlying3 rfl (by kernel_rfl) (ints .i64 8 fun i => c (2 + i)) .i64 k (by omega) (by omega) (ints_get (i := (k : Int).toNat) (by omega))
            rw [Int.toNat_natCast] at hix
            cases hb : decide (0 ≤ c (2 + k) ∧ c (2 + k) ≤ c 0 - 1) with
            | true =>
              have Hb := Lib.hid hb
              clear hb
              go_wp2_with (go_at_call 70; refine (confIn_any _ _ _ _).mono ?_; rintro e w' ⟨rfl, rfl⟩; rw [Hb.out])
              go_roundw
              case rel =>
                refine ⟨k + 1, by omega, by go_num, fun j hj => ?_, hI⟩
                rcases Nat.lt_succ_iff_lt_or_eq.1 hj with h | rfl
                · exact Hs.out j h
                · exact of_decide_eq_true Hb.out
              case measure => simp [intOf]; omega
            | false =>
              have N : Hid (confMayB c = false) := decide_eq_false (fun h => of_decide_eq_false hb (h.2.2.2.1 k hlt))
              have Hb := Lib.hid hb
              clear hb
              go_wp2_with (go_at_call 70; refine (confIn_any _ _ _ _).mono ?_; rintro e w' ⟨rfl, rfl⟩; rw [Hb.out])
              go_ret
              exact ⟨by rw [N.out]; rfl, hI.2⟩
          · have hb : Hid (confMayB c = (decide (2 ≤ c 10 ∧ c 10 ≤ 60) && (decide (1 ≤ c 11 ∧ c 11 ≤ 40) && (decide (1 ≤ c 12 ∧ c 12 ≤ 1048576) && decide (0 ≤ c 13 ∧ c 13 ≤ 60))))) := by
              show _ = _
              rw [Bool.eq_iff_iff]
              have h1 := of_decide_eq_true B1.out
              have h2 := of_decide_eq_true B2.out
              have h3 := B3.out
              rw [sames_ints, decide_eq_true_iff] at h3
              have h4 := Hs.out
              rw [confMayB, decide_eq_true_iff]
              simp only [Bool.and_eq_true, decide_eq_true_iff]
              exact ⟨fun h => h.2.2.2.2, fun h => ⟨h1, h2, h3, fun i hi => h4 i (by omega), h⟩⟩
            have c10 := hI.cell (i := 10) (by omega)
            have c11 := hI.cell (i := 11) (by omega)
            have c12 := hI.cell (i := 12) (by omega)
            have c13 := hI.cell (i := 13) (by omega)
            clear g1 g2
            generalize hd1 : decide (2 ≤ c 10 ∧ c 10 ≤ 60) = d1 at hb
            generalize hd2 : decide (1 ≤ c 11 ∧ c 11 ≤ 40) = d2 at hb
            generalize hd3 : decide (1 ≤ c 12 ∧ c 12 ≤ 1048576) = d3 at hb
            generalize hd4 : decide (0 ≤ c 13 ∧ c 13 ≤ 60) = d4 at hb
            have D1 := Lib.hid hd1
            have D2 := Lib.hid hd2
            have D3 := Lib.hid hd3
            have D4 := Lib.hid hd4
            clear hd1 hd2 hd3 hd4
            have D : (d1 = false) ∨ (d1 = true ∧ d2 = false) ∨ (d1 = true ∧ d2 = true ∧ d3 = false) ∨ (d1 = true ∧ d2 = true ∧ d3 = true) := by
              cases d1 <;> cases d2 <;> cases d3 <;> simp
            rcases D with rfl | ⟨rfl, rfl⟩ | ⟨rfl, rfl, rfl⟩ | ⟨rfl, rfl, rfl⟩
            all_goals
              go_wp2_with (go_at_call 70; refine (confIn_any _ _ _ _).mono ?_; rintro e w' ⟨rfl, rfl⟩; first | rw [D1.out] | rw [D2.out] | rw [D3.out] | rw [D4.out])
              go_ret
              exact ⟨by rw [hb.out]; rfl, hI.2⟩

end Go.Proofs.YtlpkimpdeeiaaaaGreat
