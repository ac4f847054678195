/- Walks: where lists of what is seen differ first, by the document; whether they are the same. -/
import Derived.Test.YtngiabfpfklmjaaDoorFirst
namespace Go.Proofs.YtngiabfpfklmjaaDoor
open Go.RowKit
set_option linter.unusedVariables false
set_option linter.unusedSimpArgs false
set_option linter.unnecessarySimpa false
set_option maxHeartbeats 4000000 in
theorem refFirst_eq {σ w : World} {M : Mm} (h : Has σ M w) (a b : Value) (L K : List Sn) (ha : Rd M 18 a L.length (L.flatMap encS)) (hb : Rd M 18 b K.length (K.flatMap encS)) (hL : L.length ≤ 1000) (hK : K.length ≤ 1000) :
    Calls Tryd.prog 5 #[a, b] w fun r w' => r = .returned (.int .i64 (firstD L K)) ∧ Has σ M w' := by
  obtain ⟨A, c, rfl⟩ := ha.form
  obtain ⟨B, d, rfl⟩ := hb.form
  obtain ⟨n, hn⟩ : ∃ n, L.length = n := ⟨_, rfl⟩
  obtain ⟨m, hm⟩ : ∃ m, K.length = m := ⟨_, rfl⟩
  rw [hn] at ha hL ⊢
  rw [hm] at hb hK ⊢
  have HL := Lib.hid hn
  have HK := Lib.hid hm
  clear hn hm
  go_enter Tryd.func5, Tryd.ntmps5
  go_upto_region 2 with (fail)
  go_loopw [5] (fun i wr => ∃ k : Nat, k ≤ max n m ∧ i = .int .i64 k ∧ Has σ M wr ∧ Hid (∀ j, j < k → differ L K j = false)) (fun i _ => max n m - (intOf i).toNat)
  case atStart => exact ⟨0, by omega, rfl, h, Lib.hid fun j hj => absurd hj (by omega)⟩
  case round =>
    clear h w
    obtain ⟨w, rfl⟩ : ∃ x : World, x = wr := ⟨_, rfl⟩
    obtain ⟨k, hk, rfl, h, HD⟩ := hrel
    by_cases hlt : k < n ∨ k < m
    · by_cases hin : k < n ∧ k < m
      · obtain ⟨hkn, hkm⟩ := hin
        clear hlt
        obtain ⟨x, hx⟩ : ∃ x, L[k]? = some x := ⟨_, List.getElem?_eq_getElem (by rw [HL.out]; exact hkn)⟩
        obtain ⟨y, hy⟩ : ∃ y, K[k]? = some y := ⟨_, List.getElem?_eq_getElem (by rw [HK.out]; exact hkm)⟩
        obtain ⟨b1, o1, c1, cs1, t1, f1, e1, hM1, hx1⟩ := ha.elem encS_len hkn hx
        obtain ⟨b2, o2, c2, cs2, t2, f2, e2, hM2, hx2⟩ := hb.elem encS_len hkm hy
        cases e1
        cases e2
        have hc1 := extract_of hx1 (encS_len x)
        have hc2 := extract_of hx2 (encS_len y)
        have DF := Lib.hid (differ_in hx hy)
        have FX := Lib.hid (fits_seen x)
        have FY := Lib.hid (fits_seen y)
        generalize (encS x).toArray = r1 at *
        generalize (encS y).toArray = r2 at *
        have hz1 : r1.size = 18 := by
          have := fits_length FX.out
          simpa [seenKs] using this
        have hz2 : r2.size = 18 := by
          have := fits_length FY.out
          simpa [seenKs] using this
        clear hx1 hx2 hx hy

        have gn : decide (n ≤ k) = false := decide_eq_false (by omega)
        have gm : decide (m ≤ k) = false := decide_eq_false (by omega)
        cases hs : sames r1.toList r2.toList
        · rw [hs] at DF
          have R := Lib.hid (firstD_at (L := L) (K := K) (k := k) (.inl (by rw [HL.out]; exact hkn)) DF.out HD.out)
          go_upto_region 4 with (fail)
          refine wp_region_class (Has σ M) (by kernel_rfl) (by kernel_rfl) h.drew ?_
          clear h
          repeat (first
            | go_big_quiet_skip
            | (go_big_quiet_want; first
              | (refine quiet_agg_has 31 _ rfl rfl hM1 hc1 hz1 Tryd.underlying31 rfl (by kernel_rfl) ?_; simp only [Act.put, List.setIfInBounds_toArray, List.set_cons_zero, List.set_cons_succ]; go_big_quiet_on)
              | (refine quiet_agg_has 31 _ rfl rfl hM2 hc2 hz2 Tryd.underlying31 rfl (by kernel_rfl) ?_; simp only [Act.put, List.setIfInBounds_toArray, List.set_cons_zero, List.set_cons_succ]; go_big_quiet_on)
              | (refine quiet_neq_flat 31 _ _ _ rfl rfl rfl 10 (by omega) (ks := seenKs) (by kernel_rfl) rfl (by kernel_rfl) Tryd.underlying31 rfl (by kernel_rfl) FX.out FY.out ?_; rw [hs]; simp only [Act.put, List.setIfInBounds_toArray, List.set_cons_zero, List.set_cons_succ]; go_big_quiet_on)
              | (go_big_quiet_op; first | go_big_quiet_on | go_big_quiet_call (first | with_reducible exact fun _ => rfl))))
          refine wpQuiet_nil ?_
          try clear w
          intro w h
          go_wp2
          go_ret
          exact ⟨by rw [R.out]; rfl, h⟩
        · rw [hs] at DF
          have HD2 : Hid (∀ j, j < k + 1 → differ L K j = false) := fun j hj => by
            rcases Nat.lt_succ_iff_lt_or_eq.1 hj with h1 | rfl
            · exact HD.out j h1
            · exact DF.out
          clear HD DF
          go_upto_region 4 with (fail)
          refine wp_region_class (Has σ M) (by kernel_rfl) (by kernel_rfl) h.drew ?_
          clear h
          repeat (first
            | go_big_quiet_skip
            | (go_big_quiet_want; first
              | (refine quiet_agg_has 31 _ rfl rfl hM1 hc1 hz1 Tryd.underlying31 rfl (by kernel_rfl) ?_; simp only [Act.put, List.setIfInBounds_toArray, List.set_cons_zero, List.set_cons_succ]; go_big_quiet_on)
              | (refine quiet_agg_has 31 _ rfl rfl hM2 hc2 hz2 Tryd.underlying31 rfl (by kernel_rfl) ?_; simp only [Act.put, List.setIfInBounds_toArray, List.set_cons_zero, List.set_cons_succ]; go_big_quiet_on)
              | (refine quiet_neq_flat 31 _ _ _ rfl rfl rfl 10 (by omega) (ks := seenKs) (by kernel_rfl) rfl (by kernel_rfl) Tryd.underlying31 rfl (by kernel_rfl) FX.out FY.out ?_; rw [hs]; simp only [Act.put, List.setIfInBounds_toArray, List.set_cons_zero, List.set_cons_succ]; go_big_quiet_on)
              | (go_big_quiet_op; first | go_big_quiet_on | go_big_quiet_call (first | with_reducible exact fun _ => rfl))))
          refine wpQuiet_nil ?_
          try clear w
          intro w h
          go_wp2
          go_roundw
          case rel => exact ⟨k + 1, by omega, by go_num, h, HD2⟩
          case measure => simp [intOf]; omega
      · have R := Lib.hid (firstD_at (L := L) (K := K) (k := k) (by have := HL.out; have := HK.out; omega) (differ_out (by have := HL.out; have := HK.out; omega)) HD.out)
        clear ha hb
        by_cases hkn : k < n
        · have gn : decide (n ≤ k) = false := decide_eq_false (by omega)
          have gm : decide (m ≤ k) = true := decide_eq_true (by omega)
          clear hin HD hlt
          go_upto_region 4 with (fail)
          refine wp_region_class (Has σ M) (by kernel_rfl) (by kernel_rfl) h.drew ?_
          clear h
          repeat (first
            | go_big_quiet_skip
            | (go_big_quiet_want; first
              | (go_big_quiet_op; first | go_big_quiet_on | go_big_quiet_call (first | with_reducible exact fun _ => rfl))))
          refine wpQuiet_nil ?_
          try clear w
          intro w h
          go_wp2
          go_ret
          exact ⟨by rw [R.out]; rfl, h⟩
        · have gn : decide (n ≤ k) = true := decide_eq_true (by omega)
          have hkm : k < m := by omega
          clear hin HD hlt
          go_upto_region 4 with (fail)
          refine wp_region_class (Has σ M) (by kernel_rfl) (by kernel_rfl) h.drew ?_
          clear h
          repeat (first
            | go_big_quiet_skip
            | (go_big_quiet_want; first
              | (go_big_quiet_op; first | go_big_quiet_on | go_big_quiet_call (first | with_reducible exact fun _ => rfl))))
          refine wpQuiet_nil ?_
          try clear w
          intro w h
          go_wp2
          go_ret
          exact ⟨by rw [R.out]; rfl, h⟩
    · have hkn : ¬ k < n := fun h => hlt (.inl h)
      have hkm : ¬ k < m := fun h => hlt (.inr h)
      have R := Lib.hid (firstD_none (L := L) (K := K) fun i hi => HD.out i (by have := HL.out; have := HK.out; omega))
      clear HD ha hb hlt
      go_wp2
      go_ret
      exact ⟨by rw [R.out]; rfl, h⟩
theorem firstD_neg {L K : List Sn} : firstD L K < 0 ↔ ∀ i, i < L.length ∨ i < K.length → differ L K i = false := by
  constructor
  · intro h i hi
    by_cases hex : ∃ k, (k < L.length ∨ k < K.length) ∧ differ L K k = true
    · have hmin : ∃ k, (k < L.length ∨ k < K.length) ∧ differ L K k = true ∧ ∀ j, j < k → differ L K j = false := by
        obtain ⟨k, hk, hD⟩ := hex
        induction k using Nat.strongRecOn with
        | ind k ih =>
          by_cases hall : ∀ j, j < k → differ L K j = false
          · exact ⟨k, hk, hD, hall⟩
          · obtain ⟨j, hj⟩ := Classical.not_forall.1 hall
            obtain ⟨hjk, hjD⟩ := Classical.not_imp.1 hj
            exact ih j hjk (by omega) (by simpa using hjD)
      obtain ⟨k, hk, hD, hall⟩ := hmin
      rw [firstD_at hk hD hall] at h
      omega
    · cases hd : differ L K i
      · rfl
      · exact absurd ⟨i, hi, hd⟩ hex
  · intro h
    rw [firstD_none h]
    omega
set_option maxHeartbeats 4000000 in
theorem seenEqual_eq {σ w : World} {M : Mm} (h : Has σ M w) (a b : Value) (L K : List Sn) (ha : Rd M 18 a L.length (L.flatMap encS)) (hb : Rd M 18 b K.length (K.flatMap encS)) (hL : L.length ≤ 1000) (hK : K.length ≤ 1000) :
    Calls Tryd.prog 21 #[a, b] w fun r w' => r = .returned (.bool (decide (firstD L K < 0))) ∧ Has σ M w' := by
  obtain ⟨A, c, rfl⟩ := ha.form
  obtain ⟨B, d, rfl⟩ := hb.form
  obtain ⟨n, hn⟩ : ∃ n, L.length = n := ⟨_, rfl⟩
  obtain ⟨m, hm⟩ : ∃ m, K.length = m := ⟨_, rfl⟩
  rw [hn] at ha hL ⊢
  rw [hm] at hb hK ⊢
  have HL := Lib.hid hn
  have HK := Lib.hid hm
  clear hn hm
  by_cases hnm : n = m
  · subst hnm
    go_enter Tryd.func21, Tryd.ntmps21
    go_upto_region 4 with (fail)
    go_loopw [5, 13] (fun v i wr => ∃ k : Nat, k ≤ n ∧ i = .int .i64 k ∧ Has σ M wr ∧ Hid (∀ j, j < k → differ L K j = false)) (fun _ i _ => n - (intOf i).toNat)
    case atStart => exact ⟨0, by omega, rfl, h, Lib.hid fun j hj => absurd hj (by omega)⟩
    case round =>
      clear h w
      obtain ⟨w, rfl⟩ : ∃ x : World, x = wr := ⟨_, rfl⟩
      obtain ⟨k, hk, rfl, h, HD⟩ := hrel
      by_cases hkn : k < n
      · have hkm := hkn
        obtain ⟨x, hx⟩ : ∃ x, L[k]? = some x := ⟨_, List.getElem?_eq_getElem (by rw [HL.out]; exact hkn)⟩
        obtain ⟨y, hy⟩ : ∃ y, K[k]? = some y := ⟨_, List.getElem?_eq_getElem (by rw [HK.out]; exact hkm)⟩
        obtain ⟨b1, o1, c1, cs1, t1, f1, e1, hM1, hx1⟩ := ha.elem encS_len hkn hx
        obtain ⟨b2, o2, c2, cs2, t2, f2, e2, hM2, hx2⟩ := hb.elem encS_len hkm hy
        cases e1
        cases e2
        have hc1 := extract_of hx1 (encS_len x)
        have hc2 := extract_of hx2 (encS_len y)
        have DF := Lib.hid (differ_in hx hy)
        have FX := Lib.hid (fits_seen x)
        have FY := Lib.hid (fits_seen y)
        generalize (encS x).toArray = r1 at *
        generalize (encS y).toArray = r2 at *
        have hz1 : r1.size = 18 := by
          have := fits_length FX.out
          simpa [seenKs] using this
        have hz2 : r2.size = 18 := by
          have := fits_length FY.out
          simpa [seenKs] using this
        clear hx1 hx2 hx hy

        cases hs : sames r1.toList r2.toList
        · rw [hs] at DF
          have R : Hid (decide (firstD L K < 0) = false) := decide_eq_false fun hneg => by
            have := firstD_neg.1 hneg k (.inl (by rw [HL.out]; exact hkn))
            rw [DF.out] at this
            cases this
          go_upto_region 6 with (fail)
          refine wp_region_class (Has σ M) (by kernel_rfl) (by kernel_rfl) h.drew ?_
          clear h
          repeat (first
            | go_big_quiet_skip
            | (go_big_quiet_want; first
              | (refine quiet_agg_has 31 _ rfl rfl hM1 hc1 hz1 Tryd.underlying31 rfl (by kernel_rfl) ?_; simp only [Act.put, List.setIfInBounds_toArray, List.set_cons_zero, List.set_cons_succ]; go_big_quiet_on)
              | (refine quiet_agg_has 31 _ rfl rfl hM2 hc2 hz2 Tryd.underlying31 rfl (by kernel_rfl) ?_; simp only [Act.put, List.setIfInBounds_toArray, List.set_cons_zero, List.set_cons_succ]; go_big_quiet_on)
              | (refine quiet_neq_flat 31 _ _ _ rfl rfl rfl 10 (by omega) (ks := seenKs) (by kernel_rfl) rfl (by kernel_rfl) Tryd.underlying31 rfl (by kernel_rfl) FX.out FY.out ?_; rw [hs]; simp only [Act.put, List.setIfInBounds_toArray, List.set_cons_zero, List.set_cons_succ]; go_big_quiet_on)
              | (go_big_quiet_op; first | go_big_quiet_on | go_big_quiet_call (first | with_reducible exact fun _ => rfl))))
          refine wpQuiet_nil ?_
          try clear w
          intro w h
          go_wp2
          go_ret
          exact ⟨by rw [R.out]; rfl, h⟩
        · rw [hs] at DF
          have HD2 : Hid (∀ j, j < k + 1 → differ L K j = false) := fun j hj => by
            rcases Nat.lt_succ_iff_lt_or_eq.1 hj with h1 | rfl
            · exact HD.out j h1
            · exact DF.out
          clear HD DF
          go_upto_region 6 with (fail)
          refine wp_region_class (Has σ M) (by kernel_rfl) (by kernel_rfl) h.drew ?_
          clear h
          repeat (first
            | go_big_quiet_skip
            | (go_big_quiet_want; first
              | (refine quiet_agg_has 31 _ rfl rfl hM1 hc1 hz1 Tryd.underlying31 rfl (by kernel_rfl) ?_; simp only [Act.put, List.setIfInBounds_toArray, List.set_cons_zero, List.set_cons_succ]; go_big_quiet_on)
              | (refine quiet_agg_has 31 _ rfl rfl hM2 hc2 hz2 Tryd.underlying31 rfl (by kernel_rfl) ?_; simp only [Act.put, List.setIfInBounds_toArray, List.set_cons_zero, List.set_cons_succ]; go_big_quiet_on)
              | (refine quiet_neq_flat 31 _ _ _ rfl rfl rfl 10 (by omega) (ks := seenKs) (by kernel_rfl) rfl (by kernel_rfl) Tryd.underlying31 rfl (by kernel_rfl) FX.out FY.out ?_; rw [hs]; simp only [Act.put, List.setIfInBounds_toArray, List.set_cons_zero, List.set_cons_succ]; go_big_quiet_on)
              | (go_big_quiet_op; first | go_big_quiet_on | go_big_quiet_call (first | with_reducible exact fun _ => rfl))))
          refine wpQuiet_nil ?_
          try clear w
          intro w h
          go_wp2
          go_roundw
          case rel => exact ⟨k + 1, by omega, by go_num, h, HD2⟩
          case measure => simp [intOf]; omega
      · have R : Hid (decide (firstD L K < 0) = true) := decide_eq_true (firstD_neg.2 fun i hi => HD.out i (by have := HL.out; have := HK.out; omega))
        clear HD ha hb
        go_wp2
        go_ret
        exact ⟨by rw [R.out]; rfl, h⟩
  · have R : Hid (decide (firstD L K < 0) = false) := decide_eq_false fun hneg => by
      have h1 := firstD_neg.1 hneg (min n m) (by have := HL.out; have := HK.out; omega)
      rw [differ_out (by have := HL.out; have := HK.out; omega)] at h1
      cases h1
    have g : ((n : Int) == (m : Int)) = false := beq_eq_false_iff_ne.2 (by omega)
    have g2 : (n == m) = false := beq_eq_false_iff_ne.2 hnm
    clear ha hb
    go_enter Tryd.func21, Tryd.ntmps21
    go_wp2
    go_ret
    exact ⟨by rw [R.out]; rfl, h⟩
theorem viewSame_eq {σ w : World} {M : Mm} (h : Has σ M w) (a b : Value) (L K : List Sn) (ha : Rd M 18 a L.length (L.flatMap encS)) (hb : Rd M 18 b K.length (K.flatMap encS)) (hL : L.length ≤ 1000) (hK : K.length ≤ 1000) :
    Calls Tryd.prog 9 #[a, b] w fun r w' => r = .returned (.bool (decide (firstD L K < 0))) ∧ Has σ M w' := by
  have C := Lib.hid (seenEqual_eq h a b L K ha hb hL hK)
  generalize decide (firstD L K < 0) = g at C ⊢
  clear ha hb hL hK
  go_enter Tryd.func9, Tryd.ntmps9
  go_wp2_with (first
    | (go_at_call 21; refine (C.out).mono ?_; clear h; rintro r w ⟨rfl, h⟩))
  go_ret
  exact ⟨rfl, h⟩
end Go.Proofs.YtngiabfpfklmjaaDoor
