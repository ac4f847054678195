/- Walks: where lists of what is seen differ first; whether they are the same. -/
import Derived.Test.YtngiabfpfklmjaaDoorLineE
namespace Go.Proofs.YtngiabfpfklmjaaDoor
open Go.RowKit
set_option linter.unusedVariables false
set_option linter.unusedSimpArgs false
set_option linter.unnecessarySimpa false
def encS (x : Sn) : List Value := x.cells.toList
theorem encS_len (x : Sn) : (encS x).length = 18 := rfl
def seenKs : List Kd := [some (some .i64), some (some .i64), some (some .i64), some (some .i64), some (some .i64), some (some .i64), some (some .i64), some (some .u64), some (some .u64), some (some .u64), some (some .i64), some (some .i64), some (some .u64), some (some .u64), some (some .u64), some (some .i64), some (some .i64), some (some .u64)]
theorem fits_seen (x : Sn) : fits seenKs (encS x).toArray.toList := ⟨rfl, rfl, rfl, rfl, rfl, rfl, rfl, rfl, rfl, rfl, rfl, rfl, rfl, rfl, rfl, rfl, rfl, rfl, trivial⟩
/-- Do lists differ at a place? -/
def differ (L K : List Sn) (k : Nat) : Bool := match L[k]?, K[k]? with
  | some x, some y => !sames (encS x).toArray.toList (encS y).toArray.toList
  | _, _ => true
/-- The first place, from k on, up to N. -/
def scan (D : Nat → Bool) (N : Nat) : Nat → Nat → Int
  | 0, _ => -1
  | f + 1, k => if k < N then (if D k then (k : Int) else scan D N f (k + 1)) else -1
theorem scan_at {D : Nat → Bool} {N k : Nat} (hk : k < N) (hD : D k = true) : ∀ (f j : Nat), j ≤ k → k < j + f → (∀ i, j ≤ i → i < k → D i = false) → scan D N f j = k := by
  intro f
  induction f with
  | zero => intro j h1 h2; omega
  | succ f ih =>
    intro j h1 h2 h3
    unfold scan
    rw [if_pos (by omega)]
    by_cases hj : j = k
    · subst hj
      rw [hD]
      rfl
    · rw [h3 j (by omega) (by omega)]
      exact ih (j + 1) (by omega) (by omega) fun i hi hik => h3 i (by omega) hik
theorem scan_none {D : Nat → Bool} {N : Nat} : ∀ (f j : Nat), (∀ i, j ≤ i → i < N → D i = false) → scan D N f j = -1 := by
  intro f
  induction f with
  | zero => intro j h; rfl
  | succ f ih =>
    intro j h
    unfold scan
    by_cases hj : j < N
    · rw [if_pos hj, h j (Nat.le_refl _) hj]
      exact ih (j + 1) fun i hi hiN => h i (by omega) hiN
    · rw [if_neg hj]
def firstD (L K : List Sn) : Int := scan (differ L K) (max L.length K.length) (max L.length K.length) 0
theorem firstD_at {L K : List Sn} {k : Nat} (hk : k < L.length ∨ k < K.length) (hD : differ L K k = true) (h : ∀ i, i < k → differ L K i = false) : firstD L K = k :=
  scan_at (by omega) hD _ 0 (Nat.zero_le _) (by omega) fun i _ hi => h i hi
theorem firstD_none {L K : List Sn} (h : ∀ i, i < L.length ∨ i < K.length → differ L K i = false) : firstD L K = -1 :=
  scan_none _ 0 fun i _ hi => h i (by omega)
theorem differ_out {L K : List Sn} {k : Nat} (h : L.length ≤ k ∨ K.length ≤ k) : differ L K k = true := by
  unfold differ
  rcases h with h | h
  · rw [List.getElem?_eq_none h]
  · rw [List.getElem?_eq_none h]
    cases L[k]? <;> rfl
theorem differ_in {L K : List Sn} {k : Nat} {x y : Sn} (hx : L[k]? = some x) (hy : K[k]? = some y) : differ L K k = !sames (encS x).toArray.toList (encS y).toArray.toList := by
  unfold differ
  rw [hx, hy]

set_option maxHeartbeats 4000000 in
theorem viewFirst_eq {σ w : World} {M : Mm} (h : Has σ M w) (a b : Value) (L K : List Sn) (ha : Rd M 18 a L.length (L.flatMap encS)) (hb : Rd M 18 b K.length (K.flatMap encS)) (hL : L.length ≤ 1000) (hK : K.length ≤ 1000) :
    Calls Tryd.prog 8 #[a, b] w fun r w' => r = .returned (.int .i64 (firstD L K)) ∧ Has σ M w' := by
  obtain ⟨A, c, rfl⟩ := ha.form
  obtain ⟨B, d, rfl⟩ := hb.form
  obtain ⟨n, hn⟩ : ∃ n, L.length = n := ⟨_, rfl⟩
  obtain ⟨m, hm⟩ : ∃ m, K.length = m := ⟨_, rfl⟩
  rw [hn] at ha hL ⊢
  rw [hm] at hb hK ⊢
  have HL := Lib.hid hn
  have HK := Lib.hid hm
  clear hn hm
  go_enter Tryd.func8, Tryd.ntmps8
  go_upto_region 2 with (fail)
  rw [show max (n : Int) (m : Int) = ((max n m : Nat) : Int) by omega]
  have hnN : n ≤ max n m := by omega
  have hmN : m ≤ max n m := by omega
  have hN : max n m = n ∨ max n m = m := by omega
  generalize max n m = N at hnN hmN hN ⊢
  go_loopw [5, 11] (fun v i wr => ∃ k : Nat, k ≤ N ∧ i = .int .i64 k ∧ Has σ M wr ∧ Hid (∀ j, j < k → differ L K j = false)) (fun _ i _ => N - (intOf i).toNat)
  case atStart => exact ⟨0, by omega, rfl, h, Lib.hid fun j hj => absurd hj (by omega)⟩
  case round =>
    clear h w
    obtain ⟨w, rfl⟩ : ∃ x : World, x = wr := ⟨_, rfl⟩
    obtain ⟨k, hk, rfl, h, HD⟩ := hrel
    by_cases hlt : k < N
    · by_cases hin : k < n ∧ k < m
      · obtain ⟨hkn, hkm⟩ := hin
        obtain ⟨x, hx⟩ : ∃ x, L[k]? = some x := ⟨_, List.getElem?_eq_getElem (by rw [HL.out]; exact hkn)⟩
        obtain ⟨y, hy⟩ : ∃ y, K[k]? = some y := ⟨_, List.getElem?_eq_getElem (by rw [HK.out]; exact hkm)⟩
        obtain ⟨b1, o1, c1, cs1, t1, f1, e1, hM1, hx1⟩ := ha.elem encS_len hkn hx
        obtain ⟨b2, o2, c2, cs2, t2, f2, e2, hM2, hx2⟩ := hb.elem encS_len hkm hy
        cases e1
        cases e2
        have hc1 := extract_of hx1 (encS_len x)
        have hc2 := extract_of hx2 (encS_len y)
        have DF := Lib.hid (differ_in hx hy)
        have FX := Lib.hid (fits_seen x)
        have FY := Lib.hid (fits_seen y)
        generalize (encS x).toArray = r1 at *
        generalize (encS y).toArray = r2 at *
        have hz1 : r1.size = 18 := by
          have := fits_length FX.out
          simpa [seenKs] using this
        have hz2 : r2.size = 18 := by
          have := fits_length FY.out
          simpa [seenKs] using this
        clear hx1 hx2 hx hy

        have gn : decide (n ≤ k) = false := decide_eq_false (by omega)
        have gm : decide (m ≤ k) = false := decide_eq_false (by omega)
        cases hs : sames r1.toList r2.toList
        · rw [hs] at DF
          have R := Lib.hid (firstD_at (L := L) (K := K) (k := k) (.inl (by rw [HL.out]; exact hkn)) DF.out HD.out)
          go_upto_region 4 with (fail)
          refine wp_region_class (Has σ M) (by kernel_rfl) (by kernel_rfl) h.drew ?_
          clear h
          repeat (first
            | go_big_quiet_skip
            | (go_big_quiet_want; first
              | (refine quiet_agg_has 31 _ rfl rfl hM1 hc1 hz1 Tryd.underlying31 rfl (by kernel_rfl) ?_; simp only [Act.put, List.setIfInBounds_toArray, List.set_cons_zero, List.set_cons_succ]; go_big_quiet_on)
              | (refine quiet_agg_has 31 _ rfl rfl hM2 hc2 hz2 Tryd.underlying31 rfl (by kernel_rfl) ?_; simp only [Act.put, List.setIfInBounds_toArray, List.set_cons_zero, List.set_cons_succ]; go_big_quiet_on)
              | (refine quiet_neq_flat 31 _ _ _ rfl rfl rfl 10 (by omega) (ks := seenKs) (by kernel_rfl) rfl (by kernel_rfl) Tryd.underlying31 rfl (by kernel_rfl) FX.out FY.out ?_; rw [hs]; simp only [Act.put, List.setIfInBounds_toArray, List.set_cons_zero, List.set_cons_succ]; go_big_quiet_on)
              | (go_big_quiet_op; first | go_big_quiet_on | go_big_quiet_call (first | with_reducible exact fun _ => rfl))))
          refine wpQuiet_nil ?_
          try clear w
          intro w h
          go_wp2
          go_ret
          exact ⟨by rw [R.out]; rfl, h⟩
        · rw [hs] at DF
          have HD2 : Hid (∀ j, j < k + 1 → differ L K j = false) := fun j hj => by
            rcases Nat.lt_succ_iff_lt_or_eq.1 hj with h1 | rfl
            · exact HD.out j h1
            · exact DF.out
          clear HD DF
          go_upto_region 4 with (fail)
          refine wp_region_class (Has σ M) (by kernel_rfl) (by kernel_rfl) h.drew ?_
          clear h
          repeat (first
            | go_big_quiet_skip
            | (go_big_quiet_want; first
              | (refine quiet_agg_has 31 _ rfl rfl hM1 hc1 hz1 Tryd.underlying31 rfl (by kernel_rfl) ?_; simp only [Act.put, List.setIfInBounds_toArray, List.set_cons_zero, List.set_cons_succ]; go_big_quiet_on)
              | (refine quiet_agg_has 31 _ rfl rfl hM2 hc2 hz2 Tryd.underlying31 rfl (by kernel_rfl) ?_; simp only [Act.put, List.setIfInBounds_toArray, List.set_cons_zero, List.set_cons_succ]; go_big_quiet_on)
              | (refine quiet_neq_flat 31 _ _ _ rfl rfl rfl 10 (by omega) (ks := seenKs) (by kernel_rfl) rfl (by kernel_rfl) Tryd.underlying31 rfl (by kernel_rfl) FX.out FY.out ?_; rw [hs]; simp only [Act.put, List.setIfInBounds_toArray, List.set_cons_zero, List.set_cons_succ]; go_big_quiet_on)
              | (go_big_quiet_op; first | go_big_quiet_on | go_big_quiet_call (first | with_reducible exact fun _ => rfl))))
          refine wpQuiet_nil ?_
          try clear w
          intro w h
          go_wp2
          go_roundw
          case rel => exact ⟨k + 1, by omega, by go_num, h, HD2⟩
          case measure => simp [intOf]; omega
      · have R := Lib.hid (firstD_at (L := L) (K := K) (k := k) (by have := HL.out; have := HK.out; omega) (differ_out (by have := HL.out; have := HK.out; omega)) HD.out)
        clear ha hb
        by_cases hkn : k < n
        · have gn : decide (n ≤ k) = false := decide_eq_false (by omega)
          have gm : decide (m ≤ k) = true := decide_eq_true (by omega)
          clear hin HD
          go_upto_region 4 with (fail)
          refine wp_region_class (Has σ M) (by kernel_rfl) (by kernel_rfl) h.drew ?_
          clear h
          repeat (first
            | go_big_quiet_skip
            | (go_big_quiet_want; first
              | (go_big_quiet_op; first | go_big_quiet_on | go_big_quiet_call (first | with_reducible exact fun _ => rfl))))
          refine wpQuiet_nil ?_
          try clear w
          intro w h
          go_wp2
          go_ret
          exact ⟨by rw [R.out]; rfl, h⟩
        · have gn : decide (n ≤ k) = true := decide_eq_true (by omega)
          clear hin HD
          go_upto_region 4 with (fail)
          refine wp_region_class (Has σ M) (by kernel_rfl) (by kernel_rfl) h.drew ?_
          clear h
          repeat (first
            | go_big_quiet_skip
            | (go_big_quiet_want; first
              | (go_big_quiet_op; first | go_big_quiet_on | go_big_quiet_call (first | with_reducible exact fun _ => rfl))))
          refine wpQuiet_nil ?_
          try clear w
          intro w h
          go_wp2
          go_ret
          exact ⟨by rw [R.out]; rfl, h⟩
    · have R := Lib.hid (firstD_none (L := L) (K := K) fun i hi => HD.out i (by have := HL.out; have := HK.out; omega))
      clear HD ha hb
      go_wp2
      go_ret
      exact ⟨by rw [R.out]; rfl, h⟩
end Go.Proofs.YtngiabfpfklmjaaDoor
