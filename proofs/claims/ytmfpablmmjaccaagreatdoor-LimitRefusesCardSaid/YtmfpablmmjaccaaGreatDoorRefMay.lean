/- The document's answer for layer 4: whether a configuration may be. -/
import Derived.Test.YtmfpablmmjaccaaGreatDoorPlanA
namespace Go.Proofs.YtmfpablmmjaccaaGreatDoor
open Go.RowKit
set_option linter.unusedVariables false
set_option linter.unusedSimpArgs false
set_option linter.unnecessarySimpa false

def okOf (c : Nat → Int) (t : Nat) : Prop := (c 1 ≤ (t : Int) → c (2 + t) = 0) ∧ 0 ≤ c (2 + t) ∧ c (2 + t) < c 0
theorem confMay_iff (c : Nat → Int) : ConfMay c ↔ (1 ≤ c 0 ∧ c 0 ≤ 4) ∧ (1 ≤ c 1 ∧ c 1 ≤ 8) ∧ (∀ t, t < 8 → okOf c t) ∧ (2 ≤ c 10 ∧ c 10 ≤ 60) ∧ (1 ≤ c 11 ∧ c 11 ≤ 40) ∧ (1 ≤ c 12 ∧ c 12 ≤ 1048576) ∧ (0 ≤ c 13 ∧ c 13 ≤ 60) := by
  unfold ConfMay okOf
  constructor
  · rintro ⟨h0, h1, h2, h3, h4, h5, h6, h7⟩
    refine ⟨h0, h1, fun t ht => ⟨fun hc => ?_, (h3 t ht).1, by have := h3 t ht; omega⟩, h4, h5, h6, h7⟩
    rw [h2 t ht, clearedOf, if_pos (by omega)]
  · rintro ⟨h0, h1, h2, h4, h5, h6, h7⟩
    refine ⟨h0, h1, fun t ht => ?_, fun t ht => ?_, h4, h5, h6, h7⟩
    · unfold clearedOf
      split
      · exact (h2 t ht).1 (by omega)
      · rfl
    · have := h2 t ht
      omega
theorem confMayB_false {c : Nat → Int} (h : ¬ ConfMay c) : confMayB c = false := decide_eq_false h

set_option maxHeartbeats 4000000 in
theorem refMay_has {σ w : World} {M : Mm} (h : Has σ M w) (c : Nat → Int) : Calls Tryz.prog 5 #[confV c] w fun e w' => e = .returned (.bool (confMayB c)) ∧ Has σ M w' := by
  have NO : Hid (¬ ConfMay c → confMayB c = false) := confMayB_false
  have YES : Hid (ConfMay c → confMayB c = true) := fun h => decide_eq_true h
  have IFF := Lib.hid (confMay_iff c)
  simp only [confV, ints14_lit]
  go_enter Tryz.func5, Tryz.ntmps5
  go_upto_region 1 with (fail)
  obtain ⟨M1, hbx, hle, hb, hn⟩ := h.box (.cells #[.int .i64 (c 0), .int .i64 (c 1), .int .i64 (c 2), .int .i64 (c 3), .int .i64 (c 4), .int .i64 (c 5), .int .i64 (c 6), .int .i64 (c 7), .int .i64 (c 8), .int .i64 (c 9), .int .i64 (c 10), .int .i64 (c 11), .int .i64 (c 12), .int .i64 (c 13)] 24)
  generalize w.alloc _ = wx at hbx ⊢
  generalize w.heap.size = b at hb hn ⊢
  clear h
  try clear w
  have h := hbx
  clear hbx
  obtain ⟨w, rfl⟩ : ∃ x : World, x = wx := ⟨_, rfl⟩
  have c0 : w.cell? ⟨b, 0, none⟩ = some (.int .i64 (c 0)) := h.cell hb 0
  have c1 : w.cell? ⟨b, 1, none⟩ = some (.int .i64 (c 1)) := h.cell hb 1
  by_cases hr : (1 ≤ c 0 ∧ c 0 ≤ 4) ∧ (1 ≤ c 1 ∧ c 1 ≤ 8)
  · obtain ⟨⟨r0, r1⟩, r2, r3⟩ := hr
    have q0 : ¬ c 0 < 1 := by omega
    have q1 : ¬ 4 < c 0 := by omega
    have q2 : ¬ c 1 < 1 := by omega
    have q3 : ¬ 8 < c 1 := by omega
    go_wp2
    clear c0 c1 q0 q1 q2 q3
    go_loopw [3] (fun i wr => ∃ k : Nat, k ≤ 8 ∧ i = .int .i64 k ∧ Has σ M1 wr ∧ ∀ t, t < k → okOf c t) (fun i _ => 8 - (intOf i).toNat)
    case atStart => exact ⟨0, by omega, rfl, h, fun t ht => absurd ht (by omega)⟩
    case round =>
      clear h w
      obtain ⟨w, rfl⟩ : ∃ x : World, x = wr := ⟨_, rfl⟩
      obtain ⟨k, hk, rfl, h, hall⟩ := hrel
      have HA := Lib.hid hall
      clear hall
      by_cases hlt : k < 8
      · have e0 : (#[.int .i64 (c 0), .int .i64 (c 1), .int .i64 (c 2), .int .i64 (c 3), .int .i64 (c 4), .int .i64 (c 5), .int .i64 (c 6), .int .i64 (c 7), .int .i64 (c 8), .int .i64 (c 9), .int .i64 (c 10), .int .i64 (c 11), .int .i64 (c 12), .int .i64 (c 13)] : Array Value)[0]? = some (.int .i64 (c 0)) := rfl
        have e1 : (#[.int .i64 (c 0), .int .i64 (c 1), .int .i64 (c 2), .int .i64 (c 3), .int .i64 (c 4), .int .i64 (c 5), .int .i64 (c 6), .int .i64 (c 7), .int .i64 (c 8), .int .i64 (c 9), .int .i64 (c 10), .int .i64 (c 11), .int .i64 (c 12), .int .i64 (c 13)] : Array Value)[1]? = some (.int .i64 (c 1)) := rfl
        have e2 : (#[.int .i64 (c 0), .int .i64 (c 1), .int .i64 (c 2), .int .i64 (c 3), .int .i64 (c 4), .int .i64 (c 5), .int .i64 (c 6), .int .i64 (c 7), .int .i64 (c 8), .int .i64 (c 9), .int .i64 (c 10), .int .i64 (c 11), .int .i64 (c 12), .int .i64 (c 13)] : Array Value)[2 + k]? = some (.int .i64 (c (2 + k))) := by rw [← ints14_lit, ints_get (by omega)]
        have OK : Hid (okOf c k ↔ (c 1 ≤ (k : Int) → c (2 + k) = 0) ∧ 0 ≤ c (2 + k) ∧ c (2 + k) < c 0) := Iff.rfl
        generalize c (2 + k) = x at e2 OK
        generalize (#[.int .i64 (c 0), .int .i64 (c 1), .int .i64 (c 2), .int .i64 (c 3), .int .i64 (c 4), .int .i64 (c 5), .int .i64 (c 6), .int .i64 (c 7), .int .i64 (c 8), .int .i64 (c 9), .int .i64 (c 10), .int .i64 (c 11), .int .i64 (c 12), .int .i64 (c 13)] : Array Value) = cs at hb e0 e1 e2
        go_upto_region 6 with (fail)
        by_cases hok : okOf c k
        · obtain ⟨p1, p2, p3⟩ := OK.out.1 hok
          have HN : Hid (∀ t, t < k + 1 → okOf c t) := fun t ht => by
            rcases Nat.lt_or_ge t k with h1 | h1
            · exact HA.out t h1
            · obtain rfl : t = k := by omega
              exact hok
          have n2 : ¬ x < 0 := by omega
          have n3 : ¬ c 0 ≤ x := by omega
          clear hok
          by_cases hc1 : c 1 ≤ (k : Int)
          · have hx0 := p1 hc1
            clear p1
            have hx0' : (x != 0) = false := by simp [hx0]
            have H0 := Lib.hid hx0
            clear hx0
            refine wp_region_class (Has σ M1) (by kernel_rfl) (by kernel_rfl) h.drew ?_
            clear h
            repeat (first
              | go_big_quiet_skip
              | (go_big_quiet_want; first
                | (refine quiet_load_has 3 _ rfl rfl hb e0 Tryz.underlying3 rfl ?_; simp only [Act.put, List.setIfInBounds_toArray, List.set_cons_zero, List.set_cons_succ]; go_big_quiet_on)
                | (refine quiet_load_has 3 _ rfl rfl hb e1 Tryz.underlying3 rfl ?_; simp only [Act.put, List.setIfInBounds_toArray, List.set_cons_zero, List.set_cons_succ]; go_big_quiet_on)
                | (refine quiet_load_has 3 _ rfl rfl hb e2 Tryz.underlying3 rfl ?_; simp only [Act.put, List.setIfInBounds_toArray, List.set_cons_zero, List.set_cons_succ]; go_big_quiet_on)
                | (go_big_quiet_op; first | go_big_quiet_on | go_big_quiet_call (first | with_reducible exact fun _ => rfl))))
            refine wpQuiet_nil ?_
            try clear w
            intro w h
            go_wp2
            go_roundw
            case rel => exact ⟨k + 1, by omega, by go_num, h, HN.out⟩
            case measure => simp [intOf]; omega
          · clear p1
            refine wp_region_class (Has σ M1) (by kernel_rfl) (by kernel_rfl) h.drew ?_
            clear h
            repeat (first
              | go_big_quiet_skip
              | (go_big_quiet_want; first
                | (refine quiet_load_has 3 _ rfl rfl hb e0 Tryz.underlying3 rfl ?_; simp only [Act.put, List.setIfInBounds_toArray, List.set_cons_zero, List.set_cons_succ]; go_big_quiet_on)
                | (refine quiet_load_has 3 _ rfl rfl hb e1 Tryz.underlying3 rfl ?_; simp only [Act.put, List.setIfInBounds_toArray, List.set_cons_zero, List.set_cons_succ]; go_big_quiet_on)
                | (refine quiet_load_has 3 _ rfl rfl hb e2 Tryz.underlying3 rfl ?_; simp only [Act.put, List.setIfInBounds_toArray, List.set_cons_zero, List.set_cons_succ]; go_big_quiet_on)
                | (go_big_quiet_op; first | go_big_quiet_on | go_big_quiet_call (first | with_reducible exact fun _ => rfl))))
            refine wpQuiet_nil ?_
            try clear w
            intro w h
            go_wp2
            go_roundw
            case rel => exact ⟨k + 1, by omega, by go_num, h, HN.out⟩
            case measure => simp [intOf]; omega
        · have N := Lib.hid (NO.out fun h1 => hok ((IFF.out.1 h1).2.2.1 k hlt))
          have hcase : (c 1 ≤ (k : Int) ∧ x ≠ 0) ∨ ((c 1 ≤ (k : Int) → x = 0) ∧ x < 0) ∨ ((c 1 ≤ (k : Int) → x = 0) ∧ ¬ x < 0 ∧ c 0 ≤ x) := by
            by_cases a1 : c 1 ≤ (k : Int) ∧ x ≠ 0
            · exact .inl a1
            · by_cases a2 : x < 0
              · exact .inr (.inl ⟨fun h1 => Classical.byContradiction fun h2 => a1 ⟨h1, h2⟩, a2⟩)
              · refine .inr (.inr ⟨fun h1 => Classical.byContradiction fun h2 => a1 ⟨h1, h2⟩, a2, ?_⟩)
                apply Classical.byContradiction
                intro h3
                exact hok (OK.out.2 ⟨fun h1 => Classical.byContradiction fun h2 => a1 ⟨h1, h2⟩, by omega, by omega⟩)
          clear hok
          rcases hcase with ⟨a1, a2⟩ | ⟨a1, a2⟩ | ⟨a1, a2, a3⟩
          · have hx0' : (x != 0) = true := by simpa using a2
            clear a2
            refine wp_region_class (Has σ M1) (by kernel_rfl) (by kernel_rfl) h.drew ?_
            clear h
            repeat (first
              | go_big_quiet_skip
              | (go_big_quiet_want; first
                | (refine quiet_load_has 3 _ rfl rfl hb e0 Tryz.underlying3 rfl ?_; simp only [Act.put, List.setIfInBounds_toArray, List.set_cons_zero, List.set_cons_succ]; go_big_quiet_on)
                | (refine quiet_load_has 3 _ rfl rfl hb e1 Tryz.underlying3 rfl ?_; simp only [Act.put, List.setIfInBounds_toArray, List.set_cons_zero, List.set_cons_succ]; go_big_quiet_on)
                | (refine quiet_load_has 3 _ rfl rfl hb e2 Tryz.underlying3 rfl ?_; simp only [Act.put, List.setIfInBounds_toArray, List.set_cons_zero, List.set_cons_succ]; go_big_quiet_on)
                | (go_big_quiet_op; first | go_big_quiet_on | go_big_quiet_call (first | with_reducible exact fun _ => rfl))))
            refine wpQuiet_nil ?_
            try clear w
            intro w h
            go_wp2
            go_ret
            exact ⟨by rw [N.out]; rfl, h.le hle⟩
          · by_cases hc1 : c 1 ≤ (k : Int)
            · have hx0 := a1 hc1
              omega
            · clear a1
              refine wp_region_class (Has σ M1) (by kernel_rfl) (by kernel_rfl) h.drew ?_
              clear h
              repeat (first
                | go_big_quiet_skip
                | (go_big_quiet_want; first
                  | (refine quiet_load_has 3 _ rfl rfl hb e0 Tryz.underlying3 rfl ?_; simp only [Act.put, List.setIfInBounds_toArray, List.set_cons_zero, List.set_cons_succ]; go_big_quiet_on)
                  | (refine quiet_load_has 3 _ rfl rfl hb e1 Tryz.underlying3 rfl ?_; simp only [Act.put, List.setIfInBounds_toArray, List.set_cons_zero, List.set_cons_succ]; go_big_quiet_on)
                  | (refine quiet_load_has 3 _ rfl rfl hb e2 Tryz.underlying3 rfl ?_; simp only [Act.put, List.setIfInBounds_toArray, List.set_cons_zero, List.set_cons_succ]; go_big_quiet_on)
                  | (go_big_quiet_op; first | go_big_quiet_on | go_big_quiet_call (first | with_reducible exact fun _ => rfl))))
              refine wpQuiet_nil ?_
              try clear w
              intro w h
              go_wp2
              go_ret
              exact ⟨by rw [N.out]; rfl, h.le hle⟩
          · by_cases hc1 : c 1 ≤ (k : Int)
            · have hx0 := a1 hc1
              omega
            · clear a1
              refine wp_region_class (Has σ M1) (by kernel_rfl) (by kernel_rfl) h.drew ?_
              clear h
              repeat (first
                | go_big_quiet_skip
                | (go_big_quiet_want; first
                  | (refine quiet_load_has 3 _ rfl rfl hb e0 Tryz.underlying3 rfl ?_; simp only [Act.put, List.setIfInBounds_toArray, List.set_cons_zero, List.set_cons_succ]; go_big_quiet_on)
                  | (refine quiet_load_has 3 _ rfl rfl hb e1 Tryz.underlying3 rfl ?_; simp only [Act.put, List.setIfInBounds_toArray, List.set_cons_zero, List.set_cons_succ]; go_big_quiet_on)
                  | (refine quiet_load_has 3 _ rfl rfl hb e2 Tryz.underlying3 rfl ?_; simp only [Act.put, List.setIfInBounds_toArray, List.set_cons_zero, List.set_cons_succ]; go_big_quiet_on)
                  | (go_big_quiet_op; first | go_big_quiet_on | go_big_quiet_call (first | with_reducible exact fun _ => rfl))))
              refine wpQuiet_nil ?_
              try clear w
              intro w h
              go_wp2
              go_ret
              exact ⟨by rw [N.out]; rfl, h.le hle⟩
      · obtain rfl : k = 8 := by omega
        have c10 : w.cell? ⟨b, 10, none⟩ = some (.int .i64 (c 10)) := h.cell hb 10
        have c11 : w.cell? ⟨b, 11, none⟩ = some (.int .i64 (c 11)) := h.cell hb 11
        have c12 : w.cell? ⟨b, 12, none⟩ = some (.int .i64 (c 12)) := h.cell hb 12
        have c13 : w.cell? ⟨b, 13, none⟩ = some (.int .i64 (c 13)) := h.cell hb 13
        have hmay : confMayB c = decide ((2 ≤ c 10 ∧ c 10 ≤ 60) ∧ (1 ≤ c 11 ∧ c 11 ≤ 40) ∧ (1 ≤ c 12 ∧ c 12 ≤ 1048576) ∧ (0 ≤ c 13 ∧ c 13 ≤ 60)) := by
          by_cases hm : (2 ≤ c 10 ∧ c 10 ≤ 60) ∧ (1 ≤ c 11 ∧ c 11 ≤ 40) ∧ (1 ≤ c 12 ∧ c 12 ≤ 1048576) ∧ (0 ≤ c 13 ∧ c 13 ≤ 60)
          · rw [YES.out (IFF.out.2 ⟨⟨r0, r1⟩, ⟨r2, r3⟩, HA.out, hm⟩), decide_eq_true hm]
          · rw [NO.out fun h1 => hm (IFF.out.1 h1).2.2.2, decide_eq_false hm]
        have HM := Lib.hid hmay
        clear hmay
        generalize c 10 = x at c10 HM
        generalize c 11 = y at c11 HM
        generalize c 12 = z at c12 HM
        generalize c 13 = v at c13 HM
        by_cases b1 : x < 2
        · go_wp2
          go_ret
          exact ⟨by rw [HM.out, decide_eq_false (by omega)]; rfl, h.le hle⟩
        · skip
          by_cases b2 : 60 < x
          · go_wp2
            go_ret
            exact ⟨by rw [HM.out, decide_eq_false (by omega)]; rfl, h.le hle⟩
          · skip
            by_cases b3 : y < 1
            · go_wp2
              go_ret
              exact ⟨by rw [HM.out, decide_eq_false (by omega)]; rfl, h.le hle⟩
            · skip
              by_cases b4 : 40 < y
              · go_wp2
                go_ret
                exact ⟨by rw [HM.out, decide_eq_false (by omega)]; rfl, h.le hle⟩
              · skip
                by_cases b5 : ¬ 1 ≤ z
                · go_wp2
                  go_ret
                  exact ⟨by rw [HM.out, decide_eq_false (by omega)]; rfl, h.le hle⟩
                · skip
                  by_cases b6 : ¬ z ≤ 1048576
                  · go_wp2
                    go_ret
                    exact ⟨by rw [HM.out, decide_eq_false (by omega)]; rfl, h.le hle⟩
                  · skip
                    by_cases b7 : ¬ 0 ≤ v
                    · go_wp2
                      go_ret
                      exact ⟨by rw [HM.out, decide_eq_false (by omega)]; rfl, h.le hle⟩
                    · skip
                      by_cases b8 : ¬ v ≤ 60
                      · go_wp2
                        go_ret
                        exact ⟨by rw [HM.out, decide_eq_false (by omega)]; rfl, h.le hle⟩
                      · skip
                        go_wp2
                        go_ret
                        exact ⟨by rw [HM.out, decide_eq_true (by omega)]; rfl, h.le hle⟩
  · skip
    by_cases b1 : c 0 < 1
    · have N := Lib.hid (NO.out fun h1 => by have := IFF.out.1 h1; omega)
      go_wp2
      go_ret
      exact ⟨by rw [N.out]; rfl, h.le hle⟩
    · skip
      by_cases b2 : 4 < c 0
      · have N := Lib.hid (NO.out fun h1 => by have := IFF.out.1 h1; omega)
        go_wp2
        go_ret
        exact ⟨by rw [N.out]; rfl, h.le hle⟩
      · skip
        by_cases b3 : c 1 < 1
        · have N := Lib.hid (NO.out fun h1 => by have := IFF.out.1 h1; omega)
          go_wp2
          go_ret
          exact ⟨by rw [N.out]; rfl, h.le hle⟩
        · skip
          by_cases b4 : 8 < c 1
          · have N := Lib.hid (NO.out fun h1 => by have := IFF.out.1 h1; omega)
            go_wp2
            go_ret
            exact ⟨by rw [N.out]; rfl, h.le hle⟩
          · skip
            omega
end Go.Proofs.YtmfpablmmjaccaaGreatDoor
