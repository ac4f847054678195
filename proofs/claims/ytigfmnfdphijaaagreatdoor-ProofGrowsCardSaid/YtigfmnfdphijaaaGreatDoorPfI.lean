/- Walks of the document's layer 16: Next. -/
import Derived.Test.YtigfmnfdphijaaaGreatDoorPfH
import Derived.Test.YtigfmnfdphijaaaGreatDoorPfG
namespace Go.Proofs.YtigfmnfdphijaaaGreatDoor
open Go.RowKit
set_option linter.unusedVariables false
set_option linter.unusedSimpArgs false
set_option linter.unnecessarySimpa false
def RnA (σ : World) (M : Mm) (n : Nat) (l : List OpS) (order : List Int) (v i : Value) (wr : World) : Prop := ∃ k : Nat, k ≤ n ∧ i = .int .i64 k ∧ Acc σ M wr 3 1 v (nextK l order k).length (ints1 (nextK l order k))
def RnB (σ : World) (M' : Mm) (n k : Nat) (l : List OpS) (order : List Int) (f i : Value) (wr : World) : Prop := ∃ (j : Nat) (b : Bool), j ≤ n ∧ i = .int .i64 j ∧ f = .bool b ∧ Has σ M' wr ∧ (b = true ↔ ∀ u, u < j → BadO l order k u = false)
theorem RnA.skip {σ w : World} {M M' : Mm} {n k : Nat} {l : List OpS} {order : List Int} {v : Value} (hk : k < n) (hle : M.le M') (h : Has σ M' w) (hown : Own M M' 3 1 v (nextK l order k).length (ints1 (nextK l order k))) (hf : FreeO l order k = false) : RnA σ M n l order v (.int .i64 ((k : Int) + 1)) w := by
  have e : nextK l order (k + 1) = nextK l order k := by rw [nextK_succ, hf]; simp
  refine ⟨k + 1, hk, rfl, ?_⟩
  rw [e]
  exact ⟨M', h, hle, hown⟩
theorem RnA.take {σ w : World} {M : Mm} {n k : Nat} {l : List OpS} {order : List Int} {v : Value} (hk : k < n) (hf : FreeO l order k = true) (hacc : Acc σ M w 3 1 v ((nextK l order k).length + 1) (ints1 (nextK l order k) ++ [.int .i64 k])) : RnA σ M n l order v (.int .i64 ((k : Int) + 1)) w := by
  have e : nextK l order (k + 1) = nextK l order k ++ [(k : Int)] := by rw [nextK_succ, hf]; rfl
  refine ⟨k + 1, hk, rfl, ?_⟩
  rw [e]
  simpa [ints1] using hacc
theorem RnB.next {σ w : World} {M' : Mm} {n k j : Nat} {l : List OpS} {order : List Int} {b : Bool} (hj : j < n) (h : Has σ M' w) (hb : b = true ↔ ∀ u, u < j → BadO l order k u = false) {c : Bool} (hc : BadO l order k j = c) (b' : Bool) (e : b' = (b && !c)) : RnB σ M' n k l order (.bool b') (.int .i64 ((j : Int) + 1)) w := by
  refine ⟨j + 1, b', hj, rfl, rfl, h, ?_⟩
  subst e
  cases c
  · simp only [Bool.not_false, Bool.and_true]
    rw [hb]
    exact ⟨fun hh u hu => by
      by_cases e : u = j
      · subst e; exact hc
      · exact hh u (by omega), fun hh u hu => hh u (by omega)⟩
  · simp only [Bool.not_true, Bool.and_false]
    exact ⟨fun e => (by cases e), fun hh => by have := hh j (by omega); rw [hc] at this; cases this⟩
set_option maxHeartbeats 4000000 in
set_option maxRecDepth 20000 in
theorem refNext_eq {σ w : World} {M : Mm} (h : Has σ M w) (va vo : Value) (l : List OpS) (order : List Int) (n m : Nat) (hl : l.length = n) (hm : order.length = m) (ha : Rd M 16 va n (l.flatMap encO)) (ho : Rd M 1 vo m (ints1 order)) (hn1 : n ≤ 1000000) (hm1 : m ≤ 1000000) :
    Calls Tryz.prog 10 #[va, vo] w fun r w' => NxPost σ M l order r w' := by
  have IN := Lib.hid (fun (M' : Mm) (hM : M.le M') (w : World) (h : Has σ M' w) (k : Int) => refIn_eq h vo order m hm (ho.le hM) hm1 k)
  obtain ⟨A, c, rfl⟩ := ha.form
  obtain ⟨B, d, rfl⟩ := ho.form
  have HA := Lib.hid ha
  have HL := Lib.hid hl
  have HM := Lib.hid hm
  clear ha ho hl hm
  go_enter Tryz.func10, Tryz.ntmps10
  go_wp2
  go_loopw [5, 6] (fun v i wr => RnA σ M n l order v i wr) (fun _ i _ => n - (intOf i).toNat)
  case atStart => exact ⟨0, Nat.zero_le _, rfl, Acc.nil h _ _⟩
  case round =>
    clear h w
    obtain ⟨w, rfl⟩ : ∃ x : World, x = wr := ⟨_, rfl⟩
    obtain ⟨k, hk, rfl, M', h, hle, hown⟩ := hrel
    obtain ⟨v, rfl⟩ : ∃ x : Value, x = u5 := ⟨_, rfl⟩
    have HOWN := Lib.hid hown
    clear hown
    by_cases hlt : k < n
    · have hlt' : (k : Int) < (n : Int) := by omega
      obtain ⟨o, ho⟩ : ∃ o, l[k]? = some o := ⟨_, List.getElem?_eq_getElem (by have := HL.out; omega)⟩
      have HO := Lib.hid ho
      obtain ⟨bl, ol, cl, csl, tl, fl, e1, hMl, hxl⟩ := HA.out.elem encO_len hlt ho
      cases e1
      have hMl1 := hle _ _ hMl
      have g16 : csl.extract (ol + k * 16) (ol + k * 16 + 16) = o.row := extract_of (n := 16) hxl rfl
      obtain ⟨pk, hpk⟩ : ∃ pk, posO (k : Nat) order = pk := ⟨_, rfl⟩
      obtain ⟨pm, hpm⟩ : ∃ pm : Int, (pk : Int) - 1 = pm := ⟨_, rfl⟩
      have INk : Hid (∀ w, Has σ M' w → Calls Tryz.prog 15 #[.slice B m d, .int .i64 (k : Nat)] w fun r w' => r = .returned (.int .i64 pm) ∧ Has σ M' w') := fun w h => hpm ▸ hpk ▸ IN.out M' hle w h (k : Nat)
      have HPK := Lib.hid hpk
      clear hxl hMl ho hpk
      by_cases hp0 : pk = 0
      · have d1 : decide (0 ≤ pm) = false := decide_eq_false (by omega)
        have HP0 := Lib.hid (HPK.out.trans hp0)
        clear hp0 hpm
        go_upto_region 8 with (first
          | (go_at_call 15; go_loud (refine (INk.out _ h).mono ?_); clear h; rintro _ w ⟨rfl, h⟩))
        clear d1 INk
        go_loopw [7, 8] (fun f i wr => RnB σ M' n k l order f i wr) (fun _ i _ => n - (intOf i).toNat)
        case atStart => exact ⟨0, true, Nat.zero_le _, rfl, rfl, h, fun _ u hu => absurd hu (by omega), fun _ => rfl⟩
        case round =>
          clear h w
          obtain ⟨w, rfl⟩ : ∃ x : World, x = wr := ⟨_, rfl⟩
          obtain ⟨j, b, hj, rfl, rfl, h, hb⟩ := hrel
          have HB := Lib.hid hb
          clear hb
          by_cases hjn : j < n
          · have hjn' : (j : Int) < (n : Int) := by omega
            obtain ⟨y, hy⟩ : ∃ y, l[j]? = some y := ⟨_, List.getElem?_eq_getElem (by have := HL.out; omega)⟩
            have BD := Lib.hid (badO_of (order := order) hy HO.out)
            obtain ⟨bl2, ol2, cl2, csl2, tl2, fl2, e2, hMl2, hxl2⟩ := HA.out.elem encO_len hjn hy
            cases e2
            have hMl3 := hle _ _ hMl2
            have g16b : csl2.extract (ol + j * 16) (ol + j * 16 + 16) = y.row := extract_of (n := 16) hxl2 rfl
            obtain ⟨pj, hpj⟩ : ∃ pj, posO (j : Nat) order = pj := ⟨_, rfl⟩
            obtain ⟨pm2, hpm2⟩ : ∃ pm : Int, (pj : Int) - 1 = pm := ⟨_, rfl⟩
            have INj : Hid (∀ w, Has σ M' w → Calls Tryz.prog 15 #[.slice B m d, .int .i64 (j : Nat)] w fun r w' => r = .returned (.int .i64 pm2) ∧ Has σ M' w') := fun w h => hpm2 ▸ hpj ▸ IN.out M' hle w h (j : Nat)
            have BE : Hid (BadO l order k j = (decide (pj = 0) && decide (j ≠ k) && y.ahead o)) := by have := BD.out; rw [hpj] at this; exact this
            have zo : o.row.size = 16 := rfl
            have zy : y.row.size = 16 := rfl
            clear hxl2 hMl2 hy hpj BD
            by_cases hjk : j = k
            · have HF : Hid (∀ w, Has σ M' w → RnB σ M' n k l order (.bool b) (.int .i64 ((j : Int) + 1)) w) := fun w h => RnB.next hjn h HB.out (c := false) (by rw [BE.out]; simp [hjk]) b (by simp)
              have d3 : ((j : Int) == (k : Int)) = true := beq_iff_eq.2 (by omega)
              have d4 : ((j : Int) != (k : Int)) = false := by rw [bne, d3]; rfl
              clear hjk BE hpm2
              go_upto_region 10 with (fail)
              refine wp_region_class (Has σ M') (by kernel_rfl) (by kernel_rfl) h.drew ?_
              clear h
              repeat (first
                | go_big_quiet_skip
                | (go_big_quiet_want; first
                  | (go_big_quiet_op; first | go_big_quiet_on | go_big_quiet_call (first | with_reducible exact fun _ => rfl))))
              refine wpQuiet_nil ?_
              try clear w
              intro w h
              go_wp2
              first
                | exact ⟨HF.out _ h, by simp [intOf]; omega⟩
                | (go_roundw
                   case rel => exact HF.out _ h
                   case measure => simp [intOf]; omega)
            have d3 : ((j : Int) == (k : Int)) = false := beq_eq_false_iff_ne.2 (by omega)
            have d4 : ((j : Int) != (k : Int)) = true := by rw [bne, d3]; rfl
            by_cases hq0 : pj = 0
            · have d5 : decide (pm2 < 0) = true := decide_eq_true (by omega)
              cases hA : y.ahead o
              · have AHx : Hid (∀ w, Has σ M' w → Calls Tryz.prog 16 #[.agg y.row, .agg o.row] w fun r w' => r = .returned (.bool false) ∧ Has σ M' w') := fun w h => hA ▸ refAhead_eq h y o
                have HF : Hid (∀ w, Has σ M' w → RnB σ M' n k l order (.bool b) (.int .i64 ((j : Int) + 1)) w) := fun w h => RnB.next hjn h HB.out (c := false) (by rw [BE.out, hA]; simp) b (by simp)
                clear hA hq0 hjk BE hpm2
                go_upto_region 10 with (fail)
                refine wp_region_class (Has σ M') (by kernel_rfl) (by kernel_rfl) h.drew ?_
                clear h
                repeat (first
                  | go_big_quiet_skip
                  | (go_big_quiet_want; first
                    | (go_loud (refine quiet_agg_has 38 _ rfl rfl hMl1 g16 zo Tryz.underlying38 rfl (by kernel_rfl) ?_); simp only [Act.put, List.setIfInBounds_toArray, List.set_cons_zero, List.set_cons_succ]; go_big_quiet_on)
                    | (go_loud (refine quiet_agg_has 38 _ rfl rfl hMl3 g16b zy Tryz.underlying38 rfl (by kernel_rfl) ?_); simp only [Act.put, List.setIfInBounds_toArray, List.set_cons_zero, List.set_cons_succ]; go_big_quiet_on)
                    | (go_big_quiet_op; first | go_big_quiet_on | go_big_quiet_call (first | with_reducible exact fun _ => rfl | with_reducible exact INj.out _ | with_reducible exact AHx.out _))))
                refine wpQuiet_nil ?_
                try clear w
                intro w h
                go_wp2
                first
                  | exact ⟨HF.out _ h, by simp [intOf]; omega⟩
                  | (go_roundw
                     case rel => exact HF.out _ h
                     case measure => simp [intOf]; omega)
              · have AHx : Hid (∀ w, Has σ M' w → Calls Tryz.prog 16 #[.agg y.row, .agg o.row] w fun r w' => r = .returned (.bool true) ∧ Has σ M' w') := fun w h => hA ▸ refAhead_eq h y o
                have HF : Hid (∀ w, Has σ M' w → RnB σ M' n k l order (.bool false) (.int .i64 ((j : Int) + 1)) w) := fun w h => RnB.next hjn h HB.out (c := true) (by rw [BE.out, hA]; simp [hq0, hjk]) false (by simp)
                clear hA hq0 hjk BE hpm2
                go_upto_region 10 with (fail)
                refine wp_region_class (Has σ M') (by kernel_rfl) (by kernel_rfl) h.drew ?_
                clear h
                repeat (first
                  | go_big_quiet_skip
                  | (go_big_quiet_want; first
                    | (go_loud (refine quiet_agg_has 38 _ rfl rfl hMl1 g16 zo Tryz.underlying38 rfl (by kernel_rfl) ?_); simp only [Act.put, List.setIfInBounds_toArray, List.set_cons_zero, List.set_cons_succ]; go_big_quiet_on)
                    | (go_loud (refine quiet_agg_has 38 _ rfl rfl hMl3 g16b zy Tryz.underlying38 rfl (by kernel_rfl) ?_); simp only [Act.put, List.setIfInBounds_toArray, List.set_cons_zero, List.set_cons_succ]; go_big_quiet_on)
                    | (go_big_quiet_op; first | go_big_quiet_on | go_big_quiet_call (first | with_reducible exact fun _ => rfl | with_reducible exact INj.out _ | with_reducible exact AHx.out _))))
                refine wpQuiet_nil ?_
                try clear w
                intro w h
                go_wp2
                first
                  | exact ⟨HF.out _ h, by simp [intOf]; omega⟩
                  | (go_roundw
                     case rel => exact HF.out _ h
                     case measure => simp [intOf]; omega)
            · have d5 : decide (pm2 < 0) = false := decide_eq_false (by omega)
              have HF : Hid (∀ w, Has σ M' w → RnB σ M' n k l order (.bool b) (.int .i64 ((j : Int) + 1)) w) := fun w h => RnB.next hjn h HB.out (c := false) (by rw [BE.out]; simp [hq0]) b (by simp)
              clear hq0 hjk BE hpm2
              go_upto_region 10 with (fail)
              refine wp_region_class (Has σ M') (by kernel_rfl) (by kernel_rfl) h.drew ?_
              clear h
              repeat (first
                | go_big_quiet_skip
                | (go_big_quiet_want; first
                  | (go_big_quiet_op; first | go_big_quiet_on | go_big_quiet_call (first | with_reducible exact fun _ => rfl | with_reducible exact INj.out _))))
              refine wpQuiet_nil ?_
              try clear w
              intro w h
              go_wp2
              first
                | exact ⟨HF.out _ h, by simp [intOf]; omega⟩
                | (go_roundw
                   case rel => exact HF.out _ h
                   case measure => simp [intOf]; omega)
          · obtain rfl : j = n := by omega
            have hkl := nextK_le l order k
            cases b
            · have HN : Hid (FreeO l order k = false) := by
                show FreeO l order k = false
                cases hf : FreeO l order k with
                | false => rfl
                | true =>
                  exfalso
                  have hx : ∀ u, u < j → BadO l order k u = false := fun u hu => by
                    cases hbu : BadO l order k u with
                    | false => rfl
                    | true => rw [freeO_no HL.out hu hbu] at hf; cases hf
                  have := HB.out.2 hx
                  cases this
              go_wp2
              first
                | exact ⟨RnA.skip hlt hle h HOWN.out HN.out, by simp [intOf]; omega⟩
                | (go_roundw
                   case rel => exact RnA.skip hlt hle h HOWN.out HN.out
                   case measure => simp [intOf]; omega)
            · have FR := Lib.hid (freeO_yes HL.out HP0.out (HB.out.1 rfl))
              have hown := HOWN.out
              obtain ⟨nl, hnl⟩ : ∃ nl, (nextK l order k).length = nl := ⟨_, rfl⟩
              rw [hnl] at hown hkl
              have HNL := Lib.hid hnl
              clear hnl HOWN
              go_wp2_with (first
                | (at_builtin; go_loud (refine wpList_append_lit h hle rfl _ _ _ rfl rfl Tryz.underlying23 info_int rfl (by omega) rfl hown rfl rfl rfl (by omega) (by omega) ?_); clear h hle hown; intro v w hacc))
              first
                | exact ⟨RnA.take hlt FR.out (by rw [HNL.out]; exact hacc), by simp [intOf]; omega⟩
                | (go_roundw
                   case rel => exact RnA.take hlt FR.out (by rw [HNL.out]; exact hacc)
                   case measure => simp [intOf]; omega)
      · have d1 : decide (0 ≤ pm) = true := decide_eq_true (by omega)
        have HN : Hid (FreeO l order k = false) := freeO_in (by rw [HPK.out]; exact hp0)
        clear hp0 hpm
        go_wp2_with (first
          | (go_at_call 15; go_loud (refine (INk.out _ h).mono ?_); clear h; rintro _ w ⟨rfl, h⟩))
        go_roundw
        case rel => exact RnA.skip hlt hle h HOWN.out HN.out
        case measure => simp [intOf]; omega
    · obtain rfl : k = n := by omega
      go_wp2
      go_ret
      exact ⟨_, rfl, by
        have e : NextO l order = nextK l order k := by unfold NextO nextK; rw [HL.out]
        rw [e]
        exact ⟨M', h, hle, HOWN.out⟩⟩
end Go.Proofs.YtigfmnfdphijaaaGreatDoor
