/- Walk of law ViewLines. -/
import Derived.Test.YtngiabfpfklmjaaDoorFirstB
namespace Go.Proofs.YtngiabfpfklmjaaDoor
open Go.RowKit
set_option linter.unusedVariables false
set_option linter.unusedSimpArgs false
set_option linter.unnecessarySimpa false
/-- The chapter's example. -/
def seenT : Sn := ⟨0, 0, 0, 0, 12, 0, 0, 0, 0, 0, 0, 0, 0, 0, 0, 0, 0, 0⟩
def seen0 : Sn := ⟨0, 0, 0, 0, 0, 0, 0, 0, 0, 0, 0, 0, 0, 0, 0, 0, 0, 0⟩
theorem okT : seenT.Ok := by constructor <;> decide
def tendB : ByteArray := ⟨#[48, 58, 32, 116, 104, 114, 101, 97, 100, 32, 48, 32, 116, 101, 110, 100, 32, 48, 32, 48, 32, 48, 32, 48, 32, 48]⟩
theorem lineT : implLine seenT = tendB := by
  have e0 : decU 0 = ⟨#[48]⟩ := decU_one (by omega)
  have e1 : decI 0 = ⟨#[48]⟩ := (decI_nat 0).trans e0
  unfold implLine preL addWs
  simp only [seenT, List.foldl_cons, List.foldl_nil, e0, e1]
  decide +kernel
theorem first0 : firstD [] [seen0] = 0 := firstD_at (k := 0) (.inr (by simp)) (differ_out (.inl (by simp))) fun i hi => absurd hi (by omega)
set_option maxHeartbeats 1000000 in
theorem lives35 {σ w : World} {M : Mm} (h : Has σ M w) (hT : PowT M) :
    Calls Tryd.prog 4 #[] w fun r w' => r = .returned (.bool true) ∧ Has σ M w' := by
  have C1 := Lib.hid (viewLine_eq h hT seenT okT)
  rw [lineT] at C1
  have e1 : (tendB.toList == [48, 58, 32, 116, 104, 114, 101, 97, 100, 32, 48, 32, 116, 101, 110, 100, 32, 48, 32, 48, 32, 48, 32, 48, 32, 48]) = true := by decide +kernel
  have C2 : Hid (∀ (w1 : World) (b1 : Nat) (M1 : Mm), Has σ M1 w1 → M1 b1 = some (.cells seen0.cells 31) → Calls Tryd.prog 8 #[.slice none 0 0, .slice (some ⟨b1, 0, none⟩) 1 1] w1 fun r w' => r = .returned (.int .i64 0) ∧ Has σ M1 w') := fun w1 b1 M1 h hb => by
    have c := viewFirst_eq h (.slice none 0 0) (.slice (some ⟨b1, 0, none⟩) 1 1) [] [seen0] (Rd.nil _ _ _) ⟨rfl, some ⟨b1, 0, none⟩, 1, rfl, Nat.le_refl _, fun _ => ⟨b1, 0, _, _, _, rfl, hb, fun j u hu => by rw [Nat.zero_add]; simpa [encS] using hu⟩⟩ (by simp) (by simp)
    rw [first0] at c
    exact c
  generalize tendB = s at C1 e1
  have hsT : seenT.cells = #[.int .i64 0, .int .i64 0, .int .i64 0, .int .i64 0, .int .i64 12, .int .i64 0, .int .i64 0, .int .u64 0, .int .u64 0, .int .u64 0, .int .i64 0, .int .i64 0, .int .u64 0, .int .u64 0, .int .u64 0, .int .i64 0, .int .i64 0, .int .u64 0] := rfl
  have hs0 : seen0.cells = #[.int .i64 0, .int .i64 0, .int .i64 0, .int .i64 0, .int .i64 0, .int .i64 0, .int .i64 0, .int .u64 0, .int .u64 0, .int .u64 0, .int .i64 0, .int .i64 0, .int .u64 0, .int .u64 0, .int .u64 0, .int .i64 0, .int .i64 0, .int .u64 0] := rfl
  rw [hsT] at C1
  rw [hs0] at C2
  clear hsT hs0
  go_enter Tryd.func4, Tryd.ntmps4
  go_wp2_with (first
    | (go_at_call 6; refine (C1.out).mono ?_; clear h; rintro r w ⟨rfl, h⟩)
    | (go_at_call 8; refine (C2.out _ w.heap.size _ (h.alloc _) (Mm.upd_same _ _ _)).mono ?_; rintro r w' ⟨rfl, h2⟩; replace h := h2.le (Mm.le_upd' h.fresh _)))
  go_ret
  exact ⟨rfl, h⟩
set_option maxHeartbeats 2000000 in
theorem viewLines_walk {σ w : World} {M : Mm} (h : Has σ M w) (hT : PowT M) (x : Sn) (hx : x.Ok) (a b : Value) (L K : List Sn) (ha : Rd M 18 a L.length (L.flatMap encS)) (hb : Rd M 18 b K.length (K.flatMap encS)) :
    Calls Tryd.prog 3 #[.agg x.cells, a, b] w fun r w' => r = .returned (.bool true) ∧ Has σ M w' := by
  obtain ⟨A, c, rfl⟩ := ha.form
  obtain ⟨B, d, rfl⟩ := hb.form
  obtain ⟨n, hn⟩ : ∃ n, L.length = n := ⟨_, rfl⟩
  obtain ⟨m, hm⟩ : ∃ m, K.length = m := ⟨_, rfl⟩
  have LV : Hid (∀ (M1 : Mm) (w1 : World), M.le M1 → Has σ M1 w1 → Calls Tryd.prog 4 #[] w1 fun r w' => r = .returned (.bool true) ∧ Has σ M1 w') := fun M1 w1 hle h => lives35 h (hT.le hle)
  have V1 : Hid (∀ (M1 : Mm) (w1 : World), M.le M1 → Has σ M1 w1 → Calls Tryd.prog 6 #[.agg x.cells] w1 fun r w' => r = .returned (.string (implLine x)) ∧ Has σ M1 w') := fun M1 w1 hle h => viewLine_eq h (hT.le hle) x hx
  have V2 : Hid (∀ (M1 : Mm) (w1 : World), M.le M1 → Has σ M1 w1 → Calls Tryd.prog 7 #[.agg x.cells] w1 fun r w' => r = .returned (.string (implLine x)) ∧ Has σ M1 w') := fun M1 w1 hle h => refLine_eq h x hx
  have hz : x.cells.size = 18 := rfl
  have hc : x.cells.extract 0 (0 + 18) = x.cells := rfl
  by_cases hbig : L.length ≤ 100 ∧ K.length ≤ 100
  · have F1 : Hid (∀ (M1 : Mm) (w1 : World), M.le M1 → Has σ M1 w1 → Calls Tryd.prog 8 #[.slice A L.length c, .slice B K.length d] w1 fun r w' => r = .returned (.int .i64 (firstD L K)) ∧ Has σ M1 w') := fun M1 w1 hle h => viewFirst_eq h _ _ L K (ha.le hle) (hb.le hle) (by omega) (by omega)
    have F2 : Hid (∀ (M1 : Mm) (w1 : World), M.le M1 → Has σ M1 w1 → Calls Tryd.prog 5 #[.slice A L.length c, .slice B K.length d] w1 fun r w' => r = .returned (.int .i64 (firstD L K)) ∧ Has σ M1 w') := fun M1 w1 hle h => refFirst_eq h _ _ L K (ha.le hle) (hb.le hle) (by omega) (by omega)
    have F3 : Hid (∀ (M1 : Mm) (w1 : World), M.le M1 → Has σ M1 w1 → Calls Tryd.prog 9 #[.slice A L.length c, .slice B K.length d] w1 fun r w' => r = .returned (.bool (decide (firstD L K < 0))) ∧ Has σ M1 w') := fun M1 w1 hle h => viewSame_eq h _ _ L K (ha.le hle) (hb.le hle) (by omega) (by omega)
    have e1 : ((implLine x).toList == (implLine x).toList) = true := beq_self_eq_true _
    have e2 : (firstD L K == firstD L K) = true := beq_self_eq_true _
    rw [hn] at F1 F2 F3 hbig ⊢
    rw [hm] at F1 F2 F3 hbig ⊢
    obtain ⟨hn1, hm1⟩ := hbig
    have g1 : decide ((100 : Int) < (n : Int)) = false := decide_eq_false (by omega)
    have g2 : decide ((100 : Int) < (m : Int)) = false := decide_eq_false (by omega)
    clear ha hb hn hm hT hx
    generalize implLine x = s at V1 V2 e1
    generalize firstD L K = f at F1 F2 F3 e2
    generalize x.cells = cs at *
    cases hneg : decide (f < 0)
    all_goals
      rw [hneg] at F3
      go_enter Tryd.func3, Tryd.ntmps3
      go_upto_region 1 with (first
        | ((with_reducible show wpList _ _ _ ({ dst := _, op := Op.box 31 _, type := _, pos := _, after := _, guard := _ } :: _) _ _); refine wpList_box_has h rfl 31 _ rfl ?_; clear h; intro b1 w h hn1; try simp only [Act.put, List.setIfInBounds_toArray, List.set_cons_zero, List.set_cons_succ]))
      generalize hM1 : M.upd b1 _ = M1 at h
      have hle : M.le M1 := by rw [← hM1]; exact Mm.le_upd' hn1 _
      have hb1 : M1 b1 = some (.cells cs 31) := by rw [← hM1]; exact Mm.upd_same _ _ _
      have HL := Lib.hid hle
      clear hM1 hn1 hle
      go_upto_region 4 with (first
        | (go_at_call 5; refine (F2.out _ _ HL.out h).mono ?_; clear h; rintro r w ⟨rfl, h⟩))
      refine wp_region_class (Has σ M1) (by kernel_rfl) (by kernel_rfl) h.drew ?_
      clear h
      repeat (first
        | go_big_quiet_skip
        | (go_big_quiet_want; first
          | (refine quiet_agg_has 31 _ rfl rfl hb1 hc hz Tryd.underlying31 rfl (by kernel_rfl) ?_; simp only [Act.put, List.setIfInBounds_toArray, List.set_cons_zero, List.set_cons_succ]; go_big_quiet_on)
          | (go_big_quiet_op; first | go_big_quiet_on | go_big_quiet_call (first | with_reducible exact fun _ => rfl | with_reducible exact V1.out _ _ HL.out | with_reducible exact V2.out _ _ HL.out | with_reducible exact F1.out _ _ HL.out | with_reducible exact F3.out _ _ HL.out | with_reducible exact LV.out _ _ HL.out))))
      refine wpQuiet_nil ?_
      try clear w
      intro w h
      go_wp2
      go_ret
      exact ⟨rfl, h.le HL.out⟩
  · rw [hn, hm] at hbig
    rw [hn, hm]
    clear ha hb hn hm hT hx V1 V2 hc
    generalize x.cells = cs at *
    by_cases hn1 : 100 < n
    · have g1 : decide ((100 : Int) < (n : Int)) = true := decide_eq_true (by omega)
      clear hbig hn1
      go_enter Tryd.func3, Tryd.ntmps3
      go_upto_region 1 with (first
        | ((with_reducible show wpList _ _ _ ({ dst := _, op := Op.box 31 _, type := _, pos := _, after := _, guard := _ } :: _) _ _); refine wpList_box_has h rfl 31 _ rfl ?_; clear h; intro b1 w h hnb; try simp only [Act.put, List.setIfInBounds_toArray, List.set_cons_zero, List.set_cons_succ]))
      go_wp2_with (first
        | (go_at_call 4; refine (LV.out _ _ (Mm.le_upd' hnb _) h).mono ?_; clear h; rintro r w ⟨rfl, h⟩))
      go_ret
      exact ⟨rfl, h.le (Mm.le_upd' hnb _)⟩
    · have g1 : decide ((100 : Int) < (n : Int)) = false := decide_eq_false (by omega)
      have g2 : decide ((100 : Int) < (m : Int)) = true := decide_eq_true (by omega)
      clear hbig hn1
      go_enter Tryd.func3, Tryd.ntmps3
      go_upto_region 1 with (first
        | ((with_reducible show wpList _ _ _ ({ dst := _, op := Op.box 31 _, type := _, pos := _, after := _, guard := _ } :: _) _ _); refine wpList_box_has h rfl 31 _ rfl ?_; clear h; intro b1 w h hnb; try simp only [Act.put, List.setIfInBounds_toArray, List.set_cons_zero, List.set_cons_succ]))
      go_wp2_with (first
        | (go_at_call 4; refine (LV.out _ _ (Mm.le_upd' hnb _) h).mono ?_; clear h; rintro r w ⟨rfl, h⟩))
      go_ret
      exact ⟨rfl, h.le (Mm.le_upd' hnb _)⟩
end Go.Proofs.YtngiabfpfklmjaaDoor
