/- Layer 16: the chapter's example. -/
import Derived.Test.YtigfmnfdphijaaaGreatDoorMnG
namespace Go.Proofs.YtigfmnfdphijaaaGreatDoor
open Go.RowKit
set_option linter.unusedVariables false
set_option linter.unusedSimpArgs false
set_option linter.unnecessarySimpa false
/-- Push of a pair; Pop, that tells it. -/
def o0 : OpS := ⟨0, 6, 0, 0, 1, 0, 0, 0, 0, 0, 0, 0, 0, 0, 0, 1⟩
def o1 : OpS := ⟨0, 7, 0, 0, 0, 0, 0, 0, 0, 1, 0, 0, 0, 0, 2, 3⟩
def exL : List OpS := [o0, o1]
instance : DecidableEq OpS := fun a b => decidable_of_iff (a.th = b.th ∧ a.op = b.op ∧ a.lv = b.lv ∧ a.ky = b.ky ∧ a.pa = b.pa ∧ a.pb = b.pb ∧ a.ha = b.ha ∧ a.rg = b.rg ∧ a.er = b.er ∧ a.qa = b.qa ∧ a.qb = b.qb ∧ a.hb = b.hb ∧ a.nn = b.nn ∧ a.kb = b.kb ∧ a.fr = b.fr ∧ a.tt = b.tt) (by
  cases a; cases b; simp)
theorem exL_may : MayO exL [0, 1] := by
  refine ⟨fun j x hj hx => ?_, fun i o ho => ?_⟩
  · rcases (by simpa using hj : j < 2) |> (by omega : j < 2 → j = 0 ∨ j = 1) with rfl | rfl <;> (cases hx; decide)
  · have hi := (List.getElem?_eq_some_iff.1 ho).1
    have hi : i < 2 := hi
    refine ⟨?_, fun j x y hx h0 hy ha => ?_⟩
    · rcases (by omega : i = 0 ∨ i = 1) with rfl | rfl <;> (cases ho; decide)
    · have hj := (List.getElem?_eq_some_iff.1 hx).1
      have hj : j < 2 := hj
      rcases (by omega : i = 0 ∨ i = 1) with rfl | rfl <;> rcases (by omega : j = 0 ∨ j = 1) with rfl | rfl <;> cases hx <;> cases ho <;> cases hy <;> first | decide | (revert ha; decide)
/-- What the line holds, k opers on. -/
def exP (M0 : Mm) (b8 k : Nat) (M : Mm) (q : Value) : Prop := match k with | 0 => q = nilS | 1 => M0 b8 ≠ none ∧ Own M0 M 31 2 q 1 [.int .u64 1, .int .u64 0] | _ => True
section
variable {σ w : World} {M : Mm}
theorem ex_told0 (h : Has σ M w) : Calls Tryz.prog 20 #[.agg stN, .int .i64 0, .agg o0.callR, .agg o0.ansR] w fun r w' => ToldYes (fun M M' q => Own M M' 31 2 q 1 [.int .u64 1, .int .u64 0]) σ M nilS nilS nilS r w' :=
  told_yes (stays_own 1 _) h nilS nilS nilS nilS 6 0 1 0 0 0 0 0 (.inl rfl) ⟨rfl, rfl, rfl, rfl⟩ (fun M w h => told_6 h _ _ _ _ _ _ _ _ _ _ _) fun M' w hM h =>
    (line_push h nilS nilS nilS 0 1 0 0 0 ⟨rfl, rfl, rfl, rfl⟩).mono fun r w' ⟨A, c, M2, e, h2, h3, h4⟩ => ⟨_, M2, e, rfl, h2, h3, h4⟩
theorem ex_told1 (h : Has σ M w) (A : Option Addr) (c : Nat) (hr : Rd M 2 (.slice A 1 c) 1 [.int .u64 1, .int .u64 0]) : Calls Tryz.prog 20 #[.agg (stR nilS (.slice A 1 c) nilS nilS), .int .i64 0, .agg o1.callR, .agg o1.ansR] w fun r w' => ToldYes (fun _ _ _ => True) σ M nilS nilS nilS r w' :=
  told_yes (stays_any fun _ => True) h nilS (.slice A 1 c) nilS nilS 7 0 0 0 0 0 1 0 (.inr rfl) ⟨rfl, rfl, rfl, rfl⟩ (fun M w h => told_7 h _ _ _ _ _ _ _ _ _ _ _) fun M' w hM h =>
    (line_pop h nilS nilS nilS A c 1 0 (hr.le hM) 0 0 0 0 0 ⟨rfl, rfl, rfl, rfl⟩).mono fun r w' ⟨q', e, h1, h2⟩ => ⟨q', M', e, h1, h2, Mm.le_refl _, trivial⟩
theorem ex_told1n (h : Has σ M w) : Calls Tryz.prog 20 #[.agg stN, .int .i64 0, .agg o1.callR, .agg o1.ansR] w fun r w' => r = .returned (.tuple #[.agg stN, .bool false]) ∧ Has σ M w' :=
  told_no (stays_any fun _ => True) h nilS nilS nilS nilS 7 0 0 0 0 0 1 0 6 0 0 (.inr rfl) ⟨rfl, rfl, rfl, rfl⟩ (fun M w h => told_7 h _ _ _ _ _ _ _ _ _ _ _) (fun M' w hM h =>
    (line_none h nilS nilS nilS 0 0 0 0 0 ⟨rfl, rfl, rfl, rfl⟩).mono fun r w' ⟨e, h2⟩ => ⟨nilS, M', e, rfl, h2, Mm.le_refl _, trivial⟩) (by decide)
theorem ex_behind (h : Has σ M w) (va vo : Value) (ha : Rd M 16 va 2 (exL.flatMap encO)) (ho : Rd M 1 vo 2 (ints1 [0, 1])) : Calls Tryz.prog 17 #[.agg stN, va, vo] w fun r w' => BehPost σ M r w' := by
  refine behind_yes h va vo exL [0, 1] 2 2 rfl rfl ha ho (by omega) (by omega) ?_ exP (fun _ _ _ => rfl) ?_ ?_ ?_
  · intro j x hx
    have hj : j < 2 := (List.getElem?_eq_some_iff.1 hx).1
    rcases (by omega : j = 0 ∨ j = 1) with rfl | rfl <;> cases hx
    · exact ⟨0, o0, rfl, rfl, by decide⟩
    · exact ⟨1, o1, rfl, rfl, by decide⟩
  · intro M0 b8 k M' q o hp
    match k with
    | 0 => exact hp
    | 1 =>
      obtain ⟨hn, hp⟩ := hp
      obtain ⟨x, hx⟩ := Option.ne_none_iff_exists'.1 hn
      exact ⟨hn, hp.upd_at hx o⟩
    | k + 2 => exact trivial
  · intro M0 b8 k M' M2 q hp hl
    match k with
    | 0 => exact hp
    | 1 => exact ⟨hp.1, hp.2.le hl⟩
    | k + 2 => exact trivial
  · intro M0 b8 j k y q M' w hx hy hp h8 h8' hle h hq
    have hj : j < 2 := (List.getElem?_eq_some_iff.1 hx).1
    rcases (by omega : j = 0 ∨ j = 1) with rfl | rfl
    · have hk : ((0 : Int)) = (k : Int) := by simpa using hx
      obtain rfl : k = 0 := by omega
      cases hy
      obtain rfl : q = nilS := hp
      exact (ex_told0 h).mono fun r w' ⟨q', M2, e, h1, h2, h3, h4⟩ => ⟨q', M2, e, h1, h2, h3, h8, h4.base fun b hb => by
        by_cases hbb : b = b8
        · subst hbb; exact absurd hb h8'
        · have := Mm.none_of hle hb
          unfold Mm.drop at this
          rw [if_neg hbb] at this
          exact this⟩
    · have hk : ((1 : Int)) = (k : Int) := by simpa using hx
      obtain rfl : k = 1 := by omega
      cases hy
      obtain ⟨_, hp⟩ := hp
      obtain ⟨A, c, rfl⟩ := hp.form
      exact (ex_told1 h A c hp.rd).mono fun r w' ⟨q', M2, e, h1, h2, h3, h4⟩ => ⟨q', M2, e, h1, h2, h3, trivial⟩
theorem ex_behindn (h : Has σ M w) (va vo : Value) (ha : Rd M 16 va 2 (exL.flatMap encO)) (ho : Rd M 1 vo 2 (ints1 [1, 0])) : Calls Tryz.prog 17 #[.agg stN, va, vo] w fun r w' => r = .returned (.tuple #[.agg stN, .bool false]) ∧ Has σ M w' :=
  behind_no h va vo exL [1, 0] 2 2 rfl rfl ha ho (by omega) (by omega) 1 o1 rfl rfl (by decide) fun M' w h => ex_told1n h
set_option maxHeartbeats 1000000 in
set_option maxRecDepth 20000 in
theorem ex_explains (h : Has σ M w) (va vo : Value) (ha : Rd M 16 va 2 (exL.flatMap encO)) (ho : Rd M 1 vo 2 (ints1 [0, 1])) : Calls Tryz.prog 11 #[.agg oneR, .int .i64 0, va, vo] w fun r w' => r = .returned (.bool true) ∧ Has σ M w' := by
  have OE := Lib.hid (fun (M' : Mm) (w : World) (h : Has σ M' w) => new_eq h)
  have HA := Lib.hid ha
  have HO := Lib.hid ho
  have oz := oneR_size
  have ox : oneR.extract 0 (0 + 14) = oneR := rfl
  clear ha ho
  generalize oneR = oo at *
  go_enter Tryz.func11, Tryz.ntmps11
  go_upto_region 1 with (first
    | ((with_reducible show wpList _ _ _ ({ dst := _, op := Op.box 43 _, type := _, pos := _, after := _, guard := _ } :: _) _ _); go_loud (refine wpList_box_has h rfl 43 _ rfl ?_); clear h; intro b4 w h hn4; try simp only [Act.put, List.setIfInBounds_toArray, List.set_cons_zero, List.set_cons_succ]))
  replace hn4 : M b4 = none := hn4
  replace h : Has σ (M.upd b4 (.cells oo 43)) w := h
  have hle2 : M.le (M.upd b4 (.cells oo 43)) := Mm.le_upd' hn4 _
  have hb4 : (M.upd b4 (.cells oo 43)) b4 = some (.cells oo 43) := (Mm.le_refl _) _ _ (Mm.upd_same _ _ _)
  replace hn4 : M b4 = none := Mm.none_of (Mm.le_refl _) hn4
  generalize (M.upd b4 (.cells oo 43)) = M2 at h hle2 hb4
  have BE := Lib.hid (fun (w : World) (h : Has σ M2 w) => ex_behind h va vo (HA.out.le hle2) (HO.out.le hle2))
  go_upto_region 2 with (first
    | ((with_reducible show wpList _ _ _ ({ dst := _, op := Op.load 43 _, type := _, pos := _, after := _, guard := _ } :: _) _ _); go_loud (refine wpList_agg_has h rfl 43 _ rfl rfl hb4 ox oz Tryz.underlying43 rfl (by kernel_rfl) ?_); try simp only [Act.put, List.setIfInBounds_toArray, List.set_cons_zero, List.set_cons_succ])
    | (go_at_call 18; go_loud (refine (OE.out _ _ h).mono ?_); clear h; rintro _ w ⟨rfl, h⟩)
    | (go_at_call 17; go_loud (refine (BE.out _ h).mono ?_); clear h; rintro _ w ⟨q', rfl, hq1, h⟩)
    | ((with_reducible show wpList _ _ _ ({ dst := some 9, op := Op.alloc 71, type := _, pos := _, after := _, guard := _ } :: _) _ _); go_loud (refine wpList_alloc_has h rfl 71 rfl _ zst ?_); clear h; intro b9 w h hn9; try simp only [Act.put, List.setIfInBounds_toArray, List.set_cons_zero, List.set_cons_succ])
    | ((with_reducible show wpList _ _ _ ({ dst := _, op := Op.store 71 _ _, type := _, pos := _, after := _, guard := _ } :: _) _ _); have hx9 := Mm.upd_same M2 b9 (.cells st0 71); refine wpList_storeAll_has (cells := stR nilS q' nilS nilS) h rfl 71 _ _ rfl rfl rfl hx9 rfl st0_size (stR_size _ _ _ _) (by kernel_rfl) (stR_one ⟨rfl, hq1, rfl, rfl⟩) ?_; clear h; intro w h))
  rw [Mm.upd_upd] at h
  have hle9 : M2.le (M2.upd b9 (.cells (stR nilS q' nilS nilS) 71)) := Mm.le_upd' hn9 _
  have hleF := Mm.le_trans hle2 hle9
  generalize M2.upd b9 (.cells (stR nilS q' nilS nilS) 71) = M9 at *
  have MY := Lib.hid (fun (w : World) (h : Has σ M9 w) => may_eq h va vo exL [0, 1] 2 2 rfl rfl (HA.out.le hleF) (HO.out.le hleF) (by omega) (by omega))
  have ME := Lib.hid exL_may
  go_wp2_with (first
    | (go_at_call 6; go_loud (refine (MY.out _ h).mono ?_); clear h; rintro _ w ⟨b, rfl, hb, h⟩))
  go_ret
  exact ⟨by rw [hb.2 ME.out]; rfl, h.le hleF⟩
set_option maxHeartbeats 1000000 in
set_option maxRecDepth 20000 in
theorem ex_explainsn (h : Has σ M w) (va vo : Value) (ha : Rd M 16 va 2 (exL.flatMap encO)) (ho : Rd M 1 vo 2 (ints1 [1, 0])) : Calls Tryz.prog 11 #[.agg oneR, .int .i64 0, va, vo] w fun r w' => r = .returned (.bool false) ∧ Has σ M w' := by
  have OE := Lib.hid (fun (M' : Mm) (w : World) (h : Has σ M' w) => new_eq h)
  have HA := Lib.hid ha
  have HO := Lib.hid ho
  have oz := oneR_size
  have ox : oneR.extract 0 (0 + 14) = oneR := rfl
  clear ha ho
  generalize oneR = oo at *
  go_enter Tryz.func11, Tryz.ntmps11
  go_upto_region 1 with (first
    | ((with_reducible show wpList _ _ _ ({ dst := _, op := Op.box 43 _, type := _, pos := _, after := _, guard := _ } :: _) _ _); go_loud (refine wpList_box_has h rfl 43 _ rfl ?_); clear h; intro b4 w h hn4; try simp only [Act.put, List.setIfInBounds_toArray, List.set_cons_zero, List.set_cons_succ]))
  replace hn4 : M b4 = none := hn4
  replace h : Has σ (M.upd b4 (.cells oo 43)) w := h
  have hle2 : M.le (M.upd b4 (.cells oo 43)) := Mm.le_upd' hn4 _
  have hb4 : (M.upd b4 (.cells oo 43)) b4 = some (.cells oo 43) := (Mm.le_refl _) _ _ (Mm.upd_same _ _ _)
  replace hn4 : M b4 = none := Mm.none_of (Mm.le_refl _) hn4
  generalize (M.upd b4 (.cells oo 43)) = M2 at h hle2 hb4
  have BE := Lib.hid (fun (w : World) (h : Has σ M2 w) => ex_behindn h va vo (HA.out.le hle2) (HO.out.le hle2))
  go_upto_region 2 with (first
    | ((with_reducible show wpList _ _ _ ({ dst := _, op := Op.load 43 _, type := _, pos := _, after := _, guard := _ } :: _) _ _); go_loud (refine wpList_agg_has h rfl 43 _ rfl rfl hb4 ox oz Tryz.underlying43 rfl (by kernel_rfl) ?_); try simp only [Act.put, List.setIfInBounds_toArray, List.set_cons_zero, List.set_cons_succ])
    | (go_at_call 18; go_loud (refine (OE.out _ _ h).mono ?_); clear h; rintro _ w ⟨rfl, h⟩)
    | (go_at_call 17; go_loud (refine (BE.out _ h).mono ?_); clear h; rintro _ w ⟨rfl, h⟩)
    | ((with_reducible show wpList _ _ _ ({ dst := some 9, op := Op.alloc 71, type := _, pos := _, after := _, guard := _ } :: _) _ _); go_loud (refine wpList_alloc_has h rfl 71 rfl _ zst ?_); clear h; intro b9 w h hn9; try simp only [Act.put, List.setIfInBounds_toArray, List.set_cons_zero, List.set_cons_succ])
    | ((with_reducible show wpList _ _ _ ({ dst := _, op := Op.store 71 _ _, type := _, pos := _, after := _, guard := _ } :: _) _ _); have hx9 := Mm.upd_same M2 b9 (.cells st0 71); refine wpList_storeAll_has (cells := stN) h rfl 71 _ _ rfl rfl rfl hx9 rfl st0_size (stR_size _ _ _ _) (by kernel_rfl) (stR_one ⟨rfl, rfl, rfl, rfl⟩) ?_; clear h; intro w h))
  rw [Mm.upd_upd] at h
  have hle9 : M2.le (M2.upd b9 (.cells stN 71)) := Mm.le_upd' hn9 _
  have hleF := Mm.le_trans hle2 hle9
  generalize M2.upd b9 (.cells stN 71) = M9 at *
  go_wp2
  go_ret
  exact ⟨rfl, h.le hleF⟩
def exC : Array Value := o0.row ++ o1.row
theorem exC_list : exC.toList = exL.flatMap encO := rfl
theorem info_oper : (Tryz.prog.info? 38).map (fun i => (i.zero, i.size, i.bytes)) = some (some (.agg (OpS.row ⟨0, 0, 0, 0, 0, 0, 0, 0, 0, 0, 0, 0, 0, 0, 0, 0⟩)), 16, 128) := by kernel_rfl
set_option maxHeartbeats 2000000 in
set_option maxRecDepth 20000 in
theorem lives_eq (h : Has σ M w) : Calls Tryz.prog 5 #[] w fun r w' => r = .returned (.bool true) ∧ Has σ M w' := by
  have p0 := pair_all (.int .u64 1) (.int .u64 0)
  obtain ⟨i2, hi2, hz2, hs2, _⟩ := info_parts info_oper
  obtain ⟨z2, hzz⟩ : ∃ z, z = Value.agg (OpS.row ⟨0, 0, 0, 0, 0, 0, 0, 0, 0, 0, 0, 0, 0, 0, 0, 0⟩) := ⟨_, rfl⟩
  rw [← hzz] at hz2
  go_enter Tryz.func5, Tryz.ntmps5
  go_upto_region 2 with (first
    | ((refine wpList_build_has rfl 31 _ rfl #[.int .u64 1, .int .u64 0] (by kernel_rfl) ?_; try simp only [Act.put, List.setIfInBounds_toArray, List.set_cons_zero, List.set_cons_succ]))
    | ((with_reducible show wpList _ _ _ ({ dst := some 1, op := Op.alloc 31, type := _, pos := _, after := _, guard := _ } :: _) _ _); go_loud (refine wpList_alloc_has h rfl 31 rfl _ zpair ?_); clear h; intro b1 w h hn1; try simp only [Act.put, List.setIfInBounds_toArray, List.set_cons_zero, List.set_cons_succ])
    | ((with_reducible show wpList _ _ _ ({ dst := _, op := Op.store 31 _ _, type := _, pos := _, after := _, guard := _ } :: _) _ _); refine wpList_storeAll_has (cells := #[.int .u64 1, .int .u64 0]) h rfl 31 _ _ rfl rfl rfl (Mm.upd_same _ _ _) rfl rfl rfl (by kernel_rfl) rfl ?_; clear h; intro w h))
  rw [Mm.upd_upd] at h
  have hle1 : M.le (M.upd b1 (.cells #[.int .u64 1, .int .u64 0] 31)) := Mm.le_upd' hn1 _
  have hb1 := Mm.upd_same M b1 (.cells #[.int .u64 1, .int .u64 0] 31)
  generalize M.upd b1 (.cells #[.int .u64 1, .int .u64 0] 31) = M1 at *
  go_upto_region 3 with (first
    | ((with_reducible show wpList _ _ _ ({ dst := _, op := Op.load 31 _, type := _, pos := _, after := _, guard := _ } :: _) _ _); go_loud (refine wpList_agg_has h rfl 31 _ rfl rfl hb1 p0 rfl Tryz.underlying31 rfl (by kernel_rfl) ?_); try simp only [Act.put, List.setIfInBounds_toArray, List.set_cons_zero, List.set_cons_succ])
    | ((with_reducible show wpList _ _ _ ({ dst := some 5, op := _, type := _, pos := _, after := _, guard := _ } :: _) _ _); (refine wpList_build_has rfl 33 _ rfl o0.callR (by kernel_rfl) ?_; try simp only [Act.put, List.setIfInBounds_toArray, List.set_cons_zero, List.set_cons_succ]))
    | ((with_reducible show wpList _ _ _ ({ dst := some 6, op := _, type := _, pos := _, after := _, guard := _ } :: _) _ _); (refine wpList_build_has rfl 38 _ rfl o0.row (by kernel_rfl) ?_; try simp only [Act.put, List.setIfInBounds_toArray, List.set_cons_zero, List.set_cons_succ]))
    | ((with_reducible show wpList _ _ _ ({ dst := some 7, op := _, type := _, pos := _, after := _, guard := _ } :: _) _ _); (refine wpList_build_has rfl 33 _ rfl o1.callR (by kernel_rfl) ?_; try simp only [Act.put, List.setIfInBounds_toArray, List.set_cons_zero, List.set_cons_succ]))
    | ((with_reducible show wpList _ _ _ ({ dst := some 9, op := _, type := _, pos := _, after := _, guard := _ } :: _) _ _); (refine wpList_build_has rfl 36 _ rfl o1.ansR (by kernel_rfl) ?_; try simp only [Act.put, List.setIfInBounds_toArray, List.set_cons_zero, List.set_cons_succ]))
    | ((with_reducible show wpList _ _ _ ({ dst := some 10, op := _, type := _, pos := _, after := _, guard := _ } :: _) _ _); (refine wpList_build_has rfl 38 _ rfl o1.row (by kernel_rfl) ?_; try simp only [Act.put, List.setIfInBounds_toArray, List.set_cons_zero, List.set_cons_succ]))
    | ((with_reducible show wpList _ _ _ ({ dst := some 11, op := _, type := _, pos := _, after := _, guard := _ } :: _) _ _); (refine wpList_plain rfl fun _ hK => wp_buildSlice 22 38 2 _ rfl exC i2 z2 Tryz.underlying22 hi2 hz2 (by rw [hs2]; decide) (by rw [hs2]; decide) (by rw [hs2]; kernel_rfl) (hK _ _ ?_); try simp only [Act.put, List.setIfInBounds_toArray, List.set_cons_zero, List.set_cons_succ])))
  obtain ⟨M3, hbx, hle3, hb3, hn3⟩ := h.box (.cells exC 38)
  generalize w.alloc _ = wx at hbx ⊢
  generalize w.heap.size = b2 at hb3 hn3 ⊢
  clear h
  try clear w
  have h := hbx
  clear hbx
  obtain ⟨w, rfl⟩ : ∃ x : World, x = wx := ⟨_, rfl⟩
  have hle4 := Mm.le_trans hle1 hle3
  have HR : Hid (Rd M3 16 (.slice (some ⟨b2, 0, none⟩) 2 2) 2 (exL.flatMap encO)) := ⟨rfl, _, 2, rfl, Nat.le_refl _, fun _ => ⟨b2, 0, exC, 38, (0, 0), rfl, hb3, fun j u hu => by rw [Nat.zero_add]; rw [← exC_list] at hu; simpa using hu⟩⟩
  have RD : Hid (∀ (M : Mm) (b : Nat) (x y : Int), M b = none → Rd (M.upd b (.cells #[.int .i64 x, .int .i64 y] 3)) 1 (.slice (some ⟨b, 0, none⟩) 2 2) 2 (ints1 [x, y])) := fun M b x y hb =>
    ⟨rfl, _, 2, rfl, Nat.le_refl _, fun _ => ⟨b, 0, _, 3, (0, 0), rfl, Mm.upd_same _ _ _, fun j u hu => by rw [Nat.zero_add]; simpa [ints1] using hu⟩⟩
  have EY : Hid (∀ w, Has σ M3 w → Calls Tryz.prog 11 #[.agg oneR, .int .i64 0, .slice (some ⟨b2, 0, none⟩) 2 2, .slice (some ⟨w.heap.size, 0, none⟩) 2 2] (w.alloc (.cells #[.int .i64 0, .int .i64 1] 3)) fun r w' => r = .returned (.bool true) ∧ Has σ M3 w') := fun w h =>
    (ex_explains (h.alloc _) _ _ (HR.out.le (Mm.le_upd' h.fresh _)) (RD.out _ _ _ _ h.fresh)).mono fun _ _ ⟨e, h2⟩ => ⟨e, h2.le (Mm.le_upd' h.fresh _)⟩
  have EN : Hid (∀ w, Has σ M3 w → Calls Tryz.prog 11 #[.agg oneR, .int .i64 0, .slice (some ⟨b2, 0, none⟩) 2 2, .slice (some ⟨w.heap.size, 0, none⟩) 2 2] (w.alloc (.cells #[.int .i64 1, .int .i64 0] 3)) fun r w' => r = .returned (.bool false) ∧ Has σ M3 w') := fun w h =>
    (ex_explainsn (h.alloc _) _ _ (HR.out.le (Mm.le_upd' h.fresh _)) (RD.out _ _ _ _ h.fresh)).mono fun _ _ ⟨e, h2⟩ => ⟨e, h2.le (Mm.le_upd' h.fresh _)⟩
  have ON := Lib.hid (fun (w : World) (h : Has σ M3 w) => one_eq h)
  clear HR RD hb3 hb1
  go_wp2_with (first
    | (go_at_call 12; go_loud (refine (ON.out _ h).mono ?_); clear h; rintro _ w ⟨rfl, h⟩)
    | ((go_at_call 11; refine (EY.out _ h).mono ?_; clear h; rintro _ w ⟨rfl, h⟩))
    | ((go_at_call 11; refine (EN.out _ h).mono ?_; clear h; rintro _ w ⟨rfl, h⟩)))
  go_ret
  exact ⟨rfl, h.le hle4⟩
end
end Go.Proofs.YtigfmnfdphijaaaGreatDoor
