/- Layer 16: the state behind an order of Push and Pop. -/
import Derived.Test.YtigfmnfdphijaaaGreatDoorMnF
import Derived.Test.YtigfmnfdphijaaaGreatDoorPfE
namespace Go.Proofs.YtigfmnfdphijaaaGreatDoor
open Go.RowKit
set_option linter.unusedVariables false
set_option linter.unusedSimpArgs false
set_option linter.unnecessarySimpa false
theorem zconf : (Tryz.prog.info? 43).bind (·.zero) = some (.agg #[.int .i64 0, .int .i64 0, .int .i64 0, .int .i64 0, .int .i64 0, .int .i64 0, .int .i64 0, .int .i64 0, .int .i64 0, .int .i64 0, .int .i64 0, .int .i64 0, .int .i64 0, .int .i64 0]) := by kernel_rfl
abbrev stN : Array Value := stR nilS nilS nilS nilS
theorem wpList_build_has {P : Program} {ops : Array Oper} {rest : List Oper} {op : Oper} {a : Act} {w : World} {Q : Exit → Act → World → Prop} (hg : op.guard = none) (t : TypeId) (parts : Array (Nat × Operand)) (ho : op.op = .build t parts) (cells : Array Value) (h : P.built t (parts.map fun (i, x) => (i, a.eval x)).toList = some cells)
    (hk : wpList P ops Q rest (a.put op.dst (.agg cells)) w) : wpList P ops Q (op :: rest) a w :=
  wpList_plain hg fun _ hK => by
    unfold Oper.wp
    rw [exec_build t parts ho cells h w]
    exact hK _ _ hk
section
variable {σ w : World} {M : Mm}
set_option maxHeartbeats 1000000 in
theorem one_eq (h : Has σ M w) : Calls Tryz.prog 12 #[] w fun r w' => r = .returned (.agg oneR) ∧ Has σ M w' := by
  go_enter Tryz.func12, Tryz.ntmps12
  go_upto_region 1 with (first
    | ((with_reducible show wpList _ _ _ ({ dst := some 0, op := Op.alloc 43, type := _, pos := _, after := _, guard := _ } :: _) _ _); go_loud (refine wpList_alloc_has h rfl 43 rfl _ zconf ?_); clear h; intro b0 w h hn0; try simp only [Act.put, List.setIfInBounds_toArray, List.set_cons_zero, List.set_cons_succ]))
  replace hn0 : M b0 = none := hn0
  replace h : Has σ (M.upd b0 (.cells #[.int .i64 0, .int .i64 0, .int .i64 0, .int .i64 0, .int .i64 0, .int .i64 0, .int .i64 0, .int .i64 0, .int .i64 0, .int .i64 0, .int .i64 0, .int .i64 0, .int .i64 0, .int .i64 0] 43)) w := h
  have hle2 : M.le (M.upd b0 (.cells #[.int .i64 0, .int .i64 0, .int .i64 0, .int .i64 0, .int .i64 0, .int .i64 0, .int .i64 0, .int .i64 0, .int .i64 0, .int .i64 0, .int .i64 0, .int .i64 0, .int .i64 0, .int .i64 0] 43)) := Mm.le_upd' hn0 _
  have hb0 : (M.upd b0 (.cells #[.int .i64 0, .int .i64 0, .int .i64 0, .int .i64 0, .int .i64 0, .int .i64 0, .int .i64 0, .int .i64 0, .int .i64 0, .int .i64 0, .int .i64 0, .int .i64 0, .int .i64 0, .int .i64 0] 43)) b0 = some (.cells #[.int .i64 0, .int .i64 0, .int .i64 0, .int .i64 0, .int .i64 0, .int .i64 0, .int .i64 0, .int .i64 0, .int .i64 0, .int .i64 0, .int .i64 0, .int .i64 0, .int .i64 0, .int .i64 0] 43) := (Mm.le_refl _) _ _ (Mm.upd_same _ _ _)
  replace hn0 : M b0 = none := Mm.none_of (Mm.le_refl _) hn0
  generalize (M.upd b0 (.cells #[.int .i64 0, .int .i64 0, .int .i64 0, .int .i64 0, .int .i64 0, .int .i64 0, .int .i64 0, .int .i64 0, .int .i64 0, .int .i64 0, .int .i64 0, .int .i64 0, .int .i64 0, .int .i64 0] 43)) = M2 at h hle2 hb0
  go_wp2_with (first
    | ((refine wpList_build_has rfl 43 _ rfl oneR (by kernel_rfl) ?_; try simp only [Act.put, List.setIfInBounds_toArray, List.set_cons_zero, List.set_cons_succ]))
    | ((refine wpList_storeAll_has (cells := oneR) h rfl 43 _ _ rfl rfl rfl hb0 rfl rfl rfl (by kernel_rfl) rfl ?_; clear h; intro w h)))
  exact bodyPost_ret (results_c1 rfl (CellRes.of h (Mm.upd_same _ _ _) rfl Tryz.underlying43 rfl (by kernel_rfl))) rfl ⟨rfl, h.le (Mm.le_upd hle2 hn0 _)⟩
set_option maxHeartbeats 1000000 in
theorem new_eq (h : Has σ M w) : Calls Tryz.prog 18 #[.agg oneR, .int .i64 0] w fun r w' => r = .returned (.agg stN) ∧ Has σ M w' := by
  have oz := oneR_size
  have ox : oneR.extract 0 (0 + 14) = oneR := rfl
  go_enter Tryz.func18, Tryz.ntmps18
  go_upto_region 1 with (first
    | ((with_reducible show wpList _ _ _ ({ dst := _, op := Op.box 43 _, type := _, pos := _, after := _, guard := _ } :: _) _ _); go_loud (refine wpList_box_has h rfl 43 _ rfl ?_); clear h; intro b2 w h hn2; try simp only [Act.put, List.setIfInBounds_toArray, List.set_cons_zero, List.set_cons_succ])
    | ((with_reducible show wpList _ _ _ ({ dst := some 4, op := Op.alloc 71, type := _, pos := _, after := _, guard := _ } :: _) _ _); go_loud (refine wpList_alloc_has h rfl 71 rfl _ zst ?_); clear h; intro b4 w h hn4; try simp only [Act.put, List.setIfInBounds_toArray, List.set_cons_zero, List.set_cons_succ]))
  replace hn2 : M b2 = none := hn2
  replace hn4 : (M.upd b2 (.cells oneR 43)) b4 = none := hn4
  replace h : Has σ ((M.upd b2 (.cells oneR 43)).upd b4 (.cells st0 71)) w := h
  have hle2 : M.le ((M.upd b2 (.cells oneR 43)).upd b4 (.cells st0 71)) := Mm.le_trans (Mm.le_upd' hn2 _) (Mm.le_upd' hn4 _)
  have hb2 : ((M.upd b2 (.cells oneR 43)).upd b4 (.cells st0 71)) b2 = some (.cells oneR 43) := (Mm.le_upd' hn4 _) _ _ (Mm.upd_same _ _ _)
  have hb4 : ((M.upd b2 (.cells oneR 43)).upd b4 (.cells st0 71)) b4 = some (.cells st0 71) := (Mm.le_refl _) _ _ (Mm.upd_same _ _ _)
  have n_b2_b4 : b2 ≠ b4 := Mm.ne_of hn4 ((Mm.le_refl _) _ _ (Mm.upd_same _ _ _))
  replace hn4 : M b4 = none := Mm.none_of (Mm.le_upd' hn2 _) hn4
  replace hn2 : M b2 = none := Mm.none_of (Mm.le_refl _) hn2
  generalize ((M.upd b2 (.cells oneR 43)).upd b4 (.cells st0 71)) = M2 at h hle2 hb2 hb4
  go_wp2_with (first
    | ((with_reducible show wpList _ _ _ ({ dst := _, op := Op.load 43 _, type := _, pos := _, after := _, guard := _ } :: _) _ _); go_loud (refine wpList_agg_has h rfl 43 _ rfl rfl hb2 ox oz Tryz.underlying43 rfl (by kernel_rfl) ?_); try simp only [Act.put, List.setIfInBounds_toArray, List.set_cons_zero, List.set_cons_succ])
    | ((refine wpList_build_has rfl 71 _ rfl stN (by kernel_rfl) ?_; try simp only [Act.put, List.setIfInBounds_toArray, List.set_cons_zero, List.set_cons_succ]))
    | ((refine wpList_storeAll_has (cells := stN) h rfl 71 _ _ rfl rfl rfl hb4 rfl st0_size (stR_size _ _ _ _) (by kernel_rfl) (stR_one ⟨rfl, rfl, rfl, rfl⟩) ?_; clear h; intro w h)))
  exact bodyPost_ret (results_c1 rfl (CellRes.of h (Mm.upd_same _ _ _) rfl Tryz.underlying71 rfl (by rw [stR_size]; kernel_rfl))) rfl ⟨rfl, h.le (Mm.le_upd hle2 hn4 _)⟩
/-- What is known of the line, k opers on. -/
def Going (P : Nat → Mm → Value → Prop) : Prop := ∀ {k M M' q}, P k M q → M.le M' → P k M' q
def BehPost (σ : World) (M : Mm) (r : Ending) (w' : World) : Prop := ∃ q' : Value, r = .returned (.tuple #[.agg (stR nilS q' nilS nilS), .bool true]) ∧ q'.oneCell' = true ∧ Has σ M w'
def BehRel (σ : World) (M0 : Mm) (b8 m : Nat) (P : Nat → Mm → Value → Prop) (i : Value) (wr : World) : Prop := ∃ (k : Nat) (q : Value) (M' : Mm), k ≤ m ∧ i = .int .i64 k ∧ Has σ M' wr ∧ (M0.drop b8).le M' ∧ M' b8 = some (.cells (stR nilS q nilS nilS) 71) ∧ q.oneCell' = true ∧ P k M' q
def OpS.callR (y : OpS) : Array Value := Go.Proofs.YtigfmnfdphijaaaGreatDoor.callR y.op y.lv y.ky y.pa y.pb y.ha y.rg
def OpS.ansR (y : OpS) : Array Value := Go.Proofs.YtigfmnfdphijaaaGreatDoor.ansR y.er y.qa y.qb y.hb y.nn y.kb
theorem OpS.row_call (y : OpS) : y.row.extract 1 (1 + 7) = y.callR := rfl
theorem OpS.row_ans (y : OpS) : y.row.extract 8 (8 + 6) = y.ansR := rfl
set_option maxHeartbeats 4000000 in
set_option maxRecDepth 20000 in
theorem behind_yes (h : Has σ M w) (va vo : Value) (l : List OpS) (order : List Int) (n m : Nat) (hl : l.length = n) (hm : order.length = m) (ha : Rd M 16 va n (l.flatMap encO)) (ho : Rd M 1 vo m (ints1 order)) (hn1 : n ≤ 1000000) (hm1 : m ≤ 1000000)
    (hin : ∀ (j : Nat) (x : Int), order[j]? = some x → ∃ (k : Nat) (y : OpS), x = (k : Int) ∧ l[k]? = some y ∧ 0 ≤ y.tt)
    (P : Mm → Nat → Nat → Mm → Value → Prop) (hP0 : ∀ (M0 M' : Mm) (b8 : Nat), P M0 b8 0 M' nilS) (hPu : ∀ {M0 b8 k M' q} (o : Obj), P M0 b8 k M' q → P M0 b8 k (M'.upd b8 o) q) (hPl : ∀ {M0 b8 k M' M2 q}, P M0 b8 k M' q → M'.le M2 → P M0 b8 k M2 q)
    (TL : ∀ (M0 : Mm) (b8 : Nat) (j k : Nat) (y : OpS) (q : Value) (M' : Mm) (w : World), order[j]? = some (k : Int) → l[k]? = some y → P M0 b8 j M' q → M0 b8 ≠ none → M' b8 ≠ none → (M0.drop b8).le M' → Has σ M' w → q.oneCell' = true →
      Calls Tryz.prog 20 #[.agg (stR nilS q nilS nilS), .int .i64 y.th, .agg y.callR, .agg y.ansR] w fun r w' => ToldYes (fun _ M2 q' => P M0 b8 (j + 1) M2 q') σ M' nilS nilS nilS r w') :
    Calls Tryz.prog 17 #[.agg stN, va, vo] w fun r w' => BehPost σ M r w' := by
  have HA := Lib.hid ha
  have HO := Lib.hid ho
  obtain ⟨A, c, rfl⟩ := ha.form
  obtain ⟨B, d, rfl⟩ := ho.form
  have HL := Lib.hid hl
  have HM := Lib.hid hm
  have HIN := Lib.hid hin
  have TL := Lib.hid TL
  have rz := stR_size nilS nilS nilS nilS
  have ra := stR_all nilS nilS nilS nilS
  have ro := Lib.hid (stR_one (se := nilS) (q := nilS) (li := nilS) (tl := nilS) ⟨rfl, rfl, rfl, rfl⟩)
  have z0 := st0_size
  clear ha ho hl hm hin
  rw [show stN = stR nilS nilS nilS nilS from rfl]
  generalize hrs : stR nilS nilS nilS nilS = rs at *
  have HRS := Lib.hid hrs
  clear hrs
  go_enter Tryz.func17, Tryz.ntmps17
  go_upto_region 1 with (first
    | ((with_reducible show wpList _ _ _ ({ dst := _, op := Op.box 71 _, type := _, pos := _, after := _, guard := _ } :: _) _ _); go_loud (refine wpList_box_has h rfl 71 _ rfl ?_); clear h; intro b3 w h hn3; try simp only [Act.put, List.setIfInBounds_toArray, List.set_cons_zero, List.set_cons_succ])
    | ((with_reducible show wpList _ _ _ ({ dst := some 6, op := Op.alloc 71, type := _, pos := _, after := _, guard := _ } :: _) _ _); go_loud (refine wpList_alloc_has h rfl 71 rfl _ zst ?_); clear h; intro b6 w h hn6; try simp only [Act.put, List.setIfInBounds_toArray, List.set_cons_zero, List.set_cons_succ]))
  replace hn3 : M b3 = none := hn3
  replace hn6 : (M.upd b3 (.cells rs 71)) b6 = none := hn6
  replace h : Has σ ((M.upd b3 (.cells rs 71)).upd b6 (.cells st0 71)) w := h
  have hle2 : M.le ((M.upd b3 (.cells rs 71)).upd b6 (.cells st0 71)) := Mm.le_trans (Mm.le_upd' hn3 _) (Mm.le_upd' hn6 _)
  have hb3 : ((M.upd b3 (.cells rs 71)).upd b6 (.cells st0 71)) b3 = some (.cells rs 71) := (Mm.le_upd' hn6 _) _ _ (Mm.upd_same _ _ _)
  have hb6 : ((M.upd b3 (.cells rs 71)).upd b6 (.cells st0 71)) b6 = some (.cells st0 71) := (Mm.le_refl _) _ _ (Mm.upd_same _ _ _)
  have n_b3_b6 : b3 ≠ b6 := Mm.ne_of hn6 ((Mm.le_refl _) _ _ (Mm.upd_same _ _ _))
  replace hn6 : M b6 = none := Mm.none_of (Mm.le_upd' hn3 _) hn6
  replace hn3 : M b3 = none := Mm.none_of (Mm.le_refl _) hn3
  generalize ((M.upd b3 (.cells rs 71)).upd b6 (.cells st0 71)) = M2 at h hle2 hb3 hb6
  generalize st0 = s0 at *
  go_upto_region 2 with (first
    | ((with_reducible show wpList _ _ _ ({ dst := _, op := Op.load 71 _, type := _, pos := _, after := _, guard := _ } :: _) _ _); go_loud (refine wpList_agg_has h rfl 71 _ rfl rfl hb3 ra rz Tryz.underlying71 rfl (by kernel_rfl) ?_); try simp only [Act.put, List.setIfInBounds_toArray, List.set_cons_zero, List.set_cons_succ])
    | ((with_reducible show wpList _ _ _ ({ dst := some 8, op := Op.alloc 71, type := _, pos := _, after := _, guard := _ } :: _) _ _); go_loud (refine wpList_alloc_has h rfl 71 rfl _ zst ?_); clear h; intro b8 w h hn8; try simp only [Act.put, List.setIfInBounds_toArray, List.set_cons_zero, List.set_cons_succ])
    | ((with_reducible show wpList _ _ _ ({ dst := _, op := Op.store 71 _ _, type := _, pos := _, after := _, guard := _ } :: _) _ _); have hx8 := Mm.upd_same M2 b8 (.cells st0 71); refine wpList_storeAll_has (cells := rs) h rfl 71 _ _ rfl rfl rfl hx8 rfl st0_size rz (by kernel_rfl) ro.out ?_; clear h; intro w h))
  rw [Mm.upd_upd] at h
  have n38 := Mm.ne_of hn8 hb3
  have n68 := Mm.ne_of hn8 hb6
  have hd0 : ((M2.upd b8 (.cells rs 71)).drop b8).le (M2.upd b8 (.cells rs 71)) := Mm.drop_le _ _
  have hMd : M2.le ((M2.upd b8 (.cells rs 71)).drop b8) := fun c o hc => Mm.drop_of (Mm.le_upd' hn8 _ _ _ hc) fun e => by subst e; rw [hn8] at hc; cases hc
  have hb83 := Mm.upd_same M2 b8 (.cells rs 71)
  have hS8 : Hid ((M2.upd b8 (.cells rs 71)) b8 ≠ none) := by show (M2.upd b8 (.cells rs 71)) b8 ≠ none; rw [hb83]; exact fun e => (by cases e)
  generalize M2.upd b8 (.cells rs 71) = M0 at *
  have HMD := Lib.hid hMd
  have HP0 := Lib.hid (hP0 M0 M0 b8)
  have HPU := Lib.hid (fun (k : Nat) (M' : Mm) (q : Value) (o : Obj) (h : P M0 b8 k M' q) => hPu o h)
  have HPL := Lib.hid (fun (k : Nat) (M' M2 : Mm) (q : Value) (h : P M0 b8 k M' q) (h' : M'.le M2) => hPl h h')
  have TL0 := Lib.hid (TL.out M0 b8)
  clear TL hP0 hPu hPl
  generalize P M0 b8 = P8 at *
  go_wp2
  go_loopw [16] (fun i wr => BehRel σ M0 b8 m P8 i wr) (fun i _ => m - (intOf i).toNat)
  case atStart => exact ⟨0, nilS, M0, Nat.zero_le _, rfl, h, hd0, by rw [HRS.out]; exact hb83, rfl, HP0.out⟩
  case round =>
    clear h w hb83 hd0
    obtain ⟨w, rfl⟩ : ∃ x : World, x = wr := ⟨_, rfl⟩
    obtain ⟨k, q, M', hk, rfl, h, hle, hb8, hq1, hp⟩ := hrel
    have HQ1 := Lib.hid hq1
    have HP := Lib.hid hp
    clear hq1 hp
    have qz := stR_size nilS q nilS nilS
    have qa := stR_all nilS q nilS nilS
    have qo := Lib.hid (stR_one (se := nilS) (q := q) (li := nilS) (tl := nilS) ⟨rfl, HQ1.out, rfl, rfl⟩)
    have hb31 := hle _ _ (hMd _ _ hb3)
    have hb61 := hle _ _ (hMd _ _ hb6)
    by_cases hlt : k < m
    · obtain ⟨x, hx⟩ : ∃ x, order[k]? = some x := ⟨_, List.getElem?_eq_getElem (by have := HM.out; omega)⟩
      obtain ⟨kk, y, rfl, hy, h0⟩ := HIN.out k x hx
      have hkn : kk < n := by have := (List.getElem?_eq_some_iff.1 hy).1; have := HL.out; omega
      obtain ⟨_, B', d', e, hd, hB⟩ := HO.out
      cases e
      obtain ⟨b1, o1, cs1, t1, f1, rfl, hO1, hx1⟩ := hB (by omega)
      have e1 := hx1 k (.int .i64 (kk : Int)) (by simp [ints1, hx])
      obtain ⟨bl, ol, cl, csl, tl, fl, e2, hMl, hxl⟩ := HA.out.elem encO_len hkn hy
      cases e2
      have hO2 := hle _ _ (hMd _ _ (hle2 _ _ hO1))
      have hMl2 := hle _ _ (hMd _ _ (hle2 _ _ hMl))
      have g16 : csl.extract (ol + kk * 16) (ol + kk * 16 + 16) = y.row := extract_of (n := 16) hxl rfl
      have d0 : decide ((kk : Int) < 0) = false := decide_eq_false (by omega)
      have d1 : decide ((n : Int) ≤ (kk : Int)) = false := decide_eq_false (by omega)
      have d2 : decide (n ≤ kk) = false := decide_eq_false (by omega)
      have d3 : decide (y.tt < 0) = false := decide_eq_false (by omega)
      have TLk := Lib.hid (fun (w : World) (M' : Mm) (a : P8 k M' q) (b' : M' b8 ≠ none) (b : (M0.drop b8).le M') (c : Has σ M' w) => TL0.out k kk y q M' w hx hy a hS8.out b' b c HQ1.out)
      clear hB hx1 hxl hO1 hMl hx hy h0
      go_upto_region 7 with (first
        | (with_reducible show wpList _ _ _ ({ dst := _, op := Op.load 3 _, type := _, pos := _, after := _, guard := _ } :: _) _ _; go_loud (refine wpList_load1_has h rfl 3 _ rfl rfl hO2 e1 Tryz.underlying3 rfl ?_)))
      go_upto_region 8 with (first
        | ((with_reducible show wpList _ _ _ ({ dst := _, op := Op.load 38 _, type := _, pos := _, after := _, guard := _ } :: _) _ _); go_loud (refine wpList_agg_has h rfl 38 _ rfl rfl hMl2 g16 rfl Tryz.underlying38 rfl (by kernel_rfl) ?_); try simp only [Act.put, List.setIfInBounds_toArray, List.set_cons_zero, List.set_cons_succ])
        | ((with_reducible show wpList _ _ _ ({ dst := _, op := Op.alloc 38, type := _, pos := _, after := _, guard := _ } :: _) _ _); go_loud (refine wpList_alloc_has h rfl 38 rfl _ zoper ?_); clear h; intro b11 w h hn11; try simp only [Act.put, List.setIfInBounds_toArray, List.set_cons_zero, List.set_cons_succ])
        | ((with_reducible show wpList _ _ _ ({ dst := _, op := Op.store 38 _ _, type := _, pos := _, after := _, guard := _ } :: _) _ _); refine wpList_storeAll_has (cells := y.row) h rfl 38 _ _ rfl rfl rfl (Mm.upd_same _ _ _) rfl rfl rfl (by kernel_rfl) rfl ?_; clear h; intro w h))
      rw [Mm.upd_upd] at h
      have hb11 := Mm.upd_same M' b11 (.cells y.row 38)
      have hl11 := Mm.le_upd' hn11 (.cells y.row 38)
      have hle4 := Mm.le_trans hle hl11
      have hb84 := hl11 _ _ hb8
      have hb34 := hl11 _ _ hb31
      have N84 : Hid ((M'.upd b11 (.cells y.row 38)) b8 ≠ none) := by show (M'.upd b11 (.cells y.row 38)) b8 ≠ none; rw [hb84]; exact fun e => (by cases e)
      have HP4 := Lib.hid (HPL.out _ _ _ _ HP.out hl11)
      clear hb8 hb31 hb61 hO2 hMl2 hl11 hle hn11 HP
      generalize M'.upd b11 (.cells y.row 38) = M4 at *
      have v15 : y.row[15]? = some (.int .i64 y.tt) := rfl
      have v0 : y.row[0]? = some (.int .i64 y.th) := rfl
      have vc := y.row_call
      have va := y.row_ans
      have cz : y.callR.size = 7 := rfl
      have az : y.ansR.size = 6 := rfl
      generalize y.row = yr at *
      generalize y.callR = yc at *
      generalize y.ansR = ya at *
      generalize y.tt = yt at *
      generalize y.th = yh at *
      go_upto_region 13 with (first
        | (with_reducible show wpList _ _ _ ({ dst := _, op := Op.load 3 _, type := _, pos := _, after := _, guard := _ } :: _) _ _; go_loud (refine wpList_load1_has h rfl 3 _ rfl rfl hb11 v15 Tryz.underlying3 rfl ?_))
        | (with_reducible show wpList _ _ _ ({ dst := _, op := Op.load 3 _, type := _, pos := _, after := _, guard := _ } :: _) _ _; go_loud (refine wpList_load1_has h rfl 3 _ rfl rfl hb11 v0 Tryz.underlying3 rfl ?_))
        | ((with_reducible show wpList _ _ _ ({ dst := _, op := Op.load 71 _, type := _, pos := _, after := _, guard := _ } :: _) _ _); go_loud (refine wpList_agg_has h rfl 71 _ rfl rfl hb84 qa qz Tryz.underlying71 rfl (by kernel_rfl) ?_); try simp only [Act.put, List.setIfInBounds_toArray, List.set_cons_zero, List.set_cons_succ])
        | ((with_reducible show wpList _ _ _ ({ dst := _, op := Op.load 33 _, type := _, pos := _, after := _, guard := _ } :: _) _ _); go_loud (refine wpList_agg_has h rfl 33 _ rfl rfl hb11 vc cz Tryz.underlying33 rfl (by kernel_rfl) ?_); try simp only [Act.put, List.setIfInBounds_toArray, List.set_cons_zero, List.set_cons_succ])
        | ((with_reducible show wpList _ _ _ ({ dst := _, op := Op.load 36 _, type := _, pos := _, after := _, guard := _ } :: _) _ _); go_loud (refine wpList_agg_has h rfl 36 _ rfl rfl hb11 va az Tryz.underlying36 rfl (by kernel_rfl) ?_); try simp only [Act.put, List.setIfInBounds_toArray, List.set_cons_zero, List.set_cons_succ])
        | (go_at_call 20; go_loud (refine (TLk.out _ _ HP4.out N84.out hle4 h).mono ?_); clear h; rintro _ w ⟨q', M5, rfl, hq1, h, hle5, hp5⟩)
        | ((with_reducible show wpList _ _ _ ({ dst := _, op := Op.store 71 _ _, type := _, pos := _, after := _, guard := _ } :: _) _ _); have hb85 := hle5 _ _ hb84; refine wpList_storeAll_has (cells := stR nilS q' nilS nilS) h rfl 71 _ _ rfl rfl rfl hb85 rfl qz (stR_size _ _ _ _) (by kernel_rfl) (stR_one ⟨rfl, hq1, rfl, rfl⟩) ?_; clear h; intro w h))
      have HFIN : Hid (BehRel σ M0 b8 m P8 (.int .i64 ((k : Int) + 1)) w) := ⟨k + 1, q', _, hlt, by go_num, h, Mm.drop_upd (Mm.le_trans hle4 hle5) _, Mm.upd_same _ _ _, hq1, HPU.out _ _ _ _ hp5⟩
      clear hq1 hp5 h
      go_wp2
      go_roundw
      case rel => exact HFIN.out
      case measure => simp [intOf]; omega
    · obtain rfl : k = m := by omega
      go_upto_region 14 with (fail)
      go_wp2_with (first
        | ((with_reducible show wpList _ _ _ ({ dst := _, op := Op.load 71 _, type := _, pos := _, after := _, guard := _ } :: _) _ _); go_loud (refine wpList_agg_has h rfl 71 _ rfl rfl hb8 qa qz Tryz.underlying71 rfl (by kernel_rfl) ?_); try simp only [Act.put, List.setIfInBounds_toArray, List.set_cons_zero, List.set_cons_succ])
        | ((with_reducible show wpList _ _ _ ({ dst := _, op := Op.store 71 _ _, type := _, pos := _, after := _, guard := _ } :: _) _ _); go_loud (refine wpList_storeAll_has (cells := stR nilS q nilS nilS) h rfl 71 _ _ rfl rfl rfl hb61 rfl (z0.trans qz.symm) rfl (by rw [qz]; kernel_rfl) qo.out ?_); clear h; intro w h))
      exact bodyPost_ret (results_ct rfl (CellRes.of h (Mm.upd_same _ _ _) rfl Tryz.underlying71 rfl (by rw [qz]; kernel_rfl))) rfl ⟨q, rfl, HQ1.out, h.le (Mm.le_upd (Mm.le_trans hle2 (Mm.le_trans HMD.out hle)) hn6 _)⟩
set_option maxHeartbeats 4000000 in
set_option maxRecDepth 20000 in
theorem behind_no (h : Has σ M w) (va vo : Value) (l : List OpS) (order : List Int) (n m : Nat) (hl : l.length = n) (hm : order.length = m) (ha : Rd M 16 va n (l.flatMap encO)) (ho : Rd M 1 vo m (ints1 order)) (hn1 : n ≤ 1000000) (hm1 : m ≤ 1000000)
    (kk : Nat) (y : OpS) (hx : order[0]? = some (kk : Int)) (hy : l[kk]? = some y) (h0 : 0 ≤ y.tt)
    (TL : ∀ (M' : Mm) (w : World), Has σ M' w → Calls Tryz.prog 20 #[.agg stN, .int .i64 y.th, .agg y.callR, .agg y.ansR] w fun r w' => r = .returned (.tuple #[.agg stN, .bool false]) ∧ Has σ M' w') :
    Calls Tryz.prog 17 #[.agg stN, va, vo] w fun r w' => r = .returned (.tuple #[.agg stN, .bool false]) ∧ Has σ M w' := by
  have HA := Lib.hid ha
  have HO := Lib.hid ho
  obtain ⟨A, c, rfl⟩ := ha.form
  obtain ⟨B, d, rfl⟩ := ho.form
  have HL := Lib.hid hl
  have HM := Lib.hid hm
  rw [show stN = stR nilS nilS nilS nilS from rfl] at TL
  have TL := Lib.hid TL
  have rz := stR_size nilS nilS nilS nilS
  have ra := stR_all nilS nilS nilS nilS
  have ro := Lib.hid (stR_one (se := nilS) (q := nilS) (li := nilS) (tl := nilS) ⟨rfl, rfl, rfl, rfl⟩)
  have z0 := st0_size
  clear ha ho hl hm
  rw [show stN = stR nilS nilS nilS nilS from rfl]
  generalize hrs : stR nilS nilS nilS nilS = rs at *
  have HRS := Lib.hid hrs
  clear hrs
  go_enter Tryz.func17, Tryz.ntmps17
  go_upto_region 1 with (first
    | ((with_reducible show wpList _ _ _ ({ dst := _, op := Op.box 71 _, type := _, pos := _, after := _, guard := _ } :: _) _ _); go_loud (refine wpList_box_has h rfl 71 _ rfl ?_); clear h; intro b3 w h hn3; try simp only [Act.put, List.setIfInBounds_toArray, List.set_cons_zero, List.set_cons_succ])
    | ((with_reducible show wpList _ _ _ ({ dst := some 6, op := Op.alloc 71, type := _, pos := _, after := _, guard := _ } :: _) _ _); go_loud (refine wpList_alloc_has h rfl 71 rfl _ zst ?_); clear h; intro b6 w h hn6; try simp only [Act.put, List.setIfInBounds_toArray, List.set_cons_zero, List.set_cons_succ]))
  replace hn3 : M b3 = none := hn3
  replace hn6 : (M.upd b3 (.cells rs 71)) b6 = none := hn6
  replace h : Has σ ((M.upd b3 (.cells rs 71)).upd b6 (.cells st0 71)) w := h
  have hle2 : M.le ((M.upd b3 (.cells rs 71)).upd b6 (.cells st0 71)) := Mm.le_trans (Mm.le_upd' hn3 _) (Mm.le_upd' hn6 _)
  have hb3 : ((M.upd b3 (.cells rs 71)).upd b6 (.cells st0 71)) b3 = some (.cells rs 71) := (Mm.le_upd' hn6 _) _ _ (Mm.upd_same _ _ _)
  have hb6 : ((M.upd b3 (.cells rs 71)).upd b6 (.cells st0 71)) b6 = some (.cells st0 71) := (Mm.le_refl _) _ _ (Mm.upd_same _ _ _)
  have n_b3_b6 : b3 ≠ b6 := Mm.ne_of hn6 ((Mm.le_refl _) _ _ (Mm.upd_same _ _ _))
  replace hn6 : M b6 = none := Mm.none_of (Mm.le_upd' hn3 _) hn6
  replace hn3 : M b3 = none := Mm.none_of (Mm.le_refl _) hn3
  generalize ((M.upd b3 (.cells rs 71)).upd b6 (.cells st0 71)) = M2 at h hle2 hb3 hb6
  generalize st0 = s0 at *
  go_upto_region 2 with (first
    | ((with_reducible show wpList _ _ _ ({ dst := _, op := Op.load 71 _, type := _, pos := _, after := _, guard := _ } :: _) _ _); go_loud (refine wpList_agg_has h rfl 71 _ rfl rfl hb3 ra rz Tryz.underlying71 rfl (by kernel_rfl) ?_); try simp only [Act.put, List.setIfInBounds_toArray, List.set_cons_zero, List.set_cons_succ])
    | ((with_reducible show wpList _ _ _ ({ dst := some 8, op := Op.alloc 71, type := _, pos := _, after := _, guard := _ } :: _) _ _); go_loud (refine wpList_alloc_has h rfl 71 rfl _ zst ?_); clear h; intro b8 w h hn8; try simp only [Act.put, List.setIfInBounds_toArray, List.set_cons_zero, List.set_cons_succ])
    | ((with_reducible show wpList _ _ _ ({ dst := _, op := Op.store 71 _ _, type := _, pos := _, after := _, guard := _ } :: _) _ _); have hx8 := Mm.upd_same M2 b8 (.cells st0 71); refine wpList_storeAll_has (cells := rs) h rfl 71 _ _ rfl rfl rfl hx8 rfl st0_size rz (by kernel_rfl) ro.out ?_; clear h; intro w h))
  rw [Mm.upd_upd] at h
  have n38 := Mm.ne_of hn8 hb3
  have hle8 := hle2
  have n68 := Mm.ne_of hn8 hb6
  have hd0 : ((M2.upd b8 (.cells rs 71)).drop b8).le (M2.upd b8 (.cells rs 71)) := Mm.drop_le _ _
  have hMd : M2.le ((M2.upd b8 (.cells rs 71)).drop b8) := fun c o hc => Mm.drop_of (Mm.le_upd' hn8 _ _ _ hc) fun e => by subst e; rw [hn8] at hc; cases hc
  have hb83 := Mm.upd_same M2 b8 (.cells rs 71)
  have hS8 : Hid ((M2.upd b8 (.cells rs 71)) b8 ≠ none) := by show (M2.upd b8 (.cells rs 71)) b8 ≠ none; rw [hb83]; exact fun e => (by cases e)
  generalize M2.upd b8 (.cells rs 71) = M0 at *
  have HMD := Lib.hid hMd
  clear HMD
  have hm0 : 0 < m := by have := (List.getElem?_eq_some_iff.1 hx).1; have := HM.out; omega
  have hkn : kk < n := by have := (List.getElem?_eq_some_iff.1 hy).1; have := HL.out; omega
  obtain ⟨_, B', d', e, hd, hB⟩ := HO.out
  cases e
  obtain ⟨b1, o1, cs1, t1, f1, rfl, hO1, hx1⟩ := hB (by omega)
  have e1 := hx1 0 (.int .i64 (kk : Int)) (by simp [ints1, hx])
  obtain ⟨bl, ol, cl, csl, tl, fl, e2, hMl, hxl⟩ := HA.out.elem encO_len hkn hy
  cases e2
  have hO2 := Mm.drop_le _ _ _ _ (hMd _ _ (hle2 _ _ hO1))
  have hMl2 := Mm.drop_le _ _ _ _ (hMd _ _ (hle2 _ _ hMl))
  have g16 : csl.extract (ol + kk * 16) (ol + kk * 16 + 16) = y.row := extract_of (n := 16) hxl rfl
  have d0 : decide ((kk : Int) < 0) = false := decide_eq_false (by omega)
  have d1 : decide ((n : Int) ≤ (kk : Int)) = false := decide_eq_false (by omega)
  have d2 : decide (n ≤ kk) = false := decide_eq_false (by omega)
  have d3 : decide (y.tt < 0) = false := decide_eq_false (by omega)
  have dm : decide ((0 : Int) < (m : Int)) = true := decide_eq_true (by omega)
  have hb34 := Mm.drop_le _ _ _ _ (hMd _ _ hb3)
  have hb64 := Mm.drop_le _ _ _ _ (hMd _ _ hb6)
  have hle0 : M.le M0 := Mm.le_trans hle2 (Mm.le_trans hMd (Mm.drop_le _ _))
  clear hB hx1 hxl hO1 hMl hx hy h0 hb3 hb6 hMd hd0 hle2
  go_wp2
  go_loopw [16] (fun i wr => i = .int .i64 0 ∧ Has σ M0 wr) (fun i _ => 0)
  case atStart => exact ⟨rfl, h⟩
  case round =>
    clear h w
    obtain ⟨w, rfl⟩ : ∃ x : World, x = wr := ⟨_, rfl⟩
    obtain ⟨rfl, h⟩ := hrel
    go_upto_region 7 with (first
      | (with_reducible show wpList _ _ _ ({ dst := _, op := Op.load 3 _, type := _, pos := _, after := _, guard := _ } :: _) _ _; go_loud (refine wpList_load1_has h rfl 3 _ rfl rfl hO2 e1 Tryz.underlying3 rfl ?_)))
    go_upto_region 8 with (first
      | ((with_reducible show wpList _ _ _ ({ dst := _, op := Op.load 38 _, type := _, pos := _, after := _, guard := _ } :: _) _ _); go_loud (refine wpList_agg_has h rfl 38 _ rfl rfl hMl2 g16 rfl Tryz.underlying38 rfl (by kernel_rfl) ?_); try simp only [Act.put, List.setIfInBounds_toArray, List.set_cons_zero, List.set_cons_succ])
      | ((with_reducible show wpList _ _ _ ({ dst := _, op := Op.alloc 38, type := _, pos := _, after := _, guard := _ } :: _) _ _); go_loud (refine wpList_alloc_has h rfl 38 rfl _ zoper ?_); clear h; intro b11 w h hn11; try simp only [Act.put, List.setIfInBounds_toArray, List.set_cons_zero, List.set_cons_succ])
      | ((with_reducible show wpList _ _ _ ({ dst := _, op := Op.store 38 _ _, type := _, pos := _, after := _, guard := _ } :: _) _ _); refine wpList_storeAll_has (cells := y.row) h rfl 38 _ _ rfl rfl rfl (Mm.upd_same _ _ _) rfl rfl rfl (by kernel_rfl) rfl ?_; clear h; intro w h))
    rw [Mm.upd_upd] at h
    have hb11 := Mm.upd_same M0 b11 (.cells y.row 38)
    have hl11 := Mm.le_upd' hn11 (.cells y.row 38)
    have hle4 := Mm.le_trans hle0 hl11
    have hb84 := hl11 _ _ hb83
    replace hb34 := hl11 _ _ hb34
    replace hb64 := hl11 _ _ hb64
    clear hb83 hO2 hMl2 hl11 hle0 hn11
    generalize M0.upd b11 (.cells y.row 38) = M4 at *
    have v15 : y.row[15]? = some (.int .i64 y.tt) := rfl
    have v0 : y.row[0]? = some (.int .i64 y.th) := rfl
    have vc := y.row_call
    have va := y.row_ans
    have cz : y.callR.size = 7 := rfl
    have az : y.ansR.size = 6 := rfl
    generalize y.row = yr at *
    generalize y.callR = yc at *
    generalize y.ansR = ya at *
    generalize y.tt = yt at *
    generalize y.th = yh at *
    have hb345 := (Mm.upd_ne (o := .cells rs 71) n38).trans hb34
    have hb645 := (Mm.upd_ne (o := .cells rs 71) n68).trans hb64
    have TL2 := Lib.hid TL
    clear TL
    go_wp2_with (first
      | (with_reducible show wpList _ _ _ ({ dst := _, op := Op.load 3 _, type := _, pos := _, after := _, guard := _ } :: _) _ _; go_loud (refine wpList_load1_has h rfl 3 _ rfl rfl hb11 v15 Tryz.underlying3 rfl ?_))
      | (with_reducible show wpList _ _ _ ({ dst := _, op := Op.load 3 _, type := _, pos := _, after := _, guard := _ } :: _) _ _; go_loud (refine wpList_load1_has h rfl 3 _ rfl rfl hb11 v0 Tryz.underlying3 rfl ?_))
      | ((with_reducible show wpList _ _ _ ({ dst := _, op := Op.load 71 _, type := _, pos := _, after := _, guard := _ } :: _) _ _); go_loud (refine wpList_agg_has h rfl 71 _ rfl rfl hb84 ra rz Tryz.underlying71 rfl (by kernel_rfl) ?_); try simp only [Act.put, List.setIfInBounds_toArray, List.set_cons_zero, List.set_cons_succ])
      | ((with_reducible show wpList _ _ _ ({ dst := _, op := Op.load 71 _, type := _, pos := _, after := _, guard := _ } :: _) _ _); go_loud (refine wpList_agg_has h rfl 71 _ rfl rfl hb345 ra rz Tryz.underlying71 rfl (by kernel_rfl) ?_); try simp only [Act.put, List.setIfInBounds_toArray, List.set_cons_zero, List.set_cons_succ])
      | ((with_reducible show wpList _ _ _ ({ dst := _, op := Op.load 33 _, type := _, pos := _, after := _, guard := _ } :: _) _ _); go_loud (refine wpList_agg_has h rfl 33 _ rfl rfl hb11 vc cz Tryz.underlying33 rfl (by kernel_rfl) ?_); try simp only [Act.put, List.setIfInBounds_toArray, List.set_cons_zero, List.set_cons_succ])
      | ((with_reducible show wpList _ _ _ ({ dst := _, op := Op.load 36 _, type := _, pos := _, after := _, guard := _ } :: _) _ _); go_loud (refine wpList_agg_has h rfl 36 _ rfl rfl hb11 va az Tryz.underlying36 rfl (by kernel_rfl) ?_); try simp only [Act.put, List.setIfInBounds_toArray, List.set_cons_zero, List.set_cons_succ])
      | (go_at_call 20; go_loud (refine (TL2.out _ _ h).mono ?_); clear h; rintro _ w ⟨rfl, h⟩)
      | ((with_reducible show wpList _ _ _ ({ dst := _, op := Op.store 71 (.tmp 8) _, type := _, pos := _, after := _, guard := _ } :: _) _ _); refine wpList_storeAll_has (cells := rs) h rfl 71 _ _ rfl rfl rfl hb84 rfl rz rz (by kernel_rfl) ro.out ?_; clear h; intro w h)
      | ((with_reducible show wpList _ _ _ ({ dst := _, op := Op.store 71 (.tmp 6) _, type := _, pos := _, after := _, guard := _ } :: _) _ _); refine wpList_storeAll_has (cells := rs) h rfl 71 _ _ rfl rfl rfl hb645 rfl z0 rz (by kernel_rfl) ro.out ?_; clear h; intro w h))
    have n8 : M b8 = none := Mm.none_of hle8 hn8
    exact bodyPost_ret (results_ct rfl (CellRes.of h (Mm.upd_same _ _ _) rfl Tryz.underlying71 rfl (by rw [rz]; kernel_rfl))) rfl ⟨rfl, h.le (Mm.le_upd (Mm.le_upd hle4 n8 _) hn6 _)⟩
end
end Go.Proofs.YtigfmnfdphijaaaGreatDoor
