/- lives of the law of layer 17. -/
import Derived.Test.YtjnhklhgcbknkaaGreatDoorMoJ
import Derived.Test.YtjnhklhgcbknkaaGreatDoorPfG
namespace Go.Proofs.YtjnhklhgcbknkaaGreatDoor
section
open Go.RowKit
set_option linter.unusedVariables false
set_option linter.unusedSimpArgs false
set_option linter.unnecessarySimpa false
theorem Own.upd_t {B M : Mm} {e : TypeId} {sz n b : Nat} {v : Value} {xs : List Value} {o : Obj} (h : Own B M e sz v n xs) (hb : M b = some o) (ho : ∀ cur, o ≠ .cells cur e (0, 0)) (o' : Obj) : Own B (M.upd b o') e sz v n xs := by
  obtain ⟨hl, ⟨hv, h0⟩ | ⟨g, cap, cur, hv, hg, hh, r⟩⟩ := h
  · exact ⟨hl, .inl ⟨hv, h0⟩⟩
  · have hne : g ≠ b := fun e => by subst e; rw [hb] at hh; cases hh; exact ho _ rfl
    exact ⟨hl, .inr ⟨g, cap, cur, hv, hg, (Mm.upd_ne hne).trans hh, r⟩⟩
theorem Own.base_t {B M : Mm} {e : TypeId} {sz n b : Nat} {v : Value} {xs : List Value} {o : Obj} (h : Own B M e sz v n xs) (hb : M b = some o) (ho : ∀ cur, o ≠ .cells cur e (0, 0)) (o' : Obj) : Own (B.upd b o') M e sz v n xs := by
  obtain ⟨hl, ⟨hv, h0⟩ | ⟨g, cap, cur, hv, hg, hh, r⟩⟩ := h
  · exact ⟨hl, .inl ⟨hv, h0⟩⟩
  · have hne : g ≠ b := fun e => by subst e; rw [hb] at hh; cases hh; exact ho _ rfl
    exact ⟨hl, .inr ⟨g, cap, cur, hv, (Mm.upd_ne hne).trans hg, hh, r⟩⟩
/-- What a finder holds: the opers, what was seen, the order so far, how many are left, how many tries. -/
def finR (lv : Value) (bm : Nat) (ov : Value) (left tries : Nat) : Array Value := #[lv, .map (some bm), ov, .int .i64 (left : Int), .int .i64 (tries : Int)]
def rangeI (k : Nat) : List Int := (List.range k).map fun (i : Nat) => (i : Int)
theorem rangeI_succ (k : Nat) : rangeI (k + 1) = rangeI k ++ [(k : Int)] := by unfold rangeI; rw [List.range_succ]; simp
theorem rangeI_length (k : Nat) : (rangeI k).length = k := by simp [rangeI]
structure FinM (B M : Mm) (bf bm : Nat) (lv ov : Value) (k : Nat) (left tries : Nat) (es : List EntM) (clock : Nat) : Prop where
  le : B.le M
  row : M bf = some (.cells (finR lv bm ov left tries) 49)
  map : M bm = some (mapRowM es clock)
  own : Own B M 3 1 ov k (ints1 (rangeI k))
/-- What a search tells that finds all n in turn. -/
def FoundN (σ : World) (B : Mm) (bf bm : Nat) (lv : Value) (n : Nat) (r : Ending) (w' : World) : Prop :=
  r = .returned (.bool true) ∧ ∃ (M' : Mm) (ov : Value) (tries : Nat) (es : List EntM) (clock : Nat), Has σ M' w' ∧ FinM B M' bf bm lv ov n 0 tries es clock
theorem finR_one (lv : Value) (bm : Nat) (ov : Value) (left tries : Nat) : (finR lv bm ov left tries).size = 5 := rfl
set_option maxHeartbeats 2000000 in
set_option maxRecDepth 20000 in
theorem from_done {σ w : World} {B M : Mm} {bf bm : Nat} {lv ov : Value} {n tries : Nat} {es : List EntM} {clock : Nat} (h : Has σ M w) (hf : FinM B M bf bm lv ov n 0 tries es clock) (hbf : B bf = none) (hbm : bf ≠ bm) (rs : Array Value) (d : Int) (ht2 : tries ≤ 1000) :
    Calls Tryz.prog 14 #[.pointer (some ⟨bf, 0, none⟩), .agg rs, .int .u64 d] w fun r w' => FoundN σ B bf bm lv n r w' := by
  have r4 : (finR lv bm ov 0 tries)[4]? = some (.int .i64 tries) := rfl
  have l4 : 4 < (finR lv bm ov 0 tries).size := Nat.lt_succ_self 4
  have hrow := hf.row
  have r3 : (finR lv bm ov 0 (tries + 1))[3]? = some (.int .i64 0) := rfl
  have RN : Hid ((finR lv bm ov 0 tries).setIfInBounds 4 (.int .i64 ((tries : Int) + 1)) = finR lv bm ov 0 (tries + 1)) := rfl
  have HF := Lib.hid hf
  clear hf
  generalize hfr : finR lv bm ov 0 tries = fr at *
  generalize hfr2 : finR lv bm ov 0 (tries + 1) = fr2 at *
  have HFR := Lib.hid hfr
  have HFR2 := Lib.hid hfr2
  clear hfr hfr2
  go_enter Tryz.func14, Tryz.ntmps14
  go_upto_region 1 with (first
    | ((with_reducible show wpList _ _ _ ({ dst := _, op := Op.box 85 _, type := _, pos := _, after := _, guard := _ } :: _) _ _); refine wpList_box_has h rfl 85 _ rfl ?_; clear h; intro b4 w h hn4; try simp only [Act.put, List.setIfInBounds_toArray, List.set_cons_zero, List.set_cons_succ]))
  replace hn4 : M b4 = none := hn4
  replace h : Has σ (M.upd b4 (.cells rs 85)) w := h
  have hle1 : M.le (M.upd b4 (.cells rs 85)) := Mm.le_upd' hn4 _
  have hb4 : (M.upd b4 (.cells rs 85)) b4 = some (.cells rs 85) := (Mm.le_refl _) _ _ (Mm.upd_same _ _ _)
  replace hn4 : M b4 = none := Mm.none_of (Mm.le_refl _) hn4
  generalize (M.upd b4 (.cells rs 85)) = M1 at h hle1 hb4
  have hrow1 := hle1 _ _ hrow
  go_upto_region 2 with (first
    | (with_reducible show wpList _ _ _ ({ dst := _, op := Op.load 3 _, type := _, pos := _, after := _, guard := _ } :: _) _ _; refine wpList_load1_has h rfl 3 _ rfl rfl hrow1 r4 Tryz.underlying3 rfl ?_)
    | (with_reducible show wpList _ _ _ ({ dst := _, op := Op.store 3 _ _, type := _, pos := _, after := _, guard := _ } :: _) _ _; refine wpList_store1_has h rfl 3 _ _ rfl rfl rfl hrow1 l4 rfl (by kernel_rfl) ?_; clear h; intro w h))
  replace h : Has σ (M1.upd bf (.cells (fr.setIfInBounds 4 (.int .i64 ((tries : Int) + 1))) 49)) w := h
  rw [RN.out] at h
  have hb := Mm.upd_same M1 bf (.cells fr2 49)
  go_wp2_with (first
    | (with_reducible show wpList _ _ _ ({ dst := _, op := Op.load 3 _, type := _, pos := _, after := _, guard := _ } :: _) _ _; refine wpList_load1_has h rfl 3 _ rfl rfl hb r3 Tryz.underlying3 rfl ?_))
  go_ret
  have hne : bm ≠ bf := Ne.symm hbm
  exact ⟨rfl, _, ov, tries + 1, es, clock, h, ⟨Mm.le_upd (Mm.le_trans HF.out.le hle1) hbf _, by rw [HFR2.out]; exact hb, (Mm.upd_ne hne).trans (hle1 _ _ HF.out.map), (HF.out.own.le hle1).upd_t hrow1 (by intro cur he; cases he) _⟩⟩
end
section
open Go.RowKit
set_option linter.unusedVariables false
set_option linter.unusedSimpArgs false
set_option linter.unnecessarySimpa false
set_option maxHeartbeats 4000000 in
set_option maxRecDepth 20000 in
theorem one_yes {σ w : World} {B M : Mm} {bf bm c n k tries clock : Nat} {A : Option Addr} {ov : Value} {l : List OpS} {es : List EntM} (h : Has σ M w) (hf : FinM B M bf bm (.slice A n c) ov k (n - k) tries es clock) (hbf : B bf = none) (hbm0 : B bm = none) (hbm : bf ≠ bm) (hl : l.length = n) (hk : k < n) (hn : n ≤ 60) (hrd : Rd B 16 (.slice A n c) n (l.flatMap encO)) (y : OpS) (hy : l[k]? = some y) (hty : 0 ≤ y.tt) (rs : Array Value) (hrs : StRow rs) (Q : Array Value → Prop)
    (TD : ∀ (M' : Mm) (w : World), M.le M' → Has σ M' w → Calls Tryz.prog 38 #[.agg rs, .agg y.row] w fun r w' => StPost Q true σ M' r w')
    (FR : ∀ (rs' : Array Value) (M' : Mm) (ov' : Value) (w : World), Q rs' → StRow rs' → Has σ M' w → FinM B M' bf bm (.slice A n c) ov' (k + 1) (n - (k + 1)) tries es clock → Calls Tryz.prog 14 #[.pointer (some ⟨bf, 0, none⟩), .agg rs', .int .u64 (2 ^ (k + 1) - 1 : Nat)] w fun r w' => FoundN σ B bf bm (.slice A n c) n r w') :
    Calls Tryz.prog 22 #[.pointer (some ⟨bf, 0, none⟩), .agg rs, .int .u64 (2 ^ k - 1 : Nat), .int .i64 k] w fun r w' => FoundN σ B bf bm (.slice A n c) n r w' := by
  have TD := Lib.hid TD
  have FR := Lib.hid FR
  have hpow : 1 ≤ 2 ^ k := Nat.one_le_two_pow
  have TN : Hid (∀ w, Calls Tryz.prog 39 #[.int .u64 (2 ^ k - 1 : Nat), .int .i64 k, .bool true] w fun r w' => r = .returned (.int .u64 (2 ^ (k + 1) - 1 : Nat)) ∧ w = w') := fun w => (fieldTurn_on (2 ^ k - 1) k (by omega) (by omega) w).mono fun r w' ⟨e, hw⟩ => ⟨by rw [e]; congr 3; rw [Nat.pow_succ]; omega, hw⟩
  have r0 : (finR (.slice A n c) bm ov (n - k) tries)[0]? = some (.slice A n c) := rfl
  have r3 : (finR (.slice A n c) bm ov (n - k) tries)[3]? = some (.int .i64 (n - k : Nat)) := rfl
  have l3 : 3 < (finR (.slice A n c) bm ov (n - k) tries).size := by show 3 < 5; omega
  have hLe : ((n - k : Nat) : Int) - 1 = ((n - (k + 1) : Nat) : Int) := by omega
  have hL1 : 1 ≤ n - k := by omega
  have hL2 : n - k ≤ 60 := by omega
  have RN : Hid ((finR (.slice A n c) bm ov (n - k) tries).setIfInBounds 3 (.int .i64 ((n - (k + 1) : Nat) : Int)) = finR (.slice A n c) bm ov (n - (k + 1)) tries) := rfl
  have r2 : (finR (.slice A n c) bm ov (n - (k + 1)) tries)[2]? = some ov := rfl
  have l2 : 2 < (finR (.slice A n c) bm ov (n - (k + 1)) tries).size := by show 2 < 5; omega
  have RO : Hid (∀ v, (finR (.slice A n c) bm ov (n - (k + 1)) tries).setIfInBounds 2 v = finR (.slice A n c) bm v (n - (k + 1)) tries) := fun v => rfl
  have hge : decide (0 ≤ y.tt) = true := decide_eq_true hty
  have y15 : y.row[15]? = some (.int .i64 y.tt) := rfl
  have yz : y.row.size = 16 := rfl
  have yx : y.row.extract 0 (0 + 16) = y.row := rfl
  have hlt : (k : Int) < (n : Int) := by omega
  have hrow := hf.row
  have HF := Lib.hid hf
  obtain ⟨A', c', rfl⟩ := hf.own.form
  obtain ⟨bl, ol, cl, csl, tl, fl, e1, hMl, hxl⟩ := hrd.elem encO_len hk hy
  cases e1
  have hMl0 := hf.le _ _ hMl
  have g16 : csl.extract (ol + k * 16) (ol + k * 16 + 16) = y.row := extract_of (n := 16) hxl rfl
  clear hf hxl hMl
  have rz := hrs.1
  have ra : rs.extract 0 (0 + 63) = rs := by rw [← rz, Nat.zero_add, Array.extract_size]
  have s0z : st0.size = 63 := rfl
  have ZS := zst
  generalize hs0 : st0 = s0 at *
  have HS0 := Lib.hid hs0
  clear hs0 hrs
  go_enter Tryz.func22, Tryz.ntmps22
  go_upto_region 1 with (first
    | ((with_reducible show wpList _ _ _ ({ dst := _, op := Op.box 85 _, type := _, pos := _, after := _, guard := _ } :: _) _ _); refine wpList_box_has h rfl 85 _ rfl ?_; clear h; intro b5 w h hn5; try simp only [Act.put, List.setIfInBounds_toArray, List.set_cons_zero, List.set_cons_succ]))
  replace hn5 : M b5 = none := hn5
  replace h : Has σ (M.upd b5 (.cells rs 85)) w := h
  have hle1 : M.le (M.upd b5 (.cells rs 85)) := Mm.le_upd' hn5 _
  have hb5 : (M.upd b5 (.cells rs 85)) b5 = some (.cells rs 85) := (Mm.le_refl _) _ _ (Mm.upd_same _ _ _)
  replace hn5 : M b5 = none := Mm.none_of (Mm.le_refl _) hn5
  generalize (M.upd b5 (.cells rs 85)) = M1 at h hle1 hb5
  have hrow1 := hle1 _ _ hrow
  have hMl1 := hle1 _ _ hMl0
  go_upto_region 2 with (first
    | (with_reducible show wpList _ _ _ ({ dst := _, op := Op.load 22 _, type := _, pos := _, after := _, guard := _ } :: _) _ _; refine wpList_load1_has h rfl 22 _ rfl rfl hrow1 r0 Tryz.underlying22 rfl ?_)
    | ((with_reducible show wpList _ _ _ ({ dst := _, op := Op.load 32 _, type := _, pos := _, after := _, guard := _ } :: _) _ _); refine wpList_agg_has h rfl 32 _ rfl rfl hMl1 g16 rfl Tryz.underlying32 rfl (by kernel_rfl) ?_; try simp only [Act.put, List.setIfInBounds_toArray, List.set_cons_zero, List.set_cons_succ])
    | ((with_reducible show wpList _ _ _ ({ dst := _, op := Op.alloc 32, type := _, pos := _, after := _, guard := _ } :: _) _ _); refine wpList_alloc_has h rfl 32 rfl _ zoper ?_; clear h; intro b9 w h hn9; try simp only [Act.put, List.setIfInBounds_toArray, List.set_cons_zero, List.set_cons_succ])
    | ((with_reducible show wpList _ _ _ ({ dst := _, op := Op.store 32 _ _, type := _, pos := _, after := _, guard := _ } :: _) _ _); refine wpList_storeAll_has (cells := y.row) h rfl 32 _ _ rfl rfl rfl (Mm.upd_same _ _ _) rfl rfl rfl (by kernel_rfl) rfl ?_; clear h; intro w h))
  rw [Mm.upd_upd] at h
  have hb9 := Mm.upd_same M1 b9 (.cells y.row 32)
  have hle9 := Mm.le_upd' hn9 (.cells y.row 32)
  have hb59 := hle9 _ _ hb5
  have hle2 := Mm.le_trans hle1 hle9
  clear hrow1 hMl1 hMl0 g16 hb5 hle1 hle9 hn9 hn5
  generalize M1.upd b9 (.cells y.row 32) = M2 at *
  go_upto_region 3 with (first
    | ((with_reducible show wpList _ _ _ ({ dst := _, op := Op.load 85 _, type := _, pos := _, after := _, guard := _ } :: _) _ _); refine wpList_agg_has h rfl 85 _ rfl rfl hb59 ra rz Tryz.underlying85 rfl (by kernel_rfl) ?_; try simp only [Act.put, List.setIfInBounds_toArray, List.set_cons_zero, List.set_cons_succ])
    | ((with_reducible show wpList _ _ _ ({ dst := _, op := Op.load 32 _, type := _, pos := _, after := _, guard := _ } :: _) _ _); refine wpList_agg_has h rfl 32 _ rfl rfl hb9 yx yz Tryz.underlying32 rfl (by kernel_rfl) ?_; try simp only [Act.put, List.setIfInBounds_toArray, List.set_cons_zero, List.set_cons_succ])
    | (go_at_call 38; refine (TD.out _ _ hle2 h).mono ?_; clear h; rintro _ w ⟨rs', M3, rfl, hrs', hq, h, hle3⟩; have z2 := hrs'.1; have o2 := hrs'.2)
    | ((with_reducible show wpList _ _ _ ({ dst := some 10, op := Op.alloc 85, type := _, pos := _, after := _, guard := _ } :: _) _ _); refine wpList_alloc_has h rfl 85 rfl _ ZS ?_; clear h; intro b10 w h hn10; try simp only [Act.put, List.setIfInBounds_toArray, List.set_cons_zero, List.set_cons_succ])
    | ((with_reducible show wpList _ _ _ ({ dst := _, op := Op.store 85 _ _, type := _, pos := _, after := _, guard := _ } :: _) _ _); refine wpList_storeAll_has (cells := rs') h rfl 85 _ _ rfl rfl rfl (Mm.upd_same _ _ _) rfl (s0z.trans z2.symm) rfl (by rw [z2]; kernel_rfl) o2 ?_; clear h; intro w h))
  replace h : Has σ (M3.upd b10 (.cells rs' 85)) w := by rw [Mm.upd_upd] at h; exact h
  have hb10 := Mm.upd_same M3 b10 (.cells rs' 85)
  have hle10 := Mm.le_upd' hn10 (.cells rs' 85)
  have hb94 := hle10 _ _ (hle3 _ _ hb9)
  have hle4 := Mm.le_trans hle2 (Mm.le_trans hle3 hle10)
  have hrow4 := hle4 _ _ hrow
  have nB10 : B b10 = none := Mm.none_of (Mm.le_trans HF.out.le (Mm.le_trans hle2 hle3)) hn10
  clear hb9 hb59 hle2 hle3 hle10 hn10 TD
  generalize M3.upd b10 (.cells rs' 85) = M4 at *
  have own4 := HF.out.own.le hle4
  have map4 := hle4 _ _ HF.out.map
  have base4 := Mm.le_trans HF.out.le hle4
  have HF4 : Hid (FinM B M4 bf bm (.slice (some ⟨bl, ol, none⟩) n c) (.slice A' k c') k (n - k) tries es clock) := ⟨base4, hrow4, map4, own4⟩
  clear HF hrow hle4
  generalize hfr : finR (.slice (some ⟨bl, ol, none⟩) n c) bm (.slice A' k c') (n - k) tries = fr at *
  generalize hfr2 : finR (.slice (some ⟨bl, ol, none⟩) n c) bm (.slice A' k c') (n - (k + 1)) tries = fr2 at *
  have HFR2 := Lib.hid hfr2
  clear hfr hfr2
  generalize n - k = L at *
  go_upto_region 6 with (first
    | (with_reducible show wpList _ _ _ ({ dst := _, op := Op.load 3 _, type := _, pos := _, after := _, guard := _ } :: _) _ _; refine wpList_load1_has h rfl 3 _ rfl rfl hb94 y15 Tryz.underlying3 rfl ?_))
  go_upto_region 7 with (first
    | (with_reducible show wpList _ _ _ ({ dst := _, op := Op.load 3 _, type := _, pos := _, after := _, guard := _ } :: _) _ _; refine wpList_load1_has h rfl 3 _ rfl rfl hrow4 r3 Tryz.underlying3 rfl ?_)
    | (with_reducible show wpList _ _ _ ({ dst := _, op := Op.store 3 _ _, type := _, pos := _, after := _, guard := _ } :: _) _ _; refine wpList_store1_has h rfl 3 _ _ rfl rfl rfl hrow4 l3 rfl (by kernel_rfl) ?_; clear h; intro w h))
  replace h : Has σ (M4.upd bf (.cells (fr.setIfInBounds 3 (.int .i64 ((n - (k + 1) : Nat) : Int))) 49)) w := h
  rw [RN.out] at h
  have own5 := own4.upd_t hrow4 (by intro cur he; cases he) (.cells fr2 49)
  have row5 := Mm.upd_same M4 bf (.cells fr2 49)
  have map5 := (Mm.upd_ne (o := .cells fr2 49) (Ne.symm hbm)).trans map4
  have base5 := Mm.le_upd base4 hbf (.cells fr2 49)
  have hb105 : (M4.upd bf (.cells fr2 49)) b10 = some (.cells rs' 85) := (Mm.upd_ne fun e => by subst e; rw [hb10] at hrow4; cases hrow4).trans hb10
  clear own4 map4 base4 hb94 hb10 hrow4 HF4
  generalize M4.upd bf (.cells fr2 49) = M5 at *
  have nbm : (B.upd bf (.cells fr2 49)) bm = none := (Mm.upd_ne (Ne.symm hbm)).trans hbm0
  have own6 := (own5.base_t row5 (by intro cur he; cases he) (.cells fr2 49)).base_t map5 (by intro cur he; cases he) (mapRowM es clock)
  have base6 : ((B.upd bf (.cells fr2 49)).upd bm (mapRowM es clock)).le M5 := fun j o hj => by
    by_cases e1 : j = bm
    · subst e1; rw [Mm.upd_same] at hj; rw [map5]; exact hj
    · rw [Mm.upd_ne e1] at hj
      by_cases e2 : j = bf
      · subst e2; rw [Mm.upd_same] at hj; rw [row5]; exact hj
      · rw [Mm.upd_ne e2] at hj; exact base5 _ _ hj
  have hbB : B.le ((B.upd bf (.cells fr2 49)).upd bm (mapRowM es clock)) := Mm.le_trans (Mm.le_upd' hbf _) (Mm.le_upd' nbm _)
  have rowB : ((B.upd bf (.cells fr2 49)).upd bm (mapRowM es clock)) bf = some (.cells fr2 49) := (Mm.upd_ne hbm).trans (Mm.upd_same _ _ _)
  have mapB : ((B.upd bf (.cells fr2 49)).upd bm (mapRowM es clock)) bm = some (mapRowM es clock) := Mm.upd_same _ _ _
  have own7 := own6.base_t hb105 (by intro cur he; cases he) (.cells rs' 85)
  have n5f : b10 ≠ bf := fun e => by subst e; rw [hb105] at row5; cases row5
  have n5m : b10 ≠ bm := fun e => by subst e; rw [hb105] at map5; unfold mapRowM at map5; cases map5
  have nB1 : ((B.upd bf (.cells fr2 49)).upd bm (mapRowM es clock)) b10 = none := (Mm.upd_ne n5m).trans ((Mm.upd_ne n5f).trans nB10)
  have rowB2 := (Mm.upd_ne (M := (B.upd bf (.cells fr2 49)).upd bm (mapRowM es clock)) (o := .cells rs' 85) (Ne.symm n5f)).trans rowB
  have mapB2 := (Mm.upd_ne (M := (B.upd bf (.cells fr2 49)).upd bm (mapRowM es clock)) (o := .cells rs' 85) (Ne.symm n5m)).trans mapB
  have stB2 := Mm.upd_same ((B.upd bf (.cells fr2 49)).upd bm (mapRowM es clock)) b10 (.cells rs' 85)
  have hbB2 := Mm.le_trans hbB (Mm.le_upd' nB1 (.cells rs' 85))
  have hle : (((B.upd bf (.cells fr2 49)).upd bm (mapRowM es clock)).upd b10 (.cells rs' 85)).le M5 := fun j o hj => by
    by_cases e1 : j = b10
    · subst e1; rw [Mm.upd_same] at hj; rw [hb105]; exact hj
    · rw [Mm.upd_ne e1] at hj; exact base6 _ _ hj
  have hown := own7
  clear own5 own6 own7 base5 base6 nbm rowB mapB hbB nB1 map5 hb105
  generalize ((B.upd bf (.cells fr2 49)).upd bm (mapRowM es clock)).upd b10 (.cells rs' 85) = B2 at *
  have HX : Hid (∀ (v : Value) (w' : World), Acc σ B2 w' 3 1 v (k + 1) (ints1 (rangeI k) ++ #[Value.int .i64 (k : Int)].toList) → ∃ (A6 : Option Addr) (c6 : Nat) (M6 : Mm), v = .slice A6 (k + 1) c6 ∧ Has σ M6 w' ∧ B2.le M6 ∧ Own B2 M6 3 1 (.slice A6 (k + 1) c6) (k + 1) (ints1 (rangeI (k + 1)))) := fun v w' ⟨M6, h6, hl6, ho6⟩ => by
    obtain ⟨A6, c6, rfl⟩ := ho6.form
    refine ⟨A6, c6, M6, rfl, h6, hl6, ?_⟩
    rw [rangeI_succ]
    simpa [ints1] using ho6
  go_upto_region 8 with (first
    | (with_reducible show wpList _ _ _ ({ dst := _, op := Op.load 33 _, type := _, pos := _, after := _, guard := _ } :: _) _ _; refine wpList_load1_has h rfl 33 _ rfl rfl row5 r2 Tryz.underlying33 rfl ?_)
    | ((at_builtin; refine wpList_append_lit h hle rfl _ _ _ rfl rfl Tryz.underlying33 info_int rfl (by omega) rfl hown rfl rfl rfl (by omega) (by omega) ?_; clear h; intro v w hacc; obtain ⟨A6, c6, M6, rfl, h, hle6, hown6⟩ := HX.out _ _ hacc; have row6 := hle6 _ _ rowB2))
    | (with_reducible show wpList _ _ _ ({ dst := _, op := Op.store 33 _ _, type := _, pos := _, after := _, guard := _ } :: _) _ _; refine wpList_store1_has h rfl 33 _ _ rfl rfl rfl row6 l2 rfl (by kernel_rfl) ?_; clear h; intro w h))
  have h7 : Has σ (M6.upd bf (.cells (fr2.setIfInBounds 2 (.slice A6 (k + 1) c6)) 49)) w := h
  rw [RO.out] at h7
  replace h := h7
  clear h7
  have fin7 : Hid (FinM B (M6.upd bf (.cells (finR (.slice (some ⟨bl, ol, none⟩) n c) bm (.slice A6 (k + 1) c6) (n - (k + 1)) tries) 49)) bf bm (.slice (some ⟨bl, ol, none⟩) n c) (.slice A6 (k + 1) c6) (k + 1) (n - (k + 1)) tries es clock) := ⟨Mm.le_upd (Mm.le_trans hbB2 hle6) hbf _, Mm.upd_same _ _ _, (Mm.upd_ne (Ne.symm hbm)).trans (hle6 _ _ mapB2), (hown6.base fun b hb => Mm.none_of hbB2 hb).upd_t row6 (by intro cur he; cases he) _⟩
  have st7 : (M6.upd bf (.cells (finR (.slice (some ⟨bl, ol, none⟩) n c) bm (.slice A6 (k + 1) c6) (n - (k + 1)) tries) 49)) b10 = some (.cells rs' 85) := (Mm.upd_ne n5f).trans (hle6 _ _ stB2)
  clear hown hown6 hle hle6 HX RO RN rowB2 mapB2 stB2 hbB2 row5 row6
  generalize M6.upd bf _ = M7 at *
  have ra2 : rs'.extract 0 (0 + 63) = rs' := by rw [← z2, Nat.zero_add, Array.extract_size]
  have HG : Hid (∀ w, Has σ M7 w → Calls Tryz.prog 14 #[.pointer (some ⟨bf, 0, none⟩), .agg rs', .int .u64 (2 ^ (k + 1) - 1 : Nat)] w fun r w' => FoundN σ B bf bm (.slice (some ⟨bl, ol, none⟩) n c) n r w') := fun w h => FR.out _ _ _ _ hq hrs' h fin7.out
  clear FR fin7
  have TQ : Hid (∀ w, Has σ M7 w → Calls Tryz.prog 39 #[.int .u64 (2 ^ k - 1 : Nat), .int .i64 k, .bool true] w fun r w' => r = .returned (.int .u64 (2 ^ (k + 1) - 1 : Nat)) ∧ Has σ M7 w') := fun w h => (TN.out w).mono fun r w' ⟨e, hw⟩ => ⟨e, hw ▸ h⟩
  clear TN
  refine wp_region_head (Has σ M7) 5 (by kernel_rfl) (by kernel_rfl) (fun _ _ _ _ _ h => h) h.drew ?_
  clear h
  simp only [List.take_succ_cons, List.take_zero, List.drop_succ_cons, List.drop_zero]
  repeat (first
    | go_big_quiet_skip
    | (go_big_quiet_want; first
      | (refine quiet_agg_has 85 _ rfl rfl st7 ra2 z2 Tryz.underlying85 rfl (by kernel_rfl) ?_; simp only [Act.put, List.setIfInBounds_toArray, List.set_cons_zero, List.set_cons_succ]; go_big_quiet_on)
      | (go_big_quiet_op; first | go_big_quiet_on | go_big_quiet_call (first | with_reducible exact fun _ => rfl | with_reducible exact TQ.out _))))
  refine wpQuiet_nil ?_
  try clear w
  intro w h
  go_wp2_with (first
    | (go_at_call 14; refine (HG.out _ h).mono ?_; clear h; rintro _ w ⟨rfl, hfound⟩))
  go_ret
  exact ⟨rfl, hfound⟩
end
section
open Go.RowKit
set_option linter.unusedVariables false
set_option linter.unusedSimpArgs false
set_option linter.unnecessarySimpa false
theorem zmet : (Tryz.prog.info? 94).bind (·.zero) = some (.agg #[.int .u64 0, .string ⟨#[]⟩]) := by kernel_rfl
set_option maxHeartbeats 4000000 in
set_option maxRecDepth 20000 in
theorem from_next {σ w : World} {B M : Mm} {bf bm n k tries clock : Nat} {lv ov : Value} {l : List OpS} {es : List EntM} (h : Has σ M w) (hf : FinM B M bf bm lv ov k (n - k) tries es clock) (hbf : B bf = none) (hbm0 : B bm = none) (hbm : bf ≠ bm) (hl : l.length = n) (hk : k < n) (hn : n ≤ 60) (ht2 : tries ≤ 1000) (hrd : Rd B 16 lv n (l.flatMap encO)) (HN : NextO l (rangeI k) = [(k : Int)]) (hes : ∀ x ∈ es, x.d ≠ ((2 ^ k - 1 : Nat) : Int))
    (ON : ∀ (M' : Mm) (clock' : Nat) (w : World), Has σ M' w → FinM B M' bf bm lv ov k (n - k) (tries + 1) (es ++ [⟨((2 ^ k - 1 : Nat) : Int), zer ⟨#[]⟩ 5, 1, clock⟩]) clock' → Calls Tryz.prog 22 #[.pointer (some ⟨bf, 0, none⟩), .agg (stR nilS nilS nilS nilS), .int .u64 (2 ^ k - 1 : Nat), .int .i64 k] w fun r w' => FoundN σ B bf bm lv n r w') :
    Calls Tryz.prog 14 #[.pointer (some ⟨bf, 0, none⟩), .agg (stR nilS nilS nilS nilS), .int .u64 (2 ^ k - 1 : Nat)] w fun r w' => FoundN σ B bf bm lv n r w' := by
  have ON := Lib.hid ON
  have TX := Lib.hid (fun (M : Mm) (w : World) (h : Has σ M w) => text_0 h)
  have hneq : ((n - k : Nat) : Int) ≠ 0 := by omega
  have hnb : (((n - k : Nat) : Int) == 0) = false := by simpa using hneq
  have hL1 : 1 ≤ n - k := by omega
  have hL2 : n - k ≤ 60 := by omega
  have r4 : (finR lv bm ov (n - k) tries)[4]? = some (.int .i64 tries) := rfl
  have l4 : 4 < (finR lv bm ov (n - k) tries).size := Nat.lt_succ_self 4
  have RN : Hid ((finR lv bm ov (n - k) tries).setIfInBounds 4 (.int .i64 ((tries : Int) + 1)) = finR lv bm ov (n - k) (tries + 1)) := rfl
  have r3 : (finR lv bm ov (n - k) (tries + 1))[3]? = some (.int .i64 (n - k : Nat)) := rfl
  have r0 : (finR lv bm ov (n - k) (tries + 1))[0]? = some lv := rfl
  have r1 : (finR lv bm ov (n - k) (tries + 1))[1]? = some (.map (some bm)) := rfl
  have r2 : (finR lv bm ov (n - k) (tries + 1))[2]? = some ov := rfl
  obtain ⟨hrs, hr1⟩ : (stR nilS nilS nilS nilS).size = 63 ∧ (stR nilS nilS nilS nilS).extract 0 (0 + 63) = stR nilS nilS nilS nilS := ⟨rfl, rfl⟩
  have hrow := hf.row
  have HF := Lib.hid hf
  clear hf
  have HFR : Hid (∀ o, o = finR lv bm ov (n - k) (tries + 1) → o = finR lv bm ov (n - k) (tries + 1)) := fun _ h => h
  generalize stR nilS nilS nilS nilS = rs at *
  generalize hfr : finR lv bm ov (n - k) tries = fr at *
  generalize hfr2 : finR lv bm ov (n - k) (tries + 1) = fr2 at *
  have HFR2 := Lib.hid hfr2
  clear hfr hfr2 HFR
  generalize hd : 2 ^ k - 1 = d at *
  generalize hzz : zer ⟨#[]⟩ 5 = zs at *
  generalize hL : n - k = L at *
  go_enter Tryz.func14, Tryz.ntmps14
  go_upto_region 1 with (first
    | ((with_reducible show wpList _ _ _ ({ dst := _, op := Op.box 85 _, type := _, pos := _, after := _, guard := _ } :: _) _ _); refine wpList_box_has h rfl 85 _ rfl ?_; clear h; intro b4 w h hn4; try simp only [Act.put, List.setIfInBounds_toArray, List.set_cons_zero, List.set_cons_succ]))
  replace hn4 : M b4 = none := hn4
  replace h : Has σ (M.upd b4 (.cells rs 85)) w := h
  have hle1 : M.le (M.upd b4 (.cells rs 85)) := Mm.le_upd' hn4 _
  have hb4 : (M.upd b4 (.cells rs 85)) b4 = some (.cells rs 85) := (Mm.le_refl _) _ _ (Mm.upd_same _ _ _)
  replace hn4 : M b4 = none := Mm.none_of (Mm.le_refl _) hn4
  generalize (M.upd b4 (.cells rs 85)) = M1 at h hle1 hb4
  have hrow1 := hle1 _ _ hrow
  go_upto_region 2 with (first
    | (with_reducible show wpList _ _ _ ({ dst := _, op := Op.load 3 _, type := _, pos := _, after := _, guard := _ } :: _) _ _; refine wpList_load1_has h rfl 3 _ rfl rfl hrow1 r4 Tryz.underlying3 rfl ?_)
    | (with_reducible show wpList _ _ _ ({ dst := _, op := Op.store 3 _ _, type := _, pos := _, after := _, guard := _ } :: _) _ _; refine wpList_store1_has h rfl 3 _ _ rfl rfl rfl hrow1 l4 rfl (by kernel_rfl) ?_; clear h; intro w h))
  replace h : Has σ (M1.upd bf (.cells (fr.setIfInBounds 4 (.int .i64 ((tries : Int) + 1))) 49)) w := h
  rw [RN.out] at h
  have row2 := Mm.upd_same M1 bf (.cells fr2 49)
  have map2 := (Mm.upd_ne (o := .cells fr2 49) (Ne.symm hbm)).trans (hle1 _ _ HF.out.map)
  have own2 := (HF.out.own.le hle1).upd_t hrow1 (by intro cur he; cases he) (.cells fr2 49)
  have base2 := Mm.le_upd (Mm.le_trans HF.out.le hle1) hbf (.cells fr2 49)
  have nf4 : b4 ≠ bf := fun e => by subst e; rw [hb4] at hrow1; cases hrow1
  have hb42 := (Mm.upd_ne (o := .cells fr2 49) nf4).trans hb4
  clear hrow1 hb4 hle1 HF hrow RN r4 l4
  generalize M1.upd bf (.cells fr2 49) = M2 at *
  go_upto_region 4 with (first
    | (with_reducible show wpList _ _ _ ({ dst := _, op := Op.load 3 _, type := _, pos := _, after := _, guard := _ } :: _) _ _; refine wpList_load1_has h rfl 3 _ rfl rfl row2 r3 Tryz.underlying3 rfl ?_))
  go_upto_region 5 with (first
    | ((with_reducible show wpList _ _ _ ({ dst := _, op := Op.load 85 _, type := _, pos := _, after := _, guard := _ } :: _) _ _); refine wpList_agg_has h rfl 85 _ rfl rfl hb42 hr1 hrs Tryz.underlying85 rfl (by kernel_rfl) ?_; try simp only [Act.put, List.setIfInBounds_toArray, List.set_cons_zero, List.set_cons_succ])
    | (go_at_call 20; refine (TX.out _ _ h).mono ?_; clear h; rintro _ w ⟨rfl, h⟩)
    | ((refine wpList_build_has rfl 94 _ rfl #[.int .u64 d, .string zs] (by kernel_rfl) ?_; try simp only [Act.put, List.setIfInBounds_toArray, List.set_cons_zero, List.set_cons_succ]))
    | ((with_reducible show wpList _ _ _ ({ dst := some 7, op := Op.alloc 94, type := _, pos := _, after := _, guard := _ } :: _) _ _); refine wpList_alloc_has h rfl 94 rfl _ zmet ?_; clear h; intro b7 w h hn7; try simp only [Act.put, List.setIfInBounds_toArray, List.set_cons_zero, List.set_cons_succ])
    | ((with_reducible show wpList _ _ _ ({ dst := _, op := Op.store 94 _ _, type := _, pos := _, after := _, guard := _ } :: _) _ _); refine wpList_storeAll_has (cells := #[.int .u64 d, .string zs]) h rfl 94 _ _ rfl rfl rfl (Mm.upd_same _ _ _) rfl rfl rfl (by kernel_rfl) rfl ?_; clear h; intro w h))
  rw [Mm.upd_upd] at h
  have hb7 := Mm.upd_same M2 b7 (.cells #[.int .u64 (d : Int), .string zs] 94)
  have hle7 := Mm.le_upd' hn7 (.cells #[.int .u64 (d : Int), .string zs] 94)
  have row5 := hle7 _ _ row2
  have map5 := hle7 _ _ map2
  have own5 := own2.le hle7
  have base5 := Mm.le_trans base2 hle7
  have hb45 := hle7 _ _ hb42
  clear row2 map2 own2 base2 hb42 hle7 hn7 TX
  generalize M2.upd b7 (.cells #[.int .u64 (d : Int), .string zs] 94) = M5 at *
  have me : (#[.int .u64 (d : Int), .string zs] : Array Value).extract 0 (0 + 2) = #[.int .u64 (d : Int), .string zs] := rfl
  have mz : (#[.int .u64 (d : Int), .string zs] : Array Value).size = 2 := rfl
  refine wp_region_held_drew (S := Has σ (M5)) (by kernel_rfl) (h.drew) (fun hHeld => ?_)
  replace h := h.drew
  generalize w.drew = w at h hHeld ⊢
  have LK : (Instr.lookup 47 (.map (some bm)) (.agg #[.int .u64 (d : Int), .string zs]) false).run Tryz.prog w = .ok (.int .i64 0) w := run_lookup_met h map5 d zs hes
  refine wpAnyH_take (i := 0) (v := ?_) rfl (by kernel_rfl) (by kernel_rfl) (by kernel_rfl) (fun _ _ _ h => h) (Or.inl ⟨by rfl, ?_⟩) hHeld ?_
  rotate_left
  · (intro wz _; go_simp; try with_reducible rfl)
  try simp only [List.getElem_toArray, List.getElem_cons_succ, List.getElem_cons_zero, Act.put, List.setIfInBounds_toArray, List.set_cons_zero, List.set_cons_succ]
  refine wpAnyH_take (i := 1) (v := ?_) rfl (by kernel_rfl) (by kernel_rfl) (by kernel_rfl) (fun _ _ _ h => h) (Or.inl ⟨by rfl, ?_⟩) hHeld ?_
  rotate_left
  · (intro wz _; go_simp; try with_reducible rfl)
  try simp only [List.getElem_toArray, List.getElem_cons_succ, List.getElem_cons_zero, Act.put, List.setIfInBounds_toArray, List.set_cons_zero, List.set_cons_succ]
  refine wpAnyH_take (i := 2) (v := ?_) rfl (by kernel_rfl) (by kernel_rfl) (by kernel_rfl) (fun _ _ _ h => h) (Or.inl ⟨by rfl, ?_⟩) hHeld ?_
  rotate_left
  · (intro wz _; go_simp; try with_reducible rfl)
  try simp only [List.getElem_toArray, List.getElem_cons_succ, List.getElem_cons_zero, Act.put, List.setIfInBounds_toArray, List.set_cons_zero, List.set_cons_succ]
  refine wpAnyH_take (i := 3) (v := _) rfl (by kernel_rfl) (by kernel_rfl) (by kernel_rfl) (fun _ _ _ h => h) (yields_load1 rfl 47 _ rfl rfl row5 r1 Tryz.underlying47 rfl) hHeld ?_
  try simp only [List.getElem_toArray, List.getElem_cons_succ, List.getElem_cons_zero, Act.put, List.setIfInBounds_toArray, List.set_cons_zero, List.set_cons_succ]
  refine wpAnyH_take (i := 4) (v := _) rfl (by kernel_rfl) (by kernel_rfl) (by kernel_rfl) (fun _ _ _ h => h) (yields_agg rfl 94 _ rfl rfl hb7 me mz Tryz.underlying94 rfl (by kernel_rfl)) hHeld ?_
  try simp only [List.getElem_toArray, List.getElem_cons_succ, List.getElem_cons_zero, Act.put, List.setIfInBounds_toArray, List.set_cons_zero, List.set_cons_succ]
  refine wpAnyH_ready (rs := [5]) (by kernel_rfl) (by simp) ?_
  refine AllReadyH.cons rfl (fun K hK => ?_) AllReadyH.nil
  go_simp
  refine hK.out _ _ (h) (fun hHeld => ?_)
  clear hK K
  try simp only [Act.put, List.setIfInBounds_toArray, List.set_cons_zero, List.set_cons_succ]
  refine wpAnyH_take (i := 6) (v := ?_) rfl (by kernel_rfl) (by kernel_rfl) (by kernel_rfl) (fun _ _ _ h => h) (Or.inl ⟨by rfl, ?_⟩) hHeld ?_
  rotate_left
  · (intro wz _; go_simp; try with_reducible rfl)
  try simp only [List.getElem_toArray, List.getElem_cons_succ, List.getElem_cons_zero, Act.put, List.setIfInBounds_toArray, List.set_cons_zero, List.set_cons_succ]
  refine wpAnyH_done (by kernel_rfl) ?_ _
  clear LK hHeld
  go_upto_region 7 with (fail)
  refine wp_region_head (Has σ M5) 5 (by kernel_rfl) (by kernel_rfl) (fun _ _ _ _ _ h => h) h.drew ?_
  clear h
  simp only [List.take_succ_cons, List.take_zero, List.drop_succ_cons, List.drop_zero]
  repeat (first
    | go_big_quiet_skip
    | (go_big_quiet_want; first
      | (refine quiet_load_has 47 _ rfl rfl row5 r1 Tryz.underlying47 rfl ?_; simp only [Act.put, List.setIfInBounds_toArray, List.set_cons_zero, List.set_cons_succ]; go_big_quiet_on)
      | (refine quiet_agg_has 94 _ rfl rfl hb7 me mz Tryz.underlying94 rfl (by kernel_rfl) ?_; simp only [Act.put, List.setIfInBounds_toArray, List.set_cons_zero, List.set_cons_succ]; go_big_quiet_on)
      | (go_big_quiet_op; first | go_big_quiet_on | go_big_quiet_call (first | with_reducible exact fun _ => rfl))))
  refine wpQuiet_nil ?_
  try clear w
  intro w h
  obtain ⟨w', UP, h'⟩ := run_update_met h map5 (d : Int) zs 1 hes
  unfold metV at UP
  go_upto_region 8 with (fail)
  clear h
  have h := h'
  clear h' UP
  obtain ⟨w, rfl⟩ : ∃ x : World, x = w' := ⟨_, rfl⟩
  have fin6 : FinM B (M5.upd bm (mapRowM (es ++ [⟨(d : Int), zs, 1, clock⟩]) (clock + 1))) bf bm lv ov k L (tries + 1) (es ++ [⟨(d : Int), zs, 1, clock⟩]) (clock + 1) := ⟨Mm.le_upd base5 hbm0 _, (Mm.upd_ne hbm).trans (by rw [HFR2.out]; exact row5), Mm.upd_same _ _ _, own5.upd_t map5 (by intro cur he; unfold mapRowM at he; cases he) _⟩
  have n4m : b4 ≠ bm := fun e => by subst e; rw [hb45] at map5; unfold mapRowM at map5; cases map5
  have hb46 := (Mm.upd_ne (o := mapRowM (es ++ [⟨(d : Int), zs, 1, clock⟩]) (clock + 1)) n4m).trans hb45
  have row6 := (Mm.upd_ne (o := mapRowM (es ++ [⟨(d : Int), zs, 1, clock⟩]) (clock + 1)) hbm).trans row5
  clear hb45 row5 map5 own5 base5 hb7 me mz hes
  generalize M5.upd bm (mapRowM (es ++ [⟨(d : Int), zs, 1, clock⟩]) (clock + 1)) = M6 at *
  have NX : Hid (∀ w, Has σ M6 w → Calls Tryz.prog 21 #[lv, ov] w fun r w' => NxPost σ M6 l (rangeI k) r w') := fun w h => next_eq h lv ov l (rangeI k) n k hl (rangeI_length k) (hrd.le fin6.le) fin6.own.rd (by omega) (by omega)
  have HX : Hid (∀ r w', NxPost σ M6 l (rangeI k) r w' → ∃ (g c : Nat) (cur : Array Value) (M9 : Mm), r = .returned (.slice (some ⟨g, 0, none⟩) 1 c) ∧ Has σ M9 w' ∧ M6.le M9 ∧ M9 g = some (.cells cur 3) ∧ cur[0]? = some (.int .i64 k)) := fun r w' hx => by
    unfold NxPost at hx
    rw [HN] at hx
    obtain ⟨v, rfl, M9, h9, hl9, h2, ⟨_, h0⟩ | ⟨g, cap, cur, rfl, hg, hh, hc, hm, hs, ht⟩⟩ := hx
    · cases h0
    · refine ⟨g, cap, cur, M9, rfl, h9, hl9, hh, ?_⟩
      have := congrArg (fun l : List Value => l[0]?) ht
      simpa [ints1, List.getElem?_take] using this
  refine wp_region_held_drew (S := Has σ (M6)) (by kernel_rfl) (h.drew) (fun hHeld => ?_)
  replace h := h.drew
  generalize w.drew = w at h hHeld ⊢
  refine wpAnyH_take (i := 0) (v := ?_) rfl (by kernel_rfl) (by kernel_rfl) (by kernel_rfl) (fun _ _ _ h => h) (Or.inl ⟨by rfl, ?_⟩) hHeld ?_
  rotate_left
  · (intro wz _; go_simp; try with_reducible rfl)
  try simp only [List.getElem_toArray, List.getElem_cons_succ, List.getElem_cons_zero, Act.put, List.setIfInBounds_toArray, List.set_cons_zero, List.set_cons_succ]
  refine wpAnyH_take (i := 1) (v := ?_) rfl (by kernel_rfl) (by kernel_rfl) (by kernel_rfl) (fun _ _ _ h => h) (Or.inl ⟨by rfl, ?_⟩) hHeld ?_
  rotate_left
  · (intro wz _; go_simp; try with_reducible rfl)
  try simp only [List.getElem_toArray, List.getElem_cons_succ, List.getElem_cons_zero, Act.put, List.setIfInBounds_toArray, List.set_cons_zero, List.set_cons_succ]
  refine wpAnyH_take (i := 2) (v := ?_) rfl (by kernel_rfl) (by kernel_rfl) (by kernel_rfl) (fun _ _ _ h => h) (Or.inl ⟨by rfl, ?_⟩) hHeld ?_
  rotate_left
  · (intro wz _; go_simp; try with_reducible rfl)
  try simp only [List.getElem_toArray, List.getElem_cons_succ, List.getElem_cons_zero, Act.put, List.setIfInBounds_toArray, List.set_cons_zero, List.set_cons_succ]
  refine wpAnyH_take (i := 3) (v := _) rfl (by kernel_rfl) (by kernel_rfl) (by kernel_rfl) (fun _ _ _ h => h) (yields_load1 rfl 22 _ rfl rfl row6 r0 Tryz.underlying22 rfl) hHeld ?_
  try simp only [List.getElem_toArray, List.getElem_cons_succ, List.getElem_cons_zero, Act.put, List.setIfInBounds_toArray, List.set_cons_zero, List.set_cons_succ]
  refine wpAnyH_take (i := 4) (v := ?_) rfl (by kernel_rfl) (by kernel_rfl) (by kernel_rfl) (fun _ _ _ h => h) (Or.inl ⟨by rfl, ?_⟩) hHeld ?_
  rotate_left
  · (intro wz _; go_simp; try with_reducible rfl)
  try simp only [List.getElem_toArray, List.getElem_cons_succ, List.getElem_cons_zero, Act.put, List.setIfInBounds_toArray, List.set_cons_zero, List.set_cons_succ]
  refine wpAnyH_take (i := 5) (v := ?_) rfl (by kernel_rfl) (by kernel_rfl) (by kernel_rfl) (fun _ _ _ h => h) (Or.inl ⟨by rfl, ?_⟩) hHeld ?_
  rotate_left
  · (intro wz _; go_simp; try with_reducible rfl)
  try simp only [List.getElem_toArray, List.getElem_cons_succ, List.getElem_cons_zero, Act.put, List.setIfInBounds_toArray, List.set_cons_zero, List.set_cons_succ]
  refine wpAnyH_take (i := 6) (v := ?_) rfl (by kernel_rfl) (by kernel_rfl) (by kernel_rfl) (fun _ _ _ h => h) (Or.inl ⟨by rfl, ?_⟩) hHeld ?_
  rotate_left
  · (intro wz _; go_simp; try with_reducible rfl)
  try simp only [List.getElem_toArray, List.getElem_cons_succ, List.getElem_cons_zero, Act.put, List.setIfInBounds_toArray, List.set_cons_zero, List.set_cons_succ]
  refine wpAnyH_take (i := 7) (v := _) rfl (by kernel_rfl) (by kernel_rfl) (by kernel_rfl) (fun _ _ _ h => h) (yields_load1 rfl 33 _ rfl rfl row6 r2 Tryz.underlying33 rfl) hHeld ?_
  try simp only [List.getElem_toArray, List.getElem_cons_succ, List.getElem_cons_zero, Act.put, List.setIfInBounds_toArray, List.set_cons_zero, List.set_cons_succ]
  refine wpAnyH_take (i := 10) (v := ?_) rfl (by kernel_rfl) (by kernel_rfl) (by kernel_rfl) (fun _ _ _ h => h) (Or.inl ⟨by rfl, ?_⟩) hHeld ?_
  rotate_left
  · (intro wz _; go_simp; try with_reducible rfl)
  try simp only [List.getElem_toArray, List.getElem_cons_succ, List.getElem_cons_zero, Act.put, List.setIfInBounds_toArray, List.set_cons_zero, List.set_cons_succ]
  refine wpAnyH_ready (rs := [8]) (by kernel_rfl) (by simp) ?_
  refine AllReadyH.cons rfl (fun K hK => ?_) AllReadyH.nil
  (go_simp; go_wp2_with (go_at_call 21; refine (NX.out _ h).mono ?_; clear h; try clear hHeld; intro rr w hx; obtain ⟨g, c9, cur, M9, rfl, h, hle9, hg9, hc9⟩ := HX.out _ _ hx))
  refine hK.out _ _ (h.le hle9) (fun hHeld => ?_)
  clear hK K
  try simp only [Act.put, List.setIfInBounds_toArray, List.set_cons_zero, List.set_cons_succ]
  refine wpAnyH_take (i := 9) (v := ?_) rfl (by kernel_rfl) (by kernel_rfl) (by kernel_rfl) (fun _ _ _ h => h) (Or.inl ⟨by rfl, ?_⟩) hHeld ?_
  rotate_left
  · (intro wz _; go_simp; try with_reducible rfl)
  try simp only [List.getElem_toArray, List.getElem_cons_succ, List.getElem_cons_zero, Act.put, List.setIfInBounds_toArray, List.set_cons_zero, List.set_cons_succ]
  refine wpAnyH_done (by kernel_rfl) ?_ _
  have hb49 := hle9 _ _ hb46
  have OX : Hid (∀ w, Has σ M9 w → Calls Tryz.prog 22 #[.pointer (some ⟨bf, 0, none⟩), .agg rs, .int .u64 (d : Nat), .int .i64 k] w fun r w' => FoundN σ B bf bm lv n r w') := fun w h => ON.out M9 (clock + 1) w h ⟨Mm.le_trans fin6.le hle9, hle9 _ _ fin6.row, hle9 _ _ fin6.map, fin6.own.le hle9⟩
  clear ON NX HX hHeld fin6 hb46 row6 hle9 hx
  go_wp2
  go_loopw [48] (fun i wr => i = .int .i64 0 ∧ Has σ M9 wr) (fun _ _ => 0)
  case atStart => exact ⟨rfl, h⟩
  case round =>
    clear h w
    obtain ⟨w, rfl⟩ : ∃ x : World, x = wr := ⟨_, rfl⟩
    obtain ⟨rfl, h⟩ := hrel
    go_wp2_with (first
      | (with_reducible show wpList _ _ _ ({ dst := _, op := Op.load 3 _, type := _, pos := _, after := _, guard := _ } :: _) _ _; refine wpList_load1_has h rfl 3 _ rfl rfl hg9 hc9 Tryz.underlying3 rfl ?_)
      | ((with_reducible show wpList _ _ _ ({ dst := _, op := Op.load 85 _, type := _, pos := _, after := _, guard := _ } :: _) _ _); refine wpList_agg_has h rfl 85 _ rfl rfl hb49 hr1 hrs Tryz.underlying85 rfl (by kernel_rfl) ?_; try simp only [Act.put, List.setIfInBounds_toArray, List.set_cons_zero, List.set_cons_succ])
      | (go_at_call 22; refine (OX.out _ h).mono ?_; clear h; rintro _ w ⟨rfl, hfound⟩))
    go_ret
    exact ⟨rfl, hfound⟩
end
section
open Go.RowKit
set_option linter.unusedVariables false
set_option linter.unusedSimpArgs false
set_option linter.unnecessarySimpa false
def opG (i : Nat) : OpS := ⟨0, 1, 0, 0, 0, 0, 0, 0, 6, 0, 0, 0, 0, 0, 2 * (i : Int), 2 * (i : Int) + 1⟩
def GetsN (l : List OpS) : Prop := ∀ (i : Nat) (y : OpS), l[i]? = some y → y = opG i
theorem rangeI_get (k j : Nat) (x : Int) (h : (rangeI k)[j]? = some x) : j < k ∧ x = (j : Int) := by
  unfold rangeI at h
  rw [List.getElem?_map] at h
  by_cases hj : j < k
  · rw [List.getElem?_range hj] at h
    exact ⟨hj, by simpa using h.symm⟩
  · rw [List.getElem?_eq_none (by simpa using Nat.not_lt.1 hj)] at h
    cases h
theorem posO_range_lt (k i : Nat) (h : i < k) : posO (i : Int) (rangeI k) = i + 1 :=
  posO_hit _ _ i (by unfold rangeI; rw [List.getElem?_map, List.getElem?_range h]; rfl) fun j x hj hx e => by
    have := (rangeI_get k j x hx).2
    omega
theorem posO_range_ge (k i : Nat) (h : k ≤ i) : posO (i : Int) (rangeI k) = 0 :=
  posO_none _ _ fun j x hx e => by
    have := rangeI_get k j x hx
    omega
theorem free_gets {l : List OpS} (hG : GetsN l) {k i : Nat} (hk : k < l.length) (hi : i < l.length) : FreeO l (rangeI k) i = decide (i = k) := by
  have gi : l[i]? = some (opG i) := by
    have := List.getElem?_eq_getElem hi
    rw [this, hG i _ this]
  have gk : l[k]? = some (opG k) := by
    have := List.getElem?_eq_getElem hk
    rw [this, hG k _ this]
  unfold FreeO
  rcases Nat.lt_trichotomy i k with h | h | h
  · rw [posO_range_lt k i h]
    simp
    omega
  · subst h
    rw [posO_range_ge i i (Nat.le_refl _)]
    simp only [decide_true, Bool.true_and, List.all_eq_true, List.mem_range]
    intro j hj
    have gj : l[j]? = some (opG j) := by
      have := List.getElem?_eq_getElem hj
      rw [this, hG j _ this]
    rw [gj, gi]
    by_cases hji : j < i
    · rw [posO_range_lt i j hji]
      simp
    · have : (opG j).ahead (opG i) = false := by
        unfold OpS.ahead opG
        simp
        omega
      simp [this]
  · rw [posO_range_ge k i (by omega)]
    have e : decide (i = k) = false := decide_eq_false (by omega)
    rw [e, show decide ((0 : Nat) = 0) = true from rfl, Bool.true_and]
    rw [List.all_eq_false]
    refine ⟨k, by simpa using hk, ?_⟩
    rw [gk, gi, posO_range_ge k k (Nat.le_refl _)]
    have : (opG k).ahead (opG i) = true := by
      unfold OpS.ahead opG
      simp
      omega
    have hne : k ≠ i := by omega
    simp [this, hne]
theorem filter_one : ∀ (n k : Nat), k < n → (List.range n).filter (fun i => decide (i = k)) = [k] := fun n k h => by
  induction n with
  | zero => omega
  | succ n ih =>
    rw [List.range_succ, List.filter_append]
    by_cases hk : k < n
    · rw [ih hk]
      have : decide (n = k) = false := decide_eq_false (by omega)
      simp [this]
    · obtain rfl : k = n := by omega
      have : (List.range k).filter (fun i => decide (i = k)) = [] := by
        rw [List.filter_eq_nil_iff]
        intro a ha
        have := List.mem_range.1 ha
        simp
        omega
      rw [this]
      simp
theorem next_gets {l : List OpS} (hG : GetsN l) {k : Nat} (hk : k < l.length) : NextO l (rangeI k) = [(k : Int)] := by
  unfold NextO
  have e : (List.range l.length).filter (FreeO l (rangeI k)) = (List.range l.length).filter (fun i => decide (i = k)) := List.filter_congr fun i hi => free_gets hG hk (List.mem_range.1 hi)
  rw [e, filter_one _ _ hk]
  rfl
theorem one4_nil : One4 nilS nilS nilS nilS := by unfold One4; exact ⟨rfl, rfl, rfl, rfl⟩
theorem pow_ne (j k : Nat) (h : j < k) : ((2 ^ j - 1 : Nat) : Int) ≠ ((2 ^ k - 1 : Nat) : Int) := by
  have h1 : 2 ^ j < 2 ^ k := Nat.pow_lt_pow_right (by decide) h
  have h2 : 1 ≤ 2 ^ j := Nat.one_le_two_pow
  omega
theorem from_gets {σ : World} {B : Mm} {bf bm n c : Nat} {A : Option Addr} {l : List OpS} (hbf : B bf = none) (hbm0 : B bm = none) (hbm : bf ≠ bm) (hl : l.length = n) (hn : n ≤ 60) (hrd : Rd B 16 (.slice A n c) n (l.flatMap encO)) (hG : GetsN l) : ∀ (g k : Nat), k + g = n → ∀ (M : Mm) (ov : Value) (tries : Nat) (es : List EntM) (clock : Nat) (w : World), Has σ M w → FinM B M bf bm (.slice A n c) ov k (n - k) tries es clock → tries + g ≤ 1000 → (∀ x ∈ es, ∃ j, j < k ∧ x.d = ((2 ^ j - 1 : Nat) : Int)) →
    Calls Tryz.prog 14 #[.pointer (some ⟨bf, 0, none⟩), .agg (stR nilS nilS nilS nilS), .int .u64 (2 ^ k - 1 : Nat)] w fun r w' => FoundN σ B bf bm (.slice A n c) n r w'
  | 0, k, hk, M, ov, tries, es, clock, w, h, hf, ht, hes => by
    obtain rfl : k = n := by omega
    rw [Nat.sub_self] at hf
    exact from_done h hf hbf hbm _ _ (by omega)
  | g + 1, k, hk, M, ov, tries, es, clock, w, h, hf, ht, hes => by
    have hkn : k < n := by omega
    have hy : l[k]? = some (opG k) := by
      have := List.getElem?_eq_getElem (l := l) (i := k) (by omega)
      rw [this, hG k _ this]
    have hst : StRow (stR nilS nilS nilS nilS) := ⟨stR_size _ _ _ _, stR_one one4_nil⟩
    refine from_next h hf hbf hbm0 hbm hl hkn hn (by omega) hrd (next_gets hG (by omega)) (fun x hx e => ?_) (fun M' clock' w h hf => ?_)
    · obtain ⟨j, hj, hd⟩ := hes x hx
      exact pow_ne j k hj (hd.symm.trans e)
    · refine one_yes h hf hbf hbm0 hbm hl hkn hn hrd (opG k) hy (by unfold opG; simp; omega) _ hst (· = stR nilS nilS nilS nilS) (fun M2 w h2 h => ?_) (fun rs' M2 ov' w hq hst' h hf => ?_)
      · refine step_told h _ true _ (opG k) (by unfold opG; simp; omega) hst fun M3 w h3 h => ?_
        exact (told_get h nilS nilS nilS 0 0 0 0 0 one4_nil).mono fun r w' ⟨e, h'⟩ => ⟨_, M3, e, hst, rfl, h', Mm.le_refl _⟩
      · subst hq
        refine from_gets hbf hbm0 hbm hl hn hrd hG g (k + 1) (by omega) _ _ _ _ _ w h hf (by omega) fun x hx => ?_
        rcases List.mem_append.1 hx with hx | hx
        · obtain ⟨j, hj, hd⟩ := hes x hx
          exact ⟨j, by omega, hd⟩
        · rw [List.mem_singleton] at hx
          subst hx
          exact ⟨k, by omega, rfl⟩
end
section
open Go.RowKit
set_option linter.unusedVariables false
set_option linter.unusedSimpArgs false
set_option linter.unnecessarySimpa false
set_option maxHeartbeats 1000000 in
theorem newO_eq {σ w : World} {M : Mm} (h : Has σ M w) : Calls Tryz.prog 15 #[.agg oneR, .int .i64 0] w fun r w' => r = .returned (.agg (stR nilS nilS nilS nilS)) ∧ Has σ M w' := by
  have oz := oneR_size
  have ox : oneR.extract 0 (0 + 14) = oneR := rfl
  go_enter Tryz.func15, Tryz.ntmps15
  go_upto_region 1 with (first
    | ((with_reducible show wpList _ _ _ ({ dst := _, op := Op.box 38 _, type := _, pos := _, after := _, guard := _ } :: _) _ _); refine wpList_box_has h rfl 38 _ rfl ?_; clear h; intro b2 w h hn2; try simp only [Act.put, List.setIfInBounds_toArray, List.set_cons_zero, List.set_cons_succ])
    | ((with_reducible show wpList _ _ _ ({ dst := some 4, op := Op.alloc 85, type := _, pos := _, after := _, guard := _ } :: _) _ _); refine wpList_alloc_has h rfl 85 rfl _ zst ?_; clear h; intro b4 w h hn4; try simp only [Act.put, List.setIfInBounds_toArray, List.set_cons_zero, List.set_cons_succ]))
  replace hn2 : M b2 = none := hn2
  replace hn4 : (M.upd b2 (.cells oneR 38)) b4 = none := hn4
  replace h : Has σ ((M.upd b2 (.cells oneR 38)).upd b4 (.cells st0 85)) w := h
  have hle2 : M.le ((M.upd b2 (.cells oneR 38)).upd b4 (.cells st0 85)) := Mm.le_trans (Mm.le_upd' hn2 _) (Mm.le_upd' hn4 _)
  have hb2 : ((M.upd b2 (.cells oneR 38)).upd b4 (.cells st0 85)) b2 = some (.cells oneR 38) := (Mm.le_upd' hn4 _) _ _ (Mm.upd_same _ _ _)
  have hb4 : ((M.upd b2 (.cells oneR 38)).upd b4 (.cells st0 85)) b4 = some (.cells st0 85) := (Mm.le_refl _) _ _ (Mm.upd_same _ _ _)
  have n_b2_b4 : b2 ≠ b4 := Mm.ne_of hn4 ((Mm.le_refl _) _ _ (Mm.upd_same _ _ _))
  replace hn4 : M b4 = none := Mm.none_of (Mm.le_upd' hn2 _) hn4
  replace hn2 : M b2 = none := Mm.none_of (Mm.le_refl _) hn2
  generalize ((M.upd b2 (.cells oneR 38)).upd b4 (.cells st0 85)) = M2 at h hle2 hb2 hb4
  go_wp2_with (first
    | ((with_reducible show wpList _ _ _ ({ dst := _, op := Op.load 38 _, type := _, pos := _, after := _, guard := _ } :: _) _ _); refine wpList_agg_has h rfl 38 _ rfl rfl hb2 ox oz Tryz.underlying38 rfl (by kernel_rfl) ?_; try simp only [Act.put, List.setIfInBounds_toArray, List.set_cons_zero, List.set_cons_succ])
    | ((refine wpList_build_has rfl 85 _ rfl (stR nilS nilS nilS nilS) (by kernel_rfl) ?_; try simp only [Act.put, List.setIfInBounds_toArray, List.set_cons_zero, List.set_cons_succ]))
    | ((refine wpList_storeAll_has (cells := stR nilS nilS nilS nilS) h rfl 85 _ _ rfl rfl rfl hb4 rfl st0_size (stR_size _ _ _ _) (by kernel_rfl) (stR_one ⟨rfl, rfl, rfl, rfl⟩) ?_; clear h; intro w h)))
  exact bodyPost_ret (results_c1 rfl (CellRes.of h (Mm.upd_same _ _ _) rfl Tryz.underlying85 rfl (by rw [stR_size]; kernel_rfl))) rfl ⟨rfl, h.le (Mm.le_upd hle2 hn4 _)⟩
/-- What a search tells. -/
def FoundG (σ : World) (B : Mm) (bf bm : Nat) (lv : Value) (b : Bool) (k left : Nat) (r : Ending) (w' : World) : Prop :=
  r = .returned (.bool b) ∧ ∃ (M' : Mm) (ov : Value) (tries : Nat) (es : List EntM) (clock : Nat), Has σ M' w' ∧ FinM B M' bf bm lv ov k left tries es clock
/-- What look tells. -/
def LookG (σ : World) (B : Mm) (b : Bool) (k left : Nat) (r : Ending) (w' : World) : Prop :=
  ∃ (bf bm : Nat) (lv ov : Value) (M' : Mm) (tries : Nat) (es : List EntM) (clock : Nat), r = .returned (.tuple #[.pointer (some ⟨bf, 0, none⟩), .bool b]) ∧ Has σ M' w' ∧ FinM B M' bf bm lv ov k left tries es clock
/-- What look tells where the search finds all. -/
def LookN (σ : World) (B : Mm) (n : Nat) (r : Ending) (w' : World) : Prop :=
  ∃ (bf bm : Nat) (lv ov : Value) (M' : Mm) (tries : Nat) (es : List EntM) (clock : Nat), r = .returned (.tuple #[.pointer (some ⟨bf, 0, none⟩), .bool true]) ∧ Has σ M' w' ∧ FinM B M' bf bm lv ov n 0 tries es clock
set_option maxHeartbeats 2000000 in
set_option maxRecDepth 20000 in
theorem look_by {σ w : World} {B : Mm} {n c : Nat} {A : Option Addr} {l : List OpS} (h : Has σ B w) (hl : l.length = n) (hn : n ≤ 40) (hrd : Rd B 16 (.slice A n c) n (l.flatMap encO)) (hG : ∀ (i : Nat) (y : OpS), l[i]? = some y → 0 ≤ y.tt) (b : Bool) (kk left : Nat)
    (FG : ∀ (M : Mm) (bf bm : Nat) (w : World), B bf = none → B bm = none → bf ≠ bm → Has σ M w → FinM B M bf bm (.slice A n c) nilS 0 n 0 [] 0 → Calls Tryz.prog 14 #[.pointer (some ⟨bf, 0, none⟩), .agg (stR nilS nilS nilS nilS), .int .u64 0] w fun r w' => FoundG σ B bf bm (.slice A n c) b kk left r w') :
    Calls Tryz.prog 9 #[.agg oneR, .int .i64 0, .slice A n c] w fun r w' => LookG σ B b kk left r w' := by
  have FG := Lib.hid FG
  have NW := Lib.hid (fun (M : Mm) (w : World) (h : Has σ M w) => newO_eq h)
  have oz := oneR_size
  have ox : oneR.extract 0 (0 + 14) = oneR := rfl
  have HRD := Lib.hid hrd
  have hgt : decide (40 < (n : Int)) = false := decide_eq_false (by omega)
  clear hrd
  generalize oneR = oc at *
  have MM : ∀ W, (Instr.makeMap 47 none).run Tryz.prog W = .ok (.map (some W.heap.size)) (W.alloc (.map #[] 0)) := fun W => run_makeMap 47 W
  go_enter Tryz.func9, Tryz.ntmps9
  go_upto_region 1 with (first
    | ((with_reducible show wpList _ _ _ ({ dst := _, op := Op.box 38 _, type := _, pos := _, after := _, guard := _ } :: _) _ _); refine wpList_box_has h rfl 38 _ rfl ?_; clear h; intro b3 w h hn3; try simp only [Act.put, List.setIfInBounds_toArray, List.set_cons_zero, List.set_cons_succ]))
  replace hn3 : B b3 = none := hn3
  replace h : Has σ (B.upd b3 (.cells oc 38)) w := h
  have hle1 : B.le (B.upd b3 (.cells oc 38)) := Mm.le_upd' hn3 _
  have hb3 : (B.upd b3 (.cells oc 38)) b3 = some (.cells oc 38) := (Mm.le_refl _) _ _ (Mm.upd_same _ _ _)
  replace hn3 : B b3 = none := Mm.none_of (Mm.le_refl _) hn3
  generalize (B.upd b3 (.cells oc 38)) = B1 at h hle1 hb3
  go_upto_region 2 with (first
    | ((with_reducible show wpList _ _ _ ({ dst := _, op := Op.build 49 _, type := _, pos := _, after := _, guard := _ } :: _) _ _); obtain ⟨B2, hbx, hle2, hbm, hnm⟩ := h.box (.map #[] 0); generalize w.alloc _ = wx at hbx ⊢; generalize w.heap.size = bm at hbm hnm ⊢; clear h; have h := hbx; clear hbx; try clear w; obtain ⟨w, rfl⟩ : ∃ x : World, x = wx := ⟨_, rfl⟩; refine wpList_build_has rfl 49 _ rfl (finR (.slice A n c) bm nilS 0 0) (by kernel_rfl) ?_; try simp only [Act.put, List.setIfInBounds_toArray, List.set_cons_zero, List.set_cons_succ])
    | ((with_reducible show wpList _ _ _ ({ dst := _, op := Op.box 49 _, type := _, pos := _, after := _, guard := _ } :: _) _ _); refine wpList_box_has h rfl 49 _ rfl ?_; clear h; intro bf w h hnf; try simp only [Act.put, List.setIfInBounds_toArray, List.set_cons_zero, List.set_cons_succ]))
  replace h : Has σ (B2.upd bf (.cells (finR (.slice A n c) bm nilS 0 0) 49)) w := h
  have hne : bf ≠ bm := fun e => by subst e; rw [hbm] at hnf; cases hnf
  have hBf : B bf = none := Mm.none_of (Mm.le_trans hle1 hle2) hnf
  have hBm : B bm = none := Mm.none_of hle1 hnm
  have n3m : b3 ≠ bm := fun e => by subst e; rw [hb3] at hnm; cases hnm
  have n3f : b3 ≠ bf := fun e => by subst e; rw [hle2 _ _ hb3] at hnf; cases hnf
  have fin0 : FinM B (B2.upd bf (.cells (finR (.slice A n c) bm nilS 0 0) 49)) bf bm (.slice A n c) nilS 0 0 0 [] 0 := ⟨Mm.le_trans (Mm.le_trans hle1 hle2) (Mm.le_upd' hnf _), Mm.upd_same _ _ _, (Mm.upd_ne (Ne.symm hne)).trans hbm, Own.nil _ _ _ _⟩
  have conf0 := (Mm.upd_ne (o := .cells (finR (.slice A n c) bm nilS 0 0) 49) n3f).trans (hle2 _ _ hb3)
  clear hle1 hle2 hbm hnm hnf hb3
  generalize B2.upd bf (.cells (finR (.slice A n c) bm nilS 0 0) 49) = M0 at *
  go_wp2
  go_loopw [21] (fun i wr => ∃ (j : Nat) (M' : Mm), j ≤ n ∧ i = .int .i64 j ∧ Has σ M' wr ∧ FinM B M' bf bm (.slice A n c) nilS 0 j 0 [] 0 ∧ M' b3 = some (.cells oc 38)) (fun i _ => n - (intOf i).toNat)
  case atStart => exact ⟨0, M0, Nat.zero_le _, rfl, h, fin0, conf0⟩
  case round =>
    clear fin0 conf0 h w
    obtain ⟨w, rfl⟩ : ∃ x : World, x = wr := ⟨_, rfl⟩
    obtain ⟨k, M, hk, rfl, h, hf, hb3⟩ := hrel
    by_cases hlt : k < n
    · have hlt' : (k : Int) < (n : Int) := by omega
      obtain ⟨yk, hy⟩ : ∃ yk, l[k]? = some yk := ⟨_, List.getElem?_eq_getElem (by omega)⟩
      have htt := hG k yk hy
      obtain ⟨bl, ol, cl, csl, tl, fl, e1, hMl, hxl⟩ := HRD.out.elem encO_len hlt hy
      cases e1
      have hMl1 := hf.le _ _ hMl
      have g16 : csl.extract (ol + k * 16) (ol + k * 16 + 16) = yk.row := extract_of (n := 16) hxl rfl
      have y15 : yk.row[15]? = some (.int .i64 yk.tt) := rfl
      have hge : decide (0 ≤ yk.tt) = true := decide_eq_true htt
      clear hMl hxl hy htt
      generalize yk.tt = tt at *
      have r3 : (finR (.slice (some ⟨bl, ol, none⟩) n c) bm nilS k 0)[3]? = some (.int .i64 k) := rfl
      have l3 : 3 < (finR (.slice (some ⟨bl, ol, none⟩) n c) bm nilS k 0).size := by show 3 < 5; omega
      have RN : Hid ((finR (.slice (some ⟨bl, ol, none⟩) n c) bm nilS k 0).setIfInBounds 3 (.int .i64 ((k : Int) + 1)) = finR (.slice (some ⟨bl, ol, none⟩) n c) bm nilS (k + 1) 0) := rfl
      have hrow := hf.row
      have HF := Lib.hid hf
      clear hf
      generalize finR (.slice (some ⟨bl, ol, none⟩) n c) bm nilS k 0 = fr at *
      generalize hfr2 : finR (.slice (some ⟨bl, ol, none⟩) n c) bm nilS (k + 1) 0 = fr2 at *
      have HFR2 := Lib.hid hfr2
      clear hfr2
      have yz : yk.row.size = 16 := rfl
      have y1 : yk.row.toList.all (·.oneCell') = true := rfl
      have yz0 : (OpS.row ⟨0, 0, 0, 0, 0, 0, 0, 0, 0, 0, 0, 0, 0, 0, 0, 0⟩).size = 16 := rfl
      have zoper := zoper
      generalize (OpS.row ⟨0, 0, 0, 0, 0, 0, 0, 0, 0, 0, 0, 0, 0, 0, 0, 0⟩) = zr at *
      generalize yk.row = yr at *
      go_upto_region 7 with (first
        | ((with_reducible show wpList _ _ _ ({ dst := _, op := Op.load 32 _, type := _, pos := _, after := _, guard := _ } :: _) _ _); refine wpList_agg_has h rfl 32 _ rfl rfl hMl1 g16 yz Tryz.underlying32 rfl (by kernel_rfl) ?_; try simp only [Act.put, List.setIfInBounds_toArray, List.set_cons_zero, List.set_cons_succ])
        | ((with_reducible show wpList _ _ _ ({ dst := _, op := Op.alloc 32, type := _, pos := _, after := _, guard := _ } :: _) _ _); refine wpList_alloc_has h rfl 32 rfl _ zoper ?_; clear h; intro b10 w h hn10; try simp only [Act.put, List.setIfInBounds_toArray, List.set_cons_zero, List.set_cons_succ])
        | ((with_reducible show wpList _ _ _ ({ dst := _, op := Op.store 32 _ _, type := _, pos := _, after := _, guard := _ } :: _) _ _); refine wpList_storeAll_has (cells := yr) h rfl 32 _ _ rfl rfl rfl (Mm.upd_same _ _ _) rfl (yz0.trans yz.symm) rfl (by rw [yz]; kernel_rfl) y1 ?_; clear h; intro w h))
      replace h : Has σ (M.upd b10 (.cells yr 32)) w := by rw [Mm.upd_upd] at h; exact h
      have hb10 := Mm.upd_same M b10 (.cells yr 32)
      have hle10 := Mm.le_upd' hn10 (.cells yr 32)
      have row1 := hle10 _ _ hrow
      have hb31 := hle10 _ _ hb3
      clear hMl1 g16 hrow hb3 hn10
      generalize M.upd b10 (.cells yr 32) = M1 at *
      go_upto_region 8 with (first
        | (with_reducible show wpList _ _ _ ({ dst := _, op := Op.load 3 _, type := _, pos := _, after := _, guard := _ } :: _) _ _; refine wpList_load1_has h rfl 3 _ rfl rfl hb10 y15 Tryz.underlying3 rfl ?_))
      go_wp2_with (first
        | (with_reducible show wpList _ _ _ ({ dst := _, op := Op.load 3 _, type := _, pos := _, after := _, guard := _ } :: _) _ _; refine wpList_load1_has h rfl 3 _ rfl rfl row1 r3 Tryz.underlying3 rfl ?_)
        | (with_reducible show wpList _ _ _ ({ dst := _, op := Op.store 3 _ _, type := _, pos := _, after := _, guard := _ } :: _) _ _; refine wpList_store1_has h rfl 3 _ _ rfl rfl rfl row1 l3 rfl (by kernel_rfl) ?_; clear h; intro w h))
      replace h : Has σ (M1.upd bf (.cells (fr.setIfInBounds 3 (.int .i64 ((k : Int) + 1))) 49)) w := h
      rw [RN.out] at h
      have HREL : Hid (∃ (j : Nat) (M' : Mm), j ≤ n ∧ Value.int .i64 ((k : Int) + 1) = .int .i64 j ∧ Has σ M' w ∧ FinM B M' bf bm (.slice (some ⟨bl, ol, none⟩) n c) nilS 0 j 0 [] 0 ∧ M' b3 = some (.cells oc 38)) := ⟨k + 1, _, hlt, by simp, h, ⟨Mm.le_upd (Mm.le_trans HF.out.le hle10) hBf _, by rw [HFR2.out]; exact Mm.upd_same _ _ _, (Mm.upd_ne (Ne.symm hne)).trans (hle10 _ _ HF.out.map), Own.nil _ _ _ _⟩, (Mm.upd_ne n3f).trans hb31⟩
      clear h HF hle10 row1 hb31 hb10
      go_roundw
      case rel => exact HREL.out
      case measure => simp [intOf]; omega
    · obtain rfl : k = n := by omega
      have FG := Lib.hid (fun (w : World) (h : Has σ M w) => FG.out M bf bm w hBf hBm hne h hf)
      clear hf
      generalize stR nilS nilS nilS nilS = rs at *
      go_wp2_with (first
        | ((with_reducible show wpList _ _ _ ({ dst := _, op := Op.load 38 _, type := _, pos := _, after := _, guard := _ } :: _) _ _); refine wpList_agg_has h rfl 38 _ rfl rfl hb3 ox oz Tryz.underlying38 rfl (by kernel_rfl) ?_; try simp only [Act.put, List.setIfInBounds_toArray, List.set_cons_zero, List.set_cons_succ])
        | (go_at_call 15; refine (NW.out _ _ h).mono ?_; clear h; rintro _ w ⟨rfl, h⟩)
        | (go_at_call 14; refine (FG.out _ h).mono ?_; clear h; rintro _ w ⟨rfl, hM⟩))
      go_ret2
      obtain ⟨M', ov, tries, es, clock, h', hf'⟩ := hM
      exact ⟨bf, bm, _, ov, M', tries, es, clock, rfl, h', hf'⟩
theorem look_gets {σ w : World} {B : Mm} {n c : Nat} {A : Option Addr} {l : List OpS} (h : Has σ B w) (hl : l.length = n) (hn : n ≤ 40) (hrd : Rd B 16 (.slice A n c) n (l.flatMap encO)) (hG : GetsN l) :
    Calls Tryz.prog 9 #[.agg oneR, .int .i64 0, .slice A n c] w fun r w' => LookN σ B n r w' :=
  look_by h hl hn hrd (fun i y hy => by rw [hG i y hy]; unfold opG; simp; omega) true n 0 fun M bf bm w hBf hBm hne h hf => by
    have h0 := from_gets hBf hBm hne hl (by omega) hrd hG n 0 (by omega) M nilS 0 [] 0 w h hf (by omega) (fun x hx => by cases hx)
    have h1 := by simpa using h0
    exact h1
end
section
open Go.RowKit
set_option linter.unusedVariables false
set_option linter.unusedSimpArgs false
set_option linter.unnecessarySimpa false
def FindN (σ : World) (B : Mm) (n : Nat) (r : Ending) (w' : World) : Prop :=
  ∃ (A : Option Addr) (c : Nat) (M' : Mm), r = .returned (.tuple #[.slice A n c, .bool true]) ∧ Has σ M' w' ∧ B.le M' ∧ Own B M' 3 1 (.slice A n c) n (ints1 (rangeI n))
set_option maxHeartbeats 2000000 in
set_option maxRecDepth 20000 in
theorem find_gets {σ w : World} {B : Mm} {n c : Nat} {A : Option Addr} {l : List OpS} (h : Has σ B w) (hl : l.length = n) (hn : n ≤ 40) (hrd : Rd B 16 (.slice A n c) n (l.flatMap encO)) (hG : GetsN l) :
    Calls Tryz.prog 4 #[.agg oneR, .int .i64 0, .slice A n c] w fun r w' => FindN σ B n r w' := by
  have oz := oneR_size
  have ox : oneR.extract 0 (0 + 14) = oneR := rfl
  have LG := Lib.hid (fun (M : Mm) (w : World) (hle : B.le M) (h : Has σ M w) => look_gets h hl hn (hrd.le hle) hG)
  clear hrd
  generalize oneR = oc at *
  go_enter Tryz.func4, Tryz.ntmps4
  go_upto_region 1 with (first
    | ((with_reducible show wpList _ _ _ ({ dst := _, op := Op.box 38 _, type := _, pos := _, after := _, guard := _ } :: _) _ _); refine wpList_box_has h rfl 38 _ rfl ?_; clear h; intro b3 w h hn3; try simp only [Act.put, List.setIfInBounds_toArray, List.set_cons_zero, List.set_cons_succ]))
  replace hn3 : B b3 = none := hn3
  replace h : Has σ (B.upd b3 (.cells oc 38)) w := h
  have hle1 : B.le (B.upd b3 (.cells oc 38)) := Mm.le_upd' hn3 _
  have hb3 : (B.upd b3 (.cells oc 38)) b3 = some (.cells oc 38) := (Mm.le_refl _) _ _ (Mm.upd_same _ _ _)
  replace hn3 : B b3 = none := Mm.none_of (Mm.le_refl _) hn3
  generalize (B.upd b3 (.cells oc 38)) = B1 at h hle1 hb3
  go_upto_region 2 with (first
    | ((with_reducible show wpList _ _ _ ({ dst := _, op := Op.load 38 _, type := _, pos := _, after := _, guard := _ } :: _) _ _); refine wpList_agg_has h rfl 38 _ rfl rfl hb3 ox oz Tryz.underlying38 rfl (by kernel_rfl) ?_; try simp only [Act.put, List.setIfInBounds_toArray, List.set_cons_zero, List.set_cons_succ])
    | (go_at_call 9; refine (LG.out _ _ hle1 h).mono ?_; clear h; rintro _ w ⟨bf, bm, lv, ov, M', tries, es, clock, rfl, h, hf⟩))
  have hrow := hf.row
  have r2 : (finR lv bm ov 0 tries)[2]? = some ov := rfl
  obtain ⟨A2, c2, rfl⟩ := hf.own.form
  go_wp2_with (first
    | (with_reducible show wpList _ _ _ ({ dst := _, op := Op.load 33 _, type := _, pos := _, after := _, guard := _ } :: _) _ _; refine wpList_load1_has h rfl 33 _ rfl rfl hrow r2 Tryz.underlying33 rfl ?_))
  go_ret2
  exact ⟨A2, c2, M', rfl, h, Mm.le_trans hle1 hf.le, hf.own.base fun b hb => Mm.none_of hle1 hb⟩
def LookMany (σ : World) (B : Mm) (r : Ending) (w' : World) : Prop :=
  ∃ (bf bm : Nat) (lv : Value) (M' : Mm), r = .returned (.tuple #[.pointer (some ⟨bf, 0, none⟩), .bool false]) ∧ Has σ M' w' ∧ B.le M' ∧ M' bf = some (.cells (finR lv bm nilS 0 0) 49)
set_option maxHeartbeats 2000000 in
set_option maxRecDepth 20000 in
theorem look_many {σ w : World} {B : Mm} {n c : Nat} {A : Option Addr} (h : Has σ B w) (hn : 40 < n) (hn2 : n ≤ 1000) :
    Calls Tryz.prog 9 #[.agg oneR, .int .i64 0, .slice A n c] w fun r w' => LookMany σ B r w' := by
  have hgt : decide (40 < (n : Int)) = true := decide_eq_true (by omega)
  generalize oneR = oc at *
  have MM : ∀ W, (Instr.makeMap 47 none).run Tryz.prog W = .ok (.map (some W.heap.size)) (W.alloc (.map #[] 0)) := fun W => run_makeMap 47 W
  go_enter Tryz.func9, Tryz.ntmps9
  go_upto_region 1 with (first
    | ((with_reducible show wpList _ _ _ ({ dst := _, op := Op.box 38 _, type := _, pos := _, after := _, guard := _ } :: _) _ _); refine wpList_box_has h rfl 38 _ rfl ?_; clear h; intro b3 w h hn3; try simp only [Act.put, List.setIfInBounds_toArray, List.set_cons_zero, List.set_cons_succ]))
  replace hn3 : B b3 = none := hn3
  replace h : Has σ (B.upd b3 (.cells oc 38)) w := h
  have hle1 : B.le (B.upd b3 (.cells oc 38)) := Mm.le_upd' hn3 _
  have hb3 : (B.upd b3 (.cells oc 38)) b3 = some (.cells oc 38) := (Mm.le_refl _) _ _ (Mm.upd_same _ _ _)
  replace hn3 : B b3 = none := Mm.none_of (Mm.le_refl _) hn3
  generalize (B.upd b3 (.cells oc 38)) = B1 at h hle1 hb3
  go_upto_region 2 with (first
    | ((with_reducible show wpList _ _ _ ({ dst := _, op := Op.build 49 _, type := _, pos := _, after := _, guard := _ } :: _) _ _); obtain ⟨B2, hbx, hle2, hbm, hnm⟩ := h.box (.map #[] 0); generalize w.alloc _ = wx at hbx ⊢; generalize w.heap.size = bm at hbm hnm ⊢; clear h; have h := hbx; clear hbx; try clear w; obtain ⟨w, rfl⟩ : ∃ x : World, x = wx := ⟨_, rfl⟩; refine wpList_build_has rfl 49 _ rfl (finR (.slice A n c) bm nilS 0 0) (by kernel_rfl) ?_; try simp only [Act.put, List.setIfInBounds_toArray, List.set_cons_zero, List.set_cons_succ])
    | ((with_reducible show wpList _ _ _ ({ dst := _, op := Op.box 49 _, type := _, pos := _, after := _, guard := _ } :: _) _ _); refine wpList_box_has h rfl 49 _ rfl ?_; clear h; intro bf w h hnf; try simp only [Act.put, List.setIfInBounds_toArray, List.set_cons_zero, List.set_cons_succ]))
  replace h : Has σ (B2.upd bf (.cells (finR (.slice A n c) bm nilS 0 0) 49)) w := h
  go_wp2
  go_ret2
  exact ⟨bf, bm, _, _, rfl, h, Mm.le_trans (Mm.le_trans hle1 hle2) (Mm.le_upd' hnf _), Mm.upd_same _ _ _⟩
set_option maxHeartbeats 2000000 in
set_option maxRecDepth 20000 in
theorem find_many {σ w : World} {B : Mm} {n c : Nat} {A : Option Addr} (h : Has σ B w) (hn : 40 < n) (hn2 : n ≤ 1000) :
    Calls Tryz.prog 4 #[.agg oneR, .int .i64 0, .slice A n c] w fun r w' => r = .returned (.tuple #[nilS, .bool false]) ∧ Has σ B w' := by
  have oz := oneR_size
  have ox : oneR.extract 0 (0 + 14) = oneR := rfl
  have LG := Lib.hid (fun (M : Mm) (w : World) (h : Has σ M w) => look_many (A := A) (c := c) h hn hn2)
  generalize oneR = oc at *
  go_enter Tryz.func4, Tryz.ntmps4
  go_upto_region 1 with (first
    | ((with_reducible show wpList _ _ _ ({ dst := _, op := Op.box 38 _, type := _, pos := _, after := _, guard := _ } :: _) _ _); refine wpList_box_has h rfl 38 _ rfl ?_; clear h; intro b3 w h hn3; try simp only [Act.put, List.setIfInBounds_toArray, List.set_cons_zero, List.set_cons_succ]))
  replace hn3 : B b3 = none := hn3
  replace h : Has σ (B.upd b3 (.cells oc 38)) w := h
  have hle1 : B.le (B.upd b3 (.cells oc 38)) := Mm.le_upd' hn3 _
  have hb3 : (B.upd b3 (.cells oc 38)) b3 = some (.cells oc 38) := (Mm.le_refl _) _ _ (Mm.upd_same _ _ _)
  replace hn3 : B b3 = none := Mm.none_of (Mm.le_refl _) hn3
  generalize (B.upd b3 (.cells oc 38)) = B1 at h hle1 hb3
  go_upto_region 2 with (first
    | ((with_reducible show wpList _ _ _ ({ dst := _, op := Op.load 38 _, type := _, pos := _, after := _, guard := _ } :: _) _ _); refine wpList_agg_has h rfl 38 _ rfl rfl hb3 ox oz Tryz.underlying38 rfl (by kernel_rfl) ?_; try simp only [Act.put, List.setIfInBounds_toArray, List.set_cons_zero, List.set_cons_succ])
    | (go_at_call 9; refine (LG.out _ _ h).mono ?_; clear h; rintro _ w ⟨bf, bm, lv, M', rfl, h, hle2, hrow⟩))
  go_wp2
  go_ret2
  exact ⟨rfl, h.le (Mm.le_trans hle1 hle2)⟩
set_option maxHeartbeats 2000000 in
set_option maxRecDepth 20000 in
theorem tries_many {σ w : World} {B : Mm} {n c : Nat} {A : Option Addr} (h : Has σ B w) (hn : 40 < n) (hn2 : n ≤ 1000) :
    Calls Tryz.prog 6 #[.agg oneR, .int .i64 0, .slice A n c] w fun r w' => r = .returned (.int .i64 0) ∧ Has σ B w' := by
  have oz := oneR_size
  have ox : oneR.extract 0 (0 + 14) = oneR := rfl
  have LG := Lib.hid (fun (M : Mm) (w : World) (h : Has σ M w) => look_many (A := A) (c := c) h hn hn2)
  generalize oneR = oc at *
  go_enter Tryz.func6, Tryz.ntmps6
  go_upto_region 1 with (first
    | ((with_reducible show wpList _ _ _ ({ dst := _, op := Op.box 38 _, type := _, pos := _, after := _, guard := _ } :: _) _ _); refine wpList_box_has h rfl 38 _ rfl ?_; clear h; intro b3 w h hn3; try simp only [Act.put, List.setIfInBounds_toArray, List.set_cons_zero, List.set_cons_succ]))
  replace hn3 : B b3 = none := hn3
  replace h : Has σ (B.upd b3 (.cells oc 38)) w := h
  have hle1 : B.le (B.upd b3 (.cells oc 38)) := Mm.le_upd' hn3 _
  have hb3 : (B.upd b3 (.cells oc 38)) b3 = some (.cells oc 38) := (Mm.le_refl _) _ _ (Mm.upd_same _ _ _)
  replace hn3 : B b3 = none := Mm.none_of (Mm.le_refl _) hn3
  generalize (B.upd b3 (.cells oc 38)) = B1 at h hle1 hb3
  go_upto_region 2 with (first
    | ((with_reducible show wpList _ _ _ ({ dst := _, op := Op.load 38 _, type := _, pos := _, after := _, guard := _ } :: _) _ _); refine wpList_agg_has h rfl 38 _ rfl rfl hb3 ox oz Tryz.underlying38 rfl (by kernel_rfl) ?_; try simp only [Act.put, List.setIfInBounds_toArray, List.set_cons_zero, List.set_cons_succ])
    | (go_at_call 9; refine (LG.out _ _ h).mono ?_; clear h; rintro _ w ⟨bf, bm, lv, M', rfl, h, hle2, hrow⟩))
  have r4 : (finR lv bm nilS 0 0)[4]? = some (.int .i64 0) := rfl
  go_wp2_with (first
    | (with_reducible show wpList _ _ _ ({ dst := _, op := Op.load 3 _, type := _, pos := _, after := _, guard := _ } :: _) _ _; refine wpList_load1_has h rfl 3 _ rfl rfl hrow r4 Tryz.underlying3 rfl ?_))
  go_ret
  exact ⟨rfl, h.le (Mm.le_trans hle1 hle2)⟩
end
section
open Go.RowKit
set_option linter.unusedVariables false
set_option linter.unusedSimpArgs false
set_option linter.unnecessarySimpa false
set_option maxHeartbeats 4000000 in
set_option maxRecDepth 20000 in
theorem one_no {σ w : World} {B M : Mm} {bf bm c n k tries clock : Nat} {A : Option Addr} {ov : Value} {l : List OpS} {es : List EntM} (h : Has σ M w) (hf : FinM B M bf bm (.slice A n c) ov k (n - k) tries es clock) (hk : k < n) (hrd : Rd B 16 (.slice A n c) n (l.flatMap encO)) (y : OpS) (hy : l[k]? = some y) (rs : Array Value) (hrs : StRow rs) (d : Int) (Q : Array Value → Prop)
    (TD : ∀ (M' : Mm) (w : World), M.le M' → Has σ M' w → Calls Tryz.prog 38 #[.agg rs, .agg y.row] w fun r w' => StPost Q false σ M' r w') :
    Calls Tryz.prog 22 #[.pointer (some ⟨bf, 0, none⟩), .agg rs, .int .u64 d, .int .i64 k] w fun r w' => r = .returned (.bool false) ∧ ∃ M', Has σ M' w' ∧ M.le M' := by
  have TD := Lib.hid TD
  have r0 : (finR (.slice A n c) bm ov (n - k) tries)[0]? = some (.slice A n c) := rfl
  have y15 : y.row[15]? = some (.int .i64 y.tt) := rfl
  have yz : y.row.size = 16 := rfl
  have yx : y.row.extract 0 (0 + 16) = y.row := rfl
  have hlt : (k : Int) < (n : Int) := by omega
  have hrow := hf.row
  have HF := Lib.hid hf
  obtain ⟨A', c', rfl⟩ := hf.own.form
  obtain ⟨bl, ol, cl, csl, tl, fl, e1, hMl, hxl⟩ := hrd.elem encO_len hk hy
  cases e1
  have hMl0 := hf.le _ _ hMl
  have g16 : csl.extract (ol + k * 16) (ol + k * 16 + 16) = y.row := extract_of (n := 16) hxl rfl
  clear hf hxl hMl
  have rz := hrs.1
  have ra : rs.extract 0 (0 + 63) = rs := by rw [← rz, Nat.zero_add, Array.extract_size]
  have s0z : st0.size = 63 := rfl
  have ZS := zst
  generalize hs0 : st0 = s0 at *
  have HS0 := Lib.hid hs0
  clear hs0 hrs
  go_enter Tryz.func22, Tryz.ntmps22
  go_upto_region 1 with (first
    | ((with_reducible show wpList _ _ _ ({ dst := _, op := Op.box 85 _, type := _, pos := _, after := _, guard := _ } :: _) _ _); refine wpList_box_has h rfl 85 _ rfl ?_; clear h; intro b5 w h hn5; try simp only [Act.put, List.setIfInBounds_toArray, List.set_cons_zero, List.set_cons_succ]))
  replace hn5 : M b5 = none := hn5
  replace h : Has σ (M.upd b5 (.cells rs 85)) w := h
  have hle1 : M.le (M.upd b5 (.cells rs 85)) := Mm.le_upd' hn5 _
  have hb5 : (M.upd b5 (.cells rs 85)) b5 = some (.cells rs 85) := (Mm.le_refl _) _ _ (Mm.upd_same _ _ _)
  replace hn5 : M b5 = none := Mm.none_of (Mm.le_refl _) hn5
  generalize (M.upd b5 (.cells rs 85)) = M1 at h hle1 hb5
  have hrow1 := hle1 _ _ hrow
  have hMl1 := hle1 _ _ hMl0
  go_upto_region 2 with (first
    | (with_reducible show wpList _ _ _ ({ dst := _, op := Op.load 22 _, type := _, pos := _, after := _, guard := _ } :: _) _ _; refine wpList_load1_has h rfl 22 _ rfl rfl hrow1 r0 Tryz.underlying22 rfl ?_)
    | ((with_reducible show wpList _ _ _ ({ dst := _, op := Op.load 32 _, type := _, pos := _, after := _, guard := _ } :: _) _ _); refine wpList_agg_has h rfl 32 _ rfl rfl hMl1 g16 rfl Tryz.underlying32 rfl (by kernel_rfl) ?_; try simp only [Act.put, List.setIfInBounds_toArray, List.set_cons_zero, List.set_cons_succ])
    | ((with_reducible show wpList _ _ _ ({ dst := _, op := Op.alloc 32, type := _, pos := _, after := _, guard := _ } :: _) _ _); refine wpList_alloc_has h rfl 32 rfl _ zoper ?_; clear h; intro b9 w h hn9; try simp only [Act.put, List.setIfInBounds_toArray, List.set_cons_zero, List.set_cons_succ])
    | ((with_reducible show wpList _ _ _ ({ dst := _, op := Op.store 32 _ _, type := _, pos := _, after := _, guard := _ } :: _) _ _); refine wpList_storeAll_has (cells := y.row) h rfl 32 _ _ rfl rfl rfl (Mm.upd_same _ _ _) rfl rfl rfl (by kernel_rfl) rfl ?_; clear h; intro w h))
  rw [Mm.upd_upd] at h
  have hb9 := Mm.upd_same M1 b9 (.cells y.row 32)
  have hle9 := Mm.le_upd' hn9 (.cells y.row 32)
  have hb59 := hle9 _ _ hb5
  have hle2 := Mm.le_trans hle1 hle9
  clear hrow1 hMl1 hMl0 g16 hb5 hle1 hle9 hn9 hn5
  generalize M1.upd b9 (.cells y.row 32) = M2 at *
  go_upto_region 3 with (first
    | ((with_reducible show wpList _ _ _ ({ dst := _, op := Op.load 85 _, type := _, pos := _, after := _, guard := _ } :: _) _ _); refine wpList_agg_has h rfl 85 _ rfl rfl hb59 ra rz Tryz.underlying85 rfl (by kernel_rfl) ?_; try simp only [Act.put, List.setIfInBounds_toArray, List.set_cons_zero, List.set_cons_succ])
    | ((with_reducible show wpList _ _ _ ({ dst := _, op := Op.load 32 _, type := _, pos := _, after := _, guard := _ } :: _) _ _); refine wpList_agg_has h rfl 32 _ rfl rfl hb9 yx yz Tryz.underlying32 rfl (by kernel_rfl) ?_; try simp only [Act.put, List.setIfInBounds_toArray, List.set_cons_zero, List.set_cons_succ])
    | (go_at_call 38; refine (TD.out _ _ hle2 h).mono ?_; clear h; rintro _ w ⟨rs', M3, rfl, hrs', hq, h, hle3⟩; have z2 := hrs'.1; have o2 := hrs'.2)
    | ((with_reducible show wpList _ _ _ ({ dst := some 10, op := Op.alloc 85, type := _, pos := _, after := _, guard := _ } :: _) _ _); refine wpList_alloc_has h rfl 85 rfl _ ZS ?_; clear h; intro b10 w h hn10; try simp only [Act.put, List.setIfInBounds_toArray, List.set_cons_zero, List.set_cons_succ])
    | ((with_reducible show wpList _ _ _ ({ dst := _, op := Op.store 85 _ _, type := _, pos := _, after := _, guard := _ } :: _) _ _); refine wpList_storeAll_has (cells := rs') h rfl 85 _ _ rfl rfl rfl (Mm.upd_same _ _ _) rfl (s0z.trans z2.symm) rfl (by rw [z2]; kernel_rfl) o2 ?_; clear h; intro w h))
  replace h : Has σ (M3.upd b10 (.cells rs' 85)) w := by rw [Mm.upd_upd] at h; exact h
  have hle10 := Mm.le_upd' hn10 (.cells rs' 85)
  have hle4 := Mm.le_trans hle2 (Mm.le_trans hle3 hle10)
  generalize M3.upd b10 (.cells rs' 85) = M4 at *
  go_wp2
  go_ret
  exact ⟨rfl, M4, h, hle4⟩
set_option maxHeartbeats 2000000 in
theorem linear_of {σ w : World} {B : Mm} {n c : Nat} {A : Option Addr} (h : Has σ B w) (b : Bool) (FD : ∀ (M : Mm) (w : World), B.le M → Has σ M w → Calls Tryz.prog 4 #[.agg oneR, .int .i64 0, .slice A n c] w fun r w' => ∃ (v : Value) (M' : Mm), r = .returned (.tuple #[v, .bool b]) ∧ Has σ M' w' ∧ B.le M') :
    Calls Tryz.prog 10 #[.agg oneR, .int .i64 0, .slice A n c] w fun r w' => r = .returned (.bool b) ∧ Has σ B w' := by
  have oz := oneR_size
  have ox : oneR.extract 0 (0 + 14) = oneR := rfl
  have FD := Lib.hid FD
  generalize oneR = oc at *
  go_enter Tryz.func10, Tryz.ntmps10
  go_upto_region 1 with (first
    | ((with_reducible show wpList _ _ _ ({ dst := _, op := Op.box 38 _, type := _, pos := _, after := _, guard := _ } :: _) _ _); refine wpList_box_has h rfl 38 _ rfl ?_; clear h; intro b3 w h hn3; try simp only [Act.put, List.setIfInBounds_toArray, List.set_cons_zero, List.set_cons_succ]))
  replace hn3 : B b3 = none := hn3
  replace h : Has σ (B.upd b3 (.cells oc 38)) w := h
  have hle1 : B.le (B.upd b3 (.cells oc 38)) := Mm.le_upd' hn3 _
  have hb3 : (B.upd b3 (.cells oc 38)) b3 = some (.cells oc 38) := (Mm.le_refl _) _ _ (Mm.upd_same _ _ _)
  replace hn3 : B b3 = none := Mm.none_of (Mm.le_refl _) hn3
  generalize (B.upd b3 (.cells oc 38)) = B1 at h hle1 hb3
  go_wp2_with (first
    | ((with_reducible show wpList _ _ _ ({ dst := _, op := Op.load 38 _, type := _, pos := _, after := _, guard := _ } :: _) _ _); refine wpList_agg_has h rfl 38 _ rfl rfl hb3 ox oz Tryz.underlying38 rfl (by kernel_rfl) ?_; try simp only [Act.put, List.setIfInBounds_toArray, List.set_cons_zero, List.set_cons_succ])
    | (go_at_call 4; refine (FD.out _ _ hle1 h).mono ?_; clear h; rintro _ w ⟨v, M', rfl, h, hle⟩))
  go_ret
  exact ⟨rfl, h.le hle⟩
end
section
open Go.RowKit
set_option linter.unusedVariables false
set_option linter.unusedSimpArgs false
set_option linter.unnecessarySimpa false
set_option maxHeartbeats 4000000 in
set_option maxRecDepth 20000 in
theorem from_no {σ w : World} {B M : Mm} {bf bm n k tries clock : Nat} {lv ov : Value} {l : List OpS} {es : List EntM} (h : Has σ M w) (hf : FinM B M bf bm lv ov k (n - k) tries es clock) (hbf : B bf = none) (hbm0 : B bm = none) (hbm : bf ≠ bm) (hl : l.length = n) (hk : k < n) (hn : n ≤ 60) (ht2 : tries ≤ 1000) (hrd : Rd B 16 lv n (l.flatMap encO)) (HN : NextO l (rangeI k) = [(k : Int)]) (hes : ∀ x ∈ es, x.d ≠ ((2 ^ k - 1 : Nat) : Int))
    (ON : ∀ (M' : Mm) (clock' : Nat) (w : World), Has σ M' w → FinM B M' bf bm lv ov k (n - k) (tries + 1) (es ++ [⟨((2 ^ k - 1 : Nat) : Int), zer ⟨#[]⟩ 5, 1, clock⟩]) clock' → Calls Tryz.prog 22 #[.pointer (some ⟨bf, 0, none⟩), .agg (stR nilS nilS nilS nilS), .int .u64 (2 ^ k - 1 : Nat), .int .i64 k] w fun r w' => r = .returned (.bool false) ∧ ∃ M2, Has σ M2 w' ∧ M'.le M2) :
    Calls Tryz.prog 14 #[.pointer (some ⟨bf, 0, none⟩), .agg (stR nilS nilS nilS nilS), .int .u64 (2 ^ k - 1 : Nat)] w fun r w' => FoundG σ B bf bm lv false k (n - k) r w' := by
  have ON := Lib.hid ON
  have TX := Lib.hid (fun (M : Mm) (w : World) (h : Has σ M w) => text_0 h)
  have hneq : ((n - k : Nat) : Int) ≠ 0 := by omega
  have hnb : (((n - k : Nat) : Int) == 0) = false := by simpa using hneq
  have hL1 : 1 ≤ n - k := by omega
  have hL2 : n - k ≤ 60 := by omega
  have r4 : (finR lv bm ov (n - k) tries)[4]? = some (.int .i64 tries) := rfl
  have l4 : 4 < (finR lv bm ov (n - k) tries).size := Nat.lt_succ_self 4
  have RN : Hid ((finR lv bm ov (n - k) tries).setIfInBounds 4 (.int .i64 ((tries : Int) + 1)) = finR lv bm ov (n - k) (tries + 1)) := rfl
  have r3 : (finR lv bm ov (n - k) (tries + 1))[3]? = some (.int .i64 (n - k : Nat)) := rfl
  have r0 : (finR lv bm ov (n - k) (tries + 1))[0]? = some lv := rfl
  have r1 : (finR lv bm ov (n - k) (tries + 1))[1]? = some (.map (some bm)) := rfl
  have r2 : (finR lv bm ov (n - k) (tries + 1))[2]? = some ov := rfl
  obtain ⟨hrs, hr1⟩ : (stR nilS nilS nilS nilS).size = 63 ∧ (stR nilS nilS nilS nilS).extract 0 (0 + 63) = stR nilS nilS nilS nilS := ⟨rfl, rfl⟩
  have hrow := hf.row
  have HF := Lib.hid hf
  clear hf
  have HFR : Hid (∀ o, o = finR lv bm ov (n - k) (tries + 1) → o = finR lv bm ov (n - k) (tries + 1)) := fun _ h => h
  generalize stR nilS nilS nilS nilS = rs at *
  generalize hfr : finR lv bm ov (n - k) tries = fr at *
  generalize hfr2 : finR lv bm ov (n - k) (tries + 1) = fr2 at *
  have HFR2 := Lib.hid hfr2
  clear hfr hfr2 HFR
  generalize hd : 2 ^ k - 1 = d at *
  generalize hzz : zer ⟨#[]⟩ 5 = zs at *
  generalize hL : n - k = L at *
  go_enter Tryz.func14, Tryz.ntmps14
  go_upto_region 1 with (first
    | ((with_reducible show wpList _ _ _ ({ dst := _, op := Op.box 85 _, type := _, pos := _, after := _, guard := _ } :: _) _ _); refine wpList_box_has h rfl 85 _ rfl ?_; clear h; intro b4 w h hn4; try simp only [Act.put, List.setIfInBounds_toArray, List.set_cons_zero, List.set_cons_succ]))
  replace hn4 : M b4 = none := hn4
  replace h : Has σ (M.upd b4 (.cells rs 85)) w := h
  have hle1 : M.le (M.upd b4 (.cells rs 85)) := Mm.le_upd' hn4 _
  have hb4 : (M.upd b4 (.cells rs 85)) b4 = some (.cells rs 85) := (Mm.le_refl _) _ _ (Mm.upd_same _ _ _)
  replace hn4 : M b4 = none := Mm.none_of (Mm.le_refl _) hn4
  generalize (M.upd b4 (.cells rs 85)) = M1 at h hle1 hb4
  have hrow1 := hle1 _ _ hrow
  go_upto_region 2 with (first
    | (with_reducible show wpList _ _ _ ({ dst := _, op := Op.load 3 _, type := _, pos := _, after := _, guard := _ } :: _) _ _; refine wpList_load1_has h rfl 3 _ rfl rfl hrow1 r4 Tryz.underlying3 rfl ?_)
    | (with_reducible show wpList _ _ _ ({ dst := _, op := Op.store 3 _ _, type := _, pos := _, after := _, guard := _ } :: _) _ _; refine wpList_store1_has h rfl 3 _ _ rfl rfl rfl hrow1 l4 rfl (by kernel_rfl) ?_; clear h; intro w h))
  replace h : Has σ (M1.upd bf (.cells (fr.setIfInBounds 4 (.int .i64 ((tries : Int) + 1))) 49)) w := h
  rw [RN.out] at h
  have row2 := Mm.upd_same M1 bf (.cells fr2 49)
  have map2 := (Mm.upd_ne (o := .cells fr2 49) (Ne.symm hbm)).trans (hle1 _ _ HF.out.map)
  have own2 := (HF.out.own.le hle1).upd_t hrow1 (by intro cur he; cases he) (.cells fr2 49)
  have base2 := Mm.le_upd (Mm.le_trans HF.out.le hle1) hbf (.cells fr2 49)
  have nf4 : b4 ≠ bf := fun e => by subst e; rw [hb4] at hrow1; cases hrow1
  have hb42 := (Mm.upd_ne (o := .cells fr2 49) nf4).trans hb4
  clear hrow1 hb4 hle1 HF hrow RN r4 l4
  generalize M1.upd bf (.cells fr2 49) = M2 at *
  go_upto_region 4 with (first
    | (with_reducible show wpList _ _ _ ({ dst := _, op := Op.load 3 _, type := _, pos := _, after := _, guard := _ } :: _) _ _; refine wpList_load1_has h rfl 3 _ rfl rfl row2 r3 Tryz.underlying3 rfl ?_))
  go_upto_region 5 with (first
    | ((with_reducible show wpList _ _ _ ({ dst := _, op := Op.load 85 _, type := _, pos := _, after := _, guard := _ } :: _) _ _); refine wpList_agg_has h rfl 85 _ rfl rfl hb42 hr1 hrs Tryz.underlying85 rfl (by kernel_rfl) ?_; try simp only [Act.put, List.setIfInBounds_toArray, List.set_cons_zero, List.set_cons_succ])
    | (go_at_call 20; refine (TX.out _ _ h).mono ?_; clear h; rintro _ w ⟨rfl, h⟩)
    | ((refine wpList_build_has rfl 94 _ rfl #[.int .u64 d, .string zs] (by kernel_rfl) ?_; try simp only [Act.put, List.setIfInBounds_toArray, List.set_cons_zero, List.set_cons_succ]))
    | ((with_reducible show wpList _ _ _ ({ dst := some 7, op := Op.alloc 94, type := _, pos := _, after := _, guard := _ } :: _) _ _); refine wpList_alloc_has h rfl 94 rfl _ zmet ?_; clear h; intro b7 w h hn7; try simp only [Act.put, List.setIfInBounds_toArray, List.set_cons_zero, List.set_cons_succ])
    | ((with_reducible show wpList _ _ _ ({ dst := _, op := Op.store 94 _ _, type := _, pos := _, after := _, guard := _ } :: _) _ _); refine wpList_storeAll_has (cells := #[.int .u64 d, .string zs]) h rfl 94 _ _ rfl rfl rfl (Mm.upd_same _ _ _) rfl rfl rfl (by kernel_rfl) rfl ?_; clear h; intro w h))
  rw [Mm.upd_upd] at h
  have hb7 := Mm.upd_same M2 b7 (.cells #[.int .u64 (d : Int), .string zs] 94)
  have hle7 := Mm.le_upd' hn7 (.cells #[.int .u64 (d : Int), .string zs] 94)
  have row5 := hle7 _ _ row2
  have map5 := hle7 _ _ map2
  have own5 := own2.le hle7
  have base5 := Mm.le_trans base2 hle7
  have hb45 := hle7 _ _ hb42
  clear row2 map2 own2 base2 hb42 hle7 hn7 TX
  generalize M2.upd b7 (.cells #[.int .u64 (d : Int), .string zs] 94) = M5 at *
  have me : (#[.int .u64 (d : Int), .string zs] : Array Value).extract 0 (0 + 2) = #[.int .u64 (d : Int), .string zs] := rfl
  have mz : (#[.int .u64 (d : Int), .string zs] : Array Value).size = 2 := rfl
  refine wp_region_held_drew (S := Has σ (M5)) (by kernel_rfl) (h.drew) (fun hHeld => ?_)
  replace h := h.drew
  generalize w.drew = w at h hHeld ⊢
  have LK : (Instr.lookup 47 (.map (some bm)) (.agg #[.int .u64 (d : Int), .string zs]) false).run Tryz.prog w = .ok (.int .i64 0) w := run_lookup_met h map5 d zs hes
  refine wpAnyH_take (i := 0) (v := ?_) rfl (by kernel_rfl) (by kernel_rfl) (by kernel_rfl) (fun _ _ _ h => h) (Or.inl ⟨by rfl, ?_⟩) hHeld ?_
  rotate_left
  · (intro wz _; go_simp; try with_reducible rfl)
  try simp only [List.getElem_toArray, List.getElem_cons_succ, List.getElem_cons_zero, Act.put, List.setIfInBounds_toArray, List.set_cons_zero, List.set_cons_succ]
  refine wpAnyH_take (i := 1) (v := ?_) rfl (by kernel_rfl) (by kernel_rfl) (by kernel_rfl) (fun _ _ _ h => h) (Or.inl ⟨by rfl, ?_⟩) hHeld ?_
  rotate_left
  · (intro wz _; go_simp; try with_reducible rfl)
  try simp only [List.getElem_toArray, List.getElem_cons_succ, List.getElem_cons_zero, Act.put, List.setIfInBounds_toArray, List.set_cons_zero, List.set_cons_succ]
  refine wpAnyH_take (i := 2) (v := ?_) rfl (by kernel_rfl) (by kernel_rfl) (by kernel_rfl) (fun _ _ _ h => h) (Or.inl ⟨by rfl, ?_⟩) hHeld ?_
  rotate_left
  · (intro wz _; go_simp; try with_reducible rfl)
  try simp only [List.getElem_toArray, List.getElem_cons_succ, List.getElem_cons_zero, Act.put, List.setIfInBounds_toArray, List.set_cons_zero, List.set_cons_succ]
  refine wpAnyH_take (i := 3) (v := _) rfl (by kernel_rfl) (by kernel_rfl) (by kernel_rfl) (fun _ _ _ h => h) (yields_load1 rfl 47 _ rfl rfl row5 r1 Tryz.underlying47 rfl) hHeld ?_
  try simp only [List.getElem_toArray, List.getElem_cons_succ, List.getElem_cons_zero, Act.put, List.setIfInBounds_toArray, List.set_cons_zero, List.set_cons_succ]
  refine wpAnyH_take (i := 4) (v := _) rfl (by kernel_rfl) (by kernel_rfl) (by kernel_rfl) (fun _ _ _ h => h) (yields_agg rfl 94 _ rfl rfl hb7 me mz Tryz.underlying94 rfl (by kernel_rfl)) hHeld ?_
  try simp only [List.getElem_toArray, List.getElem_cons_succ, List.getElem_cons_zero, Act.put, List.setIfInBounds_toArray, List.set_cons_zero, List.set_cons_succ]
  refine wpAnyH_ready (rs := [5]) (by kernel_rfl) (by simp) ?_
  refine AllReadyH.cons rfl (fun K hK => ?_) AllReadyH.nil
  go_simp
  refine hK.out _ _ (h) (fun hHeld => ?_)
  clear hK K
  try simp only [Act.put, List.setIfInBounds_toArray, List.set_cons_zero, List.set_cons_succ]
  refine wpAnyH_take (i := 6) (v := ?_) rfl (by kernel_rfl) (by kernel_rfl) (by kernel_rfl) (fun _ _ _ h => h) (Or.inl ⟨by rfl, ?_⟩) hHeld ?_
  rotate_left
  · (intro wz _; go_simp; try with_reducible rfl)
  try simp only [List.getElem_toArray, List.getElem_cons_succ, List.getElem_cons_zero, Act.put, List.setIfInBounds_toArray, List.set_cons_zero, List.set_cons_succ]
  refine wpAnyH_done (by kernel_rfl) ?_ _
  clear LK hHeld
  go_upto_region 7 with (fail)
  refine wp_region_head (Has σ M5) 5 (by kernel_rfl) (by kernel_rfl) (fun _ _ _ _ _ h => h) h.drew ?_
  clear h
  simp only [List.take_succ_cons, List.take_zero, List.drop_succ_cons, List.drop_zero]
  repeat (first
    | go_big_quiet_skip
    | (go_big_quiet_want; first
      | (refine quiet_load_has 47 _ rfl rfl row5 r1 Tryz.underlying47 rfl ?_; simp only [Act.put, List.setIfInBounds_toArray, List.set_cons_zero, List.set_cons_succ]; go_big_quiet_on)
      | (refine quiet_agg_has 94 _ rfl rfl hb7 me mz Tryz.underlying94 rfl (by kernel_rfl) ?_; simp only [Act.put, List.setIfInBounds_toArray, List.set_cons_zero, List.set_cons_succ]; go_big_quiet_on)
      | (go_big_quiet_op; first | go_big_quiet_on | go_big_quiet_call (first | with_reducible exact fun _ => rfl))))
  refine wpQuiet_nil ?_
  try clear w
  intro w h
  obtain ⟨w', UP, h'⟩ := run_update_met h map5 (d : Int) zs 1 hes
  unfold metV at UP
  go_upto_region 8 with (fail)
  clear h
  have h := h'
  clear h' UP
  obtain ⟨w, rfl⟩ : ∃ x : World, x = w' := ⟨_, rfl⟩
  have fin6 : FinM B (M5.upd bm (mapRowM (es ++ [⟨(d : Int), zs, 1, clock⟩]) (clock + 1))) bf bm lv ov k L (tries + 1) (es ++ [⟨(d : Int), zs, 1, clock⟩]) (clock + 1) := ⟨Mm.le_upd base5 hbm0 _, (Mm.upd_ne hbm).trans (by rw [HFR2.out]; exact row5), Mm.upd_same _ _ _, own5.upd_t map5 (by intro cur he; unfold mapRowM at he; cases he) _⟩
  have n4m : b4 ≠ bm := fun e => by subst e; rw [hb45] at map5; unfold mapRowM at map5; cases map5
  have hb46 := (Mm.upd_ne (o := mapRowM (es ++ [⟨(d : Int), zs, 1, clock⟩]) (clock + 1)) n4m).trans hb45
  have row6 := (Mm.upd_ne (o := mapRowM (es ++ [⟨(d : Int), zs, 1, clock⟩]) (clock + 1)) hbm).trans row5
  clear hb45 row5 map5 own5 base5 hb7 me mz hes
  generalize M5.upd bm (mapRowM (es ++ [⟨(d : Int), zs, 1, clock⟩]) (clock + 1)) = M6 at *
  have NX : Hid (∀ w, Has σ M6 w → Calls Tryz.prog 21 #[lv, ov] w fun r w' => NxPost σ M6 l (rangeI k) r w') := fun w h => next_eq h lv ov l (rangeI k) n k hl (rangeI_length k) (hrd.le fin6.le) fin6.own.rd (by omega) (by omega)
  have HX : Hid (∀ r w', NxPost σ M6 l (rangeI k) r w' → ∃ (g c : Nat) (cur : Array Value) (M9 : Mm), r = .returned (.slice (some ⟨g, 0, none⟩) 1 c) ∧ Has σ M9 w' ∧ M6.le M9 ∧ M9 g = some (.cells cur 3) ∧ cur[0]? = some (.int .i64 k)) := fun r w' hx => by
    unfold NxPost at hx
    rw [HN] at hx
    obtain ⟨v, rfl, M9, h9, hl9, h2, ⟨_, h0⟩ | ⟨g, cap, cur, rfl, hg, hh, hc, hm, hs, ht⟩⟩ := hx
    · cases h0
    · refine ⟨g, cap, cur, M9, rfl, h9, hl9, hh, ?_⟩
      have := congrArg (fun l : List Value => l[0]?) ht
      simpa [ints1, List.getElem?_take] using this
  refine wp_region_held_drew (S := Has σ (M6)) (by kernel_rfl) (h.drew) (fun hHeld => ?_)
  replace h := h.drew
  generalize w.drew = w at h hHeld ⊢
  refine wpAnyH_take (i := 0) (v := ?_) rfl (by kernel_rfl) (by kernel_rfl) (by kernel_rfl) (fun _ _ _ h => h) (Or.inl ⟨by rfl, ?_⟩) hHeld ?_
  rotate_left
  · (intro wz _; go_simp; try with_reducible rfl)
  try simp only [List.getElem_toArray, List.getElem_cons_succ, List.getElem_cons_zero, Act.put, List.setIfInBounds_toArray, List.set_cons_zero, List.set_cons_succ]
  refine wpAnyH_take (i := 1) (v := ?_) rfl (by kernel_rfl) (by kernel_rfl) (by kernel_rfl) (fun _ _ _ h => h) (Or.inl ⟨by rfl, ?_⟩) hHeld ?_
  rotate_left
  · (intro wz _; go_simp; try with_reducible rfl)
  try simp only [List.getElem_toArray, List.getElem_cons_succ, List.getElem_cons_zero, Act.put, List.setIfInBounds_toArray, List.set_cons_zero, List.set_cons_succ]
  refine wpAnyH_take (i := 2) (v := ?_) rfl (by kernel_rfl) (by kernel_rfl) (by kernel_rfl) (fun _ _ _ h => h) (Or.inl ⟨by rfl, ?_⟩) hHeld ?_
  rotate_left
  · (intro wz _; go_simp; try with_reducible rfl)
  try simp only [List.getElem_toArray, List.getElem_cons_succ, List.getElem_cons_zero, Act.put, List.setIfInBounds_toArray, List.set_cons_zero, List.set_cons_succ]
  refine wpAnyH_take (i := 3) (v := _) rfl (by kernel_rfl) (by kernel_rfl) (by kernel_rfl) (fun _ _ _ h => h) (yields_load1 rfl 22 _ rfl rfl row6 r0 Tryz.underlying22 rfl) hHeld ?_
  try simp only [List.getElem_toArray, List.getElem_cons_succ, List.getElem_cons_zero, Act.put, List.setIfInBounds_toArray, List.set_cons_zero, List.set_cons_succ]
  refine wpAnyH_take (i := 4) (v := ?_) rfl (by kernel_rfl) (by kernel_rfl) (by kernel_rfl) (fun _ _ _ h => h) (Or.inl ⟨by rfl, ?_⟩) hHeld ?_
  rotate_left
  · (intro wz _; go_simp; try with_reducible rfl)
  try simp only [List.getElem_toArray, List.getElem_cons_succ, List.getElem_cons_zero, Act.put, List.setIfInBounds_toArray, List.set_cons_zero, List.set_cons_succ]
  refine wpAnyH_take (i := 5) (v := ?_) rfl (by kernel_rfl) (by kernel_rfl) (by kernel_rfl) (fun _ _ _ h => h) (Or.inl ⟨by rfl, ?_⟩) hHeld ?_
  rotate_left
  · (intro wz _; go_simp; try with_reducible rfl)
  try simp only [List.getElem_toArray, List.getElem_cons_succ, List.getElem_cons_zero, Act.put, List.setIfInBounds_toArray, List.set_cons_zero, List.set_cons_succ]
  refine wpAnyH_take (i := 6) (v := ?_) rfl (by kernel_rfl) (by kernel_rfl) (by kernel_rfl) (fun _ _ _ h => h) (Or.inl ⟨by rfl, ?_⟩) hHeld ?_
  rotate_left
  · (intro wz _; go_simp; try with_reducible rfl)
  try simp only [List.getElem_toArray, List.getElem_cons_succ, List.getElem_cons_zero, Act.put, List.setIfInBounds_toArray, List.set_cons_zero, List.set_cons_succ]
  refine wpAnyH_take (i := 7) (v := _) rfl (by kernel_rfl) (by kernel_rfl) (by kernel_rfl) (fun _ _ _ h => h) (yields_load1 rfl 33 _ rfl rfl row6 r2 Tryz.underlying33 rfl) hHeld ?_
  try simp only [List.getElem_toArray, List.getElem_cons_succ, List.getElem_cons_zero, Act.put, List.setIfInBounds_toArray, List.set_cons_zero, List.set_cons_succ]
  refine wpAnyH_take (i := 10) (v := ?_) rfl (by kernel_rfl) (by kernel_rfl) (by kernel_rfl) (fun _ _ _ h => h) (Or.inl ⟨by rfl, ?_⟩) hHeld ?_
  rotate_left
  · (intro wz _; go_simp; try with_reducible rfl)
  try simp only [List.getElem_toArray, List.getElem_cons_succ, List.getElem_cons_zero, Act.put, List.setIfInBounds_toArray, List.set_cons_zero, List.set_cons_succ]
  refine wpAnyH_ready (rs := [8]) (by kernel_rfl) (by simp) ?_
  refine AllReadyH.cons rfl (fun K hK => ?_) AllReadyH.nil
  (go_simp; go_wp2_with (go_at_call 21; refine (NX.out _ h).mono ?_; clear h; try clear hHeld; intro rr w hx; obtain ⟨g, c9, cur, M9, rfl, h, hle9, hg9, hc9⟩ := HX.out _ _ hx))
  refine hK.out _ _ (h.le hle9) (fun hHeld => ?_)
  clear hK K
  try simp only [Act.put, List.setIfInBounds_toArray, List.set_cons_zero, List.set_cons_succ]
  refine wpAnyH_take (i := 9) (v := ?_) rfl (by kernel_rfl) (by kernel_rfl) (by kernel_rfl) (fun _ _ _ h => h) (Or.inl ⟨by rfl, ?_⟩) hHeld ?_
  rotate_left
  · (intro wz _; go_simp; try with_reducible rfl)
  try simp only [List.getElem_toArray, List.getElem_cons_succ, List.getElem_cons_zero, Act.put, List.setIfInBounds_toArray, List.set_cons_zero, List.set_cons_succ]
  refine wpAnyH_done (by kernel_rfl) ?_ _
  have hb49 := hle9 _ _ hb46
  have OX : Hid (∀ w, Has σ M9 w → Calls Tryz.prog 22 #[.pointer (some ⟨bf, 0, none⟩), .agg rs, .int .u64 (d : Nat), .int .i64 k] w fun r w' => r = .returned (.bool false) ∧ ∃ M2, Has σ M2 w' ∧ M9.le M2) := fun w h => ON.out M9 (clock + 1) w h ⟨Mm.le_trans fin6.le hle9, hle9 _ _ fin6.row, hle9 _ _ fin6.map, fin6.own.le hle9⟩
  have FN : Hid (∀ M2 w, Has σ M2 w → M9.le M2 → FoundG σ B bf bm lv false k L (.returned (.bool false)) w) := fun M2 w h h2 => ⟨rfl, M2, ov, tries + 1, _, _, h, ⟨Mm.le_trans fin6.le (Mm.le_trans hle9 h2), h2 _ _ (hle9 _ _ fin6.row), h2 _ _ (hle9 _ _ fin6.map), fin6.own.le (Mm.le_trans hle9 h2)⟩⟩
  clear ON NX HX hHeld fin6 hb46 row6 hle9 hx
  go_wp2
  go_loopw [48] (fun i wr => (i = .int .i64 0 ∧ Has σ M9 wr) ∨ (i = .int .i64 1 ∧ ∃ M2, Has σ M2 wr ∧ M9.le M2)) (fun i _ => 1 - (intOf i).toNat)
  case atStart => exact .inl ⟨rfl, h⟩
  case round =>
    clear h w
    obtain ⟨w, rfl⟩ : ∃ x : World, x = wr := ⟨_, rfl⟩
    rcases hrel with ⟨rfl, h⟩ | ⟨rfl, M2, h, hle2⟩
    · go_wp2_with (first
        | (with_reducible show wpList _ _ _ ({ dst := _, op := Op.load 3 _, type := _, pos := _, after := _, guard := _ } :: _) _ _; refine wpList_load1_has h rfl 3 _ rfl rfl hg9 hc9 Tryz.underlying3 rfl ?_)
        | ((with_reducible show wpList _ _ _ ({ dst := _, op := Op.load 85 _, type := _, pos := _, after := _, guard := _ } :: _) _ _); refine wpList_agg_has h rfl 85 _ rfl rfl hb49 hr1 hrs Tryz.underlying85 rfl (by kernel_rfl) ?_; try simp only [Act.put, List.setIfInBounds_toArray, List.set_cons_zero, List.set_cons_succ])
        | (go_at_call 22; refine (OX.out _ h).mono ?_; clear h; rintro _ w ⟨rfl, M2, h, hle2⟩))
      go_roundw
      case rel => exact .inr ⟨rfl, M2, h, hle2⟩
      case measure => simp [intOf]
    · go_wp2
      go_ret
      exact FN.out M2 w h hle2
end
section
open Go.RowKit
set_option linter.unusedVariables false
set_option linter.unusedSimpArgs false
set_option linter.unnecessarySimpa false
theorem zconf17 : (Tryz.prog.info? 38).bind (·.zero) = some (.agg #[.int .i64 0, .int .i64 0, .int .i64 0, .int .i64 0, .int .i64 0, .int .i64 0, .int .i64 0, .int .i64 0, .int .i64 0, .int .i64 0, .int .i64 0, .int .i64 0, .int .i64 0, .int .i64 0]) := by kernel_rfl
set_option maxHeartbeats 1000000 in
theorem one17_eq {σ w : World} {M : Mm} (h : Has σ M w) : Calls Tryz.prog 5 #[] w fun r w' => r = .returned (.agg oneR) ∧ Has σ M w' := by
  go_enter Tryz.func5, Tryz.ntmps5
  go_upto_region 1 with (first
    | ((with_reducible show wpList _ _ _ ({ dst := some 0, op := Op.alloc 38, type := _, pos := _, after := _, guard := _ } :: _) _ _); refine wpList_alloc_has h rfl 38 rfl _ zconf17 ?_; clear h; intro b0 w h hn0; try simp only [Act.put, List.setIfInBounds_toArray, List.set_cons_zero, List.set_cons_succ]))
  replace hn0 : M b0 = none := hn0
  replace h : Has σ (M.upd b0 (.cells #[.int .i64 0, .int .i64 0, .int .i64 0, .int .i64 0, .int .i64 0, .int .i64 0, .int .i64 0, .int .i64 0, .int .i64 0, .int .i64 0, .int .i64 0, .int .i64 0, .int .i64 0, .int .i64 0] 38)) w := h
  have hle2 : M.le (M.upd b0 (.cells #[.int .i64 0, .int .i64 0, .int .i64 0, .int .i64 0, .int .i64 0, .int .i64 0, .int .i64 0, .int .i64 0, .int .i64 0, .int .i64 0, .int .i64 0, .int .i64 0, .int .i64 0, .int .i64 0] 38)) := Mm.le_upd' hn0 _
  have hb0 : (M.upd b0 (.cells #[.int .i64 0, .int .i64 0, .int .i64 0, .int .i64 0, .int .i64 0, .int .i64 0, .int .i64 0, .int .i64 0, .int .i64 0, .int .i64 0, .int .i64 0, .int .i64 0, .int .i64 0, .int .i64 0] 38)) b0 = some (.cells #[.int .i64 0, .int .i64 0, .int .i64 0, .int .i64 0, .int .i64 0, .int .i64 0, .int .i64 0, .int .i64 0, .int .i64 0, .int .i64 0, .int .i64 0, .int .i64 0, .int .i64 0, .int .i64 0] 38) := (Mm.le_refl _) _ _ (Mm.upd_same _ _ _)
  replace hn0 : M b0 = none := Mm.none_of (Mm.le_refl _) hn0
  generalize (M.upd b0 (.cells #[.int .i64 0, .int .i64 0, .int .i64 0, .int .i64 0, .int .i64 0, .int .i64 0, .int .i64 0, .int .i64 0, .int .i64 0, .int .i64 0, .int .i64 0, .int .i64 0, .int .i64 0, .int .i64 0] 38)) = M2 at h hle2 hb0
  go_wp2_with (first
    | ((refine wpList_build_has rfl 38 _ rfl oneR (by kernel_rfl) ?_; try simp only [Act.put, List.setIfInBounds_toArray, List.set_cons_zero, List.set_cons_succ]))
    | ((refine wpList_storeAll_has (cells := oneR) h rfl 38 _ _ rfl rfl rfl hb0 rfl rfl rfl (by kernel_rfl) rfl ?_; clear h; intro w h)))
  exact bodyPost_ret (results_c1 rfl (CellRes.of h (Mm.upd_same _ _ _) rfl Tryz.underlying38 rfl (by kernel_rfl))) rfl ⟨rfl, h.le (Mm.le_upd hle2 hn0 _)⟩
set_option maxHeartbeats 2000000 in
set_option maxRecDepth 20000 in
theorem find_no {σ w : World} {B : Mm} {n c kk left : Nat} {A : Option Addr} (h : Has σ B w)
    (LG : ∀ (M : Mm) (w : World), B.le M → Has σ M w → Calls Tryz.prog 9 #[.agg oneR, .int .i64 0, .slice A n c] w fun r w' => LookG σ M false kk left r w') :
    Calls Tryz.prog 4 #[.agg oneR, .int .i64 0, .slice A n c] w fun r w' => ∃ (v : Value) (M' : Mm), r = .returned (.tuple #[v, .bool false]) ∧ Has σ M' w' ∧ B.le M' := by
  have oz := oneR_size
  have ox : oneR.extract 0 (0 + 14) = oneR := rfl
  have LG := Lib.hid LG
  generalize oneR = oc at *
  go_enter Tryz.func4, Tryz.ntmps4
  go_upto_region 1 with (first
    | ((with_reducible show wpList _ _ _ ({ dst := _, op := Op.box 38 _, type := _, pos := _, after := _, guard := _ } :: _) _ _); refine wpList_box_has h rfl 38 _ rfl ?_; clear h; intro b3 w h hn3; try simp only [Act.put, List.setIfInBounds_toArray, List.set_cons_zero, List.set_cons_succ]))
  replace hn3 : B b3 = none := hn3
  replace h : Has σ (B.upd b3 (.cells oc 38)) w := h
  have hle1 : B.le (B.upd b3 (.cells oc 38)) := Mm.le_upd' hn3 _
  have hb3 : (B.upd b3 (.cells oc 38)) b3 = some (.cells oc 38) := (Mm.le_refl _) _ _ (Mm.upd_same _ _ _)
  replace hn3 : B b3 = none := Mm.none_of (Mm.le_refl _) hn3
  generalize (B.upd b3 (.cells oc 38)) = B1 at h hle1 hb3
  go_upto_region 2 with (first
    | ((with_reducible show wpList _ _ _ ({ dst := _, op := Op.load 38 _, type := _, pos := _, after := _, guard := _ } :: _) _ _); refine wpList_agg_has h rfl 38 _ rfl rfl hb3 ox oz Tryz.underlying38 rfl (by kernel_rfl) ?_; try simp only [Act.put, List.setIfInBounds_toArray, List.set_cons_zero, List.set_cons_succ])
    | (go_at_call 9; refine (LG.out _ _ hle1 h).mono ?_; clear h; rintro _ w ⟨bf, bm, lv, ov, M', tries, es, clock, rfl, h, hf⟩))
  go_wp2
  go_ret2
  exact ⟨_, M', rfl, h, Mm.le_trans hle1 hf.le⟩
set_option maxHeartbeats 2000000 in
set_option maxRecDepth 20000 in
theorem find_yes {σ w : World} {B : Mm} {n c kk left : Nat} {A : Option Addr} (h : Has σ B w)
    (LG : ∀ (M : Mm) (w : World), B.le M → Has σ M w → Calls Tryz.prog 9 #[.agg oneR, .int .i64 0, .slice A n c] w fun r w' => LookG σ M true kk left r w') :
    Calls Tryz.prog 4 #[.agg oneR, .int .i64 0, .slice A n c] w fun r w' => ∃ (v : Value) (M' : Mm), r = .returned (.tuple #[v, .bool true]) ∧ Has σ M' w' ∧ B.le M' := by
  have oz := oneR_size
  have ox : oneR.extract 0 (0 + 14) = oneR := rfl
  have LG := Lib.hid LG
  generalize oneR = oc at *
  go_enter Tryz.func4, Tryz.ntmps4
  go_upto_region 1 with (first
    | ((with_reducible show wpList _ _ _ ({ dst := _, op := Op.box 38 _, type := _, pos := _, after := _, guard := _ } :: _) _ _); refine wpList_box_has h rfl 38 _ rfl ?_; clear h; intro b3 w h hn3; try simp only [Act.put, List.setIfInBounds_toArray, List.set_cons_zero, List.set_cons_succ]))
  replace hn3 : B b3 = none := hn3
  replace h : Has σ (B.upd b3 (.cells oc 38)) w := h
  have hle1 : B.le (B.upd b3 (.cells oc 38)) := Mm.le_upd' hn3 _
  have hb3 : (B.upd b3 (.cells oc 38)) b3 = some (.cells oc 38) := (Mm.le_refl _) _ _ (Mm.upd_same _ _ _)
  replace hn3 : B b3 = none := Mm.none_of (Mm.le_refl _) hn3
  generalize (B.upd b3 (.cells oc 38)) = B1 at h hle1 hb3
  go_upto_region 2 with (first
    | ((with_reducible show wpList _ _ _ ({ dst := _, op := Op.load 38 _, type := _, pos := _, after := _, guard := _ } :: _) _ _); refine wpList_agg_has h rfl 38 _ rfl rfl hb3 ox oz Tryz.underlying38 rfl (by kernel_rfl) ?_; try simp only [Act.put, List.setIfInBounds_toArray, List.set_cons_zero, List.set_cons_succ])
    | (go_at_call 9; refine (LG.out _ _ hle1 h).mono ?_; clear h; rintro _ w ⟨bf, bm, lv, ov, M', tries, es, clock, rfl, h, hf⟩))
  have hrow := hf.row
  have r2 : (finR lv bm ov left tries)[2]? = some ov := rfl
  obtain ⟨A2, c2, rfl⟩ := hf.own.form
  go_wp2_with (first
    | (with_reducible show wpList _ _ _ ({ dst := _, op := Op.load 33 _, type := _, pos := _, after := _, guard := _ } :: _) _ _; refine wpList_load1_has h rfl 33 _ rfl rfl hrow r2 Tryz.underlying33 rfl ?_))
  go_ret2
  exact ⟨_, M', rfl, h, Mm.le_trans hle1 hf.le⟩
def oP : OpS := ⟨0, 7, 0, 0, 0, 0, 0, 0, 0, 1, 0, 0, 0, 0, 0, 1⟩
theorem nextP : NextO [oP] (rangeI 0) = [((0 : Nat) : Int)] := by decide
theorem told_oP {σ w : World} {M : Mm} (h : Has σ M w) : Calls Tryz.prog 57 #[.agg (stR nilS nilS nilS nilS), .int .i64 0, .agg oP.callO, .agg oP.ansO] w fun r w' => r = .returned (.tuple #[.agg (stR nilS nilS nilS nilS), .bool false]) ∧ Has σ M w' :=
  told_no (stays_any fun _ => True) h nilS nilS nilS nilS 7 0 0 0 0 0 1 0 6 0 0 (.inr rfl) ⟨rfl, rfl, rfl, rfl⟩ (fun M w h => told_7 h _ _ _ _ _ _ _ _ _ _ _) (fun M' w hM h =>
    (line_none h nilS nilS nilS 0 0 0 0 0 ⟨rfl, rfl, rfl, rfl⟩).mono fun r w' ⟨e, h2⟩ => ⟨nilS, M', e, rfl, h2, Mm.le_refl _, trivial⟩) (by decide)
theorem linear_oP {σ w : World} {B : Mm} {c : Nat} {A : Option Addr} (h : Has σ B w) (hrd : Rd B 16 (.slice A 1 c) 1 ([oP].flatMap encO)) :
    Calls Tryz.prog 10 #[.agg oneR, .int .i64 0, .slice A 1 c] w fun r w' => r = .returned (.bool false) ∧ Has σ B w' := by
  have hst : StRow (stR nilS nilS nilS nilS) := ⟨stR_size _ _ _ _, stR_one one4_nil⟩
  refine linear_of h false fun M w hM h => (find_no (kk := 0) (left := 1) h fun M1 w h1 h => ?_).mono fun r w' ⟨v, M', e, h', hl⟩ => ⟨v, M', e, h', Mm.le_trans hM hl⟩
  have hrd1 := hrd.le (Mm.le_trans hM h1)
  refine look_by (l := [oP]) (n := 1) h rfl (by decide) hrd1 (fun i y hy => ?_) false 0 1 fun M2 bf bm w hBf hBm hne h hf => ?_
  · cases i with
    | zero => cases hy; decide
    | succ i => cases hy
  · have := from_no (k := 0) (n := 1) h hf hBf hBm hne rfl (by omega) (by omega) (by omega) hrd1 nextP (fun x hx => by cases hx) fun M3 ck w h hf => one_no (n := 1) (k := 0) h hf (by decide) hrd1 oP rfl _ hst _ (fun _ => True) fun M4 w h4 h => step_told h _ false _ oP (by decide) hst fun M5 w h5 h => (told_oP h).mono fun r w' ⟨e, h'⟩ => ⟨_, M5, e, hst, trivial, h', Mm.le_refl _⟩
    simpa using this
end
section
open Go.RowKit
set_option linter.unusedVariables false
set_option linter.unusedSimpArgs false
set_option linter.unnecessarySimpa false
section
variable {σ w : World} {M : Mm}
set_option maxHeartbeats 1000000 in
theorem told_0 (h : Has σ M w) (lv ky pa pb ha rg xa xb xh n xk : Int) : Calls Tryz.prog 92 #[.agg (callR 0 lv ky pa pb ha rg), .agg (ansR 0 xa xb xh n xk)] w fun r w' => r = .returned (.agg (ansR 0 0 0 0 0 0)) ∧ Has σ M w' := by
  have hq : Calls Tryz.prog 92 #[.agg (callR 0 lv ky pa pb ha rg), .agg (ansR 0 xa xb xh n xk)] w fun r w' => r = .returned (.agg (ansR 0 0 0 0 0 0)) ∧ Below w.heap.size w w' := by
    clear h
    unfold callR ansR
    go_enter Tryz.func92, Tryz.ntmps92
    go_wp2
    exact bodyPost_ret (v := .agg (ansR 0 0 0 0 0 0)) (by simp [results, Tryz.results92, go_sem, ansR]) rfl ⟨rfl, by repeat (first | with_reducible exact Below.refl _ _ | with_reducible refine Below.drew ?_ | with_reducible refine below_put ?_ (by omega) _ | with_reducible refine Below.alloc ?_ (by simp <;> omega) _)⟩
  exact hq.mono fun _ _ ⟨h1, h2⟩ => ⟨h1, h.below h2⟩
set_option maxHeartbeats 1000000 in
theorem fine_0 (h : Has σ M w) (lv ky pa pb ha rg xa xb xh xk : Int) : Calls Tryz.prog 93 #[.agg (callR 0 lv ky pa pb ha rg), .agg (ansR 0 xa xb xh 0 xk)] w fun r w' => r = .returned (.bool true) ∧ Has σ M w' := by
  have hq : Calls Tryz.prog 93 #[.agg (callR 0 lv ky pa pb ha rg), .agg (ansR 0 xa xb xh 0 xk)] w fun r w' => r = .returned (.bool true) ∧ Below w.heap.size w w' := by
    clear h
    unfold callR ansR
    go_enter Tryz.func93, Tryz.ntmps93
    go_wp2
    go_ret
    exact ⟨rfl, by repeat (first | with_reducible exact Below.refl _ _ | with_reducible refine Below.drew ?_ | with_reducible refine below_put ?_ (by omega) _ | with_reducible refine Below.alloc ?_ (by simp <;> omega) _)⟩
  exact hq.mono fun _ _ ⟨h1, h2⟩ => ⟨h1, h.below h2⟩
def oT : OpS := ⟨0, 0, 0, 0, 0, 0, 0, 0, 0, 0, 0, 0, 0, 0, 0, 1⟩
theorem nextT : NextO [oT] (rangeI 0) = [((0 : Nat) : Int)] := by decide
theorem told_oT (h : Has σ M w) : Calls Tryz.prog 57 #[.agg (stR nilS nilS nilS nilS), .int .i64 0, .agg oT.callO, .agg oT.ansO] w fun r w' => ToldG (fun _ _ _ => True) (fun se => stR se nilS nilS nilS) σ M r w' :=
  told_put h nilS nilS nilS 0 0 0 0 0 one4_nil fun M w h => fits_ok h 0 0 0 0 0 0 0 0 ⟨by omega, by omega⟩ (fun M w h => told_0 h 0 0 0 0 0 0 0 0 0 0 0) (fun M w h => fine_0 h 0 0 0 0 0 0 0 0 0 0)
end
theorem linear_oT {σ w : World} {B : Mm} {c : Nat} {A : Option Addr} (h : Has σ B w) (hrd : Rd B 16 (.slice A 1 c) 1 ([oT].flatMap encO)) :
    Calls Tryz.prog 10 #[.agg oneR, .int .i64 0, .slice A 1 c] w fun r w' => r = .returned (.bool true) ∧ Has σ B w' := by
  have hst : StRow (stR nilS nilS nilS nilS) := ⟨stR_size _ _ _ _, stR_one one4_nil⟩
  refine linear_of h true fun M w hM h => (find_yes (kk := 1) (left := 0) h fun M1 w h1 h => ?_).mono fun r w' ⟨v, M', e, h', hl⟩ => ⟨v, M', e, h', Mm.le_trans hM hl⟩
  have hrd1 := hrd.le (Mm.le_trans hM h1)
  refine look_by (l := [oT]) (n := 1) h rfl (by decide) hrd1 (fun i y hy => ?_) true 1 0 fun M2 bf bm w hBf hBm hne h hf => ?_
  · cases i with
    | zero => cases hy; decide
    | succ i => cases hy
  · have := from_next (k := 0) (n := 1) h hf hBf hBm hne rfl (by decide) (by decide) (by decide) hrd1 nextT (fun x hx => by cases hx) fun M3 ck w h hf => one_yes (n := 1) (k := 0) h hf hBf hBm hne rfl (by decide) (by decide) hrd1 oT rfl (by decide) _ hst (fun _ => True) (fun M4 w h4 h => step_told h _ true _ oT (by decide) hst fun M5 w h5 h => (told_oT h).mono fun r w' ⟨q', M6, e, hq, h', hl, _⟩ => ⟨_, M6, e, ⟨stR_size _ _ _ _, stR_one ⟨hq, one4_nil.2⟩⟩, trivial, h', hl⟩) fun rs' M4 ov' w _ hst' h hf => from_done (n := 1) h hf hBf hne rs' _ (by decide)
    have h2 := by simpa using this
    exact h2
end
section
open Go.RowKit
set_option linter.unusedVariables false
set_option linter.unusedSimpArgs false
set_option linter.unnecessarySimpa false
theorem info_op17 : (Tryz.prog.info? 32).map (fun i => (i.zero, i.size, i.bytes)) = some (some (.agg (OpS.row ⟨0, 0, 0, 0, 0, 0, 0, 0, 0, 0, 0, 0, 0, 0, 0, 0⟩)), 16, 128) := by kernel_rfl
theorem wpList_build_g {P : Program} {ops : Array Oper} {rest : List Oper} {op : Oper} {a : Act} {w : World} {Q : Exit → Act → World → Prop} (hg : Region.wanted op (yielded ops a.tmps) = true) (t : TypeId) (parts : Array (Nat × Operand)) (ho : op.op = .build t parts) (cells : Array Value) (h : P.built t (parts.map fun (i, x) => (i, a.eval x)).toList = some cells)
    (hk : wpList P ops Q rest (a.put op.dst (.agg cells)) w) : wpList P ops Q (op :: rest) a w :=
  BigFrame.wpList_want hg fun _ hK => by
    unfold Oper.wp
    rw [exec_build t parts ho cells h w]
    exact hK _ _ hk
theorem wpList_litn_g {P : Program} {ops : Array Oper} {rest : List Oper} {op : Oper} {a : Act} {w : World} {Q : Exit → Act → World → Prop} {e : TypeId} {z : Value} {size bytes : Nat} {cells : Array Value} (hg : Region.wanted op (yielded ops a.tmps) = true) (t : TypeId) (n : Nat) (parts : Array (Nat × Operand)) (vs : List (Nat × Value)) (ho : op.op = .buildSlice t n parts) (hu : P.underlying t = some (.slice e)) (hi : (P.info? e).map (fun i => (i.zero, i.size, i.bytes)) = some (some z, size, bytes)) (hv : (parts.map fun (i, x) => (i, a.eval x)).toList = vs) (hs : 0 < n * size) (hs2 : n * size ≤ 1000) (hf : Instr.fill (fun i => some (i * size, size)) ((Array.range (n * size)).map (z.cells[· % z.cells.size]!)) vs = some cells)
    (hk : wpList P ops Q rest (a.put op.dst (.slice (some ⟨w.heap.size, 0, none⟩) n n)) (w.alloc (.cells cells e))) : wpList P ops Q (op :: rest) a w :=
  BigFrame.wpList_want hg fun _ hK => by
    obtain ⟨i, hi1, hz, hsize, hby⟩ := info_parts hi
    subst hsize
    refine wp_buildSlice t e n parts ho cells i z hu hi1 hz (by omega) (by omega) ?_ (hK _ _ hk)
    rw [hv]
    exact hf
theorem rd_one {M : Mm} {b : Nat} (y : OpS) (hb : M b = some (.cells y.row 32)) : Rd M 16 (.slice (some ⟨b, 0, none⟩) 1 1) 1 ([y].flatMap encO) :=
  ⟨rfl, _, 1, rfl, Nat.le_refl _, fun _ => ⟨b, 0, y.row, 32, (0, 0), rfl, hb, fun j u hu => by
    rw [Nat.zero_add]
    have e : [y].flatMap encO = y.row.toList := by simp [encO]
    rw [e] at hu
    simpa using hu⟩⟩
set_option maxHeartbeats 2000000 in
set_option maxRecDepth 20000 in
theorem lives17_eq {σ w : World} {M : Mm} (h : Has σ M w) : Calls Tryz.prog 7 #[] w fun r w' => r = .returned (.bool true) ∧ Has σ M w' := by
  go_enter Tryz.func7, Tryz.ntmps7
  go_upto_region 2 with (first
    | ((with_reducible show wpList _ _ _ ({ dst := some 2, op := _, type := _, pos := _, after := _, guard := _ } :: _) _ _); (refine wpList_build_has rfl 27 _ rfl (callR 7 0 0 0 0 0 0) (by kernel_rfl) ?_; try simp only [Act.put, List.setIfInBounds_toArray, List.set_cons_zero, List.set_cons_succ]))
    | ((with_reducible show wpList _ _ _ ({ dst := some 3, op := _, type := _, pos := _, after := _, guard := _ } :: _) _ _); (refine wpList_build_has rfl 25 _ rfl #[.int .u64 1, .int .u64 0] (by kernel_rfl) ?_; try simp only [Act.put, List.setIfInBounds_toArray, List.set_cons_zero, List.set_cons_succ]))
    | ((with_reducible show wpList _ _ _ ({ dst := some 4, op := _, type := _, pos := _, after := _, guard := _ } :: _) _ _); (refine wpList_build_has rfl 30 _ rfl (ansR 0 1 0 0 0 0) (by kernel_rfl) ?_; try simp only [Act.put, List.setIfInBounds_toArray, List.set_cons_zero, List.set_cons_succ]))
    | ((with_reducible show wpList _ _ _ ({ dst := some 5, op := _, type := _, pos := _, after := _, guard := _ } :: _) _ _); (refine wpList_build_has rfl 32 _ rfl oP.row (by kernel_rfl) ?_; try simp only [Act.put, List.setIfInBounds_toArray, List.set_cons_zero, List.set_cons_succ]))
    | ((with_reducible show wpList _ _ _ ({ dst := some 6, op := _, type := _, pos := _, after := _, guard := _ } :: _) _ _); (refine wpList_litn_has (cells := oP.row) h rfl 22 1 _ [(0, .agg oP.row)] rfl Tryz.underlying22 info_op17 (by simp only [List.map_toArray, List.map_cons, List.map_nil]; rfl) (by decide) (by decide) (by kernel_rfl) ?_; clear h; intro b6 w h hn6)))
  have hle6 := Mm.le_upd' hn6 (.cells oP.row 32)
  have HR := Lib.hid (rd_one oP (Mm.upd_same M b6 (.cells oP.row 32)))
  generalize M.upd b6 (.cells oP.row 32) = M1 at *
  have ON := Lib.hid (fun (w : World) (h : Has σ M1 w) => one17_eq h)
  have LP : Hid (∀ w, Has σ M1 w → Calls Tryz.prog 10 #[.agg oneR, .int .i64 0, .slice (some ⟨b6, 0, none⟩) 1 1] w fun r w' => r = .returned (.bool false) ∧ Has σ M1 w') := fun w h => linear_oP h HR.out
  have LT : Hid (∀ w, Has σ M1 w → Calls Tryz.prog 10 #[.agg oneR, .int .i64 0, .slice (some ⟨w.heap.size, 0, none⟩) 1 1] (w.alloc (.cells oT.row 32)) fun r w' => r = .returned (.bool true) ∧ Has σ M1 w') := fun w h => (linear_oT (h.alloc _) (rd_one oT (Mm.upd_same _ _ _))).mono fun _ _ ⟨e, h2⟩ => ⟨e, h2.le (Mm.le_upd' h.fresh _)⟩
  clear HR
  go_wp2_with (first
    | (go_at_call 5; go_loud (refine (ON.out _ h).mono ?_); clear h; rintro _ w ⟨rfl, h⟩)
    | ((go_at_call 10; refine (LP.out _ h).mono ?_; clear h; rintro _ w ⟨rfl, h⟩))
    | ((go_at_call 10; refine (LT.out _ h).mono ?_; clear h; rintro _ w ⟨rfl, h⟩))
    | ((with_reducible show wpList _ _ _ ({ dst := some 13, op := _, type := _, pos := _, after := _, guard := _ } :: _) _ _); (refine wpList_build_g (by kernel_rfl) 32 _ rfl oT.row (by kernel_rfl) ?_; try simp only [Act.put, List.setIfInBounds_toArray, List.set_cons_zero, List.set_cons_succ]))
    | ((with_reducible show wpList _ _ _ ({ dst := some 14, op := _, type := _, pos := _, after := _, guard := _ } :: _) _ _); (refine wpList_litn_g (cells := oT.row) (by kernel_rfl) 22 1 _ [(0, .agg oT.row)] rfl Tryz.underlying22 info_op17 (by simp only [List.map_toArray, List.map_cons, List.map_nil]; rfl) (by decide) (by decide) (by kernel_rfl) ?_; clear LP)))
  go_ret
  exact ⟨rfl, h.le hle6⟩
end
end Go.Proofs.YtjnhklhgcbknkaaGreatDoor
