/- Layer 4: the threads of a level, whatever number the level is. -/
import Derived.Test.YtmfpablmmjaccaaGreatDoorRefLevel
import Derived.Test.YtmfpablmmjaccaaGreatDoorConfLevel
import Derived.Test.YtmfpablmmjaccaaGreatDoorLevT
import Derived.Test.YtmfpablmmjaccaaGreatDoorCom
import Derived.Test.YtmfpablmmjaccaaGreatDoorPut1
namespace Go.Proofs.YtmfpablmmjaccaaGreatDoor
open Go.RowKit
set_option linter.unusedVariables false
set_option linter.unusedSimpArgs false
set_option linter.unnecessarySimpa false
/-- The threads of a level, by a configuration's cells. -/
def atCi (c : Nat → Int) (T : Nat) (lv : Int) : List Nat := (List.range T).filter fun t => c (2 + t) == lv
theorem atCi_succ (c : Nat → Int) (k : Nat) (lv : Int) : atCi c (k + 1) lv = if c (2 + k) == lv then atCi c k lv ++ [k] else atCi c k lv := by
  unfold atCi
  rw [List.range_succ, List.filter_append]
  cases h : (c (2 + k) == lv) <;> simp [h]
theorem atCi_le (c : Nat → Int) (k : Nat) (lv : Int) : (atCi c k lv).length ≤ k := by
  unfold atCi
  exact Nat.le_trans (List.length_filter_le _ _) (by simp)
section
variable {σ w : World} {M : Mm}
theorem atWanti_eq (h : Has σ M w) {bl : Nat} {lv x : Int} (hb : M bl = some (.cells #[.int .i64 lv] 3)) : Calls Tryz.prog 52 #[.int .i64 x, .pointer (some ⟨bl, 0, none⟩)] w fun r w' => r = .returned (.bool (x == lv)) ∧ Has σ M w' := by
  have e0 : (#[.int .i64 lv] : Array Value)[0]? = some (.int .i64 lv) := rfl
  go_enter Tryz.func52, Tryz.ntmps52
  go_wp2_with (first
    | (with_reducible show wpList _ _ _ ({ dst := _, op := Op.load 3 _, type := _, pos := _, after := _, guard := _ } :: _) _ _; go_loud (refine wpList_load1_has h rfl 3 _ rfl rfl hb e0 Tryz.underlying3 rfl ?_)))
  go_ret
  exact ⟨rfl, h⟩
set_option maxHeartbeats 2000000 in
set_option maxRecDepth 20000 in
theorem confThosei_eq (h : Has σ M w) (c : Nat → Int) (hm : confMayB c = true) {T : Nat} (hT : c 1 = (T : Nat)) {lv : Int} {bl : Nat} (hb : M bl = some (.cells #[.int .i64 lv] 3)) : Calls Tryz.prog 51 #[confV c, .func (.func 52) #[] #[.pointer (some ⟨bl, 0, none⟩)]] w fun r w' => ∃ v, r = .returned v ∧ Acc σ M w' 3 1 v (atCi c T lv).length (natv (atCi c T lv)) := by
  have hc := confMay_of hm
  have hT8 : 1 ≤ T ∧ T ≤ 8 := by have := hc.2.1; omega
  have hx : (ints .i64 14 c).extract 0 (0 + 14) = ints .i64 14 c := rfl
  have hz : (ints .i64 14 c).size = 14 := rfl
  have r1 : (ints .i64 14 c)[1]? = some (.int .i64 (T : Nat)) := by rw [← hT]; rfl
  have MY : Hid (∀ (M' : Mm) (w : World), Has σ M' w → Calls Tryz.prog 37 #[confV c] w fun e w' => e = .returned (.bool (confMayB c)) ∧ Has σ M' w') := Lib.hid fun M' w h => (confMay_any c w).mono fun e w' ⟨h1, h2⟩ => ⟨h1, h.below h2⟩
  rw [hm] at MY
  have G : Hid (∀ t, t < T → (ints .i64 14 c)[2 + t]? = some (.int .i64 (c (2 + t)))) := Lib.hid fun t ht => ints_get (by omega)
  unfold confV at MY ⊢
  generalize ints .i64 14 c = row at *
  clear hm hc hT
  go_enter Tryz.func51, Tryz.ntmps51
  go_upto_region 1 with (fail)
  obtain ⟨M1, hbx, hle, hbf, hnf⟩ := h.box (.cells row 24)
  generalize w.alloc _ = wx at hbx ⊢
  generalize w.heap.size = bf at hbf hnf ⊢
  clear h
  try clear w
  have h := hbx
  clear hbx
  obtain ⟨w, rfl⟩ : ∃ x : World, x = wx := ⟨_, rfl⟩
  have hbl := hle _ _ hb
  go_upto_region 5 with (first
    | ((with_reducible show wpList _ _ _ ({ dst := _, op := Op.load 24 _, type := _, pos := _, after := _, guard := _ } :: _) _ _); go_loud (refine wpList_agg_has h rfl 24 _ rfl rfl hbf hx hz Tryz.underlying24 rfl (by kernel_rfl) ?_); try simp only [Act.put, List.setIfInBounds_toArray, List.set_cons_zero, List.set_cons_succ])
    | (go_at_call 37; go_loud (refine (MY.out _ _ h).mono ?_); clear h; rintro _ w ⟨rfl, h⟩)
    | (with_reducible show wpList _ _ _ ({ dst := _, op := Op.load 3 _, type := _, pos := _, after := _, guard := _ } :: _) _ _; go_loud (refine wpList_load1_has h rfl 3 _ rfl rfl hbf r1 Tryz.underlying3 rfl ?_)))
  go_loopw [5, 6, 12] (fun o _ u wr => ∃ k : Nat, k ≤ T ∧ u = .int .i64 (k : Nat) ∧ Acc σ M1 wr 3 1 o (atCi c k lv).length (natv (atCi c k lv))) (fun _ _ u _ => T - (intOf u).toNat)
  case atStart => exact ⟨0, Nat.zero_le _, rfl, Acc.nil h _ _⟩
  case round =>
    clear h w
    obtain ⟨w, rfl⟩ : ∃ x : World, x = wr := ⟨_, rfl⟩
    obtain ⟨k, hk, rfl, M2, h, hle2, hown⟩ := hrel
    have hbf2 := hle2 _ _ hbf
    have hbl2 := hle2 _ _ hbl
    obtain ⟨Ao, co, rfl⟩ := hown.form
    by_cases hlt : k < T
    · have gk := G.out k hlt
      have hlt' : (k : Int) < (T : Int) := by omega
      have hk8 : (k : Int) < 8 := by omega
      have wk : IntKind.i64.wrap ((k : Int) + 1) = ((k + 1 : Nat) : Int) := by rw [show (k : Int) + 1 = ((k + 1 : Nat) : Int) by omega]; exact IntWalk.i64_in _ (by omega)
      have WT := Lib.hid (fun (w : World) (h : Has σ M2 w) => atWanti_eq (x := c (2 + k)) h hbl2)
      have SU := Lib.hid (atCi_succ c k lv)
      have HLT := Lib.hid hlt
      have hle8 := atCi_le c k lv
      clear hlt hk
      obtain ⟨b, hbb⟩ : ∃ b : Bool, (c (2 + k) == lv) = b := ⟨_, rfl⟩
      rw [hbb] at WT SU
      clear hbb
      generalize hal : atCi c k lv = al at *
      clear hal
      obtain ⟨nl, hnl⟩ : ∃ nl, al.length = nl := ⟨_, rfl⟩
      rw [hnl] at hown hle8
      have HNL := Lib.hid hnl
      rw [hnl]
      clear hnl
      cases b
      · go_wp2_with (first
          | (with_reducible show wpList _ _ _ ({ dst := _, op := Op.load 3 _, type := _, pos := _, after := _, guard := _ } :: _) _ _; go_loud (refine wpList_load1_has h rfl 3 _ rfl rfl hbf2 gk Tryz.underlying3 rfl ?_))
          | ((go_at_call 52; refine (WT.out _ h).mono ?_; clear h; rintro _ w ⟨rfl, h⟩)))
        go_roundw
        case rel => exact ⟨k + 1, by have := HLT.out; omega, by go_num, by rw [SU.out, if_neg (by decide), HNL.out]; exact ⟨M2, h, hle2, hown⟩⟩
        case measure => have := HLT.out; simp [intOf]; omega
      · go_wp2_with (first
          | (with_reducible show wpList _ _ _ ({ dst := _, op := Op.load 3 _, type := _, pos := _, after := _, guard := _ } :: _) _ _; go_loud (refine wpList_load1_has h rfl 3 _ rfl rfl hbf2 gk Tryz.underlying3 rfl ?_))
          | ((go_at_call 52; refine (WT.out _ h).mono ?_; clear h; rintro _ w ⟨rfl, h⟩))
          | (at_builtin; go_loud (refine wpList_append_lit h hle2 rfl _ _ _ rfl rfl Tryz.underlying33 info_int rfl (by omega) rfl hown rfl rfl rfl (by omega) (by omega) ?_); clear h hle2 hown; intro v w hacc))
        go_roundw
        case rel => exact ⟨k + 1, by have := HLT.out; omega, by go_num, by rw [SU.out, if_pos (by decide), natv_snoc', List.length_append, HNL.out]; exact hacc⟩
        case measure => have := HLT.out; simp [intOf]; omega
    · obtain rfl : k = T := by omega
      have hlt' : ¬ (k : Int) < (k : Int) := by omega
      go_wp2
      go_ret
      exact ⟨_, rfl, M2, h, Mm.le_trans hle hle2, hown.base fun b hb => Mm.none_of hle hb⟩
theorem confAti_eq (h : Has σ M w) (c : Nat → Int) (hm : confMayB c = true) {T : Nat} (hT : c 1 = (T : Nat)) (lv : Int) : Calls Tryz.prog 31 #[confV c, .int .i64 lv] w fun r w' => ∃ v, r = .returned v ∧ Acc σ M w' 3 1 v (atCi c T lv).length (natv (atCi c T lv)) := by
  have hx : (ints .i64 14 c).extract 0 (0 + 14) = ints .i64 14 c := rfl
  have hz : (ints .i64 14 c).size = 14 := rfl
  have TH := Lib.hid (fun (M' : Mm) (w : World) (bl : Nat) (h : Has σ M' w) (hb : M' bl = some (.cells #[.int .i64 lv] 3)) => confThosei_eq h c hm hT hb)
  unfold confV at TH ⊢
  generalize ints .i64 14 c = row at *
  generalize natv (atCi c T lv) = xs at *
  generalize (atCi c T lv).length = nl at *
  clear hm hT
  go_enter Tryz.func31, Tryz.ntmps31
  go_upto_region 1 with (fail)
  obtain ⟨M', hbx, hle, hb1, hb2, hn1, hn2⟩ := h.box2 (.cells row 24) (.cells #[.int .i64 lv] 3)
  generalize (w.alloc _).alloc _ = wx at hbx ⊢
  have hne_b1_b2 : w.heap.size ≠ w.heap.size + 1 := Nat.ne_of_lt (Nat.lt_succ_self _)
  generalize w.heap.size + 1 = b2 at hb2 hn2 hne_b1_b2 ⊢
  generalize w.heap.size = b1 at hb1 hn1 hne_b1_b2 ⊢
  clear h
  try clear w
  have h := hbx
  clear hbx
  obtain ⟨w, rfl⟩ : ∃ x : World, x = wx := ⟨_, rfl⟩
  go_wp2_with (first
    | ((with_reducible show wpList _ _ _ ({ dst := _, op := Op.load 24 _, type := _, pos := _, after := _, guard := _ } :: _) _ _); go_loud (refine wpList_agg_has h rfl 24 _ rfl rfl hb1 hx hz Tryz.underlying24 rfl (by kernel_rfl) ?_); try simp only [Act.put, List.setIfInBounds_toArray, List.set_cons_zero, List.set_cons_succ])
    | ((go_at_call 51; refine (TH.out _ _ _ h hb2).mono ?_; clear h; rintro _ w ⟨v, rfl, M5, h, hle5, hown⟩)))
  go_ret
  exact ⟨v, rfl, M5, h, Mm.le_trans hle hle5, hown.base fun b hb => Mm.none_of hle hb⟩
end
/-- The threads of a level among the first k, as the document finds them. -/
def atRi (c : Nat → Int) (l : Int) (k : Nat) : List Nat := (List.range k).filter fun t => decide (0 ≤ levelOf c (t : Nat)) && levelOf c (t : Nat) == l
theorem atRi_succ (c : Nat → Int) (l : Int) (k : Nat) : atRi c l (k + 1) = if (decide (0 ≤ levelOf c (k : Nat)) && levelOf c (k : Nat) == l) = true then atRi c l k ++ [k] else atRi c l k := by
  unfold atRi
  rw [List.range_succ, List.filter_append]
  cases h : (decide (0 ≤ levelOf c (k : Nat)) && levelOf c (k : Nat) == l) <;> simp [h]
theorem atRi_le (c : Nat → Int) (l : Int) (k : Nat) : (atRi c l k).length ≤ k := by
  unfold atRi
  exact Nat.le_trans (List.length_filter_le _ _) (by simp)
theorem atRi_all {c : Nat → Int} {L B S T : Nat} {l : Int} (hc : ConfMay c) (hn : Nums c L B S) (hT : c 1 = (T : Nat)) : atRi c l 8 = atCi c T l := by
  have h8 : T ≤ 8 := by have := hc.2.1; omega
  have key : ∀ m, T + m ≤ 8 → atRi c l (T + m) = atRi c l T := fun m => by
    induction m with
    | zero => intro _; rfl
    | succ m ih =>
      intro hm
      rw [← Nat.add_assoc, atRi_succ, levT_out hT (by omega), if_neg (by simp)]
      exact ih (by omega)
  have e : T + (8 - T) = 8 := by omega
  have := key (8 - T) (by omega)
  rw [e] at this
  rw [this]
  unfold atRi atCi
  refine List.filter_congr fun t ht => ?_
  rw [lev_cell hc hn hT (List.mem_range.1 ht), (levT_of hc hn hT (List.mem_range.1 ht)).1]
  simp
section
variable {σ w : World} {M : Mm}
set_option maxHeartbeats 2000000 in
set_option maxRecDepth 20000 in
theorem refAti_eq (h : Has σ M w) (c : Nat → Int) (l : Int) : Calls Tryz.prog 7 #[confV c, .int .i64 l, .int .i64 l] w fun r w' => ∃ v, r = .returned v ∧ Acc σ M w' 3 1 v (atRi c l 8).length (natv (atRi c l 8)) := by
  have hx : (ints .i64 14 c).extract 0 (0 + 14) = ints .i64 14 c := rfl
  have hz : (ints .i64 14 c).size = 14 := rfl
  have LV := Lib.hid (fun (M' : Mm) (w : World) (t : Int) (h : Has σ M' w) => refLevel_has h c t)
  unfold confV at LV ⊢
  generalize ints .i64 14 c = row at *
  go_enter Tryz.func7, Tryz.ntmps7
  go_upto_region 1 with (fail)
  obtain ⟨M1, hbx, hle, hbf, hnf⟩ := h.box (.cells row 24)
  generalize w.alloc _ = wx at hbx ⊢
  generalize w.heap.size = bf at hbf hnf ⊢
  clear h
  try clear w
  have h := hbx
  clear hbx
  obtain ⟨w, rfl⟩ : ∃ x : World, x = wx := ⟨_, rfl⟩
  go_upto_region 3 with (fail)
  go_loopw [7, 8] (fun o u wr => ∃ k : Nat, k ≤ 8 ∧ u = .int .i64 (k : Nat) ∧ Acc σ M1 wr 3 1 o (atRi c l k).length (natv (atRi c l k))) (fun _ u _ => 8 - (intOf u).toNat)
  case atStart => exact ⟨0, Nat.zero_le _, rfl, Acc.nil h _ _⟩
  case round =>
    clear h w
    obtain ⟨w, rfl⟩ : ∃ x : World, x = wr := ⟨_, rfl⟩
    obtain ⟨k, hk, rfl, M2, h, hle2, hown⟩ := hrel
    have hbf2 := hle2 _ _ hbf
    obtain ⟨Ao, co, rfl⟩ := hown.form
    by_cases hlt : k < 8
    · have hlt' : (k : Int) < 8 := by omega
      have wk : IntKind.i64.wrap ((k : Int) + 1) = ((k + 1 : Nat) : Int) := by rw [show (k : Int) + 1 = ((k + 1 : Nat) : Int) by omega]; exact IntWalk.i64_in _ (by omega)
      have LV2 := Lib.hid (fun (w : World) (h : Has σ M2 w) => LV.out M2 w (k : Nat) h)
      have SU := Lib.hid (atRi_succ c l k)
      have HLT := Lib.hid hlt
      have hle8 := atRi_le c l k
      clear hlt hk
      generalize hlk : levelOf c (k : Nat) = lk at *
      clear hlk
      generalize hal : atRi c l k = al at *
      clear hal
      obtain ⟨nl, hnl⟩ : ∃ nl, al.length = nl := ⟨_, rfl⟩
      rw [hnl] at hown hle8
      have HNL := Lib.hid hnl
      rw [hnl]
      clear hnl
      by_cases g0 : 0 ≤ lk
      · by_cases g1 : l ≤ lk
        · by_cases g2 : lk ≤ l
          · have CD : Hid ((decide (0 ≤ lk) && lk == l) = true) := Lib.hid (by simp; omega)
            go_wp2_with (first
              | ((with_reducible show wpList _ _ _ ({ dst := _, op := Op.load 24 _, type := _, pos := _, after := _, guard := _ } :: _) _ _); go_loud (refine wpList_agg_has h rfl 24 _ rfl rfl hbf2 hx hz Tryz.underlying24 rfl (by kernel_rfl) ?_); try simp only [Act.put, List.setIfInBounds_toArray, List.set_cons_zero, List.set_cons_succ])
              | (go_at_call 23; go_loud (refine (LV2.out _ h).mono ?_); clear h; rintro _ w ⟨rfl, h⟩)
              | (at_builtin; go_loud (refine wpList_append_lit h hle2 rfl _ _ _ rfl rfl Tryz.underlying33 info_int rfl (by omega) rfl hown rfl rfl rfl (by omega) (by omega) ?_); clear h hle2 hown; intro v w hacc))
            go_roundw
            case rel => exact ⟨k + 1, by have := HLT.out; omega, by go_num, by rw [SU.out, if_pos CD.out, natv_snoc', List.length_append, HNL.out]; exact hacc⟩
            case measure => have := HLT.out; simp [intOf]; omega
          · have CD : Hid (¬ (decide (0 ≤ lk) && lk == l) = true) := Lib.hid (by simp; omega)
            go_wp2_with (first
              | ((with_reducible show wpList _ _ _ ({ dst := _, op := Op.load 24 _, type := _, pos := _, after := _, guard := _ } :: _) _ _); go_loud (refine wpList_agg_has h rfl 24 _ rfl rfl hbf2 hx hz Tryz.underlying24 rfl (by kernel_rfl) ?_); try simp only [Act.put, List.setIfInBounds_toArray, List.set_cons_zero, List.set_cons_succ])
              | (go_at_call 23; go_loud (refine (LV2.out _ h).mono ?_); clear h; rintro _ w ⟨rfl, h⟩))
            go_roundw
            case rel => exact ⟨k + 1, by have := HLT.out; omega, by go_num, by rw [SU.out, if_neg CD.out, HNL.out]; exact ⟨M2, h, hle2, hown⟩⟩
            case measure => have := HLT.out; simp [intOf]; omega
        · have CD : Hid (¬ (decide (0 ≤ lk) && lk == l) = true) := Lib.hid (by simp; omega)
          go_wp2_with (first
            | ((with_reducible show wpList _ _ _ ({ dst := _, op := Op.load 24 _, type := _, pos := _, after := _, guard := _ } :: _) _ _); go_loud (refine wpList_agg_has h rfl 24 _ rfl rfl hbf2 hx hz Tryz.underlying24 rfl (by kernel_rfl) ?_); try simp only [Act.put, List.setIfInBounds_toArray, List.set_cons_zero, List.set_cons_succ])
            | (go_at_call 23; go_loud (refine (LV2.out _ h).mono ?_); clear h; rintro _ w ⟨rfl, h⟩))
          go_roundw
          case rel => exact ⟨k + 1, by have := HLT.out; omega, by go_num, by rw [SU.out, if_neg CD.out, HNL.out]; exact ⟨M2, h, hle2, hown⟩⟩
          case measure => have := HLT.out; simp [intOf]; omega
      · have CD : Hid (¬ (decide (0 ≤ lk) && lk == l) = true) := Lib.hid (by simp; omega)
        go_wp2_with (first
          | ((with_reducible show wpList _ _ _ ({ dst := _, op := Op.load 24 _, type := _, pos := _, after := _, guard := _ } :: _) _ _); go_loud (refine wpList_agg_has h rfl 24 _ rfl rfl hbf2 hx hz Tryz.underlying24 rfl (by kernel_rfl) ?_); try simp only [Act.put, List.setIfInBounds_toArray, List.set_cons_zero, List.set_cons_succ])
          | (go_at_call 23; go_loud (refine (LV2.out _ h).mono ?_); clear h; rintro _ w ⟨rfl, h⟩))
        go_roundw
        case rel => exact ⟨k + 1, by have := HLT.out; omega, by go_num, by rw [SU.out, if_neg CD.out, HNL.out]; exact ⟨M2, h, hle2, hown⟩⟩
        case measure => have := HLT.out; simp [intOf]; omega
    · obtain rfl : k = 8 := by omega
      go_wp2
      go_ret
      exact ⟨_, rfl, M2, h, Mm.le_trans hle hle2, hown.base fun b hb => Mm.none_of hle hb⟩
end
end Go.Proofs.YtmfpablmmjaccaaGreatDoor
