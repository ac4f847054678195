/- The text of a state without anything: the walk. -/
import Derived.Test.YtjnhklhgcbknkaaGreatDoorMoH
namespace Go.Proofs.YtjnhklhgcbknkaaGreatDoor
open Go.RowKit
set_option linter.unusedVariables false
set_option linter.unusedSimpArgs false
set_option linter.unnecessarySimpa false
theorem zset : (Tryz.prog.info? 75).bind (·.zero) = some (.agg set0) := by kernel_rfl
theorem index_set (k : Nat) (hk : k < 2) (w : World) : (Instr.index 76 (.agg (set0 ++ set0)) (.int .i64 (k : Int))).run Tryz.prog w = .ok (.agg set0) w := by
  rcases (by omega : k = 0 ∨ k = 1) with rfl | rfl <;> kernel_rfl
theorem index_way (k : Nat) (hk : k < 4) (w : World) : (Instr.index 73 (.agg ways0) (.int .i64 (k : Int))).run Tryz.prog w = .ok (.agg #[.int .i64 0, .bool false]) w := by
  rcases (by omega : k = 0 ∨ k = 1 ∨ k = 2 ∨ k = 3) with rfl | rfl | rfl | rfl <;> kernel_rfl
set_option maxHeartbeats 4000000 in
set_option maxRecDepth 20000 in
theorem text_0b {σ w : World} (h : Has σ (World.mm σ) w) : Calls Tryz.prog 20 #[.agg (stR nilS nilS nilS nilS)] w fun r w' => r = .returned (.string (zer ⟨#[]⟩ 5)) ∧ Below σ.heap.size σ w' := by
  have hr : (stR nilS nilS nilS nilS).size = 63 := rfl
  have r15 : (stR nilS nilS nilS nilS)[15]? = some nilS := rfl
  have r60 : (stR nilS nilS nilS nilS).extract 60 (60 + 1) = #[nilS] := rfl
  have r61 : (stR nilS nilS nilS nilS)[61]? = some nilS := rfl
  have r62 : (stR nilS nilS nilS nilS)[62]? = some nilS := rfl
  have rs : (stR nilS nilS nilS nilS).extract 16 (16 + 20) = set0 ++ set0 := rfl
  have hσ : ∀ k, World.mm σ k = none → σ.heap.size ≤ k := fun k hk => by
    have : σ.heap[k]? = none := hk
    rwa [Array.getElem?_eq_none_iff] at this
  have HB := Lib.hid (fun w' M' (h : Has σ M' w') (hl : (World.mm σ).le M') => h.toBelow hl)
  have HLT : Hid (∀ k o, World.mm σ k = some o → k < σ.heap.size) := fun k o hk => lt_of_block (show σ.heap[k]? = some o from hk)
  generalize World.mm σ = M at *
  generalize stR nilS nilS nilS nilS = rw at *
  go_enter Tryz.func20, Tryz.ntmps20
  go_upto_region 2 with (first
    | ((with_reducible show wpList _ _ _ ({ dst := _, op := Op.box 85 _, type := _, pos := _, after := _, guard := _ } :: _) _ _); refine wpList_box_has h rfl 85 _ rfl ?_; clear h; intro b1 w h hn1; try simp only [Act.put, List.setIfInBounds_toArray, List.set_cons_zero, List.set_cons_succ])
    | ((with_reducible show wpList _ _ _ ({ dst := _, op := Op.box 110 _, type := _, pos := _, after := _, guard := _ } :: _) _ _); refine wpList_box_has h rfl 110 _ rfl ?_; clear h; intro b w h hnb; try simp only [Act.put, List.setIfInBounds_toArray, List.set_cons_zero, List.set_cons_succ]))
  replace hn1 : M b1 = none := hn1
  replace hnb : (M.upd b1 (.cells rw 85)) b = none := hnb
  replace h : Has σ ((M.upd b1 (.cells rw 85)).upd b (.cells #[.pointer none, .slice none 0 0] 110)) w := h
  have hle2 : M.le ((M.upd b1 (.cells rw 85)).upd b (.cells #[.pointer none, .slice none 0 0] 110)) := Mm.le_trans (Mm.le_upd' hn1 _) (Mm.le_upd' hnb _)
  have hb1 : ((M.upd b1 (.cells rw 85)).upd b (.cells #[.pointer none, .slice none 0 0] 110)) b1 = some (.cells rw 85) := (Mm.le_upd' hnb _) _ _ (Mm.upd_same _ _ _)
  have hbb : ((M.upd b1 (.cells rw 85)).upd b (.cells #[.pointer none, .slice none 0 0] 110)) b = some (.cells #[.pointer none, .slice none 0 0] 110) := (Mm.le_refl _) _ _ (Mm.upd_same _ _ _)
  have n_b1_b : b1 ≠ b := Mm.ne_of hnb ((Mm.le_refl _) _ _ (Mm.upd_same _ _ _))
  replace hnb : M b = none := Mm.none_of (Mm.le_upd' hn1 _) hnb
  replace hn1 : M b1 = none := Mm.none_of (Mm.le_refl _) hn1
  generalize ((M.upd b1 (.cells rw 85)).upd b (.cells #[.pointer none, .slice none 0 0] 110)) = M2 at h hle2 hb1 hbb
  obtain ⟨M3, hw, hle3, hb1, hap⟩ : ∃ M3, WM σ M3 b ⟨#[]⟩ w ∧ M.le M3 ∧ M3 b1 = some (.cells rw 85) ∧ Apart M3 b := by
    have hA : ∀ k o, M.upd b1 (.cells rw 85) k = some o → M2 k = some o := fun k o hk => by
      by_cases e : k = b1
      · subst e
        rw [Mm.upd_same] at hk
        cases hk
        exact hb1
      · rw [Mm.upd_ne e] at hk
        exact hle2 _ _ hk
    have hN : b1 ≠ b := by assumption
    have hC : Apart (M.upd b1 (.cells rw 85)) b := Apart.upd (fun k o hk => .inl (Nat.lt_of_lt_of_le (HLT.out k o hk) (hσ b hnb))) hN (by intro c fz he; cases he)
    exact ⟨M.upd b1 (.cells rw 85), ⟨h.less hA, Wr.of (h.at_ b _ hbb)⟩, Mm.le_upd' hn1 _, Mm.upd_same _ _ _, hC⟩
  have hbs := hσ b hnb
  clear h hσ HLT hle2 hbb hnb hn1
  have LN := Lib.hid (fun (ρ : World) (M : Mm) (w : World) (h : Has ρ M w) => lineLen_0 h)
  obtain ⟨ρ, N, h, hMN, hnb, hback⟩ := hw.root
  have HAP := Lib.hid hap
  have HBK := Lib.hid hback
  have HNB := Lib.hid hnb
  clear hw hap hback hnb
  have l1 : (#[nilS] : Array Value).size = 1 := rfl
  refine wp_region_held_drew (S := Has σ (M3)) (by kernel_rfl) ((HBK.out _ _ h (Mm.le_refl _)).has.drew) (fun hHeld => ?_)
  replace h := h.drew
  generalize w.drew = w at h hHeld ⊢
  refine wpAnyH_take (i := 0) (v := ?_) rfl (by kernel_rfl) (by kernel_rfl) (by kernel_rfl) (fun _ _ _ h => h) (Or.inl ⟨by rfl, ?_⟩) hHeld ?_
  rotate_left
  · (intro wz _; go_simp; try with_reducible rfl)
  try simp only [List.getElem_toArray, List.getElem_cons_succ, List.getElem_cons_zero, Act.put, List.setIfInBounds_toArray, List.set_cons_zero, List.set_cons_succ]
  refine wpAnyH_take (i := 1) (v := ?_) rfl (by kernel_rfl) (by kernel_rfl) (by kernel_rfl) (fun _ _ _ h => h) (Or.inl ⟨by rfl, ?_⟩) hHeld ?_
  rotate_left
  · (intro wz _; go_simp; try with_reducible rfl)
  try simp only [List.getElem_toArray, List.getElem_cons_succ, List.getElem_cons_zero, Act.put, List.setIfInBounds_toArray, List.set_cons_zero, List.set_cons_succ]
  refine wpAnyH_take (i := 2) (v := _) rfl (by kernel_rfl) (by kernel_rfl) (by kernel_rfl) (fun _ _ _ h => h) (yields_load1 rfl 51 _ rfl rfl hb1 r15 Tryz.underlying51 rfl) hHeld ?_
  try simp only [List.getElem_toArray, List.getElem_cons_succ, List.getElem_cons_zero, Act.put, List.setIfInBounds_toArray, List.set_cons_zero, List.set_cons_succ]
  refine wpAnyH_take (i := 3) (v := ?_) rfl (by kernel_rfl) (by kernel_rfl) (by kernel_rfl) (fun _ _ _ h => h) (Or.inl ⟨by rfl, ?_⟩) hHeld ?_
  rotate_left
  · (intro wz _; go_simp; try with_reducible rfl)
  try simp only [List.getElem_toArray, List.getElem_cons_succ, List.getElem_cons_zero, Act.put, List.setIfInBounds_toArray, List.set_cons_zero, List.set_cons_succ]
  refine wpAnyH_take (i := 4) (v := ?_) rfl (by kernel_rfl) (by kernel_rfl) (by kernel_rfl) (fun _ _ _ h => h) (Or.inl ⟨by rfl, ?_⟩) hHeld ?_
  rotate_left
  · (intro wz _; go_simp; try with_reducible rfl)
  try simp only [List.getElem_toArray, List.getElem_cons_succ, List.getElem_cons_zero, Act.put, List.setIfInBounds_toArray, List.set_cons_zero, List.set_cons_succ]
  refine wpAnyH_take (i := 5) (v := ?_) rfl (by kernel_rfl) (by kernel_rfl) (by kernel_rfl) (fun _ _ _ h => h) (Or.inl ⟨by rfl, ?_⟩) hHeld ?_
  rotate_left
  · (intro wz _; go_simp; try with_reducible rfl)
  try simp only [List.getElem_toArray, List.getElem_cons_succ, List.getElem_cons_zero, Act.put, List.setIfInBounds_toArray, List.set_cons_zero, List.set_cons_succ]
  refine wpAnyH_take (i := 6) (v := _) rfl (by kernel_rfl) (by kernel_rfl) (by kernel_rfl) (fun _ _ _ h => h) (yields_agg rfl 80 _ rfl rfl hb1 r60 l1 Tryz.underlying80 rfl (by kernel_rfl)) hHeld ?_
  try simp only [List.getElem_toArray, List.getElem_cons_succ, List.getElem_cons_zero, Act.put, List.setIfInBounds_toArray, List.set_cons_zero, List.set_cons_succ]
  refine wpAnyH_take (i := 9) (v := ?_) rfl (by kernel_rfl) (by kernel_rfl) (by kernel_rfl) (fun _ _ _ h => h) (Or.inl ⟨by rfl, ?_⟩) hHeld ?_
  rotate_left
  · (intro wz _; go_simp; try with_reducible rfl)
  try simp only [List.getElem_toArray, List.getElem_cons_succ, List.getElem_cons_zero, Act.put, List.setIfInBounds_toArray, List.set_cons_zero, List.set_cons_succ]
  refine wpAnyH_take (i := 10) (v := ?_) rfl (by kernel_rfl) (by kernel_rfl) (by kernel_rfl) (fun _ _ _ h => h) (Or.inl ⟨by rfl, ?_⟩) hHeld ?_
  rotate_left
  · (intro wz _; go_simp; try with_reducible rfl)
  try simp only [List.getElem_toArray, List.getElem_cons_succ, List.getElem_cons_zero, Act.put, List.setIfInBounds_toArray, List.set_cons_zero, List.set_cons_succ]
  refine wpAnyH_take (i := 11) (v := _) rfl (by kernel_rfl) (by kernel_rfl) (by kernel_rfl) (fun _ _ _ h => h) (yields_load1 rfl 81 _ rfl rfl hb1 r61 Tryz.underlying81 rfl) hHeld ?_
  try simp only [List.getElem_toArray, List.getElem_cons_succ, List.getElem_cons_zero, Act.put, List.setIfInBounds_toArray, List.set_cons_zero, List.set_cons_succ]
  refine wpAnyH_take (i := 12) (v := ?_) rfl (by kernel_rfl) (by kernel_rfl) (by kernel_rfl) (fun _ _ _ h => h) (Or.inl ⟨by rfl, ?_⟩) hHeld ?_
  rotate_left
  · (intro wz _; go_simp; try with_reducible rfl)
  try simp only [List.getElem_toArray, List.getElem_cons_succ, List.getElem_cons_zero, Act.put, List.setIfInBounds_toArray, List.set_cons_zero, List.set_cons_succ]
  refine wpAnyH_take (i := 13) (v := ?_) rfl (by kernel_rfl) (by kernel_rfl) (by kernel_rfl) (fun _ _ _ h => h) (Or.inl ⟨by rfl, ?_⟩) hHeld ?_
  rotate_left
  · (intro wz _; go_simp; try with_reducible rfl)
  try simp only [List.getElem_toArray, List.getElem_cons_succ, List.getElem_cons_zero, Act.put, List.setIfInBounds_toArray, List.set_cons_zero, List.set_cons_succ]
  refine wpAnyH_ready (rs := [7]) (by kernel_rfl) (by simp) ?_
  refine AllReadyH.cons rfl (fun K hK => ?_) AllReadyH.nil
  (go_simp; go_wp2_with (go_at_call 31; refine (LN.out _ _ _ h).mono ?_; clear h; try clear hHeld; rintro _ w ⟨rfl, h⟩))
  refine hK.out _ _ ((HBK.out _ _ h (Mm.le_refl _)).has) (fun hHeld => ?_)
  clear hK K
  try simp only [Act.put, List.setIfInBounds_toArray, List.set_cons_zero, List.set_cons_succ]
  refine wpAnyH_take (i := 8) (v := ?_) rfl (by kernel_rfl) (by kernel_rfl) (by kernel_rfl) (fun _ _ _ h => h) (Or.inl ⟨by rfl, ?_⟩) hHeld ?_
  rotate_left
  · (intro wz _; go_simp; try with_reducible rfl)
  try simp only [List.getElem_toArray, List.getElem_cons_succ, List.getElem_cons_zero, Act.put, List.setIfInBounds_toArray, List.set_cons_zero, List.set_cons_succ]
  refine wpAnyH_ready (rs := [14]) (by kernel_rfl) (by simp) ?_
  refine AllReadyH.cons rfl (fun K hK => ?_) AllReadyH.nil
  (refine step_litn (cells := zwords 3) rfl 64 3 _ [(0, .int .u64 0), (1, .int .u64 0), (2, .int .u64 0)] rfl Tryz.underlying64 info_u64 (by simp only [List.map_toArray, List.map_cons, List.map_nil]; rfl) (by decide) (by decide) (by kernel_rfl) ?_; obtain ⟨N9, hbx, hle9, hb9, hn9⟩ := h.box (.cells (zwords 3) 23); generalize w.alloc _ = wx at hbx ⊢; generalize w.heap.size = b9 at hb9 hn9 ⊢; clear h; have h := hbx; clear hbx; try clear hHeld; try clear w; obtain ⟨w, rfl⟩ : ∃ x : World, x = wx := ⟨_, rfl⟩)
  refine hK.out _ _ ((HBK.out _ _ h hle9).has) (fun hHeld => ?_)
  clear hK K
  try simp only [Act.put, List.setIfInBounds_toArray, List.set_cons_zero, List.set_cons_succ]
  refine wpAnyH_ready (rs := [15]) (by kernel_rfl) (by simp) ?_
  refine AllReadyH.cons rfl (fun K hK => ?_) AllReadyH.nil
  (go_simp; go_wp2_with (go_at_call 30; refine (putW_zeros (HBK.out _ _ h hle9) HAP.out 3 (by omega) (by decide) b9 (h.at_ b9 _ hb9) (HNB.out b9 hn9)).mono ?_; clear h; try clear hHeld; rintro _ w ⟨rfl, hw⟩))
  refine hK.out _ _ (hw.has) (fun hHeld => ?_)
  clear hK K
  try simp only [Act.put, List.setIfInBounds_toArray, List.set_cons_zero, List.set_cons_succ]
  refine wpAnyH_done (by kernel_rfl) ?_ _
  clear hHeld HBK HNB LN hMN hle9 hb9 hn9
  have AL := Lib.hid (fun (w : World) (h : Has σ M3 w) => lineAll_0 h)
  change WM σ M3 b (zer ⟨#[]⟩ 3) w at hw
  have h := hw.has
  unfold nilS at *
  go_wp2_with (first
    | (with_reducible show wpList _ _ _ ({ dst := _, op := Op.load 51 _, type := _, pos := _, after := _, guard := _ } :: _) _ _; refine wpList_load1_has h rfl 51 _ rfl rfl hb1 r15 Tryz.underlying51 rfl ?_))
  go_loopw [35] (fun i wr => i = .int .i64 0 ∧ WM σ M3 b (zer ⟨#[]⟩ 3) wr) (fun _ _ => 0)
  case atStart => exact ⟨rfl, hw⟩
  case round =>
    clear h hw w
    obtain ⟨w, rfl⟩ : ∃ x : World, x = wr := ⟨_, rfl⟩
    obtain ⟨rfl, hw⟩ := hrel
    obtain ⟨ρ, N, h, hMN, hnb, hback⟩ := hw.root
    have AL := Lib.hid (fun (w : World) (h : Has ρ N w) => lineAll_0 h)
    unfold nilS at *
    have hb1N := hMN _ _ hb1
    go_wp2_with (first
      | ((with_reducible show wpList _ _ _ ({ dst := _, op := Op.load 80 _, type := _, pos := _, after := _, guard := _ } :: _) _ _); refine wpList_agg_has h rfl 80 _ rfl rfl hb1N r60 l1 Tryz.underlying80 rfl (by kernel_rfl) ?_; try simp only [Act.put, List.setIfInBounds_toArray, List.set_cons_zero, List.set_cons_succ])
      | (go_at_call 33; refine (AL.out _ h).mono ?_; clear h; rintro _ w ⟨rfl, h⟩))
    replace hw := hback _ _ h (Mm.le_refl _)
    clear h AL hback hnb hMN hb1N
    go_loopw [47] (fun i wr => i = .int .i64 0 ∧ WM σ M3 b (zer ⟨#[]⟩ 3) wr) (fun _ _ => 0)
    case atStart => exact ⟨rfl, hw⟩
    case round =>
      clear hw w
      obtain ⟨w, rfl⟩ : ∃ x : World, x = wr := ⟨_, rfl⟩
      obtain ⟨rfl, hw⟩ := hrel
      have h := hw.has
      go_wp2_with (first
        | (with_reducible show wpList _ _ _ ({ dst := _, op := Op.load 81 _, type := _, pos := _, after := _, guard := _ } :: _) _ _; refine wpList_load1_has h rfl 81 _ rfl rfl hb1 r61 Tryz.underlying81 rfl ?_))
      clear h
      go_loopw [63] (fun i wr => i = .int .i64 0 ∧ WM σ M3 b (zer ⟨#[]⟩ 3) wr) (fun _ _ => 0)
      case atStart => exact ⟨rfl, hw⟩
      case round =>
        clear hw w
        obtain ⟨w, rfl⟩ : ∃ x : World, x = wr := ⟨_, rfl⟩
        obtain ⟨rfl, hw⟩ := hrel
        have h := hw.has
        have s2 : (set0 ++ set0).size = 20 := rfl
        go_wp2_with (first
          | ((with_reducible show wpList _ _ _ ({ dst := _, op := Op.load 76 _, type := _, pos := _, after := _, guard := _ } :: _) _ _); refine wpList_agg_has h rfl 76 _ rfl rfl hb1 rs s2 Tryz.underlying76 rfl (by kernel_rfl) ?_; try simp only [Act.put, List.setIfInBounds_toArray, List.set_cons_zero, List.set_cons_succ]))
        clear h
        go_loopw [82] (fun i wr => ∃ k : Nat, k ≤ 2 ∧ i = .int .i64 k ∧ WM σ M3 b (zer ⟨#[]⟩ (3 + k)) wr) (fun i _ => 2 - (intOf i).toNat)
        case atStart => exact ⟨0, Nat.zero_le _, rfl, hw⟩
        case round =>
          clear hw w
          obtain ⟨w, rfl⟩ : ∃ x : World, x = wr := ⟨_, rfl⟩
          obtain ⟨k, hk, rfl, hw⟩ := hrel
          by_cases hlt : k < 2
          · have hlt' : (k : Int) < 2 := by omega
            have IX := index_set k hlt
            obtain ⟨ρ, N, h, hMN, hnb, hback⟩ := hw.root
            have HBK := Lib.hid hback
            have HNB := Lib.hid hnb
            clear hw hback hnb
            have sz : set0.size = 10 := rfl
            have ZS := zset
            have S1 : set0.toList.all (·.oneCell') = true := rfl
            have s9 : set0.setIfInBounds 9 (.int .u64 0) = set0 := rfl
            have sx : set0.extract 0 (0 + 10) = set0 := rfl
            have sw : set0.extract 0 (0 + 8) = ways0 := rfl
            have l9 : 9 < set0.size := by decide
            have WD := Lib.hid (fun (M : Mm) (w : World) (h : Has ρ M w) => word_0 h)
            generalize hset : set0 = st at *
            have HST := Lib.hid hset
            clear hset
            go_upto_region 21 with (first
              | ((with_reducible show wpList _ _ _ ({ dst := some 11, op := Op.alloc 75, type := _, pos := _, after := _, guard := _ } :: _) _ _); refine wpList_alloc_has h rfl 75 rfl _ ZS ?_; clear h; intro b11 w h hn11; try simp only [Act.put, List.setIfInBounds_toArray, List.set_cons_zero, List.set_cons_succ])
              | ((with_reducible show wpList _ _ _ ({ dst := _, op := Op.store 75 _ _, type := _, pos := _, after := _, guard := _ } :: _) _ _); refine wpList_storeAll_has (cells := st) h rfl 75 _ _ rfl rfl rfl (Mm.upd_same _ _ _) rfl (sz.trans sz.symm) rfl (by rw [sz]; kernel_rfl) S1 ?_; clear h; intro w h))
            replace h : Has ρ (N.upd b11 (.cells st 75)) w := by rw [Mm.upd_upd] at h; exact h
            have hb := Mm.upd_same N b11 (.cells st 75)
            go_upto_region 22 with (first
              | (with_reducible show wpList _ _ _ ({ dst := _, op := Op.store 23 _ _, type := _, pos := _, after := _, guard := _ } :: _) _ _; refine wpList_store1_has h rfl 23 _ _ rfl rfl rfl hb l9 rfl (by kernel_rfl) ?_; clear h; intro w h))
            have h2 : Has ρ (N.upd b11 (.cells (st.setIfInBounds 9 (.int .u64 0)) 75)) w := by rw [Mm.upd_upd] at h; exact h
            rw [s9] at h2
            replace h := h2
            clear h2
            have hle11 := Mm.le_upd' hn11 (.cells st 75)
            have hw5 : ∀ N' w', Has ρ N' w' → (N.upd b11 (.cells st 75)).le N' → WM σ (M3.upd b11 (.cells st 75)) b (zer ⟨#[]⟩ (3 + k)) w' := fun N' w' h hl => (HBK.out _ _ h (Mm.le_trans hle11 hl)).know (h.at_ _ _ (hl _ _ hb))
            have HA5 : Hid (Apart (M3.upd b11 (.cells st 75)) b) := HAP.out.upd (HNB.out b11 hn11) (by intro c fz he; cases he)
            have hb5 := Mm.upd_same M3 b11 (.cells st 75)
            have hM35 : ∀ s w, WM σ (M3.upd b11 (.cells st 75)) b s w → WM σ M3 b s w := fun s w h => ⟨h.has.less fun j o hj => by
              have hj1 : M3 b11 = none ∨ ∃ p, M3 b11 = some p := by cases M3 b11 <;> simp
              rcases hj1 with hj1 | ⟨p, hp⟩
              · rw [Mm.upd_of hj1 hj]
              · exact absurd (hMN _ _ hp) (by rw [hn11]; simp), h.wr⟩
            have hb := Mm.upd_same N b11 (.cells st 75)
            have hNB2 : ∀ j, (N.upd b11 (.cells st 75)) j = none → j ≠ b := fun j hj => HNB.out j (Mm.none_of hle11 hj)
            generalize M3.upd b11 (.cells st 75) = M5 at *
            generalize N.upd b11 (.cells st 75) = N5 at *
            have PW : Hid (∀ b90 w, Has ρ (N5.upd b90 (.cells (zwords 1) 23)) w → N5 b90 = none → Calls Tryz.prog 30 #[.pointer (some ⟨b, 0, none⟩), .slice (some ⟨b90, 0, none⟩) 1 1] w fun r w' => r = .returned (.tuple #[]) ∧ WM σ M5 b (zer ⟨#[]⟩ (3 + (k + 1))) w') := fun b90 w h hn => putW_zeros (hw5 _ _ h (Mm.le_upd' hn _)) HA5.out 1 (by omega) (by rw [zer_size]; show 0 + 2 * (3 + k) ≤ 1000; omega) b90 (h.at_ _ _ (Mm.upd_same _ _ _)) (hNB2 b90 hn)
            clear hMN HA5 hw5 hNB2
            go_upto_region 23 with (first
              | ((with_reducible show wpList _ _ _ ({ dst := _, op := Op.load 75 _, type := _, pos := _, after := _, guard := _ } :: _) _ _); refine wpList_agg_has h rfl 75 _ rfl rfl hb sx sz Tryz.underlying75 rfl (by kernel_rfl) ?_; try simp only [Act.put, List.setIfInBounds_toArray, List.set_cons_zero, List.set_cons_succ])
              | (go_at_call 34; refine (WD.out _ _ h).mono ?_; clear h; rintro _ w ⟨rfl, h⟩)
              | ((with_reducible show wpList _ _ _ ({ dst := _, op := Op.buildSlice _ _ _, type := _, pos := _, after := _, guard := _ } :: _) _ _); refine wpList_litn_has (cells := zwords 1) h rfl 64 1 _ [(0, .int .u64 0)] rfl Tryz.underlying64 info_u64 (by simp only [List.map_toArray, List.map_cons, List.map_nil]; rfl) (by decide) (by decide) (by kernel_rfl) ?_; clear h; intro b90 w h hn90)
              | (go_at_call 30; refine (PW.out _ _ h hn90).mono ?_; clear h; rintro _ w ⟨rfl, hw⟩))
            have h := hw.has
            have w8 : ways0.size = 8 := rfl
            go_wp2_with (first
              | ((with_reducible show wpList _ _ _ ({ dst := _, op := Op.load 73 _, type := _, pos := _, after := _, guard := _ } :: _) _ _); refine wpList_agg_has h rfl 73 _ rfl rfl hb5 sw w8 Tryz.underlying73 rfl (by kernel_rfl) ?_; try simp only [Act.put, List.setIfInBounds_toArray, List.set_cons_zero, List.set_cons_succ]))
            clear h PW WD HBK HNB hb HAP AL
            generalize hz : zer ⟨#[]⟩ (3 + (k + 1)) = zs at *
            go_loopw [94] (fun i wr => ∃ m : Nat, m ≤ 4 ∧ i = .int .i64 m ∧ WM σ M5 b zs wr) (fun i _ => 4 - (intOf i).toNat)
            case atStart => exact ⟨0, Nat.zero_le _, rfl, hw⟩
            case round =>
              clear hw w
              obtain ⟨w, rfl⟩ : ∃ x : World, x = wr := ⟨_, rfl⟩
              obtain ⟨m, hm, rfl, hw⟩ := hrel
              by_cases hlm : m < 4
              · have hlm' : (m : Int) < 4 := by omega
                have IY := index_way m hlm
                obtain ⟨ρ2, N2, h, hMN, hnb, hback⟩ := hw.root
                clear hw hnb hMN
                have y0 : (#[.int .i64 0, .bool false] : Array Value)[0]? = some (.int .i64 0) := rfl
                have yz : (#[.int .i64 0, .bool false] : Array Value).size = 2 := rfl
                have y1 : (#[.int .i64 0, .bool false] : Array Value).toList.all (·.oneCell') = true := rfl
                have zway := zway
                generalize (#[.int .i64 0, .bool false] : Array Value) = yr at *
                generalize ways0 = wz at *
                go_upto_region 26 with (first
                  | ((with_reducible show wpList _ _ _ ({ dst := some 13, op := Op.alloc 72, type := _, pos := _, after := _, guard := _ } :: _) _ _); refine wpList_alloc_has h rfl 72 rfl _ zway ?_; clear h; intro b13 w h hn13; try simp only [Act.put, List.setIfInBounds_toArray, List.set_cons_zero, List.set_cons_succ])
                  | ((with_reducible show wpList _ _ _ ({ dst := _, op := Op.store 72 _ _, type := _, pos := _, after := _, guard := _ } :: _) _ _); refine wpList_storeAll_has (cells := yr) h rfl 72 _ _ rfl rfl rfl (Mm.upd_same _ _ _) rfl (yz.trans yz.symm) rfl (by rw [yz]; kernel_rfl) y1 ?_; clear h; intro w h))
                have h2 : Has ρ2 (N2.upd b13 (.cells yr 72)) w := by rw [Mm.upd_upd] at h; exact h
                have hb13 := Mm.upd_same N2 b13 (.cells yr 72)
                have hw := hback _ _ h2 (Mm.le_upd' hn13 _)
                clear h
                have h := h2
                clear h2
                go_wp2_with (first
                  | (with_reducible show wpList _ _ _ ({ dst := _, op := Op.load 3 _, type := _, pos := _, after := _, guard := _ } :: _) _ _; refine wpList_load1_has h rfl 3 _ rfl rfl hb13 y0 Tryz.underlying3 rfl ?_))
                exact ⟨⟨m + 1, hlm, by simp, hw⟩, by simp [intOf]; omega⟩
              · obtain rfl : m = 4 := by omega
                go_wp2
                go_roundw
                case rel => exact ⟨k + 1, hlt, by simp, by rw [hz]; exact hM35 _ _ hw⟩
                case measure => simp [intOf]; omega
          · obtain rfl : k = 2 := by omega
            have PN : Hid (∀ w, WM σ M3 b (zer ⟨#[]⟩ (3 + 2)) w → Calls Tryz.prog 30 #[.pointer (some ⟨b, 0, none⟩), .slice none 0 0] w fun r w' => r = .returned (.tuple #[]) ∧ WM σ M3 b (zer ⟨#[]⟩ (3 + 2)) w') := fun w h => putW_nil h
            have SG : Hid (∀ w, WM σ M3 b (zer ⟨#[]⟩ (3 + 2)) w → Calls Tryz.prog 35 #[.pointer (some ⟨b, 0, none⟩)] w fun r w' => r = .returned (.string (zer ⟨#[]⟩ (3 + 2))) ∧ Below σ.heap.size σ w') := fun w h => (string_any h.wr (by rw [zer_size]; omega)).mono fun r w' ⟨hr, hB⟩ => ⟨hr, (HB.out _ _ h.has hle3).trans (hB.mono hbs)⟩
            have h := hw.has
            generalize hz : zer ⟨#[]⟩ (3 + 2) = zs at *
            have HZ := Lib.hid hz
            clear hz
            go_upto_region 31 with (first
              | (with_reducible show wpList _ _ _ ({ dst := _, op := Op.load 64 _, type := _, pos := _, after := _, guard := _ } :: _) _ _; refine wpList_load1_has h rfl 64 _ rfl rfl hb1 r62 Tryz.underlying64 rfl ?_)
              | (go_at_call 30; refine (PN.out _ hw).mono ?_; clear h; rintro _ w ⟨rfl, hw⟩))
            have h := hw.has
            go_wp2_with (first
              | (go_at_call 35; refine (SG.out _ hw).mono ?_; clear h; rintro _ w ⟨rfl, hB⟩))
            go_ret
            exact ⟨congrArg (fun s => Ending.returned (.string s)) HZ.out.symm, hB⟩
theorem text_0 {σ w : World} {M : Mm} (h : Has σ M w) : Calls Tryz.prog 20 #[.agg (stR nilS nilS nilS nilS)] w fun r w' => r = .returned (.string (zer ⟨#[]⟩ 5)) ∧ Has σ M w' :=
  (text_0b (Has.new w)).mono fun r w' ⟨hr, hb⟩ => ⟨hr, h.below hb⟩
end Go.Proofs.YtjnhklhgcbknkaaGreatDoor
