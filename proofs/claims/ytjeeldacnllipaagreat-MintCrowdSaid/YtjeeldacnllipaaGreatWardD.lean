/- Walks of layer 7 (warden): Drop, Link. -/
import Derived.Test.YtjeeldacnllipaaGreatWardC
namespace Go.Proofs.YtjeeldacnllipaaGreat
open Go.RowKit
set_option linter.unusedVariables false
set_option linter.unusedSimpArgs false
set_option linter.unnecessarySimpa false
def WardS.slip (s : WardS) : WardS := { s with slips := s.slips + 1 }
def WardS.has (s : WardS) (l t : Int) : Bool := s.there l t && decide (0 < valE l t s.held)
def WardS.gone (s : WardS) (l t : Int) : WardS := { s with held := delE l t s.held, gens := putE l t (valE l t s.gens + 1) s.gclk s.gens, gclk := if hasE l t s.gens then s.gclk else s.gclk + 1 }
section
variable {σ w : World} {M : Mm} {p : Nat} {s : WardS}
theorem note_no (h : Has σ M w) (hM : IsWard M p s) (hb : s.slips < 1000000000) : Calls Tryz.prog 90 #[.pointer (some ⟨p, 0, none⟩), .bool false] w fun r w' => r = .returned (.bool false) ∧ Has σ (M.upd p (.cells s.slip.cells 130)) w' := by
  have c4 : w.cell? ⟨p, 4, none⟩ = some (.int .i64 (s.slips : Nat)) := h.cell hM.obj 4
  have f4 := h.free hM.obj 4
  have w1 : IntKind.i64.wrap ((s.slips : Int) + 1) = (s.slips : Int) + 1 := IntWalk.i64_in _ (by omega)
  have HS : Has σ (M.upd p (.cells s.slip.cells 130)) (w.setCell ⟨p, 4, none⟩ (.int .i64 ((s.slips : Int) + 1))) := h.setCell hM.obj 4 _
  replace HS := Lib.hid HS
  clear hM hb
  go_enter Tryz.func90, Tryz.ntmps90
  go_wp2
  go_ret
  exact ⟨rfl, HS.out⟩
theorem IsWard.le {M' : Mm} (h : IsWard M p s) (hle : M.le M') : IsWard M' p s := ⟨hle _ _ h.obj, hle _ _ h.held, hle _ _ h.gens, h.ne⟩
set_option maxHeartbeats 2000000 in
set_option maxRecDepth 20000 in
theorem drop_no (h : Has σ M w) (hM : IsWard M p s) (l t : Int) (ht : s.has l t = false) (hb : s.slips < 1000000000) : Calls Tryz.prog 148 #[.pointer (some ⟨p, 0, none⟩), .int .i64 l, .int .i64 t] w fun r w' => r = .returned (.bool false) ∧ Has σ (M.upd p (.cells s.slip.cells 130)) w' := by
  have TH := Lib.hid (fun (M' : Mm) (w : World) (h : Has σ M' w) (hM : IsWard M' p s) => there_eq h hM l t)
  have hp := hM.obj
  have hh := hM.held
  have e2 : s.cells[2]? = some (.map (some s.hb)) := rfl
  have HM := Lib.hid hM
  have HB := Lib.hid hb
  clear hM hb
  unfold WardS.has at ht
  cases hth : s.there l t
  · rw [hth] at TH
    clear ht hth
    have dx : (#[.int .i64 l, .int .i64 t] : Array Value).extract 0 (0 + 2) = #[.int .i64 l, .int .i64 t] := rfl
    unfold spotV at TH
    go_enter Tryz.func148, Tryz.ntmps148
    go_upto_region 2 with (fail)
    obtain ⟨M1, hbx, hle, hbq, hnx⟩ := h.box (.cells #[.int .i64 l, .int .i64 t] 126)
    generalize w.alloc _ = wx at hbx ⊢
    generalize w.heap.size = bx at hbq hnx ⊢
    clear h
    try clear w
    have h := hbx
    clear hbx
    obtain ⟨w, rfl⟩ : ∃ x : World, x = wx := ⟨_, rfl⟩
    replace hp := hle _ _ hp
    replace hh := hle _ _ hh
    have hM1 : IsWard M1 p s := HM.out.le hle
    have TH1 := Lib.hid (fun (w : World) (h : Has σ M1 w) => TH.out M1 w h hM1)
    have NO := Lib.hid (fun (w : World) (h : Has σ M1 w) => note_no h hM1 HB.out)
    clear TH hM1
    refine wp_region_head (Has σ M1) 13 (by kernel_rfl) (by kernel_rfl) (fun _ _ _ _ _ h => h) h.drew ?_
    clear h
    simp only [List.take_succ_cons, List.take_zero, List.drop_succ_cons, List.drop_zero]
    repeat (first
      | go_big_quiet_skip
      | (go_big_quiet_want; first
        | (refine quiet_agg_has 126 _ rfl rfl hbq dx rfl Tryz.underlying126 rfl (by kernel_rfl) ?_; simp only [Act.put, List.setIfInBounds_toArray, List.set_cons_zero, List.set_cons_succ]; go_big_quiet_on)
        | (refine quiet_load_has 128 _ rfl rfl hp e2 Tryz.underlying128 rfl ?_; simp only [Act.put, List.setIfInBounds_toArray, List.set_cons_zero, List.set_cons_succ]; go_big_quiet_on)
        | (refine quiet_lookup_spot (l := l) (s := t) _ _ rfl rfl rfl hh ?_; simp only [Act.put, List.setIfInBounds_toArray, List.set_cons_zero, List.set_cons_succ]; go_big_quiet_on)
        | (go_big_quiet_op; first | go_big_quiet_on | go_big_quiet_call (first | with_reducible exact fun _ => rfl | with_reducible exact TH1.out _))))
    refine wpQuiet_nil ?_
    try clear w
    intro w h
    go_upto_region 3 with (first
      | (go_at_call 90; refine (NO.out _ h).mono ?_; clear h; rintro _ w ⟨rfl, h⟩))
    clear NO
    go_wp2
    go_ret
    exact ⟨rfl, h.le (Mm.upd_mono hle _ _)⟩
  · rw [hth] at TH ht
    rw [Bool.true_and] at ht
    clear hth
    generalize hv : valE l t s.held = v at *
    have dx : (#[.int .i64 l, .int .i64 t] : Array Value).extract 0 (0 + 2) = #[.int .i64 l, .int .i64 t] := rfl
    unfold spotV at TH
    go_enter Tryz.func148, Tryz.ntmps148
    go_upto_region 2 with (fail)
    obtain ⟨M1, hbx, hle, hbq, hnx⟩ := h.box (.cells #[.int .i64 l, .int .i64 t] 126)
    generalize w.alloc _ = wx at hbx ⊢
    generalize w.heap.size = bx at hbq hnx ⊢
    clear h
    try clear w
    have h := hbx
    clear hbx
    obtain ⟨w, rfl⟩ : ∃ x : World, x = wx := ⟨_, rfl⟩
    replace hp := hle _ _ hp
    replace hh := hle _ _ hh
    have hM1 : IsWard M1 p s := HM.out.le hle
    have TH1 := Lib.hid (fun (w : World) (h : Has σ M1 w) => TH.out M1 w h hM1)
    have NO := Lib.hid (fun (w : World) (h : Has σ M1 w) => note_no h hM1 HB.out)
    clear TH hM1
    refine wp_region_head (Has σ M1) 13 (by kernel_rfl) (by kernel_rfl) (fun _ _ _ _ _ h => h) h.drew ?_
    clear h
    simp only [List.take_succ_cons, List.take_zero, List.drop_succ_cons, List.drop_zero]
    repeat (first
      | go_big_quiet_skip
      | (go_big_quiet_want; first
        | (refine quiet_agg_has 126 _ rfl rfl hbq dx rfl Tryz.underlying126 rfl (by kernel_rfl) ?_; simp only [Act.put, List.setIfInBounds_toArray, List.set_cons_zero, List.set_cons_succ]; go_big_quiet_on)
        | (refine quiet_load_has 128 _ rfl rfl hp e2 Tryz.underlying128 rfl ?_; simp only [Act.put, List.setIfInBounds_toArray, List.set_cons_zero, List.set_cons_succ]; go_big_quiet_on)
        | (refine quiet_lookup_spot (l := l) (s := t) _ _ rfl rfl rfl hh ?_; simp only [Act.put, List.setIfInBounds_toArray, List.set_cons_zero, List.set_cons_succ]; go_big_quiet_on)
        | (go_big_quiet_op; first | go_big_quiet_on | go_big_quiet_call (first | with_reducible exact fun _ => rfl | with_reducible exact TH1.out _))))
    refine wpQuiet_nil ?_
    try clear w
    intro w h
    go_upto_region 3 with (first
      | (go_at_call 90; refine (NO.out _ h).mono ?_; clear h; rintro _ w ⟨rfl, h⟩))
    clear NO
    go_wp2
    go_ret
    exact ⟨rfl, h.le (Mm.upd_mono hle _ _)⟩
set_option maxHeartbeats 4000000 in
set_option maxRecDepth 20000 in
theorem drop_yes (h : Has σ M w) (hM : IsWard M p s) (l t : Int) (ht : s.has l t = true) (hst : StampE s.gens s.gclk) (hg : -1000000000 < valE l t s.gens ∧ valE l t s.gens < 1000000000) : Calls Tryz.prog 148 #[.pointer (some ⟨p, 0, none⟩), .int .i64 l, .int .i64 t] w fun r w' => r = .returned (.bool true) ∧ Has σ ((M.upd s.hb (mapRow (s.gone l t).held (s.gone l t).hclk)).upd s.gb (mapRow (s.gone l t).gens (s.gone l t).gclk)) w' := by
  have TH := Lib.hid (fun (M' : Mm) (w : World) (h : Has σ M' w) (hM : IsWard M' p s) => there_eq h hM l t)
  have NY := Lib.hid (fun (M' : Mm) (w : World) (h : Has σ M' w) => note_yes h p)
  unfold WardS.has at ht
  rw [Bool.and_eq_true] at ht
  obtain ⟨ht, hv⟩ := ht
  rw [ht] at TH
  have hp := hM.obj
  have hh := hM.held
  have hgn := hM.gens
  have e2 : s.cells[2]? = some (.map (some s.hb)) := rfl
  have e3 : s.cells[3]? = some (.map (some s.gb)) := rfl
  have E1 : Hid (mapRow (s.gone l t).held (s.gone l t).hclk = mapRow (delE l t s.held) s.hclk) := rfl
  have E2 : Hid (mapRow (s.gone l t).gens (s.gone l t).gclk = mapRow (putE l t (valE l t s.gens + 1) s.gclk s.gens) (if hasE l t s.gens then s.gclk else s.gclk + 1)) := rfl
  have HM := Lib.hid hM
  have SB := Lib.hid (setB_put l t (valE l t s.gens + 1) s.gclk s.gens hst)
  have BM := Lib.hid (bornE_mem l t s.gclk s.gens)
  have VP : Hid (valE l t (putE l t (valE l t s.gens) s.gclk s.gens) = valE l t s.gens) := Lib.hid (by
    generalize valE l t s.gens = v
    generalize s.gens = es
    induction es with
    | nil => simp [putE, valE]
    | cons x r ih =>
      unfold putE
      cases hx : (l == x.l && t == x.s)
      · simp only [Bool.false_eq_true, if_false]
        unfold valE
        simp only [hx, Bool.false_eq_true, if_false, ih]
      · simp only [if_true]
        unfold valE
        simp only [hx, if_true])
  have W1 : IntKind.i64.wrap (valE l t s.gens + 1) = valE l t s.gens + 1 := IntWalk.i64_in _ (by omega)
  clear hM ht hst hg
  generalize mapRow (s.gone l t).held (s.gone l t).hclk = row1 at E1 ⊢
  generalize mapRow (s.gone l t).gens (s.gone l t).gclk = row2 at E2 ⊢
  have dx : (#[.int .i64 l, .int .i64 t] : Array Value).extract 0 (0 + 2) = #[.int .i64 l, .int .i64 t] := rfl
  unfold spotV at TH
  go_enter Tryz.func148, Tryz.ntmps148
  go_upto_region 2 with (fail)
  obtain ⟨M1, hbx, hle, hbq, hnx⟩ := h.box (.cells #[.int .i64 l, .int .i64 t] 126)
  generalize w.alloc _ = wx at hbx ⊢
  generalize w.heap.size = bx at hbq hnx ⊢
  clear h
  try clear w
  have h := hbx
  clear hbx
  obtain ⟨w, rfl⟩ : ∃ x : World, x = wx := ⟨_, rfl⟩
  replace hp := hle _ _ hp
  replace hh := hle _ _ hh
  replace hgn := hle _ _ hgn
  have hM1 : IsWard M1 p s := HM.out.le hle
  have TH1 := Lib.hid (fun (w : World) (h : Has σ M1 w) => TH.out M1 w h hM1)
  clear TH hM1
  have np : p ≠ s.hb := HM.out.neh
  have ng : p ≠ s.gb := HM.out.neg
  have nn := HM.out.ne
  have nb : bx ≠ s.hb := fun e => by rw [e, hh] at hbq; unfold mapRow at hbq; cases hbq
  have nb2 : bx ≠ s.gb := fun e => by rw [e, hgn] at hbq; unfold mapRow at hbq; cases hbq
  refine wp_region_class (Has σ M1) (by kernel_rfl) (by kernel_rfl) h.drew ?_
  clear h
  repeat (first
    | go_big_quiet_skip
    | (go_big_quiet_want; first
      | (refine quiet_agg_has 126 _ rfl rfl hbq dx rfl Tryz.underlying126 rfl (by kernel_rfl) ?_; simp only [Act.put, List.setIfInBounds_toArray, List.set_cons_zero, List.set_cons_succ]; go_big_quiet_on)
      | (refine quiet_load_has 128 _ rfl rfl hp e2 Tryz.underlying128 rfl ?_; simp only [Act.put, List.setIfInBounds_toArray, List.set_cons_zero, List.set_cons_succ]; go_big_quiet_on)
      | (refine quiet_lookup_spot (l := l) (s := t) _ _ rfl rfl rfl hh ?_; simp only [Act.put, List.setIfInBounds_toArray, List.set_cons_zero, List.set_cons_succ]; go_big_quiet_on)
      | (go_big_quiet_op; first | go_big_quiet_on | go_big_quiet_call (first | with_reducible exact fun _ => rfl | with_reducible exact TH1.out _ | with_reducible exact NY.out M1 _))))
  refine wpQuiet_nil ?_
  try clear w
  intro w h
  go_upto_region 4 with (fail)
  clear TH1 NY hv
  refine wp_region_head (Has σ M1) 5 (by kernel_rfl) (by kernel_rfl) (fun _ _ _ _ _ h => h) h.drew ?_
  clear h
  simp only [List.take_succ_cons, List.take_zero, List.drop_succ_cons, List.drop_zero]
  repeat (first
    | go_big_quiet_skip
    | (go_big_quiet_want; first
      | (refine quiet_agg_has 126 _ rfl rfl hbq dx rfl Tryz.underlying126 rfl (by kernel_rfl) ?_; simp only [Act.put, List.setIfInBounds_toArray, List.set_cons_zero, List.set_cons_succ]; go_big_quiet_on)
      | (refine quiet_load_has 128 _ rfl rfl hp e2 Tryz.underlying128 rfl ?_; simp only [Act.put, List.setIfInBounds_toArray, List.set_cons_zero, List.set_cons_succ]; go_big_quiet_on)
      | (go_big_quiet_op; first | go_big_quiet_on | go_big_quiet_call (first | with_reducible exact fun _ => rfl))))
  refine wpQuiet_nil ?_
  try clear w
  intro w h
  go_upto_region 5 with (first
    | ((refine wpList_delete_spot (l := l) (s := t) h rfl _ _ rfl rfl rfl hh ?_; clear h; intro w h)))
  rw [← E1.out] at h
  clear hh E1 e2
  have hp2 : (M1.upd s.hb row1) p = _ := (Mm.upd_ne np).trans hp
  have hb2 : (M1.upd s.hb row1) bx = _ := (Mm.upd_ne nb).trans hbq
  have hg2 : (M1.upd s.hb row1) s.gb = _ := (Mm.upd_ne nn.symm).trans hgn
  have LE : Hid (∀ o o', ((M.upd s.hb o).upd s.gb o').le ((M1.upd s.hb o).upd s.gb o')) := Lib.hid fun o o' => Mm.upd_mono (Mm.upd_mono hle _ _) _ _
  replace LE := Lib.hid (LE.out row1)
  clear hp hbq hgn hle hnx
  generalize M1.upd s.hb row1 = M2 at *
  replace h := h.drew
  have hL := Mm.drop_le M2 s.gb
  have hpL := Mm.drop_of hp2 ng
  have hbL := Mm.drop_of hb2 nb2
  have hU : ∀ o w', Has σ (M2.upd s.gb o) w' → Has σ (M2.drop s.gb) w' := fun o w' h => h.le (by
    have e := Mm.drop_upd_eq M2 s.gb o
    rw [← e]
    exact Mm.le_upd' (Mm.drop_none _ _) _)
  have UU : Hid (∀ o o', (M2.upd s.gb o).upd s.gb o' = M2.upd s.gb o') := Lib.hid fun o o' => Mm.upd_upd _ _ _ _
  have US : Hid (∀ o, (M2.upd s.gb o) s.gb = some o) := Lib.hid fun o => Mm.upd_same _ _ _
  generalize M2.drop s.gb = ML at hL hpL hbL hU
  replace hU := Lib.hid hU
  clear np ng nn nb nb2
  refine wp_region_held_drew (S := Has σ (ML)) (by kernel_rfl) (h.le hL) (fun hHeld => ?_)
  refine wpAnyH_take (i := 0) (v := ?_) rfl (by kernel_rfl) (by kernel_rfl) (by kernel_rfl) (fun _ _ _ h => h) (Or.inl ⟨by rfl, ?_⟩) hHeld ?_
  rotate_left
  · (intro wz _; go_simp; try with_reducible rfl)
  try simp only [List.getElem_toArray, List.getElem_cons_succ, List.getElem_cons_zero, Act.put, List.setIfInBounds_toArray, List.set_cons_zero, List.set_cons_succ]
  refine wpAnyH_take (i := 1) (v := ?_) rfl (by kernel_rfl) (by kernel_rfl) (by kernel_rfl) (fun _ _ _ h => h) (Or.inl ⟨by rfl, ?_⟩) hHeld ?_
  rotate_left
  · (intro wz _; go_simp; try with_reducible rfl)
  try simp only [List.getElem_toArray, List.getElem_cons_succ, List.getElem_cons_zero, Act.put, List.setIfInBounds_toArray, List.set_cons_zero, List.set_cons_succ]
  refine wpAnyH_take (i := 2) (v := ?_) rfl (by kernel_rfl) (by kernel_rfl) (by kernel_rfl) (fun _ _ _ h => h) (Or.inl ⟨by rfl, ?_⟩) hHeld ?_
  rotate_left
  · (intro wz _; go_simp; try with_reducible rfl)
  try simp only [List.getElem_toArray, List.getElem_cons_succ, List.getElem_cons_zero, Act.put, List.setIfInBounds_toArray, List.set_cons_zero, List.set_cons_succ]
  refine wpAnyH_take (i := 3) (v := _) rfl (by kernel_rfl) (by kernel_rfl) (by kernel_rfl) (fun _ _ _ h => h) (yields_load1 rfl 128 _ rfl rfl hpL e3 Tryz.underlying128 rfl) hHeld ?_
  try simp only [List.getElem_toArray, List.getElem_cons_succ, List.getElem_cons_zero, Act.put, List.setIfInBounds_toArray, List.set_cons_zero, List.set_cons_succ]
  refine wpAnyH_take (i := 4) (v := _) rfl (by kernel_rfl) (by kernel_rfl) (by kernel_rfl) (fun _ _ _ h => h) (yields_agg rfl 126 _ rfl rfl hbL dx rfl Tryz.underlying126 rfl (by kernel_rfl)) hHeld ?_
  try simp only [List.getElem_toArray, List.getElem_cons_succ, List.getElem_cons_zero, Act.put, List.setIfInBounds_toArray, List.set_cons_zero, List.set_cons_succ]
  generalize w.drew = w1 at h hHeld ⊢
  clear w
  obtain ⟨w, rfl⟩ : ∃ q : World, q = w1 := ⟨_, rfl⟩
  refine wpAnyH_ready (rs := [5, 7]) (by kernel_rfl) (by simp) ?_
  refine AllReadyH.cons rfl (fun K hK => ?_) (AllReadyH.cons rfl (fun K hK => ?_) AllReadyH.nil)
  · refine step_lookup_spot (l := l) (s := t) h rfl _ _ rfl rfl rfl hg2 ?_
    refine hK.out _ _ hHeld (fun hHeld => ?_)
    clear hK K
    simp only [Act.put, List.setIfInBounds_toArray, List.set_cons_zero, List.set_cons_succ]
    refine wpAnyH_take (i := 6) (v := ?_) rfl (by kernel_rfl) (by kernel_rfl) (by kernel_rfl) (fun _ _ _ h => h) (Or.inl ⟨by rfl, ?_⟩) hHeld ?_
    rotate_left
    · (intro wz _; go_simp; try with_reducible rfl)
    try simp only [List.getElem_toArray, List.getElem_cons_succ, List.getElem_cons_zero, Act.put, List.setIfInBounds_toArray, List.set_cons_zero, List.set_cons_succ]
    refine wpAnyH_ready (rs := [7]) (by kernel_rfl) (by simp) ?_
    refine AllReadyH.cons rfl (fun K hK => ?_) AllReadyH.nil
    (refine step_entry_spot (l := l) (s := t) h rfl _ _ rfl rfl rfl hg2 ?_; clear h; intro w h)
    refine hK.out _ _ (hU.out _ _ h) (fun hHeld => ?_)
    clear hK K
    try simp only [Act.put, List.setIfInBounds_toArray, List.set_cons_zero, List.set_cons_succ]
    refine wpAnyH_take (i := 8) (v := ?_) rfl (by kernel_rfl) (by kernel_rfl) (by kernel_rfl) (fun _ _ _ h => h) (Or.inl ⟨by rfl, ?_⟩) hHeld ?_
    rotate_left
    · (intro wz _; go_simp; try with_reducible rfl)
    try simp only [List.getElem_toArray, List.getElem_cons_succ, List.getElem_cons_zero, Act.put, List.setIfInBounds_toArray, List.set_cons_zero, List.set_cons_succ]
    refine wpAnyH_ready (rs := [9]) (by kernel_rfl) (by simp) ?_
    refine AllReadyH.cons rfl (fun K hK => ?_) AllReadyH.nil
    (refine step_entryStore_spot (born := bornE l t s.gclk s.gens) (v := valE l t s.gens + 1) h rfl _ _ _ rfl rfl rfl rfl (US.out _) BM.out ?_; clear h; intro w h)
    refine hK.out _ _ (hU.out _ _ (by rw [UU.out] at h; exact h)) (fun hHeld => ?_)
    clear hK K
    try simp only [Act.put, List.setIfInBounds_toArray, List.set_cons_zero, List.set_cons_succ]
    refine wpAnyH_done (by kernel_rfl) ?_ _
    rw [UU.out, SB.out, ← E2.out] at h
    go_wp2
    go_ret
    exact ⟨rfl, h.le (LE.out _)⟩
  · refine step_entry_spot (l := l) (s := t) h rfl _ _ rfl rfl rfl hg2 ?_; clear h; intro w h
    refine hK.out _ _ (hU.out _ _ h) (fun hHeld => ?_)
    clear hK K
    simp only [Act.put, List.setIfInBounds_toArray, List.set_cons_zero, List.set_cons_succ]
    refine wpAnyH_take (i := 8) (v := ?_) rfl (by kernel_rfl) (by kernel_rfl) (by kernel_rfl) (fun _ _ _ h => h) (Or.inl ⟨by rfl, ?_⟩) hHeld ?_
    rotate_left
    · (intro wz _; go_simp; try with_reducible rfl)
    try simp only [List.getElem_toArray, List.getElem_cons_succ, List.getElem_cons_zero, Act.put, List.setIfInBounds_toArray, List.set_cons_zero, List.set_cons_succ]
    refine wpAnyH_ready (rs := [5]) (by kernel_rfl) (by simp) ?_
    refine AllReadyH.cons rfl (fun K hK => ?_) AllReadyH.nil
    (refine step_lookup_spot (l := l) (s := t) h rfl _ _ rfl rfl rfl (US.out _) ?_; rw [VP.out])
    refine hK.out _ _ (hHeld) (fun hHeld => ?_)
    clear hK K
    try simp only [Act.put, List.setIfInBounds_toArray, List.set_cons_zero, List.set_cons_succ]
    refine wpAnyH_take (i := 6) (v := ?_) rfl (by kernel_rfl) (by kernel_rfl) (by kernel_rfl) (fun _ _ _ h => h) (Or.inl ⟨by rfl, ?_⟩) hHeld ?_
    rotate_left
    · (intro wz _; go_simp; try with_reducible rfl)
    try simp only [List.getElem_toArray, List.getElem_cons_succ, List.getElem_cons_zero, Act.put, List.setIfInBounds_toArray, List.set_cons_zero, List.set_cons_succ]
    refine wpAnyH_ready (rs := [9]) (by kernel_rfl) (by simp) ?_
    refine AllReadyH.cons rfl (fun K hK => ?_) AllReadyH.nil
    (refine step_entryStore_spot (born := bornE l t s.gclk s.gens) (v := valE l t s.gens + 1) h rfl _ _ _ rfl rfl rfl rfl (US.out _) BM.out ?_; clear h; intro w h)
    refine hK.out _ _ (hU.out _ _ (by rw [UU.out] at h; exact h)) (fun hHeld => ?_)
    clear hK K
    try simp only [Act.put, List.setIfInBounds_toArray, List.set_cons_zero, List.set_cons_succ]
    refine wpAnyH_done (by kernel_rfl) ?_ _
    rw [UU.out, SB.out, ← E2.out] at h
    go_wp2
    go_ret
    exact ⟨rfl, h.le (LE.out _)⟩
/-- Link: of a slot that is there. -/
def WardS.link (s : WardS) (l t : Int) : Int := if s.there l t then ((mkLink t.toNat (valE l t s.gens).toNat : Nat) : Int) else 0
set_option maxRecDepth 20000 in
theorem wardLink_eq (h : Has σ M w) (hM : IsWard M p s) (l t : Int) (hsl : s.sl ≤ 1000000) (hg : 0 ≤ valE l t s.gens ∧ valE l t s.gens < 1000000000) : Calls Tryz.prog 18 #[.pointer (some ⟨p, 0, none⟩), .int .i64 l, .int .i64 t] w fun r w' => r = .returned (.int .u64 (s.link l t)) ∧ Has σ M w' := by
  have TH := Lib.hid (fun (M' : Mm) (w : World) (h : Has σ M' w) (hM : IsWard M' p s) => there_eq h hM l t)
  have hp := hM.obj
  have hgn := hM.gens
  have e3 : s.cells[3]? = some (.map (some s.gb)) := rfl
  have HM := Lib.hid hM
  have E : Hid (s.link l t = if s.there l t then ((mkLink t.toNat (valE l t s.gens).toNat : Nat) : Int) else 0) := rfl
  rw [E.out]
  clear E
  have dx : (#[.int .i64 l, .int .i64 t] : Array Value).extract 0 (0 + 2) = #[.int .i64 l, .int .i64 t] := rfl
  have dr := hM
  cases ht : s.there l t
  · rw [ht] at TH
    clear hM dr ht hg hsl
    unfold spotV at TH
    go_enter Tryz.func18, Tryz.ntmps18
    go_upto_region 2 with (fail)
    obtain ⟨M1, hbx, hle, hbq, hnx⟩ := h.box (.cells #[.int .i64 l, .int .i64 t] 126)
    generalize w.alloc _ = wx at hbx ⊢
    generalize w.heap.size = bx at hbq hnx ⊢
    clear h
    try clear w
    have h := hbx
    clear hbx
    obtain ⟨w, rfl⟩ : ∃ x : World, x = wx := ⟨_, rfl⟩
    have hM1 : IsWard M1 p s := HM.out.le hle
    have TH1 := Lib.hid (fun (w : World) (h : Has σ M1 w) => TH.out M1 w h hM1)
    clear TH hM1
    go_wp2_with (first
      | ((with_reducible show wpList _ _ _ ({ dst := _, op := Op.load 126 _, type := _, pos := _, after := _, guard := _ } :: _) _ _); refine wpList_agg_has h rfl 126 _ rfl rfl hbq dx rfl Tryz.underlying126 rfl (by kernel_rfl) ?_; try simp only [Act.put, List.setIfInBounds_toArray, List.set_cons_zero, List.set_cons_succ])
      | (go_at_call 64; refine (TH1.out _ h).mono ?_; clear h; rintro _ w ⟨rfl, hh⟩))
    go_ret
    exact ⟨rfl, hh.le hle⟩
  · rw [ht] at TH
    obtain ⟨a1, a2, a3, a4⟩ := WardS.there_iff.1 ht
    obtain ⟨n, rfl⟩ : ∃ n : Nat, t = n := ⟨t.toNat, by omega⟩
    obtain ⟨g, hgg⟩ : ∃ g : Nat, valE l n s.gens = g := ⟨(valE l n s.gens).toNat, by omega⟩
    rw [hgg] at hg ⊢
    have LM := Lib.hid (fun (M' : Mm) (w : World) (h : Has σ M' w) => (linkMake_any n g (by omega) (by omega) w).mono (R' := fun r w' => r = .returned (.int .u64 (mkLink n g : Nat)) ∧ Has σ M' w') fun r w' hr => ⟨hr.1, hr.2 ▸ h⟩)
    have HG := Lib.hid hgg
    simp only [if_true, Int.toNat_natCast]
    clear hM dr ht hg hsl a1 a2 a3 a4 hgg
    unfold spotV at TH
    go_enter Tryz.func18, Tryz.ntmps18
    go_upto_region 2 with (fail)
    obtain ⟨M1, hbx, hle, hbq, hnx⟩ := h.box (.cells #[.int .i64 l, .int .i64 n] 126)
    generalize w.alloc _ = wx at hbx ⊢
    generalize w.heap.size = bx at hbq hnx ⊢
    clear h
    try clear w
    have h := hbx
    clear hbx
    obtain ⟨w, rfl⟩ : ∃ x : World, x = wx := ⟨_, rfl⟩
    replace hp := hle _ _ hp
    replace hgn := hle _ _ hgn
    have hM1 : IsWard M1 p s := HM.out.le hle
    have TH1 := Lib.hid (fun (w : World) (h : Has σ M1 w) => TH.out M1 w h hM1)
    clear TH hM1
    go_upto_region 4 with (first
      | ((with_reducible show wpList _ _ _ ({ dst := _, op := Op.load 126 _, type := _, pos := _, after := _, guard := _ } :: _) _ _); refine wpList_agg_has h rfl 126 _ rfl rfl hbq dx rfl Tryz.underlying126 rfl (by kernel_rfl) ?_; try simp only [Act.put, List.setIfInBounds_toArray, List.set_cons_zero, List.set_cons_succ])
      | (go_at_call 64; refine (TH1.out _ h).mono ?_; clear h; rintro _ w ⟨rfl, h⟩))
    refine wp_region_class (Has σ M1) (by kernel_rfl) (by kernel_rfl) h.drew ?_
    clear h
    repeat (first
      | go_big_quiet_skip
      | (go_big_quiet_want; first
        | (refine quiet_agg_has 126 _ rfl rfl hbq dx rfl Tryz.underlying126 rfl (by kernel_rfl) ?_; simp only [Act.put, List.setIfInBounds_toArray, List.set_cons_zero, List.set_cons_succ]; go_big_quiet_on)
        | (refine quiet_load_has 128 _ rfl rfl hp e3 Tryz.underlying128 rfl ?_; simp only [Act.put, List.setIfInBounds_toArray, List.set_cons_zero, List.set_cons_succ]; go_big_quiet_on)
        | ((refine quiet_lookup_spot (l := l) (s := n) _ _ rfl rfl rfl hgn ?_; rw [HG.out]); simp only [Act.put, List.setIfInBounds_toArray, List.set_cons_zero, List.set_cons_succ]; go_big_quiet_on)
        | (go_big_quiet_op; first | go_big_quiet_on | go_big_quiet_call (first | with_reducible exact fun _ => rfl | with_reducible exact LM.out M1 _))))
    refine wpQuiet_nil ?_
    try clear w
    intro w h
    go_wp2
    go_ret
    exact ⟨rfl, h.le hle⟩
end
end Go.Proofs.YtjeeldacnllipaaGreat
