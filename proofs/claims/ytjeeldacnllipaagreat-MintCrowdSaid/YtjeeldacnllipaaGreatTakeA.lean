/- Walks of layer 22 (stock): a bit of Take: the top is read; what is behind it is read. -/
import Derived.Test.YtjeeldacnllipaaGreatRunC
namespace Go.Proofs.YtjeeldacnllipaaGreat
open Go.RowKit
set_option linter.unusedVariables false
set_option linter.unusedSimpArgs false
set_option linter.unnecessarySimpa false
set_option maxHeartbeats 4000000 in
set_option maxRecDepth 20000 in
theorem take_0 {σ w : World} {K M : Mm} {lab : Nat → Nat} {p t q b : Nat} {s : MachS} {fs : List FrameS} {f : FrameS} (h : Has σ M w) (hT : AtTop K M lab p s t q b fs f) (hat : f.at_ = 0) {x : Nat} (hx : f.r 1 = (x : Int)) (hx64 : x < 18446744073709551616) {a : Int} (SP : SpotAt σ M p t 0 0 0 a) (hb1 : s.mem.acc < 1000000000) :
    Calls Tryz.prog 132 #[.agg (runC p t q b)] w fun r w' => r = .returned (.tuple #[]) ∧ ∃ M' lab', Has σ M' w' ∧ AtTop K M' lab' p (MachS.top { s with mem := s.mem.at_ a } t fs ((f.reg 1 (s.mem.load a)).goto 1)) t q b fs ((f.reg 1 (s.mem.load a)).goto 1) := by
  have d0 : (runC p t q b)[0]? = some (.pointer (some ⟨p, 0, none⟩)) := rfl
  have d1 : (runC p t q b)[1]? = some (.int .i64 (t : Nat)) := rfl
  have d2 : (runC p t q b)[2]? = some (.pointer (some ⟨q, 0, none⟩)) := rfl
  have d3 : (runC p t q b)[3]? = some (.pointer (some ⟨b, 0, none⟩)) := rfl
  have dx : (runC p t q b).extract 0 (0 + 4) = runC p t q b := rfl
  have dz : (runC p t q b).size = 4 := rfl
  have f1 : f.row[1]? = some (.int .i64 0) := by rw [← hat]; rfl
  have f3 : f.row[3]? = some (.int .u64 (x : Nat)) := by rw [← hx]; rfl
  have UN := Lib.hid (linkUnder_any x hx64)
  have hsl : cutN x 0 8 < 256 := cutN_lt x 0 8
  clear hx64 hat
  go_enter Tryz.func132, Tryz.ntmps132
  go_upto_region 1 with (fail)
  obtain ⟨M1, hbx, hle, hb4, hn⟩ := h.box (.cells (runC p t q b) 192)
  generalize w.alloc _ = wx at hbx ⊢
  generalize w.heap.size = b4 at hb4 hn ⊢
  clear h
  try clear w
  have h := hbx
  clear hbx
  obtain ⟨w, rfl⟩ : ∃ x : World, x = wx := ⟨_, rfl⟩
  obtain ⟨lab1, hT1⟩ := hT.more1 hle hn hb4
  have hnK : K b4 = none := by
    cases e : K b4 with
    | none => rfl
    | some o => have := (hT.base _ _ e).1; rw [hn] at this; cases this
  have hKK : K.le (K.upd b4 (.cells (runC p t q b) 192)) := Mm.le_upd' hnK _
  have hbK : (K.upd b4 (.cells (runC p t q b) 192)) b4 = some (.cells (runC p t q b) 192) := Mm.upd_same _ _ _
  have hfb := hT1.obj
  have TP := Lib.hid (fun (w : World) (h : Has σ M1 w) => runTop_eq h hT1 (SP.le hle) hb1 1)
  have HK := Lib.hid hKK
  clear hT hT1 SP hb1 hn hnK hKK hx
  generalize runC p t q b = rc at *
  generalize f.row = fr0 at *
  generalize cutN x 0 8 = sl at *
  go_wp2_with (first
    | (with_reducible show wpList _ _ _ ({ dst := _, op := Op.load 70 _, type := _, pos := _, after := _, guard := _ } :: _) _ _; refine wpList_load1_has h rfl 70 _ rfl rfl hb4 d3 Tryz.underlying70 rfl ?_)
    | (with_reducible show wpList _ _ _ ({ dst := _, op := Op.load 42 _, type := _, pos := _, after := _, guard := _ } :: _) _ _; refine wpList_load1_has h rfl 42 _ rfl rfl hfb f3 Tryz.underlying42 rfl ?_)
    | (with_reducible show wpList _ _ _ ({ dst := _, op := Op.load 3 _, type := _, pos := _, after := _, guard := _ } :: _) _ _; refine wpList_load1_has h rfl 3 _ rfl rfl hfb f1 Tryz.underlying3 rfl ?_)
    | ((with_reducible show wpList _ _ _ ({ dst := _, op := Op.load 190 _, type := _, pos := _, after := _, guard := _ } :: _) _ _); refine wpList_agg_has h rfl 190 _ rfl rfl hb4 dx dz Tryz.underlying190 rfl (by kernel_rfl) ?_; try simp only [Act.put, List.setIfInBounds_toArray, List.set_cons_zero, List.set_cons_succ])
    | ((go_at_call 138; refine (UN.out _).mono ?_; rintro r w' ⟨rfl, rfl⟩))
    | (go_at_call 139; refine (TP.out _ h).mono ?_; clear h; rintro _ w ⟨rfl, M2, lab2, h, hT2⟩))
  go_end0
  exact ⟨rfl, M2, lab2, h, hT2.less HK.out⟩
set_option maxHeartbeats 4000000 in
set_option maxRecDepth 20000 in
/-- What is behind the top is read. -/
theorem take_1 {σ w : World} {K M : Mm} {lab : Nat → Nat} {p t q b : Nat} {s : MachS} {fs : List FrameS} {f : FrameS} (h : Has σ M w) (hT : AtTop K M lab p s t q b fs f) (hat : f.at_ = 1) {x : Nat} (hx : f.r 1 = (x : Int)) (hx64 : x < 18446744073709551616) (hs0 : cutN x 0 8 ≠ 0) {a : Int} (SP : SpotAt σ M p t 8 (cutN x 0 8 : Nat) 0 a) (hb1 : s.mem.acc < 1000000000) :
    Calls Tryz.prog 132 #[.agg (runC p t q b)] w fun r w' => r = .returned (.tuple #[]) ∧ ∃ M' lab', Has σ M' w' ∧ AtTop K M' lab' p (MachS.top { s with mem := s.mem.at_ a } t fs ((f.reg 2 (s.mem.load a)).goto 2)) t q b fs ((f.reg 2 (s.mem.load a)).goto 2) := by
  have d0 : (runC p t q b)[0]? = some (.pointer (some ⟨p, 0, none⟩)) := rfl
  have d1 : (runC p t q b)[1]? = some (.int .i64 (t : Nat)) := rfl
  have d2 : (runC p t q b)[2]? = some (.pointer (some ⟨q, 0, none⟩)) := rfl
  have d3 : (runC p t q b)[3]? = some (.pointer (some ⟨b, 0, none⟩)) := rfl
  have dx : (runC p t q b).extract 0 (0 + 4) = runC p t q b := rfl
  have dz : (runC p t q b).size = 4 := rfl
  have f1 : f.row[1]? = some (.int .i64 1) := by rw [← hat]; rfl
  have f3 : f.row[3]? = some (.int .u64 (x : Nat)) := by rw [← hx]; rfl
  have UN := Lib.hid (linkUnder_any x hx64)
  have hsl : cutN x 0 8 < 256 := cutN_lt x 0 8
  clear hx64 hat
  obtain ⟨v, hvv⟩ : ∃ v, s.mem.load a = v := ⟨_, rfl⟩
  rw [hvv]
  have gs : (((cutN x 0 8 : Nat) : Int) == 0) = false := beq_eq_false_iff_ne.2 (by omega)
  have AT := Lib.hid (fun (M' : Mm) (w : World) (h : Has σ M' w) (hle : M.le M') => runAt_eq (q := q) (b := b) h (SP.le hle))
  clear SP hs0 hx
  go_enter Tryz.func132, Tryz.ntmps132
  go_upto_region 1 with (fail)
  obtain ⟨M1, hbx, hle, hb4, hn⟩ := h.box (.cells (runC p t q b) 192)
  generalize w.alloc _ = wx at hbx ⊢
  generalize w.heap.size = b4 at hb4 hn ⊢
  clear h
  try clear w
  have h := hbx
  clear hbx
  obtain ⟨w, rfl⟩ : ∃ x : World, x = wx := ⟨_, rfl⟩
  obtain ⟨lab1, hT1⟩ := hT.more1 hle hn hb4
  have hnK : K b4 = none := by
    cases e : K b4 with
    | none => rfl
    | some o => have := (hT.base _ _ e).1; rw [hn] at this; cases this
  have hKK : K.le (K.upd b4 (.cells (runC p t q b) 192)) := Mm.le_upd' hnK _
  have hbK : (K.upd b4 (.cells (runC p t q b) 192)) b4 = some (.cells (runC p t q b) 192) := Mm.upd_same _ _ _
  have hfb := hT1.obj
  have AT1 := Lib.hid (fun (w : World) (h : Has σ M1 w) => AT.out M1 w h hle)
  have ME := Lib.hid (fun (w : World) (h : Has σ M1 w) => mMem_eq h hT1.mach)
  have LD := Lib.hid (fun (w : World) (h : Has σ M1 w) => memLoad_eq h hT1.mach.mem hb1 a)
  rw [hvv] at LD
  have KL := hT1.base.le
  have hT2 := hT1.load a
  have KE := hT2.base.le
  obtain ⟨hfb2, hT3⟩ := hT2.frame (f.reg 2 v)
  have KS := hT3.base.le
  obtain ⟨hfb3, hT4⟩ := hT3.frame ((f.reg 2 v).goto 2)
  rw [MachS.top_top, Mm.upd_upd] at hT4
  have HT := Lib.hid (hT4.less hKK)
  have hsz : 4 < f.row.size := show 4 < 18 by omega
  have hsz3 : 1 < (f.reg 2 v).row.size := show 1 < 18 by omega
  have R1 := Lib.hid (row_reg2 f v)
  have R2 := Lib.hid (row_goto (f.reg 2 v) 2)
  clear hvv hT hT1 hT2 hT3 hT4 AT hb1 hn hle hnK hKK
  generalize K.upd b4 _ = K1 at KL KE KS hbK
  generalize runC p t q b = rc at *
  generalize hr0 : f.row = fr0 at *
  generalize hr1 : (f.reg 2 v).row = fr1 at *
  generalize hr2 : ((f.reg 2 v).goto 2).row = fr2 at *
  generalize cutN x 0 8 = sl at *
  clear hr0 hr1 hr2
  generalize M1.upd s.mp _ = M2 at *
  go_upto_region 11 with (first
    | (with_reducible show wpList _ _ _ ({ dst := _, op := Op.load 70 _, type := _, pos := _, after := _, guard := _ } :: _) _ _; refine wpList_load1_has h rfl 70 _ rfl rfl hb4 d3 Tryz.underlying70 rfl ?_)
    | (with_reducible show wpList _ _ _ ({ dst := _, op := Op.load 42 _, type := _, pos := _, after := _, guard := _ } :: _) _ _; refine wpList_load1_has h rfl 42 _ rfl rfl hfb f3 Tryz.underlying42 rfl ?_)
    | (with_reducible show wpList _ _ _ ({ dst := _, op := Op.load 3 _, type := _, pos := _, after := _, guard := _ } :: _) _ _; refine wpList_load1_has h rfl 3 _ rfl rfl hfb f1 Tryz.underlying3 rfl ?_)
    | ((go_at_call 138; refine (UN.out _).mono ?_; rintro r w' ⟨rfl, rfl⟩)))
  clear hfb hb4 UN
  refine wp_region_held_drew (S := Has σ (K1)) (by kernel_rfl) (h.drew.le KL) (fun hHeld => ?_)
  refine wpAnyH_take (i := 0) (v := ?_) rfl (by kernel_rfl) (by kernel_rfl) (by kernel_rfl) (fun _ _ _ h => h) (Or.inl ⟨by rfl, ?_⟩) hHeld ?_
  rotate_left
  · (intro wz _; go_simp; try with_reducible rfl)
  try simp only [List.getElem_toArray, List.getElem_cons_succ, List.getElem_cons_zero, Act.put, List.setIfInBounds_toArray, List.set_cons_zero, List.set_cons_succ]
  refine wpAnyH_take (i := 1) (v := ?_) rfl (by kernel_rfl) (by kernel_rfl) (by kernel_rfl) (fun _ _ _ h => h) (Or.inl ⟨by rfl, ?_⟩) hHeld ?_
  rotate_left
  · (intro wz _; go_simp; try with_reducible rfl)
  try simp only [List.getElem_toArray, List.getElem_cons_succ, List.getElem_cons_zero, Act.put, List.setIfInBounds_toArray, List.set_cons_zero, List.set_cons_succ]
  refine wpAnyH_take (i := 2) (v := ?_) rfl (by kernel_rfl) (by kernel_rfl) (by kernel_rfl) (fun _ _ _ h => h) (Or.inl ⟨by rfl, ?_⟩) hHeld ?_
  rotate_left
  · (intro wz _; go_simp; try with_reducible rfl)
  try simp only [List.getElem_toArray, List.getElem_cons_succ, List.getElem_cons_zero, Act.put, List.setIfInBounds_toArray, List.set_cons_zero, List.set_cons_succ]
  refine wpAnyH_take (i := 3) (v := _) rfl (by kernel_rfl) (by kernel_rfl) (by kernel_rfl) (fun _ _ _ h => h) (yields_load1 rfl 26 _ rfl rfl hbK d0 Tryz.underlying26 rfl) hHeld ?_
  try simp only [List.getElem_toArray, List.getElem_cons_succ, List.getElem_cons_zero, Act.put, List.setIfInBounds_toArray, List.set_cons_zero, List.set_cons_succ]
  refine wpAnyH_take (i := 5) (v := ?_) rfl (by kernel_rfl) (by kernel_rfl) (by kernel_rfl) (fun _ _ _ h => h) (Or.inl ⟨by rfl, ?_⟩) hHeld ?_
  rotate_left
  · (intro wz _; go_simp; try with_reducible rfl)
  try simp only [List.getElem_toArray, List.getElem_cons_succ, List.getElem_cons_zero, Act.put, List.setIfInBounds_toArray, List.set_cons_zero, List.set_cons_succ]
  refine wpAnyH_take (i := 6) (v := _) rfl (by kernel_rfl) (by kernel_rfl) (by kernel_rfl) (fun _ _ _ h => h) (yields_agg rfl 190 _ rfl rfl hbK dx dz Tryz.underlying190 rfl (by kernel_rfl)) hHeld ?_
  try simp only [List.getElem_toArray, List.getElem_cons_succ, List.getElem_cons_zero, Act.put, List.setIfInBounds_toArray, List.set_cons_zero, List.set_cons_succ]
  refine wpAnyH_take (i := 7) (v := ?_) rfl (by kernel_rfl) (by kernel_rfl) (by kernel_rfl) (fun _ _ _ h => h) (Or.inl ⟨by rfl, ?_⟩) hHeld ?_
  rotate_left
  · (intro wz _; go_simp; try with_reducible rfl)
  try simp only [List.getElem_toArray, List.getElem_cons_succ, List.getElem_cons_zero, Act.put, List.setIfInBounds_toArray, List.set_cons_zero, List.set_cons_succ]
  refine wpAnyH_take (i := 10) (v := ?_) rfl (by kernel_rfl) (by kernel_rfl) (by kernel_rfl) (fun _ _ _ h => h) (Or.inl ⟨by rfl, ?_⟩) hHeld ?_
  rotate_left
  · (intro wz _; go_simp; try with_reducible rfl)
  try simp only [List.getElem_toArray, List.getElem_cons_succ, List.getElem_cons_zero, Act.put, List.setIfInBounds_toArray, List.set_cons_zero, List.set_cons_succ]
  refine wpAnyH_take (i := 11) (v := ?_) rfl (by kernel_rfl) (by kernel_rfl) (by kernel_rfl) (fun _ _ _ h => h) (Or.inl ⟨by rfl, ?_⟩) hHeld ?_
  rotate_left
  · (intro wz _; go_simp; try with_reducible rfl)
  try simp only [List.getElem_toArray, List.getElem_cons_succ, List.getElem_cons_zero, Act.put, List.setIfInBounds_toArray, List.set_cons_zero, List.set_cons_succ]
  replace h := h.drew
  generalize w.drew = w1 at h hHeld ⊢
  clear w
  obtain ⟨w, rfl⟩ : ∃ q : World, q = w1 := ⟨_, rfl⟩
  refine wpAnyH_ready (rs := [4]) (by kernel_rfl) (by simp) ?_
  refine AllReadyH.cons rfl (fun K hK => ?_) AllReadyH.nil
  (go_simp; go_wp2_with (go_at_call 46; refine (ME.out _ h).mono ?_; clear h; rintro _ w ⟨rfl, h⟩))
  refine hK.out _ _ (h.le KL) (fun hHeld => ?_)
  clear hK K
  try simp only [Act.put, List.setIfInBounds_toArray, List.set_cons_zero, List.set_cons_succ]
  refine wpAnyH_ready (rs := [8]) (by kernel_rfl) (by simp) ?_
  refine AllReadyH.cons rfl (fun K hK => ?_) AllReadyH.nil
  (go_simp; go_wp2_with (go_at_call 140; refine (AT1.out _ h).mono ?_; clear h; rintro _ w ⟨rfl, h⟩))
  refine hK.out _ _ (h.le KL) (fun hHeld => ?_)
  clear hK K
  try simp only [Act.put, List.setIfInBounds_toArray, List.set_cons_zero, List.set_cons_succ]
  refine wpAnyH_ready (rs := [9]) (by kernel_rfl) (by simp) ?_
  refine AllReadyH.cons rfl (fun K hK => ?_) AllReadyH.nil
  (go_simp; go_wp2_with (go_at_call 94; refine (LD.out _ h).mono ?_; clear h; rintro _ w ⟨rfl, h⟩))
  refine hK.out _ _ (h.le KE) (fun hHeld => ?_)
  clear hK K
  try simp only [Act.put, List.setIfInBounds_toArray, List.set_cons_zero, List.set_cons_succ]
  refine wpAnyH_take (i := 12) (v := ?_) rfl (by kernel_rfl) (by kernel_rfl) (by kernel_rfl) (fun _ _ _ h => h) (Or.inl ⟨by rfl, ?_⟩) hHeld ?_
  rotate_left
  · (intro wz _; go_simp; try with_reducible rfl)
  try simp only [List.getElem_toArray, List.getElem_cons_succ, List.getElem_cons_zero, Act.put, List.setIfInBounds_toArray, List.set_cons_zero, List.set_cons_succ]
  refine wpAnyH_ready (rs := [13]) (by kernel_rfl) (by simp) ?_
  refine AllReadyH.cons rfl (fun K hK => ?_) AllReadyH.nil
  (refine step_store1 (v := .int .u64 v) h rfl 42 _ _ rfl rfl rfl hfb2 hsz rfl rfl (by kernel_rfl) ?_; clear h; intro w h; rw [R1.out] at h)
  refine hK.out _ _ (h.le KS) (fun hHeld => ?_)
  clear hK K
  try simp only [Act.put, List.setIfInBounds_toArray, List.set_cons_zero, List.set_cons_succ]
  refine wpAnyH_done (by kernel_rfl) ?_ _
  clear hHeld
  generalize hM3 : M2.upd b (.cells fr1 69) = M3 at h hfb3 KS
  go_wp2_with (first
    | (with_reducible show wpList _ _ _ ({ dst := _, op := Op.store 3 _ _, type := _, pos := _, after := _, guard := _ } :: _) _ _; refine wpList_store1_has h rfl 3 _ _ rfl rfl rfl hfb3 hsz3 rfl (by kernel_rfl) ?_; clear h; intro w h))
  go_end0
  refine ⟨rfl, _, _, ?_, HT.out⟩
  have h0 : Has σ (M2.upd b (.cells (fr1.setIfInBounds 1 (.int .i64 2)) 69)) w := by rw [← hM3, Mm.upd_upd] at h; exact h
  rw [R2.out] at h0
  exact h0
end Go.Proofs.YtjeeldacnllipaaGreat
