/- Walks of layer 23 (epoch): Advance, bit by bit. -/
import Derived.Test.YtjeeldacnllipaaTakeD
import Derived.Test.YtjeeldacnllipaaEcgA
namespace Go.Proofs.Ytjeeldacnllipaa
section
open Go.RowKit
set_option linter.unusedVariables false
set_option linter.unusedSimpArgs false
set_option linter.unnecessarySimpa false
theorem back0_eq {σ w : World} {K M : Mm} {lab : Nat → Nat} {p t q b : Nat} {s : MachS} {fs : List FrameS} {f : FrameS} (h : Has σ M w) (hT : AtTop K M lab p s t q b fs f) (hfs : fs.length < 1000000) :
    Calls Try.prog 62 #[.pointer (some ⟨q, 0, none⟩), .slice none 0 0] w fun r w' => r = .returned (.tuple #[]) ∧ ∃ M' lab', Has σ M' w' ∧ Mach M' lab' p (s.backed t []) ∧ Base K M' lab' := by
  obtain ⟨fv, hv, fbs, hTh⟩ := hT.thr
  have hlen : fbs.length = fs.length := by
    have h1 := hTh.flen
    rw [hT.fr] at h1
    simpa using h1
  refine (thrBack_eq h hTh (rv := .slice none 0 0) (us := []) (Rd.nil _ _ _) (by simp) (by omega)).mono fun r w' ⟨e, M', h', hK, hI⟩ => ?_
  obtain ⟨h4, h5⟩ := hT.mach.thrTo hT.base hT.tp hK hI
  exact ⟨e, M', lab, h', h4, h5⟩
/-- Back of one number that lies in a block made just now. -/
theorem back1_eq {σ w : World} {K M M2 : Mm} {lab : Nat → Nat} {p t q b bl : Nat} {s : MachS} {fs : List FrameS} {f : FrameS} {v0 : Int} (h : Has σ M2 w) (hT : AtTop K M lab p s t q b fs f) (hle : M.le M2) (hn : M bl = none) (hbl : M2 bl = some (.cells #[.int .u64 v0] 34)) (hfs : fs.length < 1000000) :
    Calls Try.prog 62 #[.pointer (some ⟨q, 0, none⟩), .slice (some ⟨bl, 0, none⟩) 1 1] w fun r w' => r = .returned (.tuple #[]) ∧ ∃ M' lab', Has σ M' w' ∧ Mach M' lab' p (s.backed t [v0]) ∧ Base K M' lab' := by
  obtain ⟨lab2, hT2⟩ := hT.more1 hle hn hbl
  obtain ⟨fv, hv, fbs, hTh⟩ := hT2.thr
  have hne : bl ≠ q := fun e => by
    subst e
    have h1 := hTh.obj
    rw [hbl] at h1
    simp only [Option.some.injEq, Obj.cells.injEq] at h1
    exact absurd h1.2.1 (by decide)
  have hnK : K bl = none := by
    cases e : K bl with
    | none => rfl
    | some o => have := (hT.base _ _ e).1; rw [hn] at this; cases this
  have hrd : Rd (M2.drop q) 1 (.slice (some ⟨bl, 0, none⟩) 1 1) [v0].length (u64s [v0]) := ⟨rfl, _, _, rfl, Nat.le_refl _, fun _ => ⟨bl, 0, _, _, _, rfl, (if_neg hne).trans hbl, fun j u hu => by simpa [u64s] using hu⟩⟩
  have hlen : fbs.length = fs.length := by
    have h1 := hTh.flen
    rw [hT2.fr] at h1
    simpa using h1
  refine (thrBack_eq h hTh hrd (by simp) (by omega)).mono fun r w' ⟨e, M', h', hK, hI⟩ => ?_
  obtain ⟨h4, h5⟩ := hT2.mach.thrTo hT2.base hT2.tp hK hI
  exact ⟨e, M', lab2, h', h4, fun c o hc => h5 c o (Mm.le_upd' hnK _ _ _ hc)⟩
end
section
open Go.RowKit
set_option linter.unusedVariables false
set_option linter.unusedSimpArgs false
set_option linter.unnecessarySimpa false

section
variable {σ w : World} {M : Mm} {p t q b : Nat}
theorem epEpoch_eq (h : Has σ M w) {r : Int} (SP : SpotAt σ M p t 1 0 0 r) : Calls Try.prog 67 #[.agg (runC p t q b)] w fun e w' => e = .returned (.int .i64 r) ∧ Has σ M w' := by
  have d0 : (runC p t q b)[0]? = some (.pointer (some ⟨p, 0, none⟩)) := rfl
  have d1 : (runC p t q b)[1]? = some (.int .i64 (t : Nat)) := rfl
  have d2 : (runC p t q b)[2]? = some (.pointer (some ⟨q, 0, none⟩)) := rfl
  have d3 : (runC p t q b)[3]? = some (.pointer (some ⟨b, 0, none⟩)) := rfl
  have dx : (runC p t q b).extract 0 (0 + 4) = runC p t q b := rfl
  have dz : (runC p t q b).size = 4 := rfl
  go_enter Try.func67, Try.ntmps67
  go_upto_region 1 with (fail)
  obtain ⟨M1, hbx, hle, hb4, hn⟩ := h.box (.cells (runC p t q b) 92)
  generalize w.alloc _ = wx at hbx ⊢
  generalize w.heap.size = b4 at hb4 hn ⊢
  clear h
  try clear w
  have h := hbx
  clear hbx
  obtain ⟨w, rfl⟩ : ∃ x : World, x = wx := ⟨_, rfl⟩
  have SP1 := Lib.hid (fun (w : World) (h : Has σ M1 w) => SP M1 w hle h)
  clear SP
  generalize runC p t q b = rc at *
  go_wp2_with (first
    | (with_reducible show wpList _ _ _ ({ dst := _, op := Op.load 26 _, type := _, pos := _, after := _, guard := _ } :: _) _ _; refine wpList_load1_has h rfl 26 _ rfl rfl hb4 d0 Try.underlying26 rfl ?_)
    | (with_reducible show wpList _ _ _ ({ dst := _, op := Op.load 3 _, type := _, pos := _, after := _, guard := _ } :: _) _ _; refine wpList_load1_has h rfl 3 _ rfl rfl hb4 d1 Try.underlying3 rfl ?_)
    | (go_at_call 79; refine (SP1.out _ h).mono ?_; clear h; rintro _ w ⟨rfl, h⟩))
  go_ret
  exact ⟨rfl, h.le hle⟩
theorem epAt_eq (h : Has σ M w) {i r : Int} (SP : SpotAt σ M p t 6 i 0 r) : Calls Try.prog 60 #[.agg (runC p t q b), .int .i64 i] w fun e w' => e = .returned (.int .i64 r) ∧ Has σ M w' := by
  have d0 : (runC p t q b)[0]? = some (.pointer (some ⟨p, 0, none⟩)) := rfl
  have d1 : (runC p t q b)[1]? = some (.int .i64 (t : Nat)) := rfl
  have d2 : (runC p t q b)[2]? = some (.pointer (some ⟨q, 0, none⟩)) := rfl
  have d3 : (runC p t q b)[3]? = some (.pointer (some ⟨b, 0, none⟩)) := rfl
  have dx : (runC p t q b).extract 0 (0 + 4) = runC p t q b := rfl
  have dz : (runC p t q b).size = 4 := rfl
  go_enter Try.func60, Try.ntmps60
  go_upto_region 1 with (fail)
  obtain ⟨M1, hbx, hle, hb4, hn⟩ := h.box (.cells (runC p t q b) 92)
  generalize w.alloc _ = wx at hbx ⊢
  generalize w.heap.size = b4 at hb4 hn ⊢
  clear h
  try clear w
  have h := hbx
  clear hbx
  obtain ⟨w, rfl⟩ : ∃ x : World, x = wx := ⟨_, rfl⟩
  have SP1 := Lib.hid (fun (w : World) (h : Has σ M1 w) => SP M1 w hle h)
  clear SP
  generalize runC p t q b = rc at *
  go_wp2_with (first
    | (with_reducible show wpList _ _ _ ({ dst := _, op := Op.load 26 _, type := _, pos := _, after := _, guard := _ } :: _) _ _; refine wpList_load1_has h rfl 26 _ rfl rfl hb4 d0 Try.underlying26 rfl ?_)
    | (with_reducible show wpList _ _ _ ({ dst := _, op := Op.load 3 _, type := _, pos := _, after := _, guard := _ } :: _) _ _; refine wpList_load1_has h rfl 3 _ rfl rfl hb4 d1 Try.underlying3 rfl ?_)
    | (go_at_call 79; refine (SP1.out _ h).mono ?_; clear h; rintro _ w ⟨rfl, h⟩))
  go_ret
  exact ⟨rfl, h.le hle⟩
end
theorem row_reg0 (f : FrameS) (v : Int) : f.row.setIfInBounds 2 (.int .u64 v) = (f.reg 0 v).row := rfl
set_option maxHeartbeats 2000000 in
set_option maxRecDepth 20000 in
/-- The epoch is read. -/
theorem epNow_eq {σ w : World} {K M : Mm} {lab : Nat → Nat} {p t q b : Nat} {s : MachS} {fs : List FrameS} {f : FrameS} (h : Has σ M w) (hT : AtTop K M lab p s t q b fs f) {a : Int} (SP : SpotAt σ M p t 1 0 0 a) (hb1 : s.mem.acc < 1000000000) :
    Calls Try.prog 58 #[.agg (runC p t q b)] w fun r w' => r = .returned (.int .u64 (s.mem.load a)) ∧ Has σ (M.upd s.mp (.cells (s.mem.at_ a).cells 106)) w' := by
  have d0 : (runC p t q b)[0]? = some (.pointer (some ⟨p, 0, none⟩)) := rfl
  have d1 : (runC p t q b)[1]? = some (.int .i64 (t : Nat)) := rfl
  have d2 : (runC p t q b)[2]? = some (.pointer (some ⟨q, 0, none⟩)) := rfl
  have d3 : (runC p t q b)[3]? = some (.pointer (some ⟨b, 0, none⟩)) := rfl
  have dx : (runC p t q b).extract 0 (0 + 4) = runC p t q b := rfl
  have dz : (runC p t q b).size = 4 := rfl
  obtain ⟨v, hvv⟩ : ∃ v, s.mem.load a = v := ⟨_, rfl⟩
  rw [hvv]
  go_enter Try.func58, Try.ntmps58
  go_upto_region 1 with (fail)
  obtain ⟨M1, hbx, hle, hb4, hn⟩ := h.box (.cells (runC p t q b) 92)
  generalize w.alloc _ = wx at hbx ⊢
  generalize w.heap.size = b4 at hb4 hn ⊢
  clear h
  try clear w
  have h := hbx
  clear hbx
  obtain ⟨w, rfl⟩ : ∃ x : World, x = wx := ⟨_, rfl⟩
  obtain ⟨lab1, hT1⟩ := hT.more1 hle hn hb4
  have hnK : K b4 = none := by
    cases e : K b4 with
    | none => rfl
    | some o => have := (hT.base _ _ e).1; rw [hn] at this; cases this
  have hKK : K.le (K.upd b4 (.cells (runC p t q b) 92)) := Mm.le_upd' hnK _
  have hbK : (K.upd b4 (.cells (runC p t q b) 92)) b4 = some (.cells (runC p t q b) 92) := Mm.upd_same _ _ _
  have hfb := hT1.obj
  have EP := Lib.hid (fun (w : World) (h : Has σ M1 w) => epEpoch_eq (q := q) (b := b) h (SP.le hle))
  have ME := Lib.hid (fun (w : World) (h : Has σ M1 w) => mMem_eq h hT1.mach)
  have LD := Lib.hid (fun (w : World) (h : Has σ M1 w) => memLoad_eq h hT1.mach.mem hb1 a)
  rw [hvv] at LD
  have HLE := Lib.hid (Mm.upd_mono hle s.mp (.cells (s.mem.at_ a).cells 106))
  clear hvv hT hT1 SP hb1 hn hle hnK hKK hbK hfb
  generalize runC p t q b = rc at *
  generalize M1.upd s.mp _ = M3 at HLE LD
  refine wp_region_head (Has σ M1) 5 (by kernel_rfl) (by kernel_rfl) (fun _ _ _ _ _ h => h) h.drew ?_
  clear h
  simp only [List.take_succ_cons, List.take_zero, List.drop_succ_cons, List.drop_zero]
  repeat (first
    | go_big_quiet_skip
    | (go_big_quiet_want; first
      | (refine quiet_load_has 26 _ rfl rfl hb4 d0 Try.underlying26 rfl ?_; simp only [Act.put, List.setIfInBounds_toArray, List.set_cons_zero, List.set_cons_succ]; go_big_quiet_on)
      | (refine quiet_agg_has 92 _ rfl rfl hb4 dx dz Try.underlying92 rfl (by kernel_rfl) ?_; simp only [Act.put, List.setIfInBounds_toArray, List.set_cons_zero, List.set_cons_succ]; go_big_quiet_on)
      | (go_big_quiet_op; first | go_big_quiet_on | go_big_quiet_call (first | with_reducible exact fun _ => rfl | with_reducible exact ME.out _ | with_reducible exact EP.out _))))
  refine wpQuiet_nil ?_
  try clear w
  intro w h
  go_wp2_with (first
    | (go_at_call 65; refine (LD.out _ h).mono ?_; clear h; rintro _ w ⟨rfl, h⟩))
  go_ret
  exact ⟨rfl, h.le HLE.out⟩
set_option maxHeartbeats 4000000 in
set_option maxRecDepth 20000 in
/-- Pin reads the epoch. -/
theorem pin_0 {σ w : World} {K M : Mm} {lab : Nat → Nat} {p t q b : Nat} {s : MachS} {fs : List FrameS} {f : FrameS} (h : Has σ M w) (hT : AtTop K M lab p s t q b fs f) (hat : f.at_ = 0) {a : Int} (SP : SpotAt σ M p t 1 0 0 a) (hb1 : s.mem.acc < 1000000000) :
    Calls Try.prog 35 #[.agg (runC p t q b)] w fun r w' => r = .returned (.tuple #[]) ∧ ∃ M' lab', Has σ M' w' ∧ AtTop K M' lab' p (MachS.top { s with mem := s.mem.at_ a } t fs ((f.reg 0 (s.mem.load a)).goto 1)) t q b fs ((f.reg 0 (s.mem.load a)).goto 1) := by
  have d0 : (runC p t q b)[0]? = some (.pointer (some ⟨p, 0, none⟩)) := rfl
  have d1 : (runC p t q b)[1]? = some (.int .i64 (t : Nat)) := rfl
  have d2 : (runC p t q b)[2]? = some (.pointer (some ⟨q, 0, none⟩)) := rfl
  have d3 : (runC p t q b)[3]? = some (.pointer (some ⟨b, 0, none⟩)) := rfl
  have dx : (runC p t q b).extract 0 (0 + 4) = runC p t q b := rfl
  have dz : (runC p t q b).size = 4 := rfl
  have f1 : f.row[1]? = some (.int .i64 0) := by rw [← hat]; rfl
  obtain ⟨v, hvv⟩ : ∃ v, s.mem.load a = v := ⟨_, rfl⟩
  rw [hvv]
  go_enter Try.func35, Try.ntmps35
  go_upto_region 1 with (fail)
  obtain ⟨M1, hbx, hle, hb4, hn⟩ := h.box (.cells (runC p t q b) 92)
  generalize w.alloc _ = wx at hbx ⊢
  generalize w.heap.size = b4 at hb4 hn ⊢
  clear h
  try clear w
  have h := hbx
  clear hbx
  obtain ⟨w, rfl⟩ : ∃ x : World, x = wx := ⟨_, rfl⟩
  obtain ⟨lab1, hT1⟩ := hT.more1 hle hn hb4
  have hnK : K b4 = none := by
    cases e : K b4 with
    | none => rfl
    | some o => have := (hT.base _ _ e).1; rw [hn] at this; cases this
  have hKK : K.le (K.upd b4 (.cells (runC p t q b) 92)) := Mm.le_upd' hnK _
  have hbK : (K.upd b4 (.cells (runC p t q b) 92)) b4 = some (.cells (runC p t q b) 92) := Mm.upd_same _ _ _
  have hfb := hT1.obj
  have NW := Lib.hid (fun (w : World) (h : Has σ M1 w) => epNow_eq h hT1 (SP.le hle) hb1)
  rw [hvv] at NW
  have KL := hT1.base.le
  have hT2 := hT1.load a
  have KE := hT2.base.le
  obtain ⟨hfb2, hT3⟩ := hT2.frame (f.reg 0 v)
  have KS := hT3.base.le
  obtain ⟨hfb3, hT4⟩ := hT3.frame ((f.reg 0 v).goto 1)
  rw [MachS.top_top, Mm.upd_upd] at hT4
  have HT := Lib.hid (hT4.less hKK)
  have hsz : 2 < f.row.size := show 2 < 18 by omega
  have hsz3 : 1 < (f.reg 0 v).row.size := show 1 < 18 by omega
  have R1 := Lib.hid (row_reg0 f v)
  have R2 := Lib.hid (row_goto (f.reg 0 v) 1)
  clear hvv hT hT1 hT2 hT3 hT4 SP hb1 hn hle hnK hKK hat
  generalize K.upd b4 _ = K1 at KL KE KS hbK
  generalize runC p t q b = rc at *
  generalize hr0 : f.row = fr0 at *
  generalize hr1 : (f.reg 0 v).row = fr1 at *
  generalize hr2 : ((f.reg 0 v).goto 1).row = fr2 at *
  clear hr0 hr1 hr2
  generalize M1.upd s.mp _ = M2 at *
  go_upto_region 4 with (first
    | (with_reducible show wpList _ _ _ ({ dst := _, op := Op.load 61 _, type := _, pos := _, after := _, guard := _ } :: _) _ _; refine wpList_load1_has h rfl 61 _ rfl rfl hb4 d3 Try.underlying61 rfl ?_)
    | (with_reducible show wpList _ _ _ ({ dst := _, op := Op.load 3 _, type := _, pos := _, after := _, guard := _ } :: _) _ _; refine wpList_load1_has h rfl 3 _ rfl rfl hfb f1 Try.underlying3 rfl ?_))
  clear hfb hb4
  refine wp_region_held_drew (S := Has σ (K1)) (by kernel_rfl) (h.drew.le KL) (fun hHeld => ?_)
  refine wpAnyH_take (i := 0) (v := ?_) rfl (by kernel_rfl) (by kernel_rfl) (by kernel_rfl) (fun _ _ _ h => h) (Or.inl ⟨by rfl, ?_⟩) hHeld ?_
  rotate_left
  · (intro wz _; go_simp; try with_reducible rfl)
  try simp only [List.getElem_toArray, List.getElem_cons_succ, List.getElem_cons_zero, Act.put, List.setIfInBounds_toArray, List.set_cons_zero, List.set_cons_succ]
  refine wpAnyH_take (i := 1) (v := _) rfl (by kernel_rfl) (by kernel_rfl) (by kernel_rfl) (fun _ _ _ h => h) (yields_load1 rfl 61 _ rfl rfl hbK d3 Try.underlying61 rfl) hHeld ?_
  try simp only [List.getElem_toArray, List.getElem_cons_succ, List.getElem_cons_zero, Act.put, List.setIfInBounds_toArray, List.set_cons_zero, List.set_cons_succ]
  refine wpAnyH_take (i := 2) (v := _) rfl (by kernel_rfl) (by kernel_rfl) (by kernel_rfl) (fun _ _ _ h => h) (yields_agg rfl 92 _ rfl rfl hbK dx dz Try.underlying92 rfl (by kernel_rfl)) hHeld ?_
  try simp only [List.getElem_toArray, List.getElem_cons_succ, List.getElem_cons_zero, Act.put, List.setIfInBounds_toArray, List.set_cons_zero, List.set_cons_succ]
  refine wpAnyH_take (i := 4) (v := ?_) rfl (by kernel_rfl) (by kernel_rfl) (by kernel_rfl) (fun _ _ _ h => h) (Or.inl ⟨by rfl, ?_⟩) hHeld ?_
  rotate_left
  · (intro wz _; go_simp; try with_reducible rfl)
  try simp only [List.getElem_toArray, List.getElem_cons_succ, List.getElem_cons_zero, Act.put, List.setIfInBounds_toArray, List.set_cons_zero, List.set_cons_succ]
  refine wpAnyH_take (i := 5) (v := ?_) rfl (by kernel_rfl) (by kernel_rfl) (by kernel_rfl) (fun _ _ _ h => h) (Or.inl ⟨by rfl, ?_⟩) hHeld ?_
  rotate_left
  · (intro wz _; go_simp; try with_reducible rfl)
  try simp only [List.getElem_toArray, List.getElem_cons_succ, List.getElem_cons_zero, Act.put, List.setIfInBounds_toArray, List.set_cons_zero, List.set_cons_succ]
  replace h := h.drew
  generalize w.drew = w1 at h hHeld ⊢
  clear w
  obtain ⟨w, rfl⟩ : ∃ q : World, q = w1 := ⟨_, rfl⟩
  refine wpAnyH_ready (rs := [3]) (by kernel_rfl) (by simp) ?_
  refine AllReadyH.cons rfl (fun K hK => ?_) AllReadyH.nil
  (go_simp; go_wp2_with (go_at_call 58; refine (NW.out _ h).mono ?_; clear h; rintro _ w ⟨rfl, h⟩))
  refine hK.out _ _ (h.le KE) (fun hHeld => ?_)
  clear hK K
  try simp only [Act.put, List.setIfInBounds_toArray, List.set_cons_zero, List.set_cons_succ]
  refine wpAnyH_take (i := 6) (v := ?_) rfl (by kernel_rfl) (by kernel_rfl) (by kernel_rfl) (fun _ _ _ h => h) (Or.inl ⟨by rfl, ?_⟩) hHeld ?_
  rotate_left
  · (intro wz _; go_simp; try with_reducible rfl)
  try simp only [List.getElem_toArray, List.getElem_cons_succ, List.getElem_cons_zero, Act.put, List.setIfInBounds_toArray, List.set_cons_zero, List.set_cons_succ]
  refine wpAnyH_ready (rs := [7]) (by kernel_rfl) (by simp) ?_
  refine AllReadyH.cons rfl (fun K hK => ?_) AllReadyH.nil
  (refine step_store1 (v := .int .u64 v) h rfl 34 _ _ rfl rfl rfl hfb2 hsz rfl rfl (by kernel_rfl) ?_; clear h; intro w h; rw [R1.out] at h)
  refine hK.out _ _ (h.le KS) (fun hHeld => ?_)
  clear hK K
  try simp only [Act.put, List.setIfInBounds_toArray, List.set_cons_zero, List.set_cons_succ]
  refine wpAnyH_done (by kernel_rfl) ?_ _
  have hb4' := KS _ _ hbK
  clear hHeld
  generalize hM3 : M2.upd b (.cells fr1 60) = M3 at h hfb3 KS hb4'
  go_wp2_with (first
    | (with_reducible show wpList _ _ _ ({ dst := _, op := Op.load 61 _, type := _, pos := _, after := _, guard := _ } :: _) _ _; refine wpList_load1_has h rfl 61 _ rfl rfl hb4' d3 Try.underlying61 rfl ?_)
    | (with_reducible show wpList _ _ _ ({ dst := _, op := Op.store 3 _ _, type := _, pos := _, after := _, guard := _ } :: _) _ _; refine wpList_store1_has h rfl 3 _ _ rfl rfl rfl hfb3 hsz3 rfl (by kernel_rfl) ?_; clear h; intro w h))
  go_end0
  refine ⟨rfl, _, _, ?_, HT.out⟩
  have h0 : Has σ (M2.upd b (.cells (fr1.setIfInBounds 1 (.int .i64 1)) 60)) w := by rw [← hM3, Mm.upd_upd] at h; exact h
  rw [R2.out] at h0
  exact h0
set_option maxHeartbeats 4000000 in
set_option maxRecDepth 20000 in
/-- Pin announces. -/
theorem pin_1 {σ w : World} {K M : Mm} {lab : Nat → Nat} {p t q b : Nat} {s : MachS} {fs : List FrameS} {f : FrameS} (h : Has σ M w) (hT : AtTop K M lab p s t q b fs f) (hat : f.at_ = 1) {x : Nat} (hx : f.r 0 = (x : Int)) (hx62 : x < 4611686018427387904) {a : Int} (SP : SpotAt σ M p t 6 (t : Nat) 0 a) (hb1 : s.mem.acc < 1000000000) (hb2 : s.mem.wr < 1000000000) :
    Calls Try.prog 35 #[.agg (runC p t q b)] w fun r w' => r = .returned (.tuple #[]) ∧ ∃ M' lab', Has σ M' w' ∧ AtTop K M' lab' p (MachS.top { s with mem := s.mem.store a (2 * x + 1 : Nat) } t fs (f.goto 2)) t q b fs (f.goto 2) := by
  have d0 : (runC p t q b)[0]? = some (.pointer (some ⟨p, 0, none⟩)) := rfl
  have d1 : (runC p t q b)[1]? = some (.int .i64 (t : Nat)) := rfl
  have d2 : (runC p t q b)[2]? = some (.pointer (some ⟨q, 0, none⟩)) := rfl
  have d3 : (runC p t q b)[3]? = some (.pointer (some ⟨b, 0, none⟩)) := rfl
  have dx : (runC p t q b).extract 0 (0 + 4) = runC p t q b := rfl
  have dz : (runC p t q b).size = 4 := rfl
  have f1 : f.row[1]? = some (.int .i64 1) := by rw [← hat]; rfl
  have f2 : f.row[2]? = some (.int .u64 (x : Nat)) := by rw [← hx]; rfl
  go_enter Try.func35, Try.ntmps35
  go_upto_region 1 with (fail)
  obtain ⟨M1, hbx, hle, hb4, hn⟩ := h.box (.cells (runC p t q b) 92)
  generalize w.alloc _ = wx at hbx ⊢
  generalize w.heap.size = b4 at hb4 hn ⊢
  clear h
  try clear w
  have h := hbx
  clear hbx
  obtain ⟨w, rfl⟩ : ∃ x : World, x = wx := ⟨_, rfl⟩
  obtain ⟨lab1, hT1⟩ := hT.more1 hle hn hb4
  have hnK : K b4 = none := by
    cases e : K b4 with
    | none => rfl
    | some o => have := (hT.base _ _ e).1; rw [hn] at this; cases this
  have hKK : K.le (K.upd b4 (.cells (runC p t q b) 92)) := Mm.le_upd' hnK _
  have hbK : (K.upd b4 (.cells (runC p t q b) 92)) b4 = some (.cells (runC p t q b) 92) := Mm.upd_same _ _ _
  have hfb := hT1.obj
  have AA : Hid (∀ w : World, Has σ M1 w → Calls Try.prog 61 #[.int .u64 (x : Nat)] w fun r w' => r = .returned (.int .u64 (2 * x + 1 : Nat)) ∧ Has σ M1 w') := Lib.hid fun w h => (epActive_any x hx62 w).mono fun r w' ⟨e, e2⟩ => ⟨e, e2 ▸ h⟩
  have ME := Lib.hid (fun (w : World) (h : Has σ M1 w) => mMem_eq h hT1.mach)
  have AC := Lib.hid (fun (w : World) (h : Has σ M1 w) => epAt_eq (q := q) (b := b) h (SP.le hle))
  have SE := Lib.hid (fun (w : World) (h : Has σ M1 w) => memStore_eq h hT1.mach.mem hb1 hb2 a (2 * x + 1 : Nat))
  have hT2 := hT1.store a (2 * x + 1 : Nat)
  obtain ⟨hfb2, hT3⟩ := hT2.frame (f.goto 2)
  have HT := Lib.hid (hT3.less hKK)
  have hb42 := hT2.base.le _ _ hbK
  have hsz3 : 1 < f.row.size := show 1 < 18 by omega
  have R2 := Lib.hid (row_goto f 2)
  clear hT hT1 hT2 hT3 SP hb1 hb2 hn hle hnK hKK hat hx hx62 hbK
  generalize runC p t q b = rc at *
  generalize hr0 : f.row = fr0 at *
  generalize hr2 : (f.goto 2).row = fr2 at *
  clear hr0 hr2
  generalize storeM M1 s.mp s.mem a _ = M2 at *
  go_upto_region 7 with (first
    | (with_reducible show wpList _ _ _ ({ dst := _, op := Op.load 61 _, type := _, pos := _, after := _, guard := _ } :: _) _ _; refine wpList_load1_has h rfl 61 _ rfl rfl hb4 d3 Try.underlying61 rfl ?_)
    | (with_reducible show wpList _ _ _ ({ dst := _, op := Op.load 3 _, type := _, pos := _, after := _, guard := _ } :: _) _ _; refine wpList_load1_has h rfl 3 _ rfl rfl hfb f1 Try.underlying3 rfl ?_))
  refine wp_region_head (Has σ M1) 14 (by kernel_rfl) (by kernel_rfl) (fun _ _ _ _ _ h => h) h.drew ?_
  clear h
  simp only [List.take_succ_cons, List.take_zero, List.drop_succ_cons, List.drop_zero]
  repeat (first
    | go_big_quiet_skip
    | (go_big_quiet_want; first
      | (refine quiet_load_has 26 _ rfl rfl hb4 d0 Try.underlying26 rfl ?_; simp only [Act.put, List.setIfInBounds_toArray, List.set_cons_zero, List.set_cons_succ]; go_big_quiet_on)
      | (refine quiet_agg_has 92 _ rfl rfl hb4 dx dz Try.underlying92 rfl (by kernel_rfl) ?_; simp only [Act.put, List.setIfInBounds_toArray, List.set_cons_zero, List.set_cons_succ]; go_big_quiet_on)
      | (refine quiet_load_has 3 _ rfl rfl hb4 d1 Try.underlying3 rfl ?_; simp only [Act.put, List.setIfInBounds_toArray, List.set_cons_zero, List.set_cons_succ]; go_big_quiet_on)
      | (refine quiet_load_has 61 _ rfl rfl hb4 d3 Try.underlying61 rfl ?_; simp only [Act.put, List.setIfInBounds_toArray, List.set_cons_zero, List.set_cons_succ]; go_big_quiet_on)
      | (refine quiet_load_has 34 _ rfl rfl hfb f2 Try.underlying34 rfl ?_; simp only [Act.put, List.setIfInBounds_toArray, List.set_cons_zero, List.set_cons_succ]; go_big_quiet_on)
      | (go_big_quiet_op; first | go_big_quiet_on | go_big_quiet_call (first | with_reducible exact fun _ => rfl | with_reducible exact ME.out _ | with_reducible exact AC.out _ | with_reducible exact AA.out _))))
  refine wpQuiet_nil ?_
  try clear w
  intro w h
  clear hb4 hfb
  go_wp2_with (first
    | (go_at_call 59; refine (SE.out _ h).mono ?_; clear h; rintro _ w ⟨rfl, h⟩)
    | (with_reducible show wpList _ _ _ ({ dst := _, op := Op.load 61 _, type := _, pos := _, after := _, guard := _ } :: _) _ _; refine wpList_load1_has h rfl 61 _ rfl rfl hb42 d3 Try.underlying61 rfl ?_)
    | (with_reducible show wpList _ _ _ ({ dst := _, op := Op.store 3 _ _, type := _, pos := _, after := _, guard := _ } :: _) _ _; refine wpList_store1_has h rfl 3 _ _ rfl rfl rfl hfb2 hsz3 rfl (by kernel_rfl) ?_; clear h; intro w h))
  go_end0
  refine ⟨rfl, _, _, ?_, HT.out⟩
  have h0 : Has σ (M2.upd b (.cells (fr0.setIfInBounds 1 (.int .i64 2)) 60)) w := h
  rw [R2.out] at h0
  exact h0
set_option maxHeartbeats 4000000 in
set_option maxRecDepth 20000 in
/-- Pin tells the epoch. -/
theorem pin_2 {σ w : World} {K M : Mm} {lab : Nat → Nat} {p t q b : Nat} {s : MachS} {fs : List FrameS} {f : FrameS} (h : Has σ M w) (hT : AtTop K M lab p s t q b fs f) (hat : f.at_ = 2) {a : Int} (SP : SpotAt σ M p t 1 0 0 a) (hb1 : s.mem.acc < 1000000000) (hfs : fs.length < 1000000) :
    Calls Try.prog 35 #[.agg (runC p t q b)] w fun r w' => r = .returned (.tuple #[]) ∧ ∃ M' lab', Has σ M' w' ∧ Mach M' lab' p (MachS.backed { s with mem := s.mem.at_ a } t [s.mem.load a]) ∧ Base K M' lab' := by
  have d0 : (runC p t q b)[0]? = some (.pointer (some ⟨p, 0, none⟩)) := rfl
  have d1 : (runC p t q b)[1]? = some (.int .i64 (t : Nat)) := rfl
  have d2 : (runC p t q b)[2]? = some (.pointer (some ⟨q, 0, none⟩)) := rfl
  have d3 : (runC p t q b)[3]? = some (.pointer (some ⟨b, 0, none⟩)) := rfl
  have dx : (runC p t q b).extract 0 (0 + 4) = runC p t q b := rfl
  have dz : (runC p t q b).size = 4 := rfl
  have f1 : f.row[1]? = some (.int .i64 2) := by rw [← hat]; rfl
  obtain ⟨v, hvv⟩ : ∃ v, s.mem.load a = v := ⟨_, rfl⟩
  rw [hvv]
  go_enter Try.func35, Try.ntmps35
  go_upto_region 1 with (fail)
  obtain ⟨M1, hbx, hle, hb4, hn⟩ := h.box (.cells (runC p t q b) 92)
  generalize w.alloc _ = wx at hbx ⊢
  generalize w.heap.size = b4 at hb4 hn ⊢
  clear h
  try clear w
  have h := hbx
  clear hbx
  obtain ⟨w, rfl⟩ : ∃ x : World, x = wx := ⟨_, rfl⟩
  obtain ⟨lab1, hT1⟩ := hT.more1 hle hn hb4
  have hnK : K b4 = none := by
    cases e : K b4 with
    | none => rfl
    | some o => have := (hT.base _ _ e).1; rw [hn] at this; cases this
  have hKK : K.le (K.upd b4 (.cells (runC p t q b) 92)) := Mm.le_upd' hnK _
  have hbK : (K.upd b4 (.cells (runC p t q b) 92)) b4 = some (.cells (runC p t q b) 92) := Mm.upd_same _ _ _
  have hfb := hT1.obj
  have NW := Lib.hid (fun (w : World) (h : Has σ M1 w) => epNow_eq h hT1 (SP.le hle) hb1)
  rw [hvv] at NW
  have KL := hT1.base.le
  have hT2 := hT1.load a
  have KE := hT2.base.le
  have BK := Lib.hid (fun (M2 : Mm) (w : World) (bl : Nat) (h : Has σ M2 w) (hle : (M1.upd s.mp (.cells (s.mem.at_ a).cells 106)).le M2) (hn : (M1.upd s.mp (.cells (s.mem.at_ a).cells 106)) bl = none) (hbl : M2 bl = some (.cells #[.int .u64 v] 34)) => back1_eq h hT2 hle hn hbl hfs)
  have HK := Lib.hid hKK
  clear hvv hT hT1 hT2 SP hb1 hn hle hnK hKK hat hfs
  generalize K.upd b4 _ = K1 at *
  generalize runC p t q b = rc at *
  generalize f.row = fr0 at *
  generalize M1.upd s.mp _ = M2 at *
  go_upto_region 2 with (first
    | (with_reducible show wpList _ _ _ ({ dst := _, op := Op.load 61 _, type := _, pos := _, after := _, guard := _ } :: _) _ _; refine wpList_load1_has h rfl 61 _ rfl rfl hb4 d3 Try.underlying61 rfl ?_)
    | (with_reducible show wpList _ _ _ ({ dst := _, op := Op.load 3 _, type := _, pos := _, after := _, guard := _ } :: _) _ _; refine wpList_load1_has h rfl 3 _ rfl rfl hfb f1 Try.underlying3 rfl ?_))
  clear hfb hb4
  refine wp_region_held_drew (S := Has σ (K1)) (by kernel_rfl) (h.drew.le KL) (fun hHeld => ?_)
  refine wpAnyH_take (i := 0) (v := ?_) rfl (by kernel_rfl) (by kernel_rfl) (by kernel_rfl) (fun _ _ _ h => h) (Or.inl ⟨by rfl, ?_⟩) hHeld ?_
  rotate_left
  · (intro wz _; go_simp; try with_reducible rfl)
  try simp only [List.getElem_toArray, List.getElem_cons_succ, List.getElem_cons_zero, Act.put, List.setIfInBounds_toArray, List.set_cons_zero, List.set_cons_succ]
  refine wpAnyH_take (i := 1) (v := _) rfl (by kernel_rfl) (by kernel_rfl) (by kernel_rfl) (fun _ _ _ h => h) (yields_load1 rfl 50 _ rfl rfl hbK d2 Try.underlying50 rfl) hHeld ?_
  try simp only [List.getElem_toArray, List.getElem_cons_succ, List.getElem_cons_zero, Act.put, List.setIfInBounds_toArray, List.set_cons_zero, List.set_cons_succ]
  refine wpAnyH_take (i := 2) (v := _) rfl (by kernel_rfl) (by kernel_rfl) (by kernel_rfl) (fun _ _ _ h => h) (yields_agg rfl 92 _ rfl rfl hbK dx dz Try.underlying92 rfl (by kernel_rfl)) hHeld ?_
  try simp only [List.getElem_toArray, List.getElem_cons_succ, List.getElem_cons_zero, Act.put, List.setIfInBounds_toArray, List.set_cons_zero, List.set_cons_succ]
  replace h := h.drew
  generalize w.drew = w1 at h hHeld ⊢
  clear w
  obtain ⟨w, rfl⟩ : ∃ q : World, q = w1 := ⟨_, rfl⟩
  refine wpAnyH_ready (rs := [3]) (by kernel_rfl) (by simp) ?_
  refine AllReadyH.cons rfl (fun K hK => ?_) AllReadyH.nil
  (go_simp; go_wp2_with (go_at_call 58; refine (NW.out _ h).mono ?_; clear h; rintro _ w ⟨rfl, h⟩))
  refine hK.out _ _ (h.le KE) (fun hHeld => ?_)
  clear hK K
  try simp only [Act.put, List.setIfInBounds_toArray, List.set_cons_zero, List.set_cons_succ]
  refine wpAnyH_ready (rs := [4]) (by kernel_rfl) (by simp) ?_
  refine AllReadyH.cons rfl (fun K hK => ?_) AllReadyH.nil
  go_simp
  refine hK.out _ _ ((h.quietAlloc _).le KE) (fun hHeld => ?_)
  clear hK K
  try simp only [Act.put, List.setIfInBounds_toArray, List.set_cons_zero, List.set_cons_succ]
  obtain ⟨M3, h3, hle3, hbl, hnl⟩ := h.box (.cells #[.int .u64 v] 34)
  generalize hwx : w.alloc _ = wx at h3 hHeld ⊢
  generalize w.heap.size = bl at hbl hnl ⊢
  clear h hwx
  try clear w
  obtain ⟨w, rfl⟩ : ∃ q : World, q = wx := ⟨_, rfl⟩
  refine wpAnyH_ready (rs := [5]) (by kernel_rfl) (by simp) ?_
  refine AllReadyH.cons rfl (fun K hK => ?_) AllReadyH.nil
  (go_simp; go_wp2_with (go_at_call 62; refine (BK.out M3 _ bl h3 hle3 hnl hbl).mono ?_; clear h3; rintro _ w ⟨rfl, M4, lab4, h, hM4, hB4⟩))
  refine hK.out _ _ (h.le (fun c o hc => (hB4 c o hc).1)) (fun hHeld => ?_)
  clear hK K
  try simp only [Act.put, List.setIfInBounds_toArray, List.set_cons_zero, List.set_cons_succ]
  refine wpAnyH_done (by kernel_rfl) ?_ _
  go_end0
  exact ⟨rfl, M4, lab4, h, hM4, fun c o hc => hB4 c o (HK.out _ _ hc)⟩
set_option maxHeartbeats 4000000 in
set_option maxRecDepth 20000 in
/-- Unpin. -/
theorem unpin_0 {σ w : World} {K M : Mm} {lab : Nat → Nat} {p t q b : Nat} {s : MachS} {fs : List FrameS} {f : FrameS} (h : Has σ M w) (hT : AtTop K M lab p s t q b fs f) {a : Int} (SP : SpotAt σ M p t 6 (t : Nat) 0 a) (hb1 : s.mem.acc < 1000000000) (hb2 : s.mem.wr < 1000000000) (hfs : fs.length < 1000000) :
    Calls Try.prog 36 #[.agg (runC p t q b)] w fun r w' => r = .returned (.tuple #[]) ∧ ∃ M' lab', Has σ M' w' ∧ Mach M' lab' p (MachS.backed { s with mem := s.mem.store a 0 } t []) ∧ Base K M' lab' := by
  have d0 : (runC p t q b)[0]? = some (.pointer (some ⟨p, 0, none⟩)) := rfl
  have d1 : (runC p t q b)[1]? = some (.int .i64 (t : Nat)) := rfl
  have d2 : (runC p t q b)[2]? = some (.pointer (some ⟨q, 0, none⟩)) := rfl
  have d3 : (runC p t q b)[3]? = some (.pointer (some ⟨b, 0, none⟩)) := rfl
  have dx : (runC p t q b).extract 0 (0 + 4) = runC p t q b := rfl
  have dz : (runC p t q b).size = 4 := rfl
  go_enter Try.func36, Try.ntmps36
  go_upto_region 1 with (fail)
  obtain ⟨M1, hbx, hle, hb4, hn⟩ := h.box (.cells (runC p t q b) 92)
  generalize w.alloc _ = wx at hbx ⊢
  generalize w.heap.size = b4 at hb4 hn ⊢
  clear h
  try clear w
  have h := hbx
  clear hbx
  obtain ⟨w, rfl⟩ : ∃ x : World, x = wx := ⟨_, rfl⟩
  obtain ⟨lab1, hT1⟩ := hT.more1 hle hn hb4
  have hnK : K b4 = none := by
    cases e : K b4 with
    | none => rfl
    | some o => have := (hT.base _ _ e).1; rw [hn] at this; cases this
  have hKK : K.le (K.upd b4 (.cells (runC p t q b) 92)) := Mm.le_upd' hnK _
  have hbK : (K.upd b4 (.cells (runC p t q b) 92)) b4 = some (.cells (runC p t q b) 92) := Mm.upd_same _ _ _
  have hfb := hT1.obj
  have ME := Lib.hid (fun (w : World) (h : Has σ M1 w) => mMem_eq h hT1.mach)
  have AC := Lib.hid (fun (w : World) (h : Has σ M1 w) => epAt_eq (q := q) (b := b) h (SP.le hle))
  have SE := Lib.hid (fun (w : World) (h : Has σ M1 w) => memStore_eq h hT1.mach.mem hb1 hb2 a 0)
  have hT2 := hT1.store a 0
  have BK := Lib.hid (fun (w : World) (h : Has σ (storeM M1 s.mp s.mem a 0) w) => back0_eq h hT2 hfs)
  have hb42 := hT2.base.le _ _ hbK
  have HK := Lib.hid hKK
  clear hT hT1 hT2 SP hb1 hb2 hn hle hnK hKK hfs hbK hfb
  generalize K.upd b4 _ = K1 at *
  generalize runC p t q b = rc at *
  generalize storeM M1 s.mp s.mem a _ = M2 at *
  refine wp_region_head (Has σ M1) 7 (by kernel_rfl) (by kernel_rfl) (fun _ _ _ _ _ h => h) h.drew ?_
  clear h
  simp only [List.take_succ_cons, List.take_zero, List.drop_succ_cons, List.drop_zero]
  repeat (first
    | go_big_quiet_skip
    | (go_big_quiet_want; first
      | (refine quiet_load_has 26 _ rfl rfl hb4 d0 Try.underlying26 rfl ?_; simp only [Act.put, List.setIfInBounds_toArray, List.set_cons_zero, List.set_cons_succ]; go_big_quiet_on)
      | (refine quiet_agg_has 92 _ rfl rfl hb4 dx dz Try.underlying92 rfl (by kernel_rfl) ?_; simp only [Act.put, List.setIfInBounds_toArray, List.set_cons_zero, List.set_cons_succ]; go_big_quiet_on)
      | (refine quiet_load_has 3 _ rfl rfl hb4 d1 Try.underlying3 rfl ?_; simp only [Act.put, List.setIfInBounds_toArray, List.set_cons_zero, List.set_cons_succ]; go_big_quiet_on)
      | (go_big_quiet_op; first | go_big_quiet_on | go_big_quiet_call (first | with_reducible exact fun _ => rfl | with_reducible exact ME.out _ | with_reducible exact AC.out _))))
  refine wpQuiet_nil ?_
  try clear w
  intro w h
  clear hb4
  go_wp2_with (first
    | (go_at_call 59; refine (SE.out _ h).mono ?_; clear h; rintro _ w ⟨rfl, h⟩)
    | (with_reducible show wpList _ _ _ ({ dst := _, op := Op.load 50 _, type := _, pos := _, after := _, guard := _ } :: _) _ _; refine wpList_load1_has h rfl 50 _ rfl rfl hb42 d2 Try.underlying50 rfl ?_)
    | (go_at_call 62; refine (BK.out _ h).mono ?_; clear h; rintro _ w ⟨rfl, M4, lab4, h, hM4, hB4⟩))
  go_end0
  exact ⟨rfl, M4, lab4, h, hM4, fun c o hc => hB4 c o (HK.out _ _ hc)⟩
end
section
open Go.RowKit
set_option linter.unusedVariables false
set_option linter.unusedSimpArgs false
set_option linter.unnecessarySimpa false

theorem AtTop.more {K M M' : Mm} {lab : Nat → Nat} {p t q b : Nat} {s : MachS} {fs : List FrameS} {f : FrameS} (h : AtTop K M lab p s t q b fs f) (hle : M.le M') : AtTop K M' (relab M lab fun _ => 0) p s t q b fs f :=
  h.keep (Kp.le hle fun _ => 0) (fun _ _ h => h) (h.mach.keep (Kp.le hle fun _ => 0) fun _ _ h => h) (h.base.keep (Kp.le hle fun _ => 0) fun h => h) rfl rfl
set_option maxHeartbeats 4000000 in
set_option maxRecDepth 20000 in
/-- Advance reads the epoch. -/
theorem adv_0 {σ w : World} {K M : Mm} {lab : Nat → Nat} {p t q b : Nat} {s : MachS} {fs : List FrameS} {f : FrameS} (h : Has σ M w) (hT : AtTop K M lab p s t q b fs f) (hat : f.at_ = 0) {lv : Nat} (hlv : levelOf s.c (t : Nat) = (lv : Nat)) {T : Nat} (hT1c : s.c 1 = (T : Nat)) {a : Int} (SP : SpotAt σ M p t 1 0 0 a) (hb1 : s.mem.acc < 1000000000) :
    Calls Try.prog 37 #[.agg (runC p t q b)] w fun r w' => r = .returned (.tuple #[]) ∧ ∃ M' lab', Has σ M' w' ∧ AtTop K M' lab' p (MachS.top { s with mem := s.mem.at_ a } t fs ((f.reg 0 (s.mem.load a)).goto 1)) t q b fs ((f.reg 0 (s.mem.load a)).goto 1) := by
  obtain ⟨v, hvv⟩ : ∃ v, s.mem.load a = v := ⟨_, rfl⟩
  rw [hvv]
  have d0 : (runC p t q b)[0]? = some (.pointer (some ⟨p, 0, none⟩)) := rfl
  have d1 : (runC p t q b)[1]? = some (.int .i64 (t : Nat)) := rfl
  have d2 : (runC p t q b)[2]? = some (.pointer (some ⟨q, 0, none⟩)) := rfl
  have d3 : (runC p t q b)[3]? = some (.pointer (some ⟨b, 0, none⟩)) := rfl
  have dx : (runC p t q b).extract 0 (0 + 4) = runC p t q b := rfl
  have dz : (runC p t q b).size = 4 := rfl
  have f1 : f.row[1]? = some (.int .i64 0) := by rw [← hat]; rfl
  go_enter Try.func37, Try.ntmps37
  go_upto_region 1 with (fail)
  obtain ⟨M1, hbx, hle, hb4, hn⟩ := h.box (.cells (runC p t q b) 92)
  generalize w.alloc _ = wx at hbx ⊢
  generalize w.heap.size = b4 at hb4 hn ⊢
  clear h
  try clear w
  have h := hbx
  clear hbx
  obtain ⟨w, rfl⟩ : ∃ x : World, x = wx := ⟨_, rfl⟩
  obtain ⟨lab1, hT1⟩ := hT.more1 hle hn hb4
  have hnK : K b4 = none := by
    cases e : K b4 with
    | none => rfl
    | some o => have := (hT.base _ _ e).1; rw [hn] at this; cases this
  have hKK : K.le (K.upd b4 (.cells (runC p t q b) 92)) := Mm.le_upd' hnK _
  have hbK : (K.upd b4 (.cells (runC p t q b) 92)) b4 = some (.cells (runC p t q b) 92) := Mm.upd_same _ _ _
  have hfb := hT1.obj
  have PL := Lib.hid (fun (w : World) (h : Has σ M1 w) => mPlan_eq h hT1.mach)
  have CF := Lib.hid (fun (w : World) (h : Has σ M1 w) => conf_has h s.c hT1.mach.plan)
  have LV : Hid (∀ w : World, Has σ M1 w → Calls Try.prog 9 #[.pointer (some ⟨p, 0, none⟩), .int .i64 (t : Nat)] w fun r w' => r = .returned (.int .i64 (lv : Nat)) ∧ Has σ M1 w') := Lib.hid fun w h => (mLevel_eq h hT1.mach t).mono fun r w' ⟨e, h'⟩ => ⟨e.trans (congrArg (fun z => Ending.returned (Value.int .i64 z)) hlv), h'⟩
  have AT := Lib.hid (fun (w : World) (h : Has σ M1 w) => confAt_eq h s.c (decide_eq_true hT.mach.may) hT1c lv)
  have HT1 := Lib.hid hT1
  have HSP := Lib.hid (fun (M' : Mm) (hle' : M1.le M') => SP.le (Mm.le_trans hle hle'))
  have HVV := Lib.hid hvv
  have HB1 := Lib.hid hb1
  have HKK := Lib.hid hKK
  have hrow0 : (f.reg 0 v).row = f.row.setIfInBounds 2 (.int .u64 v) := (row_reg0 f v).symm
  clear hvv hT hT1 SP hb1 hn hle hnK hKK hat hT1c hlv hrow0
  generalize hrc : runC p t q b = rc at *
  have HRC := Lib.hid hrc
  clear hrc
  generalize hr0 : f.row = fr0 at *
  have HR0 := Lib.hid hr0
  clear hr0
  generalize K.upd b4 _ = K1 at *
  unfold confV at AT
  generalize ints .i64 14 s.c = crow at *
  go_upto_region 2 with (first
    | (with_reducible show wpList _ _ _ ({ dst := _, op := Op.load 61 _, type := _, pos := _, after := _, guard := _ } :: _) _ _; refine wpList_load1_has h rfl 61 _ rfl rfl hb4 d3 Try.underlying61 rfl ?_))
  refine wp_region_head (Has σ M1) 9 (by kernel_rfl) (by kernel_rfl) (fun _ _ _ _ _ h => h) h.drew ?_
  clear h
  simp only [List.take_succ_cons, List.take_zero, List.drop_succ_cons, List.drop_zero]
  repeat (first
    | go_big_quiet_skip
    | (go_big_quiet_want; first
      | (refine quiet_load_has 26 _ rfl rfl hb4 d0 Try.underlying26 rfl ?_; simp only [Act.put, List.setIfInBounds_toArray, List.set_cons_zero, List.set_cons_succ]; go_big_quiet_on)
      | (refine quiet_load_has 3 _ rfl rfl hb4 d1 Try.underlying3 rfl ?_; simp only [Act.put, List.setIfInBounds_toArray, List.set_cons_zero, List.set_cons_succ]; go_big_quiet_on)
      | (go_big_quiet_op; first | go_big_quiet_on | go_big_quiet_call (first | with_reducible exact fun _ => rfl | with_reducible exact PL.out _ | with_reducible exact CF.out _ | with_reducible exact LV.out _))))
  refine wpQuiet_nil ?_
  try clear w
  intro w h
  clear PL CF LV
  go_upto_region 3 with (first
    | ((go_at_call 63; refine (AT.out _ h).mono ?_; clear h; rintro _ w ⟨v3, rfl, M2, h, hle2, hown⟩)))
  have hT2 := HT1.out.more hle2
  have NW := Lib.hid (fun (w : World) (h : Has σ M2 w) => epNow_eq h hT2 (HSP.out M2 hle2) HB1.out)
  rw [HVV.out, HRC.out] at NW
  have KL := hT2.base.le
  have hT3 := hT2.load a
  have KE := hT3.base.le
  obtain ⟨hfb2, hT4⟩ := hT3.frame (f.reg 0 v)
  have KS := hT4.base.le
  obtain ⟨hfb3, hT5⟩ := hT4.frame ((f.reg 0 v).goto 1)
  rw [MachS.top_top, Mm.upd_upd] at hT5
  have HT := Lib.hid (hT5.less HKK.out)
  have hsz : 2 < f.row.size := show 2 < 18 by omega
  have hsz3 : 1 < (f.reg 0 v).row.size := show 1 < 18 by omega
  have R1 := Lib.hid (row_reg0 f v)
  have R2 := Lib.hid (row_goto (f.reg 0 v) 1)
  rw [HR0.out] at hfb2 hsz R1
  replace hfb := hle2 _ _ hfb
  obtain ⟨A3, c3, rfl⟩ := hown.form
  clear hT2 hT3 hT4 hT5 hown HT1 HSP HVV HB1 HKK HRC HR0 hle2 AT
  generalize hr1 : (f.reg 0 v).row = fr1 at *
  generalize hr2 : ((f.reg 0 v).goto 1).row = fr2 at *
  clear hr1 hr2
  generalize M2.upd s.mp _ = M3 at *
  go_upto_region 9 with (first
    | (with_reducible show wpList _ _ _ ({ dst := _, op := Op.load 3 _, type := _, pos := _, after := _, guard := _ } :: _) _ _; refine wpList_load1_has h rfl 3 _ rfl rfl hfb f1 Try.underlying3 rfl ?_))
  clear hfb
  refine wp_region_held_drew (S := Has σ (K1)) (by kernel_rfl) (h.drew.le KL) (fun hHeld => ?_)
  refine wpAnyH_take (i := 0) (v := ?_) rfl (by kernel_rfl) (by kernel_rfl) (by kernel_rfl) (fun _ _ _ h => h) (Or.inl ⟨by rfl, ?_⟩) hHeld ?_
  rotate_left
  · (intro wz _; go_simp; try with_reducible rfl)
  try simp only [List.getElem_toArray, List.getElem_cons_succ, List.getElem_cons_zero, Act.put, List.setIfInBounds_toArray, List.set_cons_zero, List.set_cons_succ]
  refine wpAnyH_take (i := 1) (v := _) rfl (by kernel_rfl) (by kernel_rfl) (by kernel_rfl) (fun _ _ _ h => h) (yields_agg rfl 92 _ rfl rfl hbK dx dz Try.underlying92 rfl (by kernel_rfl)) hHeld ?_
  try simp only [List.getElem_toArray, List.getElem_cons_succ, List.getElem_cons_zero, Act.put, List.setIfInBounds_toArray, List.set_cons_zero, List.set_cons_succ]
  refine wpAnyH_take (i := 3) (v := ?_) rfl (by kernel_rfl) (by kernel_rfl) (by kernel_rfl) (fun _ _ _ h => h) (Or.inl ⟨by rfl, ?_⟩) hHeld ?_
  rotate_left
  · (intro wz _; go_simp; try with_reducible rfl)
  try simp only [List.getElem_toArray, List.getElem_cons_succ, List.getElem_cons_zero, Act.put, List.setIfInBounds_toArray, List.set_cons_zero, List.set_cons_succ]
  refine wpAnyH_take (i := 4) (v := ?_) rfl (by kernel_rfl) (by kernel_rfl) (by kernel_rfl) (fun _ _ _ h => h) (Or.inl ⟨by rfl, ?_⟩) hHeld ?_
  rotate_left
  · (intro wz _; go_simp; try with_reducible rfl)
  try simp only [List.getElem_toArray, List.getElem_cons_succ, List.getElem_cons_zero, Act.put, List.setIfInBounds_toArray, List.set_cons_zero, List.set_cons_succ]
  replace h := h.drew
  generalize w.drew = w1 at h hHeld ⊢
  clear w
  obtain ⟨w, rfl⟩ : ∃ q : World, q = w1 := ⟨_, rfl⟩
  refine wpAnyH_ready (rs := [2]) (by kernel_rfl) (by simp) ?_
  refine AllReadyH.cons rfl (fun K hK => ?_) AllReadyH.nil
  (go_simp; go_wp2_with (go_at_call 58; refine (NW.out _ h).mono ?_; clear h; rintro _ w ⟨rfl, h⟩))
  refine hK.out _ _ (h.le KE) (fun hHeld => ?_)
  clear hK K
  try simp only [Act.put, List.setIfInBounds_toArray, List.set_cons_zero, List.set_cons_succ]
  refine wpAnyH_take (i := 5) (v := ?_) rfl (by kernel_rfl) (by kernel_rfl) (by kernel_rfl) (fun _ _ _ h => h) (Or.inl ⟨by rfl, ?_⟩) hHeld ?_
  rotate_left
  · (intro wz _; go_simp; try with_reducible rfl)
  try simp only [List.getElem_toArray, List.getElem_cons_succ, List.getElem_cons_zero, Act.put, List.setIfInBounds_toArray, List.set_cons_zero, List.set_cons_succ]
  refine wpAnyH_ready (rs := [6]) (by kernel_rfl) (by simp) ?_
  refine AllReadyH.cons rfl (fun K hK => ?_) AllReadyH.nil
  (refine step_store1 (v := .int .u64 v) h rfl 34 _ _ rfl rfl rfl hfb2 hsz rfl rfl (by kernel_rfl) ?_; clear h; intro w h; rw [R1.out] at h)
  refine hK.out _ _ (h.le KS) (fun hHeld => ?_)
  clear hK K
  try simp only [Act.put, List.setIfInBounds_toArray, List.set_cons_zero, List.set_cons_succ]
  refine wpAnyH_done (by kernel_rfl) ?_ _
  clear hHeld
  generalize hM4 : M3.upd b (.cells fr1 60) = M4 at h hfb3 KS
  go_wp2_with (first
    | (with_reducible show wpList _ _ _ ({ dst := _, op := Op.store 3 _ _, type := _, pos := _, after := _, guard := _ } :: _) _ _; refine wpList_store1_has h rfl 3 _ _ rfl rfl rfl hfb3 hsz3 rfl (by kernel_rfl) ?_; clear h; intro w h))
  go_end0
  refine ⟨rfl, _, _, ?_, HT.out⟩
  have h0 : Has σ (M3.upd b (.cells (fr1.setIfInBounds 1 (.int .i64 1)) 60)) w := by rw [← hM4, Mm.upd_upd] at h; exact h
  rw [R2.out] at h0
  exact h0
theorem row_regv (f : FrameS) (v : Int) : f.row.setIfInBounds 3 (.int .u64 v) = (f.reg 1 v).row := rfl
set_option maxHeartbeats 4000000 in
set_option maxRecDepth 20000 in
/-- A thread lags: Advance ends. -/
theorem adv_1lag {σ w : World} {K M : Mm} {lab : Nat → Nat} {p t q b : Nat} {s : MachS} {fs : List FrameS} {f : FrameS} (h : Has σ M w) (hT : AtTop K M lab p s t q b fs f) (hat : f.at_ = 1) {lv : Nat} (hlv : levelOf s.c (t : Nat) = (lv : Nat)) {T : Nat} (hT1c : s.c 1 = (T : Nat)) {al : List Nat} (hal : atC s.c T lv = al) {x r y z : Nat} (hx : f.r 0 = (x : Int)) (hx62 : x < 4611686018427387904) (hr : f.r 1 = (r : Int)) (hr8 : r < 8) (hy : al[r]? = some y) {a : Int} (SP : SpotAt σ M p t 6 (y : Nat) 0 a) (hz : s.mem.load a = (z : Int)) (hz64 : z < 18446744073709551616) (hb1 : s.mem.acc < 1000000000) (hl : lagsN z x = true) (hfs : fs.length < 1000000) :
    Calls Try.prog 37 #[.agg (runC p t q b)] w fun r w' => r = .returned (.tuple #[]) ∧ ∃ M' lab', Has σ M' w' ∧ Mach M' lab' p (MachS.backed { s with mem := s.mem.at_ a } t [0]) ∧ Base K M' lab' := by
  have HL := Lib.hid hl
  have HF := Lib.hid hfs
  clear hl hfs
  have d0 : (runC p t q b)[0]? = some (.pointer (some ⟨p, 0, none⟩)) := rfl
  have d1 : (runC p t q b)[1]? = some (.int .i64 (t : Nat)) := rfl
  have d2 : (runC p t q b)[2]? = some (.pointer (some ⟨q, 0, none⟩)) := rfl
  have d3 : (runC p t q b)[3]? = some (.pointer (some ⟨b, 0, none⟩)) := rfl
  have dx : (runC p t q b).extract 0 (0 + 4) = runC p t q b := rfl
  have dz : (runC p t q b).size = 4 := rfl
  have f1 : f.row[1]? = some (.int .i64 1) := by rw [← hat]; rfl
  go_enter Try.func37, Try.ntmps37
  go_upto_region 1 with (fail)
  obtain ⟨M1, hbx, hle, hb4, hn⟩ := h.box (.cells (runC p t q b) 92)
  generalize w.alloc _ = wx at hbx ⊢
  generalize w.heap.size = b4 at hb4 hn ⊢
  clear h
  try clear w
  have h := hbx
  clear hbx
  obtain ⟨w, rfl⟩ : ∃ x : World, x = wx := ⟨_, rfl⟩
  obtain ⟨lab1, hT1⟩ := hT.more1 hle hn hb4
  have hnK : K b4 = none := by
    cases e : K b4 with
    | none => rfl
    | some o => have := (hT.base _ _ e).1; rw [hn] at this; cases this
  have hKK : K.le (K.upd b4 (.cells (runC p t q b) 92)) := Mm.le_upd' hnK _
  have hbK : (K.upd b4 (.cells (runC p t q b) 92)) b4 = some (.cells (runC p t q b) 92) := Mm.upd_same _ _ _
  have hfb := hT1.obj
  have PL := Lib.hid (fun (w : World) (h : Has σ M1 w) => mPlan_eq h hT1.mach)
  have CF := Lib.hid (fun (w : World) (h : Has σ M1 w) => conf_has h s.c hT1.mach.plan)
  have LV : Hid (∀ w : World, Has σ M1 w → Calls Try.prog 9 #[.pointer (some ⟨p, 0, none⟩), .int .i64 (t : Nat)] w fun r w' => r = .returned (.int .i64 (lv : Nat)) ∧ Has σ M1 w') := Lib.hid fun w h => (mLevel_eq h hT1.mach t).mono fun r w' ⟨e, h'⟩ => ⟨e.trans (congrArg (fun z => Ending.returned (Value.int .i64 z)) hlv), h'⟩
  have AT := Lib.hid (fun (w : World) (h : Has σ M1 w) => confAt_eq h s.c (decide_eq_true hT.mach.may) hT1c lv)
  rw [hal] at AT
  have f2 : f.row[2]? = some (.int .u64 (x : Nat)) := by rw [← hx]; rfl
  have f3 : f.row[3]? = some (.int .u64 (r : Nat)) := by rw [← hr]; rfl
  have ur : IntKind.i64.wrap ((r : Nat) : Int) = ((r : Nat) : Int) := IntWalk.i64_in _ (by omega)
  have hrl : (r : Int) < (al.length : Int) := by have := (List.getElem?_eq_some_iff.1 hy).1; omega
  have HT1 := Lib.hid hT1
  have HSP := Lib.hid (fun (M' : Mm) (hle' : M1.le M') => SP.le (Mm.le_trans hle hle'))
  have HZ := Lib.hid hz
  have HB1 := Lib.hid hb1
  have HKK := Lib.hid hKK
  have HY := Lib.hid hy
  have LG := Lib.hid (epLags_any z x hz64 hx62)
  clear hT hT1 SP hb1 hn hle hnK hKK hat hT1c hlv hal hx hx62 hr hz hz64 hy
  obtain ⟨nl, hnl⟩ : ∃ nl, al.length = nl := ⟨_, rfl⟩
  rw [hnl] at AT hrl
  have HNL := Lib.hid hnl
  clear hnl
  generalize hrc : runC p t q b = rc at *
  have HRC := Lib.hid hrc
  clear hrc
  generalize hr0 : f.row = fr0 at *
  have HR0 := Lib.hid hr0
  clear hr0
  generalize K.upd b4 _ = K1 at *
  unfold confV at AT
  generalize ints .i64 14 s.c = crow at *
  go_upto_region 2 with (first
    | (with_reducible show wpList _ _ _ ({ dst := _, op := Op.load 61 _, type := _, pos := _, after := _, guard := _ } :: _) _ _; refine wpList_load1_has h rfl 61 _ rfl rfl hb4 d3 Try.underlying61 rfl ?_))
  refine wp_region_head (Has σ M1) 9 (by kernel_rfl) (by kernel_rfl) (fun _ _ _ _ _ h => h) h.drew ?_
  clear h
  simp only [List.take_succ_cons, List.take_zero, List.drop_succ_cons, List.drop_zero]
  repeat (first
    | go_big_quiet_skip
    | (go_big_quiet_want; first
      | (refine quiet_load_has 26 _ rfl rfl hb4 d0 Try.underlying26 rfl ?_; simp only [Act.put, List.setIfInBounds_toArray, List.set_cons_zero, List.set_cons_succ]; go_big_quiet_on)
      | (refine quiet_load_has 3 _ rfl rfl hb4 d1 Try.underlying3 rfl ?_; simp only [Act.put, List.setIfInBounds_toArray, List.set_cons_zero, List.set_cons_succ]; go_big_quiet_on)
      | (go_big_quiet_op; first | go_big_quiet_on | go_big_quiet_call (first | with_reducible exact fun _ => rfl | with_reducible exact PL.out _ | with_reducible exact CF.out _ | with_reducible exact LV.out _))))
  refine wpQuiet_nil ?_
  try clear w
  intro w h
  clear PL CF LV
  go_upto_region 3 with (first
    | ((go_at_call 63; refine (AT.out _ h).mono ?_; clear h; rintro _ w ⟨v3, rfl, M2, h, hle2, hown⟩)))
  have hT2 := HT1.out.more hle2
  have ME := Lib.hid (fun (w : World) (h : Has σ M2 w) => mMem_eq h hT2.mach)
  have AC := Lib.hid (fun (w : World) (h : Has σ M2 w) => epAt_eq (q := q) (b := b) h (HSP.out M2 hle2))
  rw [HRC.out] at AC
  have LD := Lib.hid (fun (w : World) (h : Has σ M2 w) => memLoad_eq h hT2.mach.mem HB1.out a)
  rw [HZ.out] at LD
  have hT3 := hT2.load a
  have hmp := hT2.mach.mem.obj
  have hb2 := hT2.base.le _ _ hbK
  have hf2 := hle2 _ _ hfb
  have ne4 : b4 ≠ s.mp := Mm.ne_cells hb2 hmp (by decide)
  have nef : b ≠ s.mp := Mm.ne_cells hf2 hmp (by decide)
  have hbD := Mm.drop_of hb2 ne4
  have hfD := Mm.drop_of hf2 nef
  have hmp1 : M1 s.mp = some (.cells s.mem.cells 106) := HT1.out.mach.mem.obj
  have hrdD := hown.rd_drop hmp1
  obtain ⟨_, A3, c3, rfl, hnc3, hA3⟩ := hrdD
  obtain ⟨g3, o3, cs3, t3, z3, rfl, hg3, hx3⟩ := hA3 (by omega)
  have gy : cs3[o3 + r]? = some (.int .i64 (y : Nat)) := hx3 r _ (by simp [natv, HY.out])
  have KD : (M2.drop s.mp).le M2 := Mm.drop_le _ _
  have KE : (M2.drop s.mp).le (M2.upd s.mp (.cells (s.mem.at_ a).cells 106)) := Mm.drop_upd KD _
  have HT3 := Lib.hid hT3
  clear hT2 hT3 hown HT1 HSP HZ HB1 HY HRC hle2 AT hmp hb2 ne4 nef hmp1 hx3 hA3
  generalize M2.drop s.mp = MD at *
  generalize hM3 : M2.upd s.mp _ = M3 at *
  go_upto_region 12 with (first
    | (with_reducible show wpList _ _ _ ({ dst := _, op := Op.load 3 _, type := _, pos := _, after := _, guard := _ } :: _) _ _; refine wpList_load1_has h rfl 3 _ rfl rfl hf2 f1 Try.underlying3 rfl ?_))
  clear hf2
  refine wp_region_held_drew (S := Has σ (MD)) (by kernel_rfl) (h.drew.le KD) (fun hHeld => ?_)
  refine wpAnyH_take (i := 0) (v := ?_) rfl (by kernel_rfl) (by kernel_rfl) (by kernel_rfl) (fun _ _ _ h => h) (Or.inl ⟨by rfl, ?_⟩) hHeld ?_
  rotate_left
  · (intro wz _; go_simp; try with_reducible rfl)
  try simp only [List.getElem_toArray, List.getElem_cons_succ, List.getElem_cons_zero, Act.put, List.setIfInBounds_toArray, List.set_cons_zero, List.set_cons_succ]
  refine wpAnyH_take (i := 1) (v := _) rfl (by kernel_rfl) (by kernel_rfl) (by kernel_rfl) (fun _ _ _ h => h) (yields_load1 rfl 26 _ rfl rfl hbD d0 Try.underlying26 rfl) hHeld ?_
  try simp only [List.getElem_toArray, List.getElem_cons_succ, List.getElem_cons_zero, Act.put, List.setIfInBounds_toArray, List.set_cons_zero, List.set_cons_succ]
  refine wpAnyH_take (i := 3) (v := _) rfl (by kernel_rfl) (by kernel_rfl) (by kernel_rfl) (fun _ _ _ h => h) (yields_agg rfl 92 _ rfl rfl hbD dx dz Try.underlying92 rfl (by kernel_rfl)) hHeld ?_
  try simp only [List.getElem_toArray, List.getElem_cons_succ, List.getElem_cons_zero, Act.put, List.setIfInBounds_toArray, List.set_cons_zero, List.set_cons_succ]
  refine wpAnyH_take (i := 4) (v := ?_) rfl (by kernel_rfl) (by kernel_rfl) (by kernel_rfl) (fun _ _ _ h => h) (Or.inl ⟨by rfl, ?_⟩) hHeld ?_
  rotate_left
  · (intro wz _; go_simp; try with_reducible rfl)
  try simp only [List.getElem_toArray, List.getElem_cons_succ, List.getElem_cons_zero, Act.put, List.setIfInBounds_toArray, List.set_cons_zero, List.set_cons_succ]
  refine wpAnyH_take (i := 5) (v := ?_) rfl (by kernel_rfl) (by kernel_rfl) (by kernel_rfl) (fun _ _ _ h => h) (Or.inl ⟨by rfl, ?_⟩) hHeld ?_
  rotate_left
  · (intro wz _; go_simp; try with_reducible rfl)
  try simp only [List.getElem_toArray, List.getElem_cons_succ, List.getElem_cons_zero, Act.put, List.setIfInBounds_toArray, List.set_cons_zero, List.set_cons_succ]
  refine wpAnyH_take (i := 6) (v := ?_) rfl (by kernel_rfl) (by kernel_rfl) (by kernel_rfl) (fun _ _ _ h => h) (Or.inl ⟨by rfl, ?_⟩) hHeld ?_
  rotate_left
  · (intro wz _; go_simp; try with_reducible rfl)
  try simp only [List.getElem_toArray, List.getElem_cons_succ, List.getElem_cons_zero, Act.put, List.setIfInBounds_toArray, List.set_cons_zero, List.set_cons_succ]
  refine wpAnyH_take (i := 7) (v := ?_) rfl (by kernel_rfl) (by kernel_rfl) (by kernel_rfl) (fun _ _ _ h => h) (Or.inl ⟨by rfl, ?_⟩) hHeld ?_
  rotate_left
  · (intro wz _; go_simp; try with_reducible rfl)
  try simp only [List.getElem_toArray, List.getElem_cons_succ, List.getElem_cons_zero, Act.put, List.setIfInBounds_toArray, List.set_cons_zero, List.set_cons_succ]
  refine wpAnyH_take (i := 8) (v := ?_) rfl (by kernel_rfl) (by kernel_rfl) (by kernel_rfl) (fun _ _ _ h => h) (Or.inl ⟨by rfl, ?_⟩) hHeld ?_
  rotate_left
  · (intro wz _; go_simp; try with_reducible rfl)
  try simp only [List.getElem_toArray, List.getElem_cons_succ, List.getElem_cons_zero, Act.put, List.setIfInBounds_toArray, List.set_cons_zero, List.set_cons_succ]
  refine wpAnyH_take (i := 9) (v := _) rfl (by kernel_rfl) (by kernel_rfl) (by kernel_rfl) (fun _ _ _ h => h) (yields_load1 rfl 34 _ rfl rfl hfD f3 Try.underlying34 rfl) hHeld ?_
  try simp only [List.getElem_toArray, List.getElem_cons_succ, List.getElem_cons_zero, Act.put, List.setIfInBounds_toArray, List.set_cons_zero, List.set_cons_succ]
  refine wpAnyH_take (i := 10) (v := ?_) rfl (by kernel_rfl) (by kernel_rfl) (by kernel_rfl) (fun _ _ _ h => h) (Or.inl ⟨by rfl, ?_⟩) hHeld ?_
  rotate_left
  · (intro wz _; go_simp; try with_reducible rfl)
  try simp only [List.getElem_toArray, List.getElem_cons_succ, List.getElem_cons_zero, Act.put, List.setIfInBounds_toArray, List.set_cons_zero, List.set_cons_succ]
  refine wpAnyH_take (i := 11) (v := ?_) rfl (by kernel_rfl) (by kernel_rfl) (by kernel_rfl) (fun _ _ _ h => h) (Or.inl ⟨by rfl, ?_⟩) hHeld ?_
  rotate_left
  · (intro wz _; go_simp; try with_reducible rfl)
  try simp only [List.getElem_toArray, List.getElem_cons_succ, List.getElem_cons_zero, Act.put, List.setIfInBounds_toArray, List.set_cons_zero, List.set_cons_succ]
  refine wpAnyH_take (i := 12) (v := _) rfl (by kernel_rfl) (by kernel_rfl) (by kernel_rfl) (fun _ _ _ h => h) (yields_load1 rfl 3 _ rfl rfl hg3 gy Try.underlying3 rfl) hHeld ?_
  try simp only [List.getElem_toArray, List.getElem_cons_succ, List.getElem_cons_zero, Act.put, List.setIfInBounds_toArray, List.set_cons_zero, List.set_cons_succ]
  refine wpAnyH_take (i := 15) (v := ?_) rfl (by kernel_rfl) (by kernel_rfl) (by kernel_rfl) (fun _ _ _ h => h) (Or.inl ⟨by rfl, ?_⟩) hHeld ?_
  rotate_left
  · (intro wz _; go_simp; try with_reducible rfl)
  try simp only [List.getElem_toArray, List.getElem_cons_succ, List.getElem_cons_zero, Act.put, List.setIfInBounds_toArray, List.set_cons_zero, List.set_cons_succ]
  refine wpAnyH_take (i := 16) (v := ?_) rfl (by kernel_rfl) (by kernel_rfl) (by kernel_rfl) (fun _ _ _ h => h) (Or.inl ⟨by rfl, ?_⟩) hHeld ?_
  rotate_left
  · (intro wz _; go_simp; try with_reducible rfl)
  try simp only [List.getElem_toArray, List.getElem_cons_succ, List.getElem_cons_zero, Act.put, List.setIfInBounds_toArray, List.set_cons_zero, List.set_cons_succ]
  refine wpAnyH_take (i := 17) (v := ?_) rfl (by kernel_rfl) (by kernel_rfl) (by kernel_rfl) (fun _ _ _ h => h) (Or.inl ⟨by rfl, ?_⟩) hHeld ?_
  rotate_left
  · (intro wz _; go_simp; try with_reducible rfl)
  try simp only [List.getElem_toArray, List.getElem_cons_succ, List.getElem_cons_zero, Act.put, List.setIfInBounds_toArray, List.set_cons_zero, List.set_cons_succ]
  refine wpAnyH_take (i := 18) (v := ?_) rfl (by kernel_rfl) (by kernel_rfl) (by kernel_rfl) (fun _ _ _ h => h) (Or.inl ⟨by rfl, ?_⟩) hHeld ?_
  rotate_left
  · (intro wz _; go_simp; try with_reducible rfl)
  try simp only [List.getElem_toArray, List.getElem_cons_succ, List.getElem_cons_zero, Act.put, List.setIfInBounds_toArray, List.set_cons_zero, List.set_cons_succ]
  refine wpAnyH_take (i := 19) (v := _) rfl (by kernel_rfl) (by kernel_rfl) (by kernel_rfl) (fun _ _ _ h => h) (yields_load1 rfl 34 _ rfl rfl hfD f2 Try.underlying34 rfl) hHeld ?_
  try simp only [List.getElem_toArray, List.getElem_cons_succ, List.getElem_cons_zero, Act.put, List.setIfInBounds_toArray, List.set_cons_zero, List.set_cons_succ]
  replace h := h.drew
  generalize w.drew = w1 at h hHeld ⊢
  clear w
  obtain ⟨w, rfl⟩ : ∃ q : World, q = w1 := ⟨_, rfl⟩
  refine wpAnyH_ready (rs := [2]) (by kernel_rfl) (by simp) ?_
  refine AllReadyH.cons rfl (fun K hK => ?_) AllReadyH.nil
  (go_simp; go_wp2_with (go_at_call 40; refine (ME.out _ h).mono ?_; clear h; rintro _ w ⟨rfl, h⟩))
  refine hK.out _ _ (h.le KD) (fun hHeld => ?_)
  clear hK K
  try simp only [Act.put, List.setIfInBounds_toArray, List.set_cons_zero, List.set_cons_succ]
  refine wpAnyH_ready (rs := [13]) (by kernel_rfl) (by simp) ?_
  refine AllReadyH.cons rfl (fun K hK => ?_) AllReadyH.nil
  (go_simp; go_wp2_with (go_at_call 60; refine (AC.out _ h).mono ?_; clear h; rintro _ w ⟨rfl, h⟩))
  refine hK.out _ _ (h.le KD) (fun hHeld => ?_)
  clear hK K
  try simp only [Act.put, List.setIfInBounds_toArray, List.set_cons_zero, List.set_cons_succ]
  refine wpAnyH_ready (rs := [14]) (by kernel_rfl) (by simp) ?_
  refine AllReadyH.cons rfl (fun K hK => ?_) AllReadyH.nil
  (go_simp; go_wp2_with (go_at_call 65; refine (LD.out _ h).mono ?_; clear h; rintro _ w ⟨rfl, h⟩))
  refine hK.out _ _ (h.le KE) (fun hHeld => ?_)
  clear hK K
  try simp only [Act.put, List.setIfInBounds_toArray, List.set_cons_zero, List.set_cons_succ]
  refine wpAnyH_ready (rs := [20]) (by kernel_rfl) (by simp) ?_
  refine AllReadyH.cons rfl (fun K hK => ?_) AllReadyH.nil
  (go_simp; go_wp2_with (go_at_call 64; refine (LG.out _).mono ?_; rintro _ w' ⟨rfl, rfl⟩))
  refine hK.out _ _ (h.le KE) (fun hHeld => ?_)
  clear hK K
  try simp only [Act.put, List.setIfInBounds_toArray, List.set_cons_zero, List.set_cons_succ]
  refine wpAnyH_done (by kernel_rfl) ?_ _
  clear hHeld ME AC LD LG
  have hfb3 := KE _ _ hfD
  have hb43 := KE _ _ hbD
  clear hbD hfD hg3 KD hfb hb4
  rw [HL.out]
  have BK := Lib.hid (fun (M2 : Mm) (w : World) (bl : Nat) (h : Has σ M2 w) (hle : M3.le M2) (hn : M3 bl = none) (hbl : M2 bl = some (.cells #[.int .u64 0] 34)) => back1_eq h HT3.out hle hn hbl HF.out)
  clear KE HT3 hfb3
  go_wp2_with (first
    | (with_reducible show wpList _ _ _ ({ dst := _, op := Op.load 50 _, type := _, pos := _, after := _, guard := _ } :: _) _ _; refine wpList_load1_has h rfl 50 _ rfl rfl hb43 d2 Try.underlying50 rfl ?_))
  obtain ⟨M4, hbx, hle4, hbl, hnl⟩ := h.box (.cells #[.int .u64 0] 34)
  generalize w.alloc _ = wx at hbx ⊢
  generalize w.heap.size = bl at hbl hnl ⊢
  clear h
  try clear w
  have h := hbx
  clear hbx
  obtain ⟨w, rfl⟩ : ∃ x : World, x = wx := ⟨_, rfl⟩
  go_wp2_with (first
    | ((go_at_call 62; refine (BK.out M4 _ bl h hle4 hnl hbl).mono ?_; clear h; rintro _ w ⟨rfl, M5, lab5, h, hM5, hB5⟩)))
  exact bodyPost_ret (results_none rfl _ _ _) rfl ⟨rfl, M5, lab5, h, hM5, fun c o hc => hB5 c o (HKK.out _ _ hc)⟩
set_option maxHeartbeats 4000000 in
set_option maxRecDepth 20000 in
/-- The next thread, of several. -/
theorem adv_1on {σ w : World} {K M : Mm} {lab : Nat → Nat} {p t q b : Nat} {s : MachS} {fs : List FrameS} {f : FrameS} (h : Has σ M w) (hT : AtTop K M lab p s t q b fs f) (hat : f.at_ = 1) {lv : Nat} (hlv : levelOf s.c (t : Nat) = (lv : Nat)) {T : Nat} (hT1c : s.c 1 = (T : Nat)) {al : List Nat} (hal : atC s.c T lv = al) {x r y z : Nat} (hx : f.r 0 = (x : Int)) (hx62 : x < 4611686018427387904) (hr : f.r 1 = (r : Int)) (hr8 : r < 8) (hy : al[r]? = some y) {a : Int} (SP : SpotAt σ M p t 6 (y : Nat) 0 a) (hz : s.mem.load a = (z : Int)) (hz64 : z < 18446744073709551616) (hb1 : s.mem.acc < 1000000000) (hl : lagsN z x = false) (hne : r + 1 ≠ al.length) :
    Calls Try.prog 37 #[.agg (runC p t q b)] w fun r' w' => r' = .returned (.tuple #[]) ∧ ∃ M' lab', Has σ M' w' ∧ AtTop K M' lab' p (MachS.top { s with mem := s.mem.at_ a } t fs (f.reg 1 (r + 1 : Nat))) t q b fs (f.reg 1 (r + 1 : Nat)) := by
  have HL := Lib.hid hl
  have HN := Lib.hid hne
  clear hl hne
  have d0 : (runC p t q b)[0]? = some (.pointer (some ⟨p, 0, none⟩)) := rfl
  have d1 : (runC p t q b)[1]? = some (.int .i64 (t : Nat)) := rfl
  have d2 : (runC p t q b)[2]? = some (.pointer (some ⟨q, 0, none⟩)) := rfl
  have d3 : (runC p t q b)[3]? = some (.pointer (some ⟨b, 0, none⟩)) := rfl
  have dx : (runC p t q b).extract 0 (0 + 4) = runC p t q b := rfl
  have dz : (runC p t q b).size = 4 := rfl
  have f1 : f.row[1]? = some (.int .i64 1) := by rw [← hat]; rfl
  go_enter Try.func37, Try.ntmps37
  go_upto_region 1 with (fail)
  obtain ⟨M1, hbx, hle, hb4, hn⟩ := h.box (.cells (runC p t q b) 92)
  generalize w.alloc _ = wx at hbx ⊢
  generalize w.heap.size = b4 at hb4 hn ⊢
  clear h
  try clear w
  have h := hbx
  clear hbx
  obtain ⟨w, rfl⟩ : ∃ x : World, x = wx := ⟨_, rfl⟩
  obtain ⟨lab1, hT1⟩ := hT.more1 hle hn hb4
  have hnK : K b4 = none := by
    cases e : K b4 with
    | none => rfl
    | some o => have := (hT.base _ _ e).1; rw [hn] at this; cases this
  have hKK : K.le (K.upd b4 (.cells (runC p t q b) 92)) := Mm.le_upd' hnK _
  have hbK : (K.upd b4 (.cells (runC p t q b) 92)) b4 = some (.cells (runC p t q b) 92) := Mm.upd_same _ _ _
  have hfb := hT1.obj
  have PL := Lib.hid (fun (w : World) (h : Has σ M1 w) => mPlan_eq h hT1.mach)
  have CF := Lib.hid (fun (w : World) (h : Has σ M1 w) => conf_has h s.c hT1.mach.plan)
  have LV : Hid (∀ w : World, Has σ M1 w → Calls Try.prog 9 #[.pointer (some ⟨p, 0, none⟩), .int .i64 (t : Nat)] w fun r w' => r = .returned (.int .i64 (lv : Nat)) ∧ Has σ M1 w') := Lib.hid fun w h => (mLevel_eq h hT1.mach t).mono fun r w' ⟨e, h'⟩ => ⟨e.trans (congrArg (fun z => Ending.returned (Value.int .i64 z)) hlv), h'⟩
  have AT := Lib.hid (fun (w : World) (h : Has σ M1 w) => confAt_eq h s.c (decide_eq_true hT.mach.may) hT1c lv)
  rw [hal] at AT
  have f2 : f.row[2]? = some (.int .u64 (x : Nat)) := by rw [← hx]; rfl
  have f3 : f.row[3]? = some (.int .u64 (r : Nat)) := by rw [← hr]; rfl
  have ur : IntKind.i64.wrap ((r : Nat) : Int) = ((r : Nat) : Int) := IntWalk.i64_in _ (by omega)
  have hrl : (r : Int) < (al.length : Int) := by have := (List.getElem?_eq_some_iff.1 hy).1; omega
  have HT1 := Lib.hid hT1
  have HSP := Lib.hid (fun (M' : Mm) (hle' : M1.le M') => SP.le (Mm.le_trans hle hle'))
  have HZ := Lib.hid hz
  have HB1 := Lib.hid hb1
  have HKK := Lib.hid hKK
  have HY := Lib.hid hy
  have LG := Lib.hid (epLags_any z x hz64 hx62)
  clear hT hT1 SP hb1 hn hle hnK hKK hat hT1c hlv hal hx hx62 hr hz hz64 hy
  obtain ⟨nl, hnl⟩ : ∃ nl, al.length = nl := ⟨_, rfl⟩
  rw [hnl] at AT hrl
  have HNL := Lib.hid hnl
  clear hnl
  generalize hrc : runC p t q b = rc at *
  have HRC := Lib.hid hrc
  clear hrc
  generalize hr0 : f.row = fr0 at *
  have HR0 := Lib.hid hr0
  clear hr0
  generalize K.upd b4 _ = K1 at *
  unfold confV at AT
  generalize ints .i64 14 s.c = crow at *
  go_upto_region 2 with (first
    | (with_reducible show wpList _ _ _ ({ dst := _, op := Op.load 61 _, type := _, pos := _, after := _, guard := _ } :: _) _ _; refine wpList_load1_has h rfl 61 _ rfl rfl hb4 d3 Try.underlying61 rfl ?_))
  refine wp_region_head (Has σ M1) 9 (by kernel_rfl) (by kernel_rfl) (fun _ _ _ _ _ h => h) h.drew ?_
  clear h
  simp only [List.take_succ_cons, List.take_zero, List.drop_succ_cons, List.drop_zero]
  repeat (first
    | go_big_quiet_skip
    | (go_big_quiet_want; first
      | (refine quiet_load_has 26 _ rfl rfl hb4 d0 Try.underlying26 rfl ?_; simp only [Act.put, List.setIfInBounds_toArray, List.set_cons_zero, List.set_cons_succ]; go_big_quiet_on)
      | (refine quiet_load_has 3 _ rfl rfl hb4 d1 Try.underlying3 rfl ?_; simp only [Act.put, List.setIfInBounds_toArray, List.set_cons_zero, List.set_cons_succ]; go_big_quiet_on)
      | (go_big_quiet_op; first | go_big_quiet_on | go_big_quiet_call (first | with_reducible exact fun _ => rfl | with_reducible exact PL.out _ | with_reducible exact CF.out _ | with_reducible exact LV.out _))))
  refine wpQuiet_nil ?_
  try clear w
  intro w h
  clear PL CF LV
  go_upto_region 3 with (first
    | ((go_at_call 63; refine (AT.out _ h).mono ?_; clear h; rintro _ w ⟨v3, rfl, M2, h, hle2, hown⟩)))
  have hT2 := HT1.out.more hle2
  have ME := Lib.hid (fun (w : World) (h : Has σ M2 w) => mMem_eq h hT2.mach)
  have AC := Lib.hid (fun (w : World) (h : Has σ M2 w) => epAt_eq (q := q) (b := b) h (HSP.out M2 hle2))
  rw [HRC.out] at AC
  have LD := Lib.hid (fun (w : World) (h : Has σ M2 w) => memLoad_eq h hT2.mach.mem HB1.out a)
  rw [HZ.out] at LD
  have hT3 := hT2.load a
  have hmp := hT2.mach.mem.obj
  have hb2 := hT2.base.le _ _ hbK
  have hf2 := hle2 _ _ hfb
  have ne4 : b4 ≠ s.mp := Mm.ne_cells hb2 hmp (by decide)
  have nef : b ≠ s.mp := Mm.ne_cells hf2 hmp (by decide)
  have hbD := Mm.drop_of hb2 ne4
  have hfD := Mm.drop_of hf2 nef
  have hmp1 : M1 s.mp = some (.cells s.mem.cells 106) := HT1.out.mach.mem.obj
  have hrdD := hown.rd_drop hmp1
  obtain ⟨_, A3, c3, rfl, hnc3, hA3⟩ := hrdD
  obtain ⟨g3, o3, cs3, t3, z3, rfl, hg3, hx3⟩ := hA3 (by omega)
  have gy : cs3[o3 + r]? = some (.int .i64 (y : Nat)) := hx3 r _ (by simp [natv, HY.out])
  have KD : (M2.drop s.mp).le M2 := Mm.drop_le _ _
  have KE : (M2.drop s.mp).le (M2.upd s.mp (.cells (s.mem.at_ a).cells 106)) := Mm.drop_upd KD _
  have HT3 := Lib.hid hT3
  clear hT2 hT3 hown HT1 HSP HZ HB1 HY HRC hle2 AT hmp hb2 ne4 nef hmp1 hx3 hA3
  generalize M2.drop s.mp = MD at *
  generalize hM3 : M2.upd s.mp _ = M3 at *
  go_upto_region 12 with (first
    | (with_reducible show wpList _ _ _ ({ dst := _, op := Op.load 3 _, type := _, pos := _, after := _, guard := _ } :: _) _ _; refine wpList_load1_has h rfl 3 _ rfl rfl hf2 f1 Try.underlying3 rfl ?_))
  clear hf2
  refine wp_region_held_drew (S := Has σ (MD)) (by kernel_rfl) (h.drew.le KD) (fun hHeld => ?_)
  refine wpAnyH_take (i := 0) (v := ?_) rfl (by kernel_rfl) (by kernel_rfl) (by kernel_rfl) (fun _ _ _ h => h) (Or.inl ⟨by rfl, ?_⟩) hHeld ?_
  rotate_left
  · (intro wz _; go_simp; try with_reducible rfl)
  try simp only [List.getElem_toArray, List.getElem_cons_succ, List.getElem_cons_zero, Act.put, List.setIfInBounds_toArray, List.set_cons_zero, List.set_cons_succ]
  refine wpAnyH_take (i := 1) (v := _) rfl (by kernel_rfl) (by kernel_rfl) (by kernel_rfl) (fun _ _ _ h => h) (yields_load1 rfl 26 _ rfl rfl hbD d0 Try.underlying26 rfl) hHeld ?_
  try simp only [List.getElem_toArray, List.getElem_cons_succ, List.getElem_cons_zero, Act.put, List.setIfInBounds_toArray, List.set_cons_zero, List.set_cons_succ]
  refine wpAnyH_take (i := 3) (v := _) rfl (by kernel_rfl) (by kernel_rfl) (by kernel_rfl) (fun _ _ _ h => h) (yields_agg rfl 92 _ rfl rfl hbD dx dz Try.underlying92 rfl (by kernel_rfl)) hHeld ?_
  try simp only [List.getElem_toArray, List.getElem_cons_succ, List.getElem_cons_zero, Act.put, List.setIfInBounds_toArray, List.set_cons_zero, List.set_cons_succ]
  refine wpAnyH_take (i := 4) (v := ?_) rfl (by kernel_rfl) (by kernel_rfl) (by kernel_rfl) (fun _ _ _ h => h) (Or.inl ⟨by rfl, ?_⟩) hHeld ?_
  rotate_left
  · (intro wz _; go_simp; try with_reducible rfl)
  try simp only [List.getElem_toArray, List.getElem_cons_succ, List.getElem_cons_zero, Act.put, List.setIfInBounds_toArray, List.set_cons_zero, List.set_cons_succ]
  refine wpAnyH_take (i := 5) (v := ?_) rfl (by kernel_rfl) (by kernel_rfl) (by kernel_rfl) (fun _ _ _ h => h) (Or.inl ⟨by rfl, ?_⟩) hHeld ?_
  rotate_left
  · (intro wz _; go_simp; try with_reducible rfl)
  try simp only [List.getElem_toArray, List.getElem_cons_succ, List.getElem_cons_zero, Act.put, List.setIfInBounds_toArray, List.set_cons_zero, List.set_cons_succ]
  refine wpAnyH_take (i := 6) (v := ?_) rfl (by kernel_rfl) (by kernel_rfl) (by kernel_rfl) (fun _ _ _ h => h) (Or.inl ⟨by rfl, ?_⟩) hHeld ?_
  rotate_left
  · (intro wz _; go_simp; try with_reducible rfl)
  try simp only [List.getElem_toArray, List.getElem_cons_succ, List.getElem_cons_zero, Act.put, List.setIfInBounds_toArray, List.set_cons_zero, List.set_cons_succ]
  refine wpAnyH_take (i := 7) (v := ?_) rfl (by kernel_rfl) (by kernel_rfl) (by kernel_rfl) (fun _ _ _ h => h) (Or.inl ⟨by rfl, ?_⟩) hHeld ?_
  rotate_left
  · (intro wz _; go_simp; try with_reducible rfl)
  try simp only [List.getElem_toArray, List.getElem_cons_succ, List.getElem_cons_zero, Act.put, List.setIfInBounds_toArray, List.set_cons_zero, List.set_cons_succ]
  refine wpAnyH_take (i := 8) (v := ?_) rfl (by kernel_rfl) (by kernel_rfl) (by kernel_rfl) (fun _ _ _ h => h) (Or.inl ⟨by rfl, ?_⟩) hHeld ?_
  rotate_left
  · (intro wz _; go_simp; try with_reducible rfl)
  try simp only [List.getElem_toArray, List.getElem_cons_succ, List.getElem_cons_zero, Act.put, List.setIfInBounds_toArray, List.set_cons_zero, List.set_cons_succ]
  refine wpAnyH_take (i := 9) (v := _) rfl (by kernel_rfl) (by kernel_rfl) (by kernel_rfl) (fun _ _ _ h => h) (yields_load1 rfl 34 _ rfl rfl hfD f3 Try.underlying34 rfl) hHeld ?_
  try simp only [List.getElem_toArray, List.getElem_cons_succ, List.getElem_cons_zero, Act.put, List.setIfInBounds_toArray, List.set_cons_zero, List.set_cons_succ]
  refine wpAnyH_take (i := 10) (v := ?_) rfl (by kernel_rfl) (by kernel_rfl) (by kernel_rfl) (fun _ _ _ h => h) (Or.inl ⟨by rfl, ?_⟩) hHeld ?_
  rotate_left
  · (intro wz _; go_simp; try with_reducible rfl)
  try simp only [List.getElem_toArray, List.getElem_cons_succ, List.getElem_cons_zero, Act.put, List.setIfInBounds_toArray, List.set_cons_zero, List.set_cons_succ]
  refine wpAnyH_take (i := 11) (v := ?_) rfl (by kernel_rfl) (by kernel_rfl) (by kernel_rfl) (fun _ _ _ h => h) (Or.inl ⟨by rfl, ?_⟩) hHeld ?_
  rotate_left
  · (intro wz _; go_simp; try with_reducible rfl)
  try simp only [List.getElem_toArray, List.getElem_cons_succ, List.getElem_cons_zero, Act.put, List.setIfInBounds_toArray, List.set_cons_zero, List.set_cons_succ]
  refine wpAnyH_take (i := 12) (v := _) rfl (by kernel_rfl) (by kernel_rfl) (by kernel_rfl) (fun _ _ _ h => h) (yields_load1 rfl 3 _ rfl rfl hg3 gy Try.underlying3 rfl) hHeld ?_
  try simp only [List.getElem_toArray, List.getElem_cons_succ, List.getElem_cons_zero, Act.put, List.setIfInBounds_toArray, List.set_cons_zero, List.set_cons_succ]
  refine wpAnyH_take (i := 15) (v := ?_) rfl (by kernel_rfl) (by kernel_rfl) (by kernel_rfl) (fun _ _ _ h => h) (Or.inl ⟨by rfl, ?_⟩) hHeld ?_
  rotate_left
  · (intro wz _; go_simp; try with_reducible rfl)
  try simp only [List.getElem_toArray, List.getElem_cons_succ, List.getElem_cons_zero, Act.put, List.setIfInBounds_toArray, List.set_cons_zero, List.set_cons_succ]
  refine wpAnyH_take (i := 16) (v := ?_) rfl (by kernel_rfl) (by kernel_rfl) (by kernel_rfl) (fun _ _ _ h => h) (Or.inl ⟨by rfl, ?_⟩) hHeld ?_
  rotate_left
  · (intro wz _; go_simp; try with_reducible rfl)
  try simp only [List.getElem_toArray, List.getElem_cons_succ, List.getElem_cons_zero, Act.put, List.setIfInBounds_toArray, List.set_cons_zero, List.set_cons_succ]
  refine wpAnyH_take (i := 17) (v := ?_) rfl (by kernel_rfl) (by kernel_rfl) (by kernel_rfl) (fun _ _ _ h => h) (Or.inl ⟨by rfl, ?_⟩) hHeld ?_
  rotate_left
  · (intro wz _; go_simp; try with_reducible rfl)
  try simp only [List.getElem_toArray, List.getElem_cons_succ, List.getElem_cons_zero, Act.put, List.setIfInBounds_toArray, List.set_cons_zero, List.set_cons_succ]
  refine wpAnyH_take (i := 18) (v := ?_) rfl (by kernel_rfl) (by kernel_rfl) (by kernel_rfl) (fun _ _ _ h => h) (Or.inl ⟨by rfl, ?_⟩) hHeld ?_
  rotate_left
  · (intro wz _; go_simp; try with_reducible rfl)
  try simp only [List.getElem_toArray, List.getElem_cons_succ, List.getElem_cons_zero, Act.put, List.setIfInBounds_toArray, List.set_cons_zero, List.set_cons_succ]
  refine wpAnyH_take (i := 19) (v := _) rfl (by kernel_rfl) (by kernel_rfl) (by kernel_rfl) (fun _ _ _ h => h) (yields_load1 rfl 34 _ rfl rfl hfD f2 Try.underlying34 rfl) hHeld ?_
  try simp only [List.getElem_toArray, List.getElem_cons_succ, List.getElem_cons_zero, Act.put, List.setIfInBounds_toArray, List.set_cons_zero, List.set_cons_succ]
  replace h := h.drew
  generalize w.drew = w1 at h hHeld ⊢
  clear w
  obtain ⟨w, rfl⟩ : ∃ q : World, q = w1 := ⟨_, rfl⟩
  refine wpAnyH_ready (rs := [2]) (by kernel_rfl) (by simp) ?_
  refine AllReadyH.cons rfl (fun K hK => ?_) AllReadyH.nil
  (go_simp; go_wp2_with (go_at_call 40; refine (ME.out _ h).mono ?_; clear h; rintro _ w ⟨rfl, h⟩))
  refine hK.out _ _ (h.le KD) (fun hHeld => ?_)
  clear hK K
  try simp only [Act.put, List.setIfInBounds_toArray, List.set_cons_zero, List.set_cons_succ]
  refine wpAnyH_ready (rs := [13]) (by kernel_rfl) (by simp) ?_
  refine AllReadyH.cons rfl (fun K hK => ?_) AllReadyH.nil
  (go_simp; go_wp2_with (go_at_call 60; refine (AC.out _ h).mono ?_; clear h; rintro _ w ⟨rfl, h⟩))
  refine hK.out _ _ (h.le KD) (fun hHeld => ?_)
  clear hK K
  try simp only [Act.put, List.setIfInBounds_toArray, List.set_cons_zero, List.set_cons_succ]
  refine wpAnyH_ready (rs := [14]) (by kernel_rfl) (by simp) ?_
  refine AllReadyH.cons rfl (fun K hK => ?_) AllReadyH.nil
  (go_simp; go_wp2_with (go_at_call 65; refine (LD.out _ h).mono ?_; clear h; rintro _ w ⟨rfl, h⟩))
  refine hK.out _ _ (h.le KE) (fun hHeld => ?_)
  clear hK K
  try simp only [Act.put, List.setIfInBounds_toArray, List.set_cons_zero, List.set_cons_succ]
  refine wpAnyH_ready (rs := [20]) (by kernel_rfl) (by simp) ?_
  refine AllReadyH.cons rfl (fun K hK => ?_) AllReadyH.nil
  (go_simp; go_wp2_with (go_at_call 64; refine (LG.out _).mono ?_; rintro _ w' ⟨rfl, rfl⟩))
  refine hK.out _ _ (h.le KE) (fun hHeld => ?_)
  clear hK K
  try simp only [Act.put, List.setIfInBounds_toArray, List.set_cons_zero, List.set_cons_succ]
  refine wpAnyH_done (by kernel_rfl) ?_ _
  clear hHeld ME AC LD LG
  have hfb3 := KE _ _ hfD
  have hb43 := KE _ _ hbD
  clear hbD hfD hg3 KD hfb hb4
  rw [HL.out]
  obtain ⟨hfb4, hT4⟩ := HT3.out.frame (f.reg 1 (r + 1 : Nat))
  rw [HR0.out] at hfb4
  have hsz : 3 < fr0.size := by rw [← HR0.out]; show 3 < 18; omega
  have R1 := Lib.hid (row_regv f (r + 1 : Nat))
  rw [HR0.out] at R1
  have w1 : IntKind.u64.wrap ((r : Int) + 1) = ((r + 1 : Nat) : Int) := by rw [show (r : Int) + 1 = ((r + 1 : Nat) : Int) by omega]; exact IntWalk.u64_in _ (by omega)
  have w2 : IntKind.i64.wrap ((r + 1 : Nat) : Int) = ((r + 1 : Nat) : Int) := IntWalk.i64_in _ (by omega)
  have w3 : IntKind.i64.wrap ((r : Int) + 1) = ((r + 1 : Nat) : Int) := by rw [show (r : Int) + 1 = ((r + 1 : Nat) : Int) by omega]; exact w2
  have g3 : (f.reg 1 (r + 1 : Nat)).row[3]? = some (.int .u64 (r + 1 : Nat)) := rfl
  have hfb5 := Mm.upd_same M3 b (.cells (f.reg 1 (r + 1 : Nat)).row 60)
  have HT := Lib.hid (hT4.less HKK.out)
  have gn : (((r + 1 : Nat) : Int) == (nl : Int)) = false := beq_eq_false_iff_ne.2 (by have := HN.out; have := HNL.out; omega)
  have gn2 : ¬ ((r + 1 : Nat) : Int) = (nl : Int) := by have := HN.out; have := HNL.out; omega
  have gn3 : ¬ (r : Int) + 1 = (nl : Int) := by have := HN.out; have := HNL.out; omega
  have gn4 : ¬ r + 1 = nl := by have := HN.out; have := HNL.out; omega
  clear hT4 HT3 KE hb43
  generalize hr1 : (f.reg 1 (r + 1 : Nat)).row = fr1 at *
  clear hr1
  go_upto_region 14 with (fail)
  refine wp_region_head (Has σ M3) 9 (by kernel_rfl) (by kernel_rfl) (fun _ _ _ _ _ h => h) h.drew ?_
  clear h
  simp only [List.take_succ_cons, List.take_zero, List.drop_succ_cons, List.drop_zero]
  repeat (first
    | go_big_quiet_skip
    | (go_big_quiet_want; first
      | (refine quiet_load_has 34 _ rfl rfl hfb3 f3 Try.underlying34 rfl ?_; simp only [Act.put, List.setIfInBounds_toArray, List.set_cons_zero, List.set_cons_succ]; go_big_quiet_on)
      | (go_big_quiet_op; first | go_big_quiet_on | go_big_quiet_call (first | with_reducible exact fun _ => rfl))))
  refine wpQuiet_nil ?_
  try clear w
  intro w h
  go_upto_region 15 with (first
    | (with_reducible show wpList _ _ _ ({ dst := _, op := Op.store 34 _ _, type := _, pos := _, after := _, guard := _ } :: _) _ _; refine wpList_store1_has h rfl 34 _ _ rfl rfl rfl hfb3 hsz rfl (by kernel_rfl) ?_; clear h; intro w h))
  have h0 : Has σ (M3.upd b (.cells (fr0.setIfInBounds 3 (.int .u64 (r + 1 : Nat))) 60)) w := h
  rw [R1.out] at h0
  clear h
  have h := h0
  clear h0
  generalize M3.upd b _ = M4 at *
  go_wp2_with (first
    | (with_reducible show wpList _ _ _ ({ dst := _, op := Op.load 34 _, type := _, pos := _, after := _, guard := _ } :: _) _ _; refine wpList_load1_has h rfl 34 _ rfl rfl hfb5 g3 Try.underlying34 rfl ?_))
  go_end0
  exact ⟨rfl, _, _, h, HT.out⟩
set_option maxHeartbeats 4000000 in
set_option maxRecDepth 20000 in
/-- The last thread. -/
theorem adv_1last {σ w : World} {K M : Mm} {lab : Nat → Nat} {p t q b : Nat} {s : MachS} {fs : List FrameS} {f : FrameS} (h : Has σ M w) (hT : AtTop K M lab p s t q b fs f) (hat : f.at_ = 1) {lv : Nat} (hlv : levelOf s.c (t : Nat) = (lv : Nat)) {T : Nat} (hT1c : s.c 1 = (T : Nat)) {al : List Nat} (hal : atC s.c T lv = al) {x r y z : Nat} (hx : f.r 0 = (x : Int)) (hx62 : x < 4611686018427387904) (hr : f.r 1 = (r : Int)) (hr8 : r < 8) (hy : al[r]? = some y) {a : Int} (SP : SpotAt σ M p t 6 (y : Nat) 0 a) (hz : s.mem.load a = (z : Int)) (hz64 : z < 18446744073709551616) (hb1 : s.mem.acc < 1000000000) (hl : lagsN z x = false) (hne : r + 1 = al.length) :
    Calls Try.prog 37 #[.agg (runC p t q b)] w fun r' w' => r' = .returned (.tuple #[]) ∧ ∃ M' lab', Has σ M' w' ∧ AtTop K M' lab' p (MachS.top { s with mem := s.mem.at_ a } t fs ((f.reg 1 (r + 1 : Nat)).goto 2)) t q b fs ((f.reg 1 (r + 1 : Nat)).goto 2) := by
  have HL := Lib.hid hl
  have HN := Lib.hid hne
  clear hl hne
  have d0 : (runC p t q b)[0]? = some (.pointer (some ⟨p, 0, none⟩)) := rfl
  have d1 : (runC p t q b)[1]? = some (.int .i64 (t : Nat)) := rfl
  have d2 : (runC p t q b)[2]? = some (.pointer (some ⟨q, 0, none⟩)) := rfl
  have d3 : (runC p t q b)[3]? = some (.pointer (some ⟨b, 0, none⟩)) := rfl
  have dx : (runC p t q b).extract 0 (0 + 4) = runC p t q b := rfl
  have dz : (runC p t q b).size = 4 := rfl
  have f1 : f.row[1]? = some (.int .i64 1) := by rw [← hat]; rfl
  go_enter Try.func37, Try.ntmps37
  go_upto_region 1 with (fail)
  obtain ⟨M1, hbx, hle, hb4, hn⟩ := h.box (.cells (runC p t q b) 92)
  generalize w.alloc _ = wx at hbx ⊢
  generalize w.heap.size = b4 at hb4 hn ⊢
  clear h
  try clear w
  have h := hbx
  clear hbx
  obtain ⟨w, rfl⟩ : ∃ x : World, x = wx := ⟨_, rfl⟩
  obtain ⟨lab1, hT1⟩ := hT.more1 hle hn hb4
  have hnK : K b4 = none := by
    cases e : K b4 with
    | none => rfl
    | some o => have := (hT.base _ _ e).1; rw [hn] at this; cases this
  have hKK : K.le (K.upd b4 (.cells (runC p t q b) 92)) := Mm.le_upd' hnK _
  have hbK : (K.upd b4 (.cells (runC p t q b) 92)) b4 = some (.cells (runC p t q b) 92) := Mm.upd_same _ _ _
  have hfb := hT1.obj
  have PL := Lib.hid (fun (w : World) (h : Has σ M1 w) => mPlan_eq h hT1.mach)
  have CF := Lib.hid (fun (w : World) (h : Has σ M1 w) => conf_has h s.c hT1.mach.plan)
  have LV : Hid (∀ w : World, Has σ M1 w → Calls Try.prog 9 #[.pointer (some ⟨p, 0, none⟩), .int .i64 (t : Nat)] w fun r w' => r = .returned (.int .i64 (lv : Nat)) ∧ Has σ M1 w') := Lib.hid fun w h => (mLevel_eq h hT1.mach t).mono fun r w' ⟨e, h'⟩ => ⟨e.trans (congrArg (fun z => Ending.returned (Value.int .i64 z)) hlv), h'⟩
  have AT := Lib.hid (fun (w : World) (h : Has σ M1 w) => confAt_eq h s.c (decide_eq_true hT.mach.may) hT1c lv)
  rw [hal] at AT
  have f2 : f.row[2]? = some (.int .u64 (x : Nat)) := by rw [← hx]; rfl
  have f3 : f.row[3]? = some (.int .u64 (r : Nat)) := by rw [← hr]; rfl
  have ur : IntKind.i64.wrap ((r : Nat) : Int) = ((r : Nat) : Int) := IntWalk.i64_in _ (by omega)
  have hrl : (r : Int) < (al.length : Int) := by have := (List.getElem?_eq_some_iff.1 hy).1; omega
  have HT1 := Lib.hid hT1
  have HSP := Lib.hid (fun (M' : Mm) (hle' : M1.le M') => SP.le (Mm.le_trans hle hle'))
  have HZ := Lib.hid hz
  have HB1 := Lib.hid hb1
  have HKK := Lib.hid hKK
  have HY := Lib.hid hy
  have LG := Lib.hid (epLags_any z x hz64 hx62)
  clear hT hT1 SP hb1 hn hle hnK hKK hat hT1c hlv hal hx hx62 hr hz hz64 hy
  obtain ⟨nl, hnl⟩ : ∃ nl, al.length = nl := ⟨_, rfl⟩
  rw [hnl] at AT hrl
  have HNL := Lib.hid hnl
  clear hnl
  generalize hrc : runC p t q b = rc at *
  have HRC := Lib.hid hrc
  clear hrc
  generalize hr0 : f.row = fr0 at *
  have HR0 := Lib.hid hr0
  clear hr0
  generalize K.upd b4 _ = K1 at *
  unfold confV at AT
  generalize ints .i64 14 s.c = crow at *
  go_upto_region 2 with (first
    | (with_reducible show wpList _ _ _ ({ dst := _, op := Op.load 61 _, type := _, pos := _, after := _, guard := _ } :: _) _ _; refine wpList_load1_has h rfl 61 _ rfl rfl hb4 d3 Try.underlying61 rfl ?_))
  refine wp_region_head (Has σ M1) 9 (by kernel_rfl) (by kernel_rfl) (fun _ _ _ _ _ h => h) h.drew ?_
  clear h
  simp only [List.take_succ_cons, List.take_zero, List.drop_succ_cons, List.drop_zero]
  repeat (first
    | go_big_quiet_skip
    | (go_big_quiet_want; first
      | (refine quiet_load_has 26 _ rfl rfl hb4 d0 Try.underlying26 rfl ?_; simp only [Act.put, List.setIfInBounds_toArray, List.set_cons_zero, List.set_cons_succ]; go_big_quiet_on)
      | (refine quiet_load_has 3 _ rfl rfl hb4 d1 Try.underlying3 rfl ?_; simp only [Act.put, List.setIfInBounds_toArray, List.set_cons_zero, List.set_cons_succ]; go_big_quiet_on)
      | (go_big_quiet_op; first | go_big_quiet_on | go_big_quiet_call (first | with_reducible exact fun _ => rfl | with_reducible exact PL.out _ | with_reducible exact CF.out _ | with_reducible exact LV.out _))))
  refine wpQuiet_nil ?_
  try clear w
  intro w h
  clear PL CF LV
  go_upto_region 3 with (first
    | ((go_at_call 63; refine (AT.out _ h).mono ?_; clear h; rintro _ w ⟨v3, rfl, M2, h, hle2, hown⟩)))
  have hT2 := HT1.out.more hle2
  have ME := Lib.hid (fun (w : World) (h : Has σ M2 w) => mMem_eq h hT2.mach)
  have AC := Lib.hid (fun (w : World) (h : Has σ M2 w) => epAt_eq (q := q) (b := b) h (HSP.out M2 hle2))
  rw [HRC.out] at AC
  have LD := Lib.hid (fun (w : World) (h : Has σ M2 w) => memLoad_eq h hT2.mach.mem HB1.out a)
  rw [HZ.out] at LD
  have hT3 := hT2.load a
  have hmp := hT2.mach.mem.obj
  have hb2 := hT2.base.le _ _ hbK
  have hf2 := hle2 _ _ hfb
  have ne4 : b4 ≠ s.mp := Mm.ne_cells hb2 hmp (by decide)
  have nef : b ≠ s.mp := Mm.ne_cells hf2 hmp (by decide)
  have hbD := Mm.drop_of hb2 ne4
  have hfD := Mm.drop_of hf2 nef
  have hmp1 : M1 s.mp = some (.cells s.mem.cells 106) := HT1.out.mach.mem.obj
  have hrdD := hown.rd_drop hmp1
  obtain ⟨_, A3, c3, rfl, hnc3, hA3⟩ := hrdD
  obtain ⟨g3, o3, cs3, t3, z3, rfl, hg3, hx3⟩ := hA3 (by omega)
  have gy : cs3[o3 + r]? = some (.int .i64 (y : Nat)) := hx3 r _ (by simp [natv, HY.out])
  have KD : (M2.drop s.mp).le M2 := Mm.drop_le _ _
  have KE : (M2.drop s.mp).le (M2.upd s.mp (.cells (s.mem.at_ a).cells 106)) := Mm.drop_upd KD _
  have HT3 := Lib.hid hT3
  clear hT2 hT3 hown HT1 HSP HZ HB1 HY HRC hle2 AT hmp hb2 ne4 nef hmp1 hx3 hA3
  generalize M2.drop s.mp = MD at *
  generalize hM3 : M2.upd s.mp _ = M3 at *
  go_upto_region 12 with (first
    | (with_reducible show wpList _ _ _ ({ dst := _, op := Op.load 3 _, type := _, pos := _, after := _, guard := _ } :: _) _ _; refine wpList_load1_has h rfl 3 _ rfl rfl hf2 f1 Try.underlying3 rfl ?_))
  clear hf2
  refine wp_region_held_drew (S := Has σ (MD)) (by kernel_rfl) (h.drew.le KD) (fun hHeld => ?_)
  refine wpAnyH_take (i := 0) (v := ?_) rfl (by kernel_rfl) (by kernel_rfl) (by kernel_rfl) (fun _ _ _ h => h) (Or.inl ⟨by rfl, ?_⟩) hHeld ?_
  rotate_left
  · (intro wz _; go_simp; try with_reducible rfl)
  try simp only [List.getElem_toArray, List.getElem_cons_succ, List.getElem_cons_zero, Act.put, List.setIfInBounds_toArray, List.set_cons_zero, List.set_cons_succ]
  refine wpAnyH_take (i := 1) (v := _) rfl (by kernel_rfl) (by kernel_rfl) (by kernel_rfl) (fun _ _ _ h => h) (yields_load1 rfl 26 _ rfl rfl hbD d0 Try.underlying26 rfl) hHeld ?_
  try simp only [List.getElem_toArray, List.getElem_cons_succ, List.getElem_cons_zero, Act.put, List.setIfInBounds_toArray, List.set_cons_zero, List.set_cons_succ]
  refine wpAnyH_take (i := 3) (v := _) rfl (by kernel_rfl) (by kernel_rfl) (by kernel_rfl) (fun _ _ _ h => h) (yields_agg rfl 92 _ rfl rfl hbD dx dz Try.underlying92 rfl (by kernel_rfl)) hHeld ?_
  try simp only [List.getElem_toArray, List.getElem_cons_succ, List.getElem_cons_zero, Act.put, List.setIfInBounds_toArray, List.set_cons_zero, List.set_cons_succ]
  refine wpAnyH_take (i := 4) (v := ?_) rfl (by kernel_rfl) (by kernel_rfl) (by kernel_rfl) (fun _ _ _ h => h) (Or.inl ⟨by rfl, ?_⟩) hHeld ?_
  rotate_left
  · (intro wz _; go_simp; try with_reducible rfl)
  try simp only [List.getElem_toArray, List.getElem_cons_succ, List.getElem_cons_zero, Act.put, List.setIfInBounds_toArray, List.set_cons_zero, List.set_cons_succ]
  refine wpAnyH_take (i := 5) (v := ?_) rfl (by kernel_rfl) (by kernel_rfl) (by kernel_rfl) (fun _ _ _ h => h) (Or.inl ⟨by rfl, ?_⟩) hHeld ?_
  rotate_left
  · (intro wz _; go_simp; try with_reducible rfl)
  try simp only [List.getElem_toArray, List.getElem_cons_succ, List.getElem_cons_zero, Act.put, List.setIfInBounds_toArray, List.set_cons_zero, List.set_cons_succ]
  refine wpAnyH_take (i := 6) (v := ?_) rfl (by kernel_rfl) (by kernel_rfl) (by kernel_rfl) (fun _ _ _ h => h) (Or.inl ⟨by rfl, ?_⟩) hHeld ?_
  rotate_left
  · (intro wz _; go_simp; try with_reducible rfl)
  try simp only [List.getElem_toArray, List.getElem_cons_succ, List.getElem_cons_zero, Act.put, List.setIfInBounds_toArray, List.set_cons_zero, List.set_cons_succ]
  refine wpAnyH_take (i := 7) (v := ?_) rfl (by kernel_rfl) (by kernel_rfl) (by kernel_rfl) (fun _ _ _ h => h) (Or.inl ⟨by rfl, ?_⟩) hHeld ?_
  rotate_left
  · (intro wz _; go_simp; try with_reducible rfl)
  try simp only [List.getElem_toArray, List.getElem_cons_succ, List.getElem_cons_zero, Act.put, List.setIfInBounds_toArray, List.set_cons_zero, List.set_cons_succ]
  refine wpAnyH_take (i := 8) (v := ?_) rfl (by kernel_rfl) (by kernel_rfl) (by kernel_rfl) (fun _ _ _ h => h) (Or.inl ⟨by rfl, ?_⟩) hHeld ?_
  rotate_left
  · (intro wz _; go_simp; try with_reducible rfl)
  try simp only [List.getElem_toArray, List.getElem_cons_succ, List.getElem_cons_zero, Act.put, List.setIfInBounds_toArray, List.set_cons_zero, List.set_cons_succ]
  refine wpAnyH_take (i := 9) (v := _) rfl (by kernel_rfl) (by kernel_rfl) (by kernel_rfl) (fun _ _ _ h => h) (yields_load1 rfl 34 _ rfl rfl hfD f3 Try.underlying34 rfl) hHeld ?_
  try simp only [List.getElem_toArray, List.getElem_cons_succ, List.getElem_cons_zero, Act.put, List.setIfInBounds_toArray, List.set_cons_zero, List.set_cons_succ]
  refine wpAnyH_take (i := 10) (v := ?_) rfl (by kernel_rfl) (by kernel_rfl) (by kernel_rfl) (fun _ _ _ h => h) (Or.inl ⟨by rfl, ?_⟩) hHeld ?_
  rotate_left
  · (intro wz _; go_simp; try with_reducible rfl)
  try simp only [List.getElem_toArray, List.getElem_cons_succ, List.getElem_cons_zero, Act.put, List.setIfInBounds_toArray, List.set_cons_zero, List.set_cons_succ]
  refine wpAnyH_take (i := 11) (v := ?_) rfl (by kernel_rfl) (by kernel_rfl) (by kernel_rfl) (fun _ _ _ h => h) (Or.inl ⟨by rfl, ?_⟩) hHeld ?_
  rotate_left
  · (intro wz _; go_simp; try with_reducible rfl)
  try simp only [List.getElem_toArray, List.getElem_cons_succ, List.getElem_cons_zero, Act.put, List.setIfInBounds_toArray, List.set_cons_zero, List.set_cons_succ]
  refine wpAnyH_take (i := 12) (v := _) rfl (by kernel_rfl) (by kernel_rfl) (by kernel_rfl) (fun _ _ _ h => h) (yields_load1 rfl 3 _ rfl rfl hg3 gy Try.underlying3 rfl) hHeld ?_
  try simp only [List.getElem_toArray, List.getElem_cons_succ, List.getElem_cons_zero, Act.put, List.setIfInBounds_toArray, List.set_cons_zero, List.set_cons_succ]
  refine wpAnyH_take (i := 15) (v := ?_) rfl (by kernel_rfl) (by kernel_rfl) (by kernel_rfl) (fun _ _ _ h => h) (Or.inl ⟨by rfl, ?_⟩) hHeld ?_
  rotate_left
  · (intro wz _; go_simp; try with_reducible rfl)
  try simp only [List.getElem_toArray, List.getElem_cons_succ, List.getElem_cons_zero, Act.put, List.setIfInBounds_toArray, List.set_cons_zero, List.set_cons_succ]
  refine wpAnyH_take (i := 16) (v := ?_) rfl (by kernel_rfl) (by kernel_rfl) (by kernel_rfl) (fun _ _ _ h => h) (Or.inl ⟨by rfl, ?_⟩) hHeld ?_
  rotate_left
  · (intro wz _; go_simp; try with_reducible rfl)
  try simp only [List.getElem_toArray, List.getElem_cons_succ, List.getElem_cons_zero, Act.put, List.setIfInBounds_toArray, List.set_cons_zero, List.set_cons_succ]
  refine wpAnyH_take (i := 17) (v := ?_) rfl (by kernel_rfl) (by kernel_rfl) (by kernel_rfl) (fun _ _ _ h => h) (Or.inl ⟨by rfl, ?_⟩) hHeld ?_
  rotate_left
  · (intro wz _; go_simp; try with_reducible rfl)
  try simp only [List.getElem_toArray, List.getElem_cons_succ, List.getElem_cons_zero, Act.put, List.setIfInBounds_toArray, List.set_cons_zero, List.set_cons_succ]
  refine wpAnyH_take (i := 18) (v := ?_) rfl (by kernel_rfl) (by kernel_rfl) (by kernel_rfl) (fun _ _ _ h => h) (Or.inl ⟨by rfl, ?_⟩) hHeld ?_
  rotate_left
  · (intro wz _; go_simp; try with_reducible rfl)
  try simp only [List.getElem_toArray, List.getElem_cons_succ, List.getElem_cons_zero, Act.put, List.setIfInBounds_toArray, List.set_cons_zero, List.set_cons_succ]
  refine wpAnyH_take (i := 19) (v := _) rfl (by kernel_rfl) (by kernel_rfl) (by kernel_rfl) (fun _ _ _ h => h) (yields_load1 rfl 34 _ rfl rfl hfD f2 Try.underlying34 rfl) hHeld ?_
  try simp only [List.getElem_toArray, List.getElem_cons_succ, List.getElem_cons_zero, Act.put, List.setIfInBounds_toArray, List.set_cons_zero, List.set_cons_succ]
  replace h := h.drew
  generalize w.drew = w1 at h hHeld ⊢
  clear w
  obtain ⟨w, rfl⟩ : ∃ q : World, q = w1 := ⟨_, rfl⟩
  refine wpAnyH_ready (rs := [2]) (by kernel_rfl) (by simp) ?_
  refine AllReadyH.cons rfl (fun K hK => ?_) AllReadyH.nil
  (go_simp; go_wp2_with (go_at_call 40; refine (ME.out _ h).mono ?_; clear h; rintro _ w ⟨rfl, h⟩))
  refine hK.out _ _ (h.le KD) (fun hHeld => ?_)
  clear hK K
  try simp only [Act.put, List.setIfInBounds_toArray, List.set_cons_zero, List.set_cons_succ]
  refine wpAnyH_ready (rs := [13]) (by kernel_rfl) (by simp) ?_
  refine AllReadyH.cons rfl (fun K hK => ?_) AllReadyH.nil
  (go_simp; go_wp2_with (go_at_call 60; refine (AC.out _ h).mono ?_; clear h; rintro _ w ⟨rfl, h⟩))
  refine hK.out _ _ (h.le KD) (fun hHeld => ?_)
  clear hK K
  try simp only [Act.put, List.setIfInBounds_toArray, List.set_cons_zero, List.set_cons_succ]
  refine wpAnyH_ready (rs := [14]) (by kernel_rfl) (by simp) ?_
  refine AllReadyH.cons rfl (fun K hK => ?_) AllReadyH.nil
  (go_simp; go_wp2_with (go_at_call 65; refine (LD.out _ h).mono ?_; clear h; rintro _ w ⟨rfl, h⟩))
  refine hK.out _ _ (h.le KE) (fun hHeld => ?_)
  clear hK K
  try simp only [Act.put, List.setIfInBounds_toArray, List.set_cons_zero, List.set_cons_succ]
  refine wpAnyH_ready (rs := [20]) (by kernel_rfl) (by simp) ?_
  refine AllReadyH.cons rfl (fun K hK => ?_) AllReadyH.nil
  (go_simp; go_wp2_with (go_at_call 64; refine (LG.out _).mono ?_; rintro _ w' ⟨rfl, rfl⟩))
  refine hK.out _ _ (h.le KE) (fun hHeld => ?_)
  clear hK K
  try simp only [Act.put, List.setIfInBounds_toArray, List.set_cons_zero, List.set_cons_succ]
  refine wpAnyH_done (by kernel_rfl) ?_ _
  clear hHeld ME AC LD LG
  have hfb3 := KE _ _ hfD
  have hb43 := KE _ _ hbD
  clear hbD hfD hg3 KD hfb hb4
  rw [HL.out]
  obtain ⟨hfb4, hT4⟩ := HT3.out.frame (f.reg 1 (r + 1 : Nat))
  rw [HR0.out] at hfb4
  have hsz : 3 < fr0.size := by rw [← HR0.out]; show 3 < 18; omega
  have R1 := Lib.hid (row_regv f (r + 1 : Nat))
  rw [HR0.out] at R1
  have w1 : IntKind.u64.wrap ((r : Int) + 1) = ((r + 1 : Nat) : Int) := by rw [show (r : Int) + 1 = ((r + 1 : Nat) : Int) by omega]; exact IntWalk.u64_in _ (by omega)
  have w2 : IntKind.i64.wrap ((r + 1 : Nat) : Int) = ((r + 1 : Nat) : Int) := IntWalk.i64_in _ (by omega)
  have w3 : IntKind.i64.wrap ((r : Int) + 1) = ((r + 1 : Nat) : Int) := by rw [show (r : Int) + 1 = ((r + 1 : Nat) : Int) by omega]; exact w2
  have g3 : (f.reg 1 (r + 1 : Nat)).row[3]? = some (.int .u64 (r + 1 : Nat)) := rfl
  have hfb5 := Mm.upd_same M3 b (.cells (f.reg 1 (r + 1 : Nat)).row 60)
  obtain ⟨hfb6, hT6⟩ := hT4.frame ((f.reg 1 (r + 1 : Nat)).goto 2)
  rw [MachS.top_top, Mm.upd_upd] at hT6
  have HT := Lib.hid (hT6.less HKK.out)
  have R2 := Lib.hid (row_goto (f.reg 1 (r + 1 : Nat)) 2)
  have hsz3 : 1 < (f.reg 1 (r + 1 : Nat)).row.size := show 1 < 18 by omega
  have gn0 : nl = r + 1 := by have := HN.out; have := HNL.out; omega
  subst gn0
  clear hT4 hT6 HT3 KE hb43
  generalize hr1 : (f.reg 1 (r + 1 : Nat)).row = fr1 at *
  clear hr1
  go_upto_region 14 with (fail)
  refine wp_region_head (Has σ M3) 9 (by kernel_rfl) (by kernel_rfl) (fun _ _ _ _ _ h => h) h.drew ?_
  clear h
  simp only [List.take_succ_cons, List.take_zero, List.drop_succ_cons, List.drop_zero]
  repeat (first
    | go_big_quiet_skip
    | (go_big_quiet_want; first
      | (refine quiet_load_has 34 _ rfl rfl hfb3 f3 Try.underlying34 rfl ?_; simp only [Act.put, List.setIfInBounds_toArray, List.set_cons_zero, List.set_cons_succ]; go_big_quiet_on)
      | (go_big_quiet_op; first | go_big_quiet_on | go_big_quiet_call (first | with_reducible exact fun _ => rfl))))
  refine wpQuiet_nil ?_
  try clear w
  intro w h
  go_upto_region 15 with (first
    | (with_reducible show wpList _ _ _ ({ dst := _, op := Op.store 34 _ _, type := _, pos := _, after := _, guard := _ } :: _) _ _; refine wpList_store1_has h rfl 34 _ _ rfl rfl rfl hfb3 hsz rfl (by kernel_rfl) ?_; clear h; intro w h))
  have h0 : Has σ (M3.upd b (.cells (fr0.setIfInBounds 3 (.int .u64 (r + 1 : Nat))) 60)) w := h
  rw [R1.out] at h0
  clear h
  have h := h0
  clear h0
  generalize hM4 : M3.upd b (.cells fr1 60) = M4 at h hfb5 hfb6
  go_wp2_with (first
    | (with_reducible show wpList _ _ _ ({ dst := _, op := Op.load 34 _, type := _, pos := _, after := _, guard := _ } :: _) _ _; refine wpList_load1_has h rfl 34 _ rfl rfl hfb5 g3 Try.underlying34 rfl ?_)
    | (with_reducible show wpList _ _ _ ({ dst := _, op := Op.store 3 _ _, type := _, pos := _, after := _, guard := _ } :: _) _ _; refine wpList_store1_has h rfl 3 _ _ rfl rfl rfl hfb5 hsz3 rfl (by kernel_rfl) ?_; clear h; intro w h))
  go_end0
  refine ⟨rfl, _, _, ?_, HT.out⟩
  have h0 : Has σ (M3.upd b (.cells (fr1.setIfInBounds 1 (.int .i64 2)) 60)) w := by rw [← hM4, Mm.upd_upd] at h; exact h
  rw [R2.out] at h0
  exact h0
set_option maxHeartbeats 4000000 in
set_option maxRecDepth 20000 in
/-- The epoch goes on, or was changed meanwhile. -/
theorem adv_2 {σ w : World} {K M : Mm} {lab : Nat → Nat} {p t q b : Nat} {s : MachS} {fs : List FrameS} {f : FrameS} (h : Has σ M w) (hT : AtTop K M lab p s t q b fs f) (hat : f.at_ = 2) {lv : Nat} (hlv : levelOf s.c (t : Nat) = (lv : Nat)) {T : Nat} (hT1c : s.c 1 = (T : Nat)) {x : Nat} (hx : f.r 0 = (x : Int)) (hx62 : x < 4611686018427387904) {a : Int} (SP : SpotAt σ M p t 1 0 0 a) (hb1 : s.mem.acc < 1000000000) (hb2 : s.mem.wr < 1000000000) (hfs : fs.length < 1000000) :
    Calls Try.prog 37 #[.agg (runC p t q b)] w fun r w' => r = .returned (.tuple #[]) ∧ ∃ M' lab', Has σ M' w' ∧ Mach M' lab' p (MachS.backed { s with mem := s.mem.cas a (x : Nat) (x + 1 : Nat) } t [if s.mem.swaps a (x : Nat) then 1 else 0]) ∧ Base K M' lab' := by
  obtain ⟨sw, hsw⟩ : ∃ sw : Bool, s.mem.swaps a (x : Nat) = sw := ⟨_, rfl⟩
  rw [hsw]
  obtain ⟨tv, htv⟩ : ∃ tv : Int, (if sw = true then (1 : Int) else 0) = tv := ⟨_, rfl⟩
  rw [htv]
  have HTV := Lib.hid htv
  clear htv
  have HSW := Lib.hid hsw
  clear hsw
  have d0 : (runC p t q b)[0]? = some (.pointer (some ⟨p, 0, none⟩)) := rfl
  have d1 : (runC p t q b)[1]? = some (.int .i64 (t : Nat)) := rfl
  have d2 : (runC p t q b)[2]? = some (.pointer (some ⟨q, 0, none⟩)) := rfl
  have d3 : (runC p t q b)[3]? = some (.pointer (some ⟨b, 0, none⟩)) := rfl
  have dx : (runC p t q b).extract 0 (0 + 4) = runC p t q b := rfl
  have dz : (runC p t q b).size = 4 := rfl
  have f1 : f.row[1]? = some (.int .i64 2) := by rw [← hat]; rfl
  go_enter Try.func37, Try.ntmps37
  go_upto_region 1 with (fail)
  obtain ⟨M1, hbx, hle, hb4, hn⟩ := h.box (.cells (runC p t q b) 92)
  generalize w.alloc _ = wx at hbx ⊢
  generalize w.heap.size = b4 at hb4 hn ⊢
  clear h
  try clear w
  have h := hbx
  clear hbx
  obtain ⟨w, rfl⟩ : ∃ x : World, x = wx := ⟨_, rfl⟩
  obtain ⟨lab1, hT1⟩ := hT.more1 hle hn hb4
  have hnK : K b4 = none := by
    cases e : K b4 with
    | none => rfl
    | some o => have := (hT.base _ _ e).1; rw [hn] at this; cases this
  have hKK : K.le (K.upd b4 (.cells (runC p t q b) 92)) := Mm.le_upd' hnK _
  have hbK : (K.upd b4 (.cells (runC p t q b) 92)) b4 = some (.cells (runC p t q b) 92) := Mm.upd_same _ _ _
  have hfb := hT1.obj
  have PL := Lib.hid (fun (w : World) (h : Has σ M1 w) => mPlan_eq h hT1.mach)
  have CF := Lib.hid (fun (w : World) (h : Has σ M1 w) => conf_has h s.c hT1.mach.plan)
  have LV : Hid (∀ w : World, Has σ M1 w → Calls Try.prog 9 #[.pointer (some ⟨p, 0, none⟩), .int .i64 (t : Nat)] w fun r w' => r = .returned (.int .i64 (lv : Nat)) ∧ Has σ M1 w') := Lib.hid fun w h => (mLevel_eq h hT1.mach t).mono fun r w' ⟨e, h'⟩ => ⟨e.trans (congrArg (fun z => Ending.returned (Value.int .i64 z)) hlv), h'⟩
  have AT := Lib.hid (fun (w : World) (h : Has σ M1 w) => confAt_eq h s.c (decide_eq_true hT.mach.may) hT1c lv)
  have f2 : f.row[2]? = some (.int .u64 (x : Nat)) := by rw [← hx]; rfl
  have wx : IntKind.u64.wrap ((x : Int) + 1) = ((x + 1 : Nat) : Int) := by rw [show (x : Int) + 1 = ((x + 1 : Nat) : Int) by omega]; exact IntWalk.u64_in _ (by omega)
  have HT1 := Lib.hid hT1
  have HSP := Lib.hid (fun (M' : Mm) (hle' : M1.le M') => SP.le (Mm.le_trans hle hle'))
  have HB := Lib.hid (⟨hb1, hb2⟩ : s.mem.acc < 1000000000 ∧ s.mem.wr < 1000000000)
  have HKK := Lib.hid hKK
  have HF := Lib.hid hfs
  clear hT hT1 SP hb1 hb2 hn hle hnK hKK hat hT1c hlv hx hx62 hfs
  generalize hrc : runC p t q b = rc at *
  have HRC := Lib.hid hrc
  clear hrc
  generalize f.row = fr0 at *
  generalize K.upd b4 _ = K1 at *
  unfold confV at AT
  generalize ints .i64 14 s.c = crow at *
  go_upto_region 2 with (first
    | (with_reducible show wpList _ _ _ ({ dst := _, op := Op.load 61 _, type := _, pos := _, after := _, guard := _ } :: _) _ _; refine wpList_load1_has h rfl 61 _ rfl rfl hb4 d3 Try.underlying61 rfl ?_))
  refine wp_region_head (Has σ M1) 9 (by kernel_rfl) (by kernel_rfl) (fun _ _ _ _ _ h => h) h.drew ?_
  clear h
  simp only [List.take_succ_cons, List.take_zero, List.drop_succ_cons, List.drop_zero]
  repeat (first
    | go_big_quiet_skip
    | (go_big_quiet_want; first
      | (refine quiet_load_has 26 _ rfl rfl hb4 d0 Try.underlying26 rfl ?_; simp only [Act.put, List.setIfInBounds_toArray, List.set_cons_zero, List.set_cons_succ]; go_big_quiet_on)
      | (refine quiet_load_has 3 _ rfl rfl hb4 d1 Try.underlying3 rfl ?_; simp only [Act.put, List.setIfInBounds_toArray, List.set_cons_zero, List.set_cons_succ]; go_big_quiet_on)
      | (go_big_quiet_op; first | go_big_quiet_on | go_big_quiet_call (first | with_reducible exact fun _ => rfl | with_reducible exact PL.out _ | with_reducible exact CF.out _ | with_reducible exact LV.out _))))
  refine wpQuiet_nil ?_
  try clear w
  intro w h
  clear PL CF LV
  go_upto_region 3 with (first
    | ((go_at_call 63; refine (AT.out _ h).mono ?_; clear h; rintro _ w ⟨v3, rfl, M2, h, hle2, hown⟩)))
  have hT2 := HT1.out.more hle2
  have ME := Lib.hid (fun (w : World) (h : Has σ M2 w) => mMem_eq h hT2.mach)
  have EP := Lib.hid (fun (w : World) (h : Has σ M2 w) => epEpoch_eq (q := q) (b := b) h (HSP.out M2 hle2))
  rw [HRC.out] at EP
  have CS := Lib.hid (fun (w : World) (h : Has σ M2 w) => memCas_eq h hT2.mach.mem HB.out.1 HB.out.2 a (x : Nat) (x + 1 : Nat))
  have hT3 := hT2.cas a (x : Nat) (x + 1 : Nat)
  have hb2 := hT2.base.le _ _ hbK
  have hf2 := hle2 _ _ hfb
  have hb43 := hT3.base.le _ _ hbK
  obtain ⟨A3, c3, rfl⟩ := hown.form
  have BK := Lib.hid (fun (v : Int) (M2' : Mm) (w : World) (bl : Nat) (h : Has σ M2' w) (hle : (casM M2 s.mp s.mem a (x : Nat) (x + 1 : Nat)).le M2') (hn : (casM M2 s.mp s.mem a (x : Nat) (x + 1 : Nat)) bl = none) (hbl : M2' bl = some (.cells #[.int .u64 v] 34)) => back1_eq h hT3 hle hn hbl HF.out)
  clear hT2 hT3 hown HT1 HSP HB HRC hle2 AT hfb hb4 HF
  generalize casM M2 s.mp s.mem a _ _ = M3 at *
  rw [HSW.out] at CS
  clear HSW
  go_upto_region 5 with (first
    | (with_reducible show wpList _ _ _ ({ dst := _, op := Op.load 3 _, type := _, pos := _, after := _, guard := _ } :: _) _ _; refine wpList_load1_has h rfl 3 _ rfl rfl hf2 f1 Try.underlying3 rfl ?_))
  refine wp_region_head (Has σ M2) 16 (by kernel_rfl) (by kernel_rfl) (fun _ _ _ _ _ h => h) h.drew ?_
  clear h
  simp only [List.take_succ_cons, List.take_zero, List.drop_succ_cons, List.drop_zero]
  repeat (first
    | go_big_quiet_skip
    | (go_big_quiet_want; first
      | (refine quiet_load_has 26 _ rfl rfl hb2 d0 Try.underlying26 rfl ?_; simp only [Act.put, List.setIfInBounds_toArray, List.set_cons_zero, List.set_cons_succ]; go_big_quiet_on)
      | (refine quiet_agg_has 92 _ rfl rfl hb2 dx dz Try.underlying92 rfl (by kernel_rfl) ?_; simp only [Act.put, List.setIfInBounds_toArray, List.set_cons_zero, List.set_cons_succ]; go_big_quiet_on)
      | (refine quiet_load_has 34 _ rfl rfl hf2 f2 Try.underlying34 rfl ?_; simp only [Act.put, List.setIfInBounds_toArray, List.set_cons_zero, List.set_cons_succ]; go_big_quiet_on)
      | (go_big_quiet_op; first | go_big_quiet_on | go_big_quiet_call (first | with_reducible exact fun _ => rfl | with_reducible exact ME.out _ | with_reducible exact EP.out _))))
  refine wpQuiet_nil ?_
  try clear w
  intro w h
  clear hf2 hb2
  cases sw
  · skip
    go_wp2_with (first
      | (go_at_call 66; refine (CS.out _ h).mono ?_; clear h; rintro _ w ⟨rfl, h⟩)
      | (with_reducible show wpList _ _ _ ({ dst := _, op := Op.load 50 _, type := _, pos := _, after := _, guard := _ } :: _) _ _; refine wpList_load1_has h rfl 50 _ rfl rfl hb43 d2 Try.underlying50 rfl ?_))
    obtain ⟨M4, hbx, hle4, hbl, hnl⟩ := h.box (.cells #[.int .u64 0] 34)
    generalize w.alloc _ = wx at hbx ⊢
    generalize w.heap.size = bl at hbl hnl ⊢
    clear h
    try clear w
    have h := hbx
    clear hbx
    obtain ⟨w, rfl⟩ : ∃ x : World, x = wx := ⟨_, rfl⟩
    go_wp2_with (first
      | ((go_at_call 62; refine (BK.out 0 M4 _ bl h hle4 hnl hbl).mono ?_; clear h; rintro _ w ⟨rfl, M5, lab5, h, hM5, hB5⟩)))
    go_end0
    exact ⟨rfl, M5, lab5, h, by rw [show tv = 0 from HTV.out.symm]; exact hM5, fun c o hc => hB5 c o (HKK.out _ _ hc)⟩
  · skip
    go_wp2_with (first
      | (go_at_call 66; refine (CS.out _ h).mono ?_; clear h; rintro _ w ⟨rfl, h⟩)
      | (with_reducible show wpList _ _ _ ({ dst := _, op := Op.load 50 _, type := _, pos := _, after := _, guard := _ } :: _) _ _; refine wpList_load1_has h rfl 50 _ rfl rfl hb43 d2 Try.underlying50 rfl ?_))
    obtain ⟨M4, hbx, hle4, hbl, hnl⟩ := h.box (.cells #[.int .u64 1] 34)
    generalize w.alloc _ = wx at hbx ⊢
    generalize w.heap.size = bl at hbl hnl ⊢
    clear h
    try clear w
    have h := hbx
    clear hbx
    obtain ⟨w, rfl⟩ : ∃ x : World, x = wx := ⟨_, rfl⟩
    go_wp2_with (first
      | ((go_at_call 62; refine (BK.out 1 M4 _ bl h hle4 hnl hbl).mono ?_; clear h; rintro _ w ⟨rfl, M5, lab5, h, hM5, hB5⟩)))
    go_end0
    exact ⟨rfl, M5, lab5, h, by rw [show tv = 1 from HTV.out.symm]; exact hM5, fun c o hc => hB5 c o (HKK.out _ _ hc)⟩
end
end Go.Proofs.Ytjeeldacnllipaa
