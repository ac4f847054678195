/- Walks of layer 22 (stock): a bit of Take: its ends. -/
import Derived.Test.YtjeeldacnllipaaTakeB
namespace Go.Proofs.Ytjeeldacnllipaa
open Go.RowKit
set_option linter.unusedVariables false
set_option linter.unusedSimpArgs false
set_option linter.unnecessarySimpa false
def MachS.backed (s : MachS) (t : Nat) (us : List Int) : MachS := { s with thr := fun j => if j = t then (s.thr t).back us else s.thr j }
/-- Back of two numbers that lie in a block made just now. -/
theorem back2_eq {σ w : World} {K M M2 : Mm} {lab : Nat → Nat} {p t q b bl : Nat} {s : MachS} {fs : List FrameS} {f : FrameS} {v0 v1 : Int} (h : Has σ M2 w) (hT : AtTop K M lab p s t q b fs f) (hle : M.le M2) (hn : M bl = none) (hbl : M2 bl = some (.cells #[.int .u64 v0, .int .u64 v1] 34)) (hfs : fs.length < 1000000) :
    Calls Try.prog 62 #[.pointer (some ⟨q, 0, none⟩), .slice (some ⟨bl, 0, none⟩) 2 2] w fun r w' => r = .returned (.tuple #[]) ∧ ∃ M' lab', Has σ M' w' ∧ Mach M' lab' p (s.backed t [v0, v1]) ∧ Base K M' lab' := by
  obtain ⟨lab2, hT2⟩ := hT.more1 hle hn hbl
  obtain ⟨fv, hv, fbs, hTh⟩ := hT2.thr
  have hne : bl ≠ q := fun e => by
    subst e
    have h1 := hTh.obj
    rw [hbl] at h1
    simp only [Option.some.injEq, Obj.cells.injEq] at h1
    exact absurd h1.2.1 (by decide)
  have hnK : K bl = none := by
    cases e : K bl with
    | none => rfl
    | some o => have := (hT.base _ _ e).1; rw [hn] at this; cases this
  have hrd : Rd (M2.drop q) 1 (.slice (some ⟨bl, 0, none⟩) 2 2) [v0, v1].length (u64s [v0, v1]) := ⟨rfl, _, _, rfl, Nat.le_refl _, fun _ => ⟨bl, 0, _, _, _, rfl, (if_neg hne).trans hbl, fun j u hu => by simpa [u64s] using hu⟩⟩
  have hlen : fbs.length = fs.length := by
    have h1 := hTh.flen
    rw [hT2.fr] at h1
    simpa using h1
  refine (thrBack_eq h hTh hrd (by simp) (by omega)).mono fun r w' ⟨e, M', h', hK, hI⟩ => ?_
  obtain ⟨h4, h5⟩ := hT2.mach.thrTo hT2.base hT2.tp hK hI
  exact ⟨e, M', lab2, h', h4, fun c o hc => h5 c o (Mm.le_upd' hnK _ _ _ hc)⟩
set_option maxHeartbeats 4000000 in
set_option maxRecDepth 20000 in
/-- The free list is empty. -/
theorem take_1end {σ w : World} {K M : Mm} {lab : Nat → Nat} {p t q b : Nat} {s : MachS} {fs : List FrameS} {f : FrameS} (h : Has σ M w) (hT : AtTop K M lab p s t q b fs f) (hat : f.at_ = 1) {x : Nat} (hx : f.r 1 = (x : Int)) (hx64 : x < 18446744073709551616) (hs0 : cutN x 0 8 = 0) (hfs : fs.length < 1000000) :
    Calls Try.prog 68 #[.agg (runC p t q b)] w fun r w' => r = .returned (.tuple #[]) ∧ ∃ M' lab', Has σ M' w' ∧ Mach M' lab' p (s.backed t [0, 0]) ∧ Base K M' lab' := by
  have d0 : (runC p t q b)[0]? = some (.pointer (some ⟨p, 0, none⟩)) := rfl
  have d1 : (runC p t q b)[1]? = some (.int .i64 (t : Nat)) := rfl
  have d2 : (runC p t q b)[2]? = some (.pointer (some ⟨q, 0, none⟩)) := rfl
  have d3 : (runC p t q b)[3]? = some (.pointer (some ⟨b, 0, none⟩)) := rfl
  have dx : (runC p t q b).extract 0 (0 + 4) = runC p t q b := rfl
  have dz : (runC p t q b).size = 4 := rfl
  have f1 : f.row[1]? = some (.int .i64 1) := by rw [← hat]; rfl
  have f3 : f.row[3]? = some (.int .u64 (x : Nat)) := by rw [← hx]; rfl
  have UN := Lib.hid (linkUnder_any x hx64)
  have hsl : cutN x 0 8 < 256 := cutN_lt x 0 8
  clear hx64 hat
  rw [hs0] at UN
  clear hsl hs0 hx
  go_enter Try.func68, Try.ntmps68
  go_upto_region 1 with (fail)
  obtain ⟨M1, hbx, hle, hb4, hn⟩ := h.box (.cells (runC p t q b) 131)
  generalize w.alloc _ = wx at hbx ⊢
  generalize w.heap.size = b4 at hb4 hn ⊢
  clear h
  try clear w
  have h := hbx
  clear hbx
  obtain ⟨w, rfl⟩ : ∃ x : World, x = wx := ⟨_, rfl⟩
  obtain ⟨lab1, hT1⟩ := hT.more1 hle hn hb4
  have hnK : K b4 = none := by
    cases e : K b4 with
    | none => rfl
    | some o => have := (hT.base _ _ e).1; rw [hn] at this; cases this
  have hKK : K.le (K.upd b4 (.cells (runC p t q b) 131)) := Mm.le_upd' hnK _
  have hbK : (K.upd b4 (.cells (runC p t q b) 131)) b4 = some (.cells (runC p t q b) 131) := Mm.upd_same _ _ _
  have hfb := hT1.obj
  have BK := Lib.hid (fun (M2 : Mm) (w : World) (bl : Nat) (h : Has σ M2 w) (hle : M1.le M2) (hn : M1 bl = none) (hbl : M2 bl = some (.cells #[.int .u64 0, .int .u64 0] 34)) => back2_eq h hT1 hle hn hbl hfs)
  have HK := Lib.hid hKK
  clear hT hT1 hn hle hnK hKK hbK hfs
  generalize f.row = fr0 at *
  generalize runC p t q b = rc at *
  go_upto_region 10 with (first
    | (with_reducible show wpList _ _ _ ({ dst := _, op := Op.load 61 _, type := _, pos := _, after := _, guard := _ } :: _) _ _; refine wpList_load1_has h rfl 61 _ rfl rfl hb4 d3 Try.underlying61 rfl ?_)
    | (with_reducible show wpList _ _ _ ({ dst := _, op := Op.load 34 _, type := _, pos := _, after := _, guard := _ } :: _) _ _; refine wpList_load1_has h rfl 34 _ rfl rfl hfb f3 Try.underlying34 rfl ?_)
    | (with_reducible show wpList _ _ _ ({ dst := _, op := Op.load 3 _, type := _, pos := _, after := _, guard := _ } :: _) _ _; refine wpList_load1_has h rfl 3 _ rfl rfl hfb f1 Try.underlying3 rfl ?_)
    | ((go_at_call 82; refine (UN.out _).mono ?_; rintro r w' ⟨rfl, rfl⟩)))
  go_wp2_with (first
    | (with_reducible show wpList _ _ _ ({ dst := _, op := Op.load 50 _, type := _, pos := _, after := _, guard := _ } :: _) _ _; refine wpList_load1_has h rfl 50 _ rfl rfl hb4 d2 Try.underlying50 rfl ?_))
  obtain ⟨M2, hbx, hle2, hbl, hnl⟩ := h.box (.cells #[.int .u64 0, .int .u64 0] 34)
  generalize w.alloc _ = wx at hbx ⊢
  generalize w.heap.size = bl at hbl hnl ⊢
  clear h
  try clear w
  have h := hbx
  clear hbx
  obtain ⟨w, rfl⟩ : ∃ x : World, x = wx := ⟨_, rfl⟩
  go_wp2_with (first
    | ((go_at_call 62; refine (BK.out M2 _ bl h hle2 hnl hbl).mono ?_; clear h; rintro _ w ⟨rfl, M3, lab3, h, hM3, hB3⟩)))
  exact bodyPost_ret (results_none rfl _ _ _) rfl ⟨rfl, M3, lab3, h, hM3, fun c o hc => hB3 c o (HK.out _ _ hc)⟩
set_option maxHeartbeats 4000000 in
set_option maxRecDepth 20000 in
/-- What was taken is told. -/
theorem take_3 {σ w : World} {K M : Mm} {lab : Nat → Nat} {p t q b lv : Nat} {s : MachS} {fs : List FrameS} {f : FrameS} (h : Has σ M w) (hT : AtTop K M lab p s t q b fs f) (hat : f.at_ = 3) {x z : Nat} (hx : f.r 1 = (x : Int)) (hx64 : x < 18446744073709551616) (hlv : levelOf s.c (t : Nat) = (lv : Nat)) (hlc : (lv : Int) < s.c 0) (hin : InK s.c 9 (cutN x 0 8 : Nat) 0) (hz : s.mem.load (atK s.c lv 9 (cutN x 0 8 : Nat) 0) = (z : Int)) (hz64 : z < 18446744073709551616) (hb1 : s.mem.acc < 1000000000) (hfs : fs.length < 1000000) :
    Calls Try.prog 68 #[.agg (runC p t q b)] w fun r w' => r = .returned (.tuple #[]) ∧ ∃ M' lab', Has σ M' w' ∧ Mach M' lab' p (MachS.backed { s with mem := s.mem.at_ (atK s.c lv 9 (cutN x 0 8 : Nat) 0) } t [(cutN x 0 8 : Nat), (cutN z 2 32 : Nat)]) ∧ Base K M' lab' := by
  have d0 : (runC p t q b)[0]? = some (.pointer (some ⟨p, 0, none⟩)) := rfl
  have d1 : (runC p t q b)[1]? = some (.int .i64 (t : Nat)) := rfl
  have d2 : (runC p t q b)[2]? = some (.pointer (some ⟨q, 0, none⟩)) := rfl
  have d3 : (runC p t q b)[3]? = some (.pointer (some ⟨b, 0, none⟩)) := rfl
  have dx : (runC p t q b).extract 0 (0 + 4) = runC p t q b := rfl
  have dz : (runC p t q b).size = 4 := rfl
  have f1 : f.row[1]? = some (.int .i64 3) := by rw [← hat]; rfl
  have f3 : f.row[3]? = some (.int .u64 (x : Nat)) := by rw [← hx]; rfl
  have UN := Lib.hid (linkUnder_any x hx64)
  have hsl : cutN x 0 8 < 256 := cutN_lt x 0 8
  clear hx64 hat
  have HS := Lib.hid (handleState_any z hz64)
  have lz : cutN z 2 32 < 4294967296 := cutN_lt z 2 32
  have SPA := spotAt_of (σ := σ) hT.mach hlv hlc hin
  obtain ⟨a, ha⟩ : ∃ a, atK s.c lv 9 (cutN x 0 8 : Nat) 0 = a := ⟨_, rfl⟩
  rw [ha] at hz SPA ⊢
  obtain ⟨sl, hsl0⟩ : ∃ sl, cutN x 0 8 = sl := ⟨_, rfl⟩
  rw [hsl0] at UN hsl SPA ⊢
  obtain ⟨g1, hg1⟩ : ∃ g, cutN z 2 32 = g := ⟨_, rfl⟩
  rw [hg1] at HS lz ⊢
  generalize cutN z 0 2 = g2 at HS
  have us : IntKind.u64.wrap ((sl : Nat) : Int) = ((sl : Nat) : Int) := IntWalk.u64_in _ (by omega)
  have ug : IntKind.u64.wrap ((g1 : Nat) : Int) = ((g1 : Nat) : Int) := IntWalk.u64_in _ (by omega)
  have ND := Lib.hid (fun (M' : Mm) (w : World) (h : Has σ M' w) (hle : M.le M') => runNode_eq (q := q) (b := b) h (SPA.le hle))
  clear hx ha hsl0 hg1 hlv hlc hin SPA hz64
  go_enter Try.func68, Try.ntmps68
  go_upto_region 1 with (fail)
  obtain ⟨M1, hbx, hle, hb4, hn⟩ := h.box (.cells (runC p t q b) 131)
  generalize w.alloc _ = wx at hbx ⊢
  generalize w.heap.size = b4 at hb4 hn ⊢
  clear h
  try clear w
  have h := hbx
  clear hbx
  obtain ⟨w, rfl⟩ : ∃ x : World, x = wx := ⟨_, rfl⟩
  obtain ⟨lab1, hT1⟩ := hT.more1 hle hn hb4
  have hnK : K b4 = none := by
    cases e : K b4 with
    | none => rfl
    | some o => have := (hT.base _ _ e).1; rw [hn] at this; cases this
  have hKK : K.le (K.upd b4 (.cells (runC p t q b) 131)) := Mm.le_upd' hnK _
  have hbK : (K.upd b4 (.cells (runC p t q b) 131)) b4 = some (.cells (runC p t q b) 131) := Mm.upd_same _ _ _
  have hfb := hT1.obj
  have ND1 := Lib.hid (fun (w : World) (h : Has σ M1 w) => ND.out M1 w h hle)
  have ME := Lib.hid (fun (w : World) (h : Has σ M1 w) => mMem_eq h hT1.mach)
  have LD := Lib.hid (fun (w : World) (h : Has σ M1 w) => memLoad_eq h hT1.mach.mem hb1 a)
  rw [hz] at LD
  have KL := hT1.base.le
  have hT2 := hT1.load a
  have KE := hT2.base.le
  have BK := Lib.hid (fun (M2 : Mm) (w : World) (bl : Nat) (h : Has σ M2 w) (hle : (M1.upd s.mp (.cells (s.mem.at_ a).cells 106)).le M2) (hn : (M1.upd s.mp (.cells (s.mem.at_ a).cells 106)) bl = none) (hbl : M2 bl = some (.cells #[.int .u64 (sl : Nat), .int .u64 (g1 : Nat)] 34)) => back2_eq h hT2 hle hn hbl hfs)
  have HK := Lib.hid hKK
  clear hT hT1 hT2 hn hle hnK hKK hfs hb1 hz ND
  generalize f.row = fr0 at *
  generalize runC p t q b = rc at *
  generalize M1.upd s.mp _ = M2 at *
  generalize K.upd b4 _ = K1 at *
  go_upto_region 4 with (first
    | (with_reducible show wpList _ _ _ ({ dst := _, op := Op.load 61 _, type := _, pos := _, after := _, guard := _ } :: _) _ _; refine wpList_load1_has h rfl 61 _ rfl rfl hb4 d3 Try.underlying61 rfl ?_)
    | (with_reducible show wpList _ _ _ ({ dst := _, op := Op.load 34 _, type := _, pos := _, after := _, guard := _ } :: _) _ _; refine wpList_load1_has h rfl 34 _ rfl rfl hfb f3 Try.underlying34 rfl ?_)
    | (with_reducible show wpList _ _ _ ({ dst := _, op := Op.load 3 _, type := _, pos := _, after := _, guard := _ } :: _) _ _; refine wpList_load1_has h rfl 3 _ rfl rfl hfb f1 Try.underlying3 rfl ?_)
    | ((go_at_call 82; refine (UN.out _).mono ?_; rintro r w' ⟨rfl, rfl⟩)))
  clear hfb hb4 UN
  refine wp_region_held_drew (S := Has σ (K1)) (by kernel_rfl) (h.drew.le KL) (fun hHeld => ?_)
  refine wpAnyH_take (i := 0) (v := ?_) rfl (by kernel_rfl) (by kernel_rfl) (by kernel_rfl) (fun _ _ _ h => h) (Or.inl ⟨by rfl, ?_⟩) hHeld ?_
  rotate_left
  · (intro wz _; go_simp; try with_reducible rfl)
  try simp only [List.getElem_toArray, List.getElem_cons_succ, List.getElem_cons_zero, Act.put, List.setIfInBounds_toArray, List.set_cons_zero, List.set_cons_succ]
  refine wpAnyH_take (i := 1) (v := ?_) rfl (by kernel_rfl) (by kernel_rfl) (by kernel_rfl) (fun _ _ _ h => h) (Or.inl ⟨by rfl, ?_⟩) hHeld ?_
  rotate_left
  · (intro wz _; go_simp; try with_reducible rfl)
  try simp only [List.getElem_toArray, List.getElem_cons_succ, List.getElem_cons_zero, Act.put, List.setIfInBounds_toArray, List.set_cons_zero, List.set_cons_succ]
  refine wpAnyH_take (i := 2) (v := _) rfl (by kernel_rfl) (by kernel_rfl) (by kernel_rfl) (fun _ _ _ h => h) (yields_load1 rfl 26 _ rfl rfl hbK d0 Try.underlying26 rfl) hHeld ?_
  try simp only [List.getElem_toArray, List.getElem_cons_succ, List.getElem_cons_zero, Act.put, List.setIfInBounds_toArray, List.set_cons_zero, List.set_cons_succ]
  refine wpAnyH_take (i := 4) (v := ?_) rfl (by kernel_rfl) (by kernel_rfl) (by kernel_rfl) (fun _ _ _ h => h) (Or.inl ⟨by rfl, ?_⟩) hHeld ?_
  rotate_left
  · (intro wz _; go_simp; try with_reducible rfl)
  try simp only [List.getElem_toArray, List.getElem_cons_succ, List.getElem_cons_zero, Act.put, List.setIfInBounds_toArray, List.set_cons_zero, List.set_cons_succ]
  refine wpAnyH_take (i := 5) (v := _) rfl (by kernel_rfl) (by kernel_rfl) (by kernel_rfl) (fun _ _ _ h => h) (yields_agg rfl 129 _ rfl rfl hbK dx dz Try.underlying129 rfl (by kernel_rfl)) hHeld ?_
  try simp only [List.getElem_toArray, List.getElem_cons_succ, List.getElem_cons_zero, Act.put, List.setIfInBounds_toArray, List.set_cons_zero, List.set_cons_succ]
  refine wpAnyH_take (i := 6) (v := ?_) rfl (by kernel_rfl) (by kernel_rfl) (by kernel_rfl) (fun _ _ _ h => h) (Or.inl ⟨by rfl, ?_⟩) hHeld ?_
  rotate_left
  · (intro wz _; go_simp; try with_reducible rfl)
  try simp only [List.getElem_toArray, List.getElem_cons_succ, List.getElem_cons_zero, Act.put, List.setIfInBounds_toArray, List.set_cons_zero, List.set_cons_succ]
  replace h := h.drew
  generalize w.drew = w1 at h hHeld ⊢
  clear w
  obtain ⟨w, rfl⟩ : ∃ q : World, q = w1 := ⟨_, rfl⟩
  refine wpAnyH_ready (rs := [3]) (by kernel_rfl) (by simp) ?_
  refine AllReadyH.cons rfl (fun K hK => ?_) AllReadyH.nil
  (go_simp; go_wp2_with (go_at_call 40; refine (ME.out _ h).mono ?_; clear h; rintro _ w ⟨rfl, h⟩))
  refine hK.out _ _ (h.le KL) (fun hHeld => ?_)
  clear hK K
  try simp only [Act.put, List.setIfInBounds_toArray, List.set_cons_zero, List.set_cons_succ]
  refine wpAnyH_ready (rs := [7]) (by kernel_rfl) (by simp) ?_
  refine AllReadyH.cons rfl (fun K hK => ?_) AllReadyH.nil
  (go_simp; go_wp2_with (go_at_call 88; refine (ND1.out _ h).mono ?_; clear h; rintro _ w ⟨rfl, h⟩))
  refine hK.out _ _ (h.le KL) (fun hHeld => ?_)
  clear hK K
  try simp only [Act.put, List.setIfInBounds_toArray, List.set_cons_zero, List.set_cons_succ]
  refine wpAnyH_ready (rs := [8]) (by kernel_rfl) (by simp) ?_
  refine AllReadyH.cons rfl (fun K hK => ?_) AllReadyH.nil
  (go_simp; go_wp2_with (go_at_call 65; refine (LD.out _ h).mono ?_; clear h; rintro _ w ⟨rfl, h⟩))
  refine hK.out _ _ (h.le KE) (fun hHeld => ?_)
  clear hK K
  try simp only [Act.put, List.setIfInBounds_toArray, List.set_cons_zero, List.set_cons_succ]
  refine wpAnyH_ready (rs := [9]) (by kernel_rfl) (by simp) ?_
  refine AllReadyH.cons rfl (fun K hK => ?_) AllReadyH.nil
  (go_simp; go_wp2_with (go_at_call 87; refine (HS.out _).mono ?_; rintro _ w' ⟨rfl, rfl⟩))
  refine hK.out _ _ (h.le KE) (fun hHeld => ?_)
  clear hK K
  try simp only [Act.put, List.setIfInBounds_toArray, List.set_cons_zero, List.set_cons_succ]
  refine wpAnyH_take (i := 10) (v := ?_) rfl (by kernel_rfl) (by kernel_rfl) (by kernel_rfl) (fun _ _ _ h => h) (Or.inl ⟨by rfl, ?_⟩) hHeld ?_
  rotate_left
  · (intro wz _; go_simp; try with_reducible rfl)
  try simp only [List.getElem_toArray, List.getElem_cons_succ, List.getElem_cons_zero, Act.put, List.setIfInBounds_toArray, List.set_cons_zero, List.set_cons_succ]
  refine wpAnyH_take (i := 11) (v := ?_) rfl (by kernel_rfl) (by kernel_rfl) (by kernel_rfl) (fun _ _ _ h => h) (Or.inl ⟨by rfl, ?_⟩) hHeld ?_
  rotate_left
  · (intro wz _; go_simp; try with_reducible rfl)
  try simp only [List.getElem_toArray, List.getElem_cons_succ, List.getElem_cons_zero, Act.put, List.setIfInBounds_toArray, List.set_cons_zero, List.set_cons_succ]
  refine wpAnyH_take (i := 12) (v := ?_) rfl (by kernel_rfl) (by kernel_rfl) (by kernel_rfl) (fun _ _ _ h => h) (Or.inl ⟨by rfl, ?_⟩) hHeld ?_
  rotate_left
  · (intro wz _; go_simp; try with_reducible rfl)
  try simp only [List.getElem_toArray, List.getElem_cons_succ, List.getElem_cons_zero, Act.put, List.setIfInBounds_toArray, List.set_cons_zero, List.set_cons_succ]
  refine wpAnyH_take (i := 13) (v := ?_) rfl (by kernel_rfl) (by kernel_rfl) (by kernel_rfl) (fun _ _ _ h => h) (Or.inl ⟨by rfl, ?_⟩) hHeld ?_
  rotate_left
  · (intro wz _; go_simp; try with_reducible rfl)
  try simp only [List.getElem_toArray, List.getElem_cons_succ, List.getElem_cons_zero, Act.put, List.setIfInBounds_toArray, List.set_cons_zero, List.set_cons_succ]
  refine wpAnyH_take (i := 14) (v := ?_) rfl (by kernel_rfl) (by kernel_rfl) (by kernel_rfl) (fun _ _ _ h => h) (Or.inl ⟨by rfl, ?_⟩) hHeld ?_
  rotate_left
  · (intro wz _; go_simp; try with_reducible rfl)
  try simp only [List.getElem_toArray, List.getElem_cons_succ, List.getElem_cons_zero, Act.put, List.setIfInBounds_toArray, List.set_cons_zero, List.set_cons_succ]
  refine wpAnyH_done (by kernel_rfl) ?_ _
  clear hHeld
  have hb4' := KE _ _ hbK
  go_wp2_with (first
    | (with_reducible show wpList _ _ _ ({ dst := _, op := Op.load 50 _, type := _, pos := _, after := _, guard := _ } :: _) _ _; refine wpList_load1_has h rfl 50 _ rfl rfl hb4' d2 Try.underlying50 rfl ?_))
  obtain ⟨M3, hbx, hle3, hbl, hnl⟩ := h.box (.cells #[.int .u64 (sl : Nat), .int .u64 (g1 : Nat)] 34)
  generalize w.alloc _ = wx at hbx ⊢
  generalize w.heap.size = bl at hbl hnl ⊢
  clear h
  try clear w
  have h := hbx
  clear hbx
  obtain ⟨w, rfl⟩ : ∃ x : World, x = wx := ⟨_, rfl⟩
  go_wp2_with (first
    | ((go_at_call 62; refine (BK.out M3 _ bl h hle3 hnl hbl).mono ?_; clear h; rintro _ w ⟨rfl, M4, lab4, h, hM4, hB4⟩)))
  go_end0
  exact ⟨rfl, M4, lab4, h, hM4, fun c o hc => hB4 c o (HK.out _ _ hc)⟩
end Go.Proofs.Ytjeeldacnllipaa
