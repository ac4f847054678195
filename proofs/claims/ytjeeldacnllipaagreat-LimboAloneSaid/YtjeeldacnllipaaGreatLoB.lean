import Derived.Test.YtjeeldacnllipaaGreatLoA
import Derived.Test.YtjeeldacnllipaaGreatLoO
namespace Go.Proofs.YtjeeldacnllipaaGreat
set_option linter.unusedVariables false
set_option linter.unusedSimpArgs false
set_option linter.unnecessarySimpa false
open List renaming getElem_toArray → qA, getElem_cons_succ → qB, getElem_cons_zero → qC, setIfInBounds_toArray → qD, set_cons_zero → qE, set_cons_succ → qF
section
open Go.RowKit
theorem lbCell_eq {σ w : World} {M : Mm} {p t q b : Nat} (h : Has σ M w) {i : Nat} (hi : i < 9223372036854775808) {r : Int} (SP : SpotAt σ M p t 7 (i : Nat) 0 r) : Calls Tryz.prog 95 #[.agg (runC p t q b), .int .u64 (i : Nat)] w fun e w' => e = .returned (.int .i64 r) ∧ Has σ M w' := by
 have d0 : (runC p t q b)[0]? = some (.pointer (some ⟨p, 0, none⟩)) := rfl
 have d1 : (runC p t q b)[1]? = some (.int .i64 (t : Nat)) := rfl
 have d2 : (runC p t q b)[2]? = some (.pointer (some ⟨q, 0, none⟩)) := rfl
 have d3 : (runC p t q b)[3]? = some (.pointer (some ⟨b, 0, none⟩)) := rfl
 have dx : (runC p t q b).extract 0 (0 + 4) = runC p t q b := rfl
 have dz : (runC p t q b).size = 4 := rfl
 have wi : IntKind.i64.wrap (i : Int) = (i : Int) := IntWalk.i64_in _ (by omega)
 go_enter Tryz.func95, Tryz.ntmps95
 go_upto_region 1 with (fail)
 obtain ⟨M1, hbx, hle, hb4, hn⟩ := h.box (.cells (runC p t q b) 124)
 generalize w.alloc _ = wx at hbx ⊢
 generalize w.heap.size = b4 at hb4 hn ⊢
 clear h
 try clear w
 have h := hbx
 clear hbx
 obtain ⟨w, rfl⟩ : ∃ x : World, x = wx := ⟨_, rfl⟩
 have SP1 := Lib.hid (fun (w : World) (h : Has σ M1 w) => SP M1 w hle h)
 clear SP
 generalize runC p t q b = rc at *
 go_wp2_with (first
  | (with_reducible show wpList _ _ _ ({ dst := _, op := Op.load 26 _, type := _, pos := _, after := _, guard := _ } :: _) _ _; refine wpList_load1_has h rfl 26 _ rfl rfl hb4 d0 Tryz.underlying26 rfl ?_)
  | (with_reducible show wpList _ _ _ ({ dst := _, op := Op.load 3 _, type := _, pos := _, after := _, guard := _ } :: _) _ _; refine wpList_load1_has h rfl 3 _ rfl rfl hb4 d1 Tryz.underlying3 rfl ?_)
  | (go_at_call 120; refine (SP1.out _ h).mono ?_; clear h; rintro _ w ⟨rfl, h⟩))
 go_ret
 exact ⟨rfl, h.le hle⟩
set_option maxHeartbeats 2000000 in
set_option maxRecDepth 20000 in
theorem lbPast_eq {σ w : World} {K M : Mm} {lab : Nat → Nat} {p t q b : Nat} {s : MachS} {fs : List FrameS} {f : FrameS} (h : Has σ M w) (hT : AtTop K M lab p s t q b fs f) {i B : Nat} (hi : i < 9223372036854775808) (hB : s.c 11 = (B : Nat)) : Calls Tryz.prog 92 #[.agg (runC p t q b), .int .u64 (i : Nat)] w fun e w' => e = .returned (.bool (decide (B ≤ i))) ∧ Has σ M w' := by
 have d0 : (runC p t q b)[0]? = some (.pointer (some ⟨p, 0, none⟩)) := rfl
 have d1 : (runC p t q b)[1]? = some (.int .i64 (t : Nat)) := rfl
 have d2 : (runC p t q b)[2]? = some (.pointer (some ⟨q, 0, none⟩)) := rfl
 have d3 : (runC p t q b)[3]? = some (.pointer (some ⟨b, 0, none⟩)) := rfl
 have dx : (runC p t q b).extract 0 (0 + 4) = runC p t q b := rfl
 have dz : (runC p t q b).size = 4 := rfl
 have wi : IntKind.i64.wrap (i : Int) = (i : Int) := IntWalk.i64_in _ (by omega)
 have hfd : ∀ w : World, (Instr.field 24 (.agg #[.int .i64 (s.c 0), .int .i64 (s.c 1), .int .i64 (s.c 2), .int .i64 (s.c 3), .int .i64 (s.c 4), .int .i64 (s.c 5), .int .i64 (s.c 6), .int .i64 (s.c 7), .int .i64 (s.c 8), .int .i64 (s.c 9), .int .i64 (s.c 10), .int .i64 (s.c 11), .int .i64 (s.c 12), .int .i64 (s.c 13)]) 4).run Tryz.prog w = .ok (.int .i64 (s.c 11)) w := fun w => by kernel_rfl
 have PLQ := Lib.hid (fun (M' : Mm) (w : World) (h : Has σ M' w) (lab' : Nat → Nat) (hM : Mach M' lab' p s) => mPlan_eq h hM)
 have CFQ := Lib.hid (fun (M' : Mm) (w : World) (h : Has σ M' w) (p' : Nat) (hp : M' p' = some (planRow s.c)) => conf_has h s.c hp)
 have e0 : ints .i64 14 s.c = #[.int .i64 (s.c 0), .int .i64 (s.c 1), .int .i64 (s.c 2), .int .i64 (s.c 3), .int .i64 (s.c 4), .int .i64 (s.c 5), .int .i64 (s.c 6), .int .i64 (s.c 7), .int .i64 (s.c 8), .int .i64 (s.c 9), .int .i64 (s.c 10), .int .i64 (s.c 11), .int .i64 (s.c 12), .int .i64 (s.c 13)] := rfl
 rw [← e0, hB] at hfd
 clear e0
 generalize ints .i64 14 s.c = crow at hfd CFQ
 have hdec : decide (((B : Nat) : Int) ≤ (i : Int)) = decide (B ≤ i) := by congr 1; apply propext; omega
 go_enter Tryz.func92, Tryz.ntmps92
 go_upto_region 1 with (fail)
 obtain ⟨M1, hbx, hle, hb4, hn⟩ := h.box (.cells (runC p t q b) 124)
 generalize w.alloc _ = wx at hbx ⊢
 generalize w.heap.size = b4 at hb4 hn ⊢
 clear h
 try clear w
 have h := hbx
 clear hbx
 obtain ⟨w, rfl⟩ : ∃ x : World, x = wx := ⟨_, rfl⟩
 obtain ⟨lab1, hT1⟩ := hT.more1 hle hn hb4
 have PL := Lib.hid (fun (w : World) (h : Has σ M1 w) => PLQ.out M1 w h lab1 hT1.mach)
 have CF := Lib.hid (fun (w : World) (h : Has σ M1 w) => CFQ.out M1 w h _ hT1.mach.plan)
 clear hT hT1 hB PLQ CFQ hn
 generalize runC p t q b = rc at *
 go_wp2_with (first
  | (with_reducible show wpList _ _ _ ({ dst := _, op := Op.load 26 _, type := _, pos := _, after := _, guard := _ } :: _) _ _; refine wpList_load1_has h rfl 26 _ rfl rfl hb4 d0 Tryz.underlying26 rfl ?_)
  | (go_at_call 57; refine (PL.out _ h).mono ?_; clear h; rintro _ w ⟨rfl, h⟩)
  | (go_at_call 58; refine (CF.out _ h).mono ?_; clear h; rintro _ w ⟨rfl, h⟩))
 go_ret
 exact ⟨by first | rw [hdec] | simp [hdec] | skip, h.le hle⟩
set_option maxHeartbeats 2000000 in
set_option maxRecDepth 20000 in
/-- The epoch is read. -/
theorem lbNow_eq {σ w : World} {K M : Mm} {lab : Nat → Nat} {p t q b : Nat} {s : MachS} {fs : List FrameS} {f : FrameS} (h : Has σ M w) (hT : AtTop K M lab p s t q b fs f) {a : Int} (SP : SpotAt σ M p t 1 0 0 a) (hb1 : s.mem.acc < 1000000000) :
  Calls Tryz.prog 98 #[.agg (runC p t q b)] w fun r w' => r = .returned (.int .u64 (s.mem.load a)) ∧ Has σ (M.upd s.mp (.cells (s.mem.at_ a).cells 146)) w' := by
 have d0 : (runC p t q b)[0]? = some (.pointer (some ⟨p, 0, none⟩)) := rfl
 have d1 : (runC p t q b)[1]? = some (.int .i64 (t : Nat)) := rfl
 have d2 : (runC p t q b)[2]? = some (.pointer (some ⟨q, 0, none⟩)) := rfl
 have d3 : (runC p t q b)[3]? = some (.pointer (some ⟨b, 0, none⟩)) := rfl
 have dx : (runC p t q b).extract 0 (0 + 4) = runC p t q b := rfl
 have dz : (runC p t q b).size = 4 := rfl
 obtain ⟨v, hvv⟩ : ∃ v, s.mem.load a = v := ⟨_, rfl⟩
 rw [hvv]
 go_enter Tryz.func98, Tryz.ntmps98
 go_upto_region 1 with (fail)
 obtain ⟨M1, hbx, hle, hb4, hn⟩ := h.box (.cells (runC p t q b) 124)
 generalize w.alloc _ = wx at hbx ⊢
 generalize w.heap.size = b4 at hb4 hn ⊢
 clear h
 try clear w
 have h := hbx
 clear hbx
 obtain ⟨w, rfl⟩ : ∃ x : World, x = wx := ⟨_, rfl⟩
 obtain ⟨lab1, hT1⟩ := hT.more1 hle hn hb4
 have hnK : K b4 = none := by
  cases e : K b4 with
  | none => rfl
  | some o => have := (hT.base _ _ e).1; rw [hn] at this; cases this
 have hKK : K.le (K.upd b4 (.cells (runC p t q b) 124)) := Mm.le_upd' hnK _
 have hbK : (K.upd b4 (.cells (runC p t q b) 124)) b4 = some (.cells (runC p t q b) 124) := Mm.upd_same _ _ _
 have hfb := hT1.obj
 have SP1 := Lib.hid (fun (w : World) (h : Has σ M1 w) => SP M1 w hle h)
 have ME := Lib.hid (fun (w : World) (h : Has σ M1 w) => mMem_eq h hT1.mach)
 have LD := Lib.hid (fun (w : World) (h : Has σ M1 w) => memLoad_eq h hT1.mach.mem hb1 a)
 rw [hvv] at LD
 have HLE := Lib.hid (Mm.upd_mono hle s.mp (.cells (s.mem.at_ a).cells 146))
 clear hvv hT hT1 SP hb1 hn hle hnK hKK hbK hfb
 generalize runC p t q b = rc at *
 generalize M1.upd s.mp _ = M3 at HLE LD
 refine wp_region_head (Has σ M1) 9 (by kernel_rfl) (by kernel_rfl) (fun _ _ _ _ _ h => h) h.drew ?_
 clear h
 simp only [List.take_succ_cons, List.take_zero, List.drop_succ_cons, List.drop_zero]
 repeat (first
  | go_big_quiet_skip
  | (go_big_quiet_want; first
   | (refine quiet_load_has 26 _ rfl rfl hb4 d0 Tryz.underlying26 rfl ?_; simp only [Act.put, qD, qE, qF]; go_big_quiet_on)
   | (refine quiet_load_has 3 _ rfl rfl hb4 d1 Tryz.underlying3 rfl ?_; simp only [Act.put, qD, qE, qF]; go_big_quiet_on)
   | (go_big_quiet_op; first | go_big_quiet_on | go_big_quiet_call (first | with_reducible exact fun _ => rfl | with_reducible exact ME.out _ | with_reducible exact SP1.out _))))
 refine wpQuiet_nil ?_
 try clear w
 intro w h
 go_wp2_with (first
  | (go_at_call 94; refine (LD.out _ h).mono ?_; clear h; rintro _ w ⟨rfl, h⟩))
 go_ret
 exact ⟨rfl, h.le HLE.out⟩
set_option maxHeartbeats 4000000 in
set_option maxRecDepth 20000 in
/-- A Cell is claimed, if it is as it was. -/
theorem lbClaim_eq {σ w : World} {K M : Mm} {lab : Nat → Nat} {p t q b : Nat} {s : MachS} {fs : List FrameS} {f : FrameS} (h : Has σ M w) (hT : AtTop K M lab p s t q b fs f) {i x : Nat} (hi : i < 9223372036854775808) (ht : t < 9223372036854775808) {a : Int} (SP : SpotAt σ M p t 7 (i : Nat) 0 a) (hb1 : s.mem.acc < 1000000000) (hb2 : s.mem.wr < 1000000000) :
  Calls Tryz.prog 96 #[.agg (runC p t q b), .int .u64 (i : Nat), .int .u64 (x : Nat)] w fun r w' => r = .returned (.bool (s.mem.swaps a x)) ∧ ∃ M' lab', Has σ M' w' ∧ AtTop K M' lab' p { s with mem := s.mem.cas a x (mkHold t : Nat) } t q b fs f := by
 have d0 : (runC p t q b)[0]? = some (.pointer (some ⟨p, 0, none⟩)) := rfl
 have d1 : (runC p t q b)[1]? = some (.int .i64 (t : Nat)) := rfl
 have d2 : (runC p t q b)[2]? = some (.pointer (some ⟨q, 0, none⟩)) := rfl
 have d3 : (runC p t q b)[3]? = some (.pointer (some ⟨b, 0, none⟩)) := rfl
 have dx : (runC p t q b).extract 0 (0 + 4) = runC p t q b := rfl
 have dz : (runC p t q b).size = 4 := rfl
 have CL := Lib.hid (fun (M' : Mm) (w : World) (h : Has σ M' w) (hle : M.le M') => lbCell_eq (q := q) (b := b) h hi (SP.le hle))
 have HO := Lib.hid (fun (M' : Mm) (w : World) (h : Has σ M' w) => (handleHold_any t ht w).mono fun r w' (hq : r = .returned (.int .u64 (mkHold t : Nat)) ∧ w = w') => (⟨hq.1, hq.2 ▸ h⟩ : r = .returned (.int .u64 (mkHold t : Nat)) ∧ Has σ M' w'))
 generalize mkHold t = nv at *
 obtain ⟨bo, hbo⟩ : ∃ bo, s.mem.swaps a (x : Nat) = bo := ⟨_, rfl⟩
 rw [hbo]
 clear SP hi ht
 go_enter Tryz.func96, Tryz.ntmps96
 go_upto_region 1 with (fail)
 obtain ⟨M1, hbx, hle, hb4, hn⟩ := h.box (.cells (runC p t q b) 124)
 generalize w.alloc _ = wx at hbx ⊢
 generalize w.heap.size = b4 at hb4 hn ⊢
 clear h
 try clear w
 have h := hbx
 clear hbx
 obtain ⟨w, rfl⟩ : ∃ x : World, x = wx := ⟨_, rfl⟩
 obtain ⟨lab1, hT1⟩ := hT.more1 hle hn hb4
 have hnK : K b4 = none := by
  cases e : K b4 with
  | none => rfl
  | some o => have := (hT.base _ _ e).1; rw [hn] at this; cases this
 have hKK : K.le (K.upd b4 (.cells (runC p t q b) 124)) := Mm.le_upd' hnK _
 have hbK : (K.upd b4 (.cells (runC p t q b) 124)) b4 = some (.cells (runC p t q b) 124) := Mm.upd_same _ _ _
 have hfb := hT1.obj
 have CL1 := Lib.hid (fun (w : World) (h : Has σ M1 w) => CL.out M1 w h hle)
 have HO1 := Lib.hid (fun (w : World) (h : Has σ M1 w) => HO.out M1 w h)
 have ME := Lib.hid (fun (w : World) (h : Has σ M1 w) => mMem_eq h hT1.mach)
 have CA := Lib.hid (fun (w : World) (h : Has σ M1 w) => memCas_eq h hT1.mach.mem hb1 hb2 a x nv)
 rw [hbo] at CA
 have hT2 := hT1.cas a x nv
 have HT := Lib.hid (hT2.less hKK)
 clear hbo hT hT1 hT2 CL HO hb1 hb2 hn hle hnK hKK hbK hfb
 generalize runC p t q b = rc at *
 generalize casM M1 s.mp s.mem a x nv = M2 at *
 refine wp_region_head (Has σ M1) 10 (by kernel_rfl) (by kernel_rfl) (fun _ _ _ _ _ h => h) h.drew ?_
 clear h
 simp only [List.take_succ_cons, List.take_zero, List.drop_succ_cons, List.drop_zero]
 repeat (first
  | go_big_quiet_skip
  | (go_big_quiet_want; first
   | (refine quiet_load_has 26 _ rfl rfl hb4 d0 Tryz.underlying26 rfl ?_; simp only [Act.put, qD, qE, qF]; go_big_quiet_on)
   | (refine quiet_agg_has 124 _ rfl rfl hb4 dx dz Tryz.underlying124 rfl (by kernel_rfl) ?_; simp only [Act.put, qD, qE, qF]; go_big_quiet_on)
   | (refine quiet_load_has 3 _ rfl rfl hb4 d1 Tryz.underlying3 rfl ?_; simp only [Act.put, qD, qE, qF]; go_big_quiet_on)
   | (go_big_quiet_op; first | go_big_quiet_on | go_big_quiet_call (first | with_reducible exact fun _ => rfl | with_reducible exact ME.out _ | with_reducible exact CL1.out _ | with_reducible exact HO1.out _))))
 refine wpQuiet_nil ?_
 try clear w
 intro w h
 clear hb4
 go_wp2_with (first
  | (go_at_call 121; refine (CA.out _ h).mono ?_; clear h; rintro _ w ⟨rfl, h⟩))
 go_ret
 exact ⟨rfl, _, _, h, HT.out⟩
end
section
open Go.RowKit
theorem row_r0 (f : FrameS) (v : Int) : f.row.setIfInBounds 2 (.int .u64 v) = (f.reg 0 v).row := rfl
theorem row_at (f : FrameS) (v : Int) : f.row.setIfInBounds 1 (.int .i64 v) = (f.goto v).row := rfl
set_option maxHeartbeats 2000000 in
set_option maxRecDepth 20000 in
/-- There is no such Cell. -/
theorem rsv_past {σ w : World} {K M : Mm} {lab : Nat → Nat} {p t q b : Nat} {s : MachS} {fs : List FrameS} {f : FrameS} (h : Has σ M w) (hT : AtTop K M lab p s t q b fs f) (hfs : fs.length < 1000000) {i B : Nat} (h0 : f.r 0 = (i : Int)) (hi : i < 9223372036854775808) (hB : s.c 11 = (B : Nat)) (hBi : B ≤ i) :
  Calls Tryz.prog 59 #[.agg (runC p t q b)] w fun r w' => r = .returned (.tuple #[]) ∧ ∃ M' lab', Has σ M' w' ∧ Mach M' lab' p (s.backed t [0]) ∧ Base K M' lab' := by
 have d0 : (runC p t q b)[0]? = some (.pointer (some ⟨p, 0, none⟩)) := rfl
 have d1 : (runC p t q b)[1]? = some (.int .i64 (t : Nat)) := rfl
 have d2 : (runC p t q b)[2]? = some (.pointer (some ⟨q, 0, none⟩)) := rfl
 have d3 : (runC p t q b)[3]? = some (.pointer (some ⟨b, 0, none⟩)) := rfl
 have dx : (runC p t q b).extract 0 (0 + 4) = runC p t q b := rfl
 have dz : (runC p t q b).size = 4 := rfl
 have f2 : f.row[2]? = some (.int .u64 (i : Nat)) := by rw [← h0]; rfl
 go_enter Tryz.func59, Tryz.ntmps59
 go_upto_region 1 with (fail)
 obtain ⟨M1, hbx, hle, hb4, hn⟩ := h.box (.cells (runC p t q b) 124)
 generalize w.alloc _ = wx at hbx ⊢
 generalize w.heap.size = b4 at hb4 hn ⊢
 clear h
 try clear w
 have h := hbx
 clear hbx
 obtain ⟨w, rfl⟩ : ∃ x : World, x = wx := ⟨_, rfl⟩
 obtain ⟨lab1, hT1⟩ := hT.more1 hle hn hb4
 have hnK : K b4 = none := by
  cases e : K b4 with
  | none => rfl
  | some o => have := (hT.base _ _ e).1; rw [hn] at this; cases this
 have hKK : K.le (K.upd b4 (.cells (runC p t q b) 124)) := Mm.le_upd' hnK _
 have hbK : (K.upd b4 (.cells (runC p t q b) 124)) b4 = some (.cells (runC p t q b) 124) := Mm.upd_same _ _ _
 have hfb := hT1.obj
 have PA := Lib.hid (fun (w : World) (h : Has σ M1 w) => lbPast_eq h hT1 hi hB)
 rw [decide_eq_true hBi] at PA
 have BK := Lib.hid (fun (M2 : Mm) (w : World) (bl : Nat) (h : Has σ M2 w) (hle : M1.le M2) (hn : M1 bl = none) (hbl : M2 bl = some (.cells #[.int .u64 0] 42)) => back1_eq h hT1 hle hn hbl hfs)
 have HK := Lib.hid hKK
 clear hT hT1 hn hle hnK hKK hbK hfs hB hBi hi h0
 generalize runC p t q b = rc at *
 generalize f.row = fr0 at *
 go_upto_region 4 with (first
  | (with_reducible show wpList _ _ _ ({ dst := _, op := Op.load 70 _, type := _, pos := _, after := _, guard := _ } :: _) _ _; refine wpList_load1_has h rfl 70 _ rfl rfl hb4 d3 Tryz.underlying70 rfl ?_))
 refine wp_region_class (Has σ M1) (by kernel_rfl) (by kernel_rfl) h.drew ?_
 clear h
 repeat (first
  | go_big_quiet_skip
  | (go_big_quiet_want; first
   | (refine quiet_agg_has 124 _ rfl rfl hb4 dx dz Tryz.underlying124 rfl (by kernel_rfl) ?_; simp only [Act.put, qD, qE, qF]; go_big_quiet_on)
   | (refine quiet_load_has 42 _ rfl rfl hfb f2 Tryz.underlying42 rfl ?_; simp only [Act.put, qD, qE, qF]; go_big_quiet_on)
   | (go_big_quiet_op; first | go_big_quiet_on | go_big_quiet_call (first | with_reducible exact fun _ => rfl | with_reducible exact PA.out _))))
 refine wpQuiet_nil ?_
 try clear w
 intro w h
 go_wp2_with (first
  | (with_reducible show wpList _ _ _ ({ dst := _, op := Op.load 38 _, type := _, pos := _, after := _, guard := _ } :: _) _ _; refine wpList_load1_has h rfl 38 _ rfl rfl hb4 d2 Tryz.underlying38 rfl ?_))
 obtain ⟨M2, hbx, hle2, hbl, hnl⟩ := h.box (.cells #[.int .u64 0] 42)
 generalize w.alloc _ = wx at hbx ⊢
 generalize w.heap.size = bl at hbl hnl ⊢
 clear h
 try clear w
 have h := hbx
 clear hbx
 obtain ⟨w, rfl⟩ : ∃ x : World, x = wx := ⟨_, rfl⟩
 go_wp2_with (first
  | ((go_at_call 93; refine (BK.out M2 _ bl h hle2 hnl hbl).mono ?_; clear h; rintro _ w ⟨rfl, M3, lab3, h, hM3, hB3⟩)))
 go_end0
 exact ⟨rfl, M3, lab3, h, hM3, fun c o hc => hB3 c o (HK.out _ _ hc)⟩
set_option maxHeartbeats 4000000 in
set_option maxRecDepth 20000 in
/-- A Cell that is empty. -/
theorem rsv_0z {σ w : World} {K M : Mm} {lab : Nat → Nat} {p t q b : Nat} {s : MachS} {fs : List FrameS} {f : FrameS} (h : Has σ M w) (hT : AtTop K M lab p s t q b fs f) {i B : Nat} (h0 : f.r 0 = (i : Int)) (hi : i < 9223372036854775808) (hB : s.c 11 = (B : Nat)) (hiB : i < B) (hat : f.at_ = 0) {a : Int} (SP : SpotAt σ M p t 7 (i : Nat) 0 a) (hb1 : s.mem.acc < 1000000000) (hv : s.mem.load a = 0) :
  Calls Tryz.prog 59 #[.agg (runC p t q b)] w fun r w' => r = .returned (.tuple #[]) ∧ ∃ M' lab', Has σ M' w' ∧ AtTop K M' lab' p (MachS.top { s with mem := s.mem.at_ a } t fs (f.goto 1)) t q b fs (f.goto 1) := by
 have d0 : (runC p t q b)[0]? = some (.pointer (some ⟨p, 0, none⟩)) := rfl
 have d1 : (runC p t q b)[1]? = some (.int .i64 (t : Nat)) := rfl
 have d2 : (runC p t q b)[2]? = some (.pointer (some ⟨q, 0, none⟩)) := rfl
 have d3 : (runC p t q b)[3]? = some (.pointer (some ⟨b, 0, none⟩)) := rfl
 have dx : (runC p t q b).extract 0 (0 + 4) = runC p t q b := rfl
 have dz : (runC p t q b).size = 4 := rfl
 have f2 : f.row[2]? = some (.int .u64 (i : Nat)) := by rw [← h0]; rfl
 go_enter Tryz.func59, Tryz.ntmps59
 go_upto_region 1 with (fail)
 obtain ⟨M1, hbx, hle, hb4, hn⟩ := h.box (.cells (runC p t q b) 124)
 generalize w.alloc _ = wx at hbx ⊢
 generalize w.heap.size = b4 at hb4 hn ⊢
 clear h
 try clear w
 have h := hbx
 clear hbx
 obtain ⟨w, rfl⟩ : ∃ x : World, x = wx := ⟨_, rfl⟩
 obtain ⟨lab1, hT1⟩ := hT.more1 hle hn hb4
 have hnK : K b4 = none := by
  cases e : K b4 with
  | none => rfl
  | some o => have := (hT.base _ _ e).1; rw [hn] at this; cases this
 have hKK : K.le (K.upd b4 (.cells (runC p t q b) 124)) := Mm.le_upd' hnK _
 have hbK : (K.upd b4 (.cells (runC p t q b) 124)) b4 = some (.cells (runC p t q b) 124) := Mm.upd_same _ _ _
 have hfb := hT1.obj
 have PA := Lib.hid (fun (w : World) (h : Has σ M1 w) => lbPast_eq h hT1 hi hB)
 have f1 : f.row[1]? = some (.int .i64 0) := by rw [← hat]; rfl
 rw [decide_eq_false (show ¬ B ≤ i by omega)] at PA
 obtain ⟨v, hvv⟩ : ∃ v, s.mem.load a = v := ⟨_, rfl⟩
 have ME := Lib.hid (fun (w : World) (h : Has σ M1 w) => mMem_eq h hT1.mach)
 have CL := Lib.hid (fun (w : World) (h : Has σ M1 w) => lbCell_eq (q := q) (b := b) h hi (SP.le hle))
 have LD := Lib.hid (fun (w : World) (h : Has σ M1 w) => memLoad_eq h hT1.mach.mem hb1 a)
 rw [hvv] at LD
 have hT2 := hT1.load a
 obtain rfl : v = 0 := hvv.symm.trans hv
 obtain ⟨hfb2, hT3⟩ := hT2.frame (f.goto 1)
 have HT := Lib.hid (hT3.less hKK)
 have hsz : 1 < f.row.size := show 1 < 18 by omega
 have R1 := Lib.hid (row_at f 1)
 clear hvv hv hT hT1 hT2 hT3 SP hb1 hn hle hnK hKK hbK hB hiB hi h0 hat
 generalize hr1 : (f.goto 1).row = fr1 at *
 clear hr1
 generalize runC p t q b = rc at *
 generalize hr0 : f.row = fr0 at *
 generalize M1.upd s.mp _ = M2 at *
 go_upto_region 4 with (first
  | (with_reducible show wpList _ _ _ ({ dst := _, op := Op.load 70 _, type := _, pos := _, after := _, guard := _ } :: _) _ _; refine wpList_load1_has h rfl 70 _ rfl rfl hb4 d3 Tryz.underlying70 rfl ?_))
 refine wp_region_class (Has σ M1) (by kernel_rfl) (by kernel_rfl) h.drew ?_
 clear h
 repeat (first
  | go_big_quiet_skip
  | (go_big_quiet_want; first
   | (refine quiet_agg_has 124 _ rfl rfl hb4 dx dz Tryz.underlying124 rfl (by kernel_rfl) ?_; simp only [Act.put, qD, qE, qF]; go_big_quiet_on)
   | (refine quiet_load_has 42 _ rfl rfl hfb f2 Tryz.underlying42 rfl ?_; simp only [Act.put, qD, qE, qF]; go_big_quiet_on)
   | (go_big_quiet_op; first | go_big_quiet_on | go_big_quiet_call (first | with_reducible exact fun _ => rfl | with_reducible exact PA.out _))))
 refine wpQuiet_nil ?_
 try clear w
 intro w h
 go_upto_region 7 with (first
  | (with_reducible show wpList _ _ _ ({ dst := _, op := Op.load 3 _, type := _, pos := _, after := _, guard := _ } :: _) _ _; refine wpList_load1_has h rfl 3 _ rfl rfl hfb f1 Tryz.underlying3 rfl ?_))
 refine wp_region_head (Has σ M1) 10 (by kernel_rfl) (by kernel_rfl) (fun _ _ _ _ _ h => h) h.drew ?_
 clear h
 simp only [List.take_succ_cons, List.take_zero, List.drop_succ_cons, List.drop_zero]
 repeat (first
  | go_big_quiet_skip
  | (go_big_quiet_want; first
   | (refine quiet_load_has 26 _ rfl rfl hb4 d0 Tryz.underlying26 rfl ?_; simp only [Act.put, qD, qE, qF]; go_big_quiet_on)
   | (refine quiet_agg_has 124 _ rfl rfl hb4 dx dz Tryz.underlying124 rfl (by kernel_rfl) ?_; simp only [Act.put, qD, qE, qF]; go_big_quiet_on)
   | (refine quiet_load_has 42 _ rfl rfl hfb f2 Tryz.underlying42 rfl ?_; simp only [Act.put, qD, qE, qF]; go_big_quiet_on)
   | (go_big_quiet_op; first | go_big_quiet_on | go_big_quiet_call (first | with_reducible exact fun _ => rfl | with_reducible exact ME.out _ | with_reducible exact CL.out _))))
 refine wpQuiet_nil ?_
 try clear w
 intro w h
 clear hfb hb4 PA ME CL
 clear hr0
 go_wp2_with (first
  | (go_at_call 94; refine (LD.out _ h).mono ?_; clear h; rintro _ w ⟨rfl, h⟩)
  | (with_reducible show wpList _ _ _ ({ dst := _, op := Op.store 3 _ _, type := _, pos := _, after := _, guard := _ } :: _) _ _; refine wpList_store1_has h rfl 3 _ _ rfl rfl rfl hfb2 hsz rfl (by kernel_rfl) ?_; clear h; intro w h))
 refine bodyPost_ret (results_none rfl _ _ _) rfl ⟨rfl, _, _, ?_, HT.out⟩
 have h9 : Has σ (M2.upd b (.cells (fr0.setIfInBounds 1 (.int .i64 1)) 69)) w := h
 rw [R1.out] at h9
 exact h9
set_option maxHeartbeats 4000000 in
set_option maxRecDepth 20000 in
/-- A Cell that isn't. -/
theorem rsv_0n {σ w : World} {K M : Mm} {lab : Nat → Nat} {p t q b : Nat} {s : MachS} {fs : List FrameS} {f : FrameS} (h : Has σ M w) (hT : AtTop K M lab p s t q b fs f) {i B : Nat} (h0 : f.r 0 = (i : Int)) (hi : i < 9223372036854775808) (hB : s.c 11 = (B : Nat)) (hiB : i < B) (hat : f.at_ = 0) {a : Int} (SP : SpotAt σ M p t 7 (i : Nat) 0 a) (hb1 : s.mem.acc < 1000000000) (hv : s.mem.load a ≠ 0) :
  Calls Tryz.prog 59 #[.agg (runC p t q b)] w fun r w' => r = .returned (.tuple #[]) ∧ ∃ M' lab', Has σ M' w' ∧ AtTop K M' lab' p (MachS.top { s with mem := s.mem.at_ a } t fs (f.reg 0 (i + 1 : Nat))) t q b fs (f.reg 0 (i + 1 : Nat)) := by
 have d0 : (runC p t q b)[0]? = some (.pointer (some ⟨p, 0, none⟩)) := rfl
 have d1 : (runC p t q b)[1]? = some (.int .i64 (t : Nat)) := rfl
 have d2 : (runC p t q b)[2]? = some (.pointer (some ⟨q, 0, none⟩)) := rfl
 have d3 : (runC p t q b)[3]? = some (.pointer (some ⟨b, 0, none⟩)) := rfl
 have dx : (runC p t q b).extract 0 (0 + 4) = runC p t q b := rfl
 have dz : (runC p t q b).size = 4 := rfl
 have f2 : f.row[2]? = some (.int .u64 (i : Nat)) := by rw [← h0]; rfl
 go_enter Tryz.func59, Tryz.ntmps59
 go_upto_region 1 with (fail)
 obtain ⟨M1, hbx, hle, hb4, hn⟩ := h.box (.cells (runC p t q b) 124)
 generalize w.alloc _ = wx at hbx ⊢
 generalize w.heap.size = b4 at hb4 hn ⊢
 clear h
 try clear w
 have h := hbx
 clear hbx
 obtain ⟨w, rfl⟩ : ∃ x : World, x = wx := ⟨_, rfl⟩
 obtain ⟨lab1, hT1⟩ := hT.more1 hle hn hb4
 have hnK : K b4 = none := by
  cases e : K b4 with
  | none => rfl
  | some o => have := (hT.base _ _ e).1; rw [hn] at this; cases this
 have hKK : K.le (K.upd b4 (.cells (runC p t q b) 124)) := Mm.le_upd' hnK _
 have hbK : (K.upd b4 (.cells (runC p t q b) 124)) b4 = some (.cells (runC p t q b) 124) := Mm.upd_same _ _ _
 have hfb := hT1.obj
 have PA := Lib.hid (fun (w : World) (h : Has σ M1 w) => lbPast_eq h hT1 hi hB)
 have f1 : f.row[1]? = some (.int .i64 0) := by rw [← hat]; rfl
 rw [decide_eq_false (show ¬ B ≤ i by omega)] at PA
 obtain ⟨v, hvv⟩ : ∃ v, s.mem.load a = v := ⟨_, rfl⟩
 have ME := Lib.hid (fun (w : World) (h : Has σ M1 w) => mMem_eq h hT1.mach)
 have CL := Lib.hid (fun (w : World) (h : Has σ M1 w) => lbCell_eq (q := q) (b := b) h hi (SP.le hle))
 have LD := Lib.hid (fun (w : World) (h : Has σ M1 w) => memLoad_eq h hT1.mach.mem hb1 a)
 rw [hvv] at LD
 have hT2 := hT1.load a
 have gv : (v == 0) = false := beq_eq_false_iff_ne.2 (by rw [← hvv]; exact hv)
 have wi : IntKind.u64.wrap ((i : Int) + 1) = ((i + 1 : Nat) : Int) := by rw [show (i : Int) + 1 = ((i + 1 : Nat) : Int) by omega]; exact IntWalk.u64_in _ (by omega)
 obtain ⟨hfb2, hT3⟩ := hT2.frame (f.reg 0 (i + 1 : Nat))
 have HT := Lib.hid (hT3.less hKK)
 have hsz : 2 < f.row.size := show 2 < 18 by omega
 have R1 := Lib.hid (row_r0 f (i + 1 : Nat))
 clear hvv hv hT hT1 hT2 hT3 SP hb1 hn hle hnK hKK hbK hB hiB hi h0 hat
 generalize hr1 : (f.reg 0 (i + 1 : Nat)).row = fr1 at *
 clear hr1
 generalize runC p t q b = rc at *
 generalize hr0 : f.row = fr0 at *
 generalize M1.upd s.mp _ = M2 at *
 go_upto_region 4 with (first
  | (with_reducible show wpList _ _ _ ({ dst := _, op := Op.load 70 _, type := _, pos := _, after := _, guard := _ } :: _) _ _; refine wpList_load1_has h rfl 70 _ rfl rfl hb4 d3 Tryz.underlying70 rfl ?_))
 refine wp_region_class (Has σ M1) (by kernel_rfl) (by kernel_rfl) h.drew ?_
 clear h
 repeat (first
  | go_big_quiet_skip
  | (go_big_quiet_want; first
   | (refine quiet_agg_has 124 _ rfl rfl hb4 dx dz Tryz.underlying124 rfl (by kernel_rfl) ?_; simp only [Act.put, qD, qE, qF]; go_big_quiet_on)
   | (refine quiet_load_has 42 _ rfl rfl hfb f2 Tryz.underlying42 rfl ?_; simp only [Act.put, qD, qE, qF]; go_big_quiet_on)
   | (go_big_quiet_op; first | go_big_quiet_on | go_big_quiet_call (first | with_reducible exact fun _ => rfl | with_reducible exact PA.out _))))
 refine wpQuiet_nil ?_
 try clear w
 intro w h
 go_upto_region 7 with (first
  | (with_reducible show wpList _ _ _ ({ dst := _, op := Op.load 3 _, type := _, pos := _, after := _, guard := _ } :: _) _ _; refine wpList_load1_has h rfl 3 _ rfl rfl hfb f1 Tryz.underlying3 rfl ?_))
 refine wp_region_head (Has σ M1) 10 (by kernel_rfl) (by kernel_rfl) (fun _ _ _ _ _ h => h) h.drew ?_
 clear h
 simp only [List.take_succ_cons, List.take_zero, List.drop_succ_cons, List.drop_zero]
 repeat (first
  | go_big_quiet_skip
  | (go_big_quiet_want; first
   | (refine quiet_load_has 26 _ rfl rfl hb4 d0 Tryz.underlying26 rfl ?_; simp only [Act.put, qD, qE, qF]; go_big_quiet_on)
   | (refine quiet_agg_has 124 _ rfl rfl hb4 dx dz Tryz.underlying124 rfl (by kernel_rfl) ?_; simp only [Act.put, qD, qE, qF]; go_big_quiet_on)
   | (refine quiet_load_has 42 _ rfl rfl hfb f2 Tryz.underlying42 rfl ?_; simp only [Act.put, qD, qE, qF]; go_big_quiet_on)
   | (go_big_quiet_op; first | go_big_quiet_on | go_big_quiet_call (first | with_reducible exact fun _ => rfl | with_reducible exact ME.out _ | with_reducible exact CL.out _))))
 refine wpQuiet_nil ?_
 try clear w
 intro w h
 clear hfb hb4 PA ME CL
 clear hr0
 go_upto_region 9 with (first
  | (go_at_call 94; refine (LD.out _ h).mono ?_; clear h; rintro _ w ⟨rfl, h⟩))
 refine wp_region_head (Has σ M2) 9 (by kernel_rfl) (by kernel_rfl) (fun _ _ _ _ _ h => h) h.drew ?_
 clear h
 simp only [List.take_succ_cons, List.take_zero, List.drop_succ_cons, List.drop_zero]
 repeat (first
  | go_big_quiet_skip
  | (go_big_quiet_want; first
   | (refine quiet_load_has 42 _ rfl rfl hfb2 f2 Tryz.underlying42 rfl ?_; simp only [Act.put, qD, qE, qF]; go_big_quiet_on)
   | (go_big_quiet_op; first | go_big_quiet_on | go_big_quiet_call (first | with_reducible exact fun _ => rfl))))
 refine wpQuiet_nil ?_
 try clear w
 intro w h
 go_wp2_with (first
  | (with_reducible show wpList _ _ _ ({ dst := _, op := Op.store 42 _ _, type := _, pos := _, after := _, guard := _ } :: _) _ _; refine wpList_store1_has h rfl 42 _ _ rfl rfl rfl hfb2 hsz rfl (by kernel_rfl) ?_; clear h; intro w h))
 go_end0
 refine ⟨rfl, _, _, ?_, HT.out⟩
 have h9 : Has σ (M2.upd b (.cells (fr0.setIfInBounds 2 (.int .u64 (i + 1 : Nat))) 69)) w := h
 rw [R1.out] at h9
 exact h9
set_option maxHeartbeats 4000000 in
set_option maxRecDepth 20000 in
/-- A Cell is reserved. -/
theorem rsv_1y {σ w : World} {K M : Mm} {lab : Nat → Nat} {p t q b : Nat} {s : MachS} {fs : List FrameS} {f : FrameS} (h : Has σ M w) (hT : AtTop K M lab p s t q b fs f) (hfs : fs.length < 1000000) {i B : Nat} (h0 : f.r 0 = (i : Int)) (hi : i < 9223372036854775808) (hB : s.c 11 = (B : Nat)) (hiB : i < B) (ht : t < 9223372036854775808) (hat : f.at_ = 1) {a : Int} (SP : SpotAt σ M p t 7 (i : Nat) 0 a) (hb1 : s.mem.acc < 1000000000) (hb2 : s.mem.wr < 1000000000) (hsw : s.mem.swaps a ((0 : Nat) : Int) = true) :
  Calls Tryz.prog 59 #[.agg (runC p t q b)] w fun r w' => r = .returned (.tuple #[]) ∧ ∃ M' lab', Has σ M' w' ∧ Mach M' lab' p (MachS.backed { s with mem := s.mem.cas a ((0 : Nat) : Int) (mkHold t : Nat) } t [1, (i : Nat)]) ∧ Base K M' lab' := by
 have d0 : (runC p t q b)[0]? = some (.pointer (some ⟨p, 0, none⟩)) := rfl
 have d1 : (runC p t q b)[1]? = some (.int .i64 (t : Nat)) := rfl
 have d2 : (runC p t q b)[2]? = some (.pointer (some ⟨q, 0, none⟩)) := rfl
 have d3 : (runC p t q b)[3]? = some (.pointer (some ⟨b, 0, none⟩)) := rfl
 have dx : (runC p t q b).extract 0 (0 + 4) = runC p t q b := rfl
 have dz : (runC p t q b).size = 4 := rfl
 have f2 : f.row[2]? = some (.int .u64 (i : Nat)) := by rw [← h0]; rfl
 go_enter Tryz.func59, Tryz.ntmps59
 go_upto_region 1 with (fail)
 obtain ⟨M1, hbx, hle, hb4, hn⟩ := h.box (.cells (runC p t q b) 124)
 generalize w.alloc _ = wx at hbx ⊢
 generalize w.heap.size = b4 at hb4 hn ⊢
 clear h
 try clear w
 have h := hbx
 clear hbx
 obtain ⟨w, rfl⟩ : ∃ x : World, x = wx := ⟨_, rfl⟩
 obtain ⟨lab1, hT1⟩ := hT.more1 hle hn hb4
 have hnK : K b4 = none := by
  cases e : K b4 with
  | none => rfl
  | some o => have := (hT.base _ _ e).1; rw [hn] at this; cases this
 have hKK : K.le (K.upd b4 (.cells (runC p t q b) 124)) := Mm.le_upd' hnK _
 have hbK : (K.upd b4 (.cells (runC p t q b) 124)) b4 = some (.cells (runC p t q b) 124) := Mm.upd_same _ _ _
 have hfb := hT1.obj
 have PA := Lib.hid (fun (w : World) (h : Has σ M1 w) => lbPast_eq h hT1 hi hB)
 have f1 : f.row[1]? = some (.int .i64 1) := by rw [← hat]; rfl
 rw [decide_eq_false (show ¬ B ≤ i by omega)] at PA
 have CLM := Lib.hid (fun (w : World) (h : Has σ M1 w) => lbClaim_eq (x := 0) h hT1 hi ht (SP.le hle) hb1 hb2)
 rw [hsw] at CLM
 have HKK := Lib.hid hKK
 have HF := Lib.hid hfs
 clear hsw hT hT1 SP hb1 hb2 hn hle hnK hKK hB hiB hi h0 hat ht hfs
 generalize hrc : runC p t q b = rc at *
 have HRC := Lib.hid hrc
 generalize hr0 : f.row = fr0 at *
 have HR0 := Lib.hid hr0
 clear hrc hr0
 generalize K.upd b4 _ = K1 at *
 go_upto_region 4 with (first
  | (with_reducible show wpList _ _ _ ({ dst := _, op := Op.load 70 _, type := _, pos := _, after := _, guard := _ } :: _) _ _; refine wpList_load1_has h rfl 70 _ rfl rfl hb4 d3 Tryz.underlying70 rfl ?_))
 refine wp_region_class (Has σ M1) (by kernel_rfl) (by kernel_rfl) h.drew ?_
 clear h
 repeat (first
  | go_big_quiet_skip
  | (go_big_quiet_want; first
   | (refine quiet_agg_has 124 _ rfl rfl hb4 dx dz Tryz.underlying124 rfl (by kernel_rfl) ?_; simp only [Act.put, qD, qE, qF]; go_big_quiet_on)
   | (refine quiet_load_has 42 _ rfl rfl hfb f2 Tryz.underlying42 rfl ?_; simp only [Act.put, qD, qE, qF]; go_big_quiet_on)
   | (go_big_quiet_op; first | go_big_quiet_on | go_big_quiet_call (first | with_reducible exact fun _ => rfl | with_reducible exact PA.out _))))
 refine wpQuiet_nil ?_
 try clear w
 intro w h
 go_upto_region 10 with (first
  | (with_reducible show wpList _ _ _ ({ dst := _, op := Op.load 3 _, type := _, pos := _, after := _, guard := _ } :: _) _ _; refine wpList_load1_has h rfl 3 _ rfl rfl hfb f1 Tryz.underlying3 rfl ?_))
 refine wp_region_head (Has σ M1) 6 (by kernel_rfl) (by kernel_rfl) (fun _ _ _ _ _ h => h) h.drew ?_
 clear h
 simp only [List.take_succ_cons, List.take_zero, List.drop_succ_cons, List.drop_zero]
 repeat (first
  | go_big_quiet_skip
  | (go_big_quiet_want; first
   | (refine quiet_agg_has 124 _ rfl rfl hb4 dx dz Tryz.underlying124 rfl (by kernel_rfl) ?_; simp only [Act.put, qD, qE, qF]; go_big_quiet_on)
   | (refine quiet_load_has 42 _ rfl rfl hfb f2 Tryz.underlying42 rfl ?_; simp only [Act.put, qD, qE, qF]; go_big_quiet_on)
   | (go_big_quiet_op; first | go_big_quiet_on | go_big_quiet_call (first | with_reducible exact fun _ => rfl))))
 refine wpQuiet_nil ?_
 try clear w
 intro w h
 clear hfb hb4 PA
 go_upto_region 11 with (first
  | ((go_at_call 96; refine (CLM.out _ h).mono ?_; clear h; rintro _ w ⟨rfl, M2, lab2, h, hT2⟩)))
 have hfb2 := hT2.obj
 rw [HR0.out] at hfb2
 have KE := hT2.base.le
 have BK : Hid (∀ w, Has σ M2 w → Calls Tryz.prog 93 #[.pointer (some ⟨q, 0, none⟩), .slice (some ⟨w.heap.size, 0, none⟩) 2 2] (w.alloc (.cells #[.int .u64 1, .int .u64 (i : Nat)] 42)) fun r w' => r = .returned (.tuple #[]) ∧ ∃ M' lab', Has σ M' w' ∧ Mach M' lab' p (MachS.backed { s with mem := s.mem.cas a ((0 : Nat) : Int) (mkHold t : Nat) } t [1, (i : Nat)]) ∧ Base K1 M' lab') := Lib.hid fun w h => by
  obtain ⟨M8, h8, hle8, hb8, hn8⟩ := h.box (.cells #[.int .u64 1, .int .u64 (i : Nat)] 42)
  exact back2_eq h8 hT2 hle8 hn8 hb8 HF.out
 clear hT2 HF HR0 HRC CLM
 refine wp_region_held_drew (S := Has σ (K1)) (by kernel_rfl) (h.drew.le KE) (fun hHeld => ?_)
 refine wpAnyH_take (i := 0) (v := ?_) rfl (by kernel_rfl) (by kernel_rfl) (by kernel_rfl) (fun _ _ _ h => h) (Or.inl ⟨by rfl, ?_⟩) hHeld ?_
 rotate_left
 ·(intro wz _; go_simp; try with_reducible rfl)
 try simp only [qA, qB, qC, Act.put, qD, qE, qF]
 refine wpAnyH_take (i := 1) (v := _) rfl (by kernel_rfl) (by kernel_rfl) (by kernel_rfl) (fun _ _ _ h => h) (yields_load1 rfl 38 _ rfl rfl hbK d2 Tryz.underlying38 rfl) hHeld ?_
 try simp only [qA, qB, qC, Act.put, qD, qE, qF]
 refine wpAnyH_take (i := 2) (v := ?_) rfl (by kernel_rfl) (by kernel_rfl) (by kernel_rfl) (fun _ _ _ h => h) (Or.inl ⟨by rfl, ?_⟩) hHeld ?_
 rotate_left
 ·(intro wz _; go_simp; try with_reducible rfl)
 try simp only [qA, qB, qC, Act.put, qD, qE, qF]
 refine wpAnyH_take (i := 3) (v := ?_) rfl (by kernel_rfl) (by kernel_rfl) (by kernel_rfl) (fun _ _ _ h => h) (Or.inl ⟨by rfl, ?_⟩) hHeld ?_
 rotate_left
 ·(intro wz _; go_simp; try with_reducible rfl)
 try simp only [qA, qB, qC, Act.put, qD, qE, qF]
 refine wpAnyH_take (i := 4) (v := ?_) rfl (by kernel_rfl) (by kernel_rfl) (by kernel_rfl) (fun _ _ _ h => h) (Or.inl ⟨by rfl, ?_⟩) hHeld ?_
 rotate_left
 ·(intro wz _; go_simp; try with_reducible rfl)
 try simp only [qA, qB, qC, Act.put, qD, qE, qF]
 refine wpAnyH_take (i := 5) (v := ?_) rfl (by kernel_rfl) (by kernel_rfl) (by kernel_rfl) (fun _ _ _ h => h) (Or.inl ⟨by rfl, ?_⟩) hHeld ?_
 rotate_left
 ·(intro wz _; go_simp; try with_reducible rfl)
 try simp only [qA, qB, qC, Act.put, qD, qE, qF]
 replace h := h.drew
 generalize w.drew = w1 at h hHeld ⊢
 clear w
 obtain ⟨w, rfl⟩ : ∃ q : World, q = w1 := ⟨_, rfl⟩
 refine wpAnyH_ready (rs := [6]) (by kernel_rfl) (by simp) ?_
 refine AllReadyH.cons rfl (fun K hK => ?_) AllReadyH.nil
 (refine step_yields rfl (yields_load1 rfl 42 _ rfl rfl hfb2 f2 Tryz.underlying42 rfl) h ?_)
 refine hK.out _ _ (hHeld) (fun hHeld => ?_)
 clear hK K
 try simp only [Act.put, qD, qE, qF]
 refine wpAnyH_ready (rs := [7]) (by kernel_rfl) (by simp) ?_
 refine AllReadyH.cons rfl (fun K hK => ?_) AllReadyH.nil
 go_simp
 refine hK.out _ _ ((h.quietAlloc _).le KE) (fun hHeld => ?_)
 clear hK K
 try simp only [Act.put, qD, qE, qF]
 refine wpAnyH_ready (rs := [8]) (by kernel_rfl) (by simp) ?_
 refine AllReadyH.cons rfl (fun K hK => ?_) AllReadyH.nil
 (go_simp; go_wp2_with (go_at_call 93; refine (BK.out _ h).mono ?_; clear h hHeld; rintro _ w ⟨rfl, M3, lab3, h, hM3, hB3⟩))
 refine hK.out _ _ (h.le hB3.le) (fun hHeld => ?_)
 clear hK K
 try simp only [Act.put, qD, qE, qF]
 refine wpAnyH_done (by kernel_rfl) ?_ _
 clear hHeld
 go_wp2
 go_end0
 exact ⟨rfl, M3, lab3, h, hM3, fun c o hc => hB3 c o (HKK.out _ _ hc)⟩
end
section
open Go.RowKit
theorem row_r3 (f : FrameS) (v : Int) : f.row.setIfInBounds 5 (.int .u64 v) = (f.reg 3 v).row := rfl
set_option maxHeartbeats 4000000 in
set_option maxRecDepth 20000 in
/-- A Cell is empty again. -/
theorem rel_0 {σ w : World} {K M : Mm} {lab : Nat → Nat} {p t q b : Nat} {s : MachS} {fs : List FrameS} {f : FrameS} (h : Has σ M w) (hT : AtTop K M lab p s t q b fs f) (hfs : fs.length < 1000000) {i : Nat} (h0 : f.r 0 = (i : Int)) (hi : i < 9223372036854775808) {a : Int} (SP : SpotAt σ M p t 7 (i : Nat) 0 a) (hb1 : s.mem.acc < 1000000000) (hb2 : s.mem.wr < 1000000000) :
  Calls Tryz.prog 60 #[.agg (runC p t q b)] w fun r w' => r = .returned (.tuple #[]) ∧ ∃ M' lab', Has σ M' w' ∧ Mach M' lab' p (MachS.backed { s with mem := s.mem.store a 0 } t []) ∧ Base K M' lab' := by
 have d0 : (runC p t q b)[0]? = some (.pointer (some ⟨p, 0, none⟩)) := rfl
 have d1 : (runC p t q b)[1]? = some (.int .i64 (t : Nat)) := rfl
 have d2 : (runC p t q b)[2]? = some (.pointer (some ⟨q, 0, none⟩)) := rfl
 have d3 : (runC p t q b)[3]? = some (.pointer (some ⟨b, 0, none⟩)) := rfl
 have dx : (runC p t q b).extract 0 (0 + 4) = runC p t q b := rfl
 have dz : (runC p t q b).size = 4 := rfl
 have f2 : f.row[2]? = some (.int .u64 (i : Nat)) := by rw [← h0]; rfl
 go_enter Tryz.func60, Tryz.ntmps60
 go_upto_region 1 with (fail)
 obtain ⟨M1, hbx, hle, hb4, hn⟩ := h.box (.cells (runC p t q b) 124)
 generalize w.alloc _ = wx at hbx ⊢
 generalize w.heap.size = b4 at hb4 hn ⊢
 clear h
 try clear w
 have h := hbx
 clear hbx
 obtain ⟨w, rfl⟩ : ∃ x : World, x = wx := ⟨_, rfl⟩
 obtain ⟨lab1, hT1⟩ := hT.more1 hle hn hb4
 have hnK : K b4 = none := by
  cases e : K b4 with
  | none => rfl
  | some o => have := (hT.base _ _ e).1; rw [hn] at this; cases this
 have hKK : K.le (K.upd b4 (.cells (runC p t q b) 124)) := Mm.le_upd' hnK _
 have hbK : (K.upd b4 (.cells (runC p t q b) 124)) b4 = some (.cells (runC p t q b) 124) := Mm.upd_same _ _ _
 have hfb := hT1.obj
 have ME := Lib.hid (fun (w : World) (h : Has σ M1 w) => mMem_eq h hT1.mach)
 have CL := Lib.hid (fun (w : World) (h : Has σ M1 w) => lbCell_eq (q := q) (b := b) h hi (SP.le hle))
 have SE := Lib.hid (fun (w : World) (h : Has σ M1 w) => memStore_eq h hT1.mach.mem hb1 hb2 a 0)
 have hT2 := hT1.store a 0
 have BK := Lib.hid (fun (w : World) (h : Has σ (storeM M1 s.mp s.mem a 0) w) => back0_eq h hT2 hfs)
 have hb42 := hT2.base.le _ _ hbK
 have HK := Lib.hid hKK
 clear hT hT1 hT2 SP hb1 hb2 hn hle hnK hKK hbK hi h0 hfs
 generalize runC p t q b = rc at *
 generalize f.row = fr0 at *
 generalize storeM M1 s.mp s.mem a _ = M2 at *
 refine wp_region_head (Has σ M1) 11 (by kernel_rfl) (by kernel_rfl) (fun _ _ _ _ _ h => h) h.drew ?_
 clear h
 simp only [List.take_succ_cons, List.take_zero, List.drop_succ_cons, List.drop_zero]
 repeat (first
  | go_big_quiet_skip
  | (go_big_quiet_want; first
   | (refine quiet_load_has 26 _ rfl rfl hb4 d0 Tryz.underlying26 rfl ?_; simp only [Act.put, qD, qE, qF]; go_big_quiet_on)
   | (refine quiet_agg_has 124 _ rfl rfl hb4 dx dz Tryz.underlying124 rfl (by kernel_rfl) ?_; simp only [Act.put, qD, qE, qF]; go_big_quiet_on)
   | (refine quiet_load_has 70 _ rfl rfl hb4 d3 Tryz.underlying70 rfl ?_; simp only [Act.put, qD, qE, qF]; go_big_quiet_on)
   | (refine quiet_load_has 42 _ rfl rfl hfb f2 Tryz.underlying42 rfl ?_; simp only [Act.put, qD, qE, qF]; go_big_quiet_on)
   | (go_big_quiet_op; first | go_big_quiet_on | go_big_quiet_call (first | with_reducible exact fun _ => rfl | with_reducible exact ME.out _ | with_reducible exact CL.out _))))
 refine wpQuiet_nil ?_
 try clear w
 intro w h
 clear hfb hb4 ME CL
 go_wp2_with (first
  | (go_at_call 97; refine (SE.out _ h).mono ?_; clear h; rintro _ w ⟨rfl, h⟩)
  | (with_reducible show wpList _ _ _ ({ dst := _, op := Op.load 38 _, type := _, pos := _, after := _, guard := _ } :: _) _ _; refine wpList_load1_has h rfl 38 _ rfl rfl hb42 d2 Tryz.underlying38 rfl ?_)
  | ((go_at_call 93; refine (BK.out _ h).mono ?_; clear h; rintro _ w ⟨rfl, M3, lab3, h, hM3, hB3⟩)))
 go_end0
 exact ⟨rfl, M3, lab3, h, hM3, fun c o hc => hB3 c o (HK.out _ _ hc)⟩
set_option maxHeartbeats 4000000 in
set_option maxRecDepth 20000 in
/-- Fill reads the epoch. -/
theorem fill_0 {σ w : World} {K M : Mm} {lab : Nat → Nat} {p t q b : Nat} {s : MachS} {fs : List FrameS} {f : FrameS} (h : Has σ M w) (hT : AtTop K M lab p s t q b fs f) (hat : f.at_ = 0) {a : Int} (SP : SpotAt σ M p t 1 0 0 a) (hb1 : s.mem.acc < 1000000000) :
  Calls Tryz.prog 61 #[.agg (runC p t q b)] w fun r w' => r = .returned (.tuple #[]) ∧ ∃ M' lab', Has σ M' w' ∧ AtTop K M' lab' p (MachS.top { s with mem := s.mem.at_ a } t fs ((f.reg 3 (s.mem.load a)).goto 1)) t q b fs ((f.reg 3 (s.mem.load a)).goto 1) := by
 have d0 : (runC p t q b)[0]? = some (.pointer (some ⟨p, 0, none⟩)) := rfl
 have d1 : (runC p t q b)[1]? = some (.int .i64 (t : Nat)) := rfl
 have d2 : (runC p t q b)[2]? = some (.pointer (some ⟨q, 0, none⟩)) := rfl
 have d3 : (runC p t q b)[3]? = some (.pointer (some ⟨b, 0, none⟩)) := rfl
 have dx : (runC p t q b).extract 0 (0 + 4) = runC p t q b := rfl
 have dz : (runC p t q b).size = 4 := rfl
 have f1 : f.row[1]? = some (.int .i64 0) := by rw [← hat]; rfl
 obtain ⟨v, hvv⟩ : ∃ v, s.mem.load a = v := ⟨_, rfl⟩
 rw [hvv]
 go_enter Tryz.func61, Tryz.ntmps61
 go_upto_region 1 with (fail)
 obtain ⟨M1, hbx, hle, hb4, hn⟩ := h.box (.cells (runC p t q b) 124)
 generalize w.alloc _ = wx at hbx ⊢
 generalize w.heap.size = b4 at hb4 hn ⊢
 clear h
 try clear w
 have h := hbx
 clear hbx
 obtain ⟨w, rfl⟩ : ∃ x : World, x = wx := ⟨_, rfl⟩
 obtain ⟨lab1, hT1⟩ := hT.more1 hle hn hb4
 have hnK : K b4 = none := by
  cases e : K b4 with
  | none => rfl
  | some o => have := (hT.base _ _ e).1; rw [hn] at this; cases this
 have hKK : K.le (K.upd b4 (.cells (runC p t q b) 124)) := Mm.le_upd' hnK _
 have hbK : (K.upd b4 (.cells (runC p t q b) 124)) b4 = some (.cells (runC p t q b) 124) := Mm.upd_same _ _ _
 have hfb := hT1.obj
 have NW := Lib.hid (fun (w : World) (h : Has σ M1 w) => lbNow_eq h hT1 (SP.le hle) hb1)
 rw [hvv] at NW
 have KL := hT1.base.le
 have hT2 := hT1.load a
 have KE := hT2.base.le
 obtain ⟨hfb2, hT3⟩ := hT2.frame (f.reg 3 v)
 have KS := hT3.base.le
 obtain ⟨hfb3, hT4⟩ := hT3.frame ((f.reg 3 v).goto 1)
 rw [MachS.top_top, Mm.upd_upd] at hT4
 have HT := Lib.hid (hT4.less hKK)
 have hsz : 5 < f.row.size := show 5 < 18 by omega
 have hsz3 : 1 < (f.reg 3 v).row.size := show 1 < 18 by omega
 have R1 := Lib.hid (row_r3 f v)
 have R2 := Lib.hid (row_at (f.reg 3 v) 1)
 clear hvv hT hT1 hT2 hT3 hT4 SP hb1 hn hle hnK hKK hat
 generalize K.upd b4 _ = K1 at KL KE KS hbK
 generalize runC p t q b = rc at *
 generalize hr0 : f.row = fr0 at *
 generalize hr1 : (f.reg 3 v).row = fr1 at *
 generalize hr2 : ((f.reg 3 v).goto 1).row = fr2 at *
 clear hr0 hr1 hr2
 generalize M1.upd s.mp _ = M2 at *
 go_upto_region 3 with (first
  | (with_reducible show wpList _ _ _ ({ dst := _, op := Op.load 70 _, type := _, pos := _, after := _, guard := _ } :: _) _ _; refine wpList_load1_has h rfl 70 _ rfl rfl hb4 d3 Tryz.underlying70 rfl ?_)
  | (with_reducible show wpList _ _ _ ({ dst := _, op := Op.load 3 _, type := _, pos := _, after := _, guard := _ } :: _) _ _; refine wpList_load1_has h rfl 3 _ rfl rfl hfb f1 Tryz.underlying3 rfl ?_))
 clear hfb hb4
 refine wp_region_held_drew (S := Has σ (K1)) (by kernel_rfl) (h.drew.le KL) (fun hHeld => ?_)
 refine wpAnyH_take (i := 0) (v := ?_) rfl (by kernel_rfl) (by kernel_rfl) (by kernel_rfl) (fun _ _ _ h => h) (Or.inl ⟨by rfl, ?_⟩) hHeld ?_
 rotate_left
 ·(intro wz _; go_simp; try with_reducible rfl)
 try simp only [qA, qB, qC, Act.put, qD, qE, qF]
 refine wpAnyH_take (i := 1) (v := _) rfl (by kernel_rfl) (by kernel_rfl) (by kernel_rfl) (fun _ _ _ h => h) (yields_agg rfl 124 _ rfl rfl hbK dx dz Tryz.underlying124 rfl (by kernel_rfl)) hHeld ?_
 try simp only [qA, qB, qC, Act.put, qD, qE, qF]
 refine wpAnyH_take (i := 3) (v := ?_) rfl (by kernel_rfl) (by kernel_rfl) (by kernel_rfl) (fun _ _ _ h => h) (Or.inl ⟨by rfl, ?_⟩) hHeld ?_
 rotate_left
 ·(intro wz _; go_simp; try with_reducible rfl)
 try simp only [qA, qB, qC, Act.put, qD, qE, qF]
 refine wpAnyH_take (i := 4) (v := ?_) rfl (by kernel_rfl) (by kernel_rfl) (by kernel_rfl) (fun _ _ _ h => h) (Or.inl ⟨by rfl, ?_⟩) hHeld ?_
 rotate_left
 ·(intro wz _; go_simp; try with_reducible rfl)
 try simp only [qA, qB, qC, Act.put, qD, qE, qF]
 replace h := h.drew
 generalize w.drew = w1 at h hHeld ⊢
 clear w
 obtain ⟨w, rfl⟩ : ∃ q : World, q = w1 := ⟨_, rfl⟩
 refine wpAnyH_ready (rs := [2]) (by kernel_rfl) (by simp) ?_
 refine AllReadyH.cons rfl (fun K hK => ?_) AllReadyH.nil
 (go_simp; go_wp2_with (go_at_call 98; refine (NW.out _ h).mono ?_; clear h; rintro _ w ⟨rfl, h⟩))
 refine hK.out _ _ (h.le KE) (fun hHeld => ?_)
 clear hK K
 try simp only [Act.put, qD, qE, qF]
 refine wpAnyH_take (i := 5) (v := ?_) rfl (by kernel_rfl) (by kernel_rfl) (by kernel_rfl) (fun _ _ _ h => h) (Or.inl ⟨by rfl, ?_⟩) hHeld ?_
 rotate_left
 ·(intro wz _; go_simp; try with_reducible rfl)
 try simp only [qA, qB, qC, Act.put, qD, qE, qF]
 refine wpAnyH_ready (rs := [6]) (by kernel_rfl) (by simp) ?_
 refine AllReadyH.cons rfl (fun K hK => ?_) AllReadyH.nil
 (refine step_store1 (v := .int .u64 v) h rfl 42 _ _ rfl rfl rfl hfb2 hsz rfl rfl (by kernel_rfl) ?_; clear h; intro w h; rw [R1.out] at h)
 refine hK.out _ _ (h.le KS) (fun hHeld => ?_)
 clear hK K
 try simp only [Act.put, qD, qE, qF]
 refine wpAnyH_done (by kernel_rfl) ?_ _
 clear hHeld
 generalize hM3 : M2.upd b (.cells fr1 69) = M3 at h hfb3 KS
 go_wp2_with (first
  | (with_reducible show wpList _ _ _ ({ dst := _, op := Op.store 3 _ _, type := _, pos := _, after := _, guard := _ } :: _) _ _; refine wpList_store1_has h rfl 3 _ _ rfl rfl rfl hfb3 hsz3 rfl (by kernel_rfl) ?_; clear h; intro w h))
 refine bodyPost_ret (results_none rfl _ _ _) rfl ⟨rfl, _, _, ?_, HT.out⟩
 have h0 : Has σ (M2.upd b (.cells (fr1.setIfInBounds 1 (.int .i64 1)) 69)) w := by rw [← hM3, Mm.upd_upd] at h; exact h
 rw [R2.out] at h0
 exact h0
set_option maxHeartbeats 4000000 in
set_option maxRecDepth 20000 in
/-- Fill writes the Cell. -/
theorem fill_1 {σ w : World} {K M : Mm} {lab : Nat → Nat} {p t q b : Nat} {s : MachS} {fs : List FrameS} {f : FrameS} (h : Has σ M w) (hT : AtTop K M lab p s t q b fs f) (hfs : fs.length < 1000000) (hat : f.at_ = 1) {i sl gn lb : Nat} (h0 : f.r 0 = (i : Int)) (h1 : f.r 1 = (sl : Int)) (h2 : f.r 2 = (gn : Int)) (h3 : f.r 3 = (lb : Int)) (hi : i < 9223372036854775808) (hsl : sl < 9223372036854775808) (hgn : gn < 9223372036854775808) (hlb : lb < 18446744073709551616) {a : Int} (SP : SpotAt σ M p t 7 (i : Nat) 0 a) (hb1 : s.mem.acc < 1000000000) (hb2 : s.mem.wr < 1000000000) :
  Calls Tryz.prog 61 #[.agg (runC p t q b)] w fun r w' => r = .returned (.tuple #[]) ∧ ∃ M' lab', Has σ M' w' ∧ Mach M' lab' p (MachS.backed { s with mem := s.mem.store a (mkCell sl gn lb : Nat) } t []) ∧ Base K M' lab' := by
 have CEQ := Lib.hid (fun (M' : Mm) (w : World) (h : Has σ M' w) => handleCell_eq h sl gn lb hsl hgn hlb)
 obtain ⟨cv, hcv⟩ : ∃ x, mkCell sl gn lb = x := ⟨_, rfl⟩
 rw [hcv] at CEQ ⊢
 clear hcv
 have d0 : (runC p t q b)[0]? = some (.pointer (some ⟨p, 0, none⟩)) := rfl
 have d1 : (runC p t q b)[1]? = some (.int .i64 (t : Nat)) := rfl
 have d2 : (runC p t q b)[2]? = some (.pointer (some ⟨q, 0, none⟩)) := rfl
 have d3 : (runC p t q b)[3]? = some (.pointer (some ⟨b, 0, none⟩)) := rfl
 have dx : (runC p t q b).extract 0 (0 + 4) = runC p t q b := rfl
 have dz : (runC p t q b).size = 4 := rfl
 have f1 : f.row[1]? = some (.int .i64 1) := by rw [← hat]; rfl
 have f2 : f.row[2]? = some (.int .u64 (i : Nat)) := by rw [← h0]; rfl
 have f3 : f.row[3]? = some (.int .u64 (sl : Nat)) := by rw [← h1]; rfl
 have f4 : f.row[4]? = some (.int .u64 (gn : Nat)) := by rw [← h2]; rfl
 have f5 : f.row[5]? = some (.int .u64 (lb : Nat)) := by rw [← h3]; rfl
 have w1 : IntKind.i64.wrap (sl : Int) = (sl : Int) := IntWalk.i64_in _ (by omega)
 have w2 : IntKind.i64.wrap (gn : Int) = (gn : Int) := IntWalk.i64_in _ (by omega)
 go_enter Tryz.func61, Tryz.ntmps61
 go_upto_region 1 with (fail)
 obtain ⟨M1, hbx, hle, hb4, hn⟩ := h.box (.cells (runC p t q b) 124)
 generalize w.alloc _ = wx at hbx ⊢
 generalize w.heap.size = b4 at hb4 hn ⊢
 clear h
 try clear w
 have h := hbx
 clear hbx
 obtain ⟨w, rfl⟩ : ∃ x : World, x = wx := ⟨_, rfl⟩
 obtain ⟨lab1, hT1⟩ := hT.more1 hle hn hb4
 have hnK : K b4 = none := by
  cases e : K b4 with
  | none => rfl
  | some o => have := (hT.base _ _ e).1; rw [hn] at this; cases this
 have hKK : K.le (K.upd b4 (.cells (runC p t q b) 124)) := Mm.le_upd' hnK _
 have hbK : (K.upd b4 (.cells (runC p t q b) 124)) b4 = some (.cells (runC p t q b) 124) := Mm.upd_same _ _ _
 have hfb := hT1.obj
 have ME := Lib.hid (fun (w : World) (h : Has σ M1 w) => mMem_eq h hT1.mach)
 have CL := Lib.hid (fun (w : World) (h : Has σ M1 w) => lbCell_eq (q := q) (b := b) h hi (SP.le hle))
 have CE := Lib.hid (fun (w : World) (h : Has σ M1 w) => CEQ.out M1 w h)
 have SE := Lib.hid (fun (w : World) (h : Has σ M1 w) => memStore_eq h hT1.mach.mem hb1 hb2 a (cv : Nat))
 have hT2 := hT1.store a (cv : Nat)
 have BK := Lib.hid (fun (w : World) (h : Has σ (storeM M1 s.mp s.mem a (cv : Nat)) w) => back0_eq h hT2 hfs)
 have hb42 := hT2.base.le _ _ hbK
 have HK := Lib.hid hKK
 clear hT hT1 hT2 SP hb1 hb2 hn hle hnK hKK hbK hi h0 h1 h2 h3 hfs hat hsl hgn hlb
 generalize runC p t q b = rc at *
 generalize f.row = fr0 at *
 generalize storeM M1 s.mp s.mem a _ = M2 at *
 go_upto_region 5 with (first
  | (with_reducible show wpList _ _ _ ({ dst := _, op := Op.load 70 _, type := _, pos := _, after := _, guard := _ } :: _) _ _; refine wpList_load1_has h rfl 70 _ rfl rfl hb4 d3 Tryz.underlying70 rfl ?_)
  | (with_reducible show wpList _ _ _ ({ dst := _, op := Op.load 3 _, type := _, pos := _, after := _, guard := _ } :: _) _ _; refine wpList_load1_has h rfl 3 _ rfl rfl hfb f1 Tryz.underlying3 rfl ?_))
 refine wp_region_head (Has σ M1) 29 (by kernel_rfl) (by kernel_rfl) (fun _ _ _ _ _ h => h) h.drew ?_
 clear h
 simp only [List.take_succ_cons, List.take_zero, List.drop_succ_cons, List.drop_zero]
 repeat (first
  | go_big_quiet_skip
  | (go_big_quiet_want; first
   | (refine quiet_load_has 26 _ rfl rfl hb4 d0 Tryz.underlying26 rfl ?_; simp only [Act.put, qD, qE, qF]; go_big_quiet_on)
   | (refine quiet_agg_has 124 _ rfl rfl hb4 dx dz Tryz.underlying124 rfl (by kernel_rfl) ?_; simp only [Act.put, qD, qE, qF]; go_big_quiet_on)
   | (refine quiet_load_has 42 _ rfl rfl hfb f2 Tryz.underlying42 rfl ?_; simp only [Act.put, qD, qE, qF]; go_big_quiet_on)
   | (refine quiet_load_has 42 _ rfl rfl hfb f3 Tryz.underlying42 rfl ?_; simp only [Act.put, qD, qE, qF]; go_big_quiet_on)
   | (refine quiet_load_has 42 _ rfl rfl hfb f4 Tryz.underlying42 rfl ?_; simp only [Act.put, qD, qE, qF]; go_big_quiet_on)
   | (refine quiet_load_has 42 _ rfl rfl hfb f5 Tryz.underlying42 rfl ?_; simp only [Act.put, qD, qE, qF]; go_big_quiet_on)
   | (go_big_quiet_op; first | go_big_quiet_on | go_big_quiet_call (first | with_reducible exact fun _ => rfl | with_reducible exact ME.out _ | with_reducible exact CL.out _ | with_reducible exact CE.out _))))
 refine wpQuiet_nil ?_
 try clear w
 intro w h
 clear hfb hb4 ME CL
 go_wp2_with (first
  | (go_at_call 97; refine (SE.out _ h).mono ?_; clear h; rintro _ w ⟨rfl, h⟩)
  | (with_reducible show wpList _ _ _ ({ dst := _, op := Op.load 38 _, type := _, pos := _, after := _, guard := _ } :: _) _ _; refine wpList_load1_has h rfl 38 _ rfl rfl hb42 d2 Tryz.underlying38 rfl ?_)
  | ((go_at_call 93; refine (BK.out _ h).mono ?_; clear h; rintro _ w ⟨rfl, M3, lab3, h, hM3, hB3⟩)))
 go_end0
 exact ⟨rfl, M3, lab3, h, hM3, fun c o hc => hB3 c o (HK.out _ _ hc)⟩
end
section
open Go.RowKit
theorem row_r1 (f : FrameS) (v : Int) : f.row.setIfInBounds 3 (.int .u64 v) = (f.reg 1 v).row := rfl
theorem row_r2 (f : FrameS) (v : Int) : f.row.setIfInBounds 4 (.int .u64 v) = (f.reg 2 v).row := rfl
theorem ent_fld2 (a b c : Int) (w : World) : (Instr.field 167 (.agg #[.int .i64 a, .int .i64 b, .int .u64 c]) 2).run Tryz.prog w = .ok (.int .u64 c) w := by kernel_rfl
theorem ent_fld0 (a b c : Int) (w : World) : (Instr.field 167 (.agg #[.int .i64 a, .int .i64 b, .int .u64 c]) 0).run Tryz.prog w = .ok (.int .i64 a) w := by kernel_rfl
set_option maxHeartbeats 4000000 in
set_option maxRecDepth 20000 in
/-- All Cells were looked at. -/
theorem look_past {σ w : World} {K M : Mm} {lab : Nat → Nat} {p t q b : Nat} {s : MachS} {fs : List FrameS} {f : FrameS} (h : Has σ M w) (hT : AtTop K M lab p s t q b fs f) (hfs : fs.length < 1000000) {i B : Nat} (h1 : f.r 1 = (i : Int)) (hi : i < 9223372036854775808) (hB : s.c 11 = (B : Nat)) (hBi : B ≤ i) {z : Nat} (h3 : f.r 3 = (z : Int)) :
  Calls Tryz.prog 100 #[.agg (runC p t q b)] w fun r w' => r = .returned (.tuple #[]) ∧ ∃ M' lab', Has σ M' w' ∧ Mach M' lab' p (s.backed t [(z : Nat)]) ∧ Base K M' lab' := by
 have d0 : (runC p t q b)[0]? = some (.pointer (some ⟨p, 0, none⟩)) := rfl
 have d1 : (runC p t q b)[1]? = some (.int .i64 (t : Nat)) := rfl
 have d2 : (runC p t q b)[2]? = some (.pointer (some ⟨q, 0, none⟩)) := rfl
 have d3 : (runC p t q b)[3]? = some (.pointer (some ⟨b, 0, none⟩)) := rfl
 have dx : (runC p t q b).extract 0 (0 + 4) = runC p t q b := rfl
 have dz : (runC p t q b).size = 4 := rfl
 have f3 : f.row[3]? = some (.int .u64 (i : Nat)) := by rw [← h1]; rfl
 go_enter Tryz.func100, Tryz.ntmps100
 go_upto_region 1 with (fail)
 obtain ⟨M1, hbx, hle, hb4, hn⟩ := h.box (.cells (runC p t q b) 124)
 generalize w.alloc _ = wx at hbx ⊢
 generalize w.heap.size = b4 at hb4 hn ⊢
 clear h
 try clear w
 have h := hbx
 clear hbx
 obtain ⟨w, rfl⟩ : ∃ x : World, x = wx := ⟨_, rfl⟩
 obtain ⟨lab1, hT1⟩ := hT.more1 hle hn hb4
 have hnK : K b4 = none := by
  cases e : K b4 with
  | none => rfl
  | some o => have := (hT.base _ _ e).1; rw [hn] at this; cases this
 have hKK : K.le (K.upd b4 (.cells (runC p t q b) 124)) := Mm.le_upd' hnK _
 have hbK : (K.upd b4 (.cells (runC p t q b) 124)) b4 = some (.cells (runC p t q b) 124) := Mm.upd_same _ _ _
 have hfb := hT1.obj
 have PA := Lib.hid (fun (w : World) (h : Has σ M1 w) => lbPast_eq h hT1 hi hB)
 have f5 : f.row[5]? = some (.int .u64 (z : Nat)) := by rw [← h3]; rfl
 rw [decide_eq_true hBi] at PA
 have KE := hT1.base.le
 have BK : Hid (∀ w, Has σ M1 w → Calls Tryz.prog 93 #[.pointer (some ⟨q, 0, none⟩), .slice (some ⟨w.heap.size, 0, none⟩) 1 1] (w.alloc (.cells #[.int .u64 (z : Nat)] 42)) fun r w' => r = .returned (.tuple #[]) ∧ ∃ M' lab', Has σ M' w' ∧ Mach M' lab' p (s.backed t [(z : Nat)]) ∧ Base (K.upd b4 (.cells (runC p t q b) 124)) M' lab') := Lib.hid fun w h => by
  obtain ⟨M8, h8, hle8, hb8, hn8⟩ := h.box (.cells #[.int .u64 (z : Nat)] 42)
  exact back1_eq h8 hT1 hle8 hn8 hb8 hfs
 have HK := Lib.hid hKK
 clear hT hT1 hn hle hnK hKK hfs hB hBi hi h1 h3
 generalize K.upd b4 _ = K1 at *
 generalize runC p t q b = rc at *
 generalize f.row = fr0 at *
 go_upto_region 2 with (first
  | (with_reducible show wpList _ _ _ ({ dst := _, op := Op.load 70 _, type := _, pos := _, after := _, guard := _ } :: _) _ _; refine wpList_load1_has h rfl 70 _ rfl rfl hb4 d3 Tryz.underlying70 rfl ?_))
 refine wp_region_class (Has σ M1) (by kernel_rfl) (by kernel_rfl) h.drew ?_
 clear h
 repeat (first
  | go_big_quiet_skip
  | (go_big_quiet_want; first
   | (refine quiet_agg_has 124 _ rfl rfl hb4 dx dz Tryz.underlying124 rfl (by kernel_rfl) ?_; simp only [Act.put, qD, qE, qF]; go_big_quiet_on)
   | (refine quiet_load_has 42 _ rfl rfl hfb f3 Tryz.underlying42 rfl ?_; simp only [Act.put, qD, qE, qF]; go_big_quiet_on)
   | (go_big_quiet_op; first | go_big_quiet_on | go_big_quiet_call (first | with_reducible exact fun _ => rfl | with_reducible exact PA.out _))))
 refine wpQuiet_nil ?_
 try clear w
 intro w h
 go_upto_region 3 with (fail)
 refine wp_region_held_drew (S := Has σ (K1)) (by kernel_rfl) (h.drew.le KE) (fun hHeld => ?_)
 refine wpAnyH_take (i := 0) (v := ?_) rfl (by kernel_rfl) (by kernel_rfl) (by kernel_rfl) (fun _ _ _ h => h) (Or.inl ⟨by rfl, ?_⟩) hHeld ?_
 rotate_left
 ·(intro wz _; go_simp; try with_reducible rfl)
 try simp only [qA, qB, qC, Act.put, qD, qE, qF]
 refine wpAnyH_take (i := 1) (v := _) rfl (by kernel_rfl) (by kernel_rfl) (by kernel_rfl) (fun _ _ _ h => h) (yields_load1 rfl 38 _ rfl rfl hbK d2 Tryz.underlying38 rfl) hHeld ?_
 try simp only [qA, qB, qC, Act.put, qD, qE, qF]
 refine wpAnyH_take (i := 2) (v := ?_) rfl (by kernel_rfl) (by kernel_rfl) (by kernel_rfl) (fun _ _ _ h => h) (Or.inl ⟨by rfl, ?_⟩) hHeld ?_
 rotate_left
 ·(intro wz _; go_simp; try with_reducible rfl)
 try simp only [qA, qB, qC, Act.put, qD, qE, qF]
 refine wpAnyH_take (i := 3) (v := ?_) rfl (by kernel_rfl) (by kernel_rfl) (by kernel_rfl) (fun _ _ _ h => h) (Or.inl ⟨by rfl, ?_⟩) hHeld ?_
 rotate_left
 ·(intro wz _; go_simp; try with_reducible rfl)
 try simp only [qA, qB, qC, Act.put, qD, qE, qF]
 refine wpAnyH_take (i := 4) (v := ?_) rfl (by kernel_rfl) (by kernel_rfl) (by kernel_rfl) (fun _ _ _ h => h) (Or.inl ⟨by rfl, ?_⟩) hHeld ?_
 rotate_left
 ·(intro wz _; go_simp; try with_reducible rfl)
 try simp only [qA, qB, qC, Act.put, qD, qE, qF]
 refine wpAnyH_take (i := 5) (v := ?_) rfl (by kernel_rfl) (by kernel_rfl) (by kernel_rfl) (fun _ _ _ h => h) (Or.inl ⟨by rfl, ?_⟩) hHeld ?_
 rotate_left
 ·(intro wz _; go_simp; try with_reducible rfl)
 try simp only [qA, qB, qC, Act.put, qD, qE, qF]
 replace h := h.drew
 generalize w.drew = w1 at h hHeld ⊢
 clear w
 obtain ⟨w, rfl⟩ : ∃ q : World, q = w1 := ⟨_, rfl⟩
 refine wpAnyH_ready (rs := [6]) (by kernel_rfl) (by simp) ?_
 refine AllReadyH.cons rfl (fun K hK => ?_) AllReadyH.nil
 (refine step_yields rfl (yields_load1 rfl 42 _ rfl rfl hfb f5 Tryz.underlying42 rfl) h ?_)
 refine hK.out _ _ (hHeld) (fun hHeld => ?_)
 clear hK K
 try simp only [Act.put, qD, qE, qF]
 refine wpAnyH_ready (rs := [7]) (by kernel_rfl) (by simp) ?_
 refine AllReadyH.cons rfl (fun K hK => ?_) AllReadyH.nil
 go_simp
 refine hK.out _ _ ((h.quietAlloc _).le KE) (fun hHeld => ?_)
 clear hK K
 try simp only [Act.put, qD, qE, qF]
 refine wpAnyH_ready (rs := [8]) (by kernel_rfl) (by simp) ?_
 refine AllReadyH.cons rfl (fun K hK => ?_) AllReadyH.nil
 (go_simp; go_wp2_with (go_at_call 93; refine (BK.out _ h).mono ?_; clear h hHeld; rintro _ w ⟨rfl, M3, lab3, h, hM3, hB3⟩))
 refine hK.out _ _ (h.le hB3.le) (fun hHeld => ?_)
 clear hK K
 try simp only [Act.put, qD, qE, qF]
 refine wpAnyH_done (by kernel_rfl) ?_ _
 clear hHeld
 go_wp2
 exact bodyPost_ret (results_none rfl _ _ _) rfl ⟨rfl, M3, lab3, h, hM3, fun c o hc => hB3 c o (HK.out _ _ hc)⟩
set_option maxHeartbeats 4000000 in
set_option maxRecDepth 20000 in
/-- A Cell that is to be claimed. -/
theorem look_yes {σ w : World} {K M : Mm} {lab : Nat → Nat} {p t q b : Nat} {s : MachS} {fs : List FrameS} {f : FrameS} (h : Has σ M w) (hT : AtTop K M lab p s t q b fs f) {i B : Nat} (h1 : f.r 1 = (i : Int)) (hi : i < 9223372036854775808) (hB : s.c 11 = (B : Nat)) (hiB : i < B) {e v : Nat} (h0 : f.r 0 = (e : Int)) (he64 : e < 18446744073709551616) (hv64 : v < 18446744073709551616) {a : Int} (SP : SpotAt σ M p t 7 (i : Nat) 0 a) (hb1 : s.mem.acc < 1000000000) (hv : s.mem.load a = (v : Int)) (hk : kindN v = 2) (ho : oldB (cutN v 32 30) e = true) :
  Calls Tryz.prog 100 #[.agg (runC p t q b)] w fun r w' => r = .returned (.tuple #[]) ∧ ∃ M' lab', Has σ M' w' ∧ AtTop K M' lab' p (MachS.top { s with mem := s.mem.at_ a } t fs ((f.reg 2 (v : Nat)).goto 2)) t q b fs ((f.reg 2 (v : Nat)).goto 2) := by
 have d0 : (runC p t q b)[0]? = some (.pointer (some ⟨p, 0, none⟩)) := rfl
 have d1 : (runC p t q b)[1]? = some (.int .i64 (t : Nat)) := rfl
 have d2 : (runC p t q b)[2]? = some (.pointer (some ⟨q, 0, none⟩)) := rfl
 have d3 : (runC p t q b)[3]? = some (.pointer (some ⟨b, 0, none⟩)) := rfl
 have dx : (runC p t q b).extract 0 (0 + 4) = runC p t q b := rfl
 have dz : (runC p t q b).size = 4 := rfl
 have f3 : f.row[3]? = some (.int .u64 (i : Nat)) := by rw [← h1]; rfl
 go_enter Tryz.func100, Tryz.ntmps100
 go_upto_region 1 with (fail)
 obtain ⟨M1, hbx, hle, hb4, hn⟩ := h.box (.cells (runC p t q b) 124)
 generalize w.alloc _ = wx at hbx ⊢
 generalize w.heap.size = b4 at hb4 hn ⊢
 clear h
 try clear w
 have h := hbx
 clear hbx
 obtain ⟨w, rfl⟩ : ∃ x : World, x = wx := ⟨_, rfl⟩
 obtain ⟨lab1, hT1⟩ := hT.more1 hle hn hb4
 have hnK : K b4 = none := by
  cases e : K b4 with
  | none => rfl
  | some o => have := (hT.base _ _ e).1; rw [hn] at this; cases this
 have hKK : K.le (K.upd b4 (.cells (runC p t q b) 124)) := Mm.le_upd' hnK _
 have hbK : (K.upd b4 (.cells (runC p t q b) 124)) b4 = some (.cells (runC p t q b) 124) := Mm.upd_same _ _ _
 have hfb := hT1.obj
 have PA := Lib.hid (fun (w : World) (h : Has σ M1 w) => lbPast_eq h hT1 hi hB)
 have f2 : f.row[2]? = some (.int .u64 (e : Nat)) := by rw [← h0]; rfl
 rw [decide_eq_false (show ¬ B ≤ i by omega)] at PA
 have ME := Lib.hid (fun (w : World) (h : Has σ M1 w) => mMem_eq h hT1.mach)
 have CL := Lib.hid (fun (w : World) (h : Has σ M1 w) => lbCell_eq (q := q) (b := b) h hi (SP.le hle))
 have LD := Lib.hid (fun (w : World) (h : Has σ M1 w) => memLoad_eq h hT1.mach.mem hb1 a)
 rw [hv] at LD
 have KL := hT1.base.le
 have hT2 := hT1.load a
 have KE := hT2.base.le
 obtain ⟨hfb2, hT3⟩ := hT2.frame (f.reg 2 (v : Nat))
 have KS := hT3.base.le
 have hsz : 4 < f.row.size := show 4 < 18 by omega
 have R1 := Lib.hid (row_r2 f (v : Nat))
 have g2 : (f.reg 2 (v : Nat)).row[2]? = some (.int .u64 (e : Nat)) := f2
 have g3 : (f.reg 2 (v : Nat)).row[3]? = some (.int .u64 (i : Nat)) := f3
 have g4 : (f.reg 2 (v : Nat)).row[4]? = some (.int .u64 (v : Nat)) := rfl
 have KD := Lib.hid (fun (M' : Mm) (w : World) (h : Has σ M' w) => (handleKind_any v hv64 w).mono fun r w' (hq : r = .returned (.int .i64 (kindN v : Nat)) ∧ w = w') => (⟨hq.1, hq.2 ▸ h⟩ : r = .returned (.int .i64 (kindN v : Nat)) ∧ Has σ M' w'))
 have WT := Lib.hid (fun (M' : Mm) (w : World) (h : Has σ M' w) => handleWhat_eq h v hv64)
 have OD := Lib.hid (fun (M' : Mm) (w : World) (h : Has σ M' w) => (handleOld_any (cutN v 32 30) e he64 w).mono fun r w' (hq : r = .returned (.bool (oldB (cutN v 32 30) e)) ∧ w = w') => (⟨hq.1, hq.2 ▸ h⟩ : r = .returned (.bool (oldB (cutN v 32 30) e)) ∧ Has σ M' w'))
 obtain ⟨_, hT4⟩ := hT3.frame ((f.reg 2 (v : Nat)).goto 2)
 rw [MachS.top_top, Mm.upd_upd] at hT4
 have HT := Lib.hid (hT4.less hKK)
 have hsz3 : 1 < (f.reg 2 (v : Nat)).row.size := show 1 < 18 by omega
 have R2 := Lib.hid (row_at (f.reg 2 (v : Nat)) 2)
 unfold whatV at WT
 rw [hk] at KD WT
 rw [if_pos rfl] at WT
 rw [ho] at OD
 clear hv hT hT1 hT2 hT3 hT4 SP hb1 hn hle hnK hKK hB hiB hi h0 h1 he64 hv64 hk ho
 generalize cutN v 0 8 = c1 at *
 generalize cutN v 8 24 = c2 at *
 generalize cutN v 32 30 = c3 at *
 generalize hr2 : ((f.reg 2 (v : Nat)).goto 2).row = fr2 at *
 clear hr2
 generalize K.upd b4 _ = K1 at KL KE KS hbK
 generalize runC p t q b = rc at *
 generalize hr0 : f.row = fr0 at *
 generalize hr1 : (f.reg 2 (v : Nat)).row = fr1 at *
 clear hr0 hr1
 generalize M1.upd s.mp _ = M2 at *
 go_upto_region 2 with (first
  | (with_reducible show wpList _ _ _ ({ dst := _, op := Op.load 70 _, type := _, pos := _, after := _, guard := _ } :: _) _ _; refine wpList_load1_has h rfl 70 _ rfl rfl hb4 d3 Tryz.underlying70 rfl ?_))
 refine wp_region_class (Has σ M1) (by kernel_rfl) (by kernel_rfl) h.drew ?_
 clear h
 repeat (first
  | go_big_quiet_skip
  | (go_big_quiet_want; first
   | (refine quiet_agg_has 124 _ rfl rfl hb4 dx dz Tryz.underlying124 rfl (by kernel_rfl) ?_; simp only [Act.put, qD, qE, qF]; go_big_quiet_on)
   | (refine quiet_load_has 42 _ rfl rfl hfb f3 Tryz.underlying42 rfl ?_; simp only [Act.put, qD, qE, qF]; go_big_quiet_on)
   | (go_big_quiet_op; first | go_big_quiet_on | go_big_quiet_call (first | with_reducible exact fun _ => rfl | with_reducible exact PA.out _))))
 refine wpQuiet_nil ?_
 try clear w
 intro w h
 go_upto_region 4 with (fail)
 go_cut [] from 3 to 69 (fun wx => Has σ (M2.upd b (.cells fr1 69)) wx)
 case first =>
  refine wp_region_held_drew (S := Has σ (K1)) (by kernel_rfl) (h.drew.le KL) (fun hHeld => ?_)
  refine wpAnyH_take (i := 0) (v := ?_) rfl (by kernel_rfl) (by kernel_rfl) (by kernel_rfl) (fun _ _ _ h => h) (Or.inl ⟨by rfl, ?_⟩) hHeld ?_
  rotate_left
  ·(intro wz _; go_simp; try with_reducible rfl)
  try simp only [qA, qB, qC, Act.put, qD, qE, qF]
  refine wpAnyH_take (i := 1) (v := ?_) rfl (by kernel_rfl) (by kernel_rfl) (by kernel_rfl) (fun _ _ _ h => h) (Or.inl ⟨by rfl, ?_⟩) hHeld ?_
  rotate_left
  ·(intro wz _; go_simp; try with_reducible rfl)
  try simp only [qA, qB, qC, Act.put, qD, qE, qF]
  refine wpAnyH_take (i := 2) (v := _) rfl (by kernel_rfl) (by kernel_rfl) (by kernel_rfl) (fun _ _ _ h => h) (yields_load1 rfl 26 _ rfl rfl hbK d0 Tryz.underlying26 rfl) hHeld ?_
  try simp only [qA, qB, qC, Act.put, qD, qE, qF]
  refine wpAnyH_take (i := 4) (v := _) rfl (by kernel_rfl) (by kernel_rfl) (by kernel_rfl) (fun _ _ _ h => h) (yields_agg rfl 124 _ rfl rfl hbK dx dz Tryz.underlying124 rfl (by kernel_rfl)) hHeld ?_
  try simp only [qA, qB, qC, Act.put, qD, qE, qF]
  refine wpAnyH_take (i := 5) (v := ?_) rfl (by kernel_rfl) (by kernel_rfl) (by kernel_rfl) (fun _ _ _ h => h) (Or.inl ⟨by rfl, ?_⟩) hHeld ?_
  rotate_left
  ·(intro wz _; go_simp; try with_reducible rfl)
  try simp only [qA, qB, qC, Act.put, qD, qE, qF]
  refine wpAnyH_take (i := 6) (v := ?_) rfl (by kernel_rfl) (by kernel_rfl) (by kernel_rfl) (fun _ _ _ h => h) (Or.inl ⟨by rfl, ?_⟩) hHeld ?_
  rotate_left
  ·(intro wz _; go_simp; try with_reducible rfl)
  try simp only [qA, qB, qC, Act.put, qD, qE, qF]
  refine wpAnyH_take (i := 7) (v := ?_) rfl (by kernel_rfl) (by kernel_rfl) (by kernel_rfl) (fun _ _ _ h => h) (Or.inl ⟨by rfl, ?_⟩) hHeld ?_
  rotate_left
  ·(intro wz _; go_simp; try with_reducible rfl)
  try simp only [qA, qB, qC, Act.put, qD, qE, qF]
  refine wpAnyH_take (i := 8) (v := ?_) rfl (by kernel_rfl) (by kernel_rfl) (by kernel_rfl) (fun _ _ _ h => h) (Or.inl ⟨by rfl, ?_⟩) hHeld ?_
  rotate_left
  ·(intro wz _; go_simp; try with_reducible rfl)
  try simp only [qA, qB, qC, Act.put, qD, qE, qF]
  refine wpAnyH_take (i := 12) (v := ?_) rfl (by kernel_rfl) (by kernel_rfl) (by kernel_rfl) (fun _ _ _ h => h) (Or.inl ⟨by rfl, ?_⟩) hHeld ?_
  rotate_left
  ·(intro wz _; go_simp; try with_reducible rfl)
  try simp only [qA, qB, qC, Act.put, qD, qE, qF]
  refine wpAnyH_take (i := 13) (v := ?_) rfl (by kernel_rfl) (by kernel_rfl) (by kernel_rfl) (fun _ _ _ h => h) (Or.inl ⟨by rfl, ?_⟩) hHeld ?_
  rotate_left
  ·(intro wz _; go_simp; try with_reducible rfl)
  try simp only [qA, qB, qC, Act.put, qD, qE, qF]
  replace h := h.drew
  generalize w.drew = w1 at h hHeld ⊢
  clear w
  obtain ⟨w, rfl⟩ : ∃ q : World, q = w1 := ⟨_, rfl⟩
  refine wpAnyH_ready (rs := [3, 9]) (by kernel_rfl) (by simp) ?_
  refine AllReadyH.cons rfl (fun K hK => ?_) (AllReadyH.cons rfl (fun K hK => ?_) AllReadyH.nil)
  ·skip
   (go_simp; go_wp2_with (go_at_call 46; refine (ME.out _ h).mono ?_; clear h; rintro _ w ⟨rfl, h⟩))
   refine hK.out _ _ (h.le KL) (fun hHeld => ?_)
   clear hK K
   try simp only [Act.put, qD, qE, qF]
   refine wpAnyH_ready (rs := [9]) (by kernel_rfl) (by simp) ?_
   refine AllReadyH.cons rfl (fun K hK => ?_) AllReadyH.nil
   (refine step_yields rfl (yields_load1 rfl 42 _ rfl rfl hfb f3 Tryz.underlying42 rfl) h ?_)
   refine hK.out _ _ (hHeld) (fun hHeld => ?_)
   clear hK K
   try simp only [Act.put, qD, qE, qF]
   refine wpAnyH_ready (rs := [10]) (by kernel_rfl) (by simp) ?_
   refine AllReadyH.cons rfl (fun K hK => ?_) AllReadyH.nil
   (go_simp; go_wp2_with (go_at_call 95; refine (CL.out _ h).mono ?_; clear h; rintro _ w ⟨rfl, h⟩))
   refine hK.out _ _ (h.le KL) (fun hHeld => ?_)
   clear hK K
   try simp only [Act.put, qD, qE, qF]
   refine wpAnyH_ready (rs := [11]) (by kernel_rfl) (by simp) ?_
   refine AllReadyH.cons rfl (fun K hK => ?_) AllReadyH.nil
   (go_simp; go_wp2_with (go_at_call 94; refine (LD.out _ h).mono ?_; clear h; rintro _ w ⟨rfl, h⟩))
   refine hK.out _ _ (h.le KE) (fun hHeld => ?_)
   clear hK K
   try simp only [Act.put, qD, qE, qF]
   refine wpAnyH_take (i := 14) (v := ?_) rfl (by kernel_rfl) (by kernel_rfl) (by kernel_rfl) (fun _ _ _ h => h) (Or.inl ⟨by rfl, ?_⟩) hHeld ?_
   rotate_left
   ·(intro wz _; go_simp; try with_reducible rfl)
   try simp only [qA, qB, qC, Act.put, qD, qE, qF]
   refine wpAnyH_ready (rs := [15]) (by kernel_rfl) (by simp) ?_
   refine AllReadyH.cons rfl (fun K hK => ?_) AllReadyH.nil
   (refine step_store1 (v := .int .u64 (v : Nat)) h rfl 42 _ _ rfl rfl rfl hfb2 hsz rfl rfl (by kernel_rfl) ?_; clear h; intro w h; rw [R1.out] at h)
   refine hK.out _ _ (h.le KS) (fun hHeld => ?_)
   clear hK K
   try simp only [Act.put, qD, qE, qF]
   refine wpAnyH_done (by kernel_rfl) ?_ _
   have hEnd := h
   go_wp2
   all_goals (go_meet; (case rel => exact hEnd))
  ·skip
   refine step_yields rfl (yields_load1 rfl 42 _ rfl rfl hfb f3 Tryz.underlying42 rfl) h ?_
   refine hK.out _ _ hHeld (fun hHeld => ?_)
   clear hK K
   simp only [Act.put, qD, qE, qF]
   refine wpAnyH_ready (rs := [3]) (by kernel_rfl) (by simp) ?_
   refine AllReadyH.cons rfl (fun K hK => ?_) AllReadyH.nil
   (go_simp; go_wp2_with (go_at_call 46; refine (ME.out _ h).mono ?_; clear h; rintro _ w ⟨rfl, h⟩))
   refine hK.out _ _ (h.le KL) (fun hHeld => ?_)
   clear hK K
   try simp only [Act.put, qD, qE, qF]
   refine wpAnyH_ready (rs := [10]) (by kernel_rfl) (by simp) ?_
   refine AllReadyH.cons rfl (fun K hK => ?_) AllReadyH.nil
   (go_simp; go_wp2_with (go_at_call 95; refine (CL.out _ h).mono ?_; clear h; rintro _ w ⟨rfl, h⟩))
   refine hK.out _ _ (h.le KL) (fun hHeld => ?_)
   clear hK K
   try simp only [Act.put, qD, qE, qF]
   refine wpAnyH_ready (rs := [11]) (by kernel_rfl) (by simp) ?_
   refine AllReadyH.cons rfl (fun K hK => ?_) AllReadyH.nil
   (go_simp; go_wp2_with (go_at_call 94; refine (LD.out _ h).mono ?_; clear h; rintro _ w ⟨rfl, h⟩))
   refine hK.out _ _ (h.le KE) (fun hHeld => ?_)
   clear hK K
   try simp only [Act.put, qD, qE, qF]
   refine wpAnyH_take (i := 14) (v := ?_) rfl (by kernel_rfl) (by kernel_rfl) (by kernel_rfl) (fun _ _ _ h => h) (Or.inl ⟨by rfl, ?_⟩) hHeld ?_
   rotate_left
   ·(intro wz _; go_simp; try with_reducible rfl)
   try simp only [qA, qB, qC, Act.put, qD, qE, qF]
   refine wpAnyH_ready (rs := [15]) (by kernel_rfl) (by simp) ?_
   refine AllReadyH.cons rfl (fun K hK => ?_) AllReadyH.nil
   (refine step_store1 (v := .int .u64 (v : Nat)) h rfl 42 _ _ rfl rfl rfl hfb2 hsz rfl rfl (by kernel_rfl) ?_; clear h; intro w h; rw [R1.out] at h)
   refine hK.out _ _ (h.le KS) (fun hHeld => ?_)
   clear hK K
   try simp only [Act.put, qD, qE, qF]
   refine wpAnyH_done (by kernel_rfl) ?_ _
   have hEnd := h
   go_wp2
   all_goals (go_meet; (case rel => exact hEnd))
 case rest =>
  clear h hb4 hfb f2 f3 PA ME CL LD KL KE KS hsz R1 hfb2
  obtain ⟨w, rfl⟩ : ∃ q : World, q = wc := ⟨_, rfl⟩
  have h := hcut
  clear hcut
  have hfb3 : (M2.upd b (.cells fr1 69)) b = some (.cells fr1 69) := Mm.upd_same _ _ _
  have KD3 := Lib.hid (fun (w : World) (h : Has σ (M2.upd b (.cells fr1 69)) w) => KD.out _ w h)
  have WT3 := Lib.hid (fun (w : World) (h : Has σ (M2.upd b (.cells fr1 69)) w) => WT.out _ w h)
  have OD3 := Lib.hid (fun (w : World) (h : Has σ (M2.upd b (.cells fr1 69)) w) => OD.out _ w h)
  generalize hM3 : M2.upd b (.cells fr1 69) = M3 at h hfb3 KD3 WT3 OD3
  have FD := ent_fld2 (c1 : Nat) (c2 : Nat) (c3 : Nat)
  go_upto_region 5 with (fail)
  refine wp_region_class (Has σ M3) (by kernel_rfl) (by kernel_rfl) h.drew ?_
  clear h
  repeat (first
   | go_big_quiet_skip
   | (go_big_quiet_want; first
    | (refine quiet_load_has 42 _ rfl rfl hfb3 g4 Tryz.underlying42 rfl ?_; simp only [Act.put, qD, qE, qF]; go_big_quiet_on)
    | (refine quiet_load_has 42 _ rfl rfl hfb3 g2 Tryz.underlying42 rfl ?_; simp only [Act.put, qD, qE, qF]; go_big_quiet_on)
    | (go_big_quiet_op; first | go_big_quiet_on | go_big_quiet_call (first | with_reducible exact fun _ => rfl | with_reducible exact KD3.out _ | with_reducible exact WT3.out _ | with_reducible exact OD3.out _))))
  refine wpQuiet_nil ?_
  try clear w
  intro w h
  go_wp2_with (first
   | (with_reducible show wpList _ _ _ ({ dst := _, op := Op.store 3 _ _, type := _, pos := _, after := _, guard := _ } :: _) _ _; refine wpList_store1_has h rfl 3 _ _ rfl rfl rfl hfb3 hsz3 rfl (by kernel_rfl) ?_; clear h; intro w h))
  refine bodyPost_ret (results_none rfl _ _ _) rfl ⟨rfl, _, _, ?_, HT.out⟩
  have h9 : Has σ (M2.upd b (.cells (fr1.setIfInBounds 1 (.int .i64 2)) 69)) w := by rw [← hM3, Mm.upd_upd] at h; exact h
  rw [R2.out] at h9
  exact h9
set_option maxHeartbeats 4000000 in
set_option maxRecDepth 20000 in
/-- A Cell that isn't. -/
theorem look_no {σ w : World} {K M : Mm} {lab : Nat → Nat} {p t q b : Nat} {s : MachS} {fs : List FrameS} {f : FrameS} (h : Has σ M w) (hT : AtTop K M lab p s t q b fs f) {i B : Nat} (h1 : f.r 1 = (i : Int)) (hi : i < 9223372036854775808) (hB : s.c 11 = (B : Nat)) (hiB : i < B) {e v : Nat} (h0 : f.r 0 = (e : Int)) (he64 : e < 18446744073709551616) (hv64 : v < 18446744073709551616) {a : Int} (SP : SpotAt σ M p t 7 (i : Nat) 0 a) (hb1 : s.mem.acc < 1000000000) (hv : s.mem.load a = (v : Int)) (hko : kindN v ≠ 2 ∨ (kindN v = 2 ∧ oldB (cutN v 32 30) e = false)) :
  Calls Tryz.prog 100 #[.agg (runC p t q b)] w fun r w' => r = .returned (.tuple #[]) ∧ ∃ M' lab', Has σ M' w' ∧ AtTop K M' lab' p (MachS.top { s with mem := s.mem.at_ a } t fs ((f.reg 2 (v : Nat)).reg 1 (i + 1 : Nat))) t q b fs ((f.reg 2 (v : Nat)).reg 1 (i + 1 : Nat)) := by
 have wi : IntKind.u64.wrap ((i : Int) + 1) = ((i + 1 : Nat) : Int) := by rw [show (i : Int) + 1 = ((i + 1 : Nat) : Int) by omega]; exact IntWalk.u64_in _ (by omega)
 have d0 : (runC p t q b)[0]? = some (.pointer (some ⟨p, 0, none⟩)) := rfl
 have d1 : (runC p t q b)[1]? = some (.int .i64 (t : Nat)) := rfl
 have d2 : (runC p t q b)[2]? = some (.pointer (some ⟨q, 0, none⟩)) := rfl
 have d3 : (runC p t q b)[3]? = some (.pointer (some ⟨b, 0, none⟩)) := rfl
 have dx : (runC p t q b).extract 0 (0 + 4) = runC p t q b := rfl
 have dz : (runC p t q b).size = 4 := rfl
 have f3 : f.row[3]? = some (.int .u64 (i : Nat)) := by rw [← h1]; rfl
 go_enter Tryz.func100, Tryz.ntmps100
 go_upto_region 1 with (fail)
 obtain ⟨M1, hbx, hle, hb4, hn⟩ := h.box (.cells (runC p t q b) 124)
 generalize w.alloc _ = wx at hbx ⊢
 generalize w.heap.size = b4 at hb4 hn ⊢
 clear h
 try clear w
 have h := hbx
 clear hbx
 obtain ⟨w, rfl⟩ : ∃ x : World, x = wx := ⟨_, rfl⟩
 obtain ⟨lab1, hT1⟩ := hT.more1 hle hn hb4
 have hnK : K b4 = none := by
  cases e : K b4 with
  | none => rfl
  | some o => have := (hT.base _ _ e).1; rw [hn] at this; cases this
 have hKK : K.le (K.upd b4 (.cells (runC p t q b) 124)) := Mm.le_upd' hnK _
 have hbK : (K.upd b4 (.cells (runC p t q b) 124)) b4 = some (.cells (runC p t q b) 124) := Mm.upd_same _ _ _
 have hfb := hT1.obj
 have PA := Lib.hid (fun (w : World) (h : Has σ M1 w) => lbPast_eq h hT1 hi hB)
 have f2 : f.row[2]? = some (.int .u64 (e : Nat)) := by rw [← h0]; rfl
 rw [decide_eq_false (show ¬ B ≤ i by omega)] at PA
 have ME := Lib.hid (fun (w : World) (h : Has σ M1 w) => mMem_eq h hT1.mach)
 have CL := Lib.hid (fun (w : World) (h : Has σ M1 w) => lbCell_eq (q := q) (b := b) h hi (SP.le hle))
 have LD := Lib.hid (fun (w : World) (h : Has σ M1 w) => memLoad_eq h hT1.mach.mem hb1 a)
 rw [hv] at LD
 have KL := hT1.base.le
 have hT2 := hT1.load a
 have KE := hT2.base.le
 obtain ⟨hfb2, hT3⟩ := hT2.frame (f.reg 2 (v : Nat))
 have KS := hT3.base.le
 have hsz : 4 < f.row.size := show 4 < 18 by omega
 have R1 := Lib.hid (row_r2 f (v : Nat))
 have g2 : (f.reg 2 (v : Nat)).row[2]? = some (.int .u64 (e : Nat)) := f2
 have g3 : (f.reg 2 (v : Nat)).row[3]? = some (.int .u64 (i : Nat)) := f3
 have g4 : (f.reg 2 (v : Nat)).row[4]? = some (.int .u64 (v : Nat)) := rfl
 have KD := Lib.hid (fun (M' : Mm) (w : World) (h : Has σ M' w) => (handleKind_any v hv64 w).mono fun r w' (hq : r = .returned (.int .i64 (kindN v : Nat)) ∧ w = w') => (⟨hq.1, hq.2 ▸ h⟩ : r = .returned (.int .i64 (kindN v : Nat)) ∧ Has σ M' w'))
 have WT := Lib.hid (fun (M' : Mm) (w : World) (h : Has σ M' w) => handleWhat_eq h v hv64)
 have OD := Lib.hid (fun (M' : Mm) (w : World) (h : Has σ M' w) => (handleOld_any (cutN v 32 30) e he64 w).mono fun r w' (hq : r = .returned (.bool (oldB (cutN v 32 30) e)) ∧ w = w') => (⟨hq.1, hq.2 ▸ h⟩ : r = .returned (.bool (oldB (cutN v 32 30) e)) ∧ Has σ M' w'))
 obtain ⟨_, hT4⟩ := hT3.frame ((f.reg 2 (v : Nat)).reg 1 (i + 1 : Nat))
 rw [MachS.top_top, Mm.upd_upd] at hT4
 have HT := Lib.hid (hT4.less hKK)
 have hsz3 : 3 < (f.reg 2 (v : Nat)).row.size := show 3 < 18 by omega
 have R2 := Lib.hid (row_r1 (f.reg 2 (v : Nat)) (i + 1 : Nat))
 obtain ⟨k, hk⟩ : ∃ k, kindN v = k := ⟨_, rfl⟩
 unfold whatV at WT
 rw [hk] at KD WT hko
 have HKO := Lib.hid hko
 clear hv hT hT1 hT2 hT3 hT4 SP hb1 hn hle hnK hKK hB hiB hi h0 h1 he64 hv64 hk hko
 generalize cutN v 0 8 = c1 at *
 generalize cutN v 8 24 = c2 at *
 generalize cutN v 32 30 = c3 at *
 generalize hr2 : ((f.reg 2 (v : Nat)).reg 1 (i + 1 : Nat)).row = fr2 at *
 clear hr2
 generalize K.upd b4 _ = K1 at KL KE KS hbK
 generalize runC p t q b = rc at *
 generalize hr0 : f.row = fr0 at *
 generalize hr1 : (f.reg 2 (v : Nat)).row = fr1 at *
 clear hr0 hr1
 generalize M1.upd s.mp _ = M2 at *
 go_upto_region 2 with (first
  | (with_reducible show wpList _ _ _ ({ dst := _, op := Op.load 70 _, type := _, pos := _, after := _, guard := _ } :: _) _ _; refine wpList_load1_has h rfl 70 _ rfl rfl hb4 d3 Tryz.underlying70 rfl ?_))
 refine wp_region_class (Has σ M1) (by kernel_rfl) (by kernel_rfl) h.drew ?_
 clear h
 repeat (first
  | go_big_quiet_skip
  | (go_big_quiet_want; first
   | (refine quiet_agg_has 124 _ rfl rfl hb4 dx dz Tryz.underlying124 rfl (by kernel_rfl) ?_; simp only [Act.put, qD, qE, qF]; go_big_quiet_on)
   | (refine quiet_load_has 42 _ rfl rfl hfb f3 Tryz.underlying42 rfl ?_; simp only [Act.put, qD, qE, qF]; go_big_quiet_on)
   | (go_big_quiet_op; first | go_big_quiet_on | go_big_quiet_call (first | with_reducible exact fun _ => rfl | with_reducible exact PA.out _))))
 refine wpQuiet_nil ?_
 try clear w
 intro w h
 go_upto_region 4 with (fail)
 go_cut [] from 3 to 69 (fun wx => Has σ (M2.upd b (.cells fr1 69)) wx)
 case first =>
  refine wp_region_held_drew (S := Has σ (K1)) (by kernel_rfl) (h.drew.le KL) (fun hHeld => ?_)
  refine wpAnyH_take (i := 0) (v := ?_) rfl (by kernel_rfl) (by kernel_rfl) (by kernel_rfl) (fun _ _ _ h => h) (Or.inl ⟨by rfl, ?_⟩) hHeld ?_
  rotate_left
  ·(intro wz _; go_simp; try with_reducible rfl)
  try simp only [qA, qB, qC, Act.put, qD, qE, qF]
  refine wpAnyH_take (i := 1) (v := ?_) rfl (by kernel_rfl) (by kernel_rfl) (by kernel_rfl) (fun _ _ _ h => h) (Or.inl ⟨by rfl, ?_⟩) hHeld ?_
  rotate_left
  ·(intro wz _; go_simp; try with_reducible rfl)
  try simp only [qA, qB, qC, Act.put, qD, qE, qF]
  refine wpAnyH_take (i := 2) (v := _) rfl (by kernel_rfl) (by kernel_rfl) (by kernel_rfl) (fun _ _ _ h => h) (yields_load1 rfl 26 _ rfl rfl hbK d0 Tryz.underlying26 rfl) hHeld ?_
  try simp only [qA, qB, qC, Act.put, qD, qE, qF]
  refine wpAnyH_take (i := 4) (v := _) rfl (by kernel_rfl) (by kernel_rfl) (by kernel_rfl) (fun _ _ _ h => h) (yields_agg rfl 124 _ rfl rfl hbK dx dz Tryz.underlying124 rfl (by kernel_rfl)) hHeld ?_
  try simp only [qA, qB, qC, Act.put, qD, qE, qF]
  refine wpAnyH_take (i := 5) (v := ?_) rfl (by kernel_rfl) (by kernel_rfl) (by kernel_rfl) (fun _ _ _ h => h) (Or.inl ⟨by rfl, ?_⟩) hHeld ?_
  rotate_left
  ·(intro wz _; go_simp; try with_reducible rfl)
  try simp only [qA, qB, qC, Act.put, qD, qE, qF]
  refine wpAnyH_take (i := 6) (v := ?_) rfl (by kernel_rfl) (by kernel_rfl) (by kernel_rfl) (fun _ _ _ h => h) (Or.inl ⟨by rfl, ?_⟩) hHeld ?_
  rotate_left
  ·(intro wz _; go_simp; try with_reducible rfl)
  try simp only [qA, qB, qC, Act.put, qD, qE, qF]
  refine wpAnyH_take (i := 7) (v := ?_) rfl (by kernel_rfl) (by kernel_rfl) (by kernel_rfl) (fun _ _ _ h => h) (Or.inl ⟨by rfl, ?_⟩) hHeld ?_
  rotate_left
  ·(intro wz _; go_simp; try with_reducible rfl)
  try simp only [qA, qB, qC, Act.put, qD, qE, qF]
  refine wpAnyH_take (i := 8) (v := ?_) rfl (by kernel_rfl) (by kernel_rfl) (by kernel_rfl) (fun _ _ _ h => h) (Or.inl ⟨by rfl, ?_⟩) hHeld ?_
  rotate_left
  ·(intro wz _; go_simp; try with_reducible rfl)
  try simp only [qA, qB, qC, Act.put, qD, qE, qF]
  refine wpAnyH_take (i := 12) (v := ?_) rfl (by kernel_rfl) (by kernel_rfl) (by kernel_rfl) (fun _ _ _ h => h) (Or.inl ⟨by rfl, ?_⟩) hHeld ?_
  rotate_left
  ·(intro wz _; go_simp; try with_reducible rfl)
  try simp only [qA, qB, qC, Act.put, qD, qE, qF]
  refine wpAnyH_take (i := 13) (v := ?_) rfl (by kernel_rfl) (by kernel_rfl) (by kernel_rfl) (fun _ _ _ h => h) (Or.inl ⟨by rfl, ?_⟩) hHeld ?_
  rotate_left
  ·(intro wz _; go_simp; try with_reducible rfl)
  try simp only [qA, qB, qC, Act.put, qD, qE, qF]
  replace h := h.drew
  generalize w.drew = w1 at h hHeld ⊢
  clear w
  obtain ⟨w, rfl⟩ : ∃ q : World, q = w1 := ⟨_, rfl⟩
  refine wpAnyH_ready (rs := [3, 9]) (by kernel_rfl) (by simp) ?_
  refine AllReadyH.cons rfl (fun K hK => ?_) (AllReadyH.cons rfl (fun K hK => ?_) AllReadyH.nil)
  ·skip
   (go_simp; go_wp2_with (go_at_call 46; refine (ME.out _ h).mono ?_; clear h; rintro _ w ⟨rfl, h⟩))
   refine hK.out _ _ (h.le KL) (fun hHeld => ?_)
   clear hK K
   try simp only [Act.put, qD, qE, qF]
   refine wpAnyH_ready (rs := [9]) (by kernel_rfl) (by simp) ?_
   refine AllReadyH.cons rfl (fun K hK => ?_) AllReadyH.nil
   (refine step_yields rfl (yields_load1 rfl 42 _ rfl rfl hfb f3 Tryz.underlying42 rfl) h ?_)
   refine hK.out _ _ (hHeld) (fun hHeld => ?_)
   clear hK K
   try simp only [Act.put, qD, qE, qF]
   refine wpAnyH_ready (rs := [10]) (by kernel_rfl) (by simp) ?_
   refine AllReadyH.cons rfl (fun K hK => ?_) AllReadyH.nil
   (go_simp; go_wp2_with (go_at_call 95; refine (CL.out _ h).mono ?_; clear h; rintro _ w ⟨rfl, h⟩))
   refine hK.out _ _ (h.le KL) (fun hHeld => ?_)
   clear hK K
   try simp only [Act.put, qD, qE, qF]
   refine wpAnyH_ready (rs := [11]) (by kernel_rfl) (by simp) ?_
   refine AllReadyH.cons rfl (fun K hK => ?_) AllReadyH.nil
   (go_simp; go_wp2_with (go_at_call 94; refine (LD.out _ h).mono ?_; clear h; rintro _ w ⟨rfl, h⟩))
   refine hK.out _ _ (h.le KE) (fun hHeld => ?_)
   clear hK K
   try simp only [Act.put, qD, qE, qF]
   refine wpAnyH_take (i := 14) (v := ?_) rfl (by kernel_rfl) (by kernel_rfl) (by kernel_rfl) (fun _ _ _ h => h) (Or.inl ⟨by rfl, ?_⟩) hHeld ?_
   rotate_left
   ·(intro wz _; go_simp; try with_reducible rfl)
   try simp only [qA, qB, qC, Act.put, qD, qE, qF]
   refine wpAnyH_ready (rs := [15]) (by kernel_rfl) (by simp) ?_
   refine AllReadyH.cons rfl (fun K hK => ?_) AllReadyH.nil
   (refine step_store1 (v := .int .u64 (v : Nat)) h rfl 42 _ _ rfl rfl rfl hfb2 hsz rfl rfl (by kernel_rfl) ?_; clear h; intro w h; rw [R1.out] at h)
   refine hK.out _ _ (h.le KS) (fun hHeld => ?_)
   clear hK K
   try simp only [Act.put, qD, qE, qF]
   refine wpAnyH_done (by kernel_rfl) ?_ _
   have hEnd := h
   go_wp2
   all_goals (go_meet; (case rel => exact hEnd))
  ·skip
   refine step_yields rfl (yields_load1 rfl 42 _ rfl rfl hfb f3 Tryz.underlying42 rfl) h ?_
   refine hK.out _ _ hHeld (fun hHeld => ?_)
   clear hK K
   simp only [Act.put, qD, qE, qF]
   refine wpAnyH_ready (rs := [3]) (by kernel_rfl) (by simp) ?_
   refine AllReadyH.cons rfl (fun K hK => ?_) AllReadyH.nil
   (go_simp; go_wp2_with (go_at_call 46; refine (ME.out _ h).mono ?_; clear h; rintro _ w ⟨rfl, h⟩))
   refine hK.out _ _ (h.le KL) (fun hHeld => ?_)
   clear hK K
   try simp only [Act.put, qD, qE, qF]
   refine wpAnyH_ready (rs := [10]) (by kernel_rfl) (by simp) ?_
   refine AllReadyH.cons rfl (fun K hK => ?_) AllReadyH.nil
   (go_simp; go_wp2_with (go_at_call 95; refine (CL.out _ h).mono ?_; clear h; rintro _ w ⟨rfl, h⟩))
   refine hK.out _ _ (h.le KL) (fun hHeld => ?_)
   clear hK K
   try simp only [Act.put, qD, qE, qF]
   refine wpAnyH_ready (rs := [11]) (by kernel_rfl) (by simp) ?_
   refine AllReadyH.cons rfl (fun K hK => ?_) AllReadyH.nil
   (go_simp; go_wp2_with (go_at_call 94; refine (LD.out _ h).mono ?_; clear h; rintro _ w ⟨rfl, h⟩))
   refine hK.out _ _ (h.le KE) (fun hHeld => ?_)
   clear hK K
   try simp only [Act.put, qD, qE, qF]
   refine wpAnyH_take (i := 14) (v := ?_) rfl (by kernel_rfl) (by kernel_rfl) (by kernel_rfl) (fun _ _ _ h => h) (Or.inl ⟨by rfl, ?_⟩) hHeld ?_
   rotate_left
   ·(intro wz _; go_simp; try with_reducible rfl)
   try simp only [qA, qB, qC, Act.put, qD, qE, qF]
   refine wpAnyH_ready (rs := [15]) (by kernel_rfl) (by simp) ?_
   refine AllReadyH.cons rfl (fun K hK => ?_) AllReadyH.nil
   (refine step_store1 (v := .int .u64 (v : Nat)) h rfl 42 _ _ rfl rfl rfl hfb2 hsz rfl rfl (by kernel_rfl) ?_; clear h; intro w h; rw [R1.out] at h)
   refine hK.out _ _ (h.le KS) (fun hHeld => ?_)
   clear hK K
   try simp only [Act.put, qD, qE, qF]
   refine wpAnyH_done (by kernel_rfl) ?_ _
   have hEnd := h
   go_wp2
   all_goals (go_meet; (case rel => exact hEnd))
 case rest =>
  clear h hb4 hfb f2 f3 PA ME CL LD KL KE KS hsz R1 hfb2
  obtain ⟨w, rfl⟩ : ∃ q : World, q = wc := ⟨_, rfl⟩
  have h := hcut
  clear hcut
  have hfb3 : (M2.upd b (.cells fr1 69)) b = some (.cells fr1 69) := Mm.upd_same _ _ _
  have KD3 := Lib.hid (fun (w : World) (h : Has σ (M2.upd b (.cells fr1 69)) w) => KD.out _ w h)
  have WT3 := Lib.hid (fun (w : World) (h : Has σ (M2.upd b (.cells fr1 69)) w) => WT.out _ w h)
  have OD3 := Lib.hid (fun (w : World) (h : Has σ (M2.upd b (.cells fr1 69)) w) => OD.out _ w h)
  generalize hM3 : M2.upd b (.cells fr1 69) = M3 at h hfb3 KD3 WT3 OD3
  go_upto_region 5 with (fail)
  by_cases hk : k = 2
  ·subst hk
   have ho : oldB c3 e = false := by
    rcases HKO.out with h | h
    ·exact absurd rfl h
    ·exact h.2
   have OD4 : Hid (∀ w : World, Has σ M3 w → Calls Tryz.prog 125 #[.int .u64 (c3 : Nat), .int .u64 (e : Nat)] w fun r w' => r = .returned (.bool false) ∧ Has σ M3 w') := Lib.hid fun w h => by have := OD3.out w h; rw [ho] at this; exact this
   have WT4 : Hid (∀ w : World, Has σ M3 w → Calls Tryz.prog 101 #[.int .u64 (v : Nat)] w fun r w' => r = .returned (.agg #[.int .i64 (c1 : Nat), .int .i64 (c2 : Nat), .int .u64 (c3 : Nat)]) ∧ Has σ M3 w') := Lib.hid fun w h => by have := WT3.out w h; rw [if_pos rfl] at this; exact this
   have FD := ent_fld2 (c1 : Nat) (c2 : Nat) (c3 : Nat)
   clear ho OD3 WT3 HKO KD WT OD
   refine wp_region_class (Has σ M3) (by kernel_rfl) (by kernel_rfl) h.drew ?_
   clear h
   repeat (first
    | go_big_quiet_skip
    | (go_big_quiet_want; first
     | (refine quiet_load_has 42 _ rfl rfl hfb3 g4 Tryz.underlying42 rfl ?_; simp only [Act.put, qD, qE, qF]; go_big_quiet_on)
     | (refine quiet_load_has 42 _ rfl rfl hfb3 g2 Tryz.underlying42 rfl ?_; simp only [Act.put, qD, qE, qF]; go_big_quiet_on)
     | (go_big_quiet_op; first | go_big_quiet_on | go_big_quiet_call (first | with_reducible exact fun _ => rfl | with_reducible exact KD3.out _ | with_reducible exact WT4.out _ | with_reducible exact OD4.out _))))
   refine wpQuiet_nil ?_
   try clear w
   intro w h
   go_upto_region 7 with (fail)
   refine wp_region_head (Has σ M3) 9 (by kernel_rfl) (by kernel_rfl) (fun _ _ _ _ _ h => h) h.drew ?_
   clear h
   simp only [List.take_succ_cons, List.take_zero, List.drop_succ_cons, List.drop_zero]
   repeat (first
    | go_big_quiet_skip
    | (go_big_quiet_want; first
     | (refine quiet_load_has 42 _ rfl rfl hfb3 g3 Tryz.underlying42 rfl ?_; simp only [Act.put, qD, qE, qF]; go_big_quiet_on)
     | (go_big_quiet_op; first | go_big_quiet_on | go_big_quiet_call (first | with_reducible exact fun _ => rfl))))
   refine wpQuiet_nil ?_
   try clear w
   intro w h
   go_wp2_with (first
    | (with_reducible show wpList _ _ _ ({ dst := _, op := Op.store 42 _ _, type := _, pos := _, after := _, guard := _ } :: _) _ _; refine wpList_store1_has h rfl 42 _ _ rfl rfl rfl hfb3 hsz3 rfl (by kernel_rfl) ?_; clear h; intro w h))
   go_end0
   refine ⟨rfl, _, _, ?_, HT.out⟩
   have h9 : Has σ (M2.upd b (.cells (fr1.setIfInBounds 3 (.int .u64 (i + 1 : Nat))) 69)) w := by rw [← hM3, Mm.upd_upd] at h; exact h
   rw [R2.out] at h9
   exact h9
  ·have gk : ((k : Int) == 2) = false := beq_eq_false_iff_ne.2 (by omega)
   clear hk OD3 WT3 HKO KD WT OD
   refine wp_region_class (Has σ M3) (by kernel_rfl) (by kernel_rfl) h.drew ?_
   clear h
   repeat (first
    | go_big_quiet_skip
    | (go_big_quiet_want; first
     | (refine quiet_load_has 42 _ rfl rfl hfb3 g4 Tryz.underlying42 rfl ?_; simp only [Act.put, qD, qE, qF]; go_big_quiet_on)
     | (go_big_quiet_op; first | go_big_quiet_on | go_big_quiet_call (first | with_reducible exact fun _ => rfl | with_reducible exact KD3.out _))))
   refine wpQuiet_nil ?_
   try clear w
   intro w h
   go_upto_region 7 with (fail)
   refine wp_region_head (Has σ M3) 9 (by kernel_rfl) (by kernel_rfl) (fun _ _ _ _ _ h => h) h.drew ?_
   clear h
   simp only [List.take_succ_cons, List.take_zero, List.drop_succ_cons, List.drop_zero]
   repeat (first
    | go_big_quiet_skip
    | (go_big_quiet_want; first
     | (refine quiet_load_has 42 _ rfl rfl hfb3 g3 Tryz.underlying42 rfl ?_; simp only [Act.put, qD, qE, qF]; go_big_quiet_on)
     | (go_big_quiet_op; first | go_big_quiet_on | go_big_quiet_call (first | with_reducible exact fun _ => rfl))))
   refine wpQuiet_nil ?_
   try clear w
   intro w h
   go_wp2_with (first
    | (with_reducible show wpList _ _ _ ({ dst := _, op := Op.store 42 _ _, type := _, pos := _, after := _, guard := _ } :: _) _ _; refine wpList_store1_has h rfl 42 _ _ rfl rfl rfl hfb3 hsz3 rfl (by kernel_rfl) ?_; clear h; intro w h))
   go_end0
   refine ⟨rfl, _, _, ?_, HT.out⟩
   have h9 : Has σ (M2.upd b (.cells (fr1.setIfInBounds 3 (.int .u64 (i + 1 : Nat))) 69)) w := by rw [← hM3, Mm.upd_upd] at h; exact h
   rw [R2.out] at h9
   exact h9
end
section
open Go.RowKit
def MachS.begun (s : MachS) (t : Nat) (fn : Int) (us : List Int) : MachS := { s with thr := fun j => if j = t then (s.thr t).call fn us else s.thr j }
end
section
open Go.RowKit
/-- A call of one number that lies in a block made just now. -/
theorem call1_eq {σ w : World} {K M M2 : Mm} {lab : Nat → Nat} {p t q b bl : Nat} {s : MachS} {fs : List FrameS} {f : FrameS} {v0 : Int} (h : Has σ M2 w) (hT : AtTop K M lab p s t q b fs f) (hle : M.le M2) (hn : M bl = none) (hbl : M2 bl = some (.cells #[.int .u64 v0] 42)) (hfs : fs.length < 900000) (fn : Int) :
  Calls Tryz.prog 34 #[.pointer (some ⟨q, 0, none⟩), .int .i64 fn, .slice (some ⟨bl, 0, none⟩) 1 1] w fun r w' => r = .returned (.tuple #[]) ∧ ∃ M' lab', Has σ M' w' ∧ Mach M' lab' p (s.begun t fn [v0]) ∧ Base K M' lab' := by
 obtain ⟨lab2, hT2⟩ := hT.more1 hle hn hbl
 obtain ⟨fv, hv, fbs, hTh⟩ := hT2.thr
 have hnK : K bl = none := by
  cases e : K bl with
  | none => rfl
  | some o => have := (hT.base _ _ e).1; rw [hn] at this; cases this
 have hrd : Rd M2 1 (.slice (some ⟨bl, 0, none⟩) 1 1) [v0].length (u64s [v0]) := ⟨rfl, _, _, rfl, Nat.le_refl _, fun _ => ⟨bl, 0, _, _, _, rfl, hbl, fun j u hu => by simpa [u64s] using hu⟩⟩
 have hlen : (fbs ++ [b]).length = fs.length + 1 := by
  have h1 := hTh.flen
  rw [hT2.fr] at h1
  simpa using h1
 refine (thrCall_eq h hTh fn hrd (by simp) (by omega)).mono fun r w' ⟨e, M', lab', h', hK, hI⟩ => ?_
 obtain ⟨h4, h5⟩ := hT2.mach.thrTo hT2.base hT2.tp hK hI
 exact ⟨e, M', lab', h', h4, fun c o hc => h5 c o (Mm.le_upd' hnK _ _ _ hc)⟩
set_option maxHeartbeats 4000000 in
set_option maxRecDepth 20000 in
/-- Sweep reads the epoch. -/
theorem sw_0 {σ w : World} {K M : Mm} {lab : Nat → Nat} {p t q b : Nat} {s : MachS} {fs : List FrameS} {f : FrameS} (h : Has σ M w) (hT : AtTop K M lab p s t q b fs f) (hat : f.at_ = 0) {a : Int} (SP : SpotAt σ M p t 1 0 0 a) (hb1 : s.mem.acc < 1000000000) :
  Calls Tryz.prog 62 #[.agg (runC p t q b)] w fun r w' => r = .returned (.tuple #[]) ∧ ∃ M' lab', Has σ M' w' ∧ AtTop K M' lab' p (MachS.top { s with mem := s.mem.at_ a } t fs ((f.reg 0 (s.mem.load a)).goto 1)) t q b fs ((f.reg 0 (s.mem.load a)).goto 1) := by
 have d0 : (runC p t q b)[0]? = some (.pointer (some ⟨p, 0, none⟩)) := rfl
 have d1 : (runC p t q b)[1]? = some (.int .i64 (t : Nat)) := rfl
 have d2 : (runC p t q b)[2]? = some (.pointer (some ⟨q, 0, none⟩)) := rfl
 have d3 : (runC p t q b)[3]? = some (.pointer (some ⟨b, 0, none⟩)) := rfl
 have dx : (runC p t q b).extract 0 (0 + 4) = runC p t q b := rfl
 have dz : (runC p t q b).size = 4 := rfl
 have f1 : f.row[1]? = some (.int .i64 0) := by rw [← hat]; rfl
 obtain ⟨v, hvv⟩ : ∃ v, s.mem.load a = v := ⟨_, rfl⟩
 rw [hvv]
 go_enter Tryz.func62, Tryz.ntmps62
 go_upto_region 1 with (fail)
 obtain ⟨M1, hbx, hle, hb4, hn⟩ := h.box (.cells (runC p t q b) 124)
 generalize w.alloc _ = wx at hbx ⊢
 generalize w.heap.size = b4 at hb4 hn ⊢
 clear h
 try clear w
 have h := hbx
 clear hbx
 obtain ⟨w, rfl⟩ : ∃ x : World, x = wx := ⟨_, rfl⟩
 obtain ⟨lab1, hT1⟩ := hT.more1 hle hn hb4
 have hnK : K b4 = none := by
  cases e : K b4 with
  | none => rfl
  | some o => have := (hT.base _ _ e).1; rw [hn] at this; cases this
 have hKK : K.le (K.upd b4 (.cells (runC p t q b) 124)) := Mm.le_upd' hnK _
 have hbK : (K.upd b4 (.cells (runC p t q b) 124)) b4 = some (.cells (runC p t q b) 124) := Mm.upd_same _ _ _
 have hfb := hT1.obj
 have NW := Lib.hid (fun (w : World) (h : Has σ M1 w) => lbNow_eq h hT1 (SP.le hle) hb1)
 rw [hvv] at NW
 have KL := hT1.base.le
 have hT2 := hT1.load a
 have KE := hT2.base.le
 obtain ⟨hfb2, hT3⟩ := hT2.frame (f.reg 0 v)
 have KS := hT3.base.le
 obtain ⟨hfb3, hT4⟩ := hT3.frame ((f.reg 0 v).goto 1)
 rw [MachS.top_top, Mm.upd_upd] at hT4
 have HT := Lib.hid (hT4.less hKK)
 have hsz : 2 < f.row.size := show 2 < 18 by omega
 have hsz3 : 1 < (f.reg 0 v).row.size := show 1 < 18 by omega
 have R1 := Lib.hid (row_r0 f v)
 have R2 := Lib.hid (row_at (f.reg 0 v) 1)
 clear hvv hT hT1 hT2 hT3 hT4 SP hb1 hn hle hnK hKK hat
 generalize K.upd b4 _ = K1 at KL KE KS hbK
 generalize runC p t q b = rc at *
 generalize hr0 : f.row = fr0 at *
 generalize hr1 : (f.reg 0 v).row = fr1 at *
 generalize hr2 : ((f.reg 0 v).goto 1).row = fr2 at *
 clear hr0 hr1 hr2
 generalize M1.upd s.mp _ = M2 at *
 go_upto_region 8 with (first
  | (with_reducible show wpList _ _ _ ({ dst := _, op := Op.load 70 _, type := _, pos := _, after := _, guard := _ } :: _) _ _; refine wpList_load1_has h rfl 70 _ rfl rfl hb4 d3 Tryz.underlying70 rfl ?_)
  | (with_reducible show wpList _ _ _ ({ dst := _, op := Op.load 3 _, type := _, pos := _, after := _, guard := _ } :: _) _ _; refine wpList_load1_has h rfl 3 _ rfl rfl hfb f1 Tryz.underlying3 rfl ?_))
 clear hfb hb4
 refine wp_region_held_drew (S := Has σ (K1)) (by kernel_rfl) (h.drew.le KL) (fun hHeld => ?_)
 refine wpAnyH_take (i := 0) (v := ?_) rfl (by kernel_rfl) (by kernel_rfl) (by kernel_rfl) (fun _ _ _ h => h) (Or.inl ⟨by rfl, ?_⟩) hHeld ?_
 rotate_left
 ·(intro wz _; go_simp; try with_reducible rfl)
 try simp only [qA, qB, qC, Act.put, qD, qE, qF]
 refine wpAnyH_take (i := 1) (v := _) rfl (by kernel_rfl) (by kernel_rfl) (by kernel_rfl) (fun _ _ _ h => h) (yields_agg rfl 124 _ rfl rfl hbK dx dz Tryz.underlying124 rfl (by kernel_rfl)) hHeld ?_
 try simp only [qA, qB, qC, Act.put, qD, qE, qF]
 refine wpAnyH_take (i := 3) (v := ?_) rfl (by kernel_rfl) (by kernel_rfl) (by kernel_rfl) (fun _ _ _ h => h) (Or.inl ⟨by rfl, ?_⟩) hHeld ?_
 rotate_left
 ·(intro wz _; go_simp; try with_reducible rfl)
 try simp only [qA, qB, qC, Act.put, qD, qE, qF]
 refine wpAnyH_take (i := 4) (v := ?_) rfl (by kernel_rfl) (by kernel_rfl) (by kernel_rfl) (fun _ _ _ h => h) (Or.inl ⟨by rfl, ?_⟩) hHeld ?_
 rotate_left
 ·(intro wz _; go_simp; try with_reducible rfl)
 try simp only [qA, qB, qC, Act.put, qD, qE, qF]
 replace h := h.drew
 generalize w.drew = w1 at h hHeld ⊢
 clear w
 obtain ⟨w, rfl⟩ : ∃ q : World, q = w1 := ⟨_, rfl⟩
 refine wpAnyH_ready (rs := [2]) (by kernel_rfl) (by simp) ?_
 refine AllReadyH.cons rfl (fun K hK => ?_) AllReadyH.nil
 (go_simp; go_wp2_with (go_at_call 98; refine (NW.out _ h).mono ?_; clear h; rintro _ w ⟨rfl, h⟩))
 refine hK.out _ _ (h.le KE) (fun hHeld => ?_)
 clear hK K
 try simp only [Act.put, qD, qE, qF]
 refine wpAnyH_take (i := 5) (v := ?_) rfl (by kernel_rfl) (by kernel_rfl) (by kernel_rfl) (fun _ _ _ h => h) (Or.inl ⟨by rfl, ?_⟩) hHeld ?_
 rotate_left
 ·(intro wz _; go_simp; try with_reducible rfl)
 try simp only [qA, qB, qC, Act.put, qD, qE, qF]
 refine wpAnyH_ready (rs := [6]) (by kernel_rfl) (by simp) ?_
 refine AllReadyH.cons rfl (fun K hK => ?_) AllReadyH.nil
 (refine step_store1 (v := .int .u64 v) h rfl 42 _ _ rfl rfl rfl hfb2 hsz rfl rfl (by kernel_rfl) ?_; clear h; intro w h; rw [R1.out] at h)
 refine hK.out _ _ (h.le KS) (fun hHeld => ?_)
 clear hK K
 try simp only [Act.put, qD, qE, qF]
 refine wpAnyH_done (by kernel_rfl) ?_ _
 clear hHeld
 generalize hM3 : M2.upd b (.cells fr1 69) = M3 at h hfb3 KS
 go_wp2_with (first
  | (with_reducible show wpList _ _ _ ({ dst := _, op := Op.store 3 _ _, type := _, pos := _, after := _, guard := _ } :: _) _ _; refine wpList_store1_has h rfl 3 _ _ rfl rfl rfl hfb3 hsz3 rfl (by kernel_rfl) ?_; clear h; intro w h))
 go_end0
 refine ⟨rfl, _, _, ?_, HT.out⟩
 have h0 : Has σ (M2.upd b (.cells (fr1.setIfInBounds 1 (.int .i64 1)) 69)) w := by rw [← hM3, Mm.upd_upd] at h; exact h
 rw [R2.out] at h0
 exact h0
set_option maxHeartbeats 4000000 in
set_option maxRecDepth 20000 in
/-- Sweep looks. -/
theorem sw_1 {σ w : World} {K M : Mm} {lab : Nat → Nat} {p t q b : Nat} {s : MachS} {fs : List FrameS} {f : FrameS} (h : Has σ M w) (hT : AtTop K M lab p s t q b fs f) (hat : f.at_ = 1) {R : MachS → Prop} (hlook : ∀ (K1 M1 : Mm) (lab1 : Nat → Nat) (w1 : World), Has σ M1 w1 → AtTop K1 M1 lab1 p s t q b fs f → Calls Tryz.prog 100 #[.agg (runC p t q b)] w1 fun r w' => r = .returned (.tuple #[]) ∧ ∃ M' lab' s', Has σ M' w' ∧ Mach M' lab' p s' ∧ Base K1 M' lab' ∧ R s') :
  Calls Tryz.prog 62 #[.agg (runC p t q b)] w fun r w' => r = .returned (.tuple #[]) ∧ ∃ M' lab' s', Has σ M' w' ∧ Mach M' lab' p s' ∧ Base K M' lab' ∧ R s' := by
 have d0 : (runC p t q b)[0]? = some (.pointer (some ⟨p, 0, none⟩)) := rfl
 have d1 : (runC p t q b)[1]? = some (.int .i64 (t : Nat)) := rfl
 have d2 : (runC p t q b)[2]? = some (.pointer (some ⟨q, 0, none⟩)) := rfl
 have d3 : (runC p t q b)[3]? = some (.pointer (some ⟨b, 0, none⟩)) := rfl
 have dx : (runC p t q b).extract 0 (0 + 4) = runC p t q b := rfl
 have dz : (runC p t q b).size = 4 := rfl
 have f1 : f.row[1]? = some (.int .i64 1) := by rw [← hat]; rfl
 go_enter Tryz.func62, Tryz.ntmps62
 go_upto_region 1 with (fail)
 obtain ⟨M1, hbx, hle, hb4, hn⟩ := h.box (.cells (runC p t q b) 124)
 generalize w.alloc _ = wx at hbx ⊢
 generalize w.heap.size = b4 at hb4 hn ⊢
 clear h
 try clear w
 have h := hbx
 clear hbx
 obtain ⟨w, rfl⟩ : ∃ x : World, x = wx := ⟨_, rfl⟩
 obtain ⟨lab1, hT1⟩ := hT.more1 hle hn hb4
 have hnK : K b4 = none := by
  cases e : K b4 with
  | none => rfl
  | some o => have := (hT.base _ _ e).1; rw [hn] at this; cases this
 have hKK : K.le (K.upd b4 (.cells (runC p t q b) 124)) := Mm.le_upd' hnK _
 have hbK : (K.upd b4 (.cells (runC p t q b) 124)) b4 = some (.cells (runC p t q b) 124) := Mm.upd_same _ _ _
 have hfb := hT1.obj
 have LK := Lib.hid (fun (w : World) (h : Has σ M1 w) => hlook _ M1 lab1 w h hT1)
 have HK := Lib.hid hKK
 clear hT hT1 hn hle hnK hKK hbK hat hlook
 generalize runC p t q b = rc at *
 generalize f.row = fr0 at *
 go_wp2_with (first
  | (with_reducible show wpList _ _ _ ({ dst := _, op := Op.load 70 _, type := _, pos := _, after := _, guard := _ } :: _) _ _; refine wpList_load1_has h rfl 70 _ rfl rfl hb4 d3 Tryz.underlying70 rfl ?_)
  | (with_reducible show wpList _ _ _ ({ dst := _, op := Op.load 3 _, type := _, pos := _, after := _, guard := _ } :: _) _ _; refine wpList_load1_has h rfl 3 _ rfl rfl hfb f1 Tryz.underlying3 rfl ?_)
  | ((with_reducible show wpList _ _ _ ({ dst := _, op := Op.load 124 _, type := _, pos := _, after := _, guard := _ } :: _) _ _); refine wpList_agg_has h rfl 124 _ rfl rfl hb4 dx dz Tryz.underlying124 rfl (by kernel_rfl) ?_; try simp only [Act.put, qD, qE, qF])
  | (go_at_call 100; refine (LK.out _ h).mono ?_; clear h; rintro _ w ⟨rfl, M3, lab3, s3, h, hM3, hB3, hR3⟩))
 go_end0
 exact ⟨rfl, M3, lab3, s3, h, hM3, fun c o hc => hB3 c o (HK.out _ _ hc), hR3⟩
set_option maxHeartbeats 4000000 in
set_option maxRecDepth 20000 in
/-- A Cell is claimed: its slot is to be given. -/
theorem sw_2y {σ w : World} {K M : Mm} {lab : Nat → Nat} {p t q b : Nat} {s : MachS} {fs : List FrameS} {f : FrameS} (h : Has σ M w) (hT : AtTop K M lab p s t q b fs f) (hfs : fs.length < 900000) {i v : Nat} (h1 : f.r 1 = (i : Int)) (h2 : f.r 2 = (v : Int)) (hi : i < 9223372036854775808) (hv64 : v < 18446744073709551616) (hk : kindN v = 2) (ht : t < 9223372036854775808) (hat : f.at_ = 2) {a : Int} (SP : SpotAt σ M p t 7 (i : Nat) 0 a) (hb1 : s.mem.acc < 1000000000) (hb2 : s.mem.wr < 1000000000) (hsw : s.mem.swaps a (v : Nat) = true) :
  Calls Tryz.prog 62 #[.agg (runC p t q b)] w fun r w' => r = .returned (.tuple #[]) ∧ ∃ M' lab', Has σ M' w' ∧ Mach M' lab' p (MachS.begun (MachS.top { s with mem := s.mem.cas a (v : Nat) (mkHold t : Nat) } t fs (f.goto 3)) t 2 [(cutN v 0 8 : Nat)]) ∧ Base K M' lab' := by
 have WT := Lib.hid (fun (M' : Mm) (w : World) (h : Has σ M' w) => handleWhat_eq h v hv64)
 unfold whatV at WT
 rw [hk, if_pos rfl] at WT
 have lz := cutN_lt v 0 8
 obtain ⟨c1, hc1⟩ : ∃ x, cutN v 0 8 = x := ⟨_, rfl⟩
 rw [hc1] at WT lz ⊢
 generalize cutN v 8 24 = c2 at WT
 generalize cutN v 32 30 = c3 at WT
 have FD := ent_fld0 (c1 : Nat) (c2 : Nat) (c3 : Nat)
 have wc : IntKind.u64.wrap (c1 : Int) = (c1 : Int) := IntWalk.u64_in _ (by omega)
 clear hk hc1 lz hv64
 have d0 : (runC p t q b)[0]? = some (.pointer (some ⟨p, 0, none⟩)) := rfl
 have d1 : (runC p t q b)[1]? = some (.int .i64 (t : Nat)) := rfl
 have d2 : (runC p t q b)[2]? = some (.pointer (some ⟨q, 0, none⟩)) := rfl
 have d3 : (runC p t q b)[3]? = some (.pointer (some ⟨b, 0, none⟩)) := rfl
 have dx : (runC p t q b).extract 0 (0 + 4) = runC p t q b := rfl
 have dz : (runC p t q b).size = 4 := rfl
 have f1 : f.row[1]? = some (.int .i64 2) := by rw [← hat]; rfl
 have f3 : f.row[3]? = some (.int .u64 (i : Nat)) := by rw [← h1]; rfl
 have f4 : f.row[4]? = some (.int .u64 (v : Nat)) := by rw [← h2]; rfl
 go_enter Tryz.func62, Tryz.ntmps62
 go_upto_region 1 with (fail)
 obtain ⟨M1, hbx, hle, hb4, hn⟩ := h.box (.cells (runC p t q b) 124)
 generalize w.alloc _ = wx at hbx ⊢
 generalize w.heap.size = b4 at hb4 hn ⊢
 clear h
 try clear w
 have h := hbx
 clear hbx
 obtain ⟨w, rfl⟩ : ∃ x : World, x = wx := ⟨_, rfl⟩
 obtain ⟨lab1, hT1⟩ := hT.more1 hle hn hb4
 have hnK : K b4 = none := by
  cases e : K b4 with
  | none => rfl
  | some o => have := (hT.base _ _ e).1; rw [hn] at this; cases this
 have hKK : K.le (K.upd b4 (.cells (runC p t q b) 124)) := Mm.le_upd' hnK _
 have hbK : (K.upd b4 (.cells (runC p t q b) 124)) b4 = some (.cells (runC p t q b) 124) := Mm.upd_same _ _ _
 have hfb := hT1.obj
 have CLM := Lib.hid (fun (w : World) (h : Has σ M1 w) => lbClaim_eq (x := v) h hT1 hi ht (SP.le hle) hb1 hb2)
 rw [hsw] at CLM
 have HKK := Lib.hid hKK
 have HF := Lib.hid hfs
 clear hsw hT hT1 SP hb1 hb2 hn hle hnK hKK hi h1 h2 hat ht hfs
 generalize hrc : runC p t q b = rc at *
 have HRC := Lib.hid hrc
 generalize hr0 : f.row = fr0 at *
 have HR0 := Lib.hid hr0
 clear hrc hr0
 generalize K.upd b4 _ = K1 at *
 go_upto_region 13 with (first
  | (with_reducible show wpList _ _ _ ({ dst := _, op := Op.load 70 _, type := _, pos := _, after := _, guard := _ } :: _) _ _; refine wpList_load1_has h rfl 70 _ rfl rfl hb4 d3 Tryz.underlying70 rfl ?_)
  | (with_reducible show wpList _ _ _ ({ dst := _, op := Op.load 3 _, type := _, pos := _, after := _, guard := _ } :: _) _ _; refine wpList_load1_has h rfl 3 _ rfl rfl hfb f1 Tryz.underlying3 rfl ?_))
 refine wp_region_head (Has σ M1) 11 (by kernel_rfl) (by kernel_rfl) (fun _ _ _ _ _ h => h) h.drew ?_
 clear h
 simp only [List.take_succ_cons, List.take_zero, List.drop_succ_cons, List.drop_zero]
 repeat (first
  | go_big_quiet_skip
  | (go_big_quiet_want; first
   | (refine quiet_agg_has 124 _ rfl rfl hb4 dx dz Tryz.underlying124 rfl (by kernel_rfl) ?_; simp only [Act.put, qD, qE, qF]; go_big_quiet_on)
   | (refine quiet_load_has 42 _ rfl rfl hfb f3 Tryz.underlying42 rfl ?_; simp only [Act.put, qD, qE, qF]; go_big_quiet_on)
   | (refine quiet_load_has 42 _ rfl rfl hfb f4 Tryz.underlying42 rfl ?_; simp only [Act.put, qD, qE, qF]; go_big_quiet_on)
   | (go_big_quiet_op; first | go_big_quiet_on | go_big_quiet_call (first | with_reducible exact fun _ => rfl))))
 refine wpQuiet_nil ?_
 try clear w
 intro w h
 clear hfb hb4
 go_upto_region 16 with (first
  | ((go_at_call 96; refine (CLM.out _ h).mono ?_; clear h; rintro _ w ⟨rfl, M2, lab2, h, hT2⟩)))
 obtain ⟨hfb2, hT3⟩ := hT2.frame (f.goto 3)
 have hsz : 1 < f.row.size := show 1 < 18 by omega
 have R1 := Lib.hid (row_at f 3)
 have g4 : (f.goto 3).row[4]? = some (.int .u64 (v : Nat)) := by rw [← R1.out, HR0.out, Array.getElem?_setIfInBounds_ne (by decide)]; exact f4
 have KE := hT3.base.le
 have hfb3 := hT3.obj
 rw [HR0.out] at hfb2 hsz R1
 have WT3 := Lib.hid (fun (w : World) (h : Has σ (M2.upd b (.cells (f.goto 3).row 69)) w) => WT.out _ w h)
 have BK : Hid (∀ w, Has σ (M2.upd b (.cells (f.goto 3).row 69)) w → Calls Tryz.prog 34 #[.pointer (some ⟨q, 0, none⟩), .int .i64 2, .slice (some ⟨w.heap.size, 0, none⟩) 1 1] (w.alloc (.cells #[.int .u64 (c1 : Nat)] 42)) fun r w' => r = .returned (.tuple #[]) ∧ ∃ M' lab', Has σ M' w' ∧ Mach M' lab' p (MachS.begun (MachS.top { s with mem := s.mem.cas a (v : Nat) (mkHold t : Nat) } t fs (f.goto 3)) t 2 [(c1 : Nat)]) ∧ Base K1 M' lab') := Lib.hid fun w h => by
  obtain ⟨M8, h8, hle8, hb8, hn8⟩ := h.box (.cells #[.int .u64 (c1 : Nat)] 42)
  exact call1_eq h8 hT3 hle8 hn8 hb8 HF.out 2
 clear hT2 hT3 HF HRC CLM WT HR0 f1 f3 f4
 generalize (f.goto 3).row = fr1 at *
 go_upto_region 17 with (first
  | (with_reducible show wpList _ _ _ ({ dst := _, op := Op.store 3 _ _, type := _, pos := _, after := _, guard := _ } :: _) _ _; refine wpList_store1_has h rfl 3 _ _ rfl rfl rfl hfb2 hsz rfl (by kernel_rfl) ?_; clear h; intro w h))
 have h9 : Has σ (M2.upd b (.cells (fr0.setIfInBounds 1 (.int .i64 3)) 69)) w := h
 rw [R1.out] at h9
 clear h
 have h := h9
 clear h9
 generalize M2.upd b (.cells fr1 69) = M3 at *
 refine wp_region_held_drew (S := Has σ (K1)) (by kernel_rfl) (h.drew.le KE) (fun hHeld => ?_)
 refine wpAnyH_take (i := 0) (v := ?_) rfl (by kernel_rfl) (by kernel_rfl) (by kernel_rfl) (fun _ _ _ h => h) (Or.inl ⟨by rfl, ?_⟩) hHeld ?_
 rotate_left
 ·(intro wz _; go_simp; try with_reducible rfl)
 try simp only [qA, qB, qC, Act.put, qD, qE, qF]
 refine wpAnyH_take (i := 1) (v := _) rfl (by kernel_rfl) (by kernel_rfl) (by kernel_rfl) (fun _ _ _ h => h) (yields_load1 rfl 38 _ rfl rfl hbK d2 Tryz.underlying38 rfl) hHeld ?_
 try simp only [qA, qB, qC, Act.put, qD, qE, qF]
 refine wpAnyH_take (i := 2) (v := ?_) rfl (by kernel_rfl) (by kernel_rfl) (by kernel_rfl) (fun _ _ _ h => h) (Or.inl ⟨by rfl, ?_⟩) hHeld ?_
 rotate_left
 ·(intro wz _; go_simp; try with_reducible rfl)
 try simp only [qA, qB, qC, Act.put, qD, qE, qF]
 refine wpAnyH_take (i := 3) (v := ?_) rfl (by kernel_rfl) (by kernel_rfl) (by kernel_rfl) (fun _ _ _ h => h) (Or.inl ⟨by rfl, ?_⟩) hHeld ?_
 rotate_left
 ·(intro wz _; go_simp; try with_reducible rfl)
 try simp only [qA, qB, qC, Act.put, qD, qE, qF]
 refine wpAnyH_take (i := 4) (v := ?_) rfl (by kernel_rfl) (by kernel_rfl) (by kernel_rfl) (fun _ _ _ h => h) (Or.inl ⟨by rfl, ?_⟩) hHeld ?_
 rotate_left
 ·(intro wz _; go_simp; try with_reducible rfl)
 try simp only [qA, qB, qC, Act.put, qD, qE, qF]
 refine wpAnyH_take (i := 5) (v := ?_) rfl (by kernel_rfl) (by kernel_rfl) (by kernel_rfl) (fun _ _ _ h => h) (Or.inl ⟨by rfl, ?_⟩) hHeld ?_
 rotate_left
 ·(intro wz _; go_simp; try with_reducible rfl)
 try simp only [qA, qB, qC, Act.put, qD, qE, qF]
 replace h := h.drew
 generalize w.drew = w1 at h hHeld ⊢
 clear w
 obtain ⟨w, rfl⟩ : ∃ q : World, q = w1 := ⟨_, rfl⟩
 refine wpAnyH_ready (rs := [6]) (by kernel_rfl) (by simp) ?_
 refine AllReadyH.cons rfl (fun K hK => ?_) AllReadyH.nil
 (refine step_yields rfl (yields_load1 rfl 42 _ rfl rfl hfb3 g4 Tryz.underlying42 rfl) h ?_)
 refine hK.out _ _ (hHeld) (fun hHeld => ?_)
 clear hK K
 try simp only [Act.put, qD, qE, qF]
 refine wpAnyH_ready (rs := [7]) (by kernel_rfl) (by simp) ?_
 refine AllReadyH.cons rfl (fun K hK => ?_) AllReadyH.nil
 (go_simp; go_wp2_with (go_at_call 101; refine (WT3.out _ h).mono ?_; clear h; rintro _ w ⟨rfl, h⟩))
 refine hK.out _ _ (h.le KE) (fun hHeld => ?_)
 clear hK K
 try simp only [Act.put, qD, qE, qF]
 refine wpAnyH_take (i := 8) (v := ?_) rfl (by kernel_rfl) (by kernel_rfl) (by kernel_rfl) (fun _ _ _ h => h) (Or.inl ⟨by rfl, ?_⟩) hHeld ?_
 rotate_left
 ·(intro wz _; go_simp; try with_reducible rfl)
 try simp only [qA, qB, qC, Act.put, qD, qE, qF]
 refine wpAnyH_take (i := 9) (v := ?_) rfl (by kernel_rfl) (by kernel_rfl) (by kernel_rfl) (fun _ _ _ h => h) (Or.inl ⟨by rfl, ?_⟩) hHeld ?_
 rotate_left
 ·(intro wz _; go_simp; try with_reducible rfl)
 try simp only [qA, qB, qC, Act.put, qD, qE, qF]
 refine wpAnyH_ready (rs := [10]) (by kernel_rfl) (by simp) ?_
 refine AllReadyH.cons rfl (fun K hK => ?_) AllReadyH.nil
 go_simp
 refine hK.out _ _ ((h.quietAlloc _).le KE) (fun hHeld => ?_)
 clear hK K
 try simp only [Act.put, qD, qE, qF]
 refine wpAnyH_ready (rs := [11]) (by kernel_rfl) (by simp) ?_
 refine AllReadyH.cons rfl (fun K hK => ?_) AllReadyH.nil
 (go_simp; go_wp2_with (go_at_call 34; refine (BK.out _ h).mono ?_; clear h hHeld; rintro _ w ⟨rfl, M4, lab3, h, hM3, hB3⟩))
 refine hK.out _ _ (h.le hB3.le) (fun hHeld => ?_)
 clear hK K
 try simp only [Act.put, qD, qE, qF]
 refine wpAnyH_done (by kernel_rfl) ?_ _
 clear hHeld
 go_wp2
 go_end0
 exact ⟨rfl, M4, lab3, h, hM3, fun c o hc => hB3 c o (HKK.out _ _ hc)⟩
set_option maxHeartbeats 4000000 in
set_option maxRecDepth 20000 in
/-- A Cell is empty again; one more was given. -/
theorem sw_3 {σ w : World} {K M : Mm} {lab : Nat → Nat} {p t q b : Nat} {s : MachS} {fs : List FrameS} {f : FrameS} (h : Has σ M w) (hT : AtTop K M lab p s t q b fs f) {i z : Nat} (h1 : f.r 1 = (i : Int)) (h3 : f.r 3 = (z : Int)) (hi : i < 9223372036854775808) (hz : z < 9223372036854775808) (hat : f.at_ = 3) {a : Int} (SP : SpotAt σ M p t 7 (i : Nat) 0 a) (hb1 : s.mem.acc < 1000000000) (hb2 : s.mem.wr < 1000000000) :
  Calls Tryz.prog 62 #[.agg (runC p t q b)] w fun r w' => r = .returned (.tuple #[]) ∧ ∃ M' lab', Has σ M' w' ∧ AtTop K M' lab' p (MachS.top { s with mem := s.mem.store a 0 } t fs (((f.reg 3 (z + 1 : Nat)).reg 1 (i + 1 : Nat)).goto 1)) t q b fs (((f.reg 3 (z + 1 : Nat)).reg 1 (i + 1 : Nat)).goto 1) := by
 have wi : IntKind.u64.wrap ((i : Int) + 1) = ((i + 1 : Nat) : Int) := by rw [show (i : Int) + 1 = ((i + 1 : Nat) : Int) by omega]; exact IntWalk.u64_in _ (by omega)
 have wz : IntKind.u64.wrap ((z : Int) + 1) = ((z + 1 : Nat) : Int) := by rw [show (z : Int) + 1 = ((z + 1 : Nat) : Int) by omega]; exact IntWalk.u64_in _ (by omega)
 have d0 : (runC p t q b)[0]? = some (.pointer (some ⟨p, 0, none⟩)) := rfl
 have d1 : (runC p t q b)[1]? = some (.int .i64 (t : Nat)) := rfl
 have d2 : (runC p t q b)[2]? = some (.pointer (some ⟨q, 0, none⟩)) := rfl
 have d3 : (runC p t q b)[3]? = some (.pointer (some ⟨b, 0, none⟩)) := rfl
 have dx : (runC p t q b).extract 0 (0 + 4) = runC p t q b := rfl
 have dz : (runC p t q b).size = 4 := rfl
 have f1 : f.row[1]? = some (.int .i64 3) := by rw [← hat]; rfl
 have f3 : f.row[3]? = some (.int .u64 (i : Nat)) := by rw [← h1]; rfl
 have f5 : f.row[5]? = some (.int .u64 (z : Nat)) := by rw [← h3]; rfl
 go_enter Tryz.func62, Tryz.ntmps62
 go_upto_region 1 with (fail)
 obtain ⟨M1, hbx, hle, hb4, hn⟩ := h.box (.cells (runC p t q b) 124)
 generalize w.alloc _ = wx at hbx ⊢
 generalize w.heap.size = b4 at hb4 hn ⊢
 clear h
 try clear w
 have h := hbx
 clear hbx
 obtain ⟨w, rfl⟩ : ∃ x : World, x = wx := ⟨_, rfl⟩
 obtain ⟨lab1, hT1⟩ := hT.more1 hle hn hb4
 have hnK : K b4 = none := by
  cases e : K b4 with
  | none => rfl
  | some o => have := (hT.base _ _ e).1; rw [hn] at this; cases this
 have hKK : K.le (K.upd b4 (.cells (runC p t q b) 124)) := Mm.le_upd' hnK _
 have hbK : (K.upd b4 (.cells (runC p t q b) 124)) b4 = some (.cells (runC p t q b) 124) := Mm.upd_same _ _ _
 have hfb := hT1.obj
 have ME := Lib.hid (fun (w : World) (h : Has σ M1 w) => mMem_eq h hT1.mach)
 have CL := Lib.hid (fun (w : World) (h : Has σ M1 w) => lbCell_eq (q := q) (b := b) h hi (SP.le hle))
 have SE := Lib.hid (fun (w : World) (h : Has σ M1 w) => memStore_eq h hT1.mach.mem hb1 hb2 a 0)
 have hT2 := hT1.store a 0
 obtain ⟨hfb2, hT3⟩ := hT2.frame (f.reg 3 (z + 1 : Nat))
 obtain ⟨hfb3, hT4⟩ := hT3.frame ((f.reg 3 (z + 1 : Nat)).reg 1 (i + 1 : Nat))
 rw [MachS.top_top, Mm.upd_upd] at hT4
 obtain ⟨hfb4, hT5⟩ := hT4.frame (((f.reg 3 (z + 1 : Nat)).reg 1 (i + 1 : Nat)).goto 1)
 rw [MachS.top_top, Mm.upd_upd] at hT5
 have HT := Lib.hid (hT5.less hKK)
 have hsz : 5 < f.row.size := show 5 < 18 by omega
 have hsz2 : 3 < (f.reg 3 (z + 1 : Nat)).row.size := show 3 < 18 by omega
 have hsz3 : 1 < ((f.reg 3 (z + 1 : Nat)).reg 1 (i + 1 : Nat)).row.size := show 1 < 18 by omega
 have R1 := Lib.hid (row_r3 f (z + 1 : Nat))
 have R2 := Lib.hid (row_r1 (f.reg 3 (z + 1 : Nat)) (i + 1 : Nat))
 have R3 := Lib.hid (row_at ((f.reg 3 (z + 1 : Nat)).reg 1 (i + 1 : Nat)) 1)
 have g3 : (f.reg 3 (z + 1 : Nat)).row[3]? = some (.int .u64 (i : Nat)) := f3
 clear hT hT1 hT2 hT3 hT4 hT5 SP hb1 hb2 hn hle hnK hKK hbK hi hz h1 h3 hat
 generalize runC p t q b = rc at *
 generalize f.row = fr0 at *
 generalize (f.reg 3 (z + 1 : Nat)).row = fr1 at *
 generalize ((f.reg 3 (z + 1 : Nat)).reg 1 (i + 1 : Nat)).row = fr2 at *
 generalize (((f.reg 3 (z + 1 : Nat)).reg 1 (i + 1 : Nat)).goto 1).row = fr3 at *
 generalize storeM M1 s.mp s.mem a _ = M2 at *
 go_upto_region 3 with (first
  | (with_reducible show wpList _ _ _ ({ dst := _, op := Op.load 70 _, type := _, pos := _, after := _, guard := _ } :: _) _ _; refine wpList_load1_has h rfl 70 _ rfl rfl hb4 d3 Tryz.underlying70 rfl ?_)
  | (with_reducible show wpList _ _ _ ({ dst := _, op := Op.load 3 _, type := _, pos := _, after := _, guard := _ } :: _) _ _; refine wpList_load1_has h rfl 3 _ rfl rfl hfb f1 Tryz.underlying3 rfl ?_))
 refine wp_region_head (Has σ M1) 10 (by kernel_rfl) (by kernel_rfl) (fun _ _ _ _ _ h => h) h.drew ?_
 clear h
 simp only [List.take_succ_cons, List.take_zero, List.drop_succ_cons, List.drop_zero]
 repeat (first
  | go_big_quiet_skip
  | (go_big_quiet_want; first
   | (refine quiet_load_has 26 _ rfl rfl hb4 d0 Tryz.underlying26 rfl ?_; simp only [Act.put, qD, qE, qF]; go_big_quiet_on)
   | (refine quiet_agg_has 124 _ rfl rfl hb4 dx dz Tryz.underlying124 rfl (by kernel_rfl) ?_; simp only [Act.put, qD, qE, qF]; go_big_quiet_on)
   | (refine quiet_load_has 42 _ rfl rfl hfb f3 Tryz.underlying42 rfl ?_; simp only [Act.put, qD, qE, qF]; go_big_quiet_on)
   | (go_big_quiet_op; first | go_big_quiet_on | go_big_quiet_call (first | with_reducible exact fun _ => rfl | with_reducible exact ME.out _ | with_reducible exact CL.out _))))
 refine wpQuiet_nil ?_
 try clear w
 intro w h
 clear hfb hb4 ME CL
 go_upto_region 4 with (first
  | (go_at_call 97; refine (SE.out _ h).mono ?_; clear h; rintro _ w ⟨rfl, h⟩))
 refine wp_region_head (Has σ M2) 9 (by kernel_rfl) (by kernel_rfl) (fun _ _ _ _ _ h => h) h.drew ?_
 clear h
 simp only [List.take_succ_cons, List.take_zero, List.drop_succ_cons, List.drop_zero]
 repeat (first
  | go_big_quiet_skip
  | (go_big_quiet_want; first
   | (refine quiet_load_has 42 _ rfl rfl hfb2 f5 Tryz.underlying42 rfl ?_; simp only [Act.put, qD, qE, qF]; go_big_quiet_on)
   | (go_big_quiet_op; first | go_big_quiet_on | go_big_quiet_call (first | with_reducible exact fun _ => rfl))))
 refine wpQuiet_nil ?_
 try clear w
 intro w h
 go_upto_region 5 with (first
  | (with_reducible show wpList _ _ _ ({ dst := _, op := Op.store 42 _ _, type := _, pos := _, after := _, guard := _ } :: _) _ _; refine wpList_store1_has h rfl 42 _ _ rfl rfl rfl hfb2 hsz rfl (by kernel_rfl) ?_; clear h; intro w h))
 have h9 : Has σ (M2.upd b (.cells (fr0.setIfInBounds 5 (.int .u64 (z + 1 : Nat))) 69)) w := h
 rw [R1.out] at h9
 clear h
 have h := h9
 clear h9
 generalize hM3 : M2.upd b (.cells fr1 69) = M3 at h hfb3
 refine wp_region_head (Has σ M3) 9 (by kernel_rfl) (by kernel_rfl) (fun _ _ _ _ _ h => h) h.drew ?_
 clear h
 simp only [List.take_succ_cons, List.take_zero, List.drop_succ_cons, List.drop_zero]
 repeat (first
  | go_big_quiet_skip
  | (go_big_quiet_want; first
   | (refine quiet_load_has 42 _ rfl rfl hfb3 g3 Tryz.underlying42 rfl ?_; simp only [Act.put, qD, qE, qF]; go_big_quiet_on)
   | (go_big_quiet_op; first | go_big_quiet_on | go_big_quiet_call (first | with_reducible exact fun _ => rfl))))
 refine wpQuiet_nil ?_
 try clear w
 intro w h
 go_upto_region 6 with (first
  | (with_reducible show wpList _ _ _ ({ dst := _, op := Op.store 42 _ _, type := _, pos := _, after := _, guard := _ } :: _) _ _; refine wpList_store1_has h rfl 42 _ _ rfl rfl rfl hfb3 hsz2 rfl (by kernel_rfl) ?_; clear h; intro w h))
 have h9 : Has σ (M2.upd b (.cells (fr1.setIfInBounds 3 (.int .u64 (i + 1 : Nat))) 69)) w := by rw [← hM3, Mm.upd_upd] at h; exact h
 rw [R2.out] at h9
 clear h hM3
 have h := h9
 clear h9
 generalize hM4 : M2.upd b (.cells fr2 69) = M4 at h hfb4
 go_wp2_with (first
  | (with_reducible show wpList _ _ _ ({ dst := _, op := Op.store 3 _ _, type := _, pos := _, after := _, guard := _ } :: _) _ _; refine wpList_store1_has h rfl 3 _ _ rfl rfl rfl hfb4 hsz3 rfl (by kernel_rfl) ?_; clear h; intro w h))
 go_end0
 refine ⟨rfl, _, _, ?_, HT.out⟩
 have h9 : Has σ (M2.upd b (.cells (fr2.setIfInBounds 1 (.int .i64 1)) 69)) w := by rw [← hM4, Mm.upd_upd] at h; exact h
 rw [R3.out] at h9
 exact h9
end
section
open Go.RowKit
theorem li_zrun : (Tryz.prog.info? 124).bind (·.zero) = some (.agg #[.pointer none, .int .i64 0, .pointer none, .pointer none]) := by kernel_rfl
set_option maxHeartbeats 2000000 in
set_option maxRecDepth 20000 in
/-- Do of another routine. -/
theorem li_doOther {σ w : World} {K M : Mm} {lab : Nat → Nat} {p t q b : Nat} {s : MachS} {fs : List FrameS} {f : FrameS} (h : Has σ M w) (hT : AtTop K M lab p s t q b fs f) (h10 : f.fn ≠ 20) (h11 : f.fn ≠ 21) (h12 : f.fn ≠ 22) (h13 : f.fn ≠ 23) (hfs : fs.length < 1000000) {R : MachS → Prop} (hstep : ∀ (K1 M1 : Mm) (lab1 : Nat → Nat) (w1 : World), Has σ M1 w1 → AtTop K1 M1 lab1 p s t q b fs f → Calls Tryz.prog 63 #[.pointer (some ⟨p, 0, none⟩), .int .i64 (t : Nat)] w1 fun r w' => r = .returned (.tuple #[]) ∧ ∃ M' lab' s', Has σ M' w' ∧ Mach M' lab' p s' ∧ Base K1 M' lab' ∧ R s') : Calls Tryz.prog 15 #[.pointer (some ⟨p, 0, none⟩), .int .i64 (t : Nat)] w fun r w' => r = .returned (.tuple #[]) ∧ ∃ M' lab' s', Has σ M' w' ∧ Base K M' lab' ∧ Mach M' lab' p s' ∧ R s' := by
 obtain ⟨fv, hv, fbs, hTh⟩ := hT.thr
 have hlen : fbs.length = fs.length := by
  have h1 := hTh.flen
  rw [hT.fr] at h1
  simpa using h1
 have TH := Lib.hid (fun (w : World) (h : Has σ M w) => mThread_yes h hT.mach hT.tp)
 have TP := Lib.hid (fun (w : World) (h : Has σ M w) => thrTop_eq h hTh (by omega))
 have hfb := hT.obj
 have f0 : f.row[0]? = some (.int .i64 f.fn) := rfl
 have HT := Lib.hid hT
 have HS := Lib.hid hstep
 have g1 : (f.fn == 20) = false := beq_eq_false_iff_ne.2 h10
 have g2 : (f.fn == 21) = false := beq_eq_false_iff_ne.2 h11
 have g3 : (f.fn == 22) = false := beq_eq_false_iff_ne.2 h12
 have g4 : (f.fn == 23) = false := beq_eq_false_iff_ne.2 h13
 clear hT hTh hlen hfs hstep h10 h11 h12 h13
 generalize f.row = fr0 at *
 generalize hfnn : f.fn = fnn at *
 clear hfnn
 go_enter Tryz.func15, Tryz.ntmps15
 go_upto_region 3 with (first
  | (go_at_call 13; refine (TH.out _ h).mono ?_; clear h; rintro _ w ⟨rfl, h⟩)
  | (go_at_call 32; refine (TP.out _ h).mono ?_; clear h; rintro _ w ⟨rfl, h⟩)
  | ((with_reducible show wpList _ _ _ ({ dst := _, op := Op.alloc 124, type := _, pos := _, after := _, guard := _ } :: _) _ _); refine wpList_alloc_has h rfl 124 rfl _ li_zrun ?_; clear h; intro bx w h hnx; try simp only [Act.put, qD, qE, qF])
  | ((with_reducible show wpList _ _ _ ({ dst := _, op := Op.store 124 _ _, type := _, pos := _, after := _, guard := _ } :: _) _ _); refine wpList_storeAll_has (cells := runC p t q b) h rfl 124 _ _ rfl rfl rfl (Mm.upd_same _ _ _) rfl rfl rfl (by kernel_rfl) rfl ?_; clear h; intro w h))
 rw [Mm.upd_upd] at h
 have hfb1 := Mm.upd_of (o := .cells (runC p t q b) 124) hnx hfb
 have hle := Mm.le_upd' hnx (.cells (runC p t q b) 124)
 have hbx := Mm.upd_same M bx (.cells (runC p t q b) 124)
 generalize M.upd bx _ = M1 at h hfb1 hle hbx
 obtain ⟨lab1, hT1⟩ := HT.out.more1 hle hnx hbx
 have hnK : K bx = none := by
  cases e : K bx with
  | none => rfl
  | some o => have := (HT.out.base _ _ e).1; rw [hnx] at this; cases this
 have HKK := Lib.hid (Mm.le_upd' hnK (.cells (runC p t q b) 124))
 have ST := Lib.hid (fun (w : World) (h : Has σ M1 w) => HS.out _ M1 lab1 w h hT1)
 clear hT1 hnK hnx hle TH TP
 go_wp2_with (first
  | (with_reducible show wpList _ _ _ ({ dst := _, op := Op.load 3 _, type := _, pos := _, after := _, guard := _ } :: _) _ _; refine wpList_load1_has h rfl 3 _ rfl rfl hfb1 f0 Tryz.underlying3 rfl ?_)
  | (go_at_call 63; refine (ST.out _ h).mono ?_; clear h; rintro _ w ⟨rfl, M2, lab2, s2, h, hM2, hB2, hR2⟩))
 go_end0
 exact ⟨rfl, M2, lab2, s2, h, fun c o hc => hB2 c o (HKK.out _ _ hc), hM2, hR2⟩
end
section
open Go.RowKit
theorem ep_zrun : (Tryz.prog.info? 170).bind (·.zero) = some (.agg #[.pointer none, .int .i64 0, .pointer none, .pointer none]) := by kernel_rfl
set_option maxHeartbeats 2000000 in
set_option maxRecDepth 20000 in
/-- Do of another routine. -/
theorem ep_doOther {σ w : World} {K M : Mm} {lab : Nat → Nat} {p t q b : Nat} {s : MachS} {fs : List FrameS} {f : FrameS} (h : Has σ M w) (hT : AtTop K M lab p s t q b fs f) (h10 : f.fn ≠ 10) (h11 : f.fn ≠ 11) (h12 : f.fn ≠ 12) (hfs : fs.length < 1000000) {R : MachS → Prop} (hstep : ∀ (K1 M1 : Mm) (lab1 : Nat → Nat) (w1 : World), Has σ M1 w1 → AtTop K1 M1 lab1 p s t q b fs f → Calls Tryz.prog 105 #[.pointer (some ⟨p, 0, none⟩), .int .i64 (t : Nat)] w1 fun r w' => r = .returned (.tuple #[]) ∧ ∃ M' lab' s', Has σ M' w' ∧ Mach M' lab' p s' ∧ Base K1 M' lab' ∧ R s') : Calls Tryz.prog 63 #[.pointer (some ⟨p, 0, none⟩), .int .i64 (t : Nat)] w fun r w' => r = .returned (.tuple #[]) ∧ ∃ M' lab' s', Has σ M' w' ∧ Base K M' lab' ∧ Mach M' lab' p s' ∧ R s' := by
 obtain ⟨fv, hv, fbs, hTh⟩ := hT.thr
 have hlen : fbs.length = fs.length := by
  have h1 := hTh.flen
  rw [hT.fr] at h1
  simpa using h1
 have TH := Lib.hid (fun (w : World) (h : Has σ M w) => mThread_yes h hT.mach hT.tp)
 have TP := Lib.hid (fun (w : World) (h : Has σ M w) => thrTop_eq h hTh (by omega))
 have hfb := hT.obj
 have f0 : f.row[0]? = some (.int .i64 f.fn) := rfl
 have HT := Lib.hid hT
 have HS := Lib.hid hstep
 have g1 : (f.fn == 10) = false := beq_eq_false_iff_ne.2 h10
 have g2 : (f.fn == 11) = false := beq_eq_false_iff_ne.2 h11
 have g3 : (f.fn == 12) = false := beq_eq_false_iff_ne.2 h12
 clear hT hTh hlen hfs hstep h10 h11 h12
 generalize f.row = fr0 at *
 generalize hfnn : f.fn = fnn at *
 clear hfnn
 go_enter Tryz.func63, Tryz.ntmps63
 go_upto_region 3 with (first
  | (go_at_call 13; refine (TH.out _ h).mono ?_; clear h; rintro _ w ⟨rfl, h⟩)
  | (go_at_call 32; refine (TP.out _ h).mono ?_; clear h; rintro _ w ⟨rfl, h⟩)
  | ((with_reducible show wpList _ _ _ ({ dst := _, op := Op.alloc 170, type := _, pos := _, after := _, guard := _ } :: _) _ _); refine wpList_alloc_has h rfl 170 rfl _ ep_zrun ?_; clear h; intro bx w h hnx; try simp only [Act.put, qD, qE, qF])
  | ((with_reducible show wpList _ _ _ ({ dst := _, op := Op.store 170 _ _, type := _, pos := _, after := _, guard := _ } :: _) _ _); refine wpList_storeAll_has (cells := runC p t q b) h rfl 170 _ _ rfl rfl rfl (Mm.upd_same _ _ _) rfl rfl rfl (by kernel_rfl) rfl ?_; clear h; intro w h))
 rw [Mm.upd_upd] at h
 have hfb1 := Mm.upd_of (o := .cells (runC p t q b) 170) hnx hfb
 have hle := Mm.le_upd' hnx (.cells (runC p t q b) 170)
 have hbx := Mm.upd_same M bx (.cells (runC p t q b) 170)
 generalize M.upd bx _ = M1 at h hfb1 hle hbx
 obtain ⟨lab1, hT1⟩ := HT.out.more1 hle hnx hbx
 have hnK : K bx = none := by
  cases e : K bx with
  | none => rfl
  | some o => have := (HT.out.base _ _ e).1; rw [hnx] at this; cases this
 have HKK := Lib.hid (Mm.le_upd' hnK (.cells (runC p t q b) 170))
 have ST := Lib.hid (fun (w : World) (h : Has σ M1 w) => HS.out _ M1 lab1 w h hT1)
 clear hT1 hnK hnx hle TH TP
 go_wp2_with (first
  | (with_reducible show wpList _ _ _ ({ dst := _, op := Op.load 3 _, type := _, pos := _, after := _, guard := _ } :: _) _ _; refine wpList_load1_has h rfl 3 _ rfl rfl hfb1 f0 Tryz.underlying3 rfl ?_)
  | (go_at_call 105; refine (ST.out _ h).mono ?_; clear h; rintro _ w ⟨rfl, M2, lab2, s2, h, hM2, hB2, hR2⟩))
 go_end0
 exact ⟨rfl, M2, lab2, s2, h, fun c o hc => hB2 c o (HKK.out _ _ hc), hM2, hR2⟩
end
section
open Go.RowKit
/-- The machine behind a step that brought it to s2. -/
def MachS.after (s2 s : MachS) (lv : Nat) : MachS := MachS.watch { s2 with steps := s2.steps + 1 } lv s.mem.acc s.mem.wr
theorem after_same (s2 s : MachS) (lv : Nat) : (s2.after s lv).c = s2.c ∧ (s2.after s lv).tp = s2.tp ∧ (s2.after s lv).mem = s2.mem ∧ (s2.after s lv).ward = s2.ward ∧ (s2.after s lv).thr = s2.thr ∧ (s2.after s lv).clk = s2.clk ∧ (s2.after s lv).steps = s2.steps + 1 ∧ (s2.after s lv).given = s2.given := by
 unfold MachS.after MachS.watch
 repeat' split
 all_goals exact ⟨rfl, rfl, rfl, rfl, rfl, rfl, rfl, rfl⟩
end
section
open Go.RowKit
theorem atK_hit {c : Nat → Int} (hc : ConfMay c) {m : MemS} (hN : (m.N : Int) = c 0 * firsts c 10) {lv : Nat} (hl : (lv : Int) < c 0) {k : Nat} {i j : Int} (hk : InK c k i j) : m.hit (atK c lv k i j) = true := by
 have hs := firsts_succ c (k := k) hk.kind
 have hnn := numK_nn hk
 have hhi := hk.high
 have hf0 := (firsts_bd hc k).1
 have hkk := hk.kind
 have hle : firsts c (k + 1) ≤ firsts c 10 := by
  obtain ⟨_, _, _, _, ⟨g2, g3⟩, ⟨g4, g5⟩, _⟩ := hc
  unfold firsts
  rcases k with _ | _ | _ | _ | _ | _ | _ | _ | _ | _ | k <;> simp <;> omega
 obtain ⟨L, B, S, hn⟩ := Nums.of hc
 rw [hn.sz] at hle hN
 obtain ⟨T, hT⟩ : ∃ T : Nat, 18 + B + 6 * S = T := ⟨_, rfl⟩
 rw [hT] at hle hN
 rw [hn.lev] at hN hl
 unfold MemS.hit atK
 rw [hn.sz, hT, Bool.and_eq_true, decide_eq_true_eq, decide_eq_true_eq]
 have h1 : 0 ≤ (lv : Int) * (T : Int) := Int.mul_nonneg (by omega) (by omega)
 have h2 : ((lv + 1 : Nat) : Int) * (T : Int) ≤ (L : Int) * (T : Int) := Int.mul_le_mul_of_nonneg_right (by omega) (by omega)
 have h3 : ((lv + 1 : Nat) : Int) * (T : Int) = (lv : Int) * (T : Int) + T := by rw [Int.natCast_add, Int.add_mul]; simp
 exact ⟨by omega, by rw [hN]; omega⟩
theorem load_hit {m : MemS} {a : Int} (h : m.hit a = true) : m.load a = m.f a.toNat := by unfold MemS.load; rw [h]; rfl
theorem at_hit {m : MemS} {a : Int} (h : m.hit a = true) : m.at_ a = { m with acc := m.acc + 1, last := a, named := true } := by unfold MemS.at_; rw [h]; rfl
theorem store_hit {m : MemS} {a v : Int} (h : m.hit a = true) : m.store a v = { m with acc := m.acc + 1, last := a, named := true, f := upd m.f a.toNat v, wr := m.wr + 1 } := by unfold MemS.store; rw [h, if_pos rfl, at_hit h]
end
section
open Go.RowKit
def Dropped3 : Nat → Prop := fun k => k = 3 ∨ (k = 4 ∨ k = 6)
section
variable {σ w : World} {K M M' : Mm} {lab lab' : Nat → Nat} {p : Nat} {s : MachS}
theorem gone_kp (hM : Mach M lab p s) (l t : Int) : Kp Dropped3 M lab ((M.upd s.ward.hb (mapRow (s.ward.gone l t).held (s.ward.gone l t).hclk)).upd s.ward.gb (mapRow (s.ward.gone l t).gens (s.ward.gone l t).gclk)) lab := by
 have k1 : Kp (fun j => j = 3) M lab (M.upd s.ward.hb (mapRow (s.ward.gone l t).held (s.ward.gone l t).hclk)) lab := Kp.upd hM.wlab.2.1 _
 exact (k1.trans (Kp.upd hM.wlab.2.2 _)).mono fun _ h => .inl h
theorem Mach.gaveK (hM : Mach M lab p s) (hB : Base K M lab) {g : GivenS} {v : Value} {M3 : Mm} (hle : (M.out lab 6).le M3) (ho : Own (M.out lab 6) M3 204 6 v (s.given.length + 1) ((s.given ++ [g]).flatMap encG)) {s' : MachS} (hs : s' = { s with gv := v, given := s.given ++ [g] }) :
  ∃ lab', Base K (M3.upd p (.cells s'.row 115)) lab' ∧ Mach (M3.upd p (.cells s'.row 115)) lab' p s' ∧ Kp (fun k => k = 4 ∨ k = 6) M lab (M3.upd p (.cells s'.row 115)) lab' := by
 subst hs
 obtain ⟨lab', hK, hR⟩ := Row.grow hle ho
 obtain ⟨p1, p2⟩ := hK.get hM.obj hM.mark (by omega)
 have k3 : Kp (fun j => j = 4) M3 lab' (M3.upd p (.cells (MachS.row { s with gv := v, given := s.given ++ [g] }) 115)) lab' := Kp.upd p2 _
 have k4 : Kp (fun k => k = 4 ∨ k = 6) M lab (M3.upd p (.cells (MachS.row { s with gv := v, given := s.given ++ [g] }) 115)) lab' := (hK.mono fun _ h => .inr h).trans (k3.mono fun _ h => .inl h)
 obtain ⟨⟨o1, o2, h1, h2, h3, h4, h5, h6, h7, h8, h9, h10, h11, h12⟩, h13⟩ := hM
 obtain ⟨m1, m2⟩ := h4.keep h5 k4 (by omega)
 obtain ⟨w1, w2⟩ := h7.keep h8 k4 (by omega)
 obtain ⟨q1, q2⟩ := k4.get h2 h3 (by omega)
 refine ⟨lab', hB.keep k4 (by omega), ⟨⟨Mm.upd_same _ _ _, p2, h1, q1, q2, m1, m2, h6, w1, w2, h9, h10.keep k4 (by omega), fun t p' hp => (h11 t p' hp).keep k4 fun k hk => by have := hk.1; omega, ?_⟩, h13⟩, k4⟩
 have := hR.keep k3 (by omega)
 rw [List.length_append]
 exact this
/-- Behind Drop of what is held. -/
def MachS.gaveS (s : MachS) (lv t : Int) (gv : Value) : MachS := { s with ward := s.ward.gone lv t, gv := gv, given := s.given ++ [⟨lv, s.ward.link lv t, s.clk⟩] }
set_option maxHeartbeats 4000000 in
set_option maxRecDepth 20000 in
theorem mDrop_kp (h : Has σ M w) (hM : Mach M lab p s) (hB : Base K M lab) (t slot : Int) {lv : Int} (hlv : levelOf s.c t = lv) (hst : StampE s.ward.gens s.ward.gclk) (hg : 0 ≤ valE lv slot s.ward.gens ∧ valE lv slot s.ward.gens < 1000000000) (hsl : s.ward.slips < 1000000000) (hn : s.given.length < 1000000) (hh : s.ward.has lv slot = true) :
  Calls Tryz.prog 147 #[.pointer (some ⟨p, 0, none⟩), .int .i64 t, .int .i64 slot] w fun r w' => r = .returned (.tuple #[]) ∧ ∃ M' lab' gv, Has σ M' w' ∧ Base K M' lab' ∧ Mach M' lab' p (s.gaveS lv slot gv) ∧ Kp Dropped3 M lab M' lab' := by
 have LV := Lib.hid (fun (w : World) (h : Has σ M w) => mLevel_eq h hM t)
 rw [hlv] at LV
 have WD := Lib.hid (fun (w : World) (h : Has σ M w) => mWarden_eq h hM)
 have hs60 : s.ward.sl ≤ 1000000 := by rw [hM.wsz.2]; have := (Nums.of hM.may); obtain ⟨L, B, S, hn⟩ := this; have := hn.slo; have := hn.s0; omega
 have LK := Lib.hid (fun (w : World) (h : Has σ M w) => wardLink_eq h hM.ward lv slot hs60 hg)
 have DR := Lib.hid (fun (w : World) (h : Has σ M w) => drop_yes h hM.ward lv slot hh hst (by omega))
 obtain ⟨hM2, hB2⟩ := hM.gone hB lv slot rfl
 have KPA := Lib.hid (gone_kp hM lv slot)
 obtain ⟨g, G⟩ : ∃ g : GivenS, Hid (g = GivenS.mk lv (s.ward.link lv slot) s.clk) := ⟨_, rfl⟩
 have E : ∀ gv, MachS.gaveS s lv slot gv = { { s with ward := s.ward.gone lv slot } with gv := gv, given := s.given ++ [g] } := fun gv => by unfold MachS.gaveS; rw [G.out]
 replace E := Lib.hid E
 have EG : Hid (encG g = [.int .i64 lv, .int .u64 (s.ward.link lv slot), .int .i64 (s.clk 0 : Nat), .int .i64 (s.clk 1 : Nat), .int .i64 (s.clk 2 : Nat), .int .i64 (s.clk 3 : Nat)]) := by show _ = _; rw [G.out]; rfl
 clear hM hB hlv hst hg hsl hs60 hh
 generalize (M.upd s.ward.hb _).upd s.ward.gb _ = M2 at DR hM2 hB2 KPA
 obtain ⟨s2, E2⟩ : ∃ s2 : MachS, Hid (s2 = { s with ward := s.ward.gone lv slot }) := ⟨_, rfl⟩
 rw [← E2.out] at hM2 E
 have hp := hM2.obj
 have e8 : s2.row[8]? = some s2.gv := rfl
 have eg : Hid (s2.given = s.given) := by show _ = _; rw [E2.out]
 have e4 : s2.row.extract 4 (4 + 4) = #[.int .i64 (s.clk 0 : Nat), .int .i64 (s.clk 1 : Nat), .int .i64 (s.clk 2 : Nat), .int .i64 (s.clk 3 : Nat)] := by rw [E2.out]; rfl
 have l8 : 8 < s2.row.size := show 8 < 11 by omega
 have hown := hM2.grow
 have hpo := Mm.out_of (lab := lab) (k := 6) hp (by rw [hM2.mark]; omega)
 have hle := Mm.out_le M2 lab 6
 unfold Row at hown
 rw [eg.out] at hown
 have GAVE := Lib.hid (fun (M3 : Mm) (v : Value) hl ho => hM2.gaveK hB2 (g := g) (v := v) (M3 := M3) hl ho (s' := { s2 with gv := v, given := s2.given ++ [g] }) rfl)
 rw [eg.out] at GAVE
 have EQ : Hid (∀ v, s2.row.setIfInBounds 8 v = MachS.row { s2 with gv := v, given := s.given ++ [g] }) := Lib.hid fun v => rfl
 have FA : Hid (∀ g : GivenS, (s.given ++ [g]).flatMap encG = s.given.flatMap encG ++ encG g) := Lib.hid fun g => by simp
 replace FA := Lib.hid (FA.out g)
 clear hM2 hB2
 generalize s2.row = row at hp e8 e4 l8 EQ hpo
 generalize s2.gv = gv at e8 hown
 generalize s.given.flatMap encG = xs at hown FA
 generalize hnn : s.given.length = n at hown hn GAVE
 generalize s.ward.link lv slot = lk at LK EG
 generalize s.clk 0 = k0 at e4 EG
 generalize s.clk 1 = k1 at e4 EG
 generalize s.clk 2 = k2 at e4 EG
 generalize s.clk 3 = k3 at e4 EG
 go_enter Tryz.func147, Tryz.ntmps147
 go_upto_region 3 with (first
  | (go_at_call 12; refine (LV.out _ h).mono ?_; clear h; rintro _ w ⟨rfl, h⟩)
  | (go_at_call 17; refine (WD.out _ h).mono ?_; clear h; rintro _ w ⟨rfl, h⟩)
  | (go_at_call 18; refine (LK.out _ h).mono ?_; clear h; rintro _ w ⟨rfl, h⟩)
  | (go_at_call 148; refine (DR.out _ h).mono ?_; clear h; rintro _ w ⟨rfl, h⟩))
 clear LV WD LK DR
 have hpN := Mm.drop_none (M2.out lab 6) p
 have hdl : ((M2.out lab 6).drop p).le M2 := Mm.le_trans (Mm.drop_le _ _) hle
 have hd6 := Mm.drop_le (M2.out lab 6) p
 generalize (M2.out lab 6).drop p = MD at hpN hdl hd6
 generalize M2.out lab 6 = MR at hle hpo hown GAVE hd6
 refine wp_region_held_drew (S := Has σ (MD)) (by kernel_rfl) (h.drew.le hdl) (fun hHeld => ?_)
 refine wpAnyH_take (i := 0) (v := ?_) rfl (by kernel_rfl) (by kernel_rfl) (by kernel_rfl) (fun _ _ _ h => h) (Or.inl ⟨by rfl, ?_⟩) hHeld ?_
 rotate_left
 ·(intro wz _; go_simp; try with_reducible rfl)
 try simp only [qA, qB, qC, Act.put, qD, qE, qF]
 refine wpAnyH_take (i := 1) (v := ?_) rfl (by kernel_rfl) (by kernel_rfl) (by kernel_rfl) (fun _ _ _ h => h) (Or.inl ⟨by rfl, ?_⟩) hHeld ?_
 rotate_left
 ·(intro wz _; go_simp; try with_reducible rfl)
 try simp only [qA, qB, qC, Act.put, qD, qE, qF]
 refine wpAnyH_take (i := 2) (v := ?_) rfl (by kernel_rfl) (by kernel_rfl) (by kernel_rfl) (fun _ _ _ h => h) (Or.inl ⟨by rfl, ?_⟩) hHeld ?_
 rotate_left
 ·(intro wz _; go_simp; try with_reducible rfl)
 try simp only [qA, qB, qC, Act.put, qD, qE, qF]
 refine wpAnyH_take (i := 3) (v := ?_) rfl (by kernel_rfl) (by kernel_rfl) (by kernel_rfl) (fun _ _ _ h => h) (Or.inl ⟨by rfl, ?_⟩) hHeld ?_
 rotate_left
 ·(intro wz _; go_simp; try with_reducible rfl)
 try simp only [qA, qB, qC, Act.put, qD, qE, qF]
 refine wpAnyH_take (i := 5) (v := ?_) rfl (by kernel_rfl) (by kernel_rfl) (by kernel_rfl) (fun _ _ _ h => h) (Or.inl ⟨by rfl, ?_⟩) hHeld ?_
 rotate_left
 ·(intro wz _; go_simp; try with_reducible rfl)
 try simp only [qA, qB, qC, Act.put, qD, qE, qF]
 refine wpAnyH_take (i := 6) (v := ?_) rfl (by kernel_rfl) (by kernel_rfl) (by kernel_rfl) (fun _ _ _ h => h) (Or.inl ⟨by rfl, ?_⟩) hHeld ?_
 rotate_left
 ·(intro wz _; go_simp; try with_reducible rfl)
 try simp only [qA, qB, qC, Act.put, qD, qE, qF]
 refine wpAnyH_take (i := 7) (v := ?_) rfl (by kernel_rfl) (by kernel_rfl) (by kernel_rfl) (fun _ _ _ h => h) (Or.inl ⟨by rfl, ?_⟩) hHeld ?_
 rotate_left
 ·(intro wz _; go_simp; try with_reducible rfl)
 try simp only [qA, qB, qC, Act.put, qD, qE, qF]
 refine wpAnyH_take (i := 8) (v := ?_) rfl (by kernel_rfl) (by kernel_rfl) (by kernel_rfl) (fun _ _ _ h => h) (Or.inl ⟨by rfl, ?_⟩) hHeld ?_
 rotate_left
 ·(intro wz _; go_simp; try with_reducible rfl)
 try simp only [qA, qB, qC, Act.put, qD, qE, qF]
 refine wpAnyH_take (i := 9) (v := ?_) rfl (by kernel_rfl) (by kernel_rfl) (by kernel_rfl) (fun _ _ _ h => h) (Or.inl ⟨by rfl, ?_⟩) hHeld ?_
 rotate_left
 ·(intro wz _; go_simp; try with_reducible rfl)
 try simp only [qA, qB, qC, Act.put, qD, qE, qF]
 replace h := h.drew
 generalize w.drew = w1 at h hHeld ⊢
 clear w
 obtain ⟨w, rfl⟩ : ∃ q : World, q = w1 := ⟨_, rfl⟩
 refine wpAnyH_ready (rs := [4, 10]) (by kernel_rfl) (by simp) ?_
 refine AllReadyH.cons rfl (fun K hK => ?_) (AllReadyH.cons rfl (fun K hK => ?_) AllReadyH.nil)
 ·refine step_yields rfl (yields_load1 rfl 113 _ rfl rfl hp e8 Tryz.underlying113 rfl) h ?_
  refine hK.out _ _ hHeld (fun hHeld => ?_)
  clear hK K
  simp only [Act.put, qD, qE, qF]
  refine wpAnyH_ready (rs := [10]) (by kernel_rfl) (by simp) ?_
  refine AllReadyH.cons rfl (fun K hK => ?_) AllReadyH.nil
  (refine step_yields rfl (yields_agg rfl 112 _ rfl rfl hp e4 rfl Tryz.underlying112 rfl (by kernel_rfl)) h ?_)
  refine hK.out _ _ (hHeld) (fun hHeld => ?_)
  clear hK K
  try simp only [Act.put, qD, qE, qF]
  refine wpAnyH_take (i := 11) (v := ?_) rfl (by kernel_rfl) (by kernel_rfl) (by kernel_rfl) (fun _ _ _ h => h) (Or.inl ⟨by rfl, ?_⟩) hHeld ?_
  rotate_left
  ·(intro wz _; go_simp; try with_reducible rfl)
  try simp only [qA, qB, qC, Act.put, qD, qE, qF]
  refine wpAnyH_ready (rs := [12]) (by kernel_rfl) (by simp) ?_
  refine AllReadyH.cons rfl (fun K hK => ?_) AllReadyH.nil
  go_simp
  refine hK.out _ _ ((h.quietAlloc _).le hdl) (fun hHeld => ?_)
  clear hK K
  try simp only [Act.put, qD, qE, qF]
  clear hHeld
  obtain ⟨M3, hbx, hle2, hbl, hnl⟩ := h.box (.cells #[.int .i64 lv, .int .u64 lk, .int .i64 (k0 : Nat), .int .i64 (k1 : Nat), .int .i64 (k2 : Nat), .int .i64 (k3 : Nat)] 204)
  generalize w.alloc _ = wx at hbx ⊢
  generalize w.heap.size = bl at hbl hnl ⊢
  clear h
  try clear w
  have h := hbx
  clear hbx
  obtain ⟨w, rfl⟩ : ∃ x : World, x = wx := ⟨_, rfl⟩
  have hHeld : Has σ MD w := h.le (Mm.le_trans hdl hle2)
  have hrl : Rd M3 6 (.slice (some ⟨bl, 0, none⟩) 1 1) 1 [.int .i64 lv, .int .u64 lk, .int .i64 (k0 : Nat), .int .i64 (k1 : Nat), .int .i64 (k2 : Nat), .int .i64 (k3 : Nat)] := ⟨rfl, _, _, rfl, Nat.le_refl _, fun _ => ⟨bl, 0, _, _, _, rfl, hbl, fun j u hu => by simpa using hu⟩⟩
  have hleR := Mm.le_trans hle hle2
  have hownR := hown.le hle2
  refine wpAnyH_ready (rs := [13]) (by kernel_rfl) (by simp) ?_
  refine AllReadyH.cons rfl (fun K hK => ?_) AllReadyH.nil
  (refine step_append_rd h hleR rfl _ _ 113 rfl Tryz.underlying113 info_gv rfl (by omega) rfl hownR rfl hrl (by intro y hy; simp at hy; rcases hy with rfl | rfl | rfl | rfl | rfl | rfl <;> rfl) (by omega) (by omega) ?_; clear h; intro v w hacc; obtain ⟨M4, h, hl3, ho3⟩ := hacc)
  refine hK.out _ _ (h.le (Mm.le_trans hd6 hl3)) (fun hHeld => ?_)
  clear hK K
  try simp only [Act.put, qD, qE, qF]
  obtain ⟨A, cc, rfl⟩ := ho3.form
  refine wpAnyH_take (i := 14) (v := ?_) rfl (by kernel_rfl) (by kernel_rfl) (by kernel_rfl) (fun _ _ _ h => h) (Or.inl ⟨by rfl, ?_⟩) hHeld ?_
  rotate_left
  ·(intro wz _; go_simp; try with_reducible rfl)
  try simp only [qA, qB, qC, Act.put, qD, qE, qF]
  refine wpAnyH_take (i := 15) (v := ?_) rfl (by kernel_rfl) (by kernel_rfl) (by kernel_rfl) (fun _ _ _ h => h) (Or.inl ⟨by rfl, ?_⟩) hHeld ?_
  rotate_left
  ·(intro wz _; go_simp; try with_reducible rfl)
  try simp only [qA, qB, qC, Act.put, qD, qE, qF]
  have hdo : ∀ o, MD.le (M4.upd p o) := fun o => Mm.le_upd (Mm.le_trans hd6 hl3) hpN o
  refine wpAnyH_ready (rs := [16]) (by kernel_rfl) (by simp) ?_
  refine AllReadyH.cons rfl (fun K hK => ?_) AllReadyH.nil
  (refine step_store1 (v := .slice A (n + 1) cc) h rfl 113 _ _ rfl rfl rfl (hl3 _ _ hpo) l8 rfl rfl (by kernel_rfl) ?_; clear h; intro w h)
  refine hK.out _ _ (h.le (hdo _)) (fun hHeld => ?_)
  clear hK K
  try simp only [Act.put, qD, qE, qF]
  refine wpAnyH_done (by kernel_rfl) ?_ _
  rw [EQ.out] at h
  have ho4 : Own MR M4 204 6 (.slice A (n + 1) cc) (n + 1) ((s.given ++ [g]).flatMap encG) := by
   rw [FA.out, EG.out]
   exact ho3
  obtain ⟨lab', hB3, hM3, hK3⟩ := GAVE.out M4 _ hl3 ho4
  clear hdo ho4 ho3 hHeld hrl hleR hownR hl3 hle2
  go_wp2
  go_end0
  exact ⟨rfl, _, lab', _, h, hB3, by rw [E.out]; exact hM3, KPA.out.trans (hK3.mono fun _ h => .inr h)⟩
 ·refine step_yields rfl (yields_agg rfl 112 _ rfl rfl hp e4 rfl Tryz.underlying112 rfl (by kernel_rfl)) h ?_
  refine hK.out _ _ hHeld (fun hHeld => ?_)
  clear hK K
  simp only [Act.put, qD, qE, qF]
  refine wpAnyH_take (i := 11) (v := ?_) rfl (by kernel_rfl) (by kernel_rfl) (by kernel_rfl) (fun _ _ _ h => h) (Or.inl ⟨by rfl, ?_⟩) hHeld ?_
  rotate_left
  ·(intro wz _; go_simp; try with_reducible rfl)
  try simp only [qA, qB, qC, Act.put, qD, qE, qF]
  refine wpAnyH_ready (rs := [4, 12]) (by kernel_rfl) (by simp) ?_
  refine AllReadyH.cons rfl (fun K hK => ?_) (AllReadyH.cons rfl (fun K hK => ?_) AllReadyH.nil)
  ·refine step_yields rfl (yields_load1 rfl 113 _ rfl rfl hp e8 Tryz.underlying113 rfl) h ?_
   refine hK.out _ _ hHeld (fun hHeld => ?_)
   clear hK K
   simp only [Act.put, qD, qE, qF]
   refine wpAnyH_ready (rs := [12]) (by kernel_rfl) (by simp) ?_
   refine AllReadyH.cons rfl (fun K hK => ?_) AllReadyH.nil
   go_simp
   refine hK.out _ _ ((h.quietAlloc _).le hdl) (fun hHeld => ?_)
   clear hK K
   try simp only [Act.put, qD, qE, qF]
   clear hHeld
   obtain ⟨M3, hbx, hle2, hbl, hnl⟩ := h.box (.cells #[.int .i64 lv, .int .u64 lk, .int .i64 (k0 : Nat), .int .i64 (k1 : Nat), .int .i64 (k2 : Nat), .int .i64 (k3 : Nat)] 204)
   generalize w.alloc _ = wx at hbx ⊢
   generalize w.heap.size = bl at hbl hnl ⊢
   clear h
   try clear w
   have h := hbx
   clear hbx
   obtain ⟨w, rfl⟩ : ∃ x : World, x = wx := ⟨_, rfl⟩
   have hHeld : Has σ MD w := h.le (Mm.le_trans hdl hle2)
   have hrl : Rd M3 6 (.slice (some ⟨bl, 0, none⟩) 1 1) 1 [.int .i64 lv, .int .u64 lk, .int .i64 (k0 : Nat), .int .i64 (k1 : Nat), .int .i64 (k2 : Nat), .int .i64 (k3 : Nat)] := ⟨rfl, _, _, rfl, Nat.le_refl _, fun _ => ⟨bl, 0, _, _, _, rfl, hbl, fun j u hu => by simpa using hu⟩⟩
   have hleR := Mm.le_trans hle hle2
   have hownR := hown.le hle2
   refine wpAnyH_ready (rs := [13]) (by kernel_rfl) (by simp) ?_
   refine AllReadyH.cons rfl (fun K hK => ?_) AllReadyH.nil
   (refine step_append_rd h hleR rfl _ _ 113 rfl Tryz.underlying113 info_gv rfl (by omega) rfl hownR rfl hrl (by intro y hy; simp at hy; rcases hy with rfl | rfl | rfl | rfl | rfl | rfl <;> rfl) (by omega) (by omega) ?_; clear h; intro v w hacc; obtain ⟨M4, h, hl3, ho3⟩ := hacc)
   refine hK.out _ _ (h.le (Mm.le_trans hd6 hl3)) (fun hHeld => ?_)
   clear hK K
   try simp only [Act.put, qD, qE, qF]
   obtain ⟨A, cc, rfl⟩ := ho3.form
   refine wpAnyH_take (i := 14) (v := ?_) rfl (by kernel_rfl) (by kernel_rfl) (by kernel_rfl) (fun _ _ _ h => h) (Or.inl ⟨by rfl, ?_⟩) hHeld ?_
   rotate_left
   ·(intro wz _; go_simp; try with_reducible rfl)
   try simp only [qA, qB, qC, Act.put, qD, qE, qF]
   refine wpAnyH_take (i := 15) (v := ?_) rfl (by kernel_rfl) (by kernel_rfl) (by kernel_rfl) (fun _ _ _ h => h) (Or.inl ⟨by rfl, ?_⟩) hHeld ?_
   rotate_left
   ·(intro wz _; go_simp; try with_reducible rfl)
   try simp only [qA, qB, qC, Act.put, qD, qE, qF]
   have hdo : ∀ o, MD.le (M4.upd p o) := fun o => Mm.le_upd (Mm.le_trans hd6 hl3) hpN o
   refine wpAnyH_ready (rs := [16]) (by kernel_rfl) (by simp) ?_
   refine AllReadyH.cons rfl (fun K hK => ?_) AllReadyH.nil
   (refine step_store1 (v := .slice A (n + 1) cc) h rfl 113 _ _ rfl rfl rfl (hl3 _ _ hpo) l8 rfl rfl (by kernel_rfl) ?_; clear h; intro w h)
   refine hK.out _ _ (h.le (hdo _)) (fun hHeld => ?_)
   clear hK K
   try simp only [Act.put, qD, qE, qF]
   refine wpAnyH_done (by kernel_rfl) ?_ _
   rw [EQ.out] at h
   have ho4 : Own MR M4 204 6 (.slice A (n + 1) cc) (n + 1) ((s.given ++ [g]).flatMap encG) := by
    rw [FA.out, EG.out]
    exact ho3
   obtain ⟨lab', hB3, hM3, hK3⟩ := GAVE.out M4 _ hl3 ho4
   clear hdo ho4 ho3 hHeld hrl hleR hownR hl3 hle2
   go_wp2
   go_end0
   exact ⟨rfl, _, lab', _, h, hB3, by rw [E.out]; exact hM3, KPA.out.trans (hK3.mono fun _ h => .inr h)⟩
  ·go_simp
   refine hK.out _ _ ((h.quietAlloc _).le hdl) (fun hHeld => ?_)
   clear hK K
   try simp only [Act.put, qD, qE, qF]
   clear hHeld
   obtain ⟨M3, hbx, hle2, hbl, hnl⟩ := h.box (.cells #[.int .i64 lv, .int .u64 lk, .int .i64 (k0 : Nat), .int .i64 (k1 : Nat), .int .i64 (k2 : Nat), .int .i64 (k3 : Nat)] 204)
   generalize w.alloc _ = wx at hbx ⊢
   generalize w.heap.size = bl at hbl hnl ⊢
   clear h
   try clear w
   have h := hbx
   clear hbx
   obtain ⟨w, rfl⟩ : ∃ x : World, x = wx := ⟨_, rfl⟩
   have hHeld : Has σ MD w := h.le (Mm.le_trans hdl hle2)
   have hrl : Rd M3 6 (.slice (some ⟨bl, 0, none⟩) 1 1) 1 [.int .i64 lv, .int .u64 lk, .int .i64 (k0 : Nat), .int .i64 (k1 : Nat), .int .i64 (k2 : Nat), .int .i64 (k3 : Nat)] := ⟨rfl, _, _, rfl, Nat.le_refl _, fun _ => ⟨bl, 0, _, _, _, rfl, hbl, fun j u hu => by simpa using hu⟩⟩
   have hleR := Mm.le_trans hle hle2
   have hownR := hown.le hle2
   refine wpAnyH_ready (rs := [4]) (by kernel_rfl) (by simp) ?_
   refine AllReadyH.cons rfl (fun K hK => ?_) AllReadyH.nil
   (refine step_yields rfl (yields_load1 rfl 113 _ rfl rfl (hle2 _ _ hp) e8 Tryz.underlying113 rfl) h ?_)
   refine hK.out _ _ (hHeld) (fun hHeld => ?_)
   clear hK K
   try simp only [Act.put, qD, qE, qF]
   refine wpAnyH_ready (rs := [13]) (by kernel_rfl) (by simp) ?_
   refine AllReadyH.cons rfl (fun K hK => ?_) AllReadyH.nil
   (refine step_append_rd h hleR rfl _ _ 113 rfl Tryz.underlying113 info_gv rfl (by omega) rfl hownR rfl hrl (by intro y hy; simp at hy; rcases hy with rfl | rfl | rfl | rfl | rfl | rfl <;> rfl) (by omega) (by omega) ?_; clear h; intro v w hacc; obtain ⟨M4, h, hl3, ho3⟩ := hacc)
   refine hK.out _ _ (h.le (Mm.le_trans hd6 hl3)) (fun hHeld => ?_)
   clear hK K
   try simp only [Act.put, qD, qE, qF]
   obtain ⟨A, cc, rfl⟩ := ho3.form
   refine wpAnyH_take (i := 14) (v := ?_) rfl (by kernel_rfl) (by kernel_rfl) (by kernel_rfl) (fun _ _ _ h => h) (Or.inl ⟨by rfl, ?_⟩) hHeld ?_
   rotate_left
   ·(intro wz _; go_simp; try with_reducible rfl)
   try simp only [qA, qB, qC, Act.put, qD, qE, qF]
   refine wpAnyH_take (i := 15) (v := ?_) rfl (by kernel_rfl) (by kernel_rfl) (by kernel_rfl) (fun _ _ _ h => h) (Or.inl ⟨by rfl, ?_⟩) hHeld ?_
   rotate_left
   ·(intro wz _; go_simp; try with_reducible rfl)
   try simp only [qA, qB, qC, Act.put, qD, qE, qF]
   have hdo : ∀ o, MD.le (M4.upd p o) := fun o => Mm.le_upd (Mm.le_trans hd6 hl3) hpN o
   refine wpAnyH_ready (rs := [16]) (by kernel_rfl) (by simp) ?_
   refine AllReadyH.cons rfl (fun K hK => ?_) AllReadyH.nil
   (refine step_store1 (v := .slice A (n + 1) cc) h rfl 113 _ _ rfl rfl rfl (hl3 _ _ hpo) l8 rfl rfl (by kernel_rfl) ?_; clear h; intro w h)
   refine hK.out _ _ (h.le (hdo _)) (fun hHeld => ?_)
   clear hK K
   try simp only [Act.put, qD, qE, qF]
   refine wpAnyH_done (by kernel_rfl) ?_ _
   rw [EQ.out] at h
   have ho4 : Own MR M4 204 6 (.slice A (n + 1) cc) (n + 1) ((s.given ++ [g]).flatMap encG) := by
    rw [FA.out, EG.out]
    exact ho3
   obtain ⟨lab', hB3, hM3, hK3⟩ := GAVE.out M4 _ hl3 ho4
   clear hdo ho4 ho3 hHeld hrl hleR hownR hl3 hle2
   go_wp2
   go_end0
   exact ⟨rfl, _, lab', _, h, hB3, by rw [E.out]; exact hM3, KPA.out.trans (hK3.mono fun _ h => .inr h)⟩
end
end
section
open Go.RowKit
/-- A spot is in a map once. -/
def OnceE (es : List Ent) : Prop := (es.map fun x => (x.l, x.s)).Nodup
theorem firstHeld_val (n : Nat) : ∀ l t : Int, valE l t (firstHeld n) = if t = 1 ∧ 0 ≤ l ∧ l < n then 1 else 0 := by
 intro l t
 induction n with
 | zero => simp [firstHeld, valE]
 | succ n ih =>
  have e : ∀ (a b : List Ent), valE l t (a ++ b) = if hasE l t a then valE l t a else valE l t b := fun a b => by
   induction a with
   | nil => simp [hasE]
   | cons x r ih2 =>
    simp only [List.cons_append, valE, hasE]
    by_cases h : (l == x.l && t == x.s) = true
    ·simp only [h, if_true, Bool.true_or]
    ·simp only [Bool.not_eq_true] at h
     simp only [h, Bool.false_eq_true, if_false, Bool.false_or, ih2]
  have hv : hasE l t (firstHeld n) = true → valE l t (firstHeld n) = 1 := by
   have : ∀ (ls : List Nat), hasE l t (ls.map fun (l : Nat) => (⟨l, 1, 1, l⟩ : Ent)) = true → valE l t (ls.map fun (l : Nat) => (⟨l, 1, 1, l⟩ : Ent)) = 1 := fun ls => by
    induction ls with
    | nil => intro h; cases h
    | cons x r ih2 =>
     intro h
     simp only [List.map_cons, hasE, valE] at h ⊢
     cases h3 : (l == (x : Int) && t == 1)
     ·rw [h3] at h; simp only [Bool.false_or] at h; simpa using ih2 h
     ·simp
   exact this _
  rw [← firstHeld_put, putE_none _ _ _ _ _ (firstHeld_has n), e]
  cases hh : hasE l t (firstHeld n)
  ·have := hasE_val hh
   rw [this] at ih
   simp only [Bool.false_eq_true, if_false, valE]
   split
   ·rename_i h
    simp only [Bool.and_eq_true, beq_iff_eq] at h
    rw [if_pos (by omega)]
   ·rename_i h
    simp only [Bool.and_eq_true, beq_iff_eq] at h
    split at ih
    ·cases ih
    ·rw [if_neg (by omega)]
  ·have h1 := hv hh
   rw [h1] at ih
   simp only [if_true]
   rw [h1]
   split at ih
   ·rw [if_pos (by omega)]
   ·cases ih
theorem valE_put (l t v : Int) (clk : Nat) (l' t' : Int) : ∀ es : List Ent, valE l' t' (putE l t v clk es) = if l' = l ∧ t' = t then v else valE l' t' es
 | [] => by
  simp only [putE, valE]
  by_cases h : l' = l ∧ t' = t
  ·rw [if_pos h, if_pos (by simpa using h)]
  ·rw [if_neg h, if_neg (by simpa using h)]
 | x :: r => by
  have ih := valE_put l t v clk l' t' r
  unfold putE
  cases hx : (l == x.l && t == x.s)
  ·simp only [Bool.false_eq_true, if_false, valE, ih]
   by_cases h : l' = l ∧ t' = t
   ·obtain ⟨rfl, rfl⟩ := h
    rw [hx]
    simp
   ·simp only [if_neg h]
  ·simp only [Bool.and_eq_true, beq_iff_eq] at hx
   obtain ⟨rfl, rfl⟩ := hx
   simp only [if_true, valE]
   by_cases h : l' = x.l ∧ t' = x.s
   ·rw [if_pos h]
    simp [h.1, h.2]
   ·rw [if_neg h]
    have : (l' == x.l && t' == x.s) = false := by simpa using h
    simp only [this, Bool.false_eq_true, if_false]
theorem StampE.put {es : List Ent} {clk : Nat} (h : StampE es clk) (l t v : Int) : StampE (putE l t v clk es) (if hasE l t es then clk else clk + 1) := by
 have hb : ∀ es : List Ent, hasE l t es = true → (putE l t v clk es).map (·.born) = es.map (·.born) := by
  intro es
  induction es with
  | nil => intro h; cases h
  | cons x r ih =>
   intro h
   unfold hasE at h
   unfold putE
   cases hx : (l == x.l && t == x.s)
   ·rw [hx, Bool.false_or] at h
    simp [ih h]
   ·simp
 cases hh : hasE l t es
 ·rw [putE_none _ _ _ _ _ hh]
  simp only [Bool.false_eq_true, if_false]
  refine ⟨fun y hy => ?_, ?_⟩
  ·rcases List.mem_append.1 hy with hy | hy
   ·exact Nat.lt_succ_of_lt (h.1 y hy)
   ·simp at hy; subst hy; exact Nat.lt_succ_self _
  ·rw [List.map_append, List.nodup_append]
   refine ⟨h.2, by simp, fun a ha b hb => ?_⟩
   simp at hb
   subst hb
   obtain ⟨y, hy, rfl⟩ := List.mem_map.1 ha
   have := h.1 y hy
   omega
 ·simp only [if_true]
  have e := hb es hh
  refine ⟨fun y hy => ?_, by rw [e]; exact h.2⟩
  have : y.born ∈ es.map (·.born) := by rw [← e]; exact List.mem_map_of_mem hy
  obtain ⟨z, hz, e2⟩ := List.mem_map.1 this
  have := h.1 z hz
  omega
theorem valE_del_ne (l t l' t' : Int) (hne : ¬ (l' = l ∧ t' = t)) : ∀ es : List Ent, valE l' t' (delE l t es) = valE l' t' es
 | [] => rfl
 | x :: r => by
  have ih := valE_del_ne l t l' t' hne r
  unfold delE
  cases hx : (l == x.l && t == x.s)
  ·simp only [Bool.false_eq_true, if_false, valE, ih]
  ·simp only [Bool.and_eq_true, beq_iff_eq] at hx
   obtain ⟨rfl, rfl⟩ := hx
   have : (l' == x.l && t' == x.s) = false := by simpa using hne
   simp only [if_true, valE, this, Bool.false_eq_true, if_false]
theorem valE_del (l t : Int) : ∀ es : List Ent, OnceE es → valE l t (delE l t es) = 0
 | [], _ => rfl
 | x :: r, h => by
  unfold OnceE at h
  simp only [List.map_cons, List.nodup_cons] at h
  unfold delE
  cases hx : (l == x.l && t == x.s)
  ·simp only [Bool.false_eq_true, if_false, valE, hx]
   exact valE_del l t r h.2
  ·simp only [Bool.and_eq_true, beq_iff_eq] at hx
   obtain ⟨rfl, rfl⟩ := hx
   simp only [if_true]
   apply hasE_val
   have h1 := h.1
   have : ∀ r : List Ent, (x.l, x.s) ∉ r.map (fun x => (x.l, x.s)) → hasE x.l x.s r = false := by
    intro r
    induction r with
    | nil => intro _; rfl
    | cons y r ih =>
     intro h
     simp only [List.map_cons, List.mem_cons, not_or] at h
     unfold hasE
     rw [ih h.2, Bool.or_false]
     have := h.1
     simp only [Prod.mk.injEq] at this
     simpa using this
   exact this r h1
theorem OnceE.del {es : List Ent} (h : OnceE es) (l t : Int) : OnceE (delE l t es) := by
 induction es with
 | nil => exact h
 | cons x r ih =>
  unfold OnceE at h ih ⊢
  simp only [List.map_cons, List.nodup_cons] at h
  unfold delE
  split
  ·exact h.2
  ·simp only [List.map_cons, List.nodup_cons]
   refine ⟨fun hm => h.1 ?_, ih h.2⟩
   obtain ⟨y, hy, e⟩ := List.mem_map.1 hm
   have : ∀ r : List Ent, y ∈ delE l t r → y ∈ r := fun r => by
    induction r with
    | nil => intro h; exact h
    | cons z r ih =>
     intro h
     unfold delE at h
     split at h
     ·exact List.mem_cons_of_mem _ h
     ·rcases List.mem_cons.1 h with rfl | h
      ·exact List.mem_cons_self
      ·exact List.mem_cons_of_mem _ (ih h)
   exact List.mem_map.2 ⟨y, this r hy, e⟩
theorem watch_given (s : MachS) (lv : Int) (acc wr : Nat) : (s.watch lv acc wr).given = s.given ∧ ((s.watch lv acc wr).fault = (s.fault || (decide (s.mem.acc ≠ acc) && s.wrong lv acc wr))) := by
 unfold MachS.watch
 split
 ·rename_i h; simp [h]
 ·rename_i h
  split
  ·rename_i h2; simp [h, h2]
  ·rename_i h2; simp [h, h2]
theorem OnceE.put {es : List Ent} (h : OnceE es) (l t v : Int) (clk : Nat) : OnceE (putE l t v clk es) := by
 have hm : ∀ (es : List Ent) (y : Int × Int), y ∈ (putE l t v clk es).map (fun x => (x.l, x.s)) → y = (l, t) ∨ y ∈ es.map (fun x => (x.l, x.s)) := by
  intro es
  induction es with
  | nil => intro y hy; simp [putE] at hy; exact .inl hy
  | cons x r ih =>
   intro y hy
   unfold putE at hy
   split at hy
   ·exact .inr (by simpa using hy)
   ·simp only [List.map_cons, List.mem_cons] at hy ⊢
    rcases hy with hy | hy
    ·exact .inr (.inl hy)
    ·rcases ih y hy with h | h
     ·exact .inl h
     ·exact .inr (.inr h)
 induction es with
 | nil => unfold OnceE; simp [putE]
 | cons x r ih =>
  unfold OnceE at h ih ⊢
  simp only [List.map_cons, List.nodup_cons] at h
  unfold putE
  split
  ·simpa using h
  ·rename_i hne
   simp only [List.map_cons, List.nodup_cons]
   refine ⟨fun hx => ?_, ih h.2⟩
   rcases hm r _ hx with e | e
   ·apply hne
    simp only [Prod.mk.injEq] at e
    simp [e.1, e.2]
   ·exact h.1 e
end
section
open Go.RowKit
theorem delE_sub (l t : Int) : ∀ es : List Ent, (delE l t es).Sublist es
 | [] => .slnil
 | x :: r => by
  unfold delE
  split
  ·exact List.sublist_cons_self _ _
  ·exact (delE_sub l t r).cons_cons _
theorem StampE.del {es : List Ent} {clk : Nat} (h : StampE es clk) (l t : Int) : StampE (delE l t es) clk :=
 ⟨fun x hx => h.1 x ((delE_sub l t es).subset hx), h.2.sublist ((delE_sub l t es).map _)⟩
/-- Each entry is a slot that there is, and its number is 1. -/
def KeysE (lv sl : Int) (es : List Ent) : Prop := ∀ x ∈ es, 0 ≤ x.l ∧ x.l < lv ∧ 1 ≤ x.s ∧ x.s ≤ sl ∧ x.v = 1
theorem KeysE.del {lv sl : Int} {es : List Ent} (h : KeysE lv sl es) (l t : Int) : KeysE lv sl (delE l t es) := fun x hx => h x ((delE_sub l t es).subset hx)
theorem KeysE.put {lv sl : Int} {l t : Int} (hl : 0 ≤ l ∧ l < lv ∧ 1 ≤ t ∧ t ≤ sl) (clk : Nat) : ∀ {es : List Ent}, KeysE lv sl es → KeysE lv sl (putE l t 1 clk es)
 | [], _ => fun x hx => by
  simp only [putE, List.mem_singleton] at hx
  subst hx
  exact ⟨hl.1, hl.2.1, hl.2.2.1, hl.2.2.2, rfl⟩
 | y :: r, h => fun x hx => by
  unfold putE at hx
  have hy := h y List.mem_cons_self
  split at hx
  ·rcases List.mem_cons.1 hx with e | hx
   ·subst e; exact ⟨hy.1, hy.2.1, hy.2.2.1, hy.2.2.2.1, rfl⟩
   ·exact h x (List.mem_cons_of_mem _ hx)
  ·rcases List.mem_cons.1 hx with e | hx
   ·subst e; exact hy
   ·exact KeysE.put hl clk (fun z hz => h z (List.mem_cons_of_mem _ hz)) x hx
end
section
open Go.RowKit
/-- A frame. -/
structure Fr where
 fn : Nat
 pc : Nat
 r : Nat → Nat
def Fr.enc (F : Fr) : FrameS := ⟨F.fn, F.pc, fun i => F.r i⟩
def Fr.goto (F : Fr) (k : Nat) : Fr := { F with pc := k }
def Fr.reg (F : Fr) (i v : Nat) : Fr := { F with r := put1 F.r i v }
theorem fr_goto (F : Fr) (k : Nat) : F.enc.goto (k : Nat) = (F.goto k).enc := rfl
theorem fr_reg (F : Fr) (i v : Nat) : F.enc.reg i (v : Nat) = (F.reg i v).enc := by
 unfold FrameS.reg Fr.reg Fr.enc
 congr 1
 funext j
 unfold upd put1
 by_cases h : j = i <;> simp [h]
structure GM where
 w : Nat → Nat → Nat
 held : Nat → Nat → Bool
 wg : Nat → Nat → Nat
 thr : Nat → List Fr
 told : Nat → Nat → Nat
def GM.set (g : GM) (l o v : Nat) : GM := { g with w := put1 g.w l (put1 (g.w l) o v) }
def GM.top (g : GM) (t : Nat) (fs : List Fr) (F : Fr) : GM := { g with thr := put1 g.thr t (fs ++ [F]) }
def GM.back (g : GM) (t : Nat) (fs : List Fr) (us : List Nat) : GM := { g with thr := put1 g.thr t fs, told := put1 g.told t fun i => us.getD i 0 }
def GM.hold (g : GM) (l i : Nat) : GM := { g with held := put1 g.held l (put1 (g.held l) i true) }
def GM.drop (g : GM) (l i : Nat) : GM := { g with held := put1 g.held l (put1 (g.held l) i false), wg := put1 g.wg l (put1 (g.wg l) i (g.wg l i + 1)) }
/-- Which word of its level a place is. -/
def offK (c : Nat → Int) (k : Nat) (i j : Int) : Nat := (firsts c k + numK k i j).toNat
theorem off_lt {c : Nat → Int} (hc : ConfMay c) {k : Nat} {i j : Int} (hk : InK c k i j) : 0 ≤ firsts c k + numK k i j ∧ (offK c k i j : Int) < firsts c 10 := by
 have hs := firsts_succ c (k := k) hk.kind
 have hnn := numK_nn hk
 have hhi := hk.high
 have hf0 := (firsts_bd hc k).1
 have hkk := hk.kind
 have hle : firsts c (k + 1) ≤ firsts c 10 := by
  obtain ⟨_, _, _, _, ⟨g2, g3⟩, ⟨g4, g5⟩, _⟩ := hc
  unfold firsts
  rcases k with _ | _ | _ | _ | _ | _ | _ | _ | _ | _ | k <;> simp <;> omega
 unfold offK
 omega
theorem atK_off {c : Nat → Int} (hc : ConfMay c) {k l : Nat} {i j : Int} (hk : InK c k i j) : (atK c (l : Nat) k i j).toNat = l * (firsts c 10).toNat + offK c k i j := by
 have h1 := (off_lt hc hk).1
 have h2 := (firsts_bd hc 10).1
 have e : atK c (l : Nat) k i j = ((l * (firsts c 10).toNat + offK c k i j : Nat) : Int) := by
  unfold atK offK
  rw [Int.natCast_add, Int.natCast_mul, Int.toNat_of_nonneg h2, Int.toNat_of_nonneg h1]
  omega
 rw [e, Int.toNat_natCast]
theorem place_ne {Z l l' o o' : Nat} (h : o < Z) (h' : o' < Z) (e : l * Z + o = l' * Z + o') : l = l' ∧ o = o' := by
 have a1 : (l * Z + o) / Z = l := by rw [Nat.add_comm, Nat.add_mul_div_right _ _ (by omega), Nat.div_eq_of_lt h, Nat.zero_add]
 have a2 : (l' * Z + o') / Z = l' := by rw [Nat.add_comm, Nat.add_mul_div_right _ _ (by omega), Nat.div_eq_of_lt h', Nat.zero_add]
 have : l = l' := by rw [← a1, ← a2, e]
 subst this
 exact ⟨rfl, by omega⟩
/-- Words, by level and offset. -/
def WordsM (c : Nat → Int) (f : Nat → Int) (w : Nat → Nat → Nat) : Prop := ∀ l o : Nat, (l : Int) < c 0 → (o : Int) < firsts c 10 → f (l * (firsts c 10).toNat + o) = (w l o : Int)
theorem WordsM.at {c f : Nat → Int} {w : Nat → Nat → Nat} (h : WordsM c f w) (hc : ConfMay c) {l k : Nat} {i j : Int} (hl : (l : Int) < c 0) (hk : InK c k i j) : f (atK c (l : Nat) k i j).toNat = (w l (offK c k i j) : Int) := by
 rw [atK_off hc hk]
 exact h l _ hl (off_lt hc hk).2
theorem WordsM.set {c f : Nat → Int} {w : Nat → Nat → Nat} (h : WordsM c f w) (hc : ConfMay c) {l k : Nat} {i j : Int} (hk : InK c k i j) (v : Nat) : WordsM c (upd f (atK c (l : Nat) k i j).toNat v) (put1 w l (put1 (w l) (offK c k i j) v)) := fun l' o hl ho => by
 rw [atK_off hc hk]
 have hb := (off_lt hc hk).2
 have h2 := (firsts_bd hc 10).1
 unfold upd
 by_cases e : l' * (firsts c 10).toNat + o = l * (firsts c 10).toNat + offK c k i j
 ·obtain ⟨e1, e2⟩ := place_ne (by omega) (by omega) e
  subst e1
  subst e2
  rw [if_pos rfl, put1_same, put1_same]
 ·rw [if_neg e, h l' o hl ho]
  by_cases e1 : l' = l
  ·subst e1
   rw [put1_same, put1_ne fun e2 => e (by rw [e2])]
  ·rw [put1_ne e1]
/-- What the warden knows. -/
structure WardM (c : Nat → Int) (n : Nat) (wd : WardS) (held : Nat → Nat → Bool) (wg : Nat → Nat → Nat) : Prop where
 lv : wd.lv = c 0
 sl : wd.sl = c 10
 held : ∀ l i : Nat, (l : Int) < c 0 → 1 ≤ i → (i : Int) ≤ c 10 → valE (l : Nat) (i : Nat) wd.held = if held l i then 1 else 0
 gen : ∀ l i : Nat, (l : Int) < c 0 → 1 ≤ i → (i : Int) ≤ c 10 → valE (l : Nat) (i : Nat) wd.gens = (wg l i : Int)
 once : OnceE wd.held
 stamp : StampE wd.gens wd.gclk
 gens : ∀ l i : Int, 0 ≤ valE l i wd.gens ∧ valE l i wd.gens ≤ n
 slips : wd.slips = 0
 keys : KeysE (c 0) (c 10) wd.held
 hst : StampE wd.held wd.hclk
theorem WardM.mono {c : Nat → Int} {n m : Nat} {wd : WardS} {held : Nat → Nat → Bool} {wg : Nat → Nat → Nat} (h : WardM c n wd held wg) (hm : n ≤ m) : WardM c m wd held wg := ⟨h.lv, h.sl, h.held, h.gen, h.once, h.stamp, fun l i => by have := h.gens l i; omega, h.slips, h.keys, h.hst⟩
theorem WardM.take {c : Nat → Int} {n l i : Nat} {wd : WardS} {held : Nat → Nat → Bool} {wg : Nat → Nat → Nat} (h : WardM c n wd held wg) (hl : (l : Int) < c 0) (h1 : 1 ≤ i) (h2 : (i : Int) ≤ c 10) : WardM c n (wd.take (l : Nat) (i : Nat)) (put1 held l (put1 (held l) i true)) wg := by
 refine ⟨h.lv, h.sl, fun l' j a1 a2 a3 => ?_, h.gen, h.once.put _ _ _ _, h.stamp, h.gens, h.slips, h.keys.put ⟨by omega, hl, by omega, h2⟩ _, h.hst.put _ _ _⟩
 show valE _ _ (putE _ _ _ _ _) = _
 rw [valE_put]
 by_cases hl' : l' = l
 ·subst hl'
  rw [put1_same]
  by_cases hj : j = i
  ·subst hj; rw [put1_same, if_pos ⟨rfl, rfl⟩]; rfl
  ·rw [put1_ne hj, if_neg (by omega), h.held l' j a1 a2 a3]
 ·rw [put1_ne hl', if_neg (by omega), h.held l' j a1 a2 a3]
theorem WardM.gone {c : Nat → Int} {n l i : Nat} {wd : WardS} {held : Nat → Nat → Bool} {wg : Nat → Nat → Nat} (h : WardM c n wd held wg) (hl : (l : Int) < c 0) (h1 : 1 ≤ i) (h2 : (i : Int) ≤ c 10) : WardM c (n + 1) (wd.gone (l : Nat) (i : Nat)) (put1 held l (put1 (held l) i false)) (put1 wg l (put1 (wg l) i (wg l i + 1))) := by
 refine ⟨h.lv, h.sl, fun l' j h1 h2 h3 => ?_, fun l' j a1 a2 a3 => ?_, h.once.del _ _, h.stamp.put _ _ _, fun l' j => ?_, h.slips, h.keys.del _ _, h.hst.del _ _⟩
 ·show valE _ _ (delE _ _ _) = _
  by_cases hl : l' = l
  ·subst hl
   rw [put1_same]
   by_cases hj : j = i
   ·subst hj; rw [put1_same, valE_del _ _ _ h.once]; rfl
   ·rw [put1_ne hj, valE_del_ne _ _ _ _ (by omega), h.held l' j h1 h2 h3]
  ·rw [put1_ne hl, valE_del_ne _ _ _ _ (by omega), h.held l' j h1 h2 h3]
 ·show valE _ _ (putE _ _ _ _ _) = _
  rw [valE_put]
  by_cases hl' : l' = l
  ·subst hl'
   rw [put1_same]
   by_cases hj : j = i
   ·subst hj; rw [put1_same, if_pos ⟨rfl, rfl⟩, h.gen l' j a1 a2 a3]; omega
   ·rw [put1_ne hj, if_neg (by omega), h.gen l' j a1 a2 a3]
  ·rw [put1_ne hl', if_neg (by omega), h.gen l' j a1 a2 a3]
 ·show 0 ≤ valE _ _ (putE _ _ _ _ _) ∧ valE _ _ (putE _ _ _ _ _) ≤ _
  rw [valE_put]
  have a := h.gens l i
  have b := h.gens l' j
  split <;> omega
/-- What threads are within, and were told. -/
structure ThrM (c : Nat → Int) (thr : Nat → ThrS) (g : GM) : Prop where
 fr : ∀ t : Nat, (t : Int) < c 1 → (thr t).frames = (g.thr t).map Fr.enc
 run : ∀ t : Nat, ((thr t).st || (thr t).ki) = false
 told : ∀ t j : Nat, (thr t).told j = (g.told t j : Int)
/-- The machine is so, behind n steps. -/
structure AbsM (c : Nat → Int) (tp : List Nat) (n : Nat) (s : MachS) (g : GM) : Prop where
 cc : s.c = c
 may : ConfMay c
 ttp : s.tp = tp
 memN : (s.mem.N : Int) = c 0 * firsts c 10
 words : WordsM c s.mem.f g.w
 ward : WardM c n s.ward g.held g.wg
 thr : ThrM c s.thr g
 flt : s.mem.flt = false
 fault : s.fault = false
 acc : s.mem.acc ≤ n
 wr : s.mem.wr ≤ n
 steps : s.steps ≤ n
 clk : ∀ k, s.clk k ≤ n
 given : s.given.length ≤ n
theorem AbsM.good {c : Nat → Int} {tp : List Nat} {n : Nat} {s : MachS} {g : GM} (h : AbsM c tp n s g) : s.bad = false := by
 unfold MachS.bad
 rw [h.fault, h.flt, h.ward.slips]
 rfl
/-- What a bit of a routine makes of a machine. -/
structure Did (c : Nat → Int) (n l : Nat) (s s2 : MachS) (g2 : GM) : Prop where
 e : s2.c = s.c ∧ s2.tp = s.tp ∧ s2.steps = s.steps ∧ s2.clk = (s.tick l).clk ∧ s2.fault = s.fault
 N : s2.mem.N = s.mem.N
 flt : s2.mem.flt = s.mem.flt
 acc : s2.mem.acc = s.mem.acc ∨ (s2.mem.acc = s.mem.acc + 1 ∧ s2.mem.last / firsts c 10 = (l : Int))
 wr : s2.mem.wr ≤ s.mem.wr + 1
 words : WordsM c s2.mem.f g2.w
 ward : WardM c (n + 1) s2.ward g2.held g2.wg
 thr : ThrM c s2.thr g2
 given : s2.given.length ≤ n + 1
section
variable {c : Nat → Int} {tp : List Nat} {n t l : Nat} {s s2 : MachS} {g g2 : GM} {thr : Nat → ThrS}
theorem AbsM.next (hA : AbsM c tp n s g) (h : Did c n l s s2 g2) : AbsM c tp (n + 1) (s2.after s l) g2 := by
 obtain ⟨a1, a2, a3, a4, a5, a6, a7, a8⟩ := after_same s2 s l
 obtain ⟨e1, e2, e3, e4, e5⟩ := h.e
 have hf : (s2.after s l).fault = false := by
  unfold MachS.after
  rw [(watch_given _ _ _ _).2]
  show (s2.fault || _) = false
  rw [e5, hA.fault, Bool.false_or]
  rcases h.acc with ea | ⟨ea, el⟩
  ·show (decide (s2.mem.acc ≠ s.mem.acc) && _) = false
   rw [ea]; simp
  ·unfold MachS.wrong MachS.lvOf
   show (_ && (decide ((s.mem.acc : Int) + 1 < (s2.mem.acc : Int)) || (_ && (decide ((l : Int) < s2.mem.last / firsts s2.c 10) || (_ && s2.mem.last / firsts s2.c 10 != (l : Int)))))) = false
   rw [ea, e1, hA.cc, el]
   simp
 refine ⟨a1.trans (e1.trans hA.cc), hA.may, a2.trans (e2.trans hA.ttp), by rw [a3, h.N]; exact hA.memN, by rw [a3]; exact h.words, by rw [a4]; exact h.ward, by rw [a5]; exact h.thr, by rw [a3, h.flt]; exact hA.flt, hf, ?_, ?_, ?_, fun k => ?_, by rw [a8]; exact h.given⟩
 ·rw [a3]; have := hA.acc; rcases h.acc with ea | ⟨ea, _⟩ <;> omega
 ·rw [a3]; have := hA.wr; have := h.wr; omega
 ·rw [a7, e3]; have := hA.steps; omega
 ·rw [a6, e4]
  show (if l ≤ k ∧ k < 4 then s.clk k + 1 else s.clk k) ≤ _
  have := hA.clk k
  split <;> omega
/-- A thread's top frame is another one. -/
theorem ThrM.top (h : ThrM c thr g) {fs : List Fr} {F : Fr} : ThrM c (fun j => if j = t then { thr t with frames := fs.map Fr.enc ++ [F.enc] } else thr j) (g.top t fs F) := by
 refine ⟨fun t' ht' => ?_, fun t' => ?_, fun t' j => ?_⟩
 ·show _ = List.map Fr.enc (put1 g.thr t (fs ++ [F]) t')
  by_cases h1 : t' = t
  ·subst h1; rw [put1_same, if_pos rfl]; simp
  ·rw [put1_ne h1, if_neg h1]; exact h.fr t' ht'
 ·by_cases h1 : t' = t
  ·subst h1; rw [if_pos rfl]; exact h.run t'
  ·rw [if_neg h1]; exact h.run t'
 ·by_cases h1 : t' = t
  ·subst h1; rw [if_pos rfl]; exact h.told t' j
  ·rw [if_neg h1]; exact h.told t' j
/-- A thread's top frame is over. -/
theorem ThrM.back (h : ThrM c thr g) {fs : List Fr} {us : List Nat} {x : ThrS} (hx : x.frames.dropLast = fs.map Fr.enc ∧ x.st = (thr t).st ∧ x.ki = (thr t).ki) : ThrM c (fun j => if j = t then x.back (us.map fun u : Nat => (u : Int)) else thr j) (g.back t fs us) := by
 refine ⟨fun t' ht' => ?_, fun t' => ?_, fun t' j => ?_⟩
 ·show _ = List.map Fr.enc (put1 g.thr t fs t')
  by_cases h1 : t' = t
  ·subst h1; rw [put1_same, if_pos rfl]; exact hx.1
  ·rw [put1_ne h1, if_neg h1]; exact h.fr t' ht'
 ·by_cases h1 : t' = t
  ·subst h1; rw [if_pos rfl]; show (x.st || x.ki) = false; rw [hx.2.1, hx.2.2]; exact h.run t'
  ·rw [if_neg h1]; exact h.run t'
 ·show _ = ((put1 g.told t (fun i => us.getD i 0) t' j : Nat) : Int)
  by_cases h1 : t' = t
  ·subst h1
   rw [put1_same, if_pos rfl]
   show (us.map fun u : Nat => (u : Int)).getD j 0 = _
   rw [List.getD_eq_getElem?_getD, List.getD_eq_getElem?_getD, List.getElem?_map]
   cases us[j]? <;> rfl
  ·rw [put1_ne h1, if_neg h1]; exact h.told t' j
/-- The memory behind one access. -/
def memTo' (m : MemS) (a : Int) (f : Nat → Int) (d : Nat) : MemS := { m with acc := m.acc + 1, last := a, named := true, f := f, wr := m.wr + d }
theorem at_to' {m : MemS} {a : Int} (h : m.hit a = true) : m.at_ a = memTo' m a m.f 0 := at_hit h
theorem store_to' {m : MemS} {a v : Int} (h : m.hit a = true) : m.store a v = memTo' m a (upd m.f a.toNat v) 1 := store_hit h
theorem cas_yes' {m : MemS} {a x v : Int} (h : m.hit a = true) (hs : m.swaps a x = true) : m.cas a x v = memTo' m a (upd m.f a.toNat v) 1 := by unfold MemS.cas; rw [if_pos hs]; exact store_hit h
theorem load_at' {m : MemS} {a : Int} {v : Int} (h : m.hit a = true) (hv : m.f a.toNat = v) : m.load a = v := (load_hit h).trans hv
/-- A bit of one access. -/
theorem Did.one {k d : Nat} {i j : Int} {f : Nat → Int} (hA : AbsM c tp n s g) (hk : InK c k i j) (hd : d ≤ 1) (e : s2.c = s.c ∧ s2.tp = s.tp ∧ s2.steps = s.steps ∧ s2.clk = (s.tick l).clk ∧ s2.fault = s.fault) (hm : s2.mem = memTo' s.mem (atK c (l : Nat) k i j) f d) (hW : WordsM c f g2.w) (hD : WardM c (n + 1) s2.ward g2.held g2.wg) (hT : ThrM c s2.thr g2) (hG : s2.given.length ≤ n + 1) : Did c n l s s2 g2 := by
 refine ⟨e, by rw [hm]; rfl, by rw [hm]; rfl, .inr ⟨by rw [hm]; rfl, ?_⟩, by rw [hm]; show s.mem.wr + d ≤ _; omega, by rw [hm]; exact hW, hD, hT, hG⟩
 rw [hm]
 have hs := firsts_succ c (k := k) hk.kind
 have h1 := off_lt hA.may hk
 have h31 := firsts_ten hA.may
 show atK c (l : Nat) k i j / firsts c 10 = _
 unfold offK at h1
 unfold atK
 generalize firsts c 10 = T at *
 rw [show (l : Int) * T + firsts c k + numK k i j = (firsts c k + numK k i j) + (l : Int) * T by omega, Int.add_mul_ediv_right _ _ (by omega), Int.ediv_eq_zero_of_lt h1.1 (by omega)]
 omega
/-- A bit of no access. -/
theorem Did.none (hA : AbsM c tp n s g) (e : s2.c = s.c ∧ s2.tp = s.tp ∧ s2.steps = s.steps ∧ s2.clk = (s.tick l).clk ∧ s2.fault = s.fault) (hm : s2.mem = s.mem) (hW : WordsM c s.mem.f g2.w) (hD : WardM c (n + 1) s2.ward g2.held g2.wg) (hT : ThrM c s2.thr g2) (hG : s2.given.length ≤ n + 1) : Did c n l s s2 g2 :=
 ⟨e, by rw [hm], by rw [hm], .inl (by rw [hm]), by rw [hm]; omega, by rw [hm]; exact hW, hD, hT, hG⟩
end
/-- What a function that does a bit of a thread's top frame makes of a machine. -/
def DoesTo (f : FuncId) (σ : World) (p t : Nat) (c : Nat → Int) (tp : List Nat) (n l : Nat) (g g2 : GM) : Prop := ∀ (K : Mm) (s : MachS) (M : Mm) (lab : Nat → Nat) (w : World), Has σ M w → Mach M lab p (s.tick l) → Base K M lab → AbsM c tp n s g → Calls Tryz.prog f #[.pointer (some ⟨p, 0, none⟩), .int .i64 (t : Nat)] w fun r w' => r = .returned (.tuple #[]) ∧ ∃ M' lab' s2, Has σ M' w' ∧ Mach M' lab' p s2 ∧ Base K M' lab' ∧ Did c n l s s2 g2
theorem frames_nil {l : List Fr} : (l.map Fr.enc).isEmpty = l.isEmpty := by cases l <;> rfl
/-- A step of a thread that is within something. -/
theorem step_does {σ w : World} {K M : Mm} {lab : Nat → Nat} {p t q l n : Nat} {s : MachS} {c : Nat → Int} {tp : List Nat} {g g2 : GM} {f : FuncId} (h : Has σ M w) (hM : Mach M lab p s) (hB : Base K M lab) (hA : AbsM c tp n s g) (hn : n < 100000) (ht : (t : Int) < c 1) (hq : tp[t]? = some q) (hl : levelOf c t = (l : Nat)) (hfr : g.thr t ≠ []) (hfl : (g.thr t).length < 100000) (hfl2 : (g2.thr t).length < 100000) (hent : entB Tryz.prog f = true) (hD : DoesTo f σ p t c tp n l g g2) :
  Calls Tryz.prog 33 #[.pointer (some ⟨p, 0, none⟩), .int .i64 (t : Nat), .func (.func f) #[] #[]] w fun r w' => ∃ M' lab' s', r = .returned (.bool (!(g2.thr t).isEmpty)) ∧ Has σ M' w' ∧ Mach M' lab' p s' ∧ Base K M' lab' ∧ AbsM c tp (n + 1) s' g2 := by
 have hfs := hA.thr.fr t ht
 have STP := step_eq (R := fun x => Did c n l s x g2) (F := f) (caps := #[]) h hM hB (t := t) (q := q) (lv := l) (by rw [hA.ttp]; exact hq) (by rw [hfs]; simpa using hfr) (hA.thr.run t) (by rw [hA.cc]; exact hl) (by have := hA.acc; omega) (by have := hA.steps; omega) (fun k => by have := hA.clk k; omega) (by rw [hfs, List.length_map]; omega) hent
  (fun M1 lab1 w1 h1 hM1 hB1 => by
   refine (hD K s M1 lab1 w1 h1 hM1 hB1 hA).mono fun r w' ⟨e, M', lab', s2, h', hM', hB', hd⟩ => ⟨e, M', lab', s2, h', hB', hM', hd⟩)
  (fun x hx => ⟨hx.e.2.1, by rw [hx.e.2.2.1]; have := hA.steps; omega, by rw [hx.thr.fr t ht, List.length_map]; omega⟩)
 refine STP.mono fun r w' hr => ?_
 obtain ⟨M', lab', x, hx, hr, h', hB', hM'⟩ := hr
 refine ⟨M', lab', x.after s l, by rw [hr, hx.thr.fr t ht, frames_nil], h', hM', hB', hA.next hx⟩
end
section
open Go.RowKit
theorem ThrM.set {c : Nat → Int} {thr : Nat → ThrS} {g : GM} (h : ThrM c thr g) (l o v : Nat) : ThrM c thr (g.set l o v) := ⟨h.fr, h.run, h.told⟩
/-- From a machine as numbers to a thread's top frame. -/
theorem AbsM.atTop {K M : Mm} {lab : Nat → Nat} {p t q l n : Nat} {c : Nat → Int} {tp : List Nat} {s : MachS} {g : GM} {fs : List Fr} {F : Fr} (hA : AbsM c tp n s g) (hM : Mach M lab p (s.tick l)) (hB : Base K M lab) (ht : (t : Int) < c 1) (hq : tp[t]? = some q) (hthr : g.thr t = fs ++ [F]) : ∃ b, AtTop K M lab p (s.tick l) t q b (fs.map Fr.enc) F.enc := by
 refine AtTop.of hM hB (by show s.tp[t]? = _; rw [hA.ttp]; exact hq) ?_
 show (s.thr t).frames = _
 rw [hA.thr.fr t ht, hthr, List.map_append]
 rfl
theorem ThrM.hold {c : Nat → Int} {thr : Nat → ThrS} {g : GM} (h : ThrM c thr g) (l i : Nat) : ThrM c thr (g.hold l i) := ⟨h.fr, h.run, h.told⟩
theorem ThrM.drop {c : Nat → Int} {thr : Nat → ThrS} {g : GM} (h : ThrM c thr g) (l i : Nat) : ThrM c thr (g.drop l i) := ⟨h.fr, h.run, h.told⟩
end
section
open Go.RowKit
/-- What stock's Do does, epoch's does; and so on. -/
theorem hand_ep {σ : World} {p t q l n : Nat} {c : Nat → Int} {tp : List Nat} {g g2 : GM} {fs : List Fr} {F : Fr} (hn : n < 100000) (ht : (t : Int) < c 1) (hq : tp[t]? = some q) (hl : levelOf c t = (l : Nat)) (hlc : (l : Int) < c 0) (hthr : g.thr t = fs ++ [F]) (hfs : fs.length < 100000) (h1 : F.fn ≠ 10) (h2 : F.fn ≠ 11) (h3 : F.fn ≠ 12) (D : DoesTo 105 σ p t c tp n l g g2) : DoesTo 63 σ p t c tp n l g g2 := by
 intro K s M lab w h hM hB hA
 obtain ⟨b, hT⟩ := hA.atTop hM hB ht hq hthr
 obtain rfl := hA.cc
 have hfs' : (fs.map Fr.enc).length < 1000000 := by rw [List.length_map]; omega
 exact (ep_doOther h hT (by show (F.fn : Int) ≠ 10; omega) (by show (F.fn : Int) ≠ 11; omega) (by show (F.fn : Int) ≠ 12; omega) hfs' (R := fun s' => Did s.c n l s s' g2) fun K1 M1 lab1 w1 h1' hT1 => D K1 s M1 lab1 w1 h1' hT1.mach hT1.base hA).mono fun r w' ⟨e, M', lab', s', a1, a2, a3, a4⟩ => ⟨e, M', lab', s', a1, a3, a2, a4⟩
theorem hand_li {σ : World} {p t q l n : Nat} {c : Nat → Int} {tp : List Nat} {g g2 : GM} {fs : List Fr} {F : Fr} (hn : n < 100000) (ht : (t : Int) < c 1) (hq : tp[t]? = some q) (hl : levelOf c t = (l : Nat)) (hlc : (l : Int) < c 0) (hthr : g.thr t = fs ++ [F]) (hfs : fs.length < 100000) (h1 : F.fn ≠ 20) (h2 : F.fn ≠ 21) (h3 : F.fn ≠ 22) (h4 : F.fn ≠ 23) (D : DoesTo 63 σ p t c tp n l g g2) : DoesTo 15 σ p t c tp n l g g2 := by
 intro K s M lab w h hM hB hA
 obtain ⟨b, hT⟩ := hA.atTop hM hB ht hq hthr
 obtain rfl := hA.cc
 have hfs' : (fs.map Fr.enc).length < 1000000 := by rw [List.length_map]; omega
 exact (li_doOther h hT (by show (F.fn : Int) ≠ 20; omega) (by show (F.fn : Int) ≠ 21; omega) (by show (F.fn : Int) ≠ 22; omega) (by show (F.fn : Int) ≠ 23; omega) hfs' (R := fun s' => Did s.c n l s s' g2) fun K1 M1 lab1 w1 h1' hT1 => D K1 s M1 lab1 w1 h1' hT1.mach hT1.base hA).mono fun r w' ⟨e, M', lab', s', a1, a2, a3, a4⟩ => ⟨e, M', lab', s', a1, a3, a2, a4⟩
theorem ThrM.call {c : Nat → Int} {thr : Nat → ThrS} {g : GM} (h : ThrM c thr g) {t : Nat} (ht : (t : Int) < c 1) (fn : Nat) (us : List Nat) : ThrM c (fun j => if j = t then (thr t).call fn (us.map fun u : Nat => (u : Int)) else thr j) (g.top t (g.thr t) ⟨fn, 0, fun i => us.getD i 0⟩) := by
 have := h.top (t := t) (fs := g.thr t) (F := ⟨fn, 0, fun i => us.getD i 0⟩)
 have e : (fun j => if j = t then { thr t with frames := (g.thr t).map Fr.enc ++ [Fr.enc ⟨fn, 0, fun i => us.getD i 0⟩] } else thr j) = fun j => if j = t then (thr t).call fn (us.map fun u : Nat => (u : Int)) else thr j := by
  funext j
  by_cases e : j = t
  ·rw [if_pos e, if_pos e]
   have er : (fun i => ((us.getD i 0 : Nat) : Int)) = fun i => (us.map fun u : Nat => (u : Int)).getD i 0 := by
    funext i
    rw [List.getD_eq_getElem?_getD, List.getD_eq_getElem?_getD, List.getElem?_map]
    cases us[i]? <;> rfl
   show ({ thr t with frames := (g.thr t).map Fr.enc ++ [⟨fn, 0, fun i => ((us.getD i 0 : Nat) : Int)⟩] } : ThrS) = { thr t with frames := (thr t).frames ++ [⟨fn, 0, fun i => (us.map fun u : Nat => (u : Int)).getD i 0⟩] }
   rw [er, h.fr t ht]
  ·rw [if_neg e, if_neg e]
 rw [e] at this
 exact this
end
section
open Go.RowKit
theorem inK_epoch (c : Nat → Int) : InK c 1 0 0 := ⟨by omega, by unfold baseK; simp, by omega, by omega, fun _ => rfl, by unfold numK many baseK; simp⟩
theorem inK_active (c : Nat → Int) {t : Nat} (h : t < 8) : InK c 6 (t : Nat) 0 := ⟨by omega, by unfold baseK; simp, by omega, by omega, fun _ => rfl, by unfold numK many baseK; simp; omega⟩
theorem off_epoch (c : Nat → Int) : offK c 1 0 0 = 1 := by unfold offK firsts numK baseK; simp
theorem off_active (c : Nat → Int) (t : Nat) : offK c 6 (t : Nat) 0 = 10 + t := by unfold offK firsts numK baseK; simp; omega
end
section
open Go.RowKit
set_option maxHeartbeats 2000000 in
set_option maxRecDepth 20000 in
theorem lb_do20 {σ w : World} {K M : Mm} {lab : Nat → Nat} {p t q b : Nat} {s : MachS} {fs : List FrameS} {f : FrameS} (h : Has σ M w) (hT : AtTop K M lab p s t q b fs f) (hfn : f.fn = 20) (hfs : fs.length < 1000000) {R : MachS → Prop} (hstep : ∀ (K1 M1 : Mm) (lab1 : Nat → Nat) (w1 : World), Has σ M1 w1 → AtTop K1 M1 lab1 p s t q b fs f → Calls Tryz.prog 59 #[.agg (runC p t q b)] w1 fun r w' => r = .returned (.tuple #[]) ∧ ∃ M' lab' s', Has σ M' w' ∧ Mach M' lab' p s' ∧ Base K1 M' lab' ∧ R s') : Calls Tryz.prog 15 #[.pointer (some ⟨p, 0, none⟩), .int .i64 (t : Nat)] w fun r w' => r = .returned (.tuple #[]) ∧ ∃ M' lab' s', Has σ M' w' ∧ Base K M' lab' ∧ Mach M' lab' p s' ∧ R s' := by
 obtain ⟨fv, hv, fbs, hTh⟩ := hT.thr
 have hlen : fbs.length = fs.length := by
  have h1 := hTh.flen
  rw [hT.fr] at h1
  simpa using h1
 have TH := Lib.hid (fun (w : World) (h : Has σ M w) => mThread_yes h hT.mach hT.tp)
 have TP := Lib.hid (fun (w : World) (h : Has σ M w) => thrTop_eq h hTh (by omega))
 have hfb := hT.obj
 have f0 : f.row[0]? = some (.int .i64 f.fn) := rfl
 have HT := Lib.hid hT
 have HS := Lib.hid hstep
 rw [hfn] at f0
 clear hT hTh hlen hfs hfn hstep
 generalize f.row = fr0 at *
 go_enter Tryz.func15, Tryz.ntmps15
 go_upto_region 3 with (first
  | (go_at_call 13; refine (TH.out _ h).mono ?_; clear h; rintro _ w ⟨rfl, h⟩)
  | (go_at_call 32; refine (TP.out _ h).mono ?_; clear h; rintro _ w ⟨rfl, h⟩)
  | ((with_reducible show wpList _ _ _ ({ dst := _, op := Op.alloc 124, type := _, pos := _, after := _, guard := _ } :: _) _ _); refine wpList_alloc_has h rfl 124 rfl _ li_zrun ?_; clear h; intro bx w h hnx; try simp only [Act.put, qD, qE, qF])
  | ((with_reducible show wpList _ _ _ ({ dst := _, op := Op.store 124 _ _, type := _, pos := _, after := _, guard := _ } :: _) _ _); refine wpList_storeAll_has (cells := runC p t q b) h rfl 124 _ _ rfl rfl rfl (Mm.upd_same _ _ _) rfl rfl rfl (by kernel_rfl) rfl ?_; clear h; intro w h))
 rw [Mm.upd_upd] at h
 have hfb1 := Mm.upd_of (o := .cells (runC p t q b) 124) hnx hfb
 have hle := Mm.le_upd' hnx (.cells (runC p t q b) 124)
 have hbx := Mm.upd_same M bx (.cells (runC p t q b) 124)
 generalize M.upd bx _ = M1 at h hfb1 hle hbx
 obtain ⟨lab1, hT1⟩ := HT.out.more1 hle hnx hbx
 have hnK : K bx = none := by
  cases e : K bx with
  | none => rfl
  | some o => have := (HT.out.base _ _ e).1; rw [hnx] at this; cases this
 have HKK := Lib.hid (Mm.le_upd' hnK (.cells (runC p t q b) 124))
 have ST := Lib.hid (fun (w : World) (h : Has σ M1 w) => HS.out _ M1 lab1 w h hT1)
 clear hT1 hnK hnx hle TH TP
 unfold runC at ST hbx
 have dx : (#[.pointer (some ⟨p, 0, none⟩), .int .i64 (t : Nat), .pointer (some ⟨q, 0, none⟩), .pointer (some ⟨b, 0, none⟩)] : Array Value).extract 0 (0 + 4) = #[.pointer (some ⟨p, 0, none⟩), .int .i64 (t : Nat), .pointer (some ⟨q, 0, none⟩), .pointer (some ⟨b, 0, none⟩)] := rfl
 go_wp2_with (first
  | (with_reducible show wpList _ _ _ ({ dst := _, op := Op.load 3 _, type := _, pos := _, after := _, guard := _ } :: _) _ _; refine wpList_load1_has h rfl 3 _ rfl rfl hfb1 f0 Tryz.underlying3 rfl ?_)
  | ((with_reducible show wpList _ _ _ ({ dst := _, op := Op.load 124 _, type := _, pos := _, after := _, guard := _ } :: _) _ _); refine wpList_agg_has h rfl 124 _ rfl rfl hbx dx rfl Tryz.underlying124 rfl (by kernel_rfl) ?_; try simp only [Act.put, qD, qE, qF])
  | (go_at_call 59; refine (ST.out _ h).mono ?_; clear h; rintro _ w ⟨rfl, M2, lab2, s2, h, hM2, hB2, hR2⟩))
 go_end0
 exact ⟨rfl, M2, lab2, s2, h, fun c o hc => hB2 c o (HKK.out _ _ hc), hM2, hR2⟩
set_option maxHeartbeats 2000000 in
set_option maxRecDepth 20000 in
theorem lb_do21 {σ w : World} {K M : Mm} {lab : Nat → Nat} {p t q b : Nat} {s : MachS} {fs : List FrameS} {f : FrameS} (h : Has σ M w) (hT : AtTop K M lab p s t q b fs f) (hfn : f.fn = 21) (hfs : fs.length < 1000000) {R : MachS → Prop} (hstep : ∀ (K1 M1 : Mm) (lab1 : Nat → Nat) (w1 : World), Has σ M1 w1 → AtTop K1 M1 lab1 p s t q b fs f → Calls Tryz.prog 60 #[.agg (runC p t q b)] w1 fun r w' => r = .returned (.tuple #[]) ∧ ∃ M' lab' s', Has σ M' w' ∧ Mach M' lab' p s' ∧ Base K1 M' lab' ∧ R s') : Calls Tryz.prog 15 #[.pointer (some ⟨p, 0, none⟩), .int .i64 (t : Nat)] w fun r w' => r = .returned (.tuple #[]) ∧ ∃ M' lab' s', Has σ M' w' ∧ Base K M' lab' ∧ Mach M' lab' p s' ∧ R s' := by
 obtain ⟨fv, hv, fbs, hTh⟩ := hT.thr
 have hlen : fbs.length = fs.length := by
  have h1 := hTh.flen
  rw [hT.fr] at h1
  simpa using h1
 have TH := Lib.hid (fun (w : World) (h : Has σ M w) => mThread_yes h hT.mach hT.tp)
 have TP := Lib.hid (fun (w : World) (h : Has σ M w) => thrTop_eq h hTh (by omega))
 have hfb := hT.obj
 have f0 : f.row[0]? = some (.int .i64 f.fn) := rfl
 have HT := Lib.hid hT
 have HS := Lib.hid hstep
 rw [hfn] at f0
 clear hT hTh hlen hfs hfn hstep
 generalize f.row = fr0 at *
 go_enter Tryz.func15, Tryz.ntmps15
 go_upto_region 3 with (first
  | (go_at_call 13; refine (TH.out _ h).mono ?_; clear h; rintro _ w ⟨rfl, h⟩)
  | (go_at_call 32; refine (TP.out _ h).mono ?_; clear h; rintro _ w ⟨rfl, h⟩)
  | ((with_reducible show wpList _ _ _ ({ dst := _, op := Op.alloc 124, type := _, pos := _, after := _, guard := _ } :: _) _ _); refine wpList_alloc_has h rfl 124 rfl _ li_zrun ?_; clear h; intro bx w h hnx; try simp only [Act.put, qD, qE, qF])
  | ((with_reducible show wpList _ _ _ ({ dst := _, op := Op.store 124 _ _, type := _, pos := _, after := _, guard := _ } :: _) _ _); refine wpList_storeAll_has (cells := runC p t q b) h rfl 124 _ _ rfl rfl rfl (Mm.upd_same _ _ _) rfl rfl rfl (by kernel_rfl) rfl ?_; clear h; intro w h))
 rw [Mm.upd_upd] at h
 have hfb1 := Mm.upd_of (o := .cells (runC p t q b) 124) hnx hfb
 have hle := Mm.le_upd' hnx (.cells (runC p t q b) 124)
 have hbx := Mm.upd_same M bx (.cells (runC p t q b) 124)
 generalize M.upd bx _ = M1 at h hfb1 hle hbx
 obtain ⟨lab1, hT1⟩ := HT.out.more1 hle hnx hbx
 have hnK : K bx = none := by
  cases e : K bx with
  | none => rfl
  | some o => have := (HT.out.base _ _ e).1; rw [hnx] at this; cases this
 have HKK := Lib.hid (Mm.le_upd' hnK (.cells (runC p t q b) 124))
 have ST := Lib.hid (fun (w : World) (h : Has σ M1 w) => HS.out _ M1 lab1 w h hT1)
 clear hT1 hnK hnx hle TH TP
 unfold runC at ST hbx
 have dx : (#[.pointer (some ⟨p, 0, none⟩), .int .i64 (t : Nat), .pointer (some ⟨q, 0, none⟩), .pointer (some ⟨b, 0, none⟩)] : Array Value).extract 0 (0 + 4) = #[.pointer (some ⟨p, 0, none⟩), .int .i64 (t : Nat), .pointer (some ⟨q, 0, none⟩), .pointer (some ⟨b, 0, none⟩)] := rfl
 go_wp2_with (first
  | (with_reducible show wpList _ _ _ ({ dst := _, op := Op.load 3 _, type := _, pos := _, after := _, guard := _ } :: _) _ _; refine wpList_load1_has h rfl 3 _ rfl rfl hfb1 f0 Tryz.underlying3 rfl ?_)
  | ((with_reducible show wpList _ _ _ ({ dst := _, op := Op.load 124 _, type := _, pos := _, after := _, guard := _ } :: _) _ _); refine wpList_agg_has h rfl 124 _ rfl rfl hbx dx rfl Tryz.underlying124 rfl (by kernel_rfl) ?_; try simp only [Act.put, qD, qE, qF])
  | (go_at_call 60; refine (ST.out _ h).mono ?_; clear h; rintro _ w ⟨rfl, M2, lab2, s2, h, hM2, hB2, hR2⟩))
 go_end0
 exact ⟨rfl, M2, lab2, s2, h, fun c o hc => hB2 c o (HKK.out _ _ hc), hM2, hR2⟩
set_option maxHeartbeats 2000000 in
set_option maxRecDepth 20000 in
theorem lb_do22 {σ w : World} {K M : Mm} {lab : Nat → Nat} {p t q b : Nat} {s : MachS} {fs : List FrameS} {f : FrameS} (h : Has σ M w) (hT : AtTop K M lab p s t q b fs f) (hfn : f.fn = 22) (hfs : fs.length < 1000000) {R : MachS → Prop} (hstep : ∀ (K1 M1 : Mm) (lab1 : Nat → Nat) (w1 : World), Has σ M1 w1 → AtTop K1 M1 lab1 p s t q b fs f → Calls Tryz.prog 61 #[.agg (runC p t q b)] w1 fun r w' => r = .returned (.tuple #[]) ∧ ∃ M' lab' s', Has σ M' w' ∧ Mach M' lab' p s' ∧ Base K1 M' lab' ∧ R s') : Calls Tryz.prog 15 #[.pointer (some ⟨p, 0, none⟩), .int .i64 (t : Nat)] w fun r w' => r = .returned (.tuple #[]) ∧ ∃ M' lab' s', Has σ M' w' ∧ Base K M' lab' ∧ Mach M' lab' p s' ∧ R s' := by
 obtain ⟨fv, hv, fbs, hTh⟩ := hT.thr
 have hlen : fbs.length = fs.length := by
  have h1 := hTh.flen
  rw [hT.fr] at h1
  simpa using h1
 have TH := Lib.hid (fun (w : World) (h : Has σ M w) => mThread_yes h hT.mach hT.tp)
 have TP := Lib.hid (fun (w : World) (h : Has σ M w) => thrTop_eq h hTh (by omega))
 have hfb := hT.obj
 have f0 : f.row[0]? = some (.int .i64 f.fn) := rfl
 have HT := Lib.hid hT
 have HS := Lib.hid hstep
 rw [hfn] at f0
 clear hT hTh hlen hfs hfn hstep
 generalize f.row = fr0 at *
 go_enter Tryz.func15, Tryz.ntmps15
 go_upto_region 3 with (first
  | (go_at_call 13; refine (TH.out _ h).mono ?_; clear h; rintro _ w ⟨rfl, h⟩)
  | (go_at_call 32; refine (TP.out _ h).mono ?_; clear h; rintro _ w ⟨rfl, h⟩)
  | ((with_reducible show wpList _ _ _ ({ dst := _, op := Op.alloc 124, type := _, pos := _, after := _, guard := _ } :: _) _ _); refine wpList_alloc_has h rfl 124 rfl _ li_zrun ?_; clear h; intro bx w h hnx; try simp only [Act.put, qD, qE, qF])
  | ((with_reducible show wpList _ _ _ ({ dst := _, op := Op.store 124 _ _, type := _, pos := _, after := _, guard := _ } :: _) _ _); refine wpList_storeAll_has (cells := runC p t q b) h rfl 124 _ _ rfl rfl rfl (Mm.upd_same _ _ _) rfl rfl rfl (by kernel_rfl) rfl ?_; clear h; intro w h))
 rw [Mm.upd_upd] at h
 have hfb1 := Mm.upd_of (o := .cells (runC p t q b) 124) hnx hfb
 have hle := Mm.le_upd' hnx (.cells (runC p t q b) 124)
 have hbx := Mm.upd_same M bx (.cells (runC p t q b) 124)
 generalize M.upd bx _ = M1 at h hfb1 hle hbx
 obtain ⟨lab1, hT1⟩ := HT.out.more1 hle hnx hbx
 have hnK : K bx = none := by
  cases e : K bx with
  | none => rfl
  | some o => have := (HT.out.base _ _ e).1; rw [hnx] at this; cases this
 have HKK := Lib.hid (Mm.le_upd' hnK (.cells (runC p t q b) 124))
 have ST := Lib.hid (fun (w : World) (h : Has σ M1 w) => HS.out _ M1 lab1 w h hT1)
 clear hT1 hnK hnx hle TH TP
 unfold runC at ST hbx
 have dx : (#[.pointer (some ⟨p, 0, none⟩), .int .i64 (t : Nat), .pointer (some ⟨q, 0, none⟩), .pointer (some ⟨b, 0, none⟩)] : Array Value).extract 0 (0 + 4) = #[.pointer (some ⟨p, 0, none⟩), .int .i64 (t : Nat), .pointer (some ⟨q, 0, none⟩), .pointer (some ⟨b, 0, none⟩)] := rfl
 go_wp2_with (first
  | (with_reducible show wpList _ _ _ ({ dst := _, op := Op.load 3 _, type := _, pos := _, after := _, guard := _ } :: _) _ _; refine wpList_load1_has h rfl 3 _ rfl rfl hfb1 f0 Tryz.underlying3 rfl ?_)
  | ((with_reducible show wpList _ _ _ ({ dst := _, op := Op.load 124 _, type := _, pos := _, after := _, guard := _ } :: _) _ _); refine wpList_agg_has h rfl 124 _ rfl rfl hbx dx rfl Tryz.underlying124 rfl (by kernel_rfl) ?_; try simp only [Act.put, qD, qE, qF])
  | (go_at_call 61; refine (ST.out _ h).mono ?_; clear h; rintro _ w ⟨rfl, M2, lab2, s2, h, hM2, hB2, hR2⟩))
 go_end0
 exact ⟨rfl, M2, lab2, s2, h, fun c o hc => hB2 c o (HKK.out _ _ hc), hM2, hR2⟩
set_option maxHeartbeats 2000000 in
set_option maxRecDepth 20000 in
theorem lb_do23 {σ w : World} {K M : Mm} {lab : Nat → Nat} {p t q b : Nat} {s : MachS} {fs : List FrameS} {f : FrameS} (h : Has σ M w) (hT : AtTop K M lab p s t q b fs f) (hfn : f.fn = 23) (hfs : fs.length < 1000000) {R : MachS → Prop} (hstep : ∀ (K1 M1 : Mm) (lab1 : Nat → Nat) (w1 : World), Has σ M1 w1 → AtTop K1 M1 lab1 p s t q b fs f → Calls Tryz.prog 62 #[.agg (runC p t q b)] w1 fun r w' => r = .returned (.tuple #[]) ∧ ∃ M' lab' s', Has σ M' w' ∧ Mach M' lab' p s' ∧ Base K1 M' lab' ∧ R s') : Calls Tryz.prog 15 #[.pointer (some ⟨p, 0, none⟩), .int .i64 (t : Nat)] w fun r w' => r = .returned (.tuple #[]) ∧ ∃ M' lab' s', Has σ M' w' ∧ Base K M' lab' ∧ Mach M' lab' p s' ∧ R s' := by
 obtain ⟨fv, hv, fbs, hTh⟩ := hT.thr
 have hlen : fbs.length = fs.length := by
  have h1 := hTh.flen
  rw [hT.fr] at h1
  simpa using h1
 have TH := Lib.hid (fun (w : World) (h : Has σ M w) => mThread_yes h hT.mach hT.tp)
 have TP := Lib.hid (fun (w : World) (h : Has σ M w) => thrTop_eq h hTh (by omega))
 have hfb := hT.obj
 have f0 : f.row[0]? = some (.int .i64 f.fn) := rfl
 have HT := Lib.hid hT
 have HS := Lib.hid hstep
 rw [hfn] at f0
 clear hT hTh hlen hfs hfn hstep
 generalize f.row = fr0 at *
 go_enter Tryz.func15, Tryz.ntmps15
 go_upto_region 3 with (first
  | (go_at_call 13; refine (TH.out _ h).mono ?_; clear h; rintro _ w ⟨rfl, h⟩)
  | (go_at_call 32; refine (TP.out _ h).mono ?_; clear h; rintro _ w ⟨rfl, h⟩)
  | ((with_reducible show wpList _ _ _ ({ dst := _, op := Op.alloc 124, type := _, pos := _, after := _, guard := _ } :: _) _ _); refine wpList_alloc_has h rfl 124 rfl _ li_zrun ?_; clear h; intro bx w h hnx; try simp only [Act.put, qD, qE, qF])
  | ((with_reducible show wpList _ _ _ ({ dst := _, op := Op.store 124 _ _, type := _, pos := _, after := _, guard := _ } :: _) _ _); refine wpList_storeAll_has (cells := runC p t q b) h rfl 124 _ _ rfl rfl rfl (Mm.upd_same _ _ _) rfl rfl rfl (by kernel_rfl) rfl ?_; clear h; intro w h))
 rw [Mm.upd_upd] at h
 have hfb1 := Mm.upd_of (o := .cells (runC p t q b) 124) hnx hfb
 have hle := Mm.le_upd' hnx (.cells (runC p t q b) 124)
 have hbx := Mm.upd_same M bx (.cells (runC p t q b) 124)
 generalize M.upd bx _ = M1 at h hfb1 hle hbx
 obtain ⟨lab1, hT1⟩ := HT.out.more1 hle hnx hbx
 have hnK : K bx = none := by
  cases e : K bx with
  | none => rfl
  | some o => have := (HT.out.base _ _ e).1; rw [hnx] at this; cases this
 have HKK := Lib.hid (Mm.le_upd' hnK (.cells (runC p t q b) 124))
 have ST := Lib.hid (fun (w : World) (h : Has σ M1 w) => HS.out _ M1 lab1 w h hT1)
 clear hT1 hnK hnx hle TH TP
 unfold runC at ST hbx
 have dx : (#[.pointer (some ⟨p, 0, none⟩), .int .i64 (t : Nat), .pointer (some ⟨q, 0, none⟩), .pointer (some ⟨b, 0, none⟩)] : Array Value).extract 0 (0 + 4) = #[.pointer (some ⟨p, 0, none⟩), .int .i64 (t : Nat), .pointer (some ⟨q, 0, none⟩), .pointer (some ⟨b, 0, none⟩)] := rfl
 go_wp2_with (first
  | (with_reducible show wpList _ _ _ ({ dst := _, op := Op.load 3 _, type := _, pos := _, after := _, guard := _ } :: _) _ _; refine wpList_load1_has h rfl 3 _ rfl rfl hfb1 f0 Tryz.underlying3 rfl ?_)
  | ((with_reducible show wpList _ _ _ ({ dst := _, op := Op.load 124 _, type := _, pos := _, after := _, guard := _ } :: _) _ _); refine wpList_agg_has h rfl 124 _ rfl rfl hbx dx rfl Tryz.underlying124 rfl (by kernel_rfl) ?_; try simp only [Act.put, qD, qE, qF])
  | (go_at_call 62; refine (ST.out _ h).mono ?_; clear h; rintro _ w ⟨rfl, M2, lab2, s2, h, hM2, hB2, hR2⟩))
 go_end0
 exact ⟨rfl, M2, lab2, s2, h, fun c o hc => hB2 c o (HKK.out _ _ hc), hM2, hR2⟩
theorem confMay_lim {c : Nat → Int} (h : ConfMay c) : c 11 ≤ 60 := by
 obtain ⟨_, _, _, _, _, h6, _⟩ := id h
 omega
theorem inK_cell {c : Nat → Int} {B i : Nat} (hB : c 11 = (B : Nat)) (hi : i < B) : InK c 7 (i : Nat) 0 := ⟨by omega, by unfold baseK; simp, by omega, by omega, fun _ => rfl, by unfold numK many baseK; simp; omega⟩
theorem off_cell {c : Nat → Int} (i : Nat) : offK c 7 (i : Nat) 0 = 18 + i := by unfold offK firsts numK baseK; simp; omega
theorem rs_past {σ : World} {p t q l n B : Nat} {c : Nat → Int} {tp : List Nat} {g : GM} {fs : List Fr} {F : Fr} (hn : n < 100000) (ht : (t : Int) < c 1) (hq : tp[t]? = some q) (hl : levelOf c t = (l : Nat)) (hlc : (l : Int) < c 0) (hthr : g.thr t = fs ++ [F]) (hfs : fs.length < 100000) (hB' : c 11 = (B : Nat)) (h1 : F.fn = 20) (hr : F.r 0 < 1000000) (hx : B ≤ F.r 0) : DoesTo 15 σ p t c tp n l g (g.back t fs [0]) := by
 intro K s M lab w h hM hB hA
 obtain ⟨b, hT⟩ := hA.atTop hM hB ht hq hthr
 obtain rfl := hA.cc
 have hmay := hA.may
 have b1 : (s.tick l).mem.acc < 1000000000 := by show s.mem.acc < _; have := hA.acc; omega
 have b2 : (s.tick l).mem.wr < 1000000000 := by show s.mem.wr < _; have := hA.wr; omega
 have hl' : levelOf (s.tick l).c (t : Nat) = (l : Nat) := hl
 have hlc' : (l : Int) < (s.tick l).c 0 := hlc
 have hfs' : (fs.map Fr.enc).length < 900000 := by rw [List.length_map]; omega
 have gl : s.given.length ≤ n + 1 := Nat.le_succ_of_le hA.given
 have bk : (s.thr t).frames.dropLast = fs.map Fr.enc ∧ (s.thr t).st = (s.thr t).st ∧ (s.thr t).ki = (s.thr t).ki := ⟨by rw [hA.thr.fr t ht, hthr]; simp, rfl, rfl⟩
 have t63 : t < 9223372036854775808 := by have := hmay.2.1; omega
 have B256 : B ≤ 256 := by have h1 := (confMay_lim hmay); omega
 refine (lb_do20 h hT (by show (F.fn : Int) = 20; omega) (by omega) (R := fun s' => Did s.c n l s s' (g.back t fs [0])) fun K1 M1 lab1 w1 h1' hT1 => ?_).mono fun r w' ⟨e, M', lab', s', a1, a2, a3, a4⟩ => ⟨e, M', lab', s', a1, a3, a2, a4⟩
 refine (rsv_past h1' hT1 (by omega) (i := F.r 0) rfl (by omega) hB' hx).mono (fun r w' ⟨e, M', lab', h', hM', hB'⟩ => ⟨e, M', lab', _, h', hM', hB', ?_⟩)
 exact Did.none hA ⟨rfl, rfl, rfl, rfl, rfl⟩ rfl hA.words (hA.ward.mono (Nat.le_succ _)) (hA.thr.back (t := t) (fs := fs) (us := [0]) (x := s.thr t) bk) gl
theorem rs_0z {σ : World} {p t q l n B : Nat} {c : Nat → Int} {tp : List Nat} {g : GM} {fs : List Fr} {F : Fr} (hn : n < 100000) (ht : (t : Int) < c 1) (hq : tp[t]? = some q) (hl : levelOf c t = (l : Nat)) (hlc : (l : Int) < c 0) (hthr : g.thr t = fs ++ [F]) (hfs : fs.length < 100000) (hB' : c 11 = (B : Nat)) (h1 : F.fn = 20) (hp : F.pc = 0) (hx : F.r 0 < B) (hz : g.w l (18 + F.r 0) = 0) : DoesTo 15 σ p t c tp n l g (g.top t fs (F.goto 1)) := by
 intro K s M lab w h hM hB hA
 obtain ⟨b, hT⟩ := hA.atTop hM hB ht hq hthr
 obtain rfl := hA.cc
 have hmay := hA.may
 have b1 : (s.tick l).mem.acc < 1000000000 := by show s.mem.acc < _; have := hA.acc; omega
 have b2 : (s.tick l).mem.wr < 1000000000 := by show s.mem.wr < _; have := hA.wr; omega
 have hl' : levelOf (s.tick l).c (t : Nat) = (l : Nat) := hl
 have hlc' : (l : Int) < (s.tick l).c 0 := hlc
 have hfs' : (fs.map Fr.enc).length < 900000 := by rw [List.length_map]; omega
 have gl : s.given.length ≤ n + 1 := Nat.le_succ_of_le hA.given
 have bk : (s.thr t).frames.dropLast = fs.map Fr.enc ∧ (s.thr t).st = (s.thr t).st ∧ (s.thr t).ki = (s.thr t).ki := ⟨by rw [hA.thr.fr t ht, hthr]; simp, rfl, rfl⟩
 have t63 : t < 9223372036854775808 := by have := hmay.2.1; omega
 have B256 : B ≤ 256 := by have h1 := (confMay_lim hmay); omega
 have hk := inK_cell (c := s.c) (i := F.r 0) hB' (by omega)
 have hit := atK_hit hmay hA.memN hlc hk
 have hv : s.mem.load (atK s.c (l : Nat) 7 (F.r 0 : Nat) 0) = (g.w l (18 + F.r 0) : Int) := load_at' hit (by rw [hA.words.at hmay hlc hk, off_cell])
 have hf0 : s.mem.f (atK s.c (l : Nat) 7 (F.r 0 : Nat) 0).toNat = (g.w l (18 + F.r 0) : Int) := by rw [hA.words.at hmay hlc hk, off_cell]
 rw [hz] at hv
 refine (lb_do20 h hT (by show (F.fn : Int) = 20; omega) (by omega) (R := fun s' => Did s.c n l s s' (g.top t fs (F.goto 1))) fun K1 M1 lab1 w1 h1' hT1 => ?_).mono fun r w' ⟨e, M', lab', s', a1, a2, a3, a4⟩ => ⟨e, M', lab', s', a1, a3, a2, a4⟩
 refine (rsv_0z h1' hT1 (i := F.r 0) rfl (by omega) hB' hx (by show (F.pc : Int) = 0; omega) (spotAt_of hT1.mach hl' hlc' hk) b1 hv).mono (fun r w' ⟨e, M', lab', h', hT'⟩ => ⟨e, M', lab', _, h', hT'.mach, hT'.base, ?_⟩)
 exact Did.one hA hk (Nat.zero_le _) ⟨rfl, rfl, rfl, rfl, rfl⟩ (at_to' hit) hA.words (hA.ward.mono (Nat.le_succ _)) (hA.thr.top (t := t) (fs := fs) (F := F.goto 1)) gl
theorem rs_0n {σ : World} {p t q l n B : Nat} {c : Nat → Int} {tp : List Nat} {g : GM} {fs : List Fr} {F : Fr} (hn : n < 100000) (ht : (t : Int) < c 1) (hq : tp[t]? = some q) (hl : levelOf c t = (l : Nat)) (hlc : (l : Int) < c 0) (hthr : g.thr t = fs ++ [F]) (hfs : fs.length < 100000) (hB' : c 11 = (B : Nat)) (h1 : F.fn = 20) (hp : F.pc = 0) (hx : F.r 0 < B) (hz : g.w l (18 + F.r 0) ≠ 0) : DoesTo 15 σ p t c tp n l g (g.top t fs (F.reg 0 (F.r 0 + 1))) := by
 intro K s M lab w h hM hB hA
 obtain ⟨b, hT⟩ := hA.atTop hM hB ht hq hthr
 obtain rfl := hA.cc
 have hmay := hA.may
 have b1 : (s.tick l).mem.acc < 1000000000 := by show s.mem.acc < _; have := hA.acc; omega
 have b2 : (s.tick l).mem.wr < 1000000000 := by show s.mem.wr < _; have := hA.wr; omega
 have hl' : levelOf (s.tick l).c (t : Nat) = (l : Nat) := hl
 have hlc' : (l : Int) < (s.tick l).c 0 := hlc
 have hfs' : (fs.map Fr.enc).length < 900000 := by rw [List.length_map]; omega
 have gl : s.given.length ≤ n + 1 := Nat.le_succ_of_le hA.given
 have bk : (s.thr t).frames.dropLast = fs.map Fr.enc ∧ (s.thr t).st = (s.thr t).st ∧ (s.thr t).ki = (s.thr t).ki := ⟨by rw [hA.thr.fr t ht, hthr]; simp, rfl, rfl⟩
 have t63 : t < 9223372036854775808 := by have := hmay.2.1; omega
 have B256 : B ≤ 256 := by have h1 := (confMay_lim hmay); omega
 have hk := inK_cell (c := s.c) (i := F.r 0) hB' (by omega)
 have hit := atK_hit hmay hA.memN hlc hk
 have hv : s.mem.load (atK s.c (l : Nat) 7 (F.r 0 : Nat) 0) = (g.w l (18 + F.r 0) : Int) := load_at' hit (by rw [hA.words.at hmay hlc hk, off_cell])
 have hf0 : s.mem.f (atK s.c (l : Nat) 7 (F.r 0 : Nat) 0).toNat = (g.w l (18 + F.r 0) : Int) := by rw [hA.words.at hmay hlc hk, off_cell]
 refine (lb_do20 h hT (by show (F.fn : Int) = 20; omega) (by omega) (R := fun s' => Did s.c n l s s' (g.top t fs (F.reg 0 (F.r 0 + 1)))) fun K1 M1 lab1 w1 h1' hT1 => ?_).mono fun r w' ⟨e, M', lab', s', a1, a2, a3, a4⟩ => ⟨e, M', lab', s', a1, a3, a2, a4⟩
 refine (rsv_0n h1' hT1 (i := F.r 0) rfl (by omega) hB' hx (by show (F.pc : Int) = 0; omega) (spotAt_of hT1.mach hl' hlc' hk) b1 (by have hv2 : s.mem.load (atK s.c (l : Nat) 7 (F.r 0 : Nat) 0) ≠ 0 := by { rw [hv]; omega }; exact hv2)).mono (fun r w' ⟨e, M', lab', h', hT'⟩ => ⟨e, M', lab', _, h', hT'.mach, hT'.base, ?_⟩)
 refine Did.one hA hk (Nat.zero_le _) ⟨rfl, rfl, rfl, rfl, rfl⟩ (at_to' hit) hA.words (hA.ward.mono (Nat.le_succ _)) ?_ gl
 have := hA.thr.top (t := t) (fs := fs) (F := F.reg 0 (F.r 0 + 1))
 rw [← fr_reg] at this
 exact this
theorem rs_1y {σ : World} {p t q l n B : Nat} {c : Nat → Int} {tp : List Nat} {g : GM} {fs : List Fr} {F : Fr} (hn : n < 100000) (ht : (t : Int) < c 1) (hq : tp[t]? = some q) (hl : levelOf c t = (l : Nat)) (hlc : (l : Int) < c 0) (hthr : g.thr t = fs ++ [F]) (hfs : fs.length < 100000) (hB' : c 11 = (B : Nat)) (h1 : F.fn = 20) (hp : F.pc = 1) (hx : F.r 0 < B) (hz : g.w l (18 + F.r 0) = 0) : DoesTo 15 σ p t c tp n l g ((g.set l (18 + F.r 0) (mkHold t)).back t fs [1, F.r 0]) := by
 intro K s M lab w h hM hB hA
 obtain ⟨b, hT⟩ := hA.atTop hM hB ht hq hthr
 obtain rfl := hA.cc
 have hmay := hA.may
 have b1 : (s.tick l).mem.acc < 1000000000 := by show s.mem.acc < _; have := hA.acc; omega
 have b2 : (s.tick l).mem.wr < 1000000000 := by show s.mem.wr < _; have := hA.wr; omega
 have hl' : levelOf (s.tick l).c (t : Nat) = (l : Nat) := hl
 have hlc' : (l : Int) < (s.tick l).c 0 := hlc
 have hfs' : (fs.map Fr.enc).length < 900000 := by rw [List.length_map]; omega
 have gl : s.given.length ≤ n + 1 := Nat.le_succ_of_le hA.given
 have bk : (s.thr t).frames.dropLast = fs.map Fr.enc ∧ (s.thr t).st = (s.thr t).st ∧ (s.thr t).ki = (s.thr t).ki := ⟨by rw [hA.thr.fr t ht, hthr]; simp, rfl, rfl⟩
 have t63 : t < 9223372036854775808 := by have := hmay.2.1; omega
 have B256 : B ≤ 256 := by have h1 := (confMay_lim hmay); omega
 have hk := inK_cell (c := s.c) (i := F.r 0) hB' (by omega)
 have hit := atK_hit hmay hA.memN hlc hk
 have hv : s.mem.load (atK s.c (l : Nat) 7 (F.r 0 : Nat) 0) = (g.w l (18 + F.r 0) : Int) := load_at' hit (by rw [hA.words.at hmay hlc hk, off_cell])
 have hf0 : s.mem.f (atK s.c (l : Nat) 7 (F.r 0 : Nat) 0).toNat = (g.w l (18 + F.r 0) : Int) := by rw [hA.words.at hmay hlc hk, off_cell]
 have hsw : (s.tick l).mem.swaps (atK (s.tick l).c (l : Nat) 7 (F.r 0 : Nat) 0) (0 : Nat) = true := by show s.mem.swaps _ _ = true; unfold MemS.swaps; rw [show (s.tick l).c = s.c from rfl, hit, hf0, hz]; simp
 refine (lb_do20 h hT (by show (F.fn : Int) = 20; omega) (by omega) (R := fun s' => Did s.c n l s s' ((g.set l (18 + F.r 0) (mkHold t)).back t fs [1, F.r 0])) fun K1 M1 lab1 w1 h1' hT1 => ?_).mono fun r w' ⟨e, M', lab', s', a1, a2, a3, a4⟩ => ⟨e, M', lab', s', a1, a3, a2, a4⟩
 refine (rsv_1y h1' hT1 (by omega) (i := F.r 0) rfl (by omega) hB' hx t63 (by show (F.pc : Int) = 1; omega) (spotAt_of hT1.mach hl' hlc' hk) b1 b2 hsw).mono (fun r w' ⟨e, M', lab', h', hM', hB'⟩ => ⟨e, M', lab', _, h', hM', hB', ?_⟩)
 refine Did.one hA hk (Nat.le_refl _) ⟨rfl, rfl, rfl, rfl, rfl⟩ (cas_yes' hit hsw) ?_ (hA.ward.mono (Nat.le_succ _)) ((hA.thr.set l _ _).back (t := t) (fs := fs) (us := [1, F.r 0]) (x := s.thr t) bk) gl
 ·have := hA.words.set hmay (l := l) hk (mkHold t)
  rw [off_cell] at this
  exact this
theorem rl_0 {σ : World} {p t q l n B : Nat} {c : Nat → Int} {tp : List Nat} {g : GM} {fs : List Fr} {F : Fr} (hn : n < 100000) (ht : (t : Int) < c 1) (hq : tp[t]? = some q) (hl : levelOf c t = (l : Nat)) (hlc : (l : Int) < c 0) (hthr : g.thr t = fs ++ [F]) (hfs : fs.length < 100000) (hB' : c 11 = (B : Nat)) (h1 : F.fn = 21) (hx : F.r 0 < B) : DoesTo 15 σ p t c tp n l g ((g.set l (18 + F.r 0) 0).back t fs []) := by
 intro K s M lab w h hM hB hA
 obtain ⟨b, hT⟩ := hA.atTop hM hB ht hq hthr
 obtain rfl := hA.cc
 have hmay := hA.may
 have b1 : (s.tick l).mem.acc < 1000000000 := by show s.mem.acc < _; have := hA.acc; omega
 have b2 : (s.tick l).mem.wr < 1000000000 := by show s.mem.wr < _; have := hA.wr; omega
 have hl' : levelOf (s.tick l).c (t : Nat) = (l : Nat) := hl
 have hlc' : (l : Int) < (s.tick l).c 0 := hlc
 have hfs' : (fs.map Fr.enc).length < 900000 := by rw [List.length_map]; omega
 have gl : s.given.length ≤ n + 1 := Nat.le_succ_of_le hA.given
 have bk : (s.thr t).frames.dropLast = fs.map Fr.enc ∧ (s.thr t).st = (s.thr t).st ∧ (s.thr t).ki = (s.thr t).ki := ⟨by rw [hA.thr.fr t ht, hthr]; simp, rfl, rfl⟩
 have t63 : t < 9223372036854775808 := by have := hmay.2.1; omega
 have B256 : B ≤ 256 := by have h1 := (confMay_lim hmay); omega
 have hk := inK_cell (c := s.c) (i := F.r 0) hB' (by omega)
 have hit := atK_hit hmay hA.memN hlc hk
 have hv : s.mem.load (atK s.c (l : Nat) 7 (F.r 0 : Nat) 0) = (g.w l (18 + F.r 0) : Int) := load_at' hit (by rw [hA.words.at hmay hlc hk, off_cell])
 have hf0 : s.mem.f (atK s.c (l : Nat) 7 (F.r 0 : Nat) 0).toNat = (g.w l (18 + F.r 0) : Int) := by rw [hA.words.at hmay hlc hk, off_cell]
 refine (lb_do21 h hT (by show (F.fn : Int) = 21; omega) (by omega) (R := fun s' => Did s.c n l s s' ((g.set l (18 + F.r 0) 0).back t fs [])) fun K1 M1 lab1 w1 h1' hT1 => ?_).mono fun r w' ⟨e, M', lab', s', a1, a2, a3, a4⟩ => ⟨e, M', lab', s', a1, a3, a2, a4⟩
 refine (rel_0 h1' hT1 (by omega) (i := F.r 0) rfl (by omega) (spotAt_of hT1.mach hl' hlc' hk) b1 b2).mono (fun r w' ⟨e, M', lab', h', hM', hB'⟩ => ⟨e, M', lab', _, h', hM', hB', ?_⟩)
 refine Did.one hA hk (Nat.le_refl _) ⟨rfl, rfl, rfl, rfl, rfl⟩ (store_to' hit) ?_ (hA.ward.mono (Nat.le_succ _)) ((hA.thr.set l _ _).back (t := t) (fs := fs) (us := []) (x := s.thr t) bk) gl
 ·have := hA.words.set hmay (l := l) hk (0)
  rw [off_cell] at this
  exact this
theorem fl_0 {σ : World} {p t q l n B : Nat} {c : Nat → Int} {tp : List Nat} {g : GM} {fs : List Fr} {F : Fr} (hn : n < 100000) (ht : (t : Int) < c 1) (hq : tp[t]? = some q) (hl : levelOf c t = (l : Nat)) (hlc : (l : Int) < c 0) (hthr : g.thr t = fs ++ [F]) (hfs : fs.length < 100000) (hB' : c 11 = (B : Nat)) (h1 : F.fn = 22) (hp : F.pc = 0) : DoesTo 15 σ p t c tp n l g (g.top t fs ((F.reg 3 (g.w l 1)).goto 1)) := by
 intro K s M lab w h hM hB hA
 obtain ⟨b, hT⟩ := hA.atTop hM hB ht hq hthr
 obtain rfl := hA.cc
 have hmay := hA.may
 have b1 : (s.tick l).mem.acc < 1000000000 := by show s.mem.acc < _; have := hA.acc; omega
 have b2 : (s.tick l).mem.wr < 1000000000 := by show s.mem.wr < _; have := hA.wr; omega
 have hl' : levelOf (s.tick l).c (t : Nat) = (l : Nat) := hl
 have hlc' : (l : Int) < (s.tick l).c 0 := hlc
 have hfs' : (fs.map Fr.enc).length < 900000 := by rw [List.length_map]; omega
 have gl : s.given.length ≤ n + 1 := Nat.le_succ_of_le hA.given
 have bk : (s.thr t).frames.dropLast = fs.map Fr.enc ∧ (s.thr t).st = (s.thr t).st ∧ (s.thr t).ki = (s.thr t).ki := ⟨by rw [hA.thr.fr t ht, hthr]; simp, rfl, rfl⟩
 have t63 : t < 9223372036854775808 := by have := hmay.2.1; omega
 have B256 : B ≤ 256 := by have h1 := (confMay_lim hmay); omega
 have hk := inK_epoch s.c
 have hit := atK_hit hmay hA.memN hlc hk
 have hv : s.mem.load (atK s.c (l : Nat) 1 0 0) = (g.w l 1 : Int) := load_at' hit (by rw [hA.words.at hmay hlc hk, off_epoch])
 refine (lb_do22 h hT (by show (F.fn : Int) = 22; omega) (by omega) (R := fun s' => Did s.c n l s s' (g.top t fs ((F.reg 3 (g.w l 1)).goto 1))) fun K1 M1 lab1 w1 h1' hT1 => ?_).mono fun r w' ⟨e, M', lab', s', a1, a2, a3, a4⟩ => ⟨e, M', lab', s', a1, a3, a2, a4⟩
 refine (fill_0 h1' hT1 (by show (F.pc : Int) = 0; omega) (spotAt_of hT1.mach hl' hlc' hk) b1).mono (fun r w' ⟨e, M', lab', h', hT'⟩ => ⟨e, M', lab', _, h', hT'.mach, hT'.base, ?_⟩)
 refine Did.one hA hk (Nat.zero_le _) ⟨rfl, rfl, rfl, rfl, rfl⟩ (at_to' hit) hA.words (hA.ward.mono (Nat.le_succ _)) ?_ gl
 have := hA.thr.top (t := t) (fs := fs) (F := (F.reg 3 (g.w l 1)).goto 1)
 rw [← fr_goto, ← fr_reg, ← hv] at this
 exact this
theorem fl_1 {σ : World} {p t q l n B : Nat} {c : Nat → Int} {tp : List Nat} {g : GM} {fs : List Fr} {F : Fr} (hn : n < 100000) (ht : (t : Int) < c 1) (hq : tp[t]? = some q) (hl : levelOf c t = (l : Nat)) (hlc : (l : Int) < c 0) (hthr : g.thr t = fs ++ [F]) (hfs : fs.length < 100000) (hB' : c 11 = (B : Nat)) (h1 : F.fn = 22) (hp : F.pc = 1) (hx : F.r 0 < B) (r1 : F.r 1 < 9223372036854775808) (r2 : F.r 2 < 9223372036854775808) (r3 : F.r 3 < 18446744073709551616) : DoesTo 15 σ p t c tp n l g ((g.set l (18 + F.r 0) (mkCell (F.r 1) (F.r 2) (F.r 3))).back t fs []) := by
 intro K s M lab w h hM hB hA
 obtain ⟨b, hT⟩ := hA.atTop hM hB ht hq hthr
 obtain rfl := hA.cc
 have hmay := hA.may
 have b1 : (s.tick l).mem.acc < 1000000000 := by show s.mem.acc < _; have := hA.acc; omega
 have b2 : (s.tick l).mem.wr < 1000000000 := by show s.mem.wr < _; have := hA.wr; omega
 have hl' : levelOf (s.tick l).c (t : Nat) = (l : Nat) := hl
 have hlc' : (l : Int) < (s.tick l).c 0 := hlc
 have hfs' : (fs.map Fr.enc).length < 900000 := by rw [List.length_map]; omega
 have gl : s.given.length ≤ n + 1 := Nat.le_succ_of_le hA.given
 have bk : (s.thr t).frames.dropLast = fs.map Fr.enc ∧ (s.thr t).st = (s.thr t).st ∧ (s.thr t).ki = (s.thr t).ki := ⟨by rw [hA.thr.fr t ht, hthr]; simp, rfl, rfl⟩
 have t63 : t < 9223372036854775808 := by have := hmay.2.1; omega
 have B256 : B ≤ 256 := by have h1 := (confMay_lim hmay); omega
 have hk := inK_cell (c := s.c) (i := F.r 0) hB' (by omega)
 have hit := atK_hit hmay hA.memN hlc hk
 have hv : s.mem.load (atK s.c (l : Nat) 7 (F.r 0 : Nat) 0) = (g.w l (18 + F.r 0) : Int) := load_at' hit (by rw [hA.words.at hmay hlc hk, off_cell])
 have hf0 : s.mem.f (atK s.c (l : Nat) 7 (F.r 0 : Nat) 0).toNat = (g.w l (18 + F.r 0) : Int) := by rw [hA.words.at hmay hlc hk, off_cell]
 refine (lb_do22 h hT (by show (F.fn : Int) = 22; omega) (by omega) (R := fun s' => Did s.c n l s s' ((g.set l (18 + F.r 0) (mkCell (F.r 1) (F.r 2) (F.r 3))).back t fs [])) fun K1 M1 lab1 w1 h1' hT1 => ?_).mono fun r w' ⟨e, M', lab', s', a1, a2, a3, a4⟩ => ⟨e, M', lab', s', a1, a3, a2, a4⟩
 refine (fill_1 h1' hT1 (by omega) (by show (F.pc : Int) = 1; omega) (i := F.r 0) (sl := F.r 1) (gn := F.r 2) (lb := F.r 3) rfl rfl rfl rfl (by omega) r1 r2 r3 (spotAt_of hT1.mach hl' hlc' hk) b1 b2).mono (fun r w' ⟨e, M', lab', h', hM', hB'⟩ => ⟨e, M', lab', _, h', hM', hB', ?_⟩)
 refine Did.one hA hk (Nat.le_refl _) ⟨rfl, rfl, rfl, rfl, rfl⟩ (store_to' hit) ?_ (hA.ward.mono (Nat.le_succ _)) ((hA.thr.set l _ _).back (t := t) (fs := fs) (us := []) (x := s.thr t) bk) gl
 ·have := hA.words.set hmay (l := l) hk (mkCell (F.r 1) (F.r 2) (F.r 3))
  rw [off_cell] at this
  exact this
theorem sp_0 {σ : World} {p t q l n B : Nat} {c : Nat → Int} {tp : List Nat} {g : GM} {fs : List Fr} {F : Fr} (hn : n < 100000) (ht : (t : Int) < c 1) (hq : tp[t]? = some q) (hl : levelOf c t = (l : Nat)) (hlc : (l : Int) < c 0) (hthr : g.thr t = fs ++ [F]) (hfs : fs.length < 100000) (hB' : c 11 = (B : Nat)) (h1 : F.fn = 23) (hp : F.pc = 0) : DoesTo 15 σ p t c tp n l g (g.top t fs ((F.reg 0 (g.w l 1)).goto 1)) := by
 intro K s M lab w h hM hB hA
 obtain ⟨b, hT⟩ := hA.atTop hM hB ht hq hthr
 obtain rfl := hA.cc
 have hmay := hA.may
 have b1 : (s.tick l).mem.acc < 1000000000 := by show s.mem.acc < _; have := hA.acc; omega
 have b2 : (s.tick l).mem.wr < 1000000000 := by show s.mem.wr < _; have := hA.wr; omega
 have hl' : levelOf (s.tick l).c (t : Nat) = (l : Nat) := hl
 have hlc' : (l : Int) < (s.tick l).c 0 := hlc
 have hfs' : (fs.map Fr.enc).length < 900000 := by rw [List.length_map]; omega
 have gl : s.given.length ≤ n + 1 := Nat.le_succ_of_le hA.given
 have bk : (s.thr t).frames.dropLast = fs.map Fr.enc ∧ (s.thr t).st = (s.thr t).st ∧ (s.thr t).ki = (s.thr t).ki := ⟨by rw [hA.thr.fr t ht, hthr]; simp, rfl, rfl⟩
 have t63 : t < 9223372036854775808 := by have := hmay.2.1; omega
 have B256 : B ≤ 256 := by have h1 := (confMay_lim hmay); omega
 have hk := inK_epoch s.c
 have hit := atK_hit hmay hA.memN hlc hk
 have hv : s.mem.load (atK s.c (l : Nat) 1 0 0) = (g.w l 1 : Int) := load_at' hit (by rw [hA.words.at hmay hlc hk, off_epoch])
 refine (lb_do23 h hT (by show (F.fn : Int) = 23; omega) (by omega) (R := fun s' => Did s.c n l s s' (g.top t fs ((F.reg 0 (g.w l 1)).goto 1))) fun K1 M1 lab1 w1 h1' hT1 => ?_).mono fun r w' ⟨e, M', lab', s', a1, a2, a3, a4⟩ => ⟨e, M', lab', s', a1, a3, a2, a4⟩
 refine (sw_0 h1' hT1 (by show (F.pc : Int) = 0; omega) (spotAt_of hT1.mach hl' hlc' hk) b1).mono (fun r w' ⟨e, M', lab', h', hT'⟩ => ⟨e, M', lab', _, h', hT'.mach, hT'.base, ?_⟩)
 refine Did.one hA hk (Nat.zero_le _) ⟨rfl, rfl, rfl, rfl, rfl⟩ (at_to' hit) hA.words (hA.ward.mono (Nat.le_succ _)) ?_ gl
 have := hA.thr.top (t := t) (fs := fs) (F := (F.reg 0 (g.w l 1)).goto 1)
 rw [← fr_goto, ← fr_reg, ← hv] at this
 exact this
theorem sp_past {σ : World} {p t q l n B : Nat} {c : Nat → Int} {tp : List Nat} {g : GM} {fs : List Fr} {F : Fr} (hn : n < 100000) (ht : (t : Int) < c 1) (hq : tp[t]? = some q) (hl : levelOf c t = (l : Nat)) (hlc : (l : Int) < c 0) (hthr : g.thr t = fs ++ [F]) (hfs : fs.length < 100000) (hB' : c 11 = (B : Nat)) (h1 : F.fn = 23) (hp : F.pc = 1) (hr : F.r 1 < 1000000) (hx : B ≤ F.r 1) : DoesTo 15 σ p t c tp n l g (g.back t fs [F.r 3]) := by
 intro K s M lab w h hM hB hA
 obtain ⟨b, hT⟩ := hA.atTop hM hB ht hq hthr
 obtain rfl := hA.cc
 have hmay := hA.may
 have b1 : (s.tick l).mem.acc < 1000000000 := by show s.mem.acc < _; have := hA.acc; omega
 have b2 : (s.tick l).mem.wr < 1000000000 := by show s.mem.wr < _; have := hA.wr; omega
 have hl' : levelOf (s.tick l).c (t : Nat) = (l : Nat) := hl
 have hlc' : (l : Int) < (s.tick l).c 0 := hlc
 have hfs' : (fs.map Fr.enc).length < 900000 := by rw [List.length_map]; omega
 have gl : s.given.length ≤ n + 1 := Nat.le_succ_of_le hA.given
 have bk : (s.thr t).frames.dropLast = fs.map Fr.enc ∧ (s.thr t).st = (s.thr t).st ∧ (s.thr t).ki = (s.thr t).ki := ⟨by rw [hA.thr.fr t ht, hthr]; simp, rfl, rfl⟩
 have t63 : t < 9223372036854775808 := by have := hmay.2.1; omega
 have B256 : B ≤ 256 := by have h1 := (confMay_lim hmay); omega
 refine (lb_do23 h hT (by show (F.fn : Int) = 23; omega) (by omega) (R := fun s' => Did s.c n l s s' (g.back t fs [F.r 3])) fun K1 M1 lab1 w1 h1' hT1 => ?_).mono fun r w' ⟨e, M', lab', s', a1, a2, a3, a4⟩ => ⟨e, M', lab', s', a1, a3, a2, a4⟩
 refine sw_1 h1' hT1 (by show (F.pc : Int) = 1; omega) (R := fun s' => Did s.c n l s s' (g.back t fs [F.r 3])) fun K2 M2 lab2 w2 h2' hT2 => ?_
 refine (look_past h2' hT2 (by omega) (i := F.r 1) rfl (by omega) hB' hx (z := F.r 3) rfl).mono (fun r w' ⟨e, M', lab', h', hM', hB'⟩ => ⟨e, M', lab', _, h', hM', hB', ?_⟩)
 exact Did.none hA ⟨rfl, rfl, rfl, rfl, rfl⟩ rfl hA.words (hA.ward.mono (Nat.le_succ _)) (hA.thr.back (t := t) (fs := fs) (us := [F.r 3]) (x := s.thr t) bk) gl
theorem sp_yes {σ : World} {p t q l n B : Nat} {c : Nat → Int} {tp : List Nat} {g : GM} {fs : List Fr} {F : Fr} (hn : n < 100000) (ht : (t : Int) < c 1) (hq : tp[t]? = some q) (hl : levelOf c t = (l : Nat)) (hlc : (l : Int) < c 0) (hthr : g.thr t = fs ++ [F]) (hfs : fs.length < 100000) (hB' : c 11 = (B : Nat)) (h1 : F.fn = 23) (hp : F.pc = 1) (hx : F.r 1 < B) (he : F.r 0 < 18446744073709551616) (hw : g.w l (18 + F.r 1) < 18446744073709551616) (hkd : kindN (g.w l (18 + F.r 1)) = 2) (ho : oldB (cutN (g.w l (18 + F.r 1)) 32 30) (F.r 0) = true) : DoesTo 15 σ p t c tp n l g (g.top t fs ((F.reg 2 (g.w l (18 + F.r 1))).goto 2)) := by
 intro K s M lab w h hM hB hA
 obtain ⟨b, hT⟩ := hA.atTop hM hB ht hq hthr
 obtain rfl := hA.cc
 have hmay := hA.may
 have b1 : (s.tick l).mem.acc < 1000000000 := by show s.mem.acc < _; have := hA.acc; omega
 have b2 : (s.tick l).mem.wr < 1000000000 := by show s.mem.wr < _; have := hA.wr; omega
 have hl' : levelOf (s.tick l).c (t : Nat) = (l : Nat) := hl
 have hlc' : (l : Int) < (s.tick l).c 0 := hlc
 have hfs' : (fs.map Fr.enc).length < 900000 := by rw [List.length_map]; omega
 have gl : s.given.length ≤ n + 1 := Nat.le_succ_of_le hA.given
 have bk : (s.thr t).frames.dropLast = fs.map Fr.enc ∧ (s.thr t).st = (s.thr t).st ∧ (s.thr t).ki = (s.thr t).ki := ⟨by rw [hA.thr.fr t ht, hthr]; simp, rfl, rfl⟩
 have t63 : t < 9223372036854775808 := by have := hmay.2.1; omega
 have B256 : B ≤ 256 := by have h1 := (confMay_lim hmay); omega
 have hk := inK_cell (c := s.c) (i := F.r 1) hB' (by omega)
 have hit := atK_hit hmay hA.memN hlc hk
 have hv : s.mem.load (atK s.c (l : Nat) 7 (F.r 1 : Nat) 0) = (g.w l (18 + F.r 1) : Int) := load_at' hit (by rw [hA.words.at hmay hlc hk, off_cell])
 have hf0 : s.mem.f (atK s.c (l : Nat) 7 (F.r 1 : Nat) 0).toNat = (g.w l (18 + F.r 1) : Int) := by rw [hA.words.at hmay hlc hk, off_cell]
 refine (lb_do23 h hT (by show (F.fn : Int) = 23; omega) (by omega) (R := fun s' => Did s.c n l s s' (g.top t fs ((F.reg 2 (g.w l (18 + F.r 1))).goto 2))) fun K1 M1 lab1 w1 h1' hT1 => ?_).mono fun r w' ⟨e, M', lab', s', a1, a2, a3, a4⟩ => ⟨e, M', lab', s', a1, a3, a2, a4⟩
 refine sw_1 h1' hT1 (by show (F.pc : Int) = 1; omega) (R := fun s' => Did s.c n l s s' (g.top t fs ((F.reg 2 (g.w l (18 + F.r 1))).goto 2))) fun K2 M2 lab2 w2 h2' hT2 => ?_
 refine (look_yes h2' hT2 (i := F.r 1) rfl (by omega) hB' hx (e := F.r 0) rfl he hw (spotAt_of hT2.mach hl' hlc' hk) b1 hv hkd ho).mono (fun r w' ⟨e, M', lab', h', hT'⟩ => ⟨e, M', lab', _, h', hT'.mach, hT'.base, ?_⟩)
 refine Did.one hA hk (Nat.zero_le _) ⟨rfl, rfl, rfl, rfl, rfl⟩ (at_to' hit) hA.words (hA.ward.mono (Nat.le_succ _)) ?_ gl
 have := hA.thr.top (t := t) (fs := fs) (F := (F.reg 2 (g.w l (18 + F.r 1))).goto 2)
 rw [← fr_goto, ← fr_reg] at this
 exact this
theorem sp_no {σ : World} {p t q l n B : Nat} {c : Nat → Int} {tp : List Nat} {g : GM} {fs : List Fr} {F : Fr} (hn : n < 100000) (ht : (t : Int) < c 1) (hq : tp[t]? = some q) (hl : levelOf c t = (l : Nat)) (hlc : (l : Int) < c 0) (hthr : g.thr t = fs ++ [F]) (hfs : fs.length < 100000) (hB' : c 11 = (B : Nat)) (h1 : F.fn = 23) (hp : F.pc = 1) (hx : F.r 1 < B) (he : F.r 0 < 18446744073709551616) (hw : g.w l (18 + F.r 1) < 18446744073709551616) (hko : kindN (g.w l (18 + F.r 1)) ≠ 2 ∨ (kindN (g.w l (18 + F.r 1)) = 2 ∧ oldB (cutN (g.w l (18 + F.r 1)) 32 30) (F.r 0) = false)) : DoesTo 15 σ p t c tp n l g (g.top t fs ((F.reg 2 (g.w l (18 + F.r 1))).reg 1 (F.r 1 + 1))) := by
 intro K s M lab w h hM hB hA
 obtain ⟨b, hT⟩ := hA.atTop hM hB ht hq hthr
 obtain rfl := hA.cc
 have hmay := hA.may
 have b1 : (s.tick l).mem.acc < 1000000000 := by show s.mem.acc < _; have := hA.acc; omega
 have b2 : (s.tick l).mem.wr < 1000000000 := by show s.mem.wr < _; have := hA.wr; omega
 have hl' : levelOf (s.tick l).c (t : Nat) = (l : Nat) := hl
 have hlc' : (l : Int) < (s.tick l).c 0 := hlc
 have hfs' : (fs.map Fr.enc).length < 900000 := by rw [List.length_map]; omega
 have gl : s.given.length ≤ n + 1 := Nat.le_succ_of_le hA.given
 have bk : (s.thr t).frames.dropLast = fs.map Fr.enc ∧ (s.thr t).st = (s.thr t).st ∧ (s.thr t).ki = (s.thr t).ki := ⟨by rw [hA.thr.fr t ht, hthr]; simp, rfl, rfl⟩
 have t63 : t < 9223372036854775808 := by have := hmay.2.1; omega
 have B256 : B ≤ 256 := by have h1 := (confMay_lim hmay); omega
 have hk := inK_cell (c := s.c) (i := F.r 1) hB' (by omega)
 have hit := atK_hit hmay hA.memN hlc hk
 have hv : s.mem.load (atK s.c (l : Nat) 7 (F.r 1 : Nat) 0) = (g.w l (18 + F.r 1) : Int) := load_at' hit (by rw [hA.words.at hmay hlc hk, off_cell])
 have hf0 : s.mem.f (atK s.c (l : Nat) 7 (F.r 1 : Nat) 0).toNat = (g.w l (18 + F.r 1) : Int) := by rw [hA.words.at hmay hlc hk, off_cell]
 refine (lb_do23 h hT (by show (F.fn : Int) = 23; omega) (by omega) (R := fun s' => Did s.c n l s s' (g.top t fs ((F.reg 2 (g.w l (18 + F.r 1))).reg 1 (F.r 1 + 1)))) fun K1 M1 lab1 w1 h1' hT1 => ?_).mono fun r w' ⟨e, M', lab', s', a1, a2, a3, a4⟩ => ⟨e, M', lab', s', a1, a3, a2, a4⟩
 refine sw_1 h1' hT1 (by show (F.pc : Int) = 1; omega) (R := fun s' => Did s.c n l s s' (g.top t fs ((F.reg 2 (g.w l (18 + F.r 1))).reg 1 (F.r 1 + 1)))) fun K2 M2 lab2 w2 h2' hT2 => ?_
 refine (look_no h2' hT2 (i := F.r 1) rfl (by omega) hB' hx (e := F.r 0) rfl he hw (spotAt_of hT2.mach hl' hlc' hk) b1 hv hko).mono (fun r w' ⟨e, M', lab', h', hT'⟩ => ⟨e, M', lab', _, h', hT'.mach, hT'.base, ?_⟩)
 refine Did.one hA hk (Nat.zero_le _) ⟨rfl, rfl, rfl, rfl, rfl⟩ (at_to' hit) hA.words (hA.ward.mono (Nat.le_succ _)) ?_ gl
 have := hA.thr.top (t := t) (fs := fs) (F := (F.reg 2 (g.w l (18 + F.r 1))).reg 1 (F.r 1 + 1))
 rw [← fr_reg, ← fr_reg] at this
 exact this
theorem sp_2y {σ : World} {p t q l n B : Nat} {c : Nat → Int} {tp : List Nat} {g : GM} {fs : List Fr} {F : Fr} (hn : n < 100000) (ht : (t : Int) < c 1) (hq : tp[t]? = some q) (hl : levelOf c t = (l : Nat)) (hlc : (l : Int) < c 0) (hthr : g.thr t = fs ++ [F]) (hfs : fs.length < 100000) (hB' : c 11 = (B : Nat)) (h1 : F.fn = 23) (hp : F.pc = 2) (hx : F.r 1 < B) (hr2 : F.r 2 < 18446744073709551616) (hkd : kindN (F.r 2) = 2) (hz : g.w l (18 + F.r 1) = F.r 2) : DoesTo 15 σ p t c tp n l g ((g.set l (18 + F.r 1) (mkHold t)).top t (fs ++ [F.goto 3]) ⟨2, 0, fun i => [cutN (F.r 2) 0 8].getD i 0⟩) := by
 intro K s M lab w h hM hB hA
 obtain ⟨b, hT⟩ := hA.atTop hM hB ht hq hthr
 obtain rfl := hA.cc
 have hmay := hA.may
 have b1 : (s.tick l).mem.acc < 1000000000 := by show s.mem.acc < _; have := hA.acc; omega
 have b2 : (s.tick l).mem.wr < 1000000000 := by show s.mem.wr < _; have := hA.wr; omega
 have hl' : levelOf (s.tick l).c (t : Nat) = (l : Nat) := hl
 have hlc' : (l : Int) < (s.tick l).c 0 := hlc
 have hfs' : (fs.map Fr.enc).length < 900000 := by rw [List.length_map]; omega
 have gl : s.given.length ≤ n + 1 := Nat.le_succ_of_le hA.given
 have bk : (s.thr t).frames.dropLast = fs.map Fr.enc ∧ (s.thr t).st = (s.thr t).st ∧ (s.thr t).ki = (s.thr t).ki := ⟨by rw [hA.thr.fr t ht, hthr]; simp, rfl, rfl⟩
 have t63 : t < 9223372036854775808 := by have := hmay.2.1; omega
 have B256 : B ≤ 256 := by have h1 := (confMay_lim hmay); omega
 have hk := inK_cell (c := s.c) (i := F.r 1) hB' (by omega)
 have hit := atK_hit hmay hA.memN hlc hk
 have hv : s.mem.load (atK s.c (l : Nat) 7 (F.r 1 : Nat) 0) = (g.w l (18 + F.r 1) : Int) := load_at' hit (by rw [hA.words.at hmay hlc hk, off_cell])
 have hf0 : s.mem.f (atK s.c (l : Nat) 7 (F.r 1 : Nat) 0).toNat = (g.w l (18 + F.r 1) : Int) := by rw [hA.words.at hmay hlc hk, off_cell]
 have hsw : (s.tick l).mem.swaps (atK (s.tick l).c (l : Nat) 7 (F.r 1 : Nat) 0) (F.r 2 : Nat) = true := by show s.mem.swaps _ _ = true; unfold MemS.swaps; rw [show (s.tick l).c = s.c from rfl, hit, hf0, hz]; simp
 refine (lb_do23 h hT (by show (F.fn : Int) = 23; omega) (by omega) (R := fun s' => Did s.c n l s s' ((g.set l (18 + F.r 1) (mkHold t)).top t (fs ++ [F.goto 3]) ⟨2, 0, fun i => [cutN (F.r 2) 0 8].getD i 0⟩)) fun K1 M1 lab1 w1 h1' hT1 => ?_).mono fun r w' ⟨e, M', lab', s', a1, a2, a3, a4⟩ => ⟨e, M', lab', s', a1, a3, a2, a4⟩
 refine (sw_2y h1' hT1 (by omega) (i := F.r 1) (v := F.r 2) rfl rfl (by omega) hr2 hkd t63 (by show (F.pc : Int) = 2; omega) (spotAt_of hT1.mach hl' hlc' hk) b1 b2 hsw).mono (fun r w' ⟨e, M', lab', h', hM', hB'⟩ => ⟨e, M', lab', _, h', hM', hB', ?_⟩)
 refine Did.one hA hk (Nat.le_refl _) ⟨rfl, rfl, rfl, rfl, rfl⟩ (cas_yes' hit hsw) ?_ (hA.ward.mono (Nat.le_succ _)) ?_ gl
 ·have := hA.words.set hmay (l := l) hk (mkHold t)
  rw [off_cell] at this
  exact this
 have := ((hA.thr.set l (18 + F.r 1) (mkHold t)).top (t := t) (fs := fs) (F := F.goto 3)).call ht 2 [cutN (F.r 2) 0 8]
 have e : (((g.set l (18 + F.r 1) (mkHold t)).top t fs (F.goto 3)).top t (((g.set l (18 + F.r 1) (mkHold t)).top t fs (F.goto 3)).thr t) ⟨2, 0, fun i => [cutN (F.r 2) 0 8].getD i 0⟩) = (g.set l (18 + F.r 1) (mkHold t)).top t (fs ++ [F.goto 3]) ⟨2, 0, fun i => [cutN (F.r 2) 0 8].getD i 0⟩ := by
  unfold GM.top
  simp only [put1_same, put1_put1]
 rw [e] at this
 exact this
theorem sp_3 {σ : World} {p t q l n B : Nat} {c : Nat → Int} {tp : List Nat} {g : GM} {fs : List Fr} {F : Fr} (hn : n < 100000) (ht : (t : Int) < c 1) (hq : tp[t]? = some q) (hl : levelOf c t = (l : Nat)) (hlc : (l : Int) < c 0) (hthr : g.thr t = fs ++ [F]) (hfs : fs.length < 100000) (hB' : c 11 = (B : Nat)) (h1 : F.fn = 23) (hp : F.pc = 3) (hx : F.r 1 < B) (hr3 : F.r 3 < 1000000) : DoesTo 15 σ p t c tp n l g ((g.set l (18 + F.r 1) 0).top t fs (((F.reg 3 (F.r 3 + 1)).reg 1 (F.r 1 + 1)).goto 1)) := by
 intro K s M lab w h hM hB hA
 obtain ⟨b, hT⟩ := hA.atTop hM hB ht hq hthr
 obtain rfl := hA.cc
 have hmay := hA.may
 have b1 : (s.tick l).mem.acc < 1000000000 := by show s.mem.acc < _; have := hA.acc; omega
 have b2 : (s.tick l).mem.wr < 1000000000 := by show s.mem.wr < _; have := hA.wr; omega
 have hl' : levelOf (s.tick l).c (t : Nat) = (l : Nat) := hl
 have hlc' : (l : Int) < (s.tick l).c 0 := hlc
 have hfs' : (fs.map Fr.enc).length < 900000 := by rw [List.length_map]; omega
 have gl : s.given.length ≤ n + 1 := Nat.le_succ_of_le hA.given
 have bk : (s.thr t).frames.dropLast = fs.map Fr.enc ∧ (s.thr t).st = (s.thr t).st ∧ (s.thr t).ki = (s.thr t).ki := ⟨by rw [hA.thr.fr t ht, hthr]; simp, rfl, rfl⟩
 have t63 : t < 9223372036854775808 := by have := hmay.2.1; omega
 have B256 : B ≤ 256 := by have h1 := (confMay_lim hmay); omega
 have hk := inK_cell (c := s.c) (i := F.r 1) hB' (by omega)
 have hit := atK_hit hmay hA.memN hlc hk
 have hv : s.mem.load (atK s.c (l : Nat) 7 (F.r 1 : Nat) 0) = (g.w l (18 + F.r 1) : Int) := load_at' hit (by rw [hA.words.at hmay hlc hk, off_cell])
 have hf0 : s.mem.f (atK s.c (l : Nat) 7 (F.r 1 : Nat) 0).toNat = (g.w l (18 + F.r 1) : Int) := by rw [hA.words.at hmay hlc hk, off_cell]
 refine (lb_do23 h hT (by show (F.fn : Int) = 23; omega) (by omega) (R := fun s' => Did s.c n l s s' ((g.set l (18 + F.r 1) 0).top t fs (((F.reg 3 (F.r 3 + 1)).reg 1 (F.r 1 + 1)).goto 1))) fun K1 M1 lab1 w1 h1' hT1 => ?_).mono fun r w' ⟨e, M', lab', s', a1, a2, a3, a4⟩ => ⟨e, M', lab', s', a1, a3, a2, a4⟩
 refine (sw_3 h1' hT1 (i := F.r 1) (z := F.r 3) rfl rfl (by omega) (by omega) (by show (F.pc : Int) = 3; omega) (spotAt_of hT1.mach hl' hlc' hk) b1 b2).mono (fun r w' ⟨e, M', lab', h', hT'⟩ => ⟨e, M', lab', _, h', hT'.mach, hT'.base, ?_⟩)
 refine Did.one hA hk (Nat.le_refl _) ⟨rfl, rfl, rfl, rfl, rfl⟩ (store_to' hit) ?_ (hA.ward.mono (Nat.le_succ _)) ?_ gl
 ·have := hA.words.set hmay (l := l) hk (0)
  rw [off_cell] at this
  exact this
 have := (hA.thr.set l (18 + F.r 1) 0).top (t := t) (fs := fs) (F := ((F.reg 3 (F.r 3 + 1)).reg 1 (F.r 1 + 1)).goto 1)
 rw [← fr_goto, ← fr_reg, ← fr_reg] at this
 exact this
end
end Go.Proofs.YtjeeldacnllipaaGreat
