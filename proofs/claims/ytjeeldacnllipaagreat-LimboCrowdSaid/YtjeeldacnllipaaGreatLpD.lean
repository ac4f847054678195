import Derived.Test.YtjeeldacnllipaaGreatLpC
namespace Go.Proofs.YtjeeldacnllipaaGreat
set_option maxHeartbeats 100000000
set_option maxRecDepth 20000
set_option linter.unusedVariables false
set_option linter.unusedSimpArgs false
set_option linter.unnecessarySimpa false
open List renaming getElem_toArray → qA, getElem_cons_succ → qB, getElem_cons_zero → qC, setIfInBounds_toArray → qD, set_cons_zero → qE, set_cons_succ → qF
section
open Go.RowKit
theorem vT {σ w : World} {M : Mm} {p t q b : Nat} (h : Has σ M w) {i : Nat} (hi : i < 9223372036854775808) {r : Int} (SP : SpotAt σ M p t 7 (i : Nat) 0 r) : Calls Tryz.prog 95 #[.agg (runC p t q b), .int .u64 (i : Nat)] w fun e w' => e = .returned (.int .i64 r) ∧ Has σ M w' := by
 obtain ⟨d0, d1, d2, d3, dx, dz⟩ := runD p t q b
 have wi : IntKind.i64.wrap (i : Int) = (i : Int) := IntWalk.i64_in _ (by omega)
 go_enter Tryz.func95, Tryz.ntmps95
 go_upto_region 1 with (fail)
 obtain ⟨M1, hbx, hle, hb4, hn⟩ := h.box (.cells (runC p t q b) 124)
 generalize w.alloc _ = wx at hbx ⊢
 generalize w.heap.size = b4 at hb4 hn ⊢
 clear h
 try clear w
 have h := hbx
 clear hbx
 obtain ⟨w, rfl⟩ : ∃ x : World, x = wx := ⟨_, rfl⟩
 have SP1 := Lib.hid (fun (w : World) (h : Has σ M1 w) => SP M1 w hle h)
 clear SP
 generalize runC p t q b = rc at *
 go_wp2_with (first
  | (with_reducible show wpList _ _ _ (⟨_, .load 26 _, _, _, _, _⟩ :: _) _ _; refine zZ h rfl 26 _ rfl rfl hb4 d0 Tryz.underlying26 rfl ?_)
  | (with_reducible show wpList _ _ _ (⟨_, .load 3 _, _, _, _, _⟩ :: _) _ _; refine zZ h rfl 3 _ rfl rfl hb4 d1 Tryz.underlying3 rfl ?_)
  | (go_at_call 120; refine (SP1.out _ h).mono ?_; clear h; rintro _ w ⟨rfl, h⟩))
 go_ret
 exact ⟨rfl, h.le hle⟩
theorem vU {σ w : World} {K M : Mm} {lab : Nat → Nat} {p t q b : Nat} {s : MachS} {fs : List FrameS} {f : FrameS} (h : Has σ M w) (hT : AtTop K M lab p s t q b fs f) {i B : Nat} (hi : i < 9223372036854775808) (hB : s.c 11 = (B : Nat)) : Calls Tryz.prog 92 #[.agg (runC p t q b), .int .u64 (i : Nat)] w fun e w' => e = .returned (.bool (decide (B ≤ i))) ∧ Has σ M w' := by
 obtain ⟨d0, d1, d2, d3, dx, dz⟩ := runD p t q b
 have wi : IntKind.i64.wrap (i : Int) = (i : Int) := IntWalk.i64_in _ (by omega)
 have hfd : ∀ w : World, (Instr.field 24 (.agg #[.int .i64 (s.c 0), .int .i64 (s.c 1), .int .i64 (s.c 2), .int .i64 (s.c 3), .int .i64 (s.c 4), .int .i64 (s.c 5), .int .i64 (s.c 6), .int .i64 (s.c 7), .int .i64 (s.c 8), .int .i64 (s.c 9), .int .i64 (s.c 10), .int .i64 (s.c 11), .int .i64 (s.c 12), .int .i64 (s.c 13)]) 4).run Tryz.prog w = .ok (.int .i64 (s.c 11)) w := fun w => by kernel_rfl
 have PLQ := Lib.hid (fun (M' : Mm) (w : World) (h : Has σ M' w) (lab' : Nat → Nat) (hM : Mach M' lab' p s) => wU h hM)
 have CFQ := Lib.hid (fun (M' : Mm) (w : World) (h : Has σ M' w) (p' : Nat) (hp : M' p' = some (xK s.c)) => wR h s.c hp)
 have e0 : ints .i64 14 s.c = #[.int .i64 (s.c 0), .int .i64 (s.c 1), .int .i64 (s.c 2), .int .i64 (s.c 3), .int .i64 (s.c 4), .int .i64 (s.c 5), .int .i64 (s.c 6), .int .i64 (s.c 7), .int .i64 (s.c 8), .int .i64 (s.c 9), .int .i64 (s.c 10), .int .i64 (s.c 11), .int .i64 (s.c 12), .int .i64 (s.c 13)] := rfl
 rw [← e0, hB] at hfd
 clear e0
 generalize ints .i64 14 s.c = crow at hfd CFQ
 have hdec : decide (((B : Nat) : Int) ≤ (i : Int)) = decide (B ≤ i) := by congr 1; apply propext; omega
 go_enter Tryz.func92, Tryz.ntmps92
 go_upto_region 1 with (fail)
 obtain ⟨M1, hbx, hle, hb4, hn⟩ := h.box (.cells (runC p t q b) 124)
 generalize w.alloc _ = wx at hbx ⊢
 generalize w.heap.size = b4 at hb4 hn ⊢
 clear h
 try clear w
 have h := hbx
 clear hbx
 obtain ⟨w, rfl⟩ : ∃ x : World, x = wx := ⟨_, rfl⟩
 obtain ⟨lab1, hT1⟩ := hT.more1 hle hn hb4
 have PL := Lib.hid (fun (w : World) (h : Has σ M1 w) => PLQ.out M1 w h lab1 hT1.mach)
 have CF := Lib.hid (fun (w : World) (h : Has σ M1 w) => CFQ.out M1 w h _ hT1.mach.plan)
 clear hT hT1 hB PLQ CFQ hn
 generalize runC p t q b = rc at *
 go_wp2_with (first
  | (with_reducible show wpList _ _ _ (⟨_, .load 26 _, _, _, _, _⟩ :: _) _ _; refine zZ h rfl 26 _ rfl rfl hb4 d0 Tryz.underlying26 rfl ?_)
  | (go_at_call 57; refine (PL.out _ h).mono ?_; clear h; rintro _ w ⟨rfl, h⟩)
  | (go_at_call 58; refine (CF.out _ h).mono ?_; clear h; rintro _ w ⟨rfl, h⟩))
 go_ret
 exact ⟨by first | rw [hdec] | simp [hdec] | skip, h.le hle⟩
theorem lbNow_eq {σ w : World} {K M : Mm} {lab : Nat → Nat} {p t q b : Nat} {s : MachS} {fs : List FrameS} {f : FrameS} (h : Has σ M w) (hT : AtTop K M lab p s t q b fs f) {a : Int} (SP : SpotAt σ M p t 1 0 0 a) (hb1 : s.mem.acc < 1000000000) :
  Calls Tryz.prog 98 #[.agg (runC p t q b)] w fun r w' => r = .returned (.int .u64 (s.mem.load a)) ∧ Has σ (M.upd s.mp (.cells (s.mem.at_ a).cells 146)) w' := by
 obtain ⟨d0, d1, d2, d3, dx, dz⟩ := runD p t q b
 obtain ⟨v, hvv⟩ : ∃ v, s.mem.load a = v := ⟨_, rfl⟩
 rw [hvv]
 go_enter Tryz.func98, Tryz.ntmps98
 go_upto_region 1 with (fail)
 obtain ⟨M1, hbx, hle, hb4, hn⟩ := h.box (.cells (runC p t q b) 124)
 generalize w.alloc _ = wx at hbx ⊢
 generalize w.heap.size = b4 at hb4 hn ⊢
 clear h
 try clear w
 have h := hbx
 clear hbx
 obtain ⟨w, rfl⟩ : ∃ x : World, x = wx := ⟨_, rfl⟩
 obtain ⟨lab1, hT1⟩ := hT.more1 hle hn hb4
 have hnK : K b4 = none := by
  cases e : K b4 with
  | none => rfl
  | some o => have := (hT.base _ _ e).1; rw [hn] at this; cases this
 have hKK : K.le (K.upd b4 (.cells (runC p t q b) 124)) := Mm.le_upd' hnK _
 have hbK : (K.upd b4 (.cells (runC p t q b) 124)) b4 = some (.cells (runC p t q b) 124) := Mm.upd_same _ _ _
 have hfb := hT1.obj
 have SP1 := Lib.hid (fun (w : World) (h : Has σ M1 w) => SP M1 w hle h)
 have ME := Lib.hid (fun (w : World) (h : Has σ M1 w) => yJ h hT1.mach)
 have LD := Lib.hid (fun (w : World) (h : Has σ M1 w) => xM h hT1.mach.mem hb1 a)
 rw [hvv] at LD
 have HLE := Lib.hid (Mm.upd_mono hle s.mp (.cells (s.mem.at_ a).cells 146))
 clear hvv hT hT1 SP hb1 hn hle hnK hKK hbK hfb
 generalize runC p t q b = rc at *
 generalize M1.upd s.mp _ = M3 at HLE LD
 refine zN (Has σ M1) 9 (by kernel_rfl) (by kernel_rfl) (fun _ _ _ _ _ h => h) h.drew ?_
 clear h
 simp only [List.take_succ_cons, List.take_zero, List.drop_succ_cons, List.drop_zero]
 repeat (first
  | go_big_quiet_skip
  | (go_big_quiet_want; first
   | (refine zX 26 _ rfl rfl hb4 d0 Tryz.underlying26 rfl ?_; simp only [Act.put, qD, qE, qF]; go_big_quiet_on)
   | (refine zX 3 _ rfl rfl hb4 d1 Tryz.underlying3 rfl ?_; simp only [Act.put, qD, qE, qF]; go_big_quiet_on)
   | (go_big_quiet_op; first | go_big_quiet_on | go_big_quiet_call (first | with_reducible exact fun _ => rfl | with_reducible exact ME.out _ | with_reducible exact SP1.out _))))
 refine wpQuiet_nil ?_
 try clear w
 intro w h
 go_wp2_with (first
  | (go_at_call 94; refine (LD.out _ h).mono ?_; clear h; rintro _ w ⟨rfl, h⟩))
 go_ret
 exact ⟨rfl, h.le HLE.out⟩
theorem sH {σ w : World} {K M : Mm} {lab : Nat → Nat} {p t q b : Nat} {s : MachS} {fs : List FrameS} {f : FrameS} (h : Has σ M w) (hT : AtTop K M lab p s t q b fs f) {i x : Nat} (hi : i < 9223372036854775808) (ht : t < 9223372036854775808) {a : Int} (SP : SpotAt σ M p t 7 (i : Nat) 0 a) (hb1 : s.mem.acc < 1000000000) (hb2 : s.mem.wr < 1000000000) :
  Calls Tryz.prog 96 #[.agg (runC p t q b), .int .u64 (i : Nat), .int .u64 (x : Nat)] w fun r w' => r = .returned (.bool (s.mem.swaps a x)) ∧ ∃ M' lab', Has σ M' w' ∧ AtTop K M' lab' p { s with mem := s.mem.cas a x (zI t : Nat) } t q b fs f := by
 obtain ⟨d0, d1, d2, d3, dx, dz⟩ := runD p t q b
 have CL := Lib.hid (fun (M' : Mm) (w : World) (h : Has σ M' w) (hle : M.le M') => vT (q := q) (b := b) h hi (SP.le hle))
 have HO := Lib.hid (fun (M' : Mm) (w : World) (h : Has σ M' w) => (lL t ht w).mono fun r w' (hq : r = .returned (.int .u64 (zI t : Nat)) ∧ w = w') => (⟨hq.1, hq.2 ▸ h⟩ : r = .returned (.int .u64 (zI t : Nat)) ∧ Has σ M' w'))
 generalize zI t = nv at *
 obtain ⟨bo, hbo⟩ : ∃ bo, s.mem.swaps a (x : Nat) = bo := ⟨_, rfl⟩
 rw [hbo]
 clear SP hi ht
 go_enter Tryz.func96, Tryz.ntmps96
 go_upto_region 1 with (fail)
 obtain ⟨M1, hbx, hle, hb4, hn⟩ := h.box (.cells (runC p t q b) 124)
 generalize w.alloc _ = wx at hbx ⊢
 generalize w.heap.size = b4 at hb4 hn ⊢
 clear h
 try clear w
 have h := hbx
 clear hbx
 obtain ⟨w, rfl⟩ : ∃ x : World, x = wx := ⟨_, rfl⟩
 obtain ⟨lab1, hT1⟩ := hT.more1 hle hn hb4
 have hnK : K b4 = none := by
  cases e : K b4 with
  | none => rfl
  | some o => have := (hT.base _ _ e).1; rw [hn] at this; cases this
 have hKK : K.le (K.upd b4 (.cells (runC p t q b) 124)) := Mm.le_upd' hnK _
 have hbK : (K.upd b4 (.cells (runC p t q b) 124)) b4 = some (.cells (runC p t q b) 124) := Mm.upd_same _ _ _
 have hfb := hT1.obj
 have CL1 := Lib.hid (fun (w : World) (h : Has σ M1 w) => CL.out M1 w h hle)
 have HO1 := Lib.hid (fun (w : World) (h : Has σ M1 w) => HO.out M1 w h)
 have ME := Lib.hid (fun (w : World) (h : Has σ M1 w) => yJ h hT1.mach)
 have CA := Lib.hid (fun (w : World) (h : Has σ M1 w) => oG h hT1.mach.mem hb1 hb2 a x nv)
 rw [hbo] at CA
 have hT2 := hT1.cas a x nv
 have HT := Lib.hid (hT2.less hKK)
 clear hbo hT hT1 hT2 CL HO hb1 hb2 hn hle hnK hKK hbK hfb
 generalize runC p t q b = rc at *
 generalize casM M1 s.mp s.mem a x nv = M2 at *
 refine zN (Has σ M1) 10 (by kernel_rfl) (by kernel_rfl) (fun _ _ _ _ _ h => h) h.drew ?_
 clear h
 simp only [List.take_succ_cons, List.take_zero, List.drop_succ_cons, List.drop_zero]
 repeat (first
  | go_big_quiet_skip
  | (go_big_quiet_want; first
   | (refine zX 26 _ rfl rfl hb4 d0 Tryz.underlying26 rfl ?_; simp only [Act.put, qD, qE, qF]; go_big_quiet_on)
   | (refine zL 124 _ rfl rfl hb4 dx dz Tryz.underlying124 rfl (by kernel_rfl) ?_; simp only [Act.put, qD, qE, qF]; go_big_quiet_on)
   | (refine zX 3 _ rfl rfl hb4 d1 Tryz.underlying3 rfl ?_; simp only [Act.put, qD, qE, qF]; go_big_quiet_on)
   | (go_big_quiet_op; first | go_big_quiet_on | go_big_quiet_call (first | with_reducible exact fun _ => rfl | with_reducible exact ME.out _ | with_reducible exact CL1.out _ | with_reducible exact HO1.out _))))
 refine wpQuiet_nil ?_
 try clear w
 intro w h
 clear hb4
 go_wp2_with (first
  | (go_at_call 121; refine (CA.out _ h).mono ?_; clear h; rintro _ w ⟨rfl, h⟩))
 go_ret
 exact ⟨rfl, _, _, h, HT.out⟩
end
section
open Go.RowKit
theorem row_r0 (f : FrameS) (v : Int) : f.row.setIfInBounds 2 (.int .u64 v) = (f.reg 0 v).row := rfl
theorem rJ (f : FrameS) (v : Int) : f.row.setIfInBounds 1 (.int .i64 v) = (f.goto v).row := rfl
theorem rsv_past {σ w : World} {K M : Mm} {lab : Nat → Nat} {p t q b : Nat} {s : MachS} {fs : List FrameS} {f : FrameS} (h : Has σ M w) (hT : AtTop K M lab p s t q b fs f) (hfs : fs.length < 1000000) {i B : Nat} (h0 : f.r 0 = (i : Int)) (hi : i < 9223372036854775808) (hB : s.c 11 = (B : Nat)) (hBi : B ≤ i) :
  Calls Tryz.prog 59 #[.agg (runC p t q b)] w fun r w' => r = .returned (.tuple #[]) ∧ ∃ M' lab', Has σ M' w' ∧ Mach M' lab' p (s.backed t [0]) ∧ Base K M' lab' := by
 obtain ⟨d0, d1, d2, d3, dx, dz⟩ := runD p t q b
 have f2 : f.row[2]? = some (.int .u64 (i : Nat)) := by rw [← h0]; rfl
 go_enter Tryz.func59, Tryz.ntmps59
 go_upto_region 1 with (fail)
 obtain ⟨M1, hbx, hle, hb4, hn⟩ := h.box (.cells (runC p t q b) 124)
 generalize w.alloc _ = wx at hbx ⊢
 generalize w.heap.size = b4 at hb4 hn ⊢
 clear h
 try clear w
 have h := hbx
 clear hbx
 obtain ⟨w, rfl⟩ : ∃ x : World, x = wx := ⟨_, rfl⟩
 obtain ⟨lab1, hT1⟩ := hT.more1 hle hn hb4
 have hnK : K b4 = none := by
  cases e : K b4 with
  | none => rfl
  | some o => have := (hT.base _ _ e).1; rw [hn] at this; cases this
 have hKK : K.le (K.upd b4 (.cells (runC p t q b) 124)) := Mm.le_upd' hnK _
 have hbK : (K.upd b4 (.cells (runC p t q b) 124)) b4 = some (.cells (runC p t q b) 124) := Mm.upd_same _ _ _
 have hfb := hT1.obj
 have PA := Lib.hid (fun (w : World) (h : Has σ M1 w) => vU h hT1 hi hB)
 rw [decide_eq_true hBi] at PA
 have BK := Lib.hid (fun (M2 : Mm) (w : World) (bl : Nat) (h : Has σ M2 w) (hle : M1.le M2) (hn : M1 bl = none) (hbl : M2 bl = some (.cells #[.int .u64 0] 42)) => oN h hT1 hle hn hbl hfs)
 have HK := Lib.hid hKK
 clear hT hT1 hn hle hnK hKK hbK hfs hB hBi hi h0
 generalize runC p t q b = rc at *
 generalize f.row = fr0 at *
 go_upto_region 4 with (first
  | (with_reducible show wpList _ _ _ (⟨_, .load 70 _, _, _, _, _⟩ :: _) _ _; refine zZ h rfl 70 _ rfl rfl hb4 d3 Tryz.underlying70 rfl ?_))
 refine zS (Has σ M1) (by kernel_rfl) (by kernel_rfl) h.drew ?_
 clear h
 repeat (first
  | go_big_quiet_skip
  | (go_big_quiet_want; first
   | (refine zL 124 _ rfl rfl hb4 dx dz Tryz.underlying124 rfl (by kernel_rfl) ?_; simp only [Act.put, qD, qE, qF]; go_big_quiet_on)
   | (refine zX 42 _ rfl rfl hfb f2 Tryz.underlying42 rfl ?_; simp only [Act.put, qD, qE, qF]; go_big_quiet_on)
   | (go_big_quiet_op; first | go_big_quiet_on | go_big_quiet_call (first | with_reducible exact fun _ => rfl | with_reducible exact PA.out _))))
 refine wpQuiet_nil ?_
 try clear w
 intro w h
 go_wp2_with (first
  | (with_reducible show wpList _ _ _ (⟨_, .load 38 _, _, _, _, _⟩ :: _) _ _; refine zZ h rfl 38 _ rfl rfl hb4 d2 Tryz.underlying38 rfl ?_))
 obtain ⟨M2, hbx, hle2, hbl, hnl⟩ := h.box (.cells #[.int .u64 0] 42)
 generalize w.alloc _ = wx at hbx ⊢
 generalize w.heap.size = bl at hbl hnl ⊢
 clear h
 try clear w
 have h := hbx
 clear hbx
 obtain ⟨w, rfl⟩ : ∃ x : World, x = wx := ⟨_, rfl⟩
 go_wp2_with (first
  | ((go_at_call 93; refine (BK.out M2 _ bl h hle2 hnl hbl).mono ?_; clear h; rintro _ w ⟨rfl, M3, lab3, h, hM3, hB3⟩)))
 go_end0
 exact ⟨rfl, M3, lab3, h, hM3, fun c o hc => hB3 c o (HK.out _ _ hc)⟩
theorem rsv_0z {σ w : World} {K M : Mm} {lab : Nat → Nat} {p t q b : Nat} {s : MachS} {fs : List FrameS} {f : FrameS} (h : Has σ M w) (hT : AtTop K M lab p s t q b fs f) {i B : Nat} (h0 : f.r 0 = (i : Int)) (hi : i < 9223372036854775808) (hB : s.c 11 = (B : Nat)) (hiB : i < B) (hat : f.at_ = 0) {a : Int} (SP : SpotAt σ M p t 7 (i : Nat) 0 a) (hb1 : s.mem.acc < 1000000000) (hv : s.mem.load a = 0) :
  Calls Tryz.prog 59 #[.agg (runC p t q b)] w fun r w' => r = .returned (.tuple #[]) ∧ ∃ M' lab', Has σ M' w' ∧ AtTop K M' lab' p (MachS.top { s with mem := s.mem.at_ a } t fs (f.goto 1)) t q b fs (f.goto 1) := by
 obtain ⟨d0, d1, d2, d3, dx, dz⟩ := runD p t q b
 have f2 : f.row[2]? = some (.int .u64 (i : Nat)) := by rw [← h0]; rfl
 go_enter Tryz.func59, Tryz.ntmps59
 go_upto_region 1 with (fail)
 obtain ⟨M1, hbx, hle, hb4, hn⟩ := h.box (.cells (runC p t q b) 124)
 generalize w.alloc _ = wx at hbx ⊢
 generalize w.heap.size = b4 at hb4 hn ⊢
 clear h
 try clear w
 have h := hbx
 clear hbx
 obtain ⟨w, rfl⟩ : ∃ x : World, x = wx := ⟨_, rfl⟩
 obtain ⟨lab1, hT1⟩ := hT.more1 hle hn hb4
 have hnK : K b4 = none := by
  cases e : K b4 with
  | none => rfl
  | some o => have := (hT.base _ _ e).1; rw [hn] at this; cases this
 have hKK : K.le (K.upd b4 (.cells (runC p t q b) 124)) := Mm.le_upd' hnK _
 have hbK : (K.upd b4 (.cells (runC p t q b) 124)) b4 = some (.cells (runC p t q b) 124) := Mm.upd_same _ _ _
 have hfb := hT1.obj
 have PA := Lib.hid (fun (w : World) (h : Has σ M1 w) => vU h hT1 hi hB)
 have f1 : f.row[1]? = some (.int .i64 0) := by rw [← hat]; rfl
 rw [decide_eq_false (show ¬ B ≤ i by omega)] at PA
 obtain ⟨v, hvv⟩ : ∃ v, s.mem.load a = v := ⟨_, rfl⟩
 have ME := Lib.hid (fun (w : World) (h : Has σ M1 w) => yJ h hT1.mach)
 have CL := Lib.hid (fun (w : World) (h : Has σ M1 w) => vT (q := q) (b := b) h hi (SP.le hle))
 have LD := Lib.hid (fun (w : World) (h : Has σ M1 w) => xM h hT1.mach.mem hb1 a)
 rw [hvv] at LD
 have hT2 := hT1.load a
 obtain rfl : v = 0 := hvv.symm.trans hv
 obtain ⟨hfb2, hT3⟩ := hT2.frame (f.goto 1)
 have HT := Lib.hid (hT3.less hKK)
 have hsz : 1 < f.row.size := show 1 < 18 by omega
 have R1 := Lib.hid (rJ f 1)
 clear hvv hv hT hT1 hT2 hT3 SP hb1 hn hle hnK hKK hbK hB hiB hi h0 hat
 generalize hr1 : (f.goto 1).row = fr1 at *
 clear hr1
 generalize runC p t q b = rc at *
 generalize hr0 : f.row = fr0 at *
 generalize M1.upd s.mp _ = M2 at *
 go_upto_region 4 with (first
  | (with_reducible show wpList _ _ _ (⟨_, .load 70 _, _, _, _, _⟩ :: _) _ _; refine zZ h rfl 70 _ rfl rfl hb4 d3 Tryz.underlying70 rfl ?_))
 refine zS (Has σ M1) (by kernel_rfl) (by kernel_rfl) h.drew ?_
 clear h
 repeat (first
  | go_big_quiet_skip
  | (go_big_quiet_want; first
   | (refine zL 124 _ rfl rfl hb4 dx dz Tryz.underlying124 rfl (by kernel_rfl) ?_; simp only [Act.put, qD, qE, qF]; go_big_quiet_on)
   | (refine zX 42 _ rfl rfl hfb f2 Tryz.underlying42 rfl ?_; simp only [Act.put, qD, qE, qF]; go_big_quiet_on)
   | (go_big_quiet_op; first | go_big_quiet_on | go_big_quiet_call (first | with_reducible exact fun _ => rfl | with_reducible exact PA.out _))))
 refine wpQuiet_nil ?_
 try clear w
 intro w h
 go_upto_region 7 with (first
  | (with_reducible show wpList _ _ _ (⟨_, .load 3 _, _, _, _, _⟩ :: _) _ _; refine zZ h rfl 3 _ rfl rfl hfb f1 Tryz.underlying3 rfl ?_))
 refine zN (Has σ M1) 10 (by kernel_rfl) (by kernel_rfl) (fun _ _ _ _ _ h => h) h.drew ?_
 clear h
 simp only [List.take_succ_cons, List.take_zero, List.drop_succ_cons, List.drop_zero]
 repeat (first
  | go_big_quiet_skip
  | (go_big_quiet_want; first
   | (refine zX 26 _ rfl rfl hb4 d0 Tryz.underlying26 rfl ?_; simp only [Act.put, qD, qE, qF]; go_big_quiet_on)
   | (refine zL 124 _ rfl rfl hb4 dx dz Tryz.underlying124 rfl (by kernel_rfl) ?_; simp only [Act.put, qD, qE, qF]; go_big_quiet_on)
   | (refine zX 42 _ rfl rfl hfb f2 Tryz.underlying42 rfl ?_; simp only [Act.put, qD, qE, qF]; go_big_quiet_on)
   | (go_big_quiet_op; first | go_big_quiet_on | go_big_quiet_call (first | with_reducible exact fun _ => rfl | with_reducible exact ME.out _ | with_reducible exact CL.out _))))
 refine wpQuiet_nil ?_
 try clear w
 intro w h
 clear hfb hb4 PA ME CL
 clear hr0
 go_wp2_with (first
  | (go_at_call 94; refine (LD.out _ h).mono ?_; clear h; rintro _ w ⟨rfl, h⟩)
  | (with_reducible show wpList _ _ _ (⟨_, .store 3 _ _, _, _, _, _⟩ :: _) _ _; refine zV h rfl 3 _ _ rfl rfl rfl hfb2 hsz rfl (by kernel_rfl) ?_; clear h; intro w h))
 refine bodyPost_ret (results_none rfl _ _ _) rfl ⟨rfl, _, _, ?_, HT.out⟩
 have h9 : Has σ (M2.upd b (.cells (fr0.setIfInBounds 1 (.int .i64 1)) 69)) w := h
 rw [R1.out] at h9
 exact h9
theorem rsv_0n {σ w : World} {K M : Mm} {lab : Nat → Nat} {p t q b : Nat} {s : MachS} {fs : List FrameS} {f : FrameS} (h : Has σ M w) (hT : AtTop K M lab p s t q b fs f) {i B : Nat} (h0 : f.r 0 = (i : Int)) (hi : i < 9223372036854775808) (hB : s.c 11 = (B : Nat)) (hiB : i < B) (hat : f.at_ = 0) {a : Int} (SP : SpotAt σ M p t 7 (i : Nat) 0 a) (hb1 : s.mem.acc < 1000000000) (hv : s.mem.load a ≠ 0) :
  Calls Tryz.prog 59 #[.agg (runC p t q b)] w fun r w' => r = .returned (.tuple #[]) ∧ ∃ M' lab', Has σ M' w' ∧ AtTop K M' lab' p (MachS.top { s with mem := s.mem.at_ a } t fs (f.reg 0 (i + 1 : Nat))) t q b fs (f.reg 0 (i + 1 : Nat)) := by
 obtain ⟨d0, d1, d2, d3, dx, dz⟩ := runD p t q b
 have f2 : f.row[2]? = some (.int .u64 (i : Nat)) := by rw [← h0]; rfl
 go_enter Tryz.func59, Tryz.ntmps59
 go_upto_region 1 with (fail)
 obtain ⟨M1, hbx, hle, hb4, hn⟩ := h.box (.cells (runC p t q b) 124)
 generalize w.alloc _ = wx at hbx ⊢
 generalize w.heap.size = b4 at hb4 hn ⊢
 clear h
 try clear w
 have h := hbx
 clear hbx
 obtain ⟨w, rfl⟩ : ∃ x : World, x = wx := ⟨_, rfl⟩
 obtain ⟨lab1, hT1⟩ := hT.more1 hle hn hb4
 have hnK : K b4 = none := by
  cases e : K b4 with
  | none => rfl
  | some o => have := (hT.base _ _ e).1; rw [hn] at this; cases this
 have hKK : K.le (K.upd b4 (.cells (runC p t q b) 124)) := Mm.le_upd' hnK _
 have hbK : (K.upd b4 (.cells (runC p t q b) 124)) b4 = some (.cells (runC p t q b) 124) := Mm.upd_same _ _ _
 have hfb := hT1.obj
 have PA := Lib.hid (fun (w : World) (h : Has σ M1 w) => vU h hT1 hi hB)
 have f1 : f.row[1]? = some (.int .i64 0) := by rw [← hat]; rfl
 rw [decide_eq_false (show ¬ B ≤ i by omega)] at PA
 obtain ⟨v, hvv⟩ : ∃ v, s.mem.load a = v := ⟨_, rfl⟩
 have ME := Lib.hid (fun (w : World) (h : Has σ M1 w) => yJ h hT1.mach)
 have CL := Lib.hid (fun (w : World) (h : Has σ M1 w) => vT (q := q) (b := b) h hi (SP.le hle))
 have LD := Lib.hid (fun (w : World) (h : Has σ M1 w) => xM h hT1.mach.mem hb1 a)
 rw [hvv] at LD
 have hT2 := hT1.load a
 have gv : (v == 0) = false := beq_eq_false_iff_ne.2 (by rw [← hvv]; exact hv)
 have wi : IntKind.u64.wrap ((i : Int) + 1) = ((i + 1 : Nat) : Int) := by rw [show (i : Int) + 1 = ((i + 1 : Nat) : Int) by omega]; exact IntWalk.u64_in _ (by omega)
 obtain ⟨hfb2, hT3⟩ := hT2.frame (f.reg 0 (i + 1 : Nat))
 have HT := Lib.hid (hT3.less hKK)
 have hsz : 2 < f.row.size := show 2 < 18 by omega
 have R1 := Lib.hid (row_r0 f (i + 1 : Nat))
 clear hvv hv hT hT1 hT2 hT3 SP hb1 hn hle hnK hKK hbK hB hiB hi h0 hat
 generalize hr1 : (f.reg 0 (i + 1 : Nat)).row = fr1 at *
 clear hr1
 generalize runC p t q b = rc at *
 generalize hr0 : f.row = fr0 at *
 generalize M1.upd s.mp _ = M2 at *
 go_upto_region 4 with (first
  | (with_reducible show wpList _ _ _ (⟨_, .load 70 _, _, _, _, _⟩ :: _) _ _; refine zZ h rfl 70 _ rfl rfl hb4 d3 Tryz.underlying70 rfl ?_))
 refine zS (Has σ M1) (by kernel_rfl) (by kernel_rfl) h.drew ?_
 clear h
 repeat (first
  | go_big_quiet_skip
  | (go_big_quiet_want; first
   | (refine zL 124 _ rfl rfl hb4 dx dz Tryz.underlying124 rfl (by kernel_rfl) ?_; simp only [Act.put, qD, qE, qF]; go_big_quiet_on)
   | (refine zX 42 _ rfl rfl hfb f2 Tryz.underlying42 rfl ?_; simp only [Act.put, qD, qE, qF]; go_big_quiet_on)
   | (go_big_quiet_op; first | go_big_quiet_on | go_big_quiet_call (first | with_reducible exact fun _ => rfl | with_reducible exact PA.out _))))
 refine wpQuiet_nil ?_
 try clear w
 intro w h
 go_upto_region 7 with (first
  | (with_reducible show wpList _ _ _ (⟨_, .load 3 _, _, _, _, _⟩ :: _) _ _; refine zZ h rfl 3 _ rfl rfl hfb f1 Tryz.underlying3 rfl ?_))
 refine zN (Has σ M1) 10 (by kernel_rfl) (by kernel_rfl) (fun _ _ _ _ _ h => h) h.drew ?_
 clear h
 simp only [List.take_succ_cons, List.take_zero, List.drop_succ_cons, List.drop_zero]
 repeat (first
  | go_big_quiet_skip
  | (go_big_quiet_want; first
   | (refine zX 26 _ rfl rfl hb4 d0 Tryz.underlying26 rfl ?_; simp only [Act.put, qD, qE, qF]; go_big_quiet_on)
   | (refine zL 124 _ rfl rfl hb4 dx dz Tryz.underlying124 rfl (by kernel_rfl) ?_; simp only [Act.put, qD, qE, qF]; go_big_quiet_on)
   | (refine zX 42 _ rfl rfl hfb f2 Tryz.underlying42 rfl ?_; simp only [Act.put, qD, qE, qF]; go_big_quiet_on)
   | (go_big_quiet_op; first | go_big_quiet_on | go_big_quiet_call (first | with_reducible exact fun _ => rfl | with_reducible exact ME.out _ | with_reducible exact CL.out _))))
 refine wpQuiet_nil ?_
 try clear w
 intro w h
 clear hfb hb4 PA ME CL
 clear hr0
 go_upto_region 9 with (first
  | (go_at_call 94; refine (LD.out _ h).mono ?_; clear h; rintro _ w ⟨rfl, h⟩))
 refine zN (Has σ M2) 9 (by kernel_rfl) (by kernel_rfl) (fun _ _ _ _ _ h => h) h.drew ?_
 clear h
 simp only [List.take_succ_cons, List.take_zero, List.drop_succ_cons, List.drop_zero]
 repeat (first
  | go_big_quiet_skip
  | (go_big_quiet_want; first
   | (refine zX 42 _ rfl rfl hfb2 f2 Tryz.underlying42 rfl ?_; simp only [Act.put, qD, qE, qF]; go_big_quiet_on)
   | (go_big_quiet_op; first | go_big_quiet_on | go_big_quiet_call (first | with_reducible exact fun _ => rfl))))
 refine wpQuiet_nil ?_
 try clear w
 intro w h
 go_wp2_with (first
  | (with_reducible show wpList _ _ _ (⟨_, .store 42 _ _, _, _, _, _⟩ :: _) _ _; refine zV h rfl 42 _ _ rfl rfl rfl hfb2 hsz rfl (by kernel_rfl) ?_; clear h; intro w h))
 go_end0
 refine ⟨rfl, _, _, ?_, HT.out⟩
 have h9 : Has σ (M2.upd b (.cells (fr0.setIfInBounds 2 (.int .u64 (i + 1 : Nat))) 69)) w := h
 rw [R1.out] at h9
 exact h9
theorem rsv_1y {σ w : World} {K M : Mm} {lab : Nat → Nat} {p t q b : Nat} {s : MachS} {fs : List FrameS} {f : FrameS} (h : Has σ M w) (hT : AtTop K M lab p s t q b fs f) (hfs : fs.length < 1000000) {i B : Nat} (h0 : f.r 0 = (i : Int)) (hi : i < 9223372036854775808) (hB : s.c 11 = (B : Nat)) (hiB : i < B) (ht : t < 9223372036854775808) (hat : f.at_ = 1) {a : Int} (SP : SpotAt σ M p t 7 (i : Nat) 0 a) (hb1 : s.mem.acc < 1000000000) (hb2 : s.mem.wr < 1000000000) (hsw : s.mem.swaps a ((0 : Nat) : Int) = true) :
  Calls Tryz.prog 59 #[.agg (runC p t q b)] w fun r w' => r = .returned (.tuple #[]) ∧ ∃ M' lab', Has σ M' w' ∧ Mach M' lab' p (MachS.backed { s with mem := s.mem.cas a ((0 : Nat) : Int) (zI t : Nat) } t [1, (i : Nat)]) ∧ Base K M' lab' := by
 obtain ⟨d0, d1, d2, d3, dx, dz⟩ := runD p t q b
 have f2 : f.row[2]? = some (.int .u64 (i : Nat)) := by rw [← h0]; rfl
 go_enter Tryz.func59, Tryz.ntmps59
 go_upto_region 1 with (fail)
 obtain ⟨M1, hbx, hle, hb4, hn⟩ := h.box (.cells (runC p t q b) 124)
 generalize w.alloc _ = wx at hbx ⊢
 generalize w.heap.size = b4 at hb4 hn ⊢
 clear h
 try clear w
 have h := hbx
 clear hbx
 obtain ⟨w, rfl⟩ : ∃ x : World, x = wx := ⟨_, rfl⟩
 obtain ⟨lab1, hT1⟩ := hT.more1 hle hn hb4
 have hnK : K b4 = none := by
  cases e : K b4 with
  | none => rfl
  | some o => have := (hT.base _ _ e).1; rw [hn] at this; cases this
 have hKK : K.le (K.upd b4 (.cells (runC p t q b) 124)) := Mm.le_upd' hnK _
 have hbK : (K.upd b4 (.cells (runC p t q b) 124)) b4 = some (.cells (runC p t q b) 124) := Mm.upd_same _ _ _
 have hfb := hT1.obj
 have PA := Lib.hid (fun (w : World) (h : Has σ M1 w) => vU h hT1 hi hB)
 have f1 : f.row[1]? = some (.int .i64 1) := by rw [← hat]; rfl
 rw [decide_eq_false (show ¬ B ≤ i by omega)] at PA
 have CLM := Lib.hid (fun (w : World) (h : Has σ M1 w) => sH (x := 0) h hT1 hi ht (SP.le hle) hb1 hb2)
 rw [hsw] at CLM
 have HKK := Lib.hid hKK
 have HF := Lib.hid hfs
 clear hsw hT hT1 SP hb1 hb2 hn hle hnK hKK hB hiB hi h0 hat ht hfs
 generalize hrc : runC p t q b = rc at *
 have HRC := Lib.hid hrc
 generalize hr0 : f.row = fr0 at *
 have HR0 := Lib.hid hr0
 clear hrc hr0
 generalize K.upd b4 _ = K1 at *
 go_upto_region 4 with (first
  | (with_reducible show wpList _ _ _ (⟨_, .load 70 _, _, _, _, _⟩ :: _) _ _; refine zZ h rfl 70 _ rfl rfl hb4 d3 Tryz.underlying70 rfl ?_))
 refine zS (Has σ M1) (by kernel_rfl) (by kernel_rfl) h.drew ?_
 clear h
 repeat (first
  | go_big_quiet_skip
  | (go_big_quiet_want; first
   | (refine zL 124 _ rfl rfl hb4 dx dz Tryz.underlying124 rfl (by kernel_rfl) ?_; simp only [Act.put, qD, qE, qF]; go_big_quiet_on)
   | (refine zX 42 _ rfl rfl hfb f2 Tryz.underlying42 rfl ?_; simp only [Act.put, qD, qE, qF]; go_big_quiet_on)
   | (go_big_quiet_op; first | go_big_quiet_on | go_big_quiet_call (first | with_reducible exact fun _ => rfl | with_reducible exact PA.out _))))
 refine wpQuiet_nil ?_
 try clear w
 intro w h
 go_upto_region 10 with (first
  | (with_reducible show wpList _ _ _ (⟨_, .load 3 _, _, _, _, _⟩ :: _) _ _; refine zZ h rfl 3 _ rfl rfl hfb f1 Tryz.underlying3 rfl ?_))
 refine zN (Has σ M1) 6 (by kernel_rfl) (by kernel_rfl) (fun _ _ _ _ _ h => h) h.drew ?_
 clear h
 simp only [List.take_succ_cons, List.take_zero, List.drop_succ_cons, List.drop_zero]
 repeat (first
  | go_big_quiet_skip
  | (go_big_quiet_want; first
   | (refine zL 124 _ rfl rfl hb4 dx dz Tryz.underlying124 rfl (by kernel_rfl) ?_; simp only [Act.put, qD, qE, qF]; go_big_quiet_on)
   | (refine zX 42 _ rfl rfl hfb f2 Tryz.underlying42 rfl ?_; simp only [Act.put, qD, qE, qF]; go_big_quiet_on)
   | (go_big_quiet_op; first | go_big_quiet_on | go_big_quiet_call (first | with_reducible exact fun _ => rfl))))
 refine wpQuiet_nil ?_
 try clear w
 intro w h
 clear hfb hb4 PA
 go_upto_region 11 with (first
  | ((go_at_call 96; refine (CLM.out _ h).mono ?_; clear h; rintro _ w ⟨rfl, M2, lab2, h, hT2⟩)))
 have hfb2 := hT2.obj
 rw [HR0.out] at hfb2
 have KE := hT2.base.le
 have BK : Hid (∀ w, Has σ M2 w → Calls Tryz.prog 93 #[.pointer (some ⟨q, 0, none⟩), .slice (some ⟨w.heap.size, 0, none⟩) 2 2] (w.alloc (.cells #[.int .u64 1, .int .u64 (i : Nat)] 42)) fun r w' => r = .returned (.tuple #[]) ∧ ∃ M' lab', Has σ M' w' ∧ Mach M' lab' p (MachS.backed { s with mem := s.mem.cas a ((0 : Nat) : Int) (zI t : Nat) } t [1, (i : Nat)]) ∧ Base K1 M' lab') := Lib.hid fun w h => by
  obtain ⟨M8, h8, hle8, hb8, hn8⟩ := h.box (.cells #[.int .u64 1, .int .u64 (i : Nat)] 42)
  exact kX h8 hT2 hle8 hn8 hb8 HF.out
 clear hT2 HF HR0 HRC CLM
 refine wp_region_held_drew (S := Has σ (K1)) (by kernel_rfl) (h.drew.le KE) (fun hHeld => ?_)
 refine tkB 0 ?_
 try simp only [qA, qB, qC, Act.put, qD, qE, qF]
 refine tkA 1 rfl hHeld (zU rfl 38 _ rfl rfl hbK d2 Tryz.underlying38 rfl) ?_
 try simp only [qA, qB, qC, Act.put, qD, qE, qF]
 refine tkB 2 ?_
 refine tkB 3 ?_
 refine tkB 4 ?_
 refine tkB 5 ?_
 try simp only [qA, qB, qC, Act.put, qD, qE, qF]
 replace h := h.drew
 generalize w.drew = w1 at h hHeld ⊢
 clear w
 obtain ⟨w, rfl⟩ : ∃ q : World, q = w1 := ⟨_, rfl⟩
 refine op1 6 rfl fun K hK => ?_
 (refine yX rfl (zU rfl 42 _ rfl rfl hfb2 f2 Tryz.underlying42 rfl) h ?_)
 refine hK.out _ _ (hHeld) (fun hHeld => ?_)
 clear hK K
 try simp only [Act.put, qD, qE, qF]
 refine op1 7 rfl fun K hK => ?_
 go_simp
 refine hK.out _ _ ((h.quietAlloc _).le KE) (fun hHeld => ?_)
 clear hK K
 try simp only [Act.put, qD, qE, qF]
 refine op1 8 rfl fun K hK => ?_
 (go_simp; go_wp2_with (go_at_call 93; refine (BK.out _ h).mono ?_; clear h hHeld; rintro _ w ⟨rfl, M3, lab3, h, hM3, hB3⟩))
 refine hK.out _ _ (h.le hB3.le) (fun hHeld => ?_)
 clear hK K
 try simp only [Act.put, qD, qE, qF]
 refine wpAnyH_done (by kernel_rfl) ?_ _
 clear hHeld
 go_wp2
 go_end0
 exact ⟨rfl, M3, lab3, h, hM3, fun c o hc => hB3 c o (HKK.out _ _ hc)⟩
theorem rsv_1n {σ w : World} {K M : Mm} {lab : Nat → Nat} {p t q b : Nat} {s : MachS} {fs : List FrameS} {f : FrameS} (h : Has σ M w) (hT : AtTop K M lab p s t q b fs f) (hfs : fs.length < 1000000) {i B : Nat} (h0 : f.r 0 = (i : Int)) (hi : i < 9223372036854775808) (hB : s.c 11 = (B : Nat)) (hiB : i < B) (ht : t < 9223372036854775808) (hat : f.at_ = 1) {a : Int} (SP : SpotAt σ M p t 7 (i : Nat) 0 a) (hb1 : s.mem.acc < 1000000000) (hb2 : s.mem.wr < 1000000000) (hsw : s.mem.swaps a ((0 : Nat) : Int) = false) :
  Calls Tryz.prog 59 #[.agg (runC p t q b)] w fun r w' => r = .returned (.tuple #[]) ∧ ∃ M' lab', Has σ M' w' ∧ AtTop K M' lab' p (MachS.top { s with mem := s.mem.cas a ((0 : Nat) : Int) (zI t : Nat) } t fs ((f.reg 0 (i + 1 : Nat)).goto 0)) t q b fs ((f.reg 0 (i + 1 : Nat)).goto 0) := by
 have wi : IntKind.u64.wrap ((i : Int) + 1) = ((i + 1 : Nat) : Int) := by rw [show (i : Int) + 1 = ((i + 1 : Nat) : Int) by omega]; exact IntWalk.u64_in _ (by omega)
 obtain ⟨d0, d1, d2, d3, dx, dz⟩ := runD p t q b
 have f2 : f.row[2]? = some (.int .u64 (i : Nat)) := by rw [← h0]; rfl
 go_enter Tryz.func59, Tryz.ntmps59
 go_upto_region 1 with (fail)
 obtain ⟨M1, hbx, hle, hb4, hn⟩ := h.box (.cells (runC p t q b) 124)
 generalize w.alloc _ = wx at hbx ⊢
 generalize w.heap.size = b4 at hb4 hn ⊢
 clear h
 try clear w
 have h := hbx
 clear hbx
 obtain ⟨w, rfl⟩ : ∃ x : World, x = wx := ⟨_, rfl⟩
 obtain ⟨lab1, hT1⟩ := hT.more1 hle hn hb4
 have hnK : K b4 = none := by
  cases e : K b4 with
  | none => rfl
  | some o => have := (hT.base _ _ e).1; rw [hn] at this; cases this
 have hKK : K.le (K.upd b4 (.cells (runC p t q b) 124)) := Mm.le_upd' hnK _
 have hbK : (K.upd b4 (.cells (runC p t q b) 124)) b4 = some (.cells (runC p t q b) 124) := Mm.upd_same _ _ _
 have hfb := hT1.obj
 have PA := Lib.hid (fun (w : World) (h : Has σ M1 w) => vU h hT1 hi hB)
 have f1 : f.row[1]? = some (.int .i64 1) := by rw [← hat]; rfl
 rw [decide_eq_false (show ¬ B ≤ i by omega)] at PA
 have CLM := Lib.hid (fun (w : World) (h : Has σ M1 w) => sH (x := 0) h hT1 hi ht (SP.le hle) hb1 hb2)
 rw [hsw] at CLM
 have HKK := Lib.hid hKK
 have HF := Lib.hid hfs
 clear hsw hT hT1 SP hb1 hb2 hn hle hnK hKK hB hiB hi h0 hat ht hfs
 generalize hrc : runC p t q b = rc at *
 have HRC := Lib.hid hrc
 generalize hr0 : f.row = fr0 at *
 have HR0 := Lib.hid hr0
 clear hrc hr0
 generalize K.upd b4 _ = K1 at *
 go_upto_region 4 with (first
  | (with_reducible show wpList _ _ _ (⟨_, .load 70 _, _, _, _, _⟩ :: _) _ _; refine zZ h rfl 70 _ rfl rfl hb4 d3 Tryz.underlying70 rfl ?_))
 refine zS (Has σ M1) (by kernel_rfl) (by kernel_rfl) h.drew ?_
 clear h
 repeat (first
  | go_big_quiet_skip
  | (go_big_quiet_want; first
   | (refine zL 124 _ rfl rfl hb4 dx dz Tryz.underlying124 rfl (by kernel_rfl) ?_; simp only [Act.put, qD, qE, qF]; go_big_quiet_on)
   | (refine zX 42 _ rfl rfl hfb f2 Tryz.underlying42 rfl ?_; simp only [Act.put, qD, qE, qF]; go_big_quiet_on)
   | (go_big_quiet_op; first | go_big_quiet_on | go_big_quiet_call (first | with_reducible exact fun _ => rfl | with_reducible exact PA.out _))))
 refine wpQuiet_nil ?_
 try clear w
 intro w h
 go_upto_region 10 with (first
  | (with_reducible show wpList _ _ _ (⟨_, .load 3 _, _, _, _, _⟩ :: _) _ _; refine zZ h rfl 3 _ rfl rfl hfb f1 Tryz.underlying3 rfl ?_))
 refine zN (Has σ M1) 6 (by kernel_rfl) (by kernel_rfl) (fun _ _ _ _ _ h => h) h.drew ?_
 clear h
 simp only [List.take_succ_cons, List.take_zero, List.drop_succ_cons, List.drop_zero]
 repeat (first
  | go_big_quiet_skip
  | (go_big_quiet_want; first
   | (refine zL 124 _ rfl rfl hb4 dx dz Tryz.underlying124 rfl (by kernel_rfl) ?_; simp only [Act.put, qD, qE, qF]; go_big_quiet_on)
   | (refine zX 42 _ rfl rfl hfb f2 Tryz.underlying42 rfl ?_; simp only [Act.put, qD, qE, qF]; go_big_quiet_on)
   | (go_big_quiet_op; first | go_big_quiet_on | go_big_quiet_call (first | with_reducible exact fun _ => rfl))))
 refine wpQuiet_nil ?_
 try clear w
 intro w h
 clear hfb hb4 PA
 go_upto_region 2 with (first
  | ((go_at_call 96; refine (CLM.out _ h).mono ?_; clear h; rintro _ w ⟨rfl, M2, lab2, h, hT2⟩)))
 obtain ⟨hfb2, hT3⟩ := hT2.frame (f.reg 0 (i + 1 : Nat))
 obtain ⟨hfb3, hT4⟩ := hT3.frame ((f.reg 0 (i + 1 : Nat)).goto 0)
 rw [MachS.top_top, Mm.upd_upd] at hT4
 have HT := Lib.hid (hT4.less HKK.out)
 have hsz : 2 < f.row.size := show 2 < 18 by omega
 have hsz2 : 1 < (f.reg 0 (i + 1 : Nat)).row.size := show 1 < 18 by omega
 have R1 := Lib.hid (row_r0 f (i + 1 : Nat))
 have R2 := Lib.hid (rJ (f.reg 0 (i + 1 : Nat)) 0)
 rw [HR0.out] at hfb2 hsz R1
 clear hT2 hT3 hT4 HF CLM hbK
 generalize (f.reg 0 (i + 1 : Nat)).row = fr1 at *
 generalize ((f.reg 0 (i + 1 : Nat)).goto 0).row = fr2 at *
 refine zN (Has σ M2) 9 (by kernel_rfl) (by kernel_rfl) (fun _ _ _ _ _ h => h) h.drew ?_
 clear h
 simp only [List.take_succ_cons, List.take_zero, List.drop_succ_cons, List.drop_zero]
 repeat (first
  | go_big_quiet_skip
  | (go_big_quiet_want; first
   | (refine zX 42 _ rfl rfl hfb2 f2 Tryz.underlying42 rfl ?_; simp only [Act.put, qD, qE, qF]; go_big_quiet_on)
   | (go_big_quiet_op; first | go_big_quiet_on | go_big_quiet_call (first | with_reducible exact fun _ => rfl))))
 refine wpQuiet_nil ?_
 try clear w
 intro w h
 go_upto_region 3 with (first
  | (with_reducible show wpList _ _ _ (⟨_, .store 42 _ _, _, _, _, _⟩ :: _) _ _; refine zV h rfl 42 _ _ rfl rfl rfl hfb2 hsz rfl (by kernel_rfl) ?_; clear h; intro w h))
 have h9 : Has σ (M2.upd b (.cells (fr0.setIfInBounds 2 (.int .u64 (i + 1 : Nat))) 69)) w := h
 rw [R1.out] at h9
 clear h
 have h := h9
 generalize hM3 : M2.upd b (.cells fr1 69) = M3 at h hfb3
 go_wp2_with (first
  | (with_reducible show wpList _ _ _ (⟨_, .store 3 _ _, _, _, _, _⟩ :: _) _ _; refine zV h rfl 3 _ _ rfl rfl rfl hfb3 hsz2 rfl (by kernel_rfl) ?_; clear h; intro w h))
 go_end0
 refine ⟨rfl, _, _, ?_, HT.out⟩
 have h9 : Has σ (M2.upd b (.cells (fr1.setIfInBounds 1 (.int .i64 0)) 69)) w := by rw [← hM3, Mm.upd_upd] at h; exact h
 rw [R2.out] at h9
 exact h9
end
section
open Go.RowKit
theorem row_r3 (f : FrameS) (v : Int) : f.row.setIfInBounds 5 (.int .u64 v) = (f.reg 3 v).row := rfl
theorem rel_0 {σ w : World} {K M : Mm} {lab : Nat → Nat} {p t q b : Nat} {s : MachS} {fs : List FrameS} {f : FrameS} (h : Has σ M w) (hT : AtTop K M lab p s t q b fs f) (hfs : fs.length < 1000000) {i : Nat} (h0 : f.r 0 = (i : Int)) (hi : i < 9223372036854775808) {a : Int} (SP : SpotAt σ M p t 7 (i : Nat) 0 a) (hb1 : s.mem.acc < 1000000000) (hb2 : s.mem.wr < 1000000000) :
  Calls Tryz.prog 60 #[.agg (runC p t q b)] w fun r w' => r = .returned (.tuple #[]) ∧ ∃ M' lab', Has σ M' w' ∧ Mach M' lab' p (MachS.backed { s with mem := s.mem.store a 0 } t []) ∧ Base K M' lab' := by
 obtain ⟨d0, d1, d2, d3, dx, dz⟩ := runD p t q b
 have f2 : f.row[2]? = some (.int .u64 (i : Nat)) := by rw [← h0]; rfl
 go_enter Tryz.func60, Tryz.ntmps60
 go_upto_region 1 with (fail)
 obtain ⟨M1, hbx, hle, hb4, hn⟩ := h.box (.cells (runC p t q b) 124)
 generalize w.alloc _ = wx at hbx ⊢
 generalize w.heap.size = b4 at hb4 hn ⊢
 clear h
 try clear w
 have h := hbx
 clear hbx
 obtain ⟨w, rfl⟩ : ∃ x : World, x = wx := ⟨_, rfl⟩
 obtain ⟨lab1, hT1⟩ := hT.more1 hle hn hb4
 have hnK : K b4 = none := by
  cases e : K b4 with
  | none => rfl
  | some o => have := (hT.base _ _ e).1; rw [hn] at this; cases this
 have hKK : K.le (K.upd b4 (.cells (runC p t q b) 124)) := Mm.le_upd' hnK _
 have hbK : (K.upd b4 (.cells (runC p t q b) 124)) b4 = some (.cells (runC p t q b) 124) := Mm.upd_same _ _ _
 have hfb := hT1.obj
 have ME := Lib.hid (fun (w : World) (h : Has σ M1 w) => yJ h hT1.mach)
 have CL := Lib.hid (fun (w : World) (h : Has σ M1 w) => vT (q := q) (b := b) h hi (SP.le hle))
 have SE := Lib.hid (fun (w : World) (h : Has σ M1 w) => xV h hT1.mach.mem hb1 hb2 a 0)
 have hT2 := hT1.store a 0
 have BK := Lib.hid (fun (w : World) (h : Has σ (yA M1 s.mp s.mem a 0) w) => qV h hT2 hfs)
 have hb42 := hT2.base.le _ _ hbK
 have HK := Lib.hid hKK
 clear hT hT1 hT2 SP hb1 hb2 hn hle hnK hKK hbK hi h0 hfs
 generalize runC p t q b = rc at *
 generalize f.row = fr0 at *
 generalize yA M1 s.mp s.mem a _ = M2 at *
 refine zN (Has σ M1) 11 (by kernel_rfl) (by kernel_rfl) (fun _ _ _ _ _ h => h) h.drew ?_
 clear h
 simp only [List.take_succ_cons, List.take_zero, List.drop_succ_cons, List.drop_zero]
 repeat (first
  | go_big_quiet_skip
  | (go_big_quiet_want; first
   | (refine zX 26 _ rfl rfl hb4 d0 Tryz.underlying26 rfl ?_; simp only [Act.put, qD, qE, qF]; go_big_quiet_on)
   | (refine zL 124 _ rfl rfl hb4 dx dz Tryz.underlying124 rfl (by kernel_rfl) ?_; simp only [Act.put, qD, qE, qF]; go_big_quiet_on)
   | (refine zX 70 _ rfl rfl hb4 d3 Tryz.underlying70 rfl ?_; simp only [Act.put, qD, qE, qF]; go_big_quiet_on)
   | (refine zX 42 _ rfl rfl hfb f2 Tryz.underlying42 rfl ?_; simp only [Act.put, qD, qE, qF]; go_big_quiet_on)
   | (go_big_quiet_op; first | go_big_quiet_on | go_big_quiet_call (first | with_reducible exact fun _ => rfl | with_reducible exact ME.out _ | with_reducible exact CL.out _))))
 refine wpQuiet_nil ?_
 try clear w
 intro w h
 clear hfb hb4 ME CL
 go_wp2_with (first
  | (go_at_call 97; refine (SE.out _ h).mono ?_; clear h; rintro _ w ⟨rfl, h⟩)
  | (with_reducible show wpList _ _ _ (⟨_, .load 38 _, _, _, _, _⟩ :: _) _ _; refine zZ h rfl 38 _ rfl rfl hb42 d2 Tryz.underlying38 rfl ?_)
  | ((go_at_call 93; refine (BK.out _ h).mono ?_; clear h; rintro _ w ⟨rfl, M3, lab3, h, hM3, hB3⟩)))
 go_end0
 exact ⟨rfl, M3, lab3, h, hM3, fun c o hc => hB3 c o (HK.out _ _ hc)⟩
theorem fill_0 {σ w : World} {K M : Mm} {lab : Nat → Nat} {p t q b : Nat} {s : MachS} {fs : List FrameS} {f : FrameS} (h : Has σ M w) (hT : AtTop K M lab p s t q b fs f) (hat : f.at_ = 0) {a : Int} (SP : SpotAt σ M p t 1 0 0 a) (hb1 : s.mem.acc < 1000000000) :
  Calls Tryz.prog 61 #[.agg (runC p t q b)] w fun r w' => r = .returned (.tuple #[]) ∧ ∃ M' lab', Has σ M' w' ∧ AtTop K M' lab' p (MachS.top { s with mem := s.mem.at_ a } t fs ((f.reg 3 (s.mem.load a)).goto 1)) t q b fs ((f.reg 3 (s.mem.load a)).goto 1) := by
 obtain ⟨d0, d1, d2, d3, dx, dz⟩ := runD p t q b
 have f1 : f.row[1]? = some (.int .i64 0) := by rw [← hat]; rfl
 obtain ⟨v, hvv⟩ : ∃ v, s.mem.load a = v := ⟨_, rfl⟩
 rw [hvv]
 go_enter Tryz.func61, Tryz.ntmps61
 go_upto_region 1 with (fail)
 obtain ⟨M1, hbx, hle, hb4, hn⟩ := h.box (.cells (runC p t q b) 124)
 generalize w.alloc _ = wx at hbx ⊢
 generalize w.heap.size = b4 at hb4 hn ⊢
 clear h
 try clear w
 have h := hbx
 clear hbx
 obtain ⟨w, rfl⟩ : ∃ x : World, x = wx := ⟨_, rfl⟩
 obtain ⟨lab1, hT1⟩ := hT.more1 hle hn hb4
 have hnK : K b4 = none := by
  cases e : K b4 with
  | none => rfl
  | some o => have := (hT.base _ _ e).1; rw [hn] at this; cases this
 have hKK : K.le (K.upd b4 (.cells (runC p t q b) 124)) := Mm.le_upd' hnK _
 have hbK : (K.upd b4 (.cells (runC p t q b) 124)) b4 = some (.cells (runC p t q b) 124) := Mm.upd_same _ _ _
 have hfb := hT1.obj
 have NW := Lib.hid (fun (w : World) (h : Has σ M1 w) => lbNow_eq h hT1 (SP.le hle) hb1)
 rw [hvv] at NW
 have KL := hT1.base.le
 have hT2 := hT1.load a
 have KE := hT2.base.le
 obtain ⟨hfb2, hT3⟩ := hT2.frame (f.reg 3 v)
 have KS := hT3.base.le
 obtain ⟨hfb3, hT4⟩ := hT3.frame ((f.reg 3 v).goto 1)
 rw [MachS.top_top, Mm.upd_upd] at hT4
 have HT := Lib.hid (hT4.less hKK)
 have hsz : 5 < f.row.size := show 5 < 18 by omega
 have hsz3 : 1 < (f.reg 3 v).row.size := show 1 < 18 by omega
 have R1 := Lib.hid (row_r3 f v)
 have R2 := Lib.hid (rJ (f.reg 3 v) 1)
 clear hvv hT hT1 hT2 hT3 hT4 SP hb1 hn hle hnK hKK hat
 generalize K.upd b4 _ = K1 at KL KE KS hbK
 generalize runC p t q b = rc at *
 generalize hr0 : f.row = fr0 at *
 generalize hr1 : (f.reg 3 v).row = fr1 at *
 generalize hr2 : ((f.reg 3 v).goto 1).row = fr2 at *
 clear hr0 hr1 hr2
 generalize M1.upd s.mp _ = M2 at *
 go_upto_region 3 with (first
  | (with_reducible show wpList _ _ _ (⟨_, .load 70 _, _, _, _, _⟩ :: _) _ _; refine zZ h rfl 70 _ rfl rfl hb4 d3 Tryz.underlying70 rfl ?_)
  | (with_reducible show wpList _ _ _ (⟨_, .load 3 _, _, _, _, _⟩ :: _) _ _; refine zZ h rfl 3 _ rfl rfl hfb f1 Tryz.underlying3 rfl ?_))
 clear hfb hb4
 refine wp_region_held_drew (S := Has σ (K1)) (by kernel_rfl) (h.drew.le KL) (fun hHeld => ?_)
 refine tkB 0 ?_
 try simp only [qA, qB, qC, Act.put, qD, qE, qF]
 refine tkA 1 rfl hHeld (yZ rfl 124 _ rfl rfl hbK dx dz Tryz.underlying124 rfl (by kernel_rfl)) ?_
 try simp only [qA, qB, qC, Act.put, qD, qE, qF]
 refine tkB 3 ?_
 refine tkB 4 ?_
 try simp only [qA, qB, qC, Act.put, qD, qE, qF]
 replace h := h.drew
 generalize w.drew = w1 at h hHeld ⊢
 clear w
 obtain ⟨w, rfl⟩ : ∃ q : World, q = w1 := ⟨_, rfl⟩
 refine op1 2 rfl fun K hK => ?_
 (go_simp; go_wp2_with (go_at_call 98; refine (NW.out _ h).mono ?_; clear h; rintro _ w ⟨rfl, h⟩))
 refine hK.out _ _ (h.le KE) (fun hHeld => ?_)
 clear hK K
 try simp only [Act.put, qD, qE, qF]
 refine tkB 5 ?_
 try simp only [qA, qB, qC, Act.put, qD, qE, qF]
 refine op1 6 rfl fun K hK => ?_
 (refine yR (v := .int .u64 v) h rfl 42 _ _ rfl rfl rfl hfb2 hsz rfl rfl (by kernel_rfl) ?_; clear h; intro w h; rw [R1.out] at h)
 refine hK.out _ _ (h.le KS) (fun hHeld => ?_)
 clear hK K
 try simp only [Act.put, qD, qE, qF]
 refine wpAnyH_done (by kernel_rfl) ?_ _
 clear hHeld
 generalize hM3 : M2.upd b (.cells fr1 69) = M3 at h hfb3 KS
 go_wp2_with (first
  | (with_reducible show wpList _ _ _ (⟨_, .store 3 _ _, _, _, _, _⟩ :: _) _ _; refine zV h rfl 3 _ _ rfl rfl rfl hfb3 hsz3 rfl (by kernel_rfl) ?_; clear h; intro w h))
 refine bodyPost_ret (results_none rfl _ _ _) rfl ⟨rfl, _, _, ?_, HT.out⟩
 have h0 : Has σ (M2.upd b (.cells (fr1.setIfInBounds 1 (.int .i64 1)) 69)) w := by rw [← hM3, Mm.upd_upd] at h; exact h
 rw [R2.out] at h0
 exact h0
theorem fill_1 {σ w : World} {K M : Mm} {lab : Nat → Nat} {p t q b : Nat} {s : MachS} {fs : List FrameS} {f : FrameS} (h : Has σ M w) (hT : AtTop K M lab p s t q b fs f) (hfs : fs.length < 1000000) (hat : f.at_ = 1) {i sl gn lb : Nat} (h0 : f.r 0 = (i : Int)) (h1 : f.r 1 = (sl : Int)) (h2 : f.r 2 = (gn : Int)) (h3 : f.r 3 = (lb : Int)) (hi : i < 9223372036854775808) (hsl : sl < 9223372036854775808) (hgn : gn < 9223372036854775808) (hlb : lb < 18446744073709551616) {a : Int} (SP : SpotAt σ M p t 7 (i : Nat) 0 a) (hb1 : s.mem.acc < 1000000000) (hb2 : s.mem.wr < 1000000000) :
  Calls Tryz.prog 61 #[.agg (runC p t q b)] w fun r w' => r = .returned (.tuple #[]) ∧ ∃ M' lab', Has σ M' w' ∧ Mach M' lab' p (MachS.backed { s with mem := s.mem.store a (xY sl gn lb : Nat) } t []) ∧ Base K M' lab' := by
 have CEQ := Lib.hid (fun (M' : Mm) (w : World) (h : Has σ M' w) => kM h sl gn lb hsl hgn hlb)
 obtain ⟨cv, hcv⟩ : ∃ x, xY sl gn lb = x := ⟨_, rfl⟩
 rw [hcv] at CEQ ⊢
 clear hcv
 obtain ⟨d0, d1, d2, d3, dx, dz⟩ := runD p t q b
 have f1 : f.row[1]? = some (.int .i64 1) := by rw [← hat]; rfl
 have f2 : f.row[2]? = some (.int .u64 (i : Nat)) := by rw [← h0]; rfl
 have f3 : f.row[3]? = some (.int .u64 (sl : Nat)) := by rw [← h1]; rfl
 have f4 : f.row[4]? = some (.int .u64 (gn : Nat)) := by rw [← h2]; rfl
 have f5 : f.row[5]? = some (.int .u64 (lb : Nat)) := by rw [← h3]; rfl
 have w1 : IntKind.i64.wrap (sl : Int) = (sl : Int) := IntWalk.i64_in _ (by omega)
 have w2 : IntKind.i64.wrap (gn : Int) = (gn : Int) := IntWalk.i64_in _ (by omega)
 go_enter Tryz.func61, Tryz.ntmps61
 go_upto_region 1 with (fail)
 obtain ⟨M1, hbx, hle, hb4, hn⟩ := h.box (.cells (runC p t q b) 124)
 generalize w.alloc _ = wx at hbx ⊢
 generalize w.heap.size = b4 at hb4 hn ⊢
 clear h
 try clear w
 have h := hbx
 clear hbx
 obtain ⟨w, rfl⟩ : ∃ x : World, x = wx := ⟨_, rfl⟩
 obtain ⟨lab1, hT1⟩ := hT.more1 hle hn hb4
 have hnK : K b4 = none := by
  cases e : K b4 with
  | none => rfl
  | some o => have := (hT.base _ _ e).1; rw [hn] at this; cases this
 have hKK : K.le (K.upd b4 (.cells (runC p t q b) 124)) := Mm.le_upd' hnK _
 have hbK : (K.upd b4 (.cells (runC p t q b) 124)) b4 = some (.cells (runC p t q b) 124) := Mm.upd_same _ _ _
 have hfb := hT1.obj
 have ME := Lib.hid (fun (w : World) (h : Has σ M1 w) => yJ h hT1.mach)
 have CL := Lib.hid (fun (w : World) (h : Has σ M1 w) => vT (q := q) (b := b) h hi (SP.le hle))
 have CE := Lib.hid (fun (w : World) (h : Has σ M1 w) => CEQ.out M1 w h)
 have SE := Lib.hid (fun (w : World) (h : Has σ M1 w) => xV h hT1.mach.mem hb1 hb2 a (cv : Nat))
 have hT2 := hT1.store a (cv : Nat)
 have BK := Lib.hid (fun (w : World) (h : Has σ (yA M1 s.mp s.mem a (cv : Nat)) w) => qV h hT2 hfs)
 have hb42 := hT2.base.le _ _ hbK
 have HK := Lib.hid hKK
 clear hT hT1 hT2 SP hb1 hb2 hn hle hnK hKK hbK hi h0 h1 h2 h3 hfs hat hsl hgn hlb
 generalize runC p t q b = rc at *
 generalize f.row = fr0 at *
 generalize yA M1 s.mp s.mem a _ = M2 at *
 go_upto_region 5 with (first
  | (with_reducible show wpList _ _ _ (⟨_, .load 70 _, _, _, _, _⟩ :: _) _ _; refine zZ h rfl 70 _ rfl rfl hb4 d3 Tryz.underlying70 rfl ?_)
  | (with_reducible show wpList _ _ _ (⟨_, .load 3 _, _, _, _, _⟩ :: _) _ _; refine zZ h rfl 3 _ rfl rfl hfb f1 Tryz.underlying3 rfl ?_))
 refine zN (Has σ M1) 29 (by kernel_rfl) (by kernel_rfl) (fun _ _ _ _ _ h => h) h.drew ?_
 clear h
 simp only [List.take_succ_cons, List.take_zero, List.drop_succ_cons, List.drop_zero]
 repeat (first
  | go_big_quiet_skip
  | (go_big_quiet_want; first
   | (refine zX 26 _ rfl rfl hb4 d0 Tryz.underlying26 rfl ?_; simp only [Act.put, qD, qE, qF]; go_big_quiet_on)
   | (refine zL 124 _ rfl rfl hb4 dx dz Tryz.underlying124 rfl (by kernel_rfl) ?_; simp only [Act.put, qD, qE, qF]; go_big_quiet_on)
   | (refine zX 42 _ rfl rfl hfb f2 Tryz.underlying42 rfl ?_; simp only [Act.put, qD, qE, qF]; go_big_quiet_on)
   | (refine zX 42 _ rfl rfl hfb f3 Tryz.underlying42 rfl ?_; simp only [Act.put, qD, qE, qF]; go_big_quiet_on)
   | (refine zX 42 _ rfl rfl hfb f4 Tryz.underlying42 rfl ?_; simp only [Act.put, qD, qE, qF]; go_big_quiet_on)
   | (refine zX 42 _ rfl rfl hfb f5 Tryz.underlying42 rfl ?_; simp only [Act.put, qD, qE, qF]; go_big_quiet_on)
   | (go_big_quiet_op; first | go_big_quiet_on | go_big_quiet_call (first | with_reducible exact fun _ => rfl | with_reducible exact ME.out _ | with_reducible exact CL.out _ | with_reducible exact CE.out _))))
 refine wpQuiet_nil ?_
 try clear w
 intro w h
 clear hfb hb4 ME CL
 go_wp2_with (first
  | (go_at_call 97; refine (SE.out _ h).mono ?_; clear h; rintro _ w ⟨rfl, h⟩)
  | (with_reducible show wpList _ _ _ (⟨_, .load 38 _, _, _, _, _⟩ :: _) _ _; refine zZ h rfl 38 _ rfl rfl hb42 d2 Tryz.underlying38 rfl ?_)
  | ((go_at_call 93; refine (BK.out _ h).mono ?_; clear h; rintro _ w ⟨rfl, M3, lab3, h, hM3, hB3⟩)))
 go_end0
 exact ⟨rfl, M3, lab3, h, hM3, fun c o hc => hB3 c o (HK.out _ _ hc)⟩
end
section
open Go.RowKit
theorem row_r1 (f : FrameS) (v : Int) : f.row.setIfInBounds 3 (.int .u64 v) = (f.reg 1 v).row := rfl
theorem row_r2 (f : FrameS) (v : Int) : f.row.setIfInBounds 4 (.int .u64 v) = (f.reg 2 v).row := rfl
theorem ent_fld2 (a b c : Int) (w : World) : (Instr.field 167 (.agg #[.int .i64 a, .int .i64 b, .int .u64 c]) 2).run Tryz.prog w = .ok (.int .u64 c) w := by kernel_rfl
theorem ent_fld0 (a b c : Int) (w : World) : (Instr.field 167 (.agg #[.int .i64 a, .int .i64 b, .int .u64 c]) 0).run Tryz.prog w = .ok (.int .i64 a) w := by kernel_rfl
theorem look_past {σ w : World} {K M : Mm} {lab : Nat → Nat} {p t q b : Nat} {s : MachS} {fs : List FrameS} {f : FrameS} (h : Has σ M w) (hT : AtTop K M lab p s t q b fs f) (hfs : fs.length < 1000000) {i B : Nat} (h1 : f.r 1 = (i : Int)) (hi : i < 9223372036854775808) (hB : s.c 11 = (B : Nat)) (hBi : B ≤ i) {z : Nat} (h3 : f.r 3 = (z : Int)) :
  Calls Tryz.prog 100 #[.agg (runC p t q b)] w fun r w' => r = .returned (.tuple #[]) ∧ ∃ M' lab', Has σ M' w' ∧ Mach M' lab' p (s.backed t [(z : Nat)]) ∧ Base K M' lab' := by
 obtain ⟨d0, d1, d2, d3, dx, dz⟩ := runD p t q b
 have f3 : f.row[3]? = some (.int .u64 (i : Nat)) := by rw [← h1]; rfl
 go_enter Tryz.func100, Tryz.ntmps100
 go_upto_region 1 with (fail)
 obtain ⟨M1, hbx, hle, hb4, hn⟩ := h.box (.cells (runC p t q b) 124)
 generalize w.alloc _ = wx at hbx ⊢
 generalize w.heap.size = b4 at hb4 hn ⊢
 clear h
 try clear w
 have h := hbx
 clear hbx
 obtain ⟨w, rfl⟩ : ∃ x : World, x = wx := ⟨_, rfl⟩
 obtain ⟨lab1, hT1⟩ := hT.more1 hle hn hb4
 have hnK : K b4 = none := by
  cases e : K b4 with
  | none => rfl
  | some o => have := (hT.base _ _ e).1; rw [hn] at this; cases this
 have hKK : K.le (K.upd b4 (.cells (runC p t q b) 124)) := Mm.le_upd' hnK _
 have hbK : (K.upd b4 (.cells (runC p t q b) 124)) b4 = some (.cells (runC p t q b) 124) := Mm.upd_same _ _ _
 have hfb := hT1.obj
 have PA := Lib.hid (fun (w : World) (h : Has σ M1 w) => vU h hT1 hi hB)
 have f5 : f.row[5]? = some (.int .u64 (z : Nat)) := by rw [← h3]; rfl
 rw [decide_eq_true hBi] at PA
 have KE := hT1.base.le
 have BK : Hid (∀ w, Has σ M1 w → Calls Tryz.prog 93 #[.pointer (some ⟨q, 0, none⟩), .slice (some ⟨w.heap.size, 0, none⟩) 1 1] (w.alloc (.cells #[.int .u64 (z : Nat)] 42)) fun r w' => r = .returned (.tuple #[]) ∧ ∃ M' lab', Has σ M' w' ∧ Mach M' lab' p (s.backed t [(z : Nat)]) ∧ Base (K.upd b4 (.cells (runC p t q b) 124)) M' lab') := Lib.hid fun w h => by
  obtain ⟨M8, h8, hle8, hb8, hn8⟩ := h.box (.cells #[.int .u64 (z : Nat)] 42)
  exact oN h8 hT1 hle8 hn8 hb8 hfs
 have HK := Lib.hid hKK
 clear hT hT1 hn hle hnK hKK hfs hB hBi hi h1 h3
 generalize K.upd b4 _ = K1 at *
 generalize runC p t q b = rc at *
 generalize f.row = fr0 at *
 go_upto_region 2 with (first
  | (with_reducible show wpList _ _ _ (⟨_, .load 70 _, _, _, _, _⟩ :: _) _ _; refine zZ h rfl 70 _ rfl rfl hb4 d3 Tryz.underlying70 rfl ?_))
 refine zS (Has σ M1) (by kernel_rfl) (by kernel_rfl) h.drew ?_
 clear h
 repeat (first
  | go_big_quiet_skip
  | (go_big_quiet_want; first
   | (refine zL 124 _ rfl rfl hb4 dx dz Tryz.underlying124 rfl (by kernel_rfl) ?_; simp only [Act.put, qD, qE, qF]; go_big_quiet_on)
   | (refine zX 42 _ rfl rfl hfb f3 Tryz.underlying42 rfl ?_; simp only [Act.put, qD, qE, qF]; go_big_quiet_on)
   | (go_big_quiet_op; first | go_big_quiet_on | go_big_quiet_call (first | with_reducible exact fun _ => rfl | with_reducible exact PA.out _))))
 refine wpQuiet_nil ?_
 try clear w
 intro w h
 go_upto_region 3 with (fail)
 refine wp_region_held_drew (S := Has σ (K1)) (by kernel_rfl) (h.drew.le KE) (fun hHeld => ?_)
 refine tkB 0 ?_
 try simp only [qA, qB, qC, Act.put, qD, qE, qF]
 refine tkA 1 rfl hHeld (zU rfl 38 _ rfl rfl hbK d2 Tryz.underlying38 rfl) ?_
 try simp only [qA, qB, qC, Act.put, qD, qE, qF]
 refine tkB 2 ?_
 refine tkB 3 ?_
 refine tkB 4 ?_
 refine tkB 5 ?_
 try simp only [qA, qB, qC, Act.put, qD, qE, qF]
 replace h := h.drew
 generalize w.drew = w1 at h hHeld ⊢
 clear w
 obtain ⟨w, rfl⟩ : ∃ q : World, q = w1 := ⟨_, rfl⟩
 refine op1 6 rfl fun K hK => ?_
 (refine yX rfl (zU rfl 42 _ rfl rfl hfb f5 Tryz.underlying42 rfl) h ?_)
 refine hK.out _ _ (hHeld) (fun hHeld => ?_)
 clear hK K
 try simp only [Act.put, qD, qE, qF]
 refine op1 7 rfl fun K hK => ?_
 go_simp
 refine hK.out _ _ ((h.quietAlloc _).le KE) (fun hHeld => ?_)
 clear hK K
 try simp only [Act.put, qD, qE, qF]
 refine op1 8 rfl fun K hK => ?_
 (go_simp; go_wp2_with (go_at_call 93; refine (BK.out _ h).mono ?_; clear h hHeld; rintro _ w ⟨rfl, M3, lab3, h, hM3, hB3⟩))
 refine hK.out _ _ (h.le hB3.le) (fun hHeld => ?_)
 clear hK K
 try simp only [Act.put, qD, qE, qF]
 refine wpAnyH_done (by kernel_rfl) ?_ _
 clear hHeld
 go_wp2
 exact bodyPost_ret (results_none rfl _ _ _) rfl ⟨rfl, M3, lab3, h, hM3, fun c o hc => hB3 c o (HK.out _ _ hc)⟩
theorem look_yes {σ w : World} {K M : Mm} {lab : Nat → Nat} {p t q b : Nat} {s : MachS} {fs : List FrameS} {f : FrameS} (h : Has σ M w) (hT : AtTop K M lab p s t q b fs f) {i B : Nat} (h1 : f.r 1 = (i : Int)) (hi : i < 9223372036854775808) (hB : s.c 11 = (B : Nat)) (hiB : i < B) {e v : Nat} (h0 : f.r 0 = (e : Int)) (he64 : e < 18446744073709551616) (hv64 : v < 18446744073709551616) {a : Int} (SP : SpotAt σ M p t 7 (i : Nat) 0 a) (hb1 : s.mem.acc < 1000000000) (hv : s.mem.load a = (v : Int)) (hk : yY v = 2) (ho : oldB (cutN v 32 30) e = true) :
  Calls Tryz.prog 100 #[.agg (runC p t q b)] w fun r w' => r = .returned (.tuple #[]) ∧ ∃ M' lab', Has σ M' w' ∧ AtTop K M' lab' p (MachS.top { s with mem := s.mem.at_ a } t fs ((f.reg 2 (v : Nat)).goto 2)) t q b fs ((f.reg 2 (v : Nat)).goto 2) := by
 obtain ⟨d0, d1, d2, d3, dx, dz⟩ := runD p t q b
 have f3 : f.row[3]? = some (.int .u64 (i : Nat)) := by rw [← h1]; rfl
 go_enter Tryz.func100, Tryz.ntmps100
 go_upto_region 1 with (fail)
 obtain ⟨M1, hbx, hle, hb4, hn⟩ := h.box (.cells (runC p t q b) 124)
 generalize w.alloc _ = wx at hbx ⊢
 generalize w.heap.size = b4 at hb4 hn ⊢
 clear h
 try clear w
 have h := hbx
 clear hbx
 obtain ⟨w, rfl⟩ : ∃ x : World, x = wx := ⟨_, rfl⟩
 obtain ⟨lab1, hT1⟩ := hT.more1 hle hn hb4
 have hnK : K b4 = none := by
  cases e : K b4 with
  | none => rfl
  | some o => have := (hT.base _ _ e).1; rw [hn] at this; cases this
 have hKK : K.le (K.upd b4 (.cells (runC p t q b) 124)) := Mm.le_upd' hnK _
 have hbK : (K.upd b4 (.cells (runC p t q b) 124)) b4 = some (.cells (runC p t q b) 124) := Mm.upd_same _ _ _
 have hfb := hT1.obj
 have PA := Lib.hid (fun (w : World) (h : Has σ M1 w) => vU h hT1 hi hB)
 have f2 : f.row[2]? = some (.int .u64 (e : Nat)) := by rw [← h0]; rfl
 rw [decide_eq_false (show ¬ B ≤ i by omega)] at PA
 have ME := Lib.hid (fun (w : World) (h : Has σ M1 w) => yJ h hT1.mach)
 have CL := Lib.hid (fun (w : World) (h : Has σ M1 w) => vT (q := q) (b := b) h hi (SP.le hle))
 have LD := Lib.hid (fun (w : World) (h : Has σ M1 w) => xM h hT1.mach.mem hb1 a)
 rw [hv] at LD
 have KL := hT1.base.le
 have hT2 := hT1.load a
 have KE := hT2.base.le
 obtain ⟨hfb2, hT3⟩ := hT2.frame (f.reg 2 (v : Nat))
 have KS := hT3.base.le
 have hsz : 4 < f.row.size := show 4 < 18 by omega
 have R1 := Lib.hid (row_r2 f (v : Nat))
 have g2 : (f.reg 2 (v : Nat)).row[2]? = some (.int .u64 (e : Nat)) := f2
 have g3 : (f.reg 2 (v : Nat)).row[3]? = some (.int .u64 (i : Nat)) := f3
 have g4 : (f.reg 2 (v : Nat)).row[4]? = some (.int .u64 (v : Nat)) := rfl
 have KD := Lib.hid (fun (M' : Mm) (w : World) (h : Has σ M' w) => (uD v hv64 w).mono fun r w' (hq : r = .returned (.int .i64 (yY v : Nat)) ∧ w = w') => (⟨hq.1, hq.2 ▸ h⟩ : r = .returned (.int .i64 (yY v : Nat)) ∧ Has σ M' w'))
 have WT := Lib.hid (fun (M' : Mm) (w : World) (h : Has σ M' w) => tH h v hv64)
 have OD := Lib.hid (fun (M' : Mm) (w : World) (h : Has σ M' w) => (qH (cutN v 32 30) e he64 w).mono fun r w' (hq : r = .returned (.bool (oldB (cutN v 32 30) e)) ∧ w = w') => (⟨hq.1, hq.2 ▸ h⟩ : r = .returned (.bool (oldB (cutN v 32 30) e)) ∧ Has σ M' w'))
 obtain ⟨_, hT4⟩ := hT3.frame ((f.reg 2 (v : Nat)).goto 2)
 rw [MachS.top_top, Mm.upd_upd] at hT4
 have HT := Lib.hid (hT4.less hKK)
 have hsz3 : 1 < (f.reg 2 (v : Nat)).row.size := show 1 < 18 by omega
 have R2 := Lib.hid (rJ (f.reg 2 (v : Nat)) 2)
 unfold pU at WT
 rw [hk] at KD WT
 rw [if_pos rfl] at WT
 rw [ho] at OD
 clear hv hT hT1 hT2 hT3 hT4 SP hb1 hn hle hnK hKK hB hiB hi h0 h1 he64 hv64 hk ho
 generalize cutN v 0 8 = c1 at *
 generalize cutN v 8 24 = c2 at *
 generalize cutN v 32 30 = c3 at *
 generalize hr2 : ((f.reg 2 (v : Nat)).goto 2).row = fr2 at *
 clear hr2
 generalize K.upd b4 _ = K1 at KL KE KS hbK
 generalize runC p t q b = rc at *
 generalize hr0 : f.row = fr0 at *
 generalize hr1 : (f.reg 2 (v : Nat)).row = fr1 at *
 clear hr0 hr1
 generalize M1.upd s.mp _ = M2 at *
 go_upto_region 2 with (first
  | (with_reducible show wpList _ _ _ (⟨_, .load 70 _, _, _, _, _⟩ :: _) _ _; refine zZ h rfl 70 _ rfl rfl hb4 d3 Tryz.underlying70 rfl ?_))
 refine zS (Has σ M1) (by kernel_rfl) (by kernel_rfl) h.drew ?_
 clear h
 repeat (first
  | go_big_quiet_skip
  | (go_big_quiet_want; first
   | (refine zL 124 _ rfl rfl hb4 dx dz Tryz.underlying124 rfl (by kernel_rfl) ?_; simp only [Act.put, qD, qE, qF]; go_big_quiet_on)
   | (refine zX 42 _ rfl rfl hfb f3 Tryz.underlying42 rfl ?_; simp only [Act.put, qD, qE, qF]; go_big_quiet_on)
   | (go_big_quiet_op; first | go_big_quiet_on | go_big_quiet_call (first | with_reducible exact fun _ => rfl | with_reducible exact PA.out _))))
 refine wpQuiet_nil ?_
 try clear w
 intro w h
 go_upto_region 4 with (fail)
 go_cut [] from 3 to 69 (fun wx => Has σ (M2.upd b (.cells fr1 69)) wx)
 case first =>
  refine wp_region_held_drew (S := Has σ (K1)) (by kernel_rfl) (h.drew.le KL) (fun hHeld => ?_)
  refine tkB 0 ?_
  refine tkB 1 ?_
  try simp only [qA, qB, qC, Act.put, qD, qE, qF]
  refine tkA 2 rfl hHeld (zU rfl 26 _ rfl rfl hbK d0 Tryz.underlying26 rfl) ?_
  try simp only [qA, qB, qC, Act.put, qD, qE, qF]
  refine tkA 4 rfl hHeld (yZ rfl 124 _ rfl rfl hbK dx dz Tryz.underlying124 rfl (by kernel_rfl)) ?_
  try simp only [qA, qB, qC, Act.put, qD, qE, qF]
  refine tkB 5 ?_
  refine tkB 6 ?_
  refine tkB 7 ?_
  refine tkB 8 ?_
  refine tkB 12 ?_
  refine tkB 13 ?_
  try simp only [qA, qB, qC, Act.put, qD, qE, qF]
  replace h := h.drew
  generalize w.drew = w1 at h hHeld ⊢
  clear w
  obtain ⟨w, rfl⟩ : ∃ q : World, q = w1 := ⟨_, rfl⟩
  refine wpAnyH_ready (rs := [3, 9]) (by kernel_rfl) (by simp) ?_
  refine AllReadyH.cons rfl (fun K hK => ?_) (AllReadyH.cons rfl (fun K hK => ?_) AllReadyH.nil)
  ·skip
   (go_simp; go_wp2_with (go_at_call 46; refine (ME.out _ h).mono ?_; clear h; rintro _ w ⟨rfl, h⟩))
   refine hK.out _ _ (h.le KL) (fun hHeld => ?_)
   clear hK K
   try simp only [Act.put, qD, qE, qF]
   refine op1 9 rfl fun K hK => ?_
   (refine yX rfl (zU rfl 42 _ rfl rfl hfb f3 Tryz.underlying42 rfl) h ?_)
   refine hK.out _ _ (hHeld) (fun hHeld => ?_)
   clear hK K
   try simp only [Act.put, qD, qE, qF]
   refine op1 10 rfl fun K hK => ?_
   (go_simp; go_wp2_with (go_at_call 95; refine (CL.out _ h).mono ?_; clear h; rintro _ w ⟨rfl, h⟩))
   refine hK.out _ _ (h.le KL) (fun hHeld => ?_)
   clear hK K
   try simp only [Act.put, qD, qE, qF]
   refine op1 11 rfl fun K hK => ?_
   (go_simp; go_wp2_with (go_at_call 94; refine (LD.out _ h).mono ?_; clear h; rintro _ w ⟨rfl, h⟩))
   refine hK.out _ _ (h.le KE) (fun hHeld => ?_)
   clear hK K
   try simp only [Act.put, qD, qE, qF]
   refine tkB 14 ?_
   try simp only [qA, qB, qC, Act.put, qD, qE, qF]
   refine op1 15 rfl fun K hK => ?_
   (refine yR (v := .int .u64 (v : Nat)) h rfl 42 _ _ rfl rfl rfl hfb2 hsz rfl rfl (by kernel_rfl) ?_; clear h; intro w h; rw [R1.out] at h)
   refine hK.out _ _ (h.le KS) (fun hHeld => ?_)
   clear hK K
   try simp only [Act.put, qD, qE, qF]
   refine wpAnyH_done (by kernel_rfl) ?_ _
   have hEnd := h
   go_wp2
   all_goals (go_meet; (case rel => exact hEnd))
  skip
  refine yX rfl (zU rfl 42 _ rfl rfl hfb f3 Tryz.underlying42 rfl) h ?_
  refine hK.out _ _ hHeld (fun hHeld => ?_)
  clear hK K
  simp only [Act.put, qD, qE, qF]
  refine op1 3 rfl fun K hK => ?_
  (go_simp; go_wp2_with (go_at_call 46; refine (ME.out _ h).mono ?_; clear h; rintro _ w ⟨rfl, h⟩))
  refine hK.out _ _ (h.le KL) (fun hHeld => ?_)
  clear hK K
  try simp only [Act.put, qD, qE, qF]
  refine op1 10 rfl fun K hK => ?_
  (go_simp; go_wp2_with (go_at_call 95; refine (CL.out _ h).mono ?_; clear h; rintro _ w ⟨rfl, h⟩))
  refine hK.out _ _ (h.le KL) (fun hHeld => ?_)
  clear hK K
  try simp only [Act.put, qD, qE, qF]
  refine op1 11 rfl fun K hK => ?_
  (go_simp; go_wp2_with (go_at_call 94; refine (LD.out _ h).mono ?_; clear h; rintro _ w ⟨rfl, h⟩))
  refine hK.out _ _ (h.le KE) (fun hHeld => ?_)
  clear hK K
  try simp only [Act.put, qD, qE, qF]
  refine tkB 14 ?_
  try simp only [qA, qB, qC, Act.put, qD, qE, qF]
  refine op1 15 rfl fun K hK => ?_
  (refine yR (v := .int .u64 (v : Nat)) h rfl 42 _ _ rfl rfl rfl hfb2 hsz rfl rfl (by kernel_rfl) ?_; clear h; intro w h; rw [R1.out] at h)
  refine hK.out _ _ (h.le KS) (fun hHeld => ?_)
  clear hK K
  try simp only [Act.put, qD, qE, qF]
  refine wpAnyH_done (by kernel_rfl) ?_ _
  have hEnd := h
  go_wp2
  all_goals (go_meet; (case rel => exact hEnd))
 clear h hb4 hfb f2 f3 PA ME CL LD KL KE KS hsz R1 hfb2
 obtain ⟨w, rfl⟩ : ∃ q : World, q = wc := ⟨_, rfl⟩
 have h := hcut
 clear hcut
 have hfb3 : (M2.upd b (.cells fr1 69)) b = some (.cells fr1 69) := Mm.upd_same _ _ _
 have KD3 := Lib.hid (fun (w : World) (h : Has σ (M2.upd b (.cells fr1 69)) w) => KD.out _ w h)
 have WT3 := Lib.hid (fun (w : World) (h : Has σ (M2.upd b (.cells fr1 69)) w) => WT.out _ w h)
 have OD3 := Lib.hid (fun (w : World) (h : Has σ (M2.upd b (.cells fr1 69)) w) => OD.out _ w h)
 generalize hM3 : M2.upd b (.cells fr1 69) = M3 at h hfb3 KD3 WT3 OD3
 have FD := ent_fld2 (c1 : Nat) (c2 : Nat) (c3 : Nat)
 go_upto_region 5 with (fail)
 refine zS (Has σ M3) (by kernel_rfl) (by kernel_rfl) h.drew ?_
 clear h
 repeat (first
  | go_big_quiet_skip
  | (go_big_quiet_want; first
   | (refine zX 42 _ rfl rfl hfb3 g4 Tryz.underlying42 rfl ?_; simp only [Act.put, qD, qE, qF]; go_big_quiet_on)
   | (refine zX 42 _ rfl rfl hfb3 g2 Tryz.underlying42 rfl ?_; simp only [Act.put, qD, qE, qF]; go_big_quiet_on)
   | (go_big_quiet_op; first | go_big_quiet_on | go_big_quiet_call (first | with_reducible exact fun _ => rfl | with_reducible exact KD3.out _ | with_reducible exact WT3.out _ | with_reducible exact OD3.out _))))
 refine wpQuiet_nil ?_
 try clear w
 intro w h
 go_wp2_with (first
  | (with_reducible show wpList _ _ _ (⟨_, .store 3 _ _, _, _, _, _⟩ :: _) _ _; refine zV h rfl 3 _ _ rfl rfl rfl hfb3 hsz3 rfl (by kernel_rfl) ?_; clear h; intro w h))
 refine bodyPost_ret (results_none rfl _ _ _) rfl ⟨rfl, _, _, ?_, HT.out⟩
 have h9 : Has σ (M2.upd b (.cells (fr1.setIfInBounds 1 (.int .i64 2)) 69)) w := by rw [← hM3, Mm.upd_upd] at h; exact h
 rw [R2.out] at h9
 exact h9
theorem look_no {σ w : World} {K M : Mm} {lab : Nat → Nat} {p t q b : Nat} {s : MachS} {fs : List FrameS} {f : FrameS} (h : Has σ M w) (hT : AtTop K M lab p s t q b fs f) {i B : Nat} (h1 : f.r 1 = (i : Int)) (hi : i < 9223372036854775808) (hB : s.c 11 = (B : Nat)) (hiB : i < B) {e v : Nat} (h0 : f.r 0 = (e : Int)) (he64 : e < 18446744073709551616) (hv64 : v < 18446744073709551616) {a : Int} (SP : SpotAt σ M p t 7 (i : Nat) 0 a) (hb1 : s.mem.acc < 1000000000) (hv : s.mem.load a = (v : Int)) (hko : yY v ≠ 2 ∨ (yY v = 2 ∧ oldB (cutN v 32 30) e = false)) :
  Calls Tryz.prog 100 #[.agg (runC p t q b)] w fun r w' => r = .returned (.tuple #[]) ∧ ∃ M' lab', Has σ M' w' ∧ AtTop K M' lab' p (MachS.top { s with mem := s.mem.at_ a } t fs ((f.reg 2 (v : Nat)).reg 1 (i + 1 : Nat))) t q b fs ((f.reg 2 (v : Nat)).reg 1 (i + 1 : Nat)) := by
 have wi : IntKind.u64.wrap ((i : Int) + 1) = ((i + 1 : Nat) : Int) := by rw [show (i : Int) + 1 = ((i + 1 : Nat) : Int) by omega]; exact IntWalk.u64_in _ (by omega)
 obtain ⟨d0, d1, d2, d3, dx, dz⟩ := runD p t q b
 have f3 : f.row[3]? = some (.int .u64 (i : Nat)) := by rw [← h1]; rfl
 go_enter Tryz.func100, Tryz.ntmps100
 go_upto_region 1 with (fail)
 obtain ⟨M1, hbx, hle, hb4, hn⟩ := h.box (.cells (runC p t q b) 124)
 generalize w.alloc _ = wx at hbx ⊢
 generalize w.heap.size = b4 at hb4 hn ⊢
 clear h
 try clear w
 have h := hbx
 clear hbx
 obtain ⟨w, rfl⟩ : ∃ x : World, x = wx := ⟨_, rfl⟩
 obtain ⟨lab1, hT1⟩ := hT.more1 hle hn hb4
 have hnK : K b4 = none := by
  cases e : K b4 with
  | none => rfl
  | some o => have := (hT.base _ _ e).1; rw [hn] at this; cases this
 have hKK : K.le (K.upd b4 (.cells (runC p t q b) 124)) := Mm.le_upd' hnK _
 have hbK : (K.upd b4 (.cells (runC p t q b) 124)) b4 = some (.cells (runC p t q b) 124) := Mm.upd_same _ _ _
 have hfb := hT1.obj
 have PA := Lib.hid (fun (w : World) (h : Has σ M1 w) => vU h hT1 hi hB)
 have f2 : f.row[2]? = some (.int .u64 (e : Nat)) := by rw [← h0]; rfl
 rw [decide_eq_false (show ¬ B ≤ i by omega)] at PA
 have ME := Lib.hid (fun (w : World) (h : Has σ M1 w) => yJ h hT1.mach)
 have CL := Lib.hid (fun (w : World) (h : Has σ M1 w) => vT (q := q) (b := b) h hi (SP.le hle))
 have LD := Lib.hid (fun (w : World) (h : Has σ M1 w) => xM h hT1.mach.mem hb1 a)
 rw [hv] at LD
 have KL := hT1.base.le
 have hT2 := hT1.load a
 have KE := hT2.base.le
 obtain ⟨hfb2, hT3⟩ := hT2.frame (f.reg 2 (v : Nat))
 have KS := hT3.base.le
 have hsz : 4 < f.row.size := show 4 < 18 by omega
 have R1 := Lib.hid (row_r2 f (v : Nat))
 have g2 : (f.reg 2 (v : Nat)).row[2]? = some (.int .u64 (e : Nat)) := f2
 have g3 : (f.reg 2 (v : Nat)).row[3]? = some (.int .u64 (i : Nat)) := f3
 have g4 : (f.reg 2 (v : Nat)).row[4]? = some (.int .u64 (v : Nat)) := rfl
 have KD := Lib.hid (fun (M' : Mm) (w : World) (h : Has σ M' w) => (uD v hv64 w).mono fun r w' (hq : r = .returned (.int .i64 (yY v : Nat)) ∧ w = w') => (⟨hq.1, hq.2 ▸ h⟩ : r = .returned (.int .i64 (yY v : Nat)) ∧ Has σ M' w'))
 have WT := Lib.hid (fun (M' : Mm) (w : World) (h : Has σ M' w) => tH h v hv64)
 have OD := Lib.hid (fun (M' : Mm) (w : World) (h : Has σ M' w) => (qH (cutN v 32 30) e he64 w).mono fun r w' (hq : r = .returned (.bool (oldB (cutN v 32 30) e)) ∧ w = w') => (⟨hq.1, hq.2 ▸ h⟩ : r = .returned (.bool (oldB (cutN v 32 30) e)) ∧ Has σ M' w'))
 obtain ⟨_, hT4⟩ := hT3.frame ((f.reg 2 (v : Nat)).reg 1 (i + 1 : Nat))
 rw [MachS.top_top, Mm.upd_upd] at hT4
 have HT := Lib.hid (hT4.less hKK)
 have hsz3 : 3 < (f.reg 2 (v : Nat)).row.size := show 3 < 18 by omega
 have R2 := Lib.hid (row_r1 (f.reg 2 (v : Nat)) (i + 1 : Nat))
 obtain ⟨k, hk⟩ : ∃ k, yY v = k := ⟨_, rfl⟩
 unfold pU at WT
 rw [hk] at KD WT hko
 have HKO := Lib.hid hko
 clear hv hT hT1 hT2 hT3 hT4 SP hb1 hn hle hnK hKK hB hiB hi h0 h1 he64 hv64 hk hko
 generalize cutN v 0 8 = c1 at *
 generalize cutN v 8 24 = c2 at *
 generalize cutN v 32 30 = c3 at *
 generalize hr2 : ((f.reg 2 (v : Nat)).reg 1 (i + 1 : Nat)).row = fr2 at *
 clear hr2
 generalize K.upd b4 _ = K1 at KL KE KS hbK
 generalize runC p t q b = rc at *
 generalize hr0 : f.row = fr0 at *
 generalize hr1 : (f.reg 2 (v : Nat)).row = fr1 at *
 clear hr0 hr1
 generalize M1.upd s.mp _ = M2 at *
 go_upto_region 2 with (first
  | (with_reducible show wpList _ _ _ (⟨_, .load 70 _, _, _, _, _⟩ :: _) _ _; refine zZ h rfl 70 _ rfl rfl hb4 d3 Tryz.underlying70 rfl ?_))
 refine zS (Has σ M1) (by kernel_rfl) (by kernel_rfl) h.drew ?_
 clear h
 repeat (first
  | go_big_quiet_skip
  | (go_big_quiet_want; first
   | (refine zL 124 _ rfl rfl hb4 dx dz Tryz.underlying124 rfl (by kernel_rfl) ?_; simp only [Act.put, qD, qE, qF]; go_big_quiet_on)
   | (refine zX 42 _ rfl rfl hfb f3 Tryz.underlying42 rfl ?_; simp only [Act.put, qD, qE, qF]; go_big_quiet_on)
   | (go_big_quiet_op; first | go_big_quiet_on | go_big_quiet_call (first | with_reducible exact fun _ => rfl | with_reducible exact PA.out _))))
 refine wpQuiet_nil ?_
 try clear w
 intro w h
 go_upto_region 4 with (fail)
 go_cut [] from 3 to 69 (fun wx => Has σ (M2.upd b (.cells fr1 69)) wx)
 case first =>
  refine wp_region_held_drew (S := Has σ (K1)) (by kernel_rfl) (h.drew.le KL) (fun hHeld => ?_)
  refine tkB 0 ?_
  refine tkB 1 ?_
  try simp only [qA, qB, qC, Act.put, qD, qE, qF]
  refine tkA 2 rfl hHeld (zU rfl 26 _ rfl rfl hbK d0 Tryz.underlying26 rfl) ?_
  try simp only [qA, qB, qC, Act.put, qD, qE, qF]
  refine tkA 4 rfl hHeld (yZ rfl 124 _ rfl rfl hbK dx dz Tryz.underlying124 rfl (by kernel_rfl)) ?_
  try simp only [qA, qB, qC, Act.put, qD, qE, qF]
  refine tkB 5 ?_
  refine tkB 6 ?_
  refine tkB 7 ?_
  refine tkB 8 ?_
  refine tkB 12 ?_
  refine tkB 13 ?_
  try simp only [qA, qB, qC, Act.put, qD, qE, qF]
  replace h := h.drew
  generalize w.drew = w1 at h hHeld ⊢
  clear w
  obtain ⟨w, rfl⟩ : ∃ q : World, q = w1 := ⟨_, rfl⟩
  refine wpAnyH_ready (rs := [3, 9]) (by kernel_rfl) (by simp) ?_
  refine AllReadyH.cons rfl (fun K hK => ?_) (AllReadyH.cons rfl (fun K hK => ?_) AllReadyH.nil)
  ·skip
   (go_simp; go_wp2_with (go_at_call 46; refine (ME.out _ h).mono ?_; clear h; rintro _ w ⟨rfl, h⟩))
   refine hK.out _ _ (h.le KL) (fun hHeld => ?_)
   clear hK K
   try simp only [Act.put, qD, qE, qF]
   refine op1 9 rfl fun K hK => ?_
   (refine yX rfl (zU rfl 42 _ rfl rfl hfb f3 Tryz.underlying42 rfl) h ?_)
   refine hK.out _ _ (hHeld) (fun hHeld => ?_)
   clear hK K
   try simp only [Act.put, qD, qE, qF]
   refine op1 10 rfl fun K hK => ?_
   (go_simp; go_wp2_with (go_at_call 95; refine (CL.out _ h).mono ?_; clear h; rintro _ w ⟨rfl, h⟩))
   refine hK.out _ _ (h.le KL) (fun hHeld => ?_)
   clear hK K
   try simp only [Act.put, qD, qE, qF]
   refine op1 11 rfl fun K hK => ?_
   (go_simp; go_wp2_with (go_at_call 94; refine (LD.out _ h).mono ?_; clear h; rintro _ w ⟨rfl, h⟩))
   refine hK.out _ _ (h.le KE) (fun hHeld => ?_)
   clear hK K
   try simp only [Act.put, qD, qE, qF]
   refine tkB 14 ?_
   try simp only [qA, qB, qC, Act.put, qD, qE, qF]
   refine op1 15 rfl fun K hK => ?_
   (refine yR (v := .int .u64 (v : Nat)) h rfl 42 _ _ rfl rfl rfl hfb2 hsz rfl rfl (by kernel_rfl) ?_; clear h; intro w h; rw [R1.out] at h)
   refine hK.out _ _ (h.le KS) (fun hHeld => ?_)
   clear hK K
   try simp only [Act.put, qD, qE, qF]
   refine wpAnyH_done (by kernel_rfl) ?_ _
   have hEnd := h
   go_wp2
   all_goals (go_meet; (case rel => exact hEnd))
  skip
  refine yX rfl (zU rfl 42 _ rfl rfl hfb f3 Tryz.underlying42 rfl) h ?_
  refine hK.out _ _ hHeld (fun hHeld => ?_)
  clear hK K
  simp only [Act.put, qD, qE, qF]
  refine op1 3 rfl fun K hK => ?_
  (go_simp; go_wp2_with (go_at_call 46; refine (ME.out _ h).mono ?_; clear h; rintro _ w ⟨rfl, h⟩))
  refine hK.out _ _ (h.le KL) (fun hHeld => ?_)
  clear hK K
  try simp only [Act.put, qD, qE, qF]
  refine op1 10 rfl fun K hK => ?_
  (go_simp; go_wp2_with (go_at_call 95; refine (CL.out _ h).mono ?_; clear h; rintro _ w ⟨rfl, h⟩))
  refine hK.out _ _ (h.le KL) (fun hHeld => ?_)
  clear hK K
  try simp only [Act.put, qD, qE, qF]
  refine op1 11 rfl fun K hK => ?_
  (go_simp; go_wp2_with (go_at_call 94; refine (LD.out _ h).mono ?_; clear h; rintro _ w ⟨rfl, h⟩))
  refine hK.out _ _ (h.le KE) (fun hHeld => ?_)
  clear hK K
  try simp only [Act.put, qD, qE, qF]
  refine tkB 14 ?_
  try simp only [qA, qB, qC, Act.put, qD, qE, qF]
  refine op1 15 rfl fun K hK => ?_
  (refine yR (v := .int .u64 (v : Nat)) h rfl 42 _ _ rfl rfl rfl hfb2 hsz rfl rfl (by kernel_rfl) ?_; clear h; intro w h; rw [R1.out] at h)
  refine hK.out _ _ (h.le KS) (fun hHeld => ?_)
  clear hK K
  try simp only [Act.put, qD, qE, qF]
  refine wpAnyH_done (by kernel_rfl) ?_ _
  have hEnd := h
  go_wp2
  all_goals (go_meet; (case rel => exact hEnd))
 clear h hb4 hfb f2 f3 PA ME CL LD KL KE KS hsz R1 hfb2
 obtain ⟨w, rfl⟩ : ∃ q : World, q = wc := ⟨_, rfl⟩
 have h := hcut
 clear hcut
 have hfb3 : (M2.upd b (.cells fr1 69)) b = some (.cells fr1 69) := Mm.upd_same _ _ _
 have KD3 := Lib.hid (fun (w : World) (h : Has σ (M2.upd b (.cells fr1 69)) w) => KD.out _ w h)
 have WT3 := Lib.hid (fun (w : World) (h : Has σ (M2.upd b (.cells fr1 69)) w) => WT.out _ w h)
 have OD3 := Lib.hid (fun (w : World) (h : Has σ (M2.upd b (.cells fr1 69)) w) => OD.out _ w h)
 generalize hM3 : M2.upd b (.cells fr1 69) = M3 at h hfb3 KD3 WT3 OD3
 go_upto_region 5 with (fail)
 by_cases hk : k = 2
 ·subst hk
  have ho : oldB c3 e = false := by
   rcases HKO.out with h | h
   ·exact absurd rfl h
   exact h.2
  have OD4 : Hid (∀ w : World, Has σ M3 w → Calls Tryz.prog 125 #[.int .u64 (c3 : Nat), .int .u64 (e : Nat)] w fun r w' => r = .returned (.bool false) ∧ Has σ M3 w') := Lib.hid fun w h => by have := OD3.out w h; rw [ho] at this; exact this
  have WT4 : Hid (∀ w : World, Has σ M3 w → Calls Tryz.prog 101 #[.int .u64 (v : Nat)] w fun r w' => r = .returned (.agg #[.int .i64 (c1 : Nat), .int .i64 (c2 : Nat), .int .u64 (c3 : Nat)]) ∧ Has σ M3 w') := Lib.hid fun w h => by have := WT3.out w h; rw [if_pos rfl] at this; exact this
  have FD := ent_fld2 (c1 : Nat) (c2 : Nat) (c3 : Nat)
  clear ho OD3 WT3 HKO KD WT OD
  refine zS (Has σ M3) (by kernel_rfl) (by kernel_rfl) h.drew ?_
  clear h
  repeat (first
   | go_big_quiet_skip
   | (go_big_quiet_want; first
    | (refine zX 42 _ rfl rfl hfb3 g4 Tryz.underlying42 rfl ?_; simp only [Act.put, qD, qE, qF]; go_big_quiet_on)
    | (refine zX 42 _ rfl rfl hfb3 g2 Tryz.underlying42 rfl ?_; simp only [Act.put, qD, qE, qF]; go_big_quiet_on)
    | (go_big_quiet_op; first | go_big_quiet_on | go_big_quiet_call (first | with_reducible exact fun _ => rfl | with_reducible exact KD3.out _ | with_reducible exact WT4.out _ | with_reducible exact OD4.out _))))
  refine wpQuiet_nil ?_
  try clear w
  intro w h
  go_upto_region 7 with (fail)
  refine zN (Has σ M3) 9 (by kernel_rfl) (by kernel_rfl) (fun _ _ _ _ _ h => h) h.drew ?_
  clear h
  simp only [List.take_succ_cons, List.take_zero, List.drop_succ_cons, List.drop_zero]
  repeat (first
   | go_big_quiet_skip
   | (go_big_quiet_want; first
    | (refine zX 42 _ rfl rfl hfb3 g3 Tryz.underlying42 rfl ?_; simp only [Act.put, qD, qE, qF]; go_big_quiet_on)
    | (go_big_quiet_op; first | go_big_quiet_on | go_big_quiet_call (first | with_reducible exact fun _ => rfl))))
  refine wpQuiet_nil ?_
  try clear w
  intro w h
  go_wp2_with (first
   | (with_reducible show wpList _ _ _ (⟨_, .store 42 _ _, _, _, _, _⟩ :: _) _ _; refine zV h rfl 42 _ _ rfl rfl rfl hfb3 hsz3 rfl (by kernel_rfl) ?_; clear h; intro w h))
  go_end0
  refine ⟨rfl, _, _, ?_, HT.out⟩
  have h9 : Has σ (M2.upd b (.cells (fr1.setIfInBounds 3 (.int .u64 (i + 1 : Nat))) 69)) w := by rw [← hM3, Mm.upd_upd] at h; exact h
  rw [R2.out] at h9
  exact h9
 have gk : ((k : Int) == 2) = false := beq_eq_false_iff_ne.2 (by omega)
 clear hk OD3 WT3 HKO KD WT OD
 refine zS (Has σ M3) (by kernel_rfl) (by kernel_rfl) h.drew ?_
 clear h
 repeat (first
  | go_big_quiet_skip
  | (go_big_quiet_want; first
   | (refine zX 42 _ rfl rfl hfb3 g4 Tryz.underlying42 rfl ?_; simp only [Act.put, qD, qE, qF]; go_big_quiet_on)
   | (go_big_quiet_op; first | go_big_quiet_on | go_big_quiet_call (first | with_reducible exact fun _ => rfl | with_reducible exact KD3.out _))))
 refine wpQuiet_nil ?_
 try clear w
 intro w h
 go_upto_region 7 with (fail)
 refine zN (Has σ M3) 9 (by kernel_rfl) (by kernel_rfl) (fun _ _ _ _ _ h => h) h.drew ?_
 clear h
 simp only [List.take_succ_cons, List.take_zero, List.drop_succ_cons, List.drop_zero]
 repeat (first
  | go_big_quiet_skip
  | (go_big_quiet_want; first
   | (refine zX 42 _ rfl rfl hfb3 g3 Tryz.underlying42 rfl ?_; simp only [Act.put, qD, qE, qF]; go_big_quiet_on)
   | (go_big_quiet_op; first | go_big_quiet_on | go_big_quiet_call (first | with_reducible exact fun _ => rfl))))
 refine wpQuiet_nil ?_
 try clear w
 intro w h
 go_wp2_with (first
  | (with_reducible show wpList _ _ _ (⟨_, .store 42 _ _, _, _, _, _⟩ :: _) _ _; refine zV h rfl 42 _ _ rfl rfl rfl hfb3 hsz3 rfl (by kernel_rfl) ?_; clear h; intro w h))
 go_end0
 refine ⟨rfl, _, _, ?_, HT.out⟩
 have h9 : Has σ (M2.upd b (.cells (fr1.setIfInBounds 3 (.int .u64 (i + 1 : Nat))) 69)) w := by rw [← hM3, Mm.upd_upd] at h; exact h
 rw [R2.out] at h9
 exact h9
end
section
open Go.RowKit
theorem call1_eq {σ w : World} {K M M2 : Mm} {lab : Nat → Nat} {p t q b bl : Nat} {s : MachS} {fs : List FrameS} {f : FrameS} {v0 : Int} (h : Has σ M2 w) (hT : AtTop K M lab p s t q b fs f) (hle : M.le M2) (hn : M bl = none) (hbl : M2 bl = some (.cells #[.int .u64 v0] 42)) (hfs : fs.length < 900000) (fn : Int) :
  Calls Tryz.prog 34 #[.pointer (some ⟨q, 0, none⟩), .int .i64 fn, .slice (some ⟨bl, 0, none⟩) 1 1] w fun r w' => r = .returned (.tuple #[]) ∧ ∃ M' lab', Has σ M' w' ∧ Mach M' lab' p (s.begun t fn [v0]) ∧ Base K M' lab' := by
 obtain ⟨lab2, hT2⟩ := hT.more1 hle hn hbl
 obtain ⟨fv, hv, fbs, hTh⟩ := hT2.thr
 have hnK : K bl = none := by
  cases e : K bl with
  | none => rfl
  | some o => have := (hT.base _ _ e).1; rw [hn] at this; cases this
 have hrd : Rd M2 1 (.slice (some ⟨bl, 0, none⟩) 1 1) [v0].length (u64s [v0]) := ⟨rfl, _, _, rfl, Nat.le_refl _, fun _ => ⟨bl, 0, _, _, _, rfl, hbl, fun j u hu => by simpa [u64s] using hu⟩⟩
 have hlen : (fbs ++ [b]).length = fs.length + 1 := by
  have h1 := hTh.flen
  rw [hT2.fr] at h1
  simpa using h1
 refine (pX h hTh fn hrd (by simp) (by omega)).mono fun r w' ⟨e, M', lab', h', hK, hI⟩ => ?_
 obtain ⟨h4, h5⟩ := hT2.mach.thrTo hT2.base hT2.tp hK hI
 exact ⟨e, M', lab', h', h4, fun c o hc => h5 c o (Mm.le_upd' hnK _ _ _ hc)⟩
theorem sw_0 {σ w : World} {K M : Mm} {lab : Nat → Nat} {p t q b : Nat} {s : MachS} {fs : List FrameS} {f : FrameS} (h : Has σ M w) (hT : AtTop K M lab p s t q b fs f) (hat : f.at_ = 0) {a : Int} (SP : SpotAt σ M p t 1 0 0 a) (hb1 : s.mem.acc < 1000000000) :
  Calls Tryz.prog 62 #[.agg (runC p t q b)] w fun r w' => r = .returned (.tuple #[]) ∧ ∃ M' lab', Has σ M' w' ∧ AtTop K M' lab' p (MachS.top { s with mem := s.mem.at_ a } t fs ((f.reg 0 (s.mem.load a)).goto 1)) t q b fs ((f.reg 0 (s.mem.load a)).goto 1) := by
 obtain ⟨d0, d1, d2, d3, dx, dz⟩ := runD p t q b
 have f1 : f.row[1]? = some (.int .i64 0) := by rw [← hat]; rfl
 obtain ⟨v, hvv⟩ : ∃ v, s.mem.load a = v := ⟨_, rfl⟩
 rw [hvv]
 go_enter Tryz.func62, Tryz.ntmps62
 go_upto_region 1 with (fail)
 obtain ⟨M1, hbx, hle, hb4, hn⟩ := h.box (.cells (runC p t q b) 124)
 generalize w.alloc _ = wx at hbx ⊢
 generalize w.heap.size = b4 at hb4 hn ⊢
 clear h
 try clear w
 have h := hbx
 clear hbx
 obtain ⟨w, rfl⟩ : ∃ x : World, x = wx := ⟨_, rfl⟩
 obtain ⟨lab1, hT1⟩ := hT.more1 hle hn hb4
 have hnK : K b4 = none := by
  cases e : K b4 with
  | none => rfl
  | some o => have := (hT.base _ _ e).1; rw [hn] at this; cases this
 have hKK : K.le (K.upd b4 (.cells (runC p t q b) 124)) := Mm.le_upd' hnK _
 have hbK : (K.upd b4 (.cells (runC p t q b) 124)) b4 = some (.cells (runC p t q b) 124) := Mm.upd_same _ _ _
 have hfb := hT1.obj
 have NW := Lib.hid (fun (w : World) (h : Has σ M1 w) => lbNow_eq h hT1 (SP.le hle) hb1)
 rw [hvv] at NW
 have KL := hT1.base.le
 have hT2 := hT1.load a
 have KE := hT2.base.le
 obtain ⟨hfb2, hT3⟩ := hT2.frame (f.reg 0 v)
 have KS := hT3.base.le
 obtain ⟨hfb3, hT4⟩ := hT3.frame ((f.reg 0 v).goto 1)
 rw [MachS.top_top, Mm.upd_upd] at hT4
 have HT := Lib.hid (hT4.less hKK)
 have hsz : 2 < f.row.size := show 2 < 18 by omega
 have hsz3 : 1 < (f.reg 0 v).row.size := show 1 < 18 by omega
 have R1 := Lib.hid (row_r0 f v)
 have R2 := Lib.hid (rJ (f.reg 0 v) 1)
 clear hvv hT hT1 hT2 hT3 hT4 SP hb1 hn hle hnK hKK hat
 generalize K.upd b4 _ = K1 at KL KE KS hbK
 generalize runC p t q b = rc at *
 generalize hr0 : f.row = fr0 at *
 generalize hr1 : (f.reg 0 v).row = fr1 at *
 generalize hr2 : ((f.reg 0 v).goto 1).row = fr2 at *
 clear hr0 hr1 hr2
 generalize M1.upd s.mp _ = M2 at *
 go_upto_region 8 with (first
  | (with_reducible show wpList _ _ _ (⟨_, .load 70 _, _, _, _, _⟩ :: _) _ _; refine zZ h rfl 70 _ rfl rfl hb4 d3 Tryz.underlying70 rfl ?_)
  | (with_reducible show wpList _ _ _ (⟨_, .load 3 _, _, _, _, _⟩ :: _) _ _; refine zZ h rfl 3 _ rfl rfl hfb f1 Tryz.underlying3 rfl ?_))
 clear hfb hb4
 refine wp_region_held_drew (S := Has σ (K1)) (by kernel_rfl) (h.drew.le KL) (fun hHeld => ?_)
 refine tkB 0 ?_
 try simp only [qA, qB, qC, Act.put, qD, qE, qF]
 refine tkA 1 rfl hHeld (yZ rfl 124 _ rfl rfl hbK dx dz Tryz.underlying124 rfl (by kernel_rfl)) ?_
 try simp only [qA, qB, qC, Act.put, qD, qE, qF]
 refine tkB 3 ?_
 refine tkB 4 ?_
 try simp only [qA, qB, qC, Act.put, qD, qE, qF]
 replace h := h.drew
 generalize w.drew = w1 at h hHeld ⊢
 clear w
 obtain ⟨w, rfl⟩ : ∃ q : World, q = w1 := ⟨_, rfl⟩
 refine op1 2 rfl fun K hK => ?_
 (go_simp; go_wp2_with (go_at_call 98; refine (NW.out _ h).mono ?_; clear h; rintro _ w ⟨rfl, h⟩))
 refine hK.out _ _ (h.le KE) (fun hHeld => ?_)
 clear hK K
 try simp only [Act.put, qD, qE, qF]
 refine tkB 5 ?_
 try simp only [qA, qB, qC, Act.put, qD, qE, qF]
 refine op1 6 rfl fun K hK => ?_
 (refine yR (v := .int .u64 v) h rfl 42 _ _ rfl rfl rfl hfb2 hsz rfl rfl (by kernel_rfl) ?_; clear h; intro w h; rw [R1.out] at h)
 refine hK.out _ _ (h.le KS) (fun hHeld => ?_)
 clear hK K
 try simp only [Act.put, qD, qE, qF]
 refine wpAnyH_done (by kernel_rfl) ?_ _
 clear hHeld
 generalize hM3 : M2.upd b (.cells fr1 69) = M3 at h hfb3 KS
 go_wp2_with (first
  | (with_reducible show wpList _ _ _ (⟨_, .store 3 _ _, _, _, _, _⟩ :: _) _ _; refine zV h rfl 3 _ _ rfl rfl rfl hfb3 hsz3 rfl (by kernel_rfl) ?_; clear h; intro w h))
 go_end0
 refine ⟨rfl, _, _, ?_, HT.out⟩
 have h0 : Has σ (M2.upd b (.cells (fr1.setIfInBounds 1 (.int .i64 1)) 69)) w := by rw [← hM3, Mm.upd_upd] at h; exact h
 rw [R2.out] at h0
 exact h0
theorem sw_1 {σ w : World} {K M : Mm} {lab : Nat → Nat} {p t q b : Nat} {s : MachS} {fs : List FrameS} {f : FrameS} (h : Has σ M w) (hT : AtTop K M lab p s t q b fs f) (hat : f.at_ = 1) {R : MachS → Prop} (hlook : ∀ (K1 M1 : Mm) (lab1 : Nat → Nat) (w1 : World), Has σ M1 w1 → AtTop K1 M1 lab1 p s t q b fs f → Calls Tryz.prog 100 #[.agg (runC p t q b)] w1 fun r w' => r = .returned (.tuple #[]) ∧ ∃ M' lab' s', Has σ M' w' ∧ Mach M' lab' p s' ∧ Base K1 M' lab' ∧ R s') :
  Calls Tryz.prog 62 #[.agg (runC p t q b)] w fun r w' => r = .returned (.tuple #[]) ∧ ∃ M' lab' s', Has σ M' w' ∧ Mach M' lab' p s' ∧ Base K M' lab' ∧ R s' := by
 obtain ⟨d0, d1, d2, d3, dx, dz⟩ := runD p t q b
 have f1 : f.row[1]? = some (.int .i64 1) := by rw [← hat]; rfl
 go_enter Tryz.func62, Tryz.ntmps62
 go_upto_region 1 with (fail)
 obtain ⟨M1, hbx, hle, hb4, hn⟩ := h.box (.cells (runC p t q b) 124)
 generalize w.alloc _ = wx at hbx ⊢
 generalize w.heap.size = b4 at hb4 hn ⊢
 clear h
 try clear w
 have h := hbx
 clear hbx
 obtain ⟨w, rfl⟩ : ∃ x : World, x = wx := ⟨_, rfl⟩
 obtain ⟨lab1, hT1⟩ := hT.more1 hle hn hb4
 have hnK : K b4 = none := by
  cases e : K b4 with
  | none => rfl
  | some o => have := (hT.base _ _ e).1; rw [hn] at this; cases this
 have hKK : K.le (K.upd b4 (.cells (runC p t q b) 124)) := Mm.le_upd' hnK _
 have hbK : (K.upd b4 (.cells (runC p t q b) 124)) b4 = some (.cells (runC p t q b) 124) := Mm.upd_same _ _ _
 have hfb := hT1.obj
 have LK := Lib.hid (fun (w : World) (h : Has σ M1 w) => hlook _ M1 lab1 w h hT1)
 have HK := Lib.hid hKK
 clear hT hT1 hn hle hnK hKK hbK hat hlook
 generalize runC p t q b = rc at *
 generalize f.row = fr0 at *
 go_wp2_with (first
  | (with_reducible show wpList _ _ _ (⟨_, .load 70 _, _, _, _, _⟩ :: _) _ _; refine zZ h rfl 70 _ rfl rfl hb4 d3 Tryz.underlying70 rfl ?_)
  | (with_reducible show wpList _ _ _ (⟨_, .load 3 _, _, _, _, _⟩ :: _) _ _; refine zZ h rfl 3 _ rfl rfl hfb f1 Tryz.underlying3 rfl ?_)
  | ((with_reducible show wpList _ _ _ (⟨_, .load 124 _, _, _, _, _⟩ :: _) _ _); refine zR h rfl 124 _ rfl rfl hb4 dx dz Tryz.underlying124 rfl (by kernel_rfl) ?_; try simp only [Act.put, qD, qE, qF])
  | (go_at_call 100; refine (LK.out _ h).mono ?_; clear h; rintro _ w ⟨rfl, M3, lab3, s3, h, hM3, hB3, hR3⟩))
 go_end0
 exact ⟨rfl, M3, lab3, s3, h, hM3, fun c o hc => hB3 c o (HK.out _ _ hc), hR3⟩
theorem sw_2n {σ w : World} {K M : Mm} {lab : Nat → Nat} {p t q b : Nat} {s : MachS} {fs : List FrameS} {f : FrameS} (h : Has σ M w) (hT : AtTop K M lab p s t q b fs f) (hfs : fs.length < 900000) {i v : Nat} (h1 : f.r 1 = (i : Int)) (h2 : f.r 2 = (v : Int)) (hi : i < 9223372036854775808) (ht : t < 9223372036854775808) (hat : f.at_ = 2) {a : Int} (SP : SpotAt σ M p t 7 (i : Nat) 0 a) (hb1 : s.mem.acc < 1000000000) (hb2 : s.mem.wr < 1000000000) (hsw : s.mem.swaps a (v : Nat) = false) :
  Calls Tryz.prog 62 #[.agg (runC p t q b)] w fun r w' => r = .returned (.tuple #[]) ∧ ∃ M' lab', Has σ M' w' ∧ AtTop K M' lab' p (MachS.top { s with mem := s.mem.cas a (v : Nat) (zI t : Nat) } t fs ((f.reg 1 (i + 1 : Nat)).goto 1)) t q b fs ((f.reg 1 (i + 1 : Nat)).goto 1) := by
 have wi : IntKind.u64.wrap ((i : Int) + 1) = ((i + 1 : Nat) : Int) := by rw [show (i : Int) + 1 = ((i + 1 : Nat) : Int) by omega]; exact IntWalk.u64_in _ (by omega)
 obtain ⟨d0, d1, d2, d3, dx, dz⟩ := runD p t q b
 have f1 : f.row[1]? = some (.int .i64 2) := by rw [← hat]; rfl
 have f3 : f.row[3]? = some (.int .u64 (i : Nat)) := by rw [← h1]; rfl
 have f4 : f.row[4]? = some (.int .u64 (v : Nat)) := by rw [← h2]; rfl
 go_enter Tryz.func62, Tryz.ntmps62
 go_upto_region 1 with (fail)
 obtain ⟨M1, hbx, hle, hb4, hn⟩ := h.box (.cells (runC p t q b) 124)
 generalize w.alloc _ = wx at hbx ⊢
 generalize w.heap.size = b4 at hb4 hn ⊢
 clear h
 try clear w
 have h := hbx
 clear hbx
 obtain ⟨w, rfl⟩ : ∃ x : World, x = wx := ⟨_, rfl⟩
 obtain ⟨lab1, hT1⟩ := hT.more1 hle hn hb4
 have hnK : K b4 = none := by
  cases e : K b4 with
  | none => rfl
  | some o => have := (hT.base _ _ e).1; rw [hn] at this; cases this
 have hKK : K.le (K.upd b4 (.cells (runC p t q b) 124)) := Mm.le_upd' hnK _
 have hbK : (K.upd b4 (.cells (runC p t q b) 124)) b4 = some (.cells (runC p t q b) 124) := Mm.upd_same _ _ _
 have hfb := hT1.obj
 have CLM := Lib.hid (fun (w : World) (h : Has σ M1 w) => sH (x := v) h hT1 hi ht (SP.le hle) hb1 hb2)
 rw [hsw] at CLM
 have HKK := Lib.hid hKK
 have HF := Lib.hid hfs
 clear hsw hT hT1 SP hb1 hb2 hn hle hnK hKK hi h1 h2 hat ht hfs
 generalize hrc : runC p t q b = rc at *
 have HRC := Lib.hid hrc
 generalize hr0 : f.row = fr0 at *
 have HR0 := Lib.hid hr0
 clear hrc hr0
 generalize K.upd b4 _ = K1 at *
 go_upto_region 13 with (first
  | (with_reducible show wpList _ _ _ (⟨_, .load 70 _, _, _, _, _⟩ :: _) _ _; refine zZ h rfl 70 _ rfl rfl hb4 d3 Tryz.underlying70 rfl ?_)
  | (with_reducible show wpList _ _ _ (⟨_, .load 3 _, _, _, _, _⟩ :: _) _ _; refine zZ h rfl 3 _ rfl rfl hfb f1 Tryz.underlying3 rfl ?_))
 refine zN (Has σ M1) 11 (by kernel_rfl) (by kernel_rfl) (fun _ _ _ _ _ h => h) h.drew ?_
 clear h
 simp only [List.take_succ_cons, List.take_zero, List.drop_succ_cons, List.drop_zero]
 repeat (first
  | go_big_quiet_skip
  | (go_big_quiet_want; first
   | (refine zL 124 _ rfl rfl hb4 dx dz Tryz.underlying124 rfl (by kernel_rfl) ?_; simp only [Act.put, qD, qE, qF]; go_big_quiet_on)
   | (refine zX 42 _ rfl rfl hfb f3 Tryz.underlying42 rfl ?_; simp only [Act.put, qD, qE, qF]; go_big_quiet_on)
   | (refine zX 42 _ rfl rfl hfb f4 Tryz.underlying42 rfl ?_; simp only [Act.put, qD, qE, qF]; go_big_quiet_on)
   | (go_big_quiet_op; first | go_big_quiet_on | go_big_quiet_call (first | with_reducible exact fun _ => rfl))))
 refine wpQuiet_nil ?_
 try clear w
 intro w h
 clear hfb hb4
 go_upto_region 14 with (first
  | ((go_at_call 96; refine (CLM.out _ h).mono ?_; clear h; rintro _ w ⟨rfl, M2, lab2, h, hT2⟩)))
 obtain ⟨hfb2, hT3⟩ := hT2.frame (f.reg 1 (i + 1 : Nat))
 obtain ⟨hfb3, hT4⟩ := hT3.frame ((f.reg 1 (i + 1 : Nat)).goto 1)
 rw [MachS.top_top, Mm.upd_upd] at hT4
 have HT := Lib.hid (hT4.less HKK.out)
 have hsz : 3 < f.row.size := show 3 < 18 by omega
 have hsz2 : 1 < (f.reg 1 (i + 1 : Nat)).row.size := show 1 < 18 by omega
 have R1 := Lib.hid (row_r1 f (i + 1 : Nat))
 have R2 := Lib.hid (rJ (f.reg 1 (i + 1 : Nat)) 1)
 rw [HR0.out] at hfb2 hsz R1
 clear hT2 hT3 hT4 HF CLM hbK
 generalize (f.reg 1 (i + 1 : Nat)).row = fr1 at *
 generalize ((f.reg 1 (i + 1 : Nat)).goto 1).row = fr2 at *
 refine zN (Has σ M2) 9 (by kernel_rfl) (by kernel_rfl) (fun _ _ _ _ _ h => h) h.drew ?_
 clear h
 simp only [List.take_succ_cons, List.take_zero, List.drop_succ_cons, List.drop_zero]
 repeat (first
  | go_big_quiet_skip
  | (go_big_quiet_want; first
   | (refine zX 42 _ rfl rfl hfb2 f3 Tryz.underlying42 rfl ?_; simp only [Act.put, qD, qE, qF]; go_big_quiet_on)
   | (go_big_quiet_op; first | go_big_quiet_on | go_big_quiet_call (first | with_reducible exact fun _ => rfl))))
 refine wpQuiet_nil ?_
 try clear w
 intro w h
 go_upto_region 15 with (first
  | (with_reducible show wpList _ _ _ (⟨_, .store 42 _ _, _, _, _, _⟩ :: _) _ _; refine zV h rfl 42 _ _ rfl rfl rfl hfb2 hsz rfl (by kernel_rfl) ?_; clear h; intro w h))
 have h9 : Has σ (M2.upd b (.cells (fr0.setIfInBounds 3 (.int .u64 (i + 1 : Nat))) 69)) w := h
 rw [R1.out] at h9
 clear h
 have h := h9
 generalize hM3 : M2.upd b (.cells fr1 69) = M3 at h hfb3
 go_wp2_with (first
  | (with_reducible show wpList _ _ _ (⟨_, .store 3 _ _, _, _, _, _⟩ :: _) _ _; refine zV h rfl 3 _ _ rfl rfl rfl hfb3 hsz2 rfl (by kernel_rfl) ?_; clear h; intro w h))
 refine bodyPost_ret (results_none rfl _ _ _) rfl ⟨rfl, _, _, ?_, HT.out⟩
 have h9 : Has σ (M2.upd b (.cells (fr1.setIfInBounds 1 (.int .i64 1)) 69)) w := by rw [← hM3, Mm.upd_upd] at h; exact h
 rw [R2.out] at h9
 exact h9
theorem sw_2y {σ w : World} {K M : Mm} {lab : Nat → Nat} {p t q b : Nat} {s : MachS} {fs : List FrameS} {f : FrameS} (h : Has σ M w) (hT : AtTop K M lab p s t q b fs f) (hfs : fs.length < 900000) {i v : Nat} (h1 : f.r 1 = (i : Int)) (h2 : f.r 2 = (v : Int)) (hi : i < 9223372036854775808) (hv64 : v < 18446744073709551616) (hk : yY v = 2) (ht : t < 9223372036854775808) (hat : f.at_ = 2) {a : Int} (SP : SpotAt σ M p t 7 (i : Nat) 0 a) (hb1 : s.mem.acc < 1000000000) (hb2 : s.mem.wr < 1000000000) (hsw : s.mem.swaps a (v : Nat) = true) :
  Calls Tryz.prog 62 #[.agg (runC p t q b)] w fun r w' => r = .returned (.tuple #[]) ∧ ∃ M' lab', Has σ M' w' ∧ Mach M' lab' p (MachS.begun (MachS.top { s with mem := s.mem.cas a (v : Nat) (zI t : Nat) } t fs (f.goto 3)) t 2 [(cutN v 0 8 : Nat)]) ∧ Base K M' lab' := by
 have WT := Lib.hid (fun (M' : Mm) (w : World) (h : Has σ M' w) => tH h v hv64)
 unfold pU at WT
 rw [hk, if_pos rfl] at WT
 have lz := yG v 0 8
 obtain ⟨c1, hc1⟩ : ∃ x, cutN v 0 8 = x := ⟨_, rfl⟩
 rw [hc1] at WT lz ⊢
 generalize cutN v 8 24 = c2 at WT
 generalize cutN v 32 30 = c3 at WT
 have FD := ent_fld0 (c1 : Nat) (c2 : Nat) (c3 : Nat)
 have wc : IntKind.u64.wrap (c1 : Int) = (c1 : Int) := IntWalk.u64_in _ (by omega)
 clear hk hc1 lz hv64
 obtain ⟨d0, d1, d2, d3, dx, dz⟩ := runD p t q b
 have f1 : f.row[1]? = some (.int .i64 2) := by rw [← hat]; rfl
 have f3 : f.row[3]? = some (.int .u64 (i : Nat)) := by rw [← h1]; rfl
 have f4 : f.row[4]? = some (.int .u64 (v : Nat)) := by rw [← h2]; rfl
 go_enter Tryz.func62, Tryz.ntmps62
 go_upto_region 1 with (fail)
 obtain ⟨M1, hbx, hle, hb4, hn⟩ := h.box (.cells (runC p t q b) 124)
 generalize w.alloc _ = wx at hbx ⊢
 generalize w.heap.size = b4 at hb4 hn ⊢
 clear h
 try clear w
 have h := hbx
 clear hbx
 obtain ⟨w, rfl⟩ : ∃ x : World, x = wx := ⟨_, rfl⟩
 obtain ⟨lab1, hT1⟩ := hT.more1 hle hn hb4
 have hnK : K b4 = none := by
  cases e : K b4 with
  | none => rfl
  | some o => have := (hT.base _ _ e).1; rw [hn] at this; cases this
 have hKK : K.le (K.upd b4 (.cells (runC p t q b) 124)) := Mm.le_upd' hnK _
 have hbK : (K.upd b4 (.cells (runC p t q b) 124)) b4 = some (.cells (runC p t q b) 124) := Mm.upd_same _ _ _
 have hfb := hT1.obj
 have CLM := Lib.hid (fun (w : World) (h : Has σ M1 w) => sH (x := v) h hT1 hi ht (SP.le hle) hb1 hb2)
 rw [hsw] at CLM
 have HKK := Lib.hid hKK
 have HF := Lib.hid hfs
 clear hsw hT hT1 SP hb1 hb2 hn hle hnK hKK hi h1 h2 hat ht hfs
 generalize hrc : runC p t q b = rc at *
 have HRC := Lib.hid hrc
 generalize hr0 : f.row = fr0 at *
 have HR0 := Lib.hid hr0
 clear hrc hr0
 generalize K.upd b4 _ = K1 at *
 go_upto_region 13 with (first
  | (with_reducible show wpList _ _ _ (⟨_, .load 70 _, _, _, _, _⟩ :: _) _ _; refine zZ h rfl 70 _ rfl rfl hb4 d3 Tryz.underlying70 rfl ?_)
  | (with_reducible show wpList _ _ _ (⟨_, .load 3 _, _, _, _, _⟩ :: _) _ _; refine zZ h rfl 3 _ rfl rfl hfb f1 Tryz.underlying3 rfl ?_))
 refine zN (Has σ M1) 11 (by kernel_rfl) (by kernel_rfl) (fun _ _ _ _ _ h => h) h.drew ?_
 clear h
 simp only [List.take_succ_cons, List.take_zero, List.drop_succ_cons, List.drop_zero]
 repeat (first
  | go_big_quiet_skip
  | (go_big_quiet_want; first
   | (refine zL 124 _ rfl rfl hb4 dx dz Tryz.underlying124 rfl (by kernel_rfl) ?_; simp only [Act.put, qD, qE, qF]; go_big_quiet_on)
   | (refine zX 42 _ rfl rfl hfb f3 Tryz.underlying42 rfl ?_; simp only [Act.put, qD, qE, qF]; go_big_quiet_on)
   | (refine zX 42 _ rfl rfl hfb f4 Tryz.underlying42 rfl ?_; simp only [Act.put, qD, qE, qF]; go_big_quiet_on)
   | (go_big_quiet_op; first | go_big_quiet_on | go_big_quiet_call (first | with_reducible exact fun _ => rfl))))
 refine wpQuiet_nil ?_
 try clear w
 intro w h
 clear hfb hb4
 go_upto_region 16 with (first
  | ((go_at_call 96; refine (CLM.out _ h).mono ?_; clear h; rintro _ w ⟨rfl, M2, lab2, h, hT2⟩)))
 obtain ⟨hfb2, hT3⟩ := hT2.frame (f.goto 3)
 have hsz : 1 < f.row.size := show 1 < 18 by omega
 have R1 := Lib.hid (rJ f 3)
 have g4 : (f.goto 3).row[4]? = some (.int .u64 (v : Nat)) := by rw [← R1.out, HR0.out, Array.getElem?_setIfInBounds_ne (by decide)]; exact f4
 have KE := hT3.base.le
 have hfb3 := hT3.obj
 rw [HR0.out] at hfb2 hsz R1
 have WT3 := Lib.hid (fun (w : World) (h : Has σ (M2.upd b (.cells (f.goto 3).row 69)) w) => WT.out _ w h)
 have BK : Hid (∀ w, Has σ (M2.upd b (.cells (f.goto 3).row 69)) w → Calls Tryz.prog 34 #[.pointer (some ⟨q, 0, none⟩), .int .i64 2, .slice (some ⟨w.heap.size, 0, none⟩) 1 1] (w.alloc (.cells #[.int .u64 (c1 : Nat)] 42)) fun r w' => r = .returned (.tuple #[]) ∧ ∃ M' lab', Has σ M' w' ∧ Mach M' lab' p (MachS.begun (MachS.top { s with mem := s.mem.cas a (v : Nat) (zI t : Nat) } t fs (f.goto 3)) t 2 [(c1 : Nat)]) ∧ Base K1 M' lab') := Lib.hid fun w h => by
  obtain ⟨M8, h8, hle8, hb8, hn8⟩ := h.box (.cells #[.int .u64 (c1 : Nat)] 42)
  exact call1_eq h8 hT3 hle8 hn8 hb8 HF.out 2
 clear hT2 hT3 HF HRC CLM WT HR0 f1 f3 f4
 generalize (f.goto 3).row = fr1 at *
 go_upto_region 17 with (first
  | (with_reducible show wpList _ _ _ (⟨_, .store 3 _ _, _, _, _, _⟩ :: _) _ _; refine zV h rfl 3 _ _ rfl rfl rfl hfb2 hsz rfl (by kernel_rfl) ?_; clear h; intro w h))
 have h9 : Has σ (M2.upd b (.cells (fr0.setIfInBounds 1 (.int .i64 3)) 69)) w := h
 rw [R1.out] at h9
 clear h
 have h := h9
 clear h9
 generalize M2.upd b (.cells fr1 69) = M3 at *
 refine wp_region_held_drew (S := Has σ (K1)) (by kernel_rfl) (h.drew.le KE) (fun hHeld => ?_)
 refine tkB 0 ?_
 try simp only [qA, qB, qC, Act.put, qD, qE, qF]
 refine tkA 1 rfl hHeld (zU rfl 38 _ rfl rfl hbK d2 Tryz.underlying38 rfl) ?_
 try simp only [qA, qB, qC, Act.put, qD, qE, qF]
 refine tkB 2 ?_
 refine tkB 3 ?_
 refine tkB 4 ?_
 refine tkB 5 ?_
 try simp only [qA, qB, qC, Act.put, qD, qE, qF]
 replace h := h.drew
 generalize w.drew = w1 at h hHeld ⊢
 clear w
 obtain ⟨w, rfl⟩ : ∃ q : World, q = w1 := ⟨_, rfl⟩
 refine op1 6 rfl fun K hK => ?_
 (refine yX rfl (zU rfl 42 _ rfl rfl hfb3 g4 Tryz.underlying42 rfl) h ?_)
 refine hK.out _ _ (hHeld) (fun hHeld => ?_)
 clear hK K
 try simp only [Act.put, qD, qE, qF]
 refine op1 7 rfl fun K hK => ?_
 (go_simp; go_wp2_with (go_at_call 101; refine (WT3.out _ h).mono ?_; clear h; rintro _ w ⟨rfl, h⟩))
 refine hK.out _ _ (h.le KE) (fun hHeld => ?_)
 clear hK K
 try simp only [Act.put, qD, qE, qF]
 refine tkB 8 ?_
 refine tkB 9 ?_
 try simp only [qA, qB, qC, Act.put, qD, qE, qF]
 refine op1 10 rfl fun K hK => ?_
 go_simp
 refine hK.out _ _ ((h.quietAlloc _).le KE) (fun hHeld => ?_)
 clear hK K
 try simp only [Act.put, qD, qE, qF]
 refine op1 11 rfl fun K hK => ?_
 (go_simp; go_wp2_with (go_at_call 34; refine (BK.out _ h).mono ?_; clear h hHeld; rintro _ w ⟨rfl, M4, lab3, h, hM3, hB3⟩))
 refine hK.out _ _ (h.le hB3.le) (fun hHeld => ?_)
 clear hK K
 try simp only [Act.put, qD, qE, qF]
 refine wpAnyH_done (by kernel_rfl) ?_ _
 clear hHeld
 go_wp2
 go_end0
 exact ⟨rfl, M4, lab3, h, hM3, fun c o hc => hB3 c o (HKK.out _ _ hc)⟩
theorem sw_3 {σ w : World} {K M : Mm} {lab : Nat → Nat} {p t q b : Nat} {s : MachS} {fs : List FrameS} {f : FrameS} (h : Has σ M w) (hT : AtTop K M lab p s t q b fs f) {i z : Nat} (h1 : f.r 1 = (i : Int)) (h3 : f.r 3 = (z : Int)) (hi : i < 9223372036854775808) (hz : z < 9223372036854775808) (hat : f.at_ = 3) {a : Int} (SP : SpotAt σ M p t 7 (i : Nat) 0 a) (hb1 : s.mem.acc < 1000000000) (hb2 : s.mem.wr < 1000000000) :
  Calls Tryz.prog 62 #[.agg (runC p t q b)] w fun r w' => r = .returned (.tuple #[]) ∧ ∃ M' lab', Has σ M' w' ∧ AtTop K M' lab' p (MachS.top { s with mem := s.mem.store a 0 } t fs (((f.reg 3 (z + 1 : Nat)).reg 1 (i + 1 : Nat)).goto 1)) t q b fs (((f.reg 3 (z + 1 : Nat)).reg 1 (i + 1 : Nat)).goto 1) := by
 have wi : IntKind.u64.wrap ((i : Int) + 1) = ((i + 1 : Nat) : Int) := by rw [show (i : Int) + 1 = ((i + 1 : Nat) : Int) by omega]; exact IntWalk.u64_in _ (by omega)
 have wz : IntKind.u64.wrap ((z : Int) + 1) = ((z + 1 : Nat) : Int) := by rw [show (z : Int) + 1 = ((z + 1 : Nat) : Int) by omega]; exact IntWalk.u64_in _ (by omega)
 obtain ⟨d0, d1, d2, d3, dx, dz⟩ := runD p t q b
 have f1 : f.row[1]? = some (.int .i64 3) := by rw [← hat]; rfl
 have f3 : f.row[3]? = some (.int .u64 (i : Nat)) := by rw [← h1]; rfl
 have f5 : f.row[5]? = some (.int .u64 (z : Nat)) := by rw [← h3]; rfl
 go_enter Tryz.func62, Tryz.ntmps62
 go_upto_region 1 with (fail)
 obtain ⟨M1, hbx, hle, hb4, hn⟩ := h.box (.cells (runC p t q b) 124)
 generalize w.alloc _ = wx at hbx ⊢
 generalize w.heap.size = b4 at hb4 hn ⊢
 clear h
 try clear w
 have h := hbx
 clear hbx
 obtain ⟨w, rfl⟩ : ∃ x : World, x = wx := ⟨_, rfl⟩
 obtain ⟨lab1, hT1⟩ := hT.more1 hle hn hb4
 have hnK : K b4 = none := by
  cases e : K b4 with
  | none => rfl
  | some o => have := (hT.base _ _ e).1; rw [hn] at this; cases this
 have hKK : K.le (K.upd b4 (.cells (runC p t q b) 124)) := Mm.le_upd' hnK _
 have hbK : (K.upd b4 (.cells (runC p t q b) 124)) b4 = some (.cells (runC p t q b) 124) := Mm.upd_same _ _ _
 have hfb := hT1.obj
 have ME := Lib.hid (fun (w : World) (h : Has σ M1 w) => yJ h hT1.mach)
 have CL := Lib.hid (fun (w : World) (h : Has σ M1 w) => vT (q := q) (b := b) h hi (SP.le hle))
 have SE := Lib.hid (fun (w : World) (h : Has σ M1 w) => xV h hT1.mach.mem hb1 hb2 a 0)
 have hT2 := hT1.store a 0
 obtain ⟨hfb2, hT3⟩ := hT2.frame (f.reg 3 (z + 1 : Nat))
 obtain ⟨hfb3, hT4⟩ := hT3.frame ((f.reg 3 (z + 1 : Nat)).reg 1 (i + 1 : Nat))
 rw [MachS.top_top, Mm.upd_upd] at hT4
 obtain ⟨hfb4, hT5⟩ := hT4.frame (((f.reg 3 (z + 1 : Nat)).reg 1 (i + 1 : Nat)).goto 1)
 rw [MachS.top_top, Mm.upd_upd] at hT5
 have HT := Lib.hid (hT5.less hKK)
 have hsz : 5 < f.row.size := show 5 < 18 by omega
 have hsz2 : 3 < (f.reg 3 (z + 1 : Nat)).row.size := show 3 < 18 by omega
 have hsz3 : 1 < ((f.reg 3 (z + 1 : Nat)).reg 1 (i + 1 : Nat)).row.size := show 1 < 18 by omega
 have R1 := Lib.hid (row_r3 f (z + 1 : Nat))
 have R2 := Lib.hid (row_r1 (f.reg 3 (z + 1 : Nat)) (i + 1 : Nat))
 have R3 := Lib.hid (rJ ((f.reg 3 (z + 1 : Nat)).reg 1 (i + 1 : Nat)) 1)
 have g3 : (f.reg 3 (z + 1 : Nat)).row[3]? = some (.int .u64 (i : Nat)) := f3
 clear hT hT1 hT2 hT3 hT4 hT5 SP hb1 hb2 hn hle hnK hKK hbK hi hz h1 h3 hat
 generalize runC p t q b = rc at *
 generalize f.row = fr0 at *
 generalize (f.reg 3 (z + 1 : Nat)).row = fr1 at *
 generalize ((f.reg 3 (z + 1 : Nat)).reg 1 (i + 1 : Nat)).row = fr2 at *
 generalize (((f.reg 3 (z + 1 : Nat)).reg 1 (i + 1 : Nat)).goto 1).row = fr3 at *
 generalize yA M1 s.mp s.mem a _ = M2 at *
 go_upto_region 3 with (first
  | (with_reducible show wpList _ _ _ (⟨_, .load 70 _, _, _, _, _⟩ :: _) _ _; refine zZ h rfl 70 _ rfl rfl hb4 d3 Tryz.underlying70 rfl ?_)
  | (with_reducible show wpList _ _ _ (⟨_, .load 3 _, _, _, _, _⟩ :: _) _ _; refine zZ h rfl 3 _ rfl rfl hfb f1 Tryz.underlying3 rfl ?_))
 refine zN (Has σ M1) 10 (by kernel_rfl) (by kernel_rfl) (fun _ _ _ _ _ h => h) h.drew ?_
 clear h
 simp only [List.take_succ_cons, List.take_zero, List.drop_succ_cons, List.drop_zero]
 repeat (first
  | go_big_quiet_skip
  | (go_big_quiet_want; first
   | (refine zX 26 _ rfl rfl hb4 d0 Tryz.underlying26 rfl ?_; simp only [Act.put, qD, qE, qF]; go_big_quiet_on)
   | (refine zL 124 _ rfl rfl hb4 dx dz Tryz.underlying124 rfl (by kernel_rfl) ?_; simp only [Act.put, qD, qE, qF]; go_big_quiet_on)
   | (refine zX 42 _ rfl rfl hfb f3 Tryz.underlying42 rfl ?_; simp only [Act.put, qD, qE, qF]; go_big_quiet_on)
   | (go_big_quiet_op; first | go_big_quiet_on | go_big_quiet_call (first | with_reducible exact fun _ => rfl | with_reducible exact ME.out _ | with_reducible exact CL.out _))))
 refine wpQuiet_nil ?_
 try clear w
 intro w h
 clear hfb hb4 ME CL
 go_upto_region 4 with (first
  | (go_at_call 97; refine (SE.out _ h).mono ?_; clear h; rintro _ w ⟨rfl, h⟩))
 refine zN (Has σ M2) 9 (by kernel_rfl) (by kernel_rfl) (fun _ _ _ _ _ h => h) h.drew ?_
 clear h
 simp only [List.take_succ_cons, List.take_zero, List.drop_succ_cons, List.drop_zero]
 repeat (first
  | go_big_quiet_skip
  | (go_big_quiet_want; first
   | (refine zX 42 _ rfl rfl hfb2 f5 Tryz.underlying42 rfl ?_; simp only [Act.put, qD, qE, qF]; go_big_quiet_on)
   | (go_big_quiet_op; first | go_big_quiet_on | go_big_quiet_call (first | with_reducible exact fun _ => rfl))))
 refine wpQuiet_nil ?_
 try clear w
 intro w h
 go_upto_region 5 with (first
  | (with_reducible show wpList _ _ _ (⟨_, .store 42 _ _, _, _, _, _⟩ :: _) _ _; refine zV h rfl 42 _ _ rfl rfl rfl hfb2 hsz rfl (by kernel_rfl) ?_; clear h; intro w h))
 have h9 : Has σ (M2.upd b (.cells (fr0.setIfInBounds 5 (.int .u64 (z + 1 : Nat))) 69)) w := h
 rw [R1.out] at h9
 clear h
 have h := h9
 clear h9
 generalize hM3 : M2.upd b (.cells fr1 69) = M3 at h hfb3
 refine zN (Has σ M3) 9 (by kernel_rfl) (by kernel_rfl) (fun _ _ _ _ _ h => h) h.drew ?_
 clear h
 simp only [List.take_succ_cons, List.take_zero, List.drop_succ_cons, List.drop_zero]
 repeat (first
  | go_big_quiet_skip
  | (go_big_quiet_want; first
   | (refine zX 42 _ rfl rfl hfb3 g3 Tryz.underlying42 rfl ?_; simp only [Act.put, qD, qE, qF]; go_big_quiet_on)
   | (go_big_quiet_op; first | go_big_quiet_on | go_big_quiet_call (first | with_reducible exact fun _ => rfl))))
 refine wpQuiet_nil ?_
 try clear w
 intro w h
 go_upto_region 6 with (first
  | (with_reducible show wpList _ _ _ (⟨_, .store 42 _ _, _, _, _, _⟩ :: _) _ _; refine zV h rfl 42 _ _ rfl rfl rfl hfb3 hsz2 rfl (by kernel_rfl) ?_; clear h; intro w h))
 have h9 : Has σ (M2.upd b (.cells (fr1.setIfInBounds 3 (.int .u64 (i + 1 : Nat))) 69)) w := by rw [← hM3, Mm.upd_upd] at h; exact h
 rw [R2.out] at h9
 clear h hM3
 have h := h9
 clear h9
 generalize hM4 : M2.upd b (.cells fr2 69) = M4 at h hfb4
 go_wp2_with (first
  | (with_reducible show wpList _ _ _ (⟨_, .store 3 _ _, _, _, _, _⟩ :: _) _ _; refine zV h rfl 3 _ _ rfl rfl rfl hfb4 hsz3 rfl (by kernel_rfl) ?_; clear h; intro w h))
 go_end0
 refine ⟨rfl, _, _, ?_, HT.out⟩
 have h9 : Has σ (M2.upd b (.cells (fr2.setIfInBounds 1 (.int .i64 1)) 69)) w := by rw [← hM4, Mm.upd_upd] at h; exact h
 rw [R3.out] at h9
 exact h9
end
section
open Go.RowKit
theorem pI : (Tryz.prog.info? 124).bind (·.zero) = some (.agg #[.pointer none, .int .i64 0, .pointer none, .pointer none]) := by kernel_rfl
theorem li_doOther {σ w : World} {K M : Mm} {lab : Nat → Nat} {p t q b : Nat} {s : MachS} {fs : List FrameS} {f : FrameS} (h : Has σ M w) (hT : AtTop K M lab p s t q b fs f) (h10 : f.fn ≠ 20) (h11 : f.fn ≠ 21) (h12 : f.fn ≠ 22) (h13 : f.fn ≠ 23) (hfs : fs.length < 1000000) {R : MachS → Prop} (hstep : ∀ (K1 M1 : Mm) (lab1 : Nat → Nat) (w1 : World), Has σ M1 w1 → AtTop K1 M1 lab1 p s t q b fs f → Calls Tryz.prog 63 #[.pointer (some ⟨p, 0, none⟩), .int .i64 (t : Nat)] w1 fun r w' => r = .returned (.tuple #[]) ∧ ∃ M' lab' s', Has σ M' w' ∧ Mach M' lab' p s' ∧ Base K1 M' lab' ∧ R s') : Calls Tryz.prog 15 #[.pointer (some ⟨p, 0, none⟩), .int .i64 (t : Nat)] w fun r w' => r = .returned (.tuple #[]) ∧ ∃ M' lab' s', Has σ M' w' ∧ Base K M' lab' ∧ Mach M' lab' p s' ∧ R s' := by
 obtain ⟨fv, hv, fbs, hTh⟩ := hT.thr
 have hlen : fbs.length = fs.length := by
  have h1 := hTh.flen
  rw [hT.fr] at h1
  simpa using h1
 have TH := Lib.hid (fun (w : World) (h : Has σ M w) => yT h hT.mach hT.tp)
 have TP := Lib.hid (fun (w : World) (h : Has σ M w) => xI h hTh (by omega))
 have hfb := hT.obj
 have f0 : f.row[0]? = some (.int .i64 f.fn) := rfl
 have HT := Lib.hid hT
 have HS := Lib.hid hstep
 have g1 : (f.fn == 20) = false := beq_eq_false_iff_ne.2 h10
 have g2 : (f.fn == 21) = false := beq_eq_false_iff_ne.2 h11
 have g3 : (f.fn == 22) = false := beq_eq_false_iff_ne.2 h12
 have g4 : (f.fn == 23) = false := beq_eq_false_iff_ne.2 h13
 clear hT hTh hlen hfs hstep h10 h11 h12 h13
 generalize f.row = fr0 at *
 generalize hfnn : f.fn = fnn at *
 clear hfnn
 go_enter Tryz.func15, Tryz.ntmps15
 go_upto_region 3 with (first
  | (go_at_call 13; refine (TH.out _ h).mono ?_; clear h; rintro _ w ⟨rfl, h⟩)
  | (go_at_call 32; refine (TP.out _ h).mono ?_; clear h; rintro _ w ⟨rfl, h⟩)
  | ((with_reducible show wpList _ _ _ (⟨_, .alloc 124, _, _, _, _⟩ :: _) _ _); refine zK h rfl 124 rfl _ pI ?_; clear h; intro bx w h hnx; try simp only [Act.put, qD, qE, qF])
  | ((with_reducible show wpList _ _ _ (⟨_, .store 124 _ _, _, _, _, _⟩ :: _) _ _); refine zP (cells := runC p t q b) h rfl 124 _ _ rfl rfl rfl (Mm.upd_same _ _ _) rfl rfl rfl (by kernel_rfl) rfl ?_; clear h; intro w h))
 rw [Mm.upd_upd] at h
 have hfb1 := Mm.upd_of (o := .cells (runC p t q b) 124) hnx hfb
 have hle := Mm.le_upd' hnx (.cells (runC p t q b) 124)
 have hbx := Mm.upd_same M bx (.cells (runC p t q b) 124)
 generalize M.upd bx _ = M1 at h hfb1 hle hbx
 obtain ⟨lab1, hT1⟩ := HT.out.more1 hle hnx hbx
 have hnK : K bx = none := by
  cases e : K bx with
  | none => rfl
  | some o => have := (HT.out.base _ _ e).1; rw [hnx] at this; cases this
 have HKK := Lib.hid (Mm.le_upd' hnK (.cells (runC p t q b) 124))
 have ST := Lib.hid (fun (w : World) (h : Has σ M1 w) => HS.out _ M1 lab1 w h hT1)
 clear hT1 hnK hnx hle TH TP
 go_wp2_with (first
  | (with_reducible show wpList _ _ _ (⟨_, .load 3 _, _, _, _, _⟩ :: _) _ _; refine zZ h rfl 3 _ rfl rfl hfb1 f0 Tryz.underlying3 rfl ?_)
  | (go_at_call 63; refine (ST.out _ h).mono ?_; clear h; rintro _ w ⟨rfl, M2, lab2, s2, h, hM2, hB2, hR2⟩))
 go_end0
 exact ⟨rfl, M2, lab2, s2, h, fun c o hc => hB2 c o (HKK.out _ _ hc), hM2, hR2⟩
end
section
open Go.RowKit
theorem ep_zrun : (Tryz.prog.info? 170).bind (·.zero) = some (.agg #[.pointer none, .int .i64 0, .pointer none, .pointer none]) := by kernel_rfl
theorem ep_doOther {σ w : World} {K M : Mm} {lab : Nat → Nat} {p t q b : Nat} {s : MachS} {fs : List FrameS} {f : FrameS} (h : Has σ M w) (hT : AtTop K M lab p s t q b fs f) (h10 : f.fn ≠ 10) (h11 : f.fn ≠ 11) (h12 : f.fn ≠ 12) (hfs : fs.length < 1000000) {R : MachS → Prop} (hstep : ∀ (K1 M1 : Mm) (lab1 : Nat → Nat) (w1 : World), Has σ M1 w1 → AtTop K1 M1 lab1 p s t q b fs f → Calls Tryz.prog 105 #[.pointer (some ⟨p, 0, none⟩), .int .i64 (t : Nat)] w1 fun r w' => r = .returned (.tuple #[]) ∧ ∃ M' lab' s', Has σ M' w' ∧ Mach M' lab' p s' ∧ Base K1 M' lab' ∧ R s') : Calls Tryz.prog 63 #[.pointer (some ⟨p, 0, none⟩), .int .i64 (t : Nat)] w fun r w' => r = .returned (.tuple #[]) ∧ ∃ M' lab' s', Has σ M' w' ∧ Base K M' lab' ∧ Mach M' lab' p s' ∧ R s' := by
 obtain ⟨fv, hv, fbs, hTh⟩ := hT.thr
 have hlen : fbs.length = fs.length := by
  have h1 := hTh.flen
  rw [hT.fr] at h1
  simpa using h1
 have TH := Lib.hid (fun (w : World) (h : Has σ M w) => yT h hT.mach hT.tp)
 have TP := Lib.hid (fun (w : World) (h : Has σ M w) => xI h hTh (by omega))
 have hfb := hT.obj
 have f0 : f.row[0]? = some (.int .i64 f.fn) := rfl
 have HT := Lib.hid hT
 have HS := Lib.hid hstep
 have g1 : (f.fn == 10) = false := beq_eq_false_iff_ne.2 h10
 have g2 : (f.fn == 11) = false := beq_eq_false_iff_ne.2 h11
 have g3 : (f.fn == 12) = false := beq_eq_false_iff_ne.2 h12
 clear hT hTh hlen hfs hstep h10 h11 h12
 generalize f.row = fr0 at *
 generalize hfnn : f.fn = fnn at *
 clear hfnn
 go_enter Tryz.func63, Tryz.ntmps63
 go_upto_region 3 with (first
  | (go_at_call 13; refine (TH.out _ h).mono ?_; clear h; rintro _ w ⟨rfl, h⟩)
  | (go_at_call 32; refine (TP.out _ h).mono ?_; clear h; rintro _ w ⟨rfl, h⟩)
  | ((with_reducible show wpList _ _ _ (⟨_, .alloc 170, _, _, _, _⟩ :: _) _ _); refine zK h rfl 170 rfl _ ep_zrun ?_; clear h; intro bx w h hnx; try simp only [Act.put, qD, qE, qF])
  | ((with_reducible show wpList _ _ _ (⟨_, .store 170 _ _, _, _, _, _⟩ :: _) _ _); refine zP (cells := runC p t q b) h rfl 170 _ _ rfl rfl rfl (Mm.upd_same _ _ _) rfl rfl rfl (by kernel_rfl) rfl ?_; clear h; intro w h))
 rw [Mm.upd_upd] at h
 have hfb1 := Mm.upd_of (o := .cells (runC p t q b) 170) hnx hfb
 have hle := Mm.le_upd' hnx (.cells (runC p t q b) 170)
 have hbx := Mm.upd_same M bx (.cells (runC p t q b) 170)
 generalize M.upd bx _ = M1 at h hfb1 hle hbx
 obtain ⟨lab1, hT1⟩ := HT.out.more1 hle hnx hbx
 have hnK : K bx = none := by
  cases e : K bx with
  | none => rfl
  | some o => have := (HT.out.base _ _ e).1; rw [hnx] at this; cases this
 have HKK := Lib.hid (Mm.le_upd' hnK (.cells (runC p t q b) 170))
 have ST := Lib.hid (fun (w : World) (h : Has σ M1 w) => HS.out _ M1 lab1 w h hT1)
 clear hT1 hnK hnx hle TH TP
 go_wp2_with (first
  | (with_reducible show wpList _ _ _ (⟨_, .load 3 _, _, _, _, _⟩ :: _) _ _; refine zZ h rfl 3 _ rfl rfl hfb1 f0 Tryz.underlying3 rfl ?_)
  | (go_at_call 105; refine (ST.out _ h).mono ?_; clear h; rintro _ w ⟨rfl, M2, lab2, s2, h, hM2, hB2, hR2⟩))
 go_end0
 exact ⟨rfl, M2, lab2, s2, h, fun c o hc => hB2 c o (HKK.out _ _ hc), hM2, hR2⟩
end
section
open Go.RowKit
theorem hand_ep {σ : World} {p t q l n : Nat} {c : Nat → Int} {tp : List Nat} {g g2 : GM} {fs : List Fr} {F : Fr} (hn : n < 100000) (ht : (t : Int) < c 1) (hq : tp[t]? = some q) (hl : zT c t = (l : Nat)) (hlc : (l : Int) < c 0) (hthr : g.thr t = fs ++ [F]) (hfs : fs.length < 100000) (h1 : F.fn ≠ 10) (h2 : F.fn ≠ 11) (h3 : F.fn ≠ 12) (D : zG 105 σ p t c tp n l g g2) : zG 63 σ p t c tp n l g g2 := by
 intro K s M lab w h hM hB hA
 obtain ⟨b, hT⟩ := hA.atTop hM hB ht hq hthr
 obtain rfl := hA.cc
 have hfs' : (fs.map Fr.enc).length < 1000000 := by rw [List.length_map]; omega
 exact (ep_doOther h hT (by show (F.fn : Int) ≠ 10; omega) (by show (F.fn : Int) ≠ 11; omega) (by show (F.fn : Int) ≠ 12; omega) hfs' (R := fun s' => Did s.c n l s s' g2) fun K1 M1 lab1 w1 h1' hT1 => D K1 s M1 lab1 w1 h1' hT1.mach hT1.base hA).mono fun r w' ⟨e, M', lab', s', a1, a2, a3, a4⟩ => ⟨e, M', lab', s', a1, a3, a2, a4⟩
theorem hand_li {σ : World} {p t q l n : Nat} {c : Nat → Int} {tp : List Nat} {g g2 : GM} {fs : List Fr} {F : Fr} (hn : n < 100000) (ht : (t : Int) < c 1) (hq : tp[t]? = some q) (hl : zT c t = (l : Nat)) (hlc : (l : Int) < c 0) (hthr : g.thr t = fs ++ [F]) (hfs : fs.length < 100000) (h1 : F.fn ≠ 20) (h2 : F.fn ≠ 21) (h3 : F.fn ≠ 22) (h4 : F.fn ≠ 23) (D : zG 63 σ p t c tp n l g g2) : zG 15 σ p t c tp n l g g2 := by
 intro K s M lab w h hM hB hA
 obtain ⟨b, hT⟩ := hA.atTop hM hB ht hq hthr
 obtain rfl := hA.cc
 have hfs' : (fs.map Fr.enc).length < 1000000 := by rw [List.length_map]; omega
 exact (li_doOther h hT (by show (F.fn : Int) ≠ 20; omega) (by show (F.fn : Int) ≠ 21; omega) (by show (F.fn : Int) ≠ 22; omega) (by show (F.fn : Int) ≠ 23; omega) hfs' (R := fun s' => Did s.c n l s s' g2) fun K1 M1 lab1 w1 h1' hT1 => D K1 s M1 lab1 w1 h1' hT1.mach hT1.base hA).mono fun r w' ⟨e, M', lab', s', a1, a2, a3, a4⟩ => ⟨e, M', lab', s', a1, a3, a2, a4⟩
theorem ThrM.call {c : Nat → Int} {thr : Nat → ThrS} {g : GM} (h : ThrM c thr g) {t : Nat} (ht : (t : Int) < c 1) (fn : Nat) (us : List Nat) : ThrM c (fun j => if j = t then (thr t).call fn (us.map fun u : Nat => (u : Int)) else thr j) (g.top t (g.thr t) ⟨fn, 0, fun i => us.getD i 0⟩) := by
 have := h.top (t := t) (fs := g.thr t) (F := ⟨fn, 0, fun i => us.getD i 0⟩)
 have e : (fun j => if j = t then { thr t with frames := (g.thr t).map Fr.enc ++ [Fr.enc ⟨fn, 0, fun i => us.getD i 0⟩] } else thr j) = fun j => if j = t then (thr t).call fn (us.map fun u : Nat => (u : Int)) else thr j := by
  funext j
  by_cases e : j = t
  ·rw [if_pos e, if_pos e]
   have er : (fun i => ((us.getD i 0 : Nat) : Int)) = fun i => (us.map fun u : Nat => (u : Int)).getD i 0 := by
    funext i
    rw [List.getD_eq_getElem?_getD, List.getD_eq_getElem?_getD, List.getElem?_map]
    cases us[i]? <;> rfl
   show ({ thr t with frames := (g.thr t).map Fr.enc ++ [⟨fn, 0, fun i => ((us.getD i 0 : Nat) : Int)⟩] } : ThrS) = { thr t with frames := (thr t).frames ++ [⟨fn, 0, fun i => (us.map fun u : Nat => (u : Int)).getD i 0⟩] }
   rw [er, h.fr t ht]
  rw [if_neg e, if_neg e]
 rw [e] at this
 exact this
end
section
open Go.RowKit
theorem sP (c : Nat → Int) : InK c 1 0 0 := ⟨by omega, by unfold yE; simp, by omega, by omega, fun _ => rfl, by unfold numK many yE; simp⟩
theorem lN (c : Nat → Int) {t : Nat} (h : t < 8) : InK c 6 (t : Nat) 0 := ⟨by omega, by unfold yE; simp, by omega, by omega, fun _ => rfl, by unfold numK many yE; simp; omega⟩
theorem uN (c : Nat → Int) : offK c 1 0 0 = 1 := by unfold offK zQ numK yE; simp
theorem mG (c : Nat → Int) (t : Nat) : offK c 6 (t : Nat) 0 = 10 + t := by unfold offK zQ numK yE; simp; omega
end
section
open Go.RowKit
theorem pG {σ w : World} {K M : Mm} {lab : Nat → Nat} {p t q b : Nat} {s : MachS} {fs : List FrameS} {f : FrameS} (h : Has σ M w) (hT : AtTop K M lab p s t q b fs f) (hfn : f.fn = 20) (hfs : fs.length < 1000000) {R : MachS → Prop} (hstep : ∀ (K1 M1 : Mm) (lab1 : Nat → Nat) (w1 : World), Has σ M1 w1 → AtTop K1 M1 lab1 p s t q b fs f → Calls Tryz.prog 59 #[.agg (runC p t q b)] w1 fun r w' => r = .returned (.tuple #[]) ∧ ∃ M' lab' s', Has σ M' w' ∧ Mach M' lab' p s' ∧ Base K1 M' lab' ∧ R s') : Calls Tryz.prog 15 #[.pointer (some ⟨p, 0, none⟩), .int .i64 (t : Nat)] w fun r w' => r = .returned (.tuple #[]) ∧ ∃ M' lab' s', Has σ M' w' ∧ Base K M' lab' ∧ Mach M' lab' p s' ∧ R s' := by
 obtain ⟨fv, hv, fbs, hTh⟩ := hT.thr
 have hlen : fbs.length = fs.length := by
  have h1 := hTh.flen
  rw [hT.fr] at h1
  simpa using h1
 have TH := Lib.hid (fun (w : World) (h : Has σ M w) => yT h hT.mach hT.tp)
 have TP := Lib.hid (fun (w : World) (h : Has σ M w) => xI h hTh (by omega))
 have hfb := hT.obj
 have f0 : f.row[0]? = some (.int .i64 f.fn) := rfl
 have HT := Lib.hid hT
 have HS := Lib.hid hstep
 rw [hfn] at f0
 clear hT hTh hlen hfs hfn hstep
 generalize f.row = fr0 at *
 go_enter Tryz.func15, Tryz.ntmps15
 go_upto_region 3 with (first
  | (go_at_call 13; refine (TH.out _ h).mono ?_; clear h; rintro _ w ⟨rfl, h⟩)
  | (go_at_call 32; refine (TP.out _ h).mono ?_; clear h; rintro _ w ⟨rfl, h⟩)
  | ((with_reducible show wpList _ _ _ (⟨_, .alloc 124, _, _, _, _⟩ :: _) _ _); refine zK h rfl 124 rfl _ pI ?_; clear h; intro bx w h hnx; try simp only [Act.put, qD, qE, qF])
  | ((with_reducible show wpList _ _ _ (⟨_, .store 124 _ _, _, _, _, _⟩ :: _) _ _); refine zP (cells := runC p t q b) h rfl 124 _ _ rfl rfl rfl (Mm.upd_same _ _ _) rfl rfl rfl (by kernel_rfl) rfl ?_; clear h; intro w h))
 rw [Mm.upd_upd] at h
 have hfb1 := Mm.upd_of (o := .cells (runC p t q b) 124) hnx hfb
 have hle := Mm.le_upd' hnx (.cells (runC p t q b) 124)
 have hbx := Mm.upd_same M bx (.cells (runC p t q b) 124)
 generalize M.upd bx _ = M1 at h hfb1 hle hbx
 obtain ⟨lab1, hT1⟩ := HT.out.more1 hle hnx hbx
 have hnK : K bx = none := by
  cases e : K bx with
  | none => rfl
  | some o => have := (HT.out.base _ _ e).1; rw [hnx] at this; cases this
 have HKK := Lib.hid (Mm.le_upd' hnK (.cells (runC p t q b) 124))
 have ST := Lib.hid (fun (w : World) (h : Has σ M1 w) => HS.out _ M1 lab1 w h hT1)
 clear hT1 hnK hnx hle TH TP
 unfold runC at ST hbx
 have dx : (#[.pointer (some ⟨p, 0, none⟩), .int .i64 (t : Nat), .pointer (some ⟨q, 0, none⟩), .pointer (some ⟨b, 0, none⟩)] : Array Value).extract 0 (0 + 4) = #[.pointer (some ⟨p, 0, none⟩), .int .i64 (t : Nat), .pointer (some ⟨q, 0, none⟩), .pointer (some ⟨b, 0, none⟩)] := rfl
 go_wp2_with (first
  | (with_reducible show wpList _ _ _ (⟨_, .load 3 _, _, _, _, _⟩ :: _) _ _; refine zZ h rfl 3 _ rfl rfl hfb1 f0 Tryz.underlying3 rfl ?_)
  | ((with_reducible show wpList _ _ _ (⟨_, .load 124 _, _, _, _, _⟩ :: _) _ _); refine zR h rfl 124 _ rfl rfl hbx dx rfl Tryz.underlying124 rfl (by kernel_rfl) ?_; try simp only [Act.put, qD, qE, qF])
  | (go_at_call 59; refine (ST.out _ h).mono ?_; clear h; rintro _ w ⟨rfl, M2, lab2, s2, h, hM2, hB2, hR2⟩))
 go_end0
 exact ⟨rfl, M2, lab2, s2, h, fun c o hc => hB2 c o (HKK.out _ _ hc), hM2, hR2⟩
theorem lb_do21 {σ w : World} {K M : Mm} {lab : Nat → Nat} {p t q b : Nat} {s : MachS} {fs : List FrameS} {f : FrameS} (h : Has σ M w) (hT : AtTop K M lab p s t q b fs f) (hfn : f.fn = 21) (hfs : fs.length < 1000000) {R : MachS → Prop} (hstep : ∀ (K1 M1 : Mm) (lab1 : Nat → Nat) (w1 : World), Has σ M1 w1 → AtTop K1 M1 lab1 p s t q b fs f → Calls Tryz.prog 60 #[.agg (runC p t q b)] w1 fun r w' => r = .returned (.tuple #[]) ∧ ∃ M' lab' s', Has σ M' w' ∧ Mach M' lab' p s' ∧ Base K1 M' lab' ∧ R s') : Calls Tryz.prog 15 #[.pointer (some ⟨p, 0, none⟩), .int .i64 (t : Nat)] w fun r w' => r = .returned (.tuple #[]) ∧ ∃ M' lab' s', Has σ M' w' ∧ Base K M' lab' ∧ Mach M' lab' p s' ∧ R s' := by
 obtain ⟨fv, hv, fbs, hTh⟩ := hT.thr
 have hlen : fbs.length = fs.length := by
  have h1 := hTh.flen
  rw [hT.fr] at h1
  simpa using h1
 have TH := Lib.hid (fun (w : World) (h : Has σ M w) => yT h hT.mach hT.tp)
 have TP := Lib.hid (fun (w : World) (h : Has σ M w) => xI h hTh (by omega))
 have hfb := hT.obj
 have f0 : f.row[0]? = some (.int .i64 f.fn) := rfl
 have HT := Lib.hid hT
 have HS := Lib.hid hstep
 rw [hfn] at f0
 clear hT hTh hlen hfs hfn hstep
 generalize f.row = fr0 at *
 go_enter Tryz.func15, Tryz.ntmps15
 go_upto_region 3 with (first
  | (go_at_call 13; refine (TH.out _ h).mono ?_; clear h; rintro _ w ⟨rfl, h⟩)
  | (go_at_call 32; refine (TP.out _ h).mono ?_; clear h; rintro _ w ⟨rfl, h⟩)
  | ((with_reducible show wpList _ _ _ (⟨_, .alloc 124, _, _, _, _⟩ :: _) _ _); refine zK h rfl 124 rfl _ pI ?_; clear h; intro bx w h hnx; try simp only [Act.put, qD, qE, qF])
  | ((with_reducible show wpList _ _ _ (⟨_, .store 124 _ _, _, _, _, _⟩ :: _) _ _); refine zP (cells := runC p t q b) h rfl 124 _ _ rfl rfl rfl (Mm.upd_same _ _ _) rfl rfl rfl (by kernel_rfl) rfl ?_; clear h; intro w h))
 rw [Mm.upd_upd] at h
 have hfb1 := Mm.upd_of (o := .cells (runC p t q b) 124) hnx hfb
 have hle := Mm.le_upd' hnx (.cells (runC p t q b) 124)
 have hbx := Mm.upd_same M bx (.cells (runC p t q b) 124)
 generalize M.upd bx _ = M1 at h hfb1 hle hbx
 obtain ⟨lab1, hT1⟩ := HT.out.more1 hle hnx hbx
 have hnK : K bx = none := by
  cases e : K bx with
  | none => rfl
  | some o => have := (HT.out.base _ _ e).1; rw [hnx] at this; cases this
 have HKK := Lib.hid (Mm.le_upd' hnK (.cells (runC p t q b) 124))
 have ST := Lib.hid (fun (w : World) (h : Has σ M1 w) => HS.out _ M1 lab1 w h hT1)
 clear hT1 hnK hnx hle TH TP
 unfold runC at ST hbx
 have dx : (#[.pointer (some ⟨p, 0, none⟩), .int .i64 (t : Nat), .pointer (some ⟨q, 0, none⟩), .pointer (some ⟨b, 0, none⟩)] : Array Value).extract 0 (0 + 4) = #[.pointer (some ⟨p, 0, none⟩), .int .i64 (t : Nat), .pointer (some ⟨q, 0, none⟩), .pointer (some ⟨b, 0, none⟩)] := rfl
 go_wp2_with (first
  | (with_reducible show wpList _ _ _ (⟨_, .load 3 _, _, _, _, _⟩ :: _) _ _; refine zZ h rfl 3 _ rfl rfl hfb1 f0 Tryz.underlying3 rfl ?_)
  | ((with_reducible show wpList _ _ _ (⟨_, .load 124 _, _, _, _, _⟩ :: _) _ _); refine zR h rfl 124 _ rfl rfl hbx dx rfl Tryz.underlying124 rfl (by kernel_rfl) ?_; try simp only [Act.put, qD, qE, qF])
  | (go_at_call 60; refine (ST.out _ h).mono ?_; clear h; rintro _ w ⟨rfl, M2, lab2, s2, h, hM2, hB2, hR2⟩))
 go_end0
 exact ⟨rfl, M2, lab2, s2, h, fun c o hc => hB2 c o (HKK.out _ _ hc), hM2, hR2⟩
theorem lb_do22 {σ w : World} {K M : Mm} {lab : Nat → Nat} {p t q b : Nat} {s : MachS} {fs : List FrameS} {f : FrameS} (h : Has σ M w) (hT : AtTop K M lab p s t q b fs f) (hfn : f.fn = 22) (hfs : fs.length < 1000000) {R : MachS → Prop} (hstep : ∀ (K1 M1 : Mm) (lab1 : Nat → Nat) (w1 : World), Has σ M1 w1 → AtTop K1 M1 lab1 p s t q b fs f → Calls Tryz.prog 61 #[.agg (runC p t q b)] w1 fun r w' => r = .returned (.tuple #[]) ∧ ∃ M' lab' s', Has σ M' w' ∧ Mach M' lab' p s' ∧ Base K1 M' lab' ∧ R s') : Calls Tryz.prog 15 #[.pointer (some ⟨p, 0, none⟩), .int .i64 (t : Nat)] w fun r w' => r = .returned (.tuple #[]) ∧ ∃ M' lab' s', Has σ M' w' ∧ Base K M' lab' ∧ Mach M' lab' p s' ∧ R s' := by
 obtain ⟨fv, hv, fbs, hTh⟩ := hT.thr
 have hlen : fbs.length = fs.length := by
  have h1 := hTh.flen
  rw [hT.fr] at h1
  simpa using h1
 have TH := Lib.hid (fun (w : World) (h : Has σ M w) => yT h hT.mach hT.tp)
 have TP := Lib.hid (fun (w : World) (h : Has σ M w) => xI h hTh (by omega))
 have hfb := hT.obj
 have f0 : f.row[0]? = some (.int .i64 f.fn) := rfl
 have HT := Lib.hid hT
 have HS := Lib.hid hstep
 rw [hfn] at f0
 clear hT hTh hlen hfs hfn hstep
 generalize f.row = fr0 at *
 go_enter Tryz.func15, Tryz.ntmps15
 go_upto_region 3 with (first
  | (go_at_call 13; refine (TH.out _ h).mono ?_; clear h; rintro _ w ⟨rfl, h⟩)
  | (go_at_call 32; refine (TP.out _ h).mono ?_; clear h; rintro _ w ⟨rfl, h⟩)
  | ((with_reducible show wpList _ _ _ (⟨_, .alloc 124, _, _, _, _⟩ :: _) _ _); refine zK h rfl 124 rfl _ pI ?_; clear h; intro bx w h hnx; try simp only [Act.put, qD, qE, qF])
  | ((with_reducible show wpList _ _ _ (⟨_, .store 124 _ _, _, _, _, _⟩ :: _) _ _); refine zP (cells := runC p t q b) h rfl 124 _ _ rfl rfl rfl (Mm.upd_same _ _ _) rfl rfl rfl (by kernel_rfl) rfl ?_; clear h; intro w h))
 rw [Mm.upd_upd] at h
 have hfb1 := Mm.upd_of (o := .cells (runC p t q b) 124) hnx hfb
 have hle := Mm.le_upd' hnx (.cells (runC p t q b) 124)
 have hbx := Mm.upd_same M bx (.cells (runC p t q b) 124)
 generalize M.upd bx _ = M1 at h hfb1 hle hbx
 obtain ⟨lab1, hT1⟩ := HT.out.more1 hle hnx hbx
 have hnK : K bx = none := by
  cases e : K bx with
  | none => rfl
  | some o => have := (HT.out.base _ _ e).1; rw [hnx] at this; cases this
 have HKK := Lib.hid (Mm.le_upd' hnK (.cells (runC p t q b) 124))
 have ST := Lib.hid (fun (w : World) (h : Has σ M1 w) => HS.out _ M1 lab1 w h hT1)
 clear hT1 hnK hnx hle TH TP
 unfold runC at ST hbx
 have dx : (#[.pointer (some ⟨p, 0, none⟩), .int .i64 (t : Nat), .pointer (some ⟨q, 0, none⟩), .pointer (some ⟨b, 0, none⟩)] : Array Value).extract 0 (0 + 4) = #[.pointer (some ⟨p, 0, none⟩), .int .i64 (t : Nat), .pointer (some ⟨q, 0, none⟩), .pointer (some ⟨b, 0, none⟩)] := rfl
 go_wp2_with (first
  | (with_reducible show wpList _ _ _ (⟨_, .load 3 _, _, _, _, _⟩ :: _) _ _; refine zZ h rfl 3 _ rfl rfl hfb1 f0 Tryz.underlying3 rfl ?_)
  | ((with_reducible show wpList _ _ _ (⟨_, .load 124 _, _, _, _, _⟩ :: _) _ _); refine zR h rfl 124 _ rfl rfl hbx dx rfl Tryz.underlying124 rfl (by kernel_rfl) ?_; try simp only [Act.put, qD, qE, qF])
  | (go_at_call 61; refine (ST.out _ h).mono ?_; clear h; rintro _ w ⟨rfl, M2, lab2, s2, h, hM2, hB2, hR2⟩))
 go_end0
 exact ⟨rfl, M2, lab2, s2, h, fun c o hc => hB2 c o (HKK.out _ _ hc), hM2, hR2⟩
theorem sI {σ w : World} {K M : Mm} {lab : Nat → Nat} {p t q b : Nat} {s : MachS} {fs : List FrameS} {f : FrameS} (h : Has σ M w) (hT : AtTop K M lab p s t q b fs f) (hfn : f.fn = 23) (hfs : fs.length < 1000000) {R : MachS → Prop} (hstep : ∀ (K1 M1 : Mm) (lab1 : Nat → Nat) (w1 : World), Has σ M1 w1 → AtTop K1 M1 lab1 p s t q b fs f → Calls Tryz.prog 62 #[.agg (runC p t q b)] w1 fun r w' => r = .returned (.tuple #[]) ∧ ∃ M' lab' s', Has σ M' w' ∧ Mach M' lab' p s' ∧ Base K1 M' lab' ∧ R s') : Calls Tryz.prog 15 #[.pointer (some ⟨p, 0, none⟩), .int .i64 (t : Nat)] w fun r w' => r = .returned (.tuple #[]) ∧ ∃ M' lab' s', Has σ M' w' ∧ Base K M' lab' ∧ Mach M' lab' p s' ∧ R s' := by
 obtain ⟨fv, hv, fbs, hTh⟩ := hT.thr
 have hlen : fbs.length = fs.length := by
  have h1 := hTh.flen
  rw [hT.fr] at h1
  simpa using h1
 have TH := Lib.hid (fun (w : World) (h : Has σ M w) => yT h hT.mach hT.tp)
 have TP := Lib.hid (fun (w : World) (h : Has σ M w) => xI h hTh (by omega))
 have hfb := hT.obj
 have f0 : f.row[0]? = some (.int .i64 f.fn) := rfl
 have HT := Lib.hid hT
 have HS := Lib.hid hstep
 rw [hfn] at f0
 clear hT hTh hlen hfs hfn hstep
 generalize f.row = fr0 at *
 go_enter Tryz.func15, Tryz.ntmps15
 go_upto_region 3 with (first
  | (go_at_call 13; refine (TH.out _ h).mono ?_; clear h; rintro _ w ⟨rfl, h⟩)
  | (go_at_call 32; refine (TP.out _ h).mono ?_; clear h; rintro _ w ⟨rfl, h⟩)
  | ((with_reducible show wpList _ _ _ (⟨_, .alloc 124, _, _, _, _⟩ :: _) _ _); refine zK h rfl 124 rfl _ pI ?_; clear h; intro bx w h hnx; try simp only [Act.put, qD, qE, qF])
  | ((with_reducible show wpList _ _ _ (⟨_, .store 124 _ _, _, _, _, _⟩ :: _) _ _); refine zP (cells := runC p t q b) h rfl 124 _ _ rfl rfl rfl (Mm.upd_same _ _ _) rfl rfl rfl (by kernel_rfl) rfl ?_; clear h; intro w h))
 rw [Mm.upd_upd] at h
 have hfb1 := Mm.upd_of (o := .cells (runC p t q b) 124) hnx hfb
 have hle := Mm.le_upd' hnx (.cells (runC p t q b) 124)
 have hbx := Mm.upd_same M bx (.cells (runC p t q b) 124)
 generalize M.upd bx _ = M1 at h hfb1 hle hbx
 obtain ⟨lab1, hT1⟩ := HT.out.more1 hle hnx hbx
 have hnK : K bx = none := by
  cases e : K bx with
  | none => rfl
  | some o => have := (HT.out.base _ _ e).1; rw [hnx] at this; cases this
 have HKK := Lib.hid (Mm.le_upd' hnK (.cells (runC p t q b) 124))
 have ST := Lib.hid (fun (w : World) (h : Has σ M1 w) => HS.out _ M1 lab1 w h hT1)
 clear hT1 hnK hnx hle TH TP
 unfold runC at ST hbx
 have dx : (#[.pointer (some ⟨p, 0, none⟩), .int .i64 (t : Nat), .pointer (some ⟨q, 0, none⟩), .pointer (some ⟨b, 0, none⟩)] : Array Value).extract 0 (0 + 4) = #[.pointer (some ⟨p, 0, none⟩), .int .i64 (t : Nat), .pointer (some ⟨q, 0, none⟩), .pointer (some ⟨b, 0, none⟩)] := rfl
 go_wp2_with (first
  | (with_reducible show wpList _ _ _ (⟨_, .load 3 _, _, _, _, _⟩ :: _) _ _; refine zZ h rfl 3 _ rfl rfl hfb1 f0 Tryz.underlying3 rfl ?_)
  | ((with_reducible show wpList _ _ _ (⟨_, .load 124 _, _, _, _, _⟩ :: _) _ _); refine zR h rfl 124 _ rfl rfl hbx dx rfl Tryz.underlying124 rfl (by kernel_rfl) ?_; try simp only [Act.put, qD, qE, qF])
  | (go_at_call 62; refine (ST.out _ h).mono ?_; clear h; rintro _ w ⟨rfl, M2, lab2, s2, h, hM2, hB2, hR2⟩))
 go_end0
 exact ⟨rfl, M2, lab2, s2, h, fun c o hc => hB2 c o (HKK.out _ _ hc), hM2, hR2⟩
theorem yU {c : Nat → Int} (h : zF c) : c 11 ≤ 60 := by
 obtain ⟨_, _, _, _, _, h6, _⟩ := id h
 omega
theorem wK {c : Nat → Int} {B i : Nat} (hB : c 11 = (B : Nat)) (hi : i < B) : InK c 7 (i : Nat) 0 := ⟨by omega, by unfold yE; simp, by omega, by omega, fun _ => rfl, by unfold numK many yE; simp; omega⟩
theorem yQ {c : Nat → Int} (i : Nat) : offK c 7 (i : Nat) 0 = 18 + i := by unfold offK zQ numK yE; simp; omega
theorem rs_past {σ : World} {p t q l n B : Nat} {c : Nat → Int} {tp : List Nat} {g : GM} {fs : List Fr} {F : Fr} (hn : n < 100000) (ht : (t : Int) < c 1) (hq : tp[t]? = some q) (hl : zT c t = (l : Nat)) (hlc : (l : Int) < c 0) (hthr : g.thr t = fs ++ [F]) (hfs : fs.length < 100000) (hB' : c 11 = (B : Nat)) (h1 : F.fn = 20) (hr : F.r 0 < 1000000) (hx : B ≤ F.r 0) : zG 15 σ p t c tp n l g (g.back t fs [0]) := by
 intro K s M lab w h hM hB hA
 obtain ⟨b, hT⟩ := hA.atTop hM hB ht hq hthr
 obtain rfl := hA.cc
 have hmay := hA.may
 have b1 : (s.tick l).mem.acc < 1000000000 := by show s.mem.acc < _; have := hA.acc; omega
 have b2 : (s.tick l).mem.wr < 1000000000 := by show s.mem.wr < _; have := hA.wr; omega
 have hl' : zT (s.tick l).c (t : Nat) = (l : Nat) := hl
 have hlc' : (l : Int) < (s.tick l).c 0 := hlc
 have hfs' : (fs.map Fr.enc).length < 900000 := by rw [List.length_map]; omega
 have gl : s.given.length ≤ n + 1 := Nat.le_succ_of_le hA.given
 have bk : (s.thr t).frames.dropLast = fs.map Fr.enc ∧ (s.thr t).st = (s.thr t).st ∧ (s.thr t).ki = (s.thr t).ki := ⟨by rw [hA.thr.fr t ht, hthr]; simp, rfl, rfl⟩
 have t63 : t < 9223372036854775808 := by have := hmay.2.1; omega
 have B256 : B ≤ 256 := by have h1 := (yU hmay); omega
 refine (pG h hT (by show (F.fn : Int) = 20; omega) (by omega) (R := fun s' => Did s.c n l s s' (g.back t fs [0])) fun K1 M1 lab1 w1 h1' hT1 => ?_).mono fun r w' ⟨e, M', lab', s', a1, a2, a3, a4⟩ => ⟨e, M', lab', s', a1, a3, a2, a4⟩
 refine (rsv_past h1' hT1 (by omega) (i := F.r 0) rfl (by omega) hB' hx).mono (fun r w' ⟨e, M', lab', h', hM', hB'⟩ => ⟨e, M', lab', _, h', hM', hB', ?_⟩)
 exact Did.none hA ⟨rfl, rfl, rfl, rfl, rfl⟩ rfl hA.words (hA.ward.mono (Nat.le_succ _)) (hA.thr.back (t := t) (fs := fs) (us := [0]) (x := s.thr t) bk) gl
theorem rs_0z {σ : World} {p t q l n B : Nat} {c : Nat → Int} {tp : List Nat} {g : GM} {fs : List Fr} {F : Fr} (hn : n < 100000) (ht : (t : Int) < c 1) (hq : tp[t]? = some q) (hl : zT c t = (l : Nat)) (hlc : (l : Int) < c 0) (hthr : g.thr t = fs ++ [F]) (hfs : fs.length < 100000) (hB' : c 11 = (B : Nat)) (h1 : F.fn = 20) (hp : F.pc = 0) (hx : F.r 0 < B) (hz : g.w l (18 + F.r 0) = 0) : zG 15 σ p t c tp n l g (g.top t fs (F.goto 1)) := by
 intro K s M lab w h hM hB hA
 obtain ⟨b, hT⟩ := hA.atTop hM hB ht hq hthr
 obtain rfl := hA.cc
 have hmay := hA.may
 have b1 : (s.tick l).mem.acc < 1000000000 := by show s.mem.acc < _; have := hA.acc; omega
 have b2 : (s.tick l).mem.wr < 1000000000 := by show s.mem.wr < _; have := hA.wr; omega
 have hl' : zT (s.tick l).c (t : Nat) = (l : Nat) := hl
 have hlc' : (l : Int) < (s.tick l).c 0 := hlc
 have hfs' : (fs.map Fr.enc).length < 900000 := by rw [List.length_map]; omega
 have gl : s.given.length ≤ n + 1 := Nat.le_succ_of_le hA.given
 have bk : (s.thr t).frames.dropLast = fs.map Fr.enc ∧ (s.thr t).st = (s.thr t).st ∧ (s.thr t).ki = (s.thr t).ki := ⟨by rw [hA.thr.fr t ht, hthr]; simp, rfl, rfl⟩
 have t63 : t < 9223372036854775808 := by have := hmay.2.1; omega
 have B256 : B ≤ 256 := by have h1 := (yU hmay); omega
 have hk := wK (c := s.c) (i := F.r 0) hB' (by omega)
 have hit := yS hmay hA.memN hlc hk
 have hv : s.mem.load (atK s.c (l : Nat) 7 (F.r 0 : Nat) 0) = (g.w l (18 + F.r 0) : Int) := yL hit (by rw [hA.words.at hmay hlc hk, yQ])
 have hf0 : s.mem.f (atK s.c (l : Nat) 7 (F.r 0 : Nat) 0).toNat = (g.w l (18 + F.r 0) : Int) := by rw [hA.words.at hmay hlc hk, yQ]
 rw [hz] at hv
 refine (pG h hT (by show (F.fn : Int) = 20; omega) (by omega) (R := fun s' => Did s.c n l s s' (g.top t fs (F.goto 1))) fun K1 M1 lab1 w1 h1' hT1 => ?_).mono fun r w' ⟨e, M', lab', s', a1, a2, a3, a4⟩ => ⟨e, M', lab', s', a1, a3, a2, a4⟩
 refine (rsv_0z h1' hT1 (i := F.r 0) rfl (by omega) hB' hx (by show (F.pc : Int) = 0; omega) (zD hT1.mach hl' hlc' hk) b1 hv).mono (fun r w' ⟨e, M', lab', h', hT'⟩ => ⟨e, M', lab', _, h', hT'.mach, hT'.base, ?_⟩)
 exact Did.one hA hk (Nat.zero_le _) ⟨rfl, rfl, rfl, rfl, rfl⟩ (vH hit) hA.words (hA.ward.mono (Nat.le_succ _)) (hA.thr.top (t := t) (fs := fs) (F := F.goto 1)) gl
theorem rs_0n {σ : World} {p t q l n B : Nat} {c : Nat → Int} {tp : List Nat} {g : GM} {fs : List Fr} {F : Fr} (hn : n < 100000) (ht : (t : Int) < c 1) (hq : tp[t]? = some q) (hl : zT c t = (l : Nat)) (hlc : (l : Int) < c 0) (hthr : g.thr t = fs ++ [F]) (hfs : fs.length < 100000) (hB' : c 11 = (B : Nat)) (h1 : F.fn = 20) (hp : F.pc = 0) (hx : F.r 0 < B) (hz : g.w l (18 + F.r 0) ≠ 0) : zG 15 σ p t c tp n l g (g.top t fs (F.reg 0 (F.r 0 + 1))) := by
 intro K s M lab w h hM hB hA
 obtain ⟨b, hT⟩ := hA.atTop hM hB ht hq hthr
 obtain rfl := hA.cc
 have hmay := hA.may
 have b1 : (s.tick l).mem.acc < 1000000000 := by show s.mem.acc < _; have := hA.acc; omega
 have b2 : (s.tick l).mem.wr < 1000000000 := by show s.mem.wr < _; have := hA.wr; omega
 have hl' : zT (s.tick l).c (t : Nat) = (l : Nat) := hl
 have hlc' : (l : Int) < (s.tick l).c 0 := hlc
 have hfs' : (fs.map Fr.enc).length < 900000 := by rw [List.length_map]; omega
 have gl : s.given.length ≤ n + 1 := Nat.le_succ_of_le hA.given
 have bk : (s.thr t).frames.dropLast = fs.map Fr.enc ∧ (s.thr t).st = (s.thr t).st ∧ (s.thr t).ki = (s.thr t).ki := ⟨by rw [hA.thr.fr t ht, hthr]; simp, rfl, rfl⟩
 have t63 : t < 9223372036854775808 := by have := hmay.2.1; omega
 have B256 : B ≤ 256 := by have h1 := (yU hmay); omega
 have hk := wK (c := s.c) (i := F.r 0) hB' (by omega)
 have hit := yS hmay hA.memN hlc hk
 have hv : s.mem.load (atK s.c (l : Nat) 7 (F.r 0 : Nat) 0) = (g.w l (18 + F.r 0) : Int) := yL hit (by rw [hA.words.at hmay hlc hk, yQ])
 have hf0 : s.mem.f (atK s.c (l : Nat) 7 (F.r 0 : Nat) 0).toNat = (g.w l (18 + F.r 0) : Int) := by rw [hA.words.at hmay hlc hk, yQ]
 refine (pG h hT (by show (F.fn : Int) = 20; omega) (by omega) (R := fun s' => Did s.c n l s s' (g.top t fs (F.reg 0 (F.r 0 + 1)))) fun K1 M1 lab1 w1 h1' hT1 => ?_).mono fun r w' ⟨e, M', lab', s', a1, a2, a3, a4⟩ => ⟨e, M', lab', s', a1, a3, a2, a4⟩
 refine (rsv_0n h1' hT1 (i := F.r 0) rfl (by omega) hB' hx (by show (F.pc : Int) = 0; omega) (zD hT1.mach hl' hlc' hk) b1 (by have hv2 : s.mem.load (atK s.c (l : Nat) 7 (F.r 0 : Nat) 0) ≠ 0 := by { rw [hv]; omega }; exact hv2)).mono (fun r w' ⟨e, M', lab', h', hT'⟩ => ⟨e, M', lab', _, h', hT'.mach, hT'.base, ?_⟩)
 refine Did.one hA hk (Nat.zero_le _) ⟨rfl, rfl, rfl, rfl, rfl⟩ (vH hit) hA.words (hA.ward.mono (Nat.le_succ _)) ?_ gl
 have := hA.thr.top (t := t) (fs := fs) (F := F.reg 0 (F.r 0 + 1))
 rw [← wJ] at this
 exact this
theorem rs_1y {σ : World} {p t q l n B : Nat} {c : Nat → Int} {tp : List Nat} {g : GM} {fs : List Fr} {F : Fr} (hn : n < 100000) (ht : (t : Int) < c 1) (hq : tp[t]? = some q) (hl : zT c t = (l : Nat)) (hlc : (l : Int) < c 0) (hthr : g.thr t = fs ++ [F]) (hfs : fs.length < 100000) (hB' : c 11 = (B : Nat)) (h1 : F.fn = 20) (hp : F.pc = 1) (hx : F.r 0 < B) (hz : g.w l (18 + F.r 0) = 0) : zG 15 σ p t c tp n l g ((g.set l (18 + F.r 0) (zI t)).back t fs [1, F.r 0]) := by
 intro K s M lab w h hM hB hA
 obtain ⟨b, hT⟩ := hA.atTop hM hB ht hq hthr
 obtain rfl := hA.cc
 have hmay := hA.may
 have b1 : (s.tick l).mem.acc < 1000000000 := by show s.mem.acc < _; have := hA.acc; omega
 have b2 : (s.tick l).mem.wr < 1000000000 := by show s.mem.wr < _; have := hA.wr; omega
 have hl' : zT (s.tick l).c (t : Nat) = (l : Nat) := hl
 have hlc' : (l : Int) < (s.tick l).c 0 := hlc
 have hfs' : (fs.map Fr.enc).length < 900000 := by rw [List.length_map]; omega
 have gl : s.given.length ≤ n + 1 := Nat.le_succ_of_le hA.given
 have bk : (s.thr t).frames.dropLast = fs.map Fr.enc ∧ (s.thr t).st = (s.thr t).st ∧ (s.thr t).ki = (s.thr t).ki := ⟨by rw [hA.thr.fr t ht, hthr]; simp, rfl, rfl⟩
 have t63 : t < 9223372036854775808 := by have := hmay.2.1; omega
 have B256 : B ≤ 256 := by have h1 := (yU hmay); omega
 have hk := wK (c := s.c) (i := F.r 0) hB' (by omega)
 have hit := yS hmay hA.memN hlc hk
 have hv : s.mem.load (atK s.c (l : Nat) 7 (F.r 0 : Nat) 0) = (g.w l (18 + F.r 0) : Int) := yL hit (by rw [hA.words.at hmay hlc hk, yQ])
 have hf0 : s.mem.f (atK s.c (l : Nat) 7 (F.r 0 : Nat) 0).toNat = (g.w l (18 + F.r 0) : Int) := by rw [hA.words.at hmay hlc hk, yQ]
 have hsw : (s.tick l).mem.swaps (atK (s.tick l).c (l : Nat) 7 (F.r 0 : Nat) 0) (0 : Nat) = true := by show s.mem.swaps _ _ = true; unfold MemS.swaps; rw [show (s.tick l).c = s.c from rfl, hit, hf0, hz]; simp
 refine (pG h hT (by show (F.fn : Int) = 20; omega) (by omega) (R := fun s' => Did s.c n l s s' ((g.set l (18 + F.r 0) (zI t)).back t fs [1, F.r 0])) fun K1 M1 lab1 w1 h1' hT1 => ?_).mono fun r w' ⟨e, M', lab', s', a1, a2, a3, a4⟩ => ⟨e, M', lab', s', a1, a3, a2, a4⟩
 refine (rsv_1y h1' hT1 (by omega) (i := F.r 0) rfl (by omega) hB' hx t63 (by show (F.pc : Int) = 1; omega) (zD hT1.mach hl' hlc' hk) b1 b2 hsw).mono (fun r w' ⟨e, M', lab', h', hM', hB'⟩ => ⟨e, M', lab', _, h', hM', hB', ?_⟩)
 refine Did.one hA hk (Nat.le_refl _) ⟨rfl, rfl, rfl, rfl, rfl⟩ (qY hit hsw) ?_ (hA.ward.mono (Nat.le_succ _)) ((hA.thr.set l _ _).back (t := t) (fs := fs) (us := [1, F.r 0]) (x := s.thr t) bk) gl
 have := hA.words.set hmay (l := l) hk (zI t)
 rw [yQ] at this
 exact this
theorem rs_1n {σ : World} {p t q l n B : Nat} {c : Nat → Int} {tp : List Nat} {g : GM} {fs : List Fr} {F : Fr} (hn : n < 100000) (ht : (t : Int) < c 1) (hq : tp[t]? = some q) (hl : zT c t = (l : Nat)) (hlc : (l : Int) < c 0) (hthr : g.thr t = fs ++ [F]) (hfs : fs.length < 100000) (hB' : c 11 = (B : Nat)) (h1 : F.fn = 20) (hp : F.pc = 1) (hx : F.r 0 < B) (hz : g.w l (18 + F.r 0) ≠ 0) : zG 15 σ p t c tp n l g (g.top t fs ((F.reg 0 (F.r 0 + 1)).goto 0)) := by
 intro K s M lab w h hM hB hA
 obtain ⟨b, hT⟩ := hA.atTop hM hB ht hq hthr
 obtain rfl := hA.cc
 have hmay := hA.may
 have b1 : (s.tick l).mem.acc < 1000000000 := by show s.mem.acc < _; have := hA.acc; omega
 have b2 : (s.tick l).mem.wr < 1000000000 := by show s.mem.wr < _; have := hA.wr; omega
 have hl' : zT (s.tick l).c (t : Nat) = (l : Nat) := hl
 have hlc' : (l : Int) < (s.tick l).c 0 := hlc
 have hfs' : (fs.map Fr.enc).length < 900000 := by rw [List.length_map]; omega
 have gl : s.given.length ≤ n + 1 := Nat.le_succ_of_le hA.given
 have bk : (s.thr t).frames.dropLast = fs.map Fr.enc ∧ (s.thr t).st = (s.thr t).st ∧ (s.thr t).ki = (s.thr t).ki := ⟨by rw [hA.thr.fr t ht, hthr]; simp, rfl, rfl⟩
 have t63 : t < 9223372036854775808 := by have := hmay.2.1; omega
 have B256 : B ≤ 256 := by have h1 := (yU hmay); omega
 have hk := wK (c := s.c) (i := F.r 0) hB' (by omega)
 have hit := yS hmay hA.memN hlc hk
 have hv : s.mem.load (atK s.c (l : Nat) 7 (F.r 0 : Nat) 0) = (g.w l (18 + F.r 0) : Int) := yL hit (by rw [hA.words.at hmay hlc hk, yQ])
 have hf0 : s.mem.f (atK s.c (l : Nat) 7 (F.r 0 : Nat) 0).toNat = (g.w l (18 + F.r 0) : Int) := by rw [hA.words.at hmay hlc hk, yQ]
 have hsw : (s.tick l).mem.swaps (atK (s.tick l).c (l : Nat) 7 (F.r 0 : Nat) 0) (0 : Nat) = false := by show s.mem.swaps _ _ = false; unfold MemS.swaps; rw [show (s.tick l).c = s.c from rfl, hit, hf0]; simp; omega
 refine (pG h hT (by show (F.fn : Int) = 20; omega) (by omega) (R := fun s' => Did s.c n l s s' (g.top t fs ((F.reg 0 (F.r 0 + 1)).goto 0))) fun K1 M1 lab1 w1 h1' hT1 => ?_).mono fun r w' ⟨e, M', lab', s', a1, a2, a3, a4⟩ => ⟨e, M', lab', s', a1, a3, a2, a4⟩
 refine (rsv_1n h1' hT1 (by omega) (i := F.r 0) rfl (by omega) hB' hx t63 (by show (F.pc : Int) = 1; omega) (zD hT1.mach hl' hlc' hk) b1 b2 hsw).mono (fun r w' ⟨e, M', lab', h', hT'⟩ => ⟨e, M', lab', _, h', hT'.mach, hT'.base, ?_⟩)
 refine Did.one hA hk (Nat.zero_le _) ⟨rfl, rfl, rfl, rfl, rfl⟩ (oP hit hsw) hA.words (hA.ward.mono (Nat.le_succ _)) ?_ gl
 have := hA.thr.top (t := t) (fs := fs) (F := (F.reg 0 (F.r 0 + 1)).goto 0)
 rw [← wC, ← wJ] at this
 exact this
theorem rl_0 {σ : World} {p t q l n B : Nat} {c : Nat → Int} {tp : List Nat} {g : GM} {fs : List Fr} {F : Fr} (hn : n < 100000) (ht : (t : Int) < c 1) (hq : tp[t]? = some q) (hl : zT c t = (l : Nat)) (hlc : (l : Int) < c 0) (hthr : g.thr t = fs ++ [F]) (hfs : fs.length < 100000) (hB' : c 11 = (B : Nat)) (h1 : F.fn = 21) (hx : F.r 0 < B) : zG 15 σ p t c tp n l g ((g.set l (18 + F.r 0) 0).back t fs []) := by
 intro K s M lab w h hM hB hA
 obtain ⟨b, hT⟩ := hA.atTop hM hB ht hq hthr
 obtain rfl := hA.cc
 have hmay := hA.may
 have b1 : (s.tick l).mem.acc < 1000000000 := by show s.mem.acc < _; have := hA.acc; omega
 have b2 : (s.tick l).mem.wr < 1000000000 := by show s.mem.wr < _; have := hA.wr; omega
 have hl' : zT (s.tick l).c (t : Nat) = (l : Nat) := hl
 have hlc' : (l : Int) < (s.tick l).c 0 := hlc
 have hfs' : (fs.map Fr.enc).length < 900000 := by rw [List.length_map]; omega
 have gl : s.given.length ≤ n + 1 := Nat.le_succ_of_le hA.given
 have bk : (s.thr t).frames.dropLast = fs.map Fr.enc ∧ (s.thr t).st = (s.thr t).st ∧ (s.thr t).ki = (s.thr t).ki := ⟨by rw [hA.thr.fr t ht, hthr]; simp, rfl, rfl⟩
 have t63 : t < 9223372036854775808 := by have := hmay.2.1; omega
 have B256 : B ≤ 256 := by have h1 := (yU hmay); omega
 have hk := wK (c := s.c) (i := F.r 0) hB' (by omega)
 have hit := yS hmay hA.memN hlc hk
 have hv : s.mem.load (atK s.c (l : Nat) 7 (F.r 0 : Nat) 0) = (g.w l (18 + F.r 0) : Int) := yL hit (by rw [hA.words.at hmay hlc hk, yQ])
 have hf0 : s.mem.f (atK s.c (l : Nat) 7 (F.r 0 : Nat) 0).toNat = (g.w l (18 + F.r 0) : Int) := by rw [hA.words.at hmay hlc hk, yQ]
 refine (lb_do21 h hT (by show (F.fn : Int) = 21; omega) (by omega) (R := fun s' => Did s.c n l s s' ((g.set l (18 + F.r 0) 0).back t fs [])) fun K1 M1 lab1 w1 h1' hT1 => ?_).mono fun r w' ⟨e, M', lab', s', a1, a2, a3, a4⟩ => ⟨e, M', lab', s', a1, a3, a2, a4⟩
 refine (rel_0 h1' hT1 (by omega) (i := F.r 0) rfl (by omega) (zD hT1.mach hl' hlc' hk) b1 b2).mono (fun r w' ⟨e, M', lab', h', hM', hB'⟩ => ⟨e, M', lab', _, h', hM', hB', ?_⟩)
 refine Did.one hA hk (Nat.le_refl _) ⟨rfl, rfl, rfl, rfl, rfl⟩ (xC hit) ?_ (hA.ward.mono (Nat.le_succ _)) ((hA.thr.set l _ _).back (t := t) (fs := fs) (us := []) (x := s.thr t) bk) gl
 have := hA.words.set hmay (l := l) hk (0)
 rw [yQ] at this
 exact this
theorem fl_0 {σ : World} {p t q l n B : Nat} {c : Nat → Int} {tp : List Nat} {g : GM} {fs : List Fr} {F : Fr} (hn : n < 100000) (ht : (t : Int) < c 1) (hq : tp[t]? = some q) (hl : zT c t = (l : Nat)) (hlc : (l : Int) < c 0) (hthr : g.thr t = fs ++ [F]) (hfs : fs.length < 100000) (hB' : c 11 = (B : Nat)) (h1 : F.fn = 22) (hp : F.pc = 0) : zG 15 σ p t c tp n l g (g.top t fs ((F.reg 3 (g.w l 1)).goto 1)) := by
 intro K s M lab w h hM hB hA
 obtain ⟨b, hT⟩ := hA.atTop hM hB ht hq hthr
 obtain rfl := hA.cc
 have hmay := hA.may
 have b1 : (s.tick l).mem.acc < 1000000000 := by show s.mem.acc < _; have := hA.acc; omega
 have b2 : (s.tick l).mem.wr < 1000000000 := by show s.mem.wr < _; have := hA.wr; omega
 have hl' : zT (s.tick l).c (t : Nat) = (l : Nat) := hl
 have hlc' : (l : Int) < (s.tick l).c 0 := hlc
 have hfs' : (fs.map Fr.enc).length < 900000 := by rw [List.length_map]; omega
 have gl : s.given.length ≤ n + 1 := Nat.le_succ_of_le hA.given
 have bk : (s.thr t).frames.dropLast = fs.map Fr.enc ∧ (s.thr t).st = (s.thr t).st ∧ (s.thr t).ki = (s.thr t).ki := ⟨by rw [hA.thr.fr t ht, hthr]; simp, rfl, rfl⟩
 have t63 : t < 9223372036854775808 := by have := hmay.2.1; omega
 have B256 : B ≤ 256 := by have h1 := (yU hmay); omega
 have hk := sP s.c
 have hit := yS hmay hA.memN hlc hk
 have hv : s.mem.load (atK s.c (l : Nat) 1 0 0) = (g.w l 1 : Int) := yL hit (by rw [hA.words.at hmay hlc hk, uN])
 refine (lb_do22 h hT (by show (F.fn : Int) = 22; omega) (by omega) (R := fun s' => Did s.c n l s s' (g.top t fs ((F.reg 3 (g.w l 1)).goto 1))) fun K1 M1 lab1 w1 h1' hT1 => ?_).mono fun r w' ⟨e, M', lab', s', a1, a2, a3, a4⟩ => ⟨e, M', lab', s', a1, a3, a2, a4⟩
 refine (fill_0 h1' hT1 (by show (F.pc : Int) = 0; omega) (zD hT1.mach hl' hlc' hk) b1).mono (fun r w' ⟨e, M', lab', h', hT'⟩ => ⟨e, M', lab', _, h', hT'.mach, hT'.base, ?_⟩)
 refine Did.one hA hk (Nat.zero_le _) ⟨rfl, rfl, rfl, rfl, rfl⟩ (vH hit) hA.words (hA.ward.mono (Nat.le_succ _)) ?_ gl
 have := hA.thr.top (t := t) (fs := fs) (F := (F.reg 3 (g.w l 1)).goto 1)
 rw [← wC, ← wJ, ← hv] at this
 exact this
theorem fl_1 {σ : World} {p t q l n B : Nat} {c : Nat → Int} {tp : List Nat} {g : GM} {fs : List Fr} {F : Fr} (hn : n < 100000) (ht : (t : Int) < c 1) (hq : tp[t]? = some q) (hl : zT c t = (l : Nat)) (hlc : (l : Int) < c 0) (hthr : g.thr t = fs ++ [F]) (hfs : fs.length < 100000) (hB' : c 11 = (B : Nat)) (h1 : F.fn = 22) (hp : F.pc = 1) (hx : F.r 0 < B) (r1 : F.r 1 < 9223372036854775808) (r2 : F.r 2 < 9223372036854775808) (r3 : F.r 3 < 18446744073709551616) : zG 15 σ p t c tp n l g ((g.set l (18 + F.r 0) (xY (F.r 1) (F.r 2) (F.r 3))).back t fs []) := by
 intro K s M lab w h hM hB hA
 obtain ⟨b, hT⟩ := hA.atTop hM hB ht hq hthr
 obtain rfl := hA.cc
 have hmay := hA.may
 have b1 : (s.tick l).mem.acc < 1000000000 := by show s.mem.acc < _; have := hA.acc; omega
 have b2 : (s.tick l).mem.wr < 1000000000 := by show s.mem.wr < _; have := hA.wr; omega
 have hl' : zT (s.tick l).c (t : Nat) = (l : Nat) := hl
 have hlc' : (l : Int) < (s.tick l).c 0 := hlc
 have hfs' : (fs.map Fr.enc).length < 900000 := by rw [List.length_map]; omega
 have gl : s.given.length ≤ n + 1 := Nat.le_succ_of_le hA.given
 have bk : (s.thr t).frames.dropLast = fs.map Fr.enc ∧ (s.thr t).st = (s.thr t).st ∧ (s.thr t).ki = (s.thr t).ki := ⟨by rw [hA.thr.fr t ht, hthr]; simp, rfl, rfl⟩
 have t63 : t < 9223372036854775808 := by have := hmay.2.1; omega
 have B256 : B ≤ 256 := by have h1 := (yU hmay); omega
 have hk := wK (c := s.c) (i := F.r 0) hB' (by omega)
 have hit := yS hmay hA.memN hlc hk
 have hv : s.mem.load (atK s.c (l : Nat) 7 (F.r 0 : Nat) 0) = (g.w l (18 + F.r 0) : Int) := yL hit (by rw [hA.words.at hmay hlc hk, yQ])
 have hf0 : s.mem.f (atK s.c (l : Nat) 7 (F.r 0 : Nat) 0).toNat = (g.w l (18 + F.r 0) : Int) := by rw [hA.words.at hmay hlc hk, yQ]
 refine (lb_do22 h hT (by show (F.fn : Int) = 22; omega) (by omega) (R := fun s' => Did s.c n l s s' ((g.set l (18 + F.r 0) (xY (F.r 1) (F.r 2) (F.r 3))).back t fs [])) fun K1 M1 lab1 w1 h1' hT1 => ?_).mono fun r w' ⟨e, M', lab', s', a1, a2, a3, a4⟩ => ⟨e, M', lab', s', a1, a3, a2, a4⟩
 refine (fill_1 h1' hT1 (by omega) (by show (F.pc : Int) = 1; omega) (i := F.r 0) (sl := F.r 1) (gn := F.r 2) (lb := F.r 3) rfl rfl rfl rfl (by omega) r1 r2 r3 (zD hT1.mach hl' hlc' hk) b1 b2).mono (fun r w' ⟨e, M', lab', h', hM', hB'⟩ => ⟨e, M', lab', _, h', hM', hB', ?_⟩)
 refine Did.one hA hk (Nat.le_refl _) ⟨rfl, rfl, rfl, rfl, rfl⟩ (xC hit) ?_ (hA.ward.mono (Nat.le_succ _)) ((hA.thr.set l _ _).back (t := t) (fs := fs) (us := []) (x := s.thr t) bk) gl
 have := hA.words.set hmay (l := l) hk (xY (F.r 1) (F.r 2) (F.r 3))
 rw [yQ] at this
 exact this
theorem sp_0 {σ : World} {p t q l n B : Nat} {c : Nat → Int} {tp : List Nat} {g : GM} {fs : List Fr} {F : Fr} (hn : n < 100000) (ht : (t : Int) < c 1) (hq : tp[t]? = some q) (hl : zT c t = (l : Nat)) (hlc : (l : Int) < c 0) (hthr : g.thr t = fs ++ [F]) (hfs : fs.length < 100000) (hB' : c 11 = (B : Nat)) (h1 : F.fn = 23) (hp : F.pc = 0) : zG 15 σ p t c tp n l g (g.top t fs ((F.reg 0 (g.w l 1)).goto 1)) := by
 intro K s M lab w h hM hB hA
 obtain ⟨b, hT⟩ := hA.atTop hM hB ht hq hthr
 obtain rfl := hA.cc
 have hmay := hA.may
 have b1 : (s.tick l).mem.acc < 1000000000 := by show s.mem.acc < _; have := hA.acc; omega
 have b2 : (s.tick l).mem.wr < 1000000000 := by show s.mem.wr < _; have := hA.wr; omega
 have hl' : zT (s.tick l).c (t : Nat) = (l : Nat) := hl
 have hlc' : (l : Int) < (s.tick l).c 0 := hlc
 have hfs' : (fs.map Fr.enc).length < 900000 := by rw [List.length_map]; omega
 have gl : s.given.length ≤ n + 1 := Nat.le_succ_of_le hA.given
 have bk : (s.thr t).frames.dropLast = fs.map Fr.enc ∧ (s.thr t).st = (s.thr t).st ∧ (s.thr t).ki = (s.thr t).ki := ⟨by rw [hA.thr.fr t ht, hthr]; simp, rfl, rfl⟩
 have t63 : t < 9223372036854775808 := by have := hmay.2.1; omega
 have B256 : B ≤ 256 := by have h1 := (yU hmay); omega
 have hk := sP s.c
 have hit := yS hmay hA.memN hlc hk
 have hv : s.mem.load (atK s.c (l : Nat) 1 0 0) = (g.w l 1 : Int) := yL hit (by rw [hA.words.at hmay hlc hk, uN])
 refine (sI h hT (by show (F.fn : Int) = 23; omega) (by omega) (R := fun s' => Did s.c n l s s' (g.top t fs ((F.reg 0 (g.w l 1)).goto 1))) fun K1 M1 lab1 w1 h1' hT1 => ?_).mono fun r w' ⟨e, M', lab', s', a1, a2, a3, a4⟩ => ⟨e, M', lab', s', a1, a3, a2, a4⟩
 refine (sw_0 h1' hT1 (by show (F.pc : Int) = 0; omega) (zD hT1.mach hl' hlc' hk) b1).mono (fun r w' ⟨e, M', lab', h', hT'⟩ => ⟨e, M', lab', _, h', hT'.mach, hT'.base, ?_⟩)
 refine Did.one hA hk (Nat.zero_le _) ⟨rfl, rfl, rfl, rfl, rfl⟩ (vH hit) hA.words (hA.ward.mono (Nat.le_succ _)) ?_ gl
 have := hA.thr.top (t := t) (fs := fs) (F := (F.reg 0 (g.w l 1)).goto 1)
 rw [← wC, ← wJ, ← hv] at this
 exact this
theorem sp_past {σ : World} {p t q l n B : Nat} {c : Nat → Int} {tp : List Nat} {g : GM} {fs : List Fr} {F : Fr} (hn : n < 100000) (ht : (t : Int) < c 1) (hq : tp[t]? = some q) (hl : zT c t = (l : Nat)) (hlc : (l : Int) < c 0) (hthr : g.thr t = fs ++ [F]) (hfs : fs.length < 100000) (hB' : c 11 = (B : Nat)) (h1 : F.fn = 23) (hp : F.pc = 1) (hr : F.r 1 < 1000000) (hx : B ≤ F.r 1) : zG 15 σ p t c tp n l g (g.back t fs [F.r 3]) := by
 intro K s M lab w h hM hB hA
 obtain ⟨b, hT⟩ := hA.atTop hM hB ht hq hthr
 obtain rfl := hA.cc
 have hmay := hA.may
 have b1 : (s.tick l).mem.acc < 1000000000 := by show s.mem.acc < _; have := hA.acc; omega
 have b2 : (s.tick l).mem.wr < 1000000000 := by show s.mem.wr < _; have := hA.wr; omega
 have hl' : zT (s.tick l).c (t : Nat) = (l : Nat) := hl
 have hlc' : (l : Int) < (s.tick l).c 0 := hlc
 have hfs' : (fs.map Fr.enc).length < 900000 := by rw [List.length_map]; omega
 have gl : s.given.length ≤ n + 1 := Nat.le_succ_of_le hA.given
 have bk : (s.thr t).frames.dropLast = fs.map Fr.enc ∧ (s.thr t).st = (s.thr t).st ∧ (s.thr t).ki = (s.thr t).ki := ⟨by rw [hA.thr.fr t ht, hthr]; simp, rfl, rfl⟩
 have t63 : t < 9223372036854775808 := by have := hmay.2.1; omega
 have B256 : B ≤ 256 := by have h1 := (yU hmay); omega
 refine (sI h hT (by show (F.fn : Int) = 23; omega) (by omega) (R := fun s' => Did s.c n l s s' (g.back t fs [F.r 3])) fun K1 M1 lab1 w1 h1' hT1 => ?_).mono fun r w' ⟨e, M', lab', s', a1, a2, a3, a4⟩ => ⟨e, M', lab', s', a1, a3, a2, a4⟩
 refine sw_1 h1' hT1 (by show (F.pc : Int) = 1; omega) (R := fun s' => Did s.c n l s s' (g.back t fs [F.r 3])) fun K2 M2 lab2 w2 h2' hT2 => ?_
 refine (look_past h2' hT2 (by omega) (i := F.r 1) rfl (by omega) hB' hx (z := F.r 3) rfl).mono (fun r w' ⟨e, M', lab', h', hM', hB'⟩ => ⟨e, M', lab', _, h', hM', hB', ?_⟩)
 exact Did.none hA ⟨rfl, rfl, rfl, rfl, rfl⟩ rfl hA.words (hA.ward.mono (Nat.le_succ _)) (hA.thr.back (t := t) (fs := fs) (us := [F.r 3]) (x := s.thr t) bk) gl
theorem sp_yes {σ : World} {p t q l n B : Nat} {c : Nat → Int} {tp : List Nat} {g : GM} {fs : List Fr} {F : Fr} (hn : n < 100000) (ht : (t : Int) < c 1) (hq : tp[t]? = some q) (hl : zT c t = (l : Nat)) (hlc : (l : Int) < c 0) (hthr : g.thr t = fs ++ [F]) (hfs : fs.length < 100000) (hB' : c 11 = (B : Nat)) (h1 : F.fn = 23) (hp : F.pc = 1) (hx : F.r 1 < B) (he : F.r 0 < 18446744073709551616) (hw : g.w l (18 + F.r 1) < 18446744073709551616) (hkd : yY (g.w l (18 + F.r 1)) = 2) (ho : oldB (cutN (g.w l (18 + F.r 1)) 32 30) (F.r 0) = true) : zG 15 σ p t c tp n l g (g.top t fs ((F.reg 2 (g.w l (18 + F.r 1))).goto 2)) := by
 intro K s M lab w h hM hB hA
 obtain ⟨b, hT⟩ := hA.atTop hM hB ht hq hthr
 obtain rfl := hA.cc
 have hmay := hA.may
 have b1 : (s.tick l).mem.acc < 1000000000 := by show s.mem.acc < _; have := hA.acc; omega
 have b2 : (s.tick l).mem.wr < 1000000000 := by show s.mem.wr < _; have := hA.wr; omega
 have hl' : zT (s.tick l).c (t : Nat) = (l : Nat) := hl
 have hlc' : (l : Int) < (s.tick l).c 0 := hlc
 have hfs' : (fs.map Fr.enc).length < 900000 := by rw [List.length_map]; omega
 have gl : s.given.length ≤ n + 1 := Nat.le_succ_of_le hA.given
 have bk : (s.thr t).frames.dropLast = fs.map Fr.enc ∧ (s.thr t).st = (s.thr t).st ∧ (s.thr t).ki = (s.thr t).ki := ⟨by rw [hA.thr.fr t ht, hthr]; simp, rfl, rfl⟩
 have t63 : t < 9223372036854775808 := by have := hmay.2.1; omega
 have B256 : B ≤ 256 := by have h1 := (yU hmay); omega
 have hk := wK (c := s.c) (i := F.r 1) hB' (by omega)
 have hit := yS hmay hA.memN hlc hk
 have hv : s.mem.load (atK s.c (l : Nat) 7 (F.r 1 : Nat) 0) = (g.w l (18 + F.r 1) : Int) := yL hit (by rw [hA.words.at hmay hlc hk, yQ])
 have hf0 : s.mem.f (atK s.c (l : Nat) 7 (F.r 1 : Nat) 0).toNat = (g.w l (18 + F.r 1) : Int) := by rw [hA.words.at hmay hlc hk, yQ]
 refine (sI h hT (by show (F.fn : Int) = 23; omega) (by omega) (R := fun s' => Did s.c n l s s' (g.top t fs ((F.reg 2 (g.w l (18 + F.r 1))).goto 2))) fun K1 M1 lab1 w1 h1' hT1 => ?_).mono fun r w' ⟨e, M', lab', s', a1, a2, a3, a4⟩ => ⟨e, M', lab', s', a1, a3, a2, a4⟩
 refine sw_1 h1' hT1 (by show (F.pc : Int) = 1; omega) (R := fun s' => Did s.c n l s s' (g.top t fs ((F.reg 2 (g.w l (18 + F.r 1))).goto 2))) fun K2 M2 lab2 w2 h2' hT2 => ?_
 refine (look_yes h2' hT2 (i := F.r 1) rfl (by omega) hB' hx (e := F.r 0) rfl he hw (zD hT2.mach hl' hlc' hk) b1 hv hkd ho).mono (fun r w' ⟨e, M', lab', h', hT'⟩ => ⟨e, M', lab', _, h', hT'.mach, hT'.base, ?_⟩)
 refine Did.one hA hk (Nat.zero_le _) ⟨rfl, rfl, rfl, rfl, rfl⟩ (vH hit) hA.words (hA.ward.mono (Nat.le_succ _)) ?_ gl
 have := hA.thr.top (t := t) (fs := fs) (F := (F.reg 2 (g.w l (18 + F.r 1))).goto 2)
 rw [← wC, ← wJ] at this
 exact this
theorem sp_no {σ : World} {p t q l n B : Nat} {c : Nat → Int} {tp : List Nat} {g : GM} {fs : List Fr} {F : Fr} (hn : n < 100000) (ht : (t : Int) < c 1) (hq : tp[t]? = some q) (hl : zT c t = (l : Nat)) (hlc : (l : Int) < c 0) (hthr : g.thr t = fs ++ [F]) (hfs : fs.length < 100000) (hB' : c 11 = (B : Nat)) (h1 : F.fn = 23) (hp : F.pc = 1) (hx : F.r 1 < B) (he : F.r 0 < 18446744073709551616) (hw : g.w l (18 + F.r 1) < 18446744073709551616) (hko : yY (g.w l (18 + F.r 1)) ≠ 2 ∨ (yY (g.w l (18 + F.r 1)) = 2 ∧ oldB (cutN (g.w l (18 + F.r 1)) 32 30) (F.r 0) = false)) : zG 15 σ p t c tp n l g (g.top t fs ((F.reg 2 (g.w l (18 + F.r 1))).reg 1 (F.r 1 + 1))) := by
 intro K s M lab w h hM hB hA
 obtain ⟨b, hT⟩ := hA.atTop hM hB ht hq hthr
 obtain rfl := hA.cc
 have hmay := hA.may
 have b1 : (s.tick l).mem.acc < 1000000000 := by show s.mem.acc < _; have := hA.acc; omega
 have b2 : (s.tick l).mem.wr < 1000000000 := by show s.mem.wr < _; have := hA.wr; omega
 have hl' : zT (s.tick l).c (t : Nat) = (l : Nat) := hl
 have hlc' : (l : Int) < (s.tick l).c 0 := hlc
 have hfs' : (fs.map Fr.enc).length < 900000 := by rw [List.length_map]; omega
 have gl : s.given.length ≤ n + 1 := Nat.le_succ_of_le hA.given
 have bk : (s.thr t).frames.dropLast = fs.map Fr.enc ∧ (s.thr t).st = (s.thr t).st ∧ (s.thr t).ki = (s.thr t).ki := ⟨by rw [hA.thr.fr t ht, hthr]; simp, rfl, rfl⟩
 have t63 : t < 9223372036854775808 := by have := hmay.2.1; omega
 have B256 : B ≤ 256 := by have h1 := (yU hmay); omega
 have hk := wK (c := s.c) (i := F.r 1) hB' (by omega)
 have hit := yS hmay hA.memN hlc hk
 have hv : s.mem.load (atK s.c (l : Nat) 7 (F.r 1 : Nat) 0) = (g.w l (18 + F.r 1) : Int) := yL hit (by rw [hA.words.at hmay hlc hk, yQ])
 have hf0 : s.mem.f (atK s.c (l : Nat) 7 (F.r 1 : Nat) 0).toNat = (g.w l (18 + F.r 1) : Int) := by rw [hA.words.at hmay hlc hk, yQ]
 refine (sI h hT (by show (F.fn : Int) = 23; omega) (by omega) (R := fun s' => Did s.c n l s s' (g.top t fs ((F.reg 2 (g.w l (18 + F.r 1))).reg 1 (F.r 1 + 1)))) fun K1 M1 lab1 w1 h1' hT1 => ?_).mono fun r w' ⟨e, M', lab', s', a1, a2, a3, a4⟩ => ⟨e, M', lab', s', a1, a3, a2, a4⟩
 refine sw_1 h1' hT1 (by show (F.pc : Int) = 1; omega) (R := fun s' => Did s.c n l s s' (g.top t fs ((F.reg 2 (g.w l (18 + F.r 1))).reg 1 (F.r 1 + 1)))) fun K2 M2 lab2 w2 h2' hT2 => ?_
 refine (look_no h2' hT2 (i := F.r 1) rfl (by omega) hB' hx (e := F.r 0) rfl he hw (zD hT2.mach hl' hlc' hk) b1 hv hko).mono (fun r w' ⟨e, M', lab', h', hT'⟩ => ⟨e, M', lab', _, h', hT'.mach, hT'.base, ?_⟩)
 refine Did.one hA hk (Nat.zero_le _) ⟨rfl, rfl, rfl, rfl, rfl⟩ (vH hit) hA.words (hA.ward.mono (Nat.le_succ _)) ?_ gl
 have := hA.thr.top (t := t) (fs := fs) (F := (F.reg 2 (g.w l (18 + F.r 1))).reg 1 (F.r 1 + 1))
 rw [← wJ, ← wJ] at this
 exact this
theorem sp_2n {σ : World} {p t q l n B : Nat} {c : Nat → Int} {tp : List Nat} {g : GM} {fs : List Fr} {F : Fr} (hn : n < 100000) (ht : (t : Int) < c 1) (hq : tp[t]? = some q) (hl : zT c t = (l : Nat)) (hlc : (l : Int) < c 0) (hthr : g.thr t = fs ++ [F]) (hfs : fs.length < 100000) (hB' : c 11 = (B : Nat)) (h1 : F.fn = 23) (hp : F.pc = 2) (hx : F.r 1 < B) (hz : g.w l (18 + F.r 1) ≠ F.r 2) : zG 15 σ p t c tp n l g (g.top t fs ((F.reg 1 (F.r 1 + 1)).goto 1)) := by
 intro K s M lab w h hM hB hA
 obtain ⟨b, hT⟩ := hA.atTop hM hB ht hq hthr
 obtain rfl := hA.cc
 have hmay := hA.may
 have b1 : (s.tick l).mem.acc < 1000000000 := by show s.mem.acc < _; have := hA.acc; omega
 have b2 : (s.tick l).mem.wr < 1000000000 := by show s.mem.wr < _; have := hA.wr; omega
 have hl' : zT (s.tick l).c (t : Nat) = (l : Nat) := hl
 have hlc' : (l : Int) < (s.tick l).c 0 := hlc
 have hfs' : (fs.map Fr.enc).length < 900000 := by rw [List.length_map]; omega
 have gl : s.given.length ≤ n + 1 := Nat.le_succ_of_le hA.given
 have bk : (s.thr t).frames.dropLast = fs.map Fr.enc ∧ (s.thr t).st = (s.thr t).st ∧ (s.thr t).ki = (s.thr t).ki := ⟨by rw [hA.thr.fr t ht, hthr]; simp, rfl, rfl⟩
 have t63 : t < 9223372036854775808 := by have := hmay.2.1; omega
 have B256 : B ≤ 256 := by have h1 := (yU hmay); omega
 have hk := wK (c := s.c) (i := F.r 1) hB' (by omega)
 have hit := yS hmay hA.memN hlc hk
 have hv : s.mem.load (atK s.c (l : Nat) 7 (F.r 1 : Nat) 0) = (g.w l (18 + F.r 1) : Int) := yL hit (by rw [hA.words.at hmay hlc hk, yQ])
 have hf0 : s.mem.f (atK s.c (l : Nat) 7 (F.r 1 : Nat) 0).toNat = (g.w l (18 + F.r 1) : Int) := by rw [hA.words.at hmay hlc hk, yQ]
 have hsw : (s.tick l).mem.swaps (atK (s.tick l).c (l : Nat) 7 (F.r 1 : Nat) 0) (F.r 2 : Nat) = false := by show s.mem.swaps _ _ = false; unfold MemS.swaps; rw [show (s.tick l).c = s.c from rfl, hit, hf0]; simp; omega
 refine (sI h hT (by show (F.fn : Int) = 23; omega) (by omega) (R := fun s' => Did s.c n l s s' (g.top t fs ((F.reg 1 (F.r 1 + 1)).goto 1))) fun K1 M1 lab1 w1 h1' hT1 => ?_).mono fun r w' ⟨e, M', lab', s', a1, a2, a3, a4⟩ => ⟨e, M', lab', s', a1, a3, a2, a4⟩
 refine (sw_2n h1' hT1 (by omega) (i := F.r 1) (v := F.r 2) rfl rfl (by omega) t63 (by show (F.pc : Int) = 2; omega) (zD hT1.mach hl' hlc' hk) b1 b2 hsw).mono (fun r w' ⟨e, M', lab', h', hT'⟩ => ⟨e, M', lab', _, h', hT'.mach, hT'.base, ?_⟩)
 refine Did.one hA hk (Nat.zero_le _) ⟨rfl, rfl, rfl, rfl, rfl⟩ (oP hit hsw) hA.words (hA.ward.mono (Nat.le_succ _)) ?_ gl
 have := hA.thr.top (t := t) (fs := fs) (F := (F.reg 1 (F.r 1 + 1)).goto 1)
 rw [← wC, ← wJ] at this
 exact this
theorem sp_2y {σ : World} {p t q l n B : Nat} {c : Nat → Int} {tp : List Nat} {g : GM} {fs : List Fr} {F : Fr} (hn : n < 100000) (ht : (t : Int) < c 1) (hq : tp[t]? = some q) (hl : zT c t = (l : Nat)) (hlc : (l : Int) < c 0) (hthr : g.thr t = fs ++ [F]) (hfs : fs.length < 100000) (hB' : c 11 = (B : Nat)) (h1 : F.fn = 23) (hp : F.pc = 2) (hx : F.r 1 < B) (hr2 : F.r 2 < 18446744073709551616) (hkd : yY (F.r 2) = 2) (hz : g.w l (18 + F.r 1) = F.r 2) : zG 15 σ p t c tp n l g ((g.set l (18 + F.r 1) (zI t)).top t (fs ++ [F.goto 3]) ⟨2, 0, fun i => [cutN (F.r 2) 0 8].getD i 0⟩) := by
 intro K s M lab w h hM hB hA
 obtain ⟨b, hT⟩ := hA.atTop hM hB ht hq hthr
 obtain rfl := hA.cc
 have hmay := hA.may
 have b1 : (s.tick l).mem.acc < 1000000000 := by show s.mem.acc < _; have := hA.acc; omega
 have b2 : (s.tick l).mem.wr < 1000000000 := by show s.mem.wr < _; have := hA.wr; omega
 have hl' : zT (s.tick l).c (t : Nat) = (l : Nat) := hl
 have hlc' : (l : Int) < (s.tick l).c 0 := hlc
 have hfs' : (fs.map Fr.enc).length < 900000 := by rw [List.length_map]; omega
 have gl : s.given.length ≤ n + 1 := Nat.le_succ_of_le hA.given
 have bk : (s.thr t).frames.dropLast = fs.map Fr.enc ∧ (s.thr t).st = (s.thr t).st ∧ (s.thr t).ki = (s.thr t).ki := ⟨by rw [hA.thr.fr t ht, hthr]; simp, rfl, rfl⟩
 have t63 : t < 9223372036854775808 := by have := hmay.2.1; omega
 have B256 : B ≤ 256 := by have h1 := (yU hmay); omega
 have hk := wK (c := s.c) (i := F.r 1) hB' (by omega)
 have hit := yS hmay hA.memN hlc hk
 have hv : s.mem.load (atK s.c (l : Nat) 7 (F.r 1 : Nat) 0) = (g.w l (18 + F.r 1) : Int) := yL hit (by rw [hA.words.at hmay hlc hk, yQ])
 have hf0 : s.mem.f (atK s.c (l : Nat) 7 (F.r 1 : Nat) 0).toNat = (g.w l (18 + F.r 1) : Int) := by rw [hA.words.at hmay hlc hk, yQ]
 have hsw : (s.tick l).mem.swaps (atK (s.tick l).c (l : Nat) 7 (F.r 1 : Nat) 0) (F.r 2 : Nat) = true := by show s.mem.swaps _ _ = true; unfold MemS.swaps; rw [show (s.tick l).c = s.c from rfl, hit, hf0, hz]; simp
 refine (sI h hT (by show (F.fn : Int) = 23; omega) (by omega) (R := fun s' => Did s.c n l s s' ((g.set l (18 + F.r 1) (zI t)).top t (fs ++ [F.goto 3]) ⟨2, 0, fun i => [cutN (F.r 2) 0 8].getD i 0⟩)) fun K1 M1 lab1 w1 h1' hT1 => ?_).mono fun r w' ⟨e, M', lab', s', a1, a2, a3, a4⟩ => ⟨e, M', lab', s', a1, a3, a2, a4⟩
 refine (sw_2y h1' hT1 (by omega) (i := F.r 1) (v := F.r 2) rfl rfl (by omega) hr2 hkd t63 (by show (F.pc : Int) = 2; omega) (zD hT1.mach hl' hlc' hk) b1 b2 hsw).mono (fun r w' ⟨e, M', lab', h', hM', hB'⟩ => ⟨e, M', lab', _, h', hM', hB', ?_⟩)
 refine Did.one hA hk (Nat.le_refl _) ⟨rfl, rfl, rfl, rfl, rfl⟩ (qY hit hsw) ?_ (hA.ward.mono (Nat.le_succ _)) ?_ gl
 ·have := hA.words.set hmay (l := l) hk (zI t)
  rw [yQ] at this
  exact this
 have := ((hA.thr.set l (18 + F.r 1) (zI t)).top (t := t) (fs := fs) (F := F.goto 3)).call ht 2 [cutN (F.r 2) 0 8]
 have e : (((g.set l (18 + F.r 1) (zI t)).top t fs (F.goto 3)).top t (((g.set l (18 + F.r 1) (zI t)).top t fs (F.goto 3)).thr t) ⟨2, 0, fun i => [cutN (F.r 2) 0 8].getD i 0⟩) = (g.set l (18 + F.r 1) (zI t)).top t (fs ++ [F.goto 3]) ⟨2, 0, fun i => [cutN (F.r 2) 0 8].getD i 0⟩ := by
  unfold GM.top
  simp only [zY, oJ]
 rw [e] at this
 exact this
theorem sp_3 {σ : World} {p t q l n B : Nat} {c : Nat → Int} {tp : List Nat} {g : GM} {fs : List Fr} {F : Fr} (hn : n < 100000) (ht : (t : Int) < c 1) (hq : tp[t]? = some q) (hl : zT c t = (l : Nat)) (hlc : (l : Int) < c 0) (hthr : g.thr t = fs ++ [F]) (hfs : fs.length < 100000) (hB' : c 11 = (B : Nat)) (h1 : F.fn = 23) (hp : F.pc = 3) (hx : F.r 1 < B) (hr3 : F.r 3 < 1000000) : zG 15 σ p t c tp n l g ((g.set l (18 + F.r 1) 0).top t fs (((F.reg 3 (F.r 3 + 1)).reg 1 (F.r 1 + 1)).goto 1)) := by
 intro K s M lab w h hM hB hA
 obtain ⟨b, hT⟩ := hA.atTop hM hB ht hq hthr
 obtain rfl := hA.cc
 have hmay := hA.may
 have b1 : (s.tick l).mem.acc < 1000000000 := by show s.mem.acc < _; have := hA.acc; omega
 have b2 : (s.tick l).mem.wr < 1000000000 := by show s.mem.wr < _; have := hA.wr; omega
 have hl' : zT (s.tick l).c (t : Nat) = (l : Nat) := hl
 have hlc' : (l : Int) < (s.tick l).c 0 := hlc
 have hfs' : (fs.map Fr.enc).length < 900000 := by rw [List.length_map]; omega
 have gl : s.given.length ≤ n + 1 := Nat.le_succ_of_le hA.given
 have bk : (s.thr t).frames.dropLast = fs.map Fr.enc ∧ (s.thr t).st = (s.thr t).st ∧ (s.thr t).ki = (s.thr t).ki := ⟨by rw [hA.thr.fr t ht, hthr]; simp, rfl, rfl⟩
 have t63 : t < 9223372036854775808 := by have := hmay.2.1; omega
 have B256 : B ≤ 256 := by have h1 := (yU hmay); omega
 have hk := wK (c := s.c) (i := F.r 1) hB' (by omega)
 have hit := yS hmay hA.memN hlc hk
 have hv : s.mem.load (atK s.c (l : Nat) 7 (F.r 1 : Nat) 0) = (g.w l (18 + F.r 1) : Int) := yL hit (by rw [hA.words.at hmay hlc hk, yQ])
 have hf0 : s.mem.f (atK s.c (l : Nat) 7 (F.r 1 : Nat) 0).toNat = (g.w l (18 + F.r 1) : Int) := by rw [hA.words.at hmay hlc hk, yQ]
 refine (sI h hT (by show (F.fn : Int) = 23; omega) (by omega) (R := fun s' => Did s.c n l s s' ((g.set l (18 + F.r 1) 0).top t fs (((F.reg 3 (F.r 3 + 1)).reg 1 (F.r 1 + 1)).goto 1))) fun K1 M1 lab1 w1 h1' hT1 => ?_).mono fun r w' ⟨e, M', lab', s', a1, a2, a3, a4⟩ => ⟨e, M', lab', s', a1, a3, a2, a4⟩
 refine (sw_3 h1' hT1 (i := F.r 1) (z := F.r 3) rfl rfl (by omega) (by omega) (by show (F.pc : Int) = 3; omega) (zD hT1.mach hl' hlc' hk) b1 b2).mono (fun r w' ⟨e, M', lab', h', hT'⟩ => ⟨e, M', lab', _, h', hT'.mach, hT'.base, ?_⟩)
 refine Did.one hA hk (Nat.le_refl _) ⟨rfl, rfl, rfl, rfl, rfl⟩ (xC hit) ?_ (hA.ward.mono (Nat.le_succ _)) ?_ gl
 ·have := hA.words.set hmay (l := l) hk (0)
  rw [yQ] at this
  exact this
 have := (hA.thr.set l (18 + F.r 1) 0).top (t := t) (fs := fs) (F := ((F.reg 3 (F.r 3 + 1)).reg 1 (F.r 1 + 1)).goto 1)
 rw [← wC, ← wJ, ← wJ] at this
 exact this
end
end Go.Proofs.YtjeeldacnllipaaGreat
