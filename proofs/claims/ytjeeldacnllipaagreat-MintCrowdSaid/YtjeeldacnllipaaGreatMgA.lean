/- Layer 22 (stock), plain: words, warden and threads as numbers; what a bit of a routine makes of them. -/
import Derived.Test.YtjeeldacnllipaaGreatTakeB
import Derived.Test.YtjeeldacnllipaaGreatMachT
import Derived.Test.YtjeeldacnllipaaGreatWords
import Derived.Test.YtjeeldacnllipaaGreatMachD
import Derived.Test.YtjeeldacnllipaaGreatBase
import Derived.Test.YtjeeldacnllipaaGreatLinks
namespace Go.Proofs.YtjeeldacnllipaaGreat
set_option linter.unusedVariables false
set_option linter.unusedSimpArgs false
set_option linter.unnecessarySimpa false
section
open Go.RowKit
def MachS.backed (s : MachS) (t : Nat) (us : List Int) : MachS := { s with thr := fun j => if j = t then (s.thr t).back us else s.thr j }
/-- Back of two numbers that lie in a block made just now. -/
theorem back2_eq {σ w : World} {K M M2 : Mm} {lab : Nat → Nat} {p t q b bl : Nat} {s : MachS} {fs : List FrameS} {f : FrameS} {v0 v1 : Int} (h : Has σ M2 w) (hT : AtTop K M lab p s t q b fs f) (hle : M.le M2) (hn : M bl = none) (hbl : M2 bl = some (.cells #[.int .u64 v0, .int .u64 v1] 42)) (hfs : fs.length < 1000000) :
  Calls Tryz.prog 93 #[.pointer (some ⟨q, 0, none⟩), .slice (some ⟨bl, 0, none⟩) 2 2] w fun r w' => r = .returned (.tuple #[]) ∧ ∃ M' lab', Has σ M' w' ∧ Mach M' lab' p (s.backed t [v0, v1]) ∧ Base K M' lab' := by
 obtain ⟨lab2, hT2⟩ := hT.more1 hle hn hbl
 obtain ⟨fv, hv, fbs, hTh⟩ := hT2.thr
 have hne : bl ≠ q := fun e => by
  subst e
  have h1 := hTh.obj
  rw [hbl] at h1
  simp only [Option.some.injEq, Obj.cells.injEq] at h1
  exact absurd h1.2.1 (by decide)
 have hnK : K bl = none := by
  cases e : K bl with
  | none => rfl
  | some o => have := (hT.base _ _ e).1; rw [hn] at this; cases this
 have hrd : Rd (M2.drop q) 1 (.slice (some ⟨bl, 0, none⟩) 2 2) [v0, v1].length (u64s [v0, v1]) := ⟨rfl, _, _, rfl, Nat.le_refl _, fun _ => ⟨bl, 0, _, _, _, rfl, (if_neg hne).trans hbl, fun j u hu => by simpa [u64s] using hu⟩⟩
 have hlen : fbs.length = fs.length := by
  have h1 := hTh.flen
  rw [hT2.fr] at h1
  simpa using h1
 refine (thrBack_eq h hTh hrd (by simp) (by omega)).mono fun r w' ⟨e, M', h', hK, hI⟩ => ?_
 obtain ⟨h4, h5⟩ := hT2.mach.thrTo hT2.base hT2.tp hK hI
 exact ⟨e, M', lab2, h', h4, fun c o hc => h5 c o (Mm.le_upd' hnK _ _ _ hc)⟩
set_option maxHeartbeats 4000000 in
set_option maxRecDepth 20000 in
/-- The free list is empty. -/
theorem take_1end {σ w : World} {K M : Mm} {lab : Nat → Nat} {p t q b : Nat} {s : MachS} {fs : List FrameS} {f : FrameS} (h : Has σ M w) (hT : AtTop K M lab p s t q b fs f) (hat : f.at_ = 1) {x : Nat} (hx : f.r 1 = (x : Int)) (hx64 : x < 18446744073709551616) (hs0 : cutN x 0 8 = 0) (hfs : fs.length < 1000000) :
  Calls Tryz.prog 132 #[.agg (runC p t q b)] w fun r w' => r = .returned (.tuple #[]) ∧ ∃ M' lab', Has σ M' w' ∧ Mach M' lab' p (s.backed t [0, 0]) ∧ Base K M' lab' := by
 have d0 : (runC p t q b)[0]? = some (.pointer (some ⟨p, 0, none⟩)) := rfl
 have d1 : (runC p t q b)[1]? = some (.int .i64 (t : Nat)) := rfl
 have d2 : (runC p t q b)[2]? = some (.pointer (some ⟨q, 0, none⟩)) := rfl
 have d3 : (runC p t q b)[3]? = some (.pointer (some ⟨b, 0, none⟩)) := rfl
 have dx : (runC p t q b).extract 0 (0 + 4) = runC p t q b := rfl
 have dz : (runC p t q b).size = 4 := rfl
 have f1 : f.row[1]? = some (.int .i64 1) := by rw [← hat]; rfl
 have f3 : f.row[3]? = some (.int .u64 (x : Nat)) := by rw [← hx]; rfl
 have UN := Lib.hid (linkUnder_any x hx64)
 have hsl : cutN x 0 8 < 256 := cutN_lt x 0 8
 clear hx64 hat
 rw [hs0] at UN
 clear hsl hs0 hx
 go_enter Tryz.func132, Tryz.ntmps132
 go_upto_region 1 with (fail)
 obtain ⟨M1, hbx, hle, hb4, hn⟩ := h.box (.cells (runC p t q b) 192)
 generalize w.alloc _ = wx at hbx ⊢
 generalize w.heap.size = b4 at hb4 hn ⊢
 clear h
 try clear w
 have h := hbx
 clear hbx
 obtain ⟨w, rfl⟩ : ∃ x : World, x = wx := ⟨_, rfl⟩
 obtain ⟨lab1, hT1⟩ := hT.more1 hle hn hb4
 have hnK : K b4 = none := by
  cases e : K b4 with
  | none => rfl
  | some o => have := (hT.base _ _ e).1; rw [hn] at this; cases this
 have hKK : K.le (K.upd b4 (.cells (runC p t q b) 192)) := Mm.le_upd' hnK _
 have hbK : (K.upd b4 (.cells (runC p t q b) 192)) b4 = some (.cells (runC p t q b) 192) := Mm.upd_same _ _ _
 have hfb := hT1.obj
 have BK := Lib.hid (fun (M2 : Mm) (w : World) (bl : Nat) (h : Has σ M2 w) (hle : M1.le M2) (hn : M1 bl = none) (hbl : M2 bl = some (.cells #[.int .u64 0, .int .u64 0] 42)) => back2_eq h hT1 hle hn hbl hfs)
 have HK := Lib.hid hKK
 clear hT hT1 hn hle hnK hKK hbK hfs
 generalize f.row = fr0 at *
 generalize runC p t q b = rc at *
 go_upto_region 10 with (first
  | (with_reducible show wpList _ _ _ ({ dst := _, op := Op.load 70 _, type := _, pos := _, after := _, guard := _ } :: _) _ _; refine wpList_load1_has h rfl 70 _ rfl rfl hb4 d3 Tryz.underlying70 rfl ?_)
  | (with_reducible show wpList _ _ _ ({ dst := _, op := Op.load 42 _, type := _, pos := _, after := _, guard := _ } :: _) _ _; refine wpList_load1_has h rfl 42 _ rfl rfl hfb f3 Tryz.underlying42 rfl ?_)
  | (with_reducible show wpList _ _ _ ({ dst := _, op := Op.load 3 _, type := _, pos := _, after := _, guard := _ } :: _) _ _; refine wpList_load1_has h rfl 3 _ rfl rfl hfb f1 Tryz.underlying3 rfl ?_)
  | ((go_at_call 138; refine (UN.out _).mono ?_; rintro r w' ⟨rfl, rfl⟩)))
 go_wp2_with (first
  | (with_reducible show wpList _ _ _ ({ dst := _, op := Op.load 38 _, type := _, pos := _, after := _, guard := _ } :: _) _ _; refine wpList_load1_has h rfl 38 _ rfl rfl hb4 d2 Tryz.underlying38 rfl ?_))
 obtain ⟨M2, hbx, hle2, hbl, hnl⟩ := h.box (.cells #[.int .u64 0, .int .u64 0] 42)
 generalize w.alloc _ = wx at hbx ⊢
 generalize w.heap.size = bl at hbl hnl ⊢
 clear h
 try clear w
 have h := hbx
 clear hbx
 obtain ⟨w, rfl⟩ : ∃ x : World, x = wx := ⟨_, rfl⟩
 go_wp2_with (first
  | ((go_at_call 93; refine (BK.out M2 _ bl h hle2 hnl hbl).mono ?_; clear h; rintro _ w ⟨rfl, M3, lab3, h, hM3, hB3⟩)))
 exact bodyPost_ret (results_none rfl _ _ _) rfl ⟨rfl, M3, lab3, h, hM3, fun c o hc => hB3 c o (HK.out _ _ hc)⟩
set_option maxHeartbeats 4000000 in
set_option maxRecDepth 20000 in
/-- What was taken is told. -/
theorem take_3 {σ w : World} {K M : Mm} {lab : Nat → Nat} {p t q b lv : Nat} {s : MachS} {fs : List FrameS} {f : FrameS} (h : Has σ M w) (hT : AtTop K M lab p s t q b fs f) (hat : f.at_ = 3) {x z : Nat} (hx : f.r 1 = (x : Int)) (hx64 : x < 18446744073709551616) (hlv : levelOf s.c (t : Nat) = (lv : Nat)) (hlc : (lv : Int) < s.c 0) (hin : InK s.c 9 (cutN x 0 8 : Nat) 0) (hz : s.mem.load (atK s.c lv 9 (cutN x 0 8 : Nat) 0) = (z : Int)) (hz64 : z < 18446744073709551616) (hb1 : s.mem.acc < 1000000000) (hfs : fs.length < 1000000) :
  Calls Tryz.prog 132 #[.agg (runC p t q b)] w fun r w' => r = .returned (.tuple #[]) ∧ ∃ M' lab', Has σ M' w' ∧ Mach M' lab' p (MachS.backed { s with mem := s.mem.at_ (atK s.c lv 9 (cutN x 0 8 : Nat) 0) } t [(cutN x 0 8 : Nat), (cutN z 2 32 : Nat)]) ∧ Base K M' lab' := by
 have d0 : (runC p t q b)[0]? = some (.pointer (some ⟨p, 0, none⟩)) := rfl
 have d1 : (runC p t q b)[1]? = some (.int .i64 (t : Nat)) := rfl
 have d2 : (runC p t q b)[2]? = some (.pointer (some ⟨q, 0, none⟩)) := rfl
 have d3 : (runC p t q b)[3]? = some (.pointer (some ⟨b, 0, none⟩)) := rfl
 have dx : (runC p t q b).extract 0 (0 + 4) = runC p t q b := rfl
 have dz : (runC p t q b).size = 4 := rfl
 have f1 : f.row[1]? = some (.int .i64 3) := by rw [← hat]; rfl
 have f3 : f.row[3]? = some (.int .u64 (x : Nat)) := by rw [← hx]; rfl
 have UN := Lib.hid (linkUnder_any x hx64)
 have hsl : cutN x 0 8 < 256 := cutN_lt x 0 8
 clear hx64 hat
 have HS := Lib.hid (handleState_any z hz64)
 have lz : cutN z 2 32 < 4294967296 := cutN_lt z 2 32
 have SPA := spotAt_of (σ := σ) hT.mach hlv hlc hin
 obtain ⟨a, ha⟩ : ∃ a, atK s.c lv 9 (cutN x 0 8 : Nat) 0 = a := ⟨_, rfl⟩
 rw [ha] at hz SPA ⊢
 obtain ⟨sl, hsl0⟩ : ∃ sl, cutN x 0 8 = sl := ⟨_, rfl⟩
 rw [hsl0] at UN hsl SPA ⊢
 obtain ⟨g1, hg1⟩ : ∃ g, cutN z 2 32 = g := ⟨_, rfl⟩
 rw [hg1] at HS lz ⊢
 generalize cutN z 0 2 = g2 at HS
 have us : IntKind.u64.wrap ((sl : Nat) : Int) = ((sl : Nat) : Int) := IntWalk.u64_in _ (by omega)
 have ug : IntKind.u64.wrap ((g1 : Nat) : Int) = ((g1 : Nat) : Int) := IntWalk.u64_in _ (by omega)
 have ND := Lib.hid (fun (M' : Mm) (w : World) (h : Has σ M' w) (hle : M.le M') => runNode_eq (q := q) (b := b) h (SPA.le hle))
 clear hx ha hsl0 hg1 hlv hlc hin SPA hz64
 go_enter Tryz.func132, Tryz.ntmps132
 go_upto_region 1 with (fail)
 obtain ⟨M1, hbx, hle, hb4, hn⟩ := h.box (.cells (runC p t q b) 192)
 generalize w.alloc _ = wx at hbx ⊢
 generalize w.heap.size = b4 at hb4 hn ⊢
 clear h
 try clear w
 have h := hbx
 clear hbx
 obtain ⟨w, rfl⟩ : ∃ x : World, x = wx := ⟨_, rfl⟩
 obtain ⟨lab1, hT1⟩ := hT.more1 hle hn hb4
 have hnK : K b4 = none := by
  cases e : K b4 with
  | none => rfl
  | some o => have := (hT.base _ _ e).1; rw [hn] at this; cases this
 have hKK : K.le (K.upd b4 (.cells (runC p t q b) 192)) := Mm.le_upd' hnK _
 have hbK : (K.upd b4 (.cells (runC p t q b) 192)) b4 = some (.cells (runC p t q b) 192) := Mm.upd_same _ _ _
 have hfb := hT1.obj
 have ND1 := Lib.hid (fun (w : World) (h : Has σ M1 w) => ND.out M1 w h hle)
 have ME := Lib.hid (fun (w : World) (h : Has σ M1 w) => mMem_eq h hT1.mach)
 have LD := Lib.hid (fun (w : World) (h : Has σ M1 w) => memLoad_eq h hT1.mach.mem hb1 a)
 rw [hz] at LD
 have KL := hT1.base.le
 have hT2 := hT1.load a
 have KE := hT2.base.le
 have BK := Lib.hid (fun (M2 : Mm) (w : World) (bl : Nat) (h : Has σ M2 w) (hle : (M1.upd s.mp (.cells (s.mem.at_ a).cells 146)).le M2) (hn : (M1.upd s.mp (.cells (s.mem.at_ a).cells 146)) bl = none) (hbl : M2 bl = some (.cells #[.int .u64 (sl : Nat), .int .u64 (g1 : Nat)] 42)) => back2_eq h hT2 hle hn hbl hfs)
 have HK := Lib.hid hKK
 clear hT hT1 hT2 hn hle hnK hKK hfs hb1 hz ND
 generalize f.row = fr0 at *
 generalize runC p t q b = rc at *
 generalize M1.upd s.mp _ = M2 at *
 generalize K.upd b4 _ = K1 at *
 go_upto_region 4 with (first
  | (with_reducible show wpList _ _ _ ({ dst := _, op := Op.load 70 _, type := _, pos := _, after := _, guard := _ } :: _) _ _; refine wpList_load1_has h rfl 70 _ rfl rfl hb4 d3 Tryz.underlying70 rfl ?_)
  | (with_reducible show wpList _ _ _ ({ dst := _, op := Op.load 42 _, type := _, pos := _, after := _, guard := _ } :: _) _ _; refine wpList_load1_has h rfl 42 _ rfl rfl hfb f3 Tryz.underlying42 rfl ?_)
  | (with_reducible show wpList _ _ _ ({ dst := _, op := Op.load 3 _, type := _, pos := _, after := _, guard := _ } :: _) _ _; refine wpList_load1_has h rfl 3 _ rfl rfl hfb f1 Tryz.underlying3 rfl ?_)
  | ((go_at_call 138; refine (UN.out _).mono ?_; rintro r w' ⟨rfl, rfl⟩)))
 clear hfb hb4 UN
 refine wp_region_held_drew (S := Has σ (K1)) (by kernel_rfl) (h.drew.le KL) (fun hHeld => ?_)
 refine wpAnyH_take (i := 0) (v := ?_) rfl (by kernel_rfl) (by kernel_rfl) (by kernel_rfl) (fun _ _ _ h => h) (Or.inl ⟨by rfl, ?_⟩) hHeld ?_
 rotate_left
 ·(intro wz _; go_simp; try with_reducible rfl)
 try simp only [List.getElem_toArray, List.getElem_cons_succ, List.getElem_cons_zero, Act.put, List.setIfInBounds_toArray, List.set_cons_zero, List.set_cons_succ]
 refine wpAnyH_take (i := 1) (v := ?_) rfl (by kernel_rfl) (by kernel_rfl) (by kernel_rfl) (fun _ _ _ h => h) (Or.inl ⟨by rfl, ?_⟩) hHeld ?_
 rotate_left
 ·(intro wz _; go_simp; try with_reducible rfl)
 try simp only [List.getElem_toArray, List.getElem_cons_succ, List.getElem_cons_zero, Act.put, List.setIfInBounds_toArray, List.set_cons_zero, List.set_cons_succ]
 refine wpAnyH_take (i := 2) (v := _) rfl (by kernel_rfl) (by kernel_rfl) (by kernel_rfl) (fun _ _ _ h => h) (yields_load1 rfl 26 _ rfl rfl hbK d0 Tryz.underlying26 rfl) hHeld ?_
 try simp only [List.getElem_toArray, List.getElem_cons_succ, List.getElem_cons_zero, Act.put, List.setIfInBounds_toArray, List.set_cons_zero, List.set_cons_succ]
 refine wpAnyH_take (i := 4) (v := ?_) rfl (by kernel_rfl) (by kernel_rfl) (by kernel_rfl) (fun _ _ _ h => h) (Or.inl ⟨by rfl, ?_⟩) hHeld ?_
 rotate_left
 ·(intro wz _; go_simp; try with_reducible rfl)
 try simp only [List.getElem_toArray, List.getElem_cons_succ, List.getElem_cons_zero, Act.put, List.setIfInBounds_toArray, List.set_cons_zero, List.set_cons_succ]
 refine wpAnyH_take (i := 5) (v := _) rfl (by kernel_rfl) (by kernel_rfl) (by kernel_rfl) (fun _ _ _ h => h) (yields_agg rfl 190 _ rfl rfl hbK dx dz Tryz.underlying190 rfl (by kernel_rfl)) hHeld ?_
 try simp only [List.getElem_toArray, List.getElem_cons_succ, List.getElem_cons_zero, Act.put, List.setIfInBounds_toArray, List.set_cons_zero, List.set_cons_succ]
 refine wpAnyH_take (i := 6) (v := ?_) rfl (by kernel_rfl) (by kernel_rfl) (by kernel_rfl) (fun _ _ _ h => h) (Or.inl ⟨by rfl, ?_⟩) hHeld ?_
 rotate_left
 ·(intro wz _; go_simp; try with_reducible rfl)
 try simp only [List.getElem_toArray, List.getElem_cons_succ, List.getElem_cons_zero, Act.put, List.setIfInBounds_toArray, List.set_cons_zero, List.set_cons_succ]
 replace h := h.drew
 generalize w.drew = w1 at h hHeld ⊢
 clear w
 obtain ⟨w, rfl⟩ : ∃ q : World, q = w1 := ⟨_, rfl⟩
 refine wpAnyH_ready (rs := [3]) (by kernel_rfl) (by simp) ?_
 refine AllReadyH.cons rfl (fun K hK => ?_) AllReadyH.nil
 (go_simp; go_wp2_with (go_at_call 46; refine (ME.out _ h).mono ?_; clear h; rintro _ w ⟨rfl, h⟩))
 refine hK.out _ _ (h.le KL) (fun hHeld => ?_)
 clear hK K
 try simp only [Act.put, List.setIfInBounds_toArray, List.set_cons_zero, List.set_cons_succ]
 refine wpAnyH_ready (rs := [7]) (by kernel_rfl) (by simp) ?_
 refine AllReadyH.cons rfl (fun K hK => ?_) AllReadyH.nil
 (go_simp; go_wp2_with (go_at_call 143; refine (ND1.out _ h).mono ?_; clear h; rintro _ w ⟨rfl, h⟩))
 refine hK.out _ _ (h.le KL) (fun hHeld => ?_)
 clear hK K
 try simp only [Act.put, List.setIfInBounds_toArray, List.set_cons_zero, List.set_cons_succ]
 refine wpAnyH_ready (rs := [8]) (by kernel_rfl) (by simp) ?_
 refine AllReadyH.cons rfl (fun K hK => ?_) AllReadyH.nil
 (go_simp; go_wp2_with (go_at_call 94; refine (LD.out _ h).mono ?_; clear h; rintro _ w ⟨rfl, h⟩))
 refine hK.out _ _ (h.le KE) (fun hHeld => ?_)
 clear hK K
 try simp only [Act.put, List.setIfInBounds_toArray, List.set_cons_zero, List.set_cons_succ]
 refine wpAnyH_ready (rs := [9]) (by kernel_rfl) (by simp) ?_
 refine AllReadyH.cons rfl (fun K hK => ?_) AllReadyH.nil
 (go_simp; go_wp2_with (go_at_call 142; refine (HS.out _).mono ?_; rintro _ w' ⟨rfl, rfl⟩))
 refine hK.out _ _ (h.le KE) (fun hHeld => ?_)
 clear hK K
 try simp only [Act.put, List.setIfInBounds_toArray, List.set_cons_zero, List.set_cons_succ]
 refine wpAnyH_take (i := 10) (v := ?_) rfl (by kernel_rfl) (by kernel_rfl) (by kernel_rfl) (fun _ _ _ h => h) (Or.inl ⟨by rfl, ?_⟩) hHeld ?_
 rotate_left
 ·(intro wz _; go_simp; try with_reducible rfl)
 try simp only [List.getElem_toArray, List.getElem_cons_succ, List.getElem_cons_zero, Act.put, List.setIfInBounds_toArray, List.set_cons_zero, List.set_cons_succ]
 refine wpAnyH_take (i := 11) (v := ?_) rfl (by kernel_rfl) (by kernel_rfl) (by kernel_rfl) (fun _ _ _ h => h) (Or.inl ⟨by rfl, ?_⟩) hHeld ?_
 rotate_left
 ·(intro wz _; go_simp; try with_reducible rfl)
 try simp only [List.getElem_toArray, List.getElem_cons_succ, List.getElem_cons_zero, Act.put, List.setIfInBounds_toArray, List.set_cons_zero, List.set_cons_succ]
 refine wpAnyH_take (i := 12) (v := ?_) rfl (by kernel_rfl) (by kernel_rfl) (by kernel_rfl) (fun _ _ _ h => h) (Or.inl ⟨by rfl, ?_⟩) hHeld ?_
 rotate_left
 ·(intro wz _; go_simp; try with_reducible rfl)
 try simp only [List.getElem_toArray, List.getElem_cons_succ, List.getElem_cons_zero, Act.put, List.setIfInBounds_toArray, List.set_cons_zero, List.set_cons_succ]
 refine wpAnyH_take (i := 13) (v := ?_) rfl (by kernel_rfl) (by kernel_rfl) (by kernel_rfl) (fun _ _ _ h => h) (Or.inl ⟨by rfl, ?_⟩) hHeld ?_
 rotate_left
 ·(intro wz _; go_simp; try with_reducible rfl)
 try simp only [List.getElem_toArray, List.getElem_cons_succ, List.getElem_cons_zero, Act.put, List.setIfInBounds_toArray, List.set_cons_zero, List.set_cons_succ]
 refine wpAnyH_take (i := 14) (v := ?_) rfl (by kernel_rfl) (by kernel_rfl) (by kernel_rfl) (fun _ _ _ h => h) (Or.inl ⟨by rfl, ?_⟩) hHeld ?_
 rotate_left
 ·(intro wz _; go_simp; try with_reducible rfl)
 try simp only [List.getElem_toArray, List.getElem_cons_succ, List.getElem_cons_zero, Act.put, List.setIfInBounds_toArray, List.set_cons_zero, List.set_cons_succ]
 refine wpAnyH_done (by kernel_rfl) ?_ _
 clear hHeld
 have hb4' := KE _ _ hbK
 go_wp2_with (first
  | (with_reducible show wpList _ _ _ ({ dst := _, op := Op.load 38 _, type := _, pos := _, after := _, guard := _ } :: _) _ _; refine wpList_load1_has h rfl 38 _ rfl rfl hb4' d2 Tryz.underlying38 rfl ?_))
 obtain ⟨M3, hbx, hle3, hbl, hnl⟩ := h.box (.cells #[.int .u64 (sl : Nat), .int .u64 (g1 : Nat)] 42)
 generalize w.alloc _ = wx at hbx ⊢
 generalize w.heap.size = bl at hbl hnl ⊢
 clear h
 try clear w
 have h := hbx
 clear hbx
 obtain ⟨w, rfl⟩ : ∃ x : World, x = wx := ⟨_, rfl⟩
 go_wp2_with (first
  | ((go_at_call 93; refine (BK.out M3 _ bl h hle3 hnl hbl).mono ?_; clear h; rintro _ w ⟨rfl, M4, lab4, h, hM4, hB4⟩)))
 go_end0
 exact ⟨rfl, M4, lab4, h, hM4, fun c o hc => hB4 c o (HK.out _ _ hc)⟩
end
section
open Go.RowKit
theorem AtTop.of {K M : Mm} {lab : Nat → Nat} {p t q : Nat} {s : MachS} {fs : List FrameS} {f : FrameS} (hM : Mach M lab p s) (hB : Base K M lab) (hq : s.tp[t]? = some q) (hf : (s.thr t).frames = fs ++ [f]) : ∃ b, AtTop K M lab p s t q b fs f := by
 obtain ⟨fv, hv, fbs, hT⟩ := hM.each t q hq
 have hl := hT.flen
 rw [hf] at hl
 rcases List.eq_nil_or_concat fbs with he | ⟨l, b, he⟩
 ·rw [he] at hl; simp at hl
 ·rw [List.concat_eq_append] at he
  subst he
  exact ⟨b, hM, hB, hq, ⟨fv, hv, l, hT⟩, hf⟩
section
variable {σ w : World} {K M : Mm} {lab : Nat → Nat} {p t q : Nat} {s : MachS}
theorem nThread_eq (h : Has σ M w) (t : Int) : Calls Tryz.prog 13 #[.pointer none, .int .i64 t] w fun r w' => r = .returned (.pointer none) ∧ Has σ M w' := by
 go_enter Tryz.func13, Tryz.ntmps13
 go_wp2
 go_ret
 exact ⟨rfl, h⟩
/-- Do of no machine. -/
theorem do_nil (h : Has σ M w) (t : Int) : Calls Tryz.prog 105 #[.pointer none, .int .i64 t] w fun r w' => r = .returned (.tuple #[]) ∧ Has σ M w' := by
 have TH := Lib.hid (fun (w : World) (h : Has σ M w) => nThread_eq h t)
 have TP := Lib.hid (fun (w : World) (h : Has σ M w) => thrTop_none h)
 go_enter Tryz.func105, Tryz.ntmps105
 go_wp2_with (first
  | (go_at_call 13; refine (TH.out _ h).mono ?_; clear h; rintro _ w ⟨rfl, h⟩)
  | (go_at_call 32; refine (TP.out _ h).mono ?_; clear h; rintro _ w ⟨rfl, h⟩))
 exact bodyPost_ret (results_none rfl _ _ _) rfl ⟨rfl, h⟩
/-- Do of no thread. -/
theorem do_nothr (h : Has σ M w) (hM : Mach M lab p s) (t : Int) (ht : t < 0 ∨ s.tp.length ≤ t) : Calls Tryz.prog 105 #[.pointer (some ⟨p, 0, none⟩), .int .i64 t] w fun r w' => r = .returned (.tuple #[]) ∧ Has σ M w' := by
 have TH := Lib.hid (fun (w : World) (h : Has σ M w) => mThread_no h hM t ht)
 have TP := Lib.hid (fun (w : World) (h : Has σ M w) => thrTop_none h)
 clear hM ht
 go_enter Tryz.func105, Tryz.ntmps105
 go_wp2_with (first
  | (go_at_call 13; refine (TH.out _ h).mono ?_; clear h; rintro _ w ⟨rfl, h⟩)
  | (go_at_call 32; refine (TP.out _ h).mono ?_; clear h; rintro _ w ⟨rfl, h⟩))
 exact bodyPost_ret (results_none rfl _ _ _) rfl ⟨rfl, h⟩
/-- Do of a thread that is within nothing. -/
theorem do_idle (h : Has σ M w) (hM : Mach M lab p s) (hq : s.tp[t]? = some q) (hf : (s.thr t).frames = []) : Calls Tryz.prog 105 #[.pointer (some ⟨p, 0, none⟩), .int .i64 (t : Nat)] w fun r w' => r = .returned (.tuple #[]) ∧ Has σ M w' := by
 have TH := Lib.hid (fun (w : World) (h : Has σ M w) => mThread_yes h hM hq)
 obtain ⟨fv, hv, fbs, hT⟩ := hM.each t q hq
 have hl := hT.flen
 rw [hf] at hl
 obtain rfl := List.eq_nil_of_length_eq_zero hl
 have TP := Lib.hid (fun (w : World) (h : Has σ M w) => thrTop_nil h hT)
 clear hM hq hf hT hl
 go_enter Tryz.func105, Tryz.ntmps105
 go_wp2_with (first
  | (go_at_call 13; refine (TH.out _ h).mono ?_; clear h; rintro _ w ⟨rfl, h⟩)
  | (go_at_call 32; refine (TP.out _ h).mono ?_; clear h; rintro _ w ⟨rfl, h⟩))
 exact bodyPost_ret (results_none rfl _ _ _) rfl ⟨rfl, h⟩
theorem zrun : (Tryz.prog.info? 190).bind (·.zero) = some (.agg #[.pointer none, .int .i64 0, .pointer none, .pointer none]) := by kernel_rfl
set_option maxHeartbeats 2000000 in
set_option maxRecDepth 20000 in
/-- Do of another routine. -/
theorem do_other {b : Nat} {fs : List FrameS} {f : FrameS} (h : Has σ M w) (hT : AtTop K M lab p s t q b fs f) (h1 : f.fn ≠ 1) (h2 : f.fn ≠ 2) (hfs : fs.length < 1000000) : Calls Tryz.prog 105 #[.pointer (some ⟨p, 0, none⟩), .int .i64 (t : Nat)] w fun r w' => r = .returned (.tuple #[]) ∧ Has σ M w' := by
 obtain ⟨fv, hv, fbs, hTh⟩ := hT.thr
 have hlen : fbs.length = fs.length := by
  have h1 := hTh.flen
  rw [hT.fr] at h1
  simpa using h1
 have TH := Lib.hid (fun (w : World) (h : Has σ M w) => mThread_yes h hT.mach hT.tp)
 have TP := Lib.hid (fun (w : World) (h : Has σ M w) => thrTop_eq h hTh (by omega))
 have hfb := hT.obj
 have f0 : f.row[0]? = some (.int .i64 f.fn) := rfl
 have g1 : (f.fn == 1) = false := beq_eq_false_iff_ne.2 h1
 have g2 : (f.fn == 2) = false := beq_eq_false_iff_ne.2 h2
 clear hT hTh hlen hfs h1 h2
 generalize f.row = fr0 at *
 generalize f.fn = fn at *
 go_enter Tryz.func105, Tryz.ntmps105
 go_upto_region 3 with (first
  | (go_at_call 13; refine (TH.out _ h).mono ?_; clear h; rintro _ w ⟨rfl, h⟩)
  | (go_at_call 32; refine (TP.out _ h).mono ?_; clear h; rintro _ w ⟨rfl, h⟩)
  | ((with_reducible show wpList _ _ _ ({ dst := _, op := Op.alloc 190, type := _, pos := _, after := _, guard := _ } :: _) _ _); refine wpList_alloc_has h rfl 190 rfl _ zrun ?_; clear h; intro bx w h hnx; try simp only [Act.put, List.setIfInBounds_toArray, List.set_cons_zero, List.set_cons_succ])
  | ((with_reducible show wpList _ _ _ ({ dst := _, op := Op.store 190 _ _, type := _, pos := _, after := _, guard := _ } :: _) _ _); refine wpList_storeAll_has (cells := runC p t q b) h rfl 190 _ _ rfl rfl rfl (Mm.upd_same _ _ _) rfl rfl rfl (by kernel_rfl) rfl ?_; clear h; intro w h))
 rw [Mm.upd_upd] at h
 have hfb1 := Mm.upd_of (o := .cells (runC p t q b) 190) hnx hfb
 have hle := Mm.le_upd' hnx (.cells (runC p t q b) 190)
 generalize M.upd bx _ = M1 at h hfb1 hle
 go_wp2_with (first
  | (with_reducible show wpList _ _ _ ({ dst := _, op := Op.load 3 _, type := _, pos := _, after := _, guard := _ } :: _) _ _; refine wpList_load1_has h rfl 3 _ rfl rfl hfb1 f0 Tryz.underlying3 rfl ?_))
 go_end0
 exact ⟨rfl, h.le hle⟩
set_option maxHeartbeats 2000000 in
set_option maxRecDepth 20000 in
/-- Do of Take: what a bit of it does. -/
theorem do_take {b : Nat} {fs : List FrameS} {f : FrameS} (h : Has σ M w) (hT : AtTop K M lab p s t q b fs f) (hfn : f.fn = 1) (hfs : fs.length < 1000000) {s' : MachS}
  (hstep : ∀ (K1 M1 : Mm) (lab1 : Nat → Nat) (w1 : World), Has σ M1 w1 → AtTop K1 M1 lab1 p s t q b fs f → Calls Tryz.prog 132 #[.agg (runC p t q b)] w1 fun r w' => r = .returned (.tuple #[]) ∧ ∃ M' lab', Has σ M' w' ∧ Mach M' lab' p s' ∧ Base K1 M' lab') :
  Calls Tryz.prog 105 #[.pointer (some ⟨p, 0, none⟩), .int .i64 (t : Nat)] w fun r w' => r = .returned (.tuple #[]) ∧ ∃ M' lab', Has σ M' w' ∧ Base K M' lab' ∧ Mach M' lab' p s' := by
 obtain ⟨fv, hv, fbs, hTh⟩ := hT.thr
 have hlen : fbs.length = fs.length := by
  have h1 := hTh.flen
  rw [hT.fr] at h1
  simpa using h1
 have TH := Lib.hid (fun (w : World) (h : Has σ M w) => mThread_yes h hT.mach hT.tp)
 have TP := Lib.hid (fun (w : World) (h : Has σ M w) => thrTop_eq h hTh (by omega))
 have hfb := hT.obj
 have f0 : f.row[0]? = some (.int .i64 f.fn) := rfl
 have HT := Lib.hid hT
 have HS := Lib.hid hstep
 rw [hfn] at f0
 clear hT hTh hlen hfs hfn hstep
 generalize f.row = fr0 at *
 go_enter Tryz.func105, Tryz.ntmps105
 go_upto_region 3 with (first
  | (go_at_call 13; refine (TH.out _ h).mono ?_; clear h; rintro _ w ⟨rfl, h⟩)
  | (go_at_call 32; refine (TP.out _ h).mono ?_; clear h; rintro _ w ⟨rfl, h⟩)
  | ((with_reducible show wpList _ _ _ ({ dst := _, op := Op.alloc 190, type := _, pos := _, after := _, guard := _ } :: _) _ _); refine wpList_alloc_has h rfl 190 rfl _ zrun ?_; clear h; intro bx w h hnx; try simp only [Act.put, List.setIfInBounds_toArray, List.set_cons_zero, List.set_cons_succ])
  | ((with_reducible show wpList _ _ _ ({ dst := _, op := Op.store 190 _ _, type := _, pos := _, after := _, guard := _ } :: _) _ _); refine wpList_storeAll_has (cells := runC p t q b) h rfl 190 _ _ rfl rfl rfl (Mm.upd_same _ _ _) rfl rfl rfl (by kernel_rfl) rfl ?_; clear h; intro w h))
 rw [Mm.upd_upd] at h
 have hfb1 := Mm.upd_of (o := .cells (runC p t q b) 190) hnx hfb
 have hle := Mm.le_upd' hnx (.cells (runC p t q b) 190)
 have hbx := Mm.upd_same M bx (.cells (runC p t q b) 190)
 generalize M.upd bx _ = M1 at h hfb1 hle hbx
 obtain ⟨lab1, hT1⟩ := HT.out.more1 hle hnx hbx
 have hnK : K bx = none := by
  cases e : K bx with
  | none => rfl
  | some o => have := (HT.out.base _ _ e).1; rw [hnx] at this; cases this
 have HKK := Lib.hid (Mm.le_upd' hnK (.cells (runC p t q b) 190))
 have ST := Lib.hid (fun (w : World) (h : Has σ M1 w) => HS.out _ M1 lab1 w h hT1)
 clear hT1 hnK hnx hle TH TP
 unfold runC at ST hbx
 have dx : (#[.pointer (some ⟨p, 0, none⟩), .int .i64 (t : Nat), .pointer (some ⟨q, 0, none⟩), .pointer (some ⟨b, 0, none⟩)] : Array Value).extract 0 (0 + 4) = #[.pointer (some ⟨p, 0, none⟩), .int .i64 (t : Nat), .pointer (some ⟨q, 0, none⟩), .pointer (some ⟨b, 0, none⟩)] := rfl
 go_wp2_with (first
  | (with_reducible show wpList _ _ _ ({ dst := _, op := Op.load 3 _, type := _, pos := _, after := _, guard := _ } :: _) _ _; refine wpList_load1_has h rfl 3 _ rfl rfl hfb1 f0 Tryz.underlying3 rfl ?_)
  | ((with_reducible show wpList _ _ _ ({ dst := _, op := Op.load 190 _, type := _, pos := _, after := _, guard := _ } :: _) _ _); refine wpList_agg_has h rfl 190 _ rfl rfl hbx dx rfl Tryz.underlying190 rfl (by kernel_rfl) ?_; try simp only [Act.put, List.setIfInBounds_toArray, List.set_cons_zero, List.set_cons_succ])
  | (go_at_call 132; refine (ST.out _ h).mono ?_; clear h; rintro _ w ⟨rfl, M2, lab2, h, hM2, hB2⟩))
 go_end0
 exact ⟨rfl, M2, lab2, h, fun c o hc => hB2 c o (HKK.out _ _ hc), hM2⟩
end
end
section
open Go.RowKit
theorem back0_eq {σ w : World} {K M : Mm} {lab : Nat → Nat} {p t q b : Nat} {s : MachS} {fs : List FrameS} {f : FrameS} (h : Has σ M w) (hT : AtTop K M lab p s t q b fs f) (hfs : fs.length < 1000000) :
  Calls Tryz.prog 93 #[.pointer (some ⟨q, 0, none⟩), .slice none 0 0] w fun r w' => r = .returned (.tuple #[]) ∧ ∃ M' lab', Has σ M' w' ∧ Mach M' lab' p (s.backed t []) ∧ Base K M' lab' := by
 obtain ⟨fv, hv, fbs, hTh⟩ := hT.thr
 have hlen : fbs.length = fs.length := by
  have h1 := hTh.flen
  rw [hT.fr] at h1
  simpa using h1
 refine (thrBack_eq h hTh (rv := .slice none 0 0) (us := []) (Rd.nil _ _ _) (by simp) (by omega)).mono fun r w' ⟨e, M', h', hK, hI⟩ => ?_
 obtain ⟨h4, h5⟩ := hT.mach.thrTo hT.base hT.tp hK hI
 exact ⟨e, M', lab, h', h4, h5⟩
/-- Back of one number that lies in a block made just now. -/
theorem back1_eq {σ w : World} {K M M2 : Mm} {lab : Nat → Nat} {p t q b bl : Nat} {s : MachS} {fs : List FrameS} {f : FrameS} {v0 : Int} (h : Has σ M2 w) (hT : AtTop K M lab p s t q b fs f) (hle : M.le M2) (hn : M bl = none) (hbl : M2 bl = some (.cells #[.int .u64 v0] 42)) (hfs : fs.length < 1000000) :
  Calls Tryz.prog 93 #[.pointer (some ⟨q, 0, none⟩), .slice (some ⟨bl, 0, none⟩) 1 1] w fun r w' => r = .returned (.tuple #[]) ∧ ∃ M' lab', Has σ M' w' ∧ Mach M' lab' p (s.backed t [v0]) ∧ Base K M' lab' := by
 obtain ⟨lab2, hT2⟩ := hT.more1 hle hn hbl
 obtain ⟨fv, hv, fbs, hTh⟩ := hT2.thr
 have hne : bl ≠ q := fun e => by
  subst e
  have h1 := hTh.obj
  rw [hbl] at h1
  simp only [Option.some.injEq, Obj.cells.injEq] at h1
  exact absurd h1.2.1 (by decide)
 have hnK : K bl = none := by
  cases e : K bl with
  | none => rfl
  | some o => have := (hT.base _ _ e).1; rw [hn] at this; cases this
 have hrd : Rd (M2.drop q) 1 (.slice (some ⟨bl, 0, none⟩) 1 1) [v0].length (u64s [v0]) := ⟨rfl, _, _, rfl, Nat.le_refl _, fun _ => ⟨bl, 0, _, _, _, rfl, (if_neg hne).trans hbl, fun j u hu => by simpa [u64s] using hu⟩⟩
 have hlen : fbs.length = fs.length := by
  have h1 := hTh.flen
  rw [hT2.fr] at h1
  simpa using h1
 refine (thrBack_eq h hTh hrd (by simp) (by omega)).mono fun r w' ⟨e, M', h', hK, hI⟩ => ?_
 obtain ⟨h4, h5⟩ := hT2.mach.thrTo hT2.base hT2.tp hK hI
 exact ⟨e, M', lab2, h', h4, fun c o hc => h5 c o (Mm.le_upd' hnK _ _ _ hc)⟩
end
section
open Go.RowKit
def MachS.begun (s : MachS) (t : Nat) (fn : Int) (us : List Int) : MachS := { s with thr := fun j => if j = t then (s.thr t).call fn us else s.thr j }
/-- From state to state, step by step: what Alone tells, and where the machine is. -/
structure Trail (σ : World) (K : Mm) (p t q : Nat) (dv : Value) (n : Nat) (St : Nat → MachS) (k : Nat) : Prop where
 step : ∀ i, i < k → ∀ (M : Mm) (lab : Nat → Nat) (w : World), Has σ M w → Mach M lab p (St i) → Base K M lab → Calls Tryz.prog 33 #[.pointer (some ⟨p, 0, none⟩), .int .i64 (t : Nat), dv] w fun r w' => ∃ M' lab' b, r = .returned (.bool b) ∧ Has σ M' w' ∧ Mach M' lab' p (St (i + 1)) ∧ Base K M' lab'
 tp : ∀ i, i ≤ k → (St i).tp[t]? = some q
 deep : ∀ i, 0 < i → i < k → n < ((St i).thr t).frames.length
 done : ((St k).thr t).frames.length ≤ n
set_option maxHeartbeats 4000000 in
set_option maxRecDepth 20000 in
theorem alone_eq {σ w : World} {K M : Mm} {lab : Nat → Nat} {p t q : Nat} {s : MachS} (h : Has σ M w) (hM : Mach M lab p s) (hB : Base K M lab) (hq : s.tp[t]? = some q) {dv rv : Value} {us : List Int} (hr : Rd M 1 rv us.length (u64s us)) (hu : us.length ≤ 16) (hfr : (s.thr t).frames.length < 1000000) (fn : Int) {St : Nat → MachS} {k most : Nat} (h0 : St 0 = s.begun t fn us) (hk : 0 < k) (hkm : k ≤ most) (hmost : most < 1000000) (hT : Trail σ K p t q dv (s.thr t).frames.length St k) :
  Calls Tryz.prog 14 #[.pointer (some ⟨p, 0, none⟩), .int .i64 (t : Nat), dv, .int .i64 (most : Nat), .int .i64 fn, rv] w fun r w' => r = .returned (.int .i64 (k : Nat)) ∧ ∃ M' lab', Has σ M' w' ∧ Mach M' lab' p (St k) ∧ Base K M' lab' := by
 have TH := Lib.hid (fun (w : World) (h : Has σ M w) => mThread_yes h hM hq)
 obtain ⟨fv, hv, fbs, hTh⟩ := hM.each t q hq
 have hl := hTh.flen
 have DP := Lib.hid (fun (w : World) (h : Has σ M w) => thrDeep_eq h hTh)
 rw [hl] at DP
 have CA := Lib.hid (fun (w : World) (h : Has σ M w) => thrCall_eq h hTh fn (rv := rv) (us := us) hr hu (by omega))
 have HM := Lib.hid hM
 have HB := Lib.hid hB
 have HQ := Lib.hid hq
 have H0 := Lib.hid h0
 have TR := Lib.hid hT
 clear hM hB hq hTh h0 hT hr hu hl
 generalize hn : (s.thr t).frames.length = n at *
 clear hn
 go_enter Tryz.func14, Tryz.ntmps14
 go_upto_region 6 with (first
  | (go_at_call 13; refine (TH.out _ h).mono ?_; clear h; rintro _ w ⟨rfl, h⟩)
  | (go_at_call 30; refine (DP.out _ h).mono ?_; clear h; rintro _ w ⟨rfl, h⟩)
  | (go_at_call 34; refine (CA.out _ h).mono ?_; clear h; rintro _ w ⟨rfl, M3, lab3, h, hK3, hT3⟩))
 obtain ⟨hM3, hB3⟩ := HM.out.thrTo HB.out HQ.out hK3 hT3
 have hM4 : Mach M3 lab3 p (St 0) := by rw [H0.out]; exact hM3
 have HM4 := Lib.hid hM4
 have HB4 := Lib.hid hB3
 clear hM3 hB3 hM4 hK3 hT3 TH DP CA HM HB HQ H0
 go_upto_region 7 with (fail)
 go_loopw [15] (fun u wr => ∃ j : Nat, j < k ∧ u = .int .i64 (j : Nat) ∧ ∃ M5 lab5, Has σ M5 wr ∧ Mach M5 lab5 p (St j) ∧ Base K M5 lab5) (fun u _ => most - (intOf u).toNat)
 case atStart => exact ⟨0, hk, rfl, M3, lab3, h, HM4.out, HB4.out⟩
 case round =>
  clear h w HM4 HB4 M3 lab3
  obtain ⟨w, rfl⟩ : ∃ x : World, x = wr := ⟨_, rfl⟩
  obtain ⟨j, hj, rfl, M5, lab5, h, hM5, hB5⟩ := hrel
  have hjm : (j : Int) < (most : Int) := by omega
  have SP := Lib.hid (fun (w : World) (h : Has σ M5 w) => TR.out.step j hj M5 lab5 w h hM5 hB5)
  clear hM5 hB5
  go_upto_region 10 with (first
   | (go_at_call 33; refine (SP.out _ h).mono ?_; clear h; rintro _ w ⟨M6, lab6, b6, rfl, h, hM6, hB6⟩))
  obtain ⟨fv6, hv6, fbs6, hT6⟩ := hM6.each t q (TR.out.tp (j + 1) (by omega))
  have hl6 := hT6.flen
  have DP6 := Lib.hid (fun (w : World) (h : Has σ M6 w) => thrDeep_eq h hT6)
  rw [hl6] at DP6
  have HM6 := Lib.hid hM6
  have HB6 := Lib.hid hB6
  clear SP hT6 hl6 hM6 hB6
  by_cases e : j + 1 = k
  ·have hle : ((St (j + 1)).thr t).frames.length ≤ n := by rw [e]; exact TR.out.done
   have hle2 : decide ((((St (j + 1)).thr t).frames.length : Int) ≤ (n : Int)) = true := decide_eq_true (by omega)
   have HE := Lib.hid e
   clear e
   generalize ((St (j + 1)).thr t).frames.length = n6 at *
   go_wp2_with (first
    | (go_at_call 30; refine (DP6.out _ h).mono ?_; clear h; rintro _ w ⟨rfl, h⟩))
   go_ret
   exact ⟨by rw [← HE.out]; exact congrArg (fun z => Ending.returned (Value.int .i64 z)) (by omega), M6, lab6, h, by rw [← HE.out]; exact HM6.out, HB6.out⟩
  ·have hgt : n < ((St (j + 1)).thr t).frames.length := TR.out.deep (j + 1) (by omega) (by omega)
   have hgt2 : decide ((((St (j + 1)).thr t).frames.length : Int) ≤ (n : Int)) = false := decide_eq_false (by omega)
   have hgt3 : ¬ ((St (j + 1)).thr t).frames.length ≤ n := by omega
   clear hgt
   generalize ((St (j + 1)).thr t).frames.length = n6 at *
   go_wp2_with (first
    | (go_at_call 30; refine (DP6.out _ h).mono ?_; clear h; rintro _ w ⟨rfl, h⟩))
   go_roundw
   case rel => exact ⟨j + 1, by omega, by go_num, M6, lab6, h, HM6.out, HB6.out⟩
   case measure => simp [intOf]; omega
end
section
open Go.RowKit
section
variable {α : Type} {sz : Nat} {enc : α → List Value}
theorem flat_split (L : List α) {k : Nat} (hk : k < L.length) : L.flatMap enc = (L.take k).flatMap enc ++ enc L[k] ++ (L.drop (k + 1)).flatMap enc := by
 rw [List.append_assoc, ← List.flatMap_cons, ← List.flatMap_append, ← List.drop_eq_getElem_cons hk, List.take_append_drop]
theorem flat_set (L : List α) {k : Nat} (hk : k < L.length) (y : α) : (L.set k y).flatMap enc = (L.take k).flatMap enc ++ enc y ++ (L.drop (k + 1)).flatMap enc := by
 rw [List.set_eq_take_append_cons_drop, if_pos hk]
 simp [List.flatMap_append]
end
/-- One element of a row of the call's own is stored. -/
theorem Own.putRow {α : Type} {enc : α → List Value} {σ w : World} {M0 M : Mm} {e : TypeId} {sz n g cap : Nat} {L : List α} (hen : ∀ x, (enc x).length = sz) (h : Has σ M w) (hle : M0.le M) (hown : Own M0 M e sz (.slice (some ⟨g, 0, none⟩) n cap) n (L.flatMap enc)) {k : Nat} (hk : k < L.length) (y : α) (hL : L.length = n) :
  ∃ M', Has σ M' (w.setCells g (k * sz) (enc y)) ∧ M0.le M' ∧ Own M0 M' e sz (.slice (some ⟨g, 0, none⟩) n cap) n ((L.set k y).flatMap enc) := by
 obtain ⟨hl, ⟨hv, _⟩ | ⟨g', cap', cur, hv, hg, hh, hc, hm, hs, ht⟩⟩ := hown
 ·cases hv
 ·cases hv
  have hcur : cur.toList = (L.take k).flatMap enc ++ enc L[k] ++ ((L.drop (k + 1)).flatMap enc ++ cur.toList.drop (n * sz)) := by
   conv => lhs; rw [← List.take_append_drop (n * sz) cur.toList, ht, flat_split L hk]
   simp
  have hB : Blk w g cur e := h.at_ g _ hh
  have hlen : ((L.take k).flatMap enc).length = k * sz := by
   rw [flat_length hen, List.length_take, Nat.min_eq_left (by omega)]
  have hB' : Blk w g ((L.take k).flatMap enc ++ enc L[k] ++ ((L.drop (k + 1)).flatMap enc ++ cur.toList.drop (n * sz))).toArray e := by
   rw [← hcur]
   simpa using hB
  have hx := blk_setCells g e (enc y) (k * sz) w ((L.take k).flatMap enc) (enc L[k]) ((L.drop (k + 1)).flatMap enc ++ cur.toList.drop (n * sz)) hlen (by rw [hen, hen]) hB'
  have hlen' : ((L.set k y).flatMap enc).length = n * sz := by rw [flat_length hen, List.length_set, hL]
  refine ⟨_, h.put (only_setCells g _ _ w) hx, Mm.le_upd hle hg _, hlen', .inr ⟨g, cap, _, rfl, hg, Mm.upd_same _ _ _, hc, hm, ?_, ?_⟩⟩
  ·have h1 : cur.toList.length = cap * sz := by simpa using hs
   rw [hcur] at h1
   simp only [List.length_append, hen] at h1
   simp only [List.size_toArray, List.length_append, hen]
   exact h1
  ·rw [flat_set L hk] at hlen' ⊢
   rw [← hlen']
   simp only [← List.append_assoc]
   rw [List.take_left]
section
variable {P : Program} {ops : Array Oper} {rest : List Oper} {op : Oper} {a : Act} {σ w : World} {M M0 : Mm} {Q : Exit → Act → World → Prop}
theorem wpList_putRow {α : Type} {enc : α → List Value} {e : TypeId} {sz n g cap : Nat} {L : List α} (hen : ∀ x, (enc x).length = sz) (h : Has σ M w) (hle : M0.le M) (hown : Own M0 M e sz (.slice (some ⟨g, 0, none⟩) n cap) n (L.flatMap enc)) (hL : L.length = n)
  (hgd : op.guard = none) (t : TypeId) (x y : Operand) (ho : op.op = .store t x y) (hdst : op.dst = none) {k : Nat} (hx : a.eval x = .pointer (some ⟨g, k * sz, none⟩)) {cells : Array Value} (hy : a.eval y = .agg cells) (hk : k < n) (z : α) (hz : cells.toList = enc z) (h1 : ∀ u ∈ enc z, u.oneCell' = true)
  (hi : (P.info? t).map (·.size) = some sz)
  (hK : ∀ w' M', Has σ M' w' → M0.le M' → Own M0 M' e sz (.slice (some ⟨g, 0, none⟩) n cap) n ((L.set k z).flatMap enc) → wpList P ops Q rest a w') : wpList P ops Q (op :: rest) a w := by
 obtain ⟨M', hh, hle', hown'⟩ := Own.putRow hen h hle hown (k := k) (by omega) z hL
 have hsz : cells.size = sz := by have := congrArg List.length hz; simpa [hen] using this
 refine wpList_store_mid hgd t x y ho g (k * sz) cells hx hy ?_ (by rw [hi, hsz]) (by rw [Array.all_eq_true_iff_forall_mem]; exact fun u hu => h1 u (by rw [← hz]; simpa using hu)) ?_
 ·intro j hj
  obtain ⟨_, ⟨hv, _⟩ | ⟨g', cap', cur, hv, hg, hM, hc, hm, hs, ht⟩⟩ := hown
  ·cases hv
  ·cases hv
   have : k * sz + j < cur.size := by
    rw [hs]
    have : (k + 1) * sz ≤ cap * sz := Nat.mul_le_mul_right _ (by omega)
    rw [Nat.add_mul, Nat.one_mul] at this
    omega
   exact ⟨by rw [h.cell hM, Array.getElem?_eq_getElem this]; rfl, h.free hM _⟩
 ·rw [hdst, hz]
  exact hK _ _ hh hle' hown'
/-- One cell of a row of the call's own is stored. -/
theorem wpList_putOne {e : TypeId} {n g cap : Nat} {xs : List Value} (h : Has σ M w) (hle : M0.le M) (hown : Own M0 M e 1 (.slice (some ⟨g, 0, none⟩) n cap) n xs)
  (hgd : op.guard = none) (t : TypeId) (x y : Operand) (ho : op.op = .store t x y) (hdst : op.dst = none) {k : Nat} (hx : a.eval x = .pointer (some ⟨g, k, none⟩)) (hk : k < n) {u : Value} (hy : a.eval y = u) (h1 : u.oneCell' = true) (hi : (P.info? t).map (·.size) = some 1)
  (hK : ∀ w' M', Has σ M' w' → M0.le M' → Own M0 M' e 1 (.slice (some ⟨g, 0, none⟩) n cap) n (xs.set k u) → wpList P ops Q rest a w') : wpList P ops Q (op :: rest) a w := by
 obtain ⟨cur, hg, hlt, hown', hng⟩ := hown.put k u
 refine wpList_store1_has h (by simp [Region.wanted, hgd]) t x y ho hdst hx hg (by omega) (by rw [hy]; exact h1) hi ?_
 intro w' h'
 rw [hy] at h'
 exact hK w' _ h' (Mm.le_upd hle hng _) hown'
end
def learn (K M M' : Mm) : Mm := fun c => match M c with | none => M' c | some _ => K c
def stable (K : Mm) (labK : Nat → Nat) : Mm := fun c => if labK c = 0 then K c else none
/-- What is known, but for a row of the law's. -/
def outK (K M : Mm) (labK : Nat → Nat) (j : Nat) : Mm := fun c => match K c with | none => M c | some _ => if labK c = j then none else M c
section
variable {K M M' K' : Mm} {lab lab' labK labK' : Nat → Nat} {p n sz j : Nat} {s : MachS} {e : TypeId} {v : Value} {xs : List Value}
theorem Mach.learn (hM : Mach M lab p s) (hB : Base K M lab) (hle : M.le M') : ∃ lab', Mach M' lab' p s ∧ Base (learn K M M') M' lab' :=
 hM.more hB hle fun c o hc => by
  unfold Go.Proofs.YtjeeldacnllipaaGreat.learn at hc
  cases hm : M c with
  | none => rw [hm] at hc; exact ⟨hc, .inr rfl⟩
  | some x => rw [hm] at hc; exact ⟨hle _ _ (hB c o hc).1, .inl hc⟩
theorem learn_kp (hB : K.le M) (M' : Mm) (labK : Nat → Nat) : Kp Non K labK (learn K M M') (relab K labK fun _ => 0) := fun c o hc _ => by
 unfold learn relab
 rw [hB c o hc, hc]
 exact ⟨rfl, rfl⟩
theorem learn_rd (hB : K.le M) (labK : Nat → Nat) (ho : Own M M' e sz v n xs) : Rd (stable (learn K M M') (relab K labK fun _ => 0)) sz v n xs :=
 ho.rd_in fun c x hn hx => by
  have hk : K c = none := by
   cases h : K c with
   | none => rfl
   | some o => rw [hB c o h] at hn; cases hn
  unfold stable learn relab
  rw [hn, hk]
  exact hx
theorem stable_le (K : Mm) (labK : Nat → Nat) : (stable K labK).le K := fun c o h => by unfold stable at h; split at h; exact h; cases h
theorem stable_kp {A : Nat → Prop} (h : Kp A K labK K' labK') (hA : ¬ A 0) : (stable K labK).le (stable K' labK') := fun c o hc => by
 unfold stable at hc ⊢
 split at hc
 ·rename_i h0
  obtain ⟨a, b⟩ := h.get hc h0 hA
  rw [if_pos b]; exact a
 ·cases hc
theorem outK_le (K M : Mm) (labK : Nat → Nat) (j : Nat) : (outK K M labK j).le M := fun c o h => by
 unfold outK at h
 split at h
 ·exact h
 ·split at h
  ·cases h
  ·exact h
theorem outK_of {c : Nat} {o : Obj} (hB : K.le M) (hc : K c = some o) (hl : labK c ≠ j) : outK K M labK j c = some o := by
 unfold outK
 rw [hc]
 simp only [if_neg hl]
 exact hB _ _ hc
theorem Row.up (h : Row K labK j e sz v n xs) (hB : K.le M) : Own (outK K M labK j) M e sz v n xs := by
 obtain ⟨hl, ⟨hv, h0⟩ | ⟨g, cap, cur, hv, hg, hh, r⟩⟩ := h
 ·exact ⟨hl, .inl ⟨hv, h0⟩⟩
 ·have hgk : labK g = j := by
   by_cases e : labK g = j
   ·exact e
   ·rw [Mm.out_of hh e] at hg; cases hg
  refine ⟨hl, .inr ⟨g, cap, cur, hv, ?_, hB _ _ hh, r⟩⟩
  unfold outK
  rw [hh]
  simp only [if_pos hgk]
/-- A row of the law's is another one. -/
theorem Mach.rowTo (hM : Mach M lab p s) (hB : Base K M lab) (hle : (outK K M labK j).le M') (ho : Own (outK K M labK j) M' e sz v n xs) : ∃ lab' K' labK', Mach M' lab' p s ∧ Base K' M' lab' ∧ Kp (fun k => k = j) K labK K' labK' ∧ Row K' labK' j e sz v n xs := by
 have hO : ∀ c o, K c = some o → labK c ≠ j → outK K M labK j c = some o := fun c o hc hl => outK_of hB.le hc hl
 have hMO : ∀ c o, M c = some o → lab c ≠ 0 → outK K M labK j c = some o := fun c o hc hl => by
  have hk : K c = none := by
   cases h : K c with
   | none => rfl
   | some x => exact absurd (hB c x h).2 hl
  unfold outK
  rw [hk]
  exact hc
 obtain ⟨hl, ⟨hv, h0⟩ | ⟨g, cap, cur, hv, hg, hh, r⟩⟩ := ho
 ·refine ⟨lab, K.out labK j, labK, hM.keep (A := fun k => k = 0) (fun c o hc hA => ⟨hle _ _ (hMO c o hc hA), rfl⟩) (fun k hk => by omega), fun c o hc => ?_, fun c o hc hA => ⟨Mm.out_of hc hA, rfl⟩, hl, .inl ⟨hv, h0⟩⟩
  have hl2 : labK c ≠ j := fun e => by rw [Mm.out_none e] at hc; cases hc
  have hc2 := Mm.out_le _ _ _ _ _ hc
  exact ⟨hle _ _ (hO c o hc2 hl2), (hB c o hc2).2⟩
 ·have hne : ∀ c o, outK K M labK j c = some o → c ≠ g := fun c o hc e => by subst e; rw [hc] at hg; cases hg
  refine ⟨fun c => if c = g then 0 else lab c, fun c => if c = g then M' g else K.out labK j c, fun c => if c = g then j else labK c, hM.keep (A := fun k => k = 0) (fun c o hc hA => ⟨hle _ _ (hMO c o hc hA), if_neg (hne c o (hMO c o hc hA))⟩) (fun k hk => by omega), fun c o hc => ?_, fun c o hc hA => ?_, hl, .inr ⟨g, cap, cur, hv, ?_, ?_, r⟩⟩
  ·by_cases h1 : c = g
   ·subst h1; simp only [if_true] at hc ⊢; exact ⟨hc, trivial⟩
   ·simp only [if_neg h1] at hc ⊢
    have hl2 : labK c ≠ j := fun e => by rw [Mm.out_none e] at hc; cases hc
    have hc2 := Mm.out_le _ _ _ _ _ hc
    exact ⟨hle _ _ (hO c o hc2 hl2), (hB c o hc2).2⟩
  ·have h1 := hne c o (hO c o hc hA)
   simp only [if_neg h1]
   exact ⟨Mm.out_of hc hA, trivial⟩
  ·exact Mm.out_none (by simp)
  ·simp only [if_true]; exact hh
end
end
section
open Go.RowKit
section
variable {P : Program} {op : Oper} {a : Act} {ops : Array Oper} {σ w : World} {M M0 : Mm} {Q : Exit → Act → World → Prop} {K : Act → World → Prop} {E : Prop}
/-- A variable is made, at a step of a region that draws. -/
theorem step_alloc (h : Has σ M w) (hg : op.guard = none) (t : TypeId) (ho : op.op = .alloc t) (z : Value) (hz : (P.info? t).bind (·.zero) = some z)
  (hk : ∀ b w', Has σ (M.upd b (.cells z.cells t)) w' → M b = none → K (a.put op.dst (.pointer (some ⟨b, 0, none⟩))) w') : if Region.wanted op (yielded ops a.tmps) = true then Oper.wp P op a w K Q else E := by
 have hw : Region.wanted op (yielded ops a.tmps) = true := by simp [Region.wanted, hg]
 rw [if_pos hw]
 cases hi : P.info? t with
 | none => simp [hi] at hz
 | some i =>
  have hz : i.zero = some z := by simpa [hi] using hz
  unfold Oper.wp execOp
  simp [ho, Instr.alloc, zeroValue, typeInfo, hi, hz, newVar, newRow, Sem.run_bind, Sem.run_pure, Result.andThen_ok]
  exact hk w.heap.size (w.alloc (.cells z.cells t)) (h.alloc _) h.fresh
/-- One cell of a row of the call's own is stored, at a step of a region that draws. -/
theorem step_putOne {e : TypeId} {n g cap : Nat} {xs : List Value} (h : Has σ M w) (hle : M0.le M) (hown : Own M0 M e 1 (.slice (some ⟨g, 0, none⟩) n cap) n xs)
  (hgd : op.guard = none) (t : TypeId) (x y : Operand) (ho : op.op = .store t x y) (hdst : op.dst = none) {k : Nat} (hx : a.eval x = .pointer (some ⟨g, k, none⟩)) (hk : k < n) {u : Value} (hy : a.eval y = u) (h1 : u.oneCell' = true) (hi : (P.info? t).map (·.size) = some 1)
  (hK : ∀ w' M', Has σ M' w' → M0.le M' → Own M0 M' e 1 (.slice (some ⟨g, 0, none⟩) n cap) n (xs.set k u) → K a w') : if Region.wanted op (yielded ops a.tmps) = true then Oper.wp P op a w K Q else E := by
 obtain ⟨cur, hg, hlt, hown', hng⟩ := hown.put k u
 exact step_store1 h hgd t x y ho hdst hx hg (by omega) hy h1 hi fun w' h' => hK w' _ h' (Mm.le_upd hle hng _) hown'
/-- append of a literal made just now, at a step of a region that draws. -/
theorem step_applit {M0 : Mm} {w1 : World} {row : Array Value} {e' : TypeId} (h : Has σ M w) (hle : M0.le M) (hg : op.guard = none) (s x : Operand) (t : TypeId)
  (ho : op.op = .call { callee := .builtin .append, args := #[s, x], argTypes := #[t, t] })
  (hww : w1 = w.alloc (.cells row e'))
  {e : TypeId} {z : Value} {size bytes : Nat} (ht : P.underlying t = some (.slice e)) (hi : (P.info? e).map (fun i => (i.zero, i.size, i.bytes)) = some (some z, size, bytes)) (hzs : z.cells.size = size) (hsz : 0 < size)
  {v : Value} {n : Nat} {xs : List Value} (hs : a.eval s = v) (hown : Own M0 M e size v n xs) {m : Nat} (hx : a.eval x = .slice (some ⟨w.heap.size, 0, none⟩) m m) (hl : row.size = m * size) (h1 : row.toList.all (·.oneCell') = true)
  (h63 : n + m ≤ 140737488355328) (hbytes : (n + m) * bytes ≤ 140737488355328)
  (hk : ∀ v' w', Acc σ M0 w' e size v' (n + m) (xs ++ row.toList) → K (a.put op.dst v') w') : if Region.wanted op (yielded ops a.tmps) = true then Oper.wp P op a w1 K Q else E := by
 have hw : Region.wanted op (yielded ops a.tmps) = true := by simp [Region.wanted, hg]
 rw [if_pos hw]
 subst hww
 obtain ⟨i, hi1, hz, hsize, hby⟩ := info_parts hi
 have hc : ∀ j x, row.toList[j]? = some x → (w.alloc (.cells row e')).cell? ((⟨w.heap.size, 0, none⟩ : Addr).add j) = some x := fun j x hx => by
  rw [Addr.add_mid, Nat.zero_add, cell_of_row _ _ j row e' (0, 0) (heap_alloc_new w _)]
  simpa using hx
 obtain ⟨v', w', hr, M', hH, hl', hO, _⟩ := run_append_own_has (P := P) (h.quietAlloc (.cells row e')) hle t op.type e i z size bytes ht hi1 hz hsize hby hzs hsz hown (.slice (some ⟨w.heap.size, 0, none⟩) m m) (m := m) (news := row.toList)
  (.inr ⟨_, _, rfl, hc⟩) (by simpa using hl) (fun u hu => (List.all_eq_true.1 h1) u hu) (by unfold maxLen; omega) hbytes
 unfold Oper.wp execOp
 simp only [ho, resolve, invoke, builtin, Sem.run_bind, Sem.run_pure, Result.andThen_ok, List.map_toArray, List.map_cons, List.map_nil, hs, hx, hr]
 exact hk v' w' ⟨M', hH, hl', hO⟩
end
/-- One block is known, and no other. -/
def Mm.one (b : Nat) (o : Obj) : Mm := fun c => if c = b then some o else none
theorem Mm.one_get (b : Nat) (o : Obj) : Mm.one b o b = some o := if_pos rfl
theorem Mm.one_le {b : Nat} {o : Obj} {M : Mm} (h : M b = some o) : (Mm.one b o).le M := fun c o' hc => by
 unfold Mm.one at hc
 split at hc
 ·next e => subst e; cases hc; exact h
 ·cases hc
end
section
open Go.RowKit


theorem li_zrun : (Tryz.prog.info? 124).bind (·.zero) = some (.agg #[.pointer none, .int .i64 0, .pointer none, .pointer none]) := by kernel_rfl
set_option maxHeartbeats 2000000 in
set_option maxRecDepth 20000 in
/-- Do of another routine. -/
theorem li_doOther {σ w : World} {K M : Mm} {lab : Nat → Nat} {p t q b : Nat} {s : MachS} {fs : List FrameS} {f : FrameS} (h : Has σ M w) (hT : AtTop K M lab p s t q b fs f) (h10 : f.fn ≠ 20) (h11 : f.fn ≠ 21) (h12 : f.fn ≠ 22) (h13 : f.fn ≠ 23) (hfs : fs.length < 1000000) {R : MachS → Prop} (hstep : ∀ (K1 M1 : Mm) (lab1 : Nat → Nat) (w1 : World), Has σ M1 w1 → AtTop K1 M1 lab1 p s t q b fs f → Calls Tryz.prog 63 #[.pointer (some ⟨p, 0, none⟩), .int .i64 (t : Nat)] w1 fun r w' => r = .returned (.tuple #[]) ∧ ∃ M' lab' s', Has σ M' w' ∧ Mach M' lab' p s' ∧ Base K1 M' lab' ∧ R s') : Calls Tryz.prog 15 #[.pointer (some ⟨p, 0, none⟩), .int .i64 (t : Nat)] w fun r w' => r = .returned (.tuple #[]) ∧ ∃ M' lab' s', Has σ M' w' ∧ Base K M' lab' ∧ Mach M' lab' p s' ∧ R s' := by
 obtain ⟨fv, hv, fbs, hTh⟩ := hT.thr
 have hlen : fbs.length = fs.length := by
  have h1 := hTh.flen
  rw [hT.fr] at h1
  simpa using h1
 have TH := Lib.hid (fun (w : World) (h : Has σ M w) => mThread_yes h hT.mach hT.tp)
 have TP := Lib.hid (fun (w : World) (h : Has σ M w) => thrTop_eq h hTh (by omega))
 have hfb := hT.obj
 have f0 : f.row[0]? = some (.int .i64 f.fn) := rfl
 have HT := Lib.hid hT
 have HS := Lib.hid hstep
 have g1 : (f.fn == 20) = false := beq_eq_false_iff_ne.2 h10
 have g2 : (f.fn == 21) = false := beq_eq_false_iff_ne.2 h11
 have g3 : (f.fn == 22) = false := beq_eq_false_iff_ne.2 h12
 have g4 : (f.fn == 23) = false := beq_eq_false_iff_ne.2 h13
 clear hT hTh hlen hfs hstep h10 h11 h12 h13
 generalize f.row = fr0 at *
 generalize hfnn : f.fn = fnn at *
 clear hfnn
 go_enter Tryz.func15, Tryz.ntmps15
 go_upto_region 3 with (first
  | (go_at_call 13; refine (TH.out _ h).mono ?_; clear h; rintro _ w ⟨rfl, h⟩)
  | (go_at_call 32; refine (TP.out _ h).mono ?_; clear h; rintro _ w ⟨rfl, h⟩)
  | ((with_reducible show wpList _ _ _ ({ dst := _, op := Op.alloc 124, type := _, pos := _, after := _, guard := _ } :: _) _ _); refine wpList_alloc_has h rfl 124 rfl _ li_zrun ?_; clear h; intro bx w h hnx; try simp only [Act.put, List.setIfInBounds_toArray, List.set_cons_zero, List.set_cons_succ])
  | ((with_reducible show wpList _ _ _ ({ dst := _, op := Op.store 124 _ _, type := _, pos := _, after := _, guard := _ } :: _) _ _); refine wpList_storeAll_has (cells := runC p t q b) h rfl 124 _ _ rfl rfl rfl (Mm.upd_same _ _ _) rfl rfl rfl (by kernel_rfl) rfl ?_; clear h; intro w h))
 rw [Mm.upd_upd] at h
 have hfb1 := Mm.upd_of (o := .cells (runC p t q b) 124) hnx hfb
 have hle := Mm.le_upd' hnx (.cells (runC p t q b) 124)
 have hbx := Mm.upd_same M bx (.cells (runC p t q b) 124)
 generalize M.upd bx _ = M1 at h hfb1 hle hbx
 obtain ⟨lab1, hT1⟩ := HT.out.more1 hle hnx hbx
 have hnK : K bx = none := by
  cases e : K bx with
  | none => rfl
  | some o => have := (HT.out.base _ _ e).1; rw [hnx] at this; cases this
 have HKK := Lib.hid (Mm.le_upd' hnK (.cells (runC p t q b) 124))
 have ST := Lib.hid (fun (w : World) (h : Has σ M1 w) => HS.out _ M1 lab1 w h hT1)
 clear hT1 hnK hnx hle TH TP
 go_wp2_with (first
  | (with_reducible show wpList _ _ _ ({ dst := _, op := Op.load 3 _, type := _, pos := _, after := _, guard := _ } :: _) _ _; refine wpList_load1_has h rfl 3 _ rfl rfl hfb1 f0 Tryz.underlying3 rfl ?_)
  | (go_at_call 63; refine (ST.out _ h).mono ?_; clear h; rintro _ w ⟨rfl, M2, lab2, s2, h, hM2, hB2, hR2⟩))
 go_end0
 exact ⟨rfl, M2, lab2, s2, h, fun c o hc => hB2 c o (HKK.out _ _ hc), hM2, hR2⟩
end
section
open Go.RowKit


theorem ep_zrun : (Tryz.prog.info? 170).bind (·.zero) = some (.agg #[.pointer none, .int .i64 0, .pointer none, .pointer none]) := by kernel_rfl
set_option maxHeartbeats 2000000 in
set_option maxRecDepth 20000 in
/-- Do of another routine. -/
theorem ep_doOther {σ w : World} {K M : Mm} {lab : Nat → Nat} {p t q b : Nat} {s : MachS} {fs : List FrameS} {f : FrameS} (h : Has σ M w) (hT : AtTop K M lab p s t q b fs f) (h10 : f.fn ≠ 10) (h11 : f.fn ≠ 11) (h12 : f.fn ≠ 12) (hfs : fs.length < 1000000) {R : MachS → Prop} (hstep : ∀ (K1 M1 : Mm) (lab1 : Nat → Nat) (w1 : World), Has σ M1 w1 → AtTop K1 M1 lab1 p s t q b fs f → Calls Tryz.prog 105 #[.pointer (some ⟨p, 0, none⟩), .int .i64 (t : Nat)] w1 fun r w' => r = .returned (.tuple #[]) ∧ ∃ M' lab' s', Has σ M' w' ∧ Mach M' lab' p s' ∧ Base K1 M' lab' ∧ R s') : Calls Tryz.prog 63 #[.pointer (some ⟨p, 0, none⟩), .int .i64 (t : Nat)] w fun r w' => r = .returned (.tuple #[]) ∧ ∃ M' lab' s', Has σ M' w' ∧ Base K M' lab' ∧ Mach M' lab' p s' ∧ R s' := by
 obtain ⟨fv, hv, fbs, hTh⟩ := hT.thr
 have hlen : fbs.length = fs.length := by
  have h1 := hTh.flen
  rw [hT.fr] at h1
  simpa using h1
 have TH := Lib.hid (fun (w : World) (h : Has σ M w) => mThread_yes h hT.mach hT.tp)
 have TP := Lib.hid (fun (w : World) (h : Has σ M w) => thrTop_eq h hTh (by omega))
 have hfb := hT.obj
 have f0 : f.row[0]? = some (.int .i64 f.fn) := rfl
 have HT := Lib.hid hT
 have HS := Lib.hid hstep
 have g1 : (f.fn == 10) = false := beq_eq_false_iff_ne.2 h10
 have g2 : (f.fn == 11) = false := beq_eq_false_iff_ne.2 h11
 have g3 : (f.fn == 12) = false := beq_eq_false_iff_ne.2 h12
 clear hT hTh hlen hfs hstep h10 h11 h12
 generalize f.row = fr0 at *
 generalize hfnn : f.fn = fnn at *
 clear hfnn
 go_enter Tryz.func63, Tryz.ntmps63
 go_upto_region 3 with (first
  | (go_at_call 13; refine (TH.out _ h).mono ?_; clear h; rintro _ w ⟨rfl, h⟩)
  | (go_at_call 32; refine (TP.out _ h).mono ?_; clear h; rintro _ w ⟨rfl, h⟩)
  | ((with_reducible show wpList _ _ _ ({ dst := _, op := Op.alloc 170, type := _, pos := _, after := _, guard := _ } :: _) _ _); refine wpList_alloc_has h rfl 170 rfl _ ep_zrun ?_; clear h; intro bx w h hnx; try simp only [Act.put, List.setIfInBounds_toArray, List.set_cons_zero, List.set_cons_succ])
  | ((with_reducible show wpList _ _ _ ({ dst := _, op := Op.store 170 _ _, type := _, pos := _, after := _, guard := _ } :: _) _ _); refine wpList_storeAll_has (cells := runC p t q b) h rfl 170 _ _ rfl rfl rfl (Mm.upd_same _ _ _) rfl rfl rfl (by kernel_rfl) rfl ?_; clear h; intro w h))
 rw [Mm.upd_upd] at h
 have hfb1 := Mm.upd_of (o := .cells (runC p t q b) 170) hnx hfb
 have hle := Mm.le_upd' hnx (.cells (runC p t q b) 170)
 have hbx := Mm.upd_same M bx (.cells (runC p t q b) 170)
 generalize M.upd bx _ = M1 at h hfb1 hle hbx
 obtain ⟨lab1, hT1⟩ := HT.out.more1 hle hnx hbx
 have hnK : K bx = none := by
  cases e : K bx with
  | none => rfl
  | some o => have := (HT.out.base _ _ e).1; rw [hnx] at this; cases this
 have HKK := Lib.hid (Mm.le_upd' hnK (.cells (runC p t q b) 170))
 have ST := Lib.hid (fun (w : World) (h : Has σ M1 w) => HS.out _ M1 lab1 w h hT1)
 clear hT1 hnK hnx hle TH TP
 go_wp2_with (first
  | (with_reducible show wpList _ _ _ ({ dst := _, op := Op.load 3 _, type := _, pos := _, after := _, guard := _ } :: _) _ _; refine wpList_load1_has h rfl 3 _ rfl rfl hfb1 f0 Tryz.underlying3 rfl ?_)
  | (go_at_call 105; refine (ST.out _ h).mono ?_; clear h; rintro _ w ⟨rfl, M2, lab2, s2, h, hM2, hB2, hR2⟩))
 go_end0
 exact ⟨rfl, M2, lab2, s2, h, fun c o hc => hB2 c o (HKK.out _ _ hc), hM2, hR2⟩
end
section
open Go.RowKit
set_option maxHeartbeats 4000000 in
set_option maxRecDepth 20000 in
/-- The top is read. -/
theorem give_7 {σ w : World} {K M : Mm} {lab : Nat → Nat} {p t q b : Nat} {s : MachS} {fs : List FrameS} {f : FrameS} (h : Has σ M w) (hT : AtTop K M lab p s t q b fs f) (hat : f.at_ = 7) {sl : Nat} (h0 : f.r 0 = (sl : Int)) (hsl : sl < 256) {a : Int} (SP : SpotAt σ M p t 0 0 0 a) (hb1 : s.mem.acc < 1000000000) :
  Calls Tryz.prog 133 #[.agg (runC p t q b)] w fun r w' => r = .returned (.tuple #[]) ∧ ∃ M' lab', Has σ M' w' ∧ AtTop K M' lab' p (MachS.top { s with mem := s.mem.at_ a } t fs ((f.reg 1 (s.mem.load a)).goto 8)) t q b fs ((f.reg 1 (s.mem.load a)).goto 8) := by
 have d0 : (runC p t q b)[0]? = some (.pointer (some ⟨p, 0, none⟩)) := rfl
 have d1 : (runC p t q b)[1]? = some (.int .i64 (t : Nat)) := rfl
 have d2 : (runC p t q b)[2]? = some (.pointer (some ⟨q, 0, none⟩)) := rfl
 have d3 : (runC p t q b)[3]? = some (.pointer (some ⟨b, 0, none⟩)) := rfl
 have dx : (runC p t q b).extract 0 (0 + 4) = runC p t q b := rfl
 have dz : (runC p t q b).size = 4 := rfl
 have f1 : f.row[1]? = some (.int .i64 7) := by rw [← hat]; rfl
 have f2 : f.row[2]? = some (.int .u64 (sl : Nat)) := by rw [← h0]; rfl
 have us : IntKind.i64.wrap ((sl : Nat) : Int) = ((sl : Nat) : Int) := IntWalk.i64_in _ (by omega)
 clear hat
 go_enter Tryz.func133, Tryz.ntmps133
 go_upto_region 1 with (fail)
 obtain ⟨M1, hbx, hle, hb4, hn⟩ := h.box (.cells (runC p t q b) 193)
 generalize w.alloc _ = wx at hbx ⊢
 generalize w.heap.size = b4 at hb4 hn ⊢
 clear h
 try clear w
 have h := hbx
 clear hbx
 obtain ⟨w, rfl⟩ : ∃ x : World, x = wx := ⟨_, rfl⟩
 obtain ⟨lab1, hT1⟩ := hT.more1 hle hn hb4
 have hnK : K b4 = none := by
  cases e : K b4 with
  | none => rfl
  | some o => have := (hT.base _ _ e).1; rw [hn] at this; cases this
 have hKK : K.le (K.upd b4 (.cells (runC p t q b) 193)) := Mm.le_upd' hnK _
 have hbK : (K.upd b4 (.cells (runC p t q b) 193)) b4 = some (.cells (runC p t q b) 193) := Mm.upd_same _ _ _
 have hfb := hT1.obj
 have TP := Lib.hid (fun (w : World) (h : Has σ M1 w) => runTop_eq h hT1 (SP.le hle) hb1 8)
 have HK := Lib.hid hKK
 clear hT hT1 SP hb1 hn hnK hKK h0
 generalize runC p t q b = rc at *
 generalize f.row = fr0 at *
 go_wp2_with (first
  | (with_reducible show wpList _ _ _ ({ dst := _, op := Op.load 70 _, type := _, pos := _, after := _, guard := _ } :: _) _ _; refine wpList_load1_has h rfl 70 _ rfl rfl hb4 d3 Tryz.underlying70 rfl ?_)
  | (with_reducible show wpList _ _ _ ({ dst := _, op := Op.load 42 _, type := _, pos := _, after := _, guard := _ } :: _) _ _; refine wpList_load1_has h rfl 42 _ rfl rfl hfb f2 Tryz.underlying42 rfl ?_)
  | (with_reducible show wpList _ _ _ ({ dst := _, op := Op.load 3 _, type := _, pos := _, after := _, guard := _ } :: _) _ _; refine wpList_load1_has h rfl 3 _ rfl rfl hfb f1 Tryz.underlying3 rfl ?_)
  | ((with_reducible show wpList _ _ _ ({ dst := _, op := Op.load 190 _, type := _, pos := _, after := _, guard := _ } :: _) _ _); refine wpList_agg_has h rfl 190 _ rfl rfl hb4 dx dz Tryz.underlying190 rfl (by kernel_rfl) ?_; try simp only [Act.put, List.setIfInBounds_toArray, List.set_cons_zero, List.set_cons_succ])
  | (go_at_call 139; refine (TP.out _ h).mono ?_; clear h; rintro _ w ⟨rfl, M2, lab2, h, hT2⟩))
 go_end0
 exact ⟨rfl, M2, lab2, h, hT2.less HK.out⟩
set_option maxHeartbeats 4000000 in
set_option maxRecDepth 20000 in
/-- The head is read: the slot's generation, and one more. -/
theorem give_0 {σ w : World} {K M : Mm} {lab : Nat → Nat} {p t q b lv : Nat} {s : MachS} {fs : List FrameS} {f : FrameS} (h : Has σ M w) (hT : AtTop K M lab p s t q b fs f) (hat : f.at_ = 0) {sl z : Nat} (h0 : f.r 0 = (sl : Int)) (hsl : sl < 256) (hlv : levelOf s.c (t : Nat) = (lv : Nat)) (hlc : (lv : Int) < s.c 0) (hin : InK s.c 9 (sl : Nat) 0) (hz : s.mem.load (atK s.c lv 9 (sl : Nat) 0) = (z : Int)) (hz64 : z < 18446744073709551616) (hb1 : s.mem.acc < 1000000000) :
  Calls Tryz.prog 133 #[.agg (runC p t q b)] w fun r w' => r = .returned (.tuple #[]) ∧ ∃ M' lab', Has σ M' w' ∧ AtTop K M' lab' p (MachS.top { s with mem := s.mem.at_ (atK s.c lv 9 (sl : Nat) 0) } t fs ((f.reg 2 ((cutN z 2 32 : Nat) + 1)).goto 1)) t q b fs ((f.reg 2 ((cutN z 2 32 : Nat) + 1)).goto 1) := by
 have d0 : (runC p t q b)[0]? = some (.pointer (some ⟨p, 0, none⟩)) := rfl
 have d1 : (runC p t q b)[1]? = some (.int .i64 (t : Nat)) := rfl
 have d2 : (runC p t q b)[2]? = some (.pointer (some ⟨q, 0, none⟩)) := rfl
 have d3 : (runC p t q b)[3]? = some (.pointer (some ⟨b, 0, none⟩)) := rfl
 have dx : (runC p t q b).extract 0 (0 + 4) = runC p t q b := rfl
 have dz : (runC p t q b).size = 4 := rfl
 have f1 : f.row[1]? = some (.int .i64 0) := by rw [← hat]; rfl
 have f2 : f.row[2]? = some (.int .u64 (sl : Nat)) := by rw [← h0]; rfl
 have us : IntKind.i64.wrap ((sl : Nat) : Int) = ((sl : Nat) : Int) := IntWalk.i64_in _ (by omega)
 clear hat
 have HS := Lib.hid (handleState_any z hz64)
 have lz : cutN z 2 32 < 4294967296 := cutN_lt z 2 32
 have SPA := spotAt_of (σ := σ) hT.mach hlv hlc hin
 obtain ⟨a, ha⟩ : ∃ a, atK s.c lv 9 (sl : Nat) 0 = a := ⟨_, rfl⟩
 rw [ha] at hz SPA ⊢
 obtain ⟨g1, hg1⟩ : ∃ g, cutN z 2 32 = g := ⟨_, rfl⟩
 rw [hg1] at HS lz ⊢
 generalize cutN z 0 2 = g2 at HS
 have ug : IntKind.i64.wrap ((g1 : Int) + 1) = (g1 : Int) + 1 := IntWalk.i64_in _ (by omega)
 have ug2 : IntKind.u64.wrap ((g1 : Int) + 1) = (g1 : Int) + 1 := IntWalk.u64_in _ (by omega)
 have ND := Lib.hid (fun (M' : Mm) (w : World) (h : Has σ M' w) (hle : M.le M') => runNode_eq (q := q) (b := b) h (SPA.le hle))
 clear h0 ha hg1 hlv hlc hin SPA hz64
 go_enter Tryz.func133, Tryz.ntmps133
 go_upto_region 1 with (fail)
 obtain ⟨M1, hbx, hle, hb4, hn⟩ := h.box (.cells (runC p t q b) 193)
 generalize w.alloc _ = wx at hbx ⊢
 generalize w.heap.size = b4 at hb4 hn ⊢
 clear h
 try clear w
 have h := hbx
 clear hbx
 obtain ⟨w, rfl⟩ : ∃ x : World, x = wx := ⟨_, rfl⟩
 obtain ⟨lab1, hT1⟩ := hT.more1 hle hn hb4
 have hnK : K b4 = none := by
  cases e : K b4 with
  | none => rfl
  | some o => have := (hT.base _ _ e).1; rw [hn] at this; cases this
 have hKK : K.le (K.upd b4 (.cells (runC p t q b) 193)) := Mm.le_upd' hnK _
 have hbK : (K.upd b4 (.cells (runC p t q b) 193)) b4 = some (.cells (runC p t q b) 193) := Mm.upd_same _ _ _
 have hfb := hT1.obj
 have ND1 := Lib.hid (fun (w : World) (h : Has σ M1 w) => ND.out M1 w h hle)
 have ME := Lib.hid (fun (w : World) (h : Has σ M1 w) => mMem_eq h hT1.mach)
 have LD := Lib.hid (fun (w : World) (h : Has σ M1 w) => memLoad_eq h hT1.mach.mem hb1 a)
 rw [hz] at LD
 have KL := hT1.base.le
 have hT2 := hT1.load a
 have KE := hT2.base.le
 obtain ⟨hfb2, hT3⟩ := hT2.frame (f.reg 2 ((g1 : Int) + 1))
 obtain ⟨hfb3, hT4⟩ := hT3.frame ((f.reg 2 ((g1 : Int) + 1)).goto 1)
 rw [MachS.top_top, Mm.upd_upd] at hT4
 have HT := Lib.hid (hT4.less hKK)
 have hsz : 4 < f.row.size := show 4 < 18 by omega
 have hsz3 : 1 < (f.reg 2 ((g1 : Int) + 1)).row.size := show 1 < 18 by omega
 have R1 := Lib.hid (row_reg2 f ((g1 : Int) + 1))
 have R2 := Lib.hid (row_goto (f.reg 2 ((g1 : Int) + 1)) 1)
 clear hT hT1 hT2 hT3 hT4 hn hle hnK hKK hb1 hz ND
 generalize runC p t q b = rc at *
 generalize K.upd b4 _ = K1 at *
 generalize hr0 : f.row = fr0 at *
 generalize hr1 : (f.reg 2 ((g1 : Int) + 1)).row = fr1 at *
 generalize hr2 : ((f.reg 2 ((g1 : Int) + 1)).goto 1).row = fr2 at *
 clear hr0 hr1 hr2
 generalize M1.upd s.mp _ = M2 at *
 go_upto_region 8 with (first
  | (with_reducible show wpList _ _ _ ({ dst := _, op := Op.load 70 _, type := _, pos := _, after := _, guard := _ } :: _) _ _; refine wpList_load1_has h rfl 70 _ rfl rfl hb4 d3 Tryz.underlying70 rfl ?_)
  | (with_reducible show wpList _ _ _ ({ dst := _, op := Op.load 42 _, type := _, pos := _, after := _, guard := _ } :: _) _ _; refine wpList_load1_has h rfl 42 _ rfl rfl hfb f2 Tryz.underlying42 rfl ?_)
  | (with_reducible show wpList _ _ _ ({ dst := _, op := Op.load 3 _, type := _, pos := _, after := _, guard := _ } :: _) _ _; refine wpList_load1_has h rfl 3 _ rfl rfl hfb f1 Tryz.underlying3 rfl ?_))
 clear hfb hb4
 refine wp_region_held_drew (S := Has σ (K1)) (by kernel_rfl) (h.drew.le KL) (fun hHeld => ?_)
 refine wpAnyH_take (i := 0) (v := ?_) rfl (by kernel_rfl) (by kernel_rfl) (by kernel_rfl) (fun _ _ _ h => h) (Or.inl ⟨by rfl, ?_⟩) hHeld ?_
 rotate_left
 ·(intro wz _; go_simp; try with_reducible rfl)
 try simp only [List.getElem_toArray, List.getElem_cons_succ, List.getElem_cons_zero, Act.put, List.setIfInBounds_toArray, List.set_cons_zero, List.set_cons_succ]
 refine wpAnyH_take (i := 1) (v := ?_) rfl (by kernel_rfl) (by kernel_rfl) (by kernel_rfl) (fun _ _ _ h => h) (Or.inl ⟨by rfl, ?_⟩) hHeld ?_
 rotate_left
 ·(intro wz _; go_simp; try with_reducible rfl)
 try simp only [List.getElem_toArray, List.getElem_cons_succ, List.getElem_cons_zero, Act.put, List.setIfInBounds_toArray, List.set_cons_zero, List.set_cons_succ]
 refine wpAnyH_take (i := 2) (v := _) rfl (by kernel_rfl) (by kernel_rfl) (by kernel_rfl) (fun _ _ _ h => h) (yields_load1 rfl 26 _ rfl rfl hbK d0 Tryz.underlying26 rfl) hHeld ?_
 try simp only [List.getElem_toArray, List.getElem_cons_succ, List.getElem_cons_zero, Act.put, List.setIfInBounds_toArray, List.set_cons_zero, List.set_cons_succ]
 refine wpAnyH_take (i := 4) (v := ?_) rfl (by kernel_rfl) (by kernel_rfl) (by kernel_rfl) (fun _ _ _ h => h) (Or.inl ⟨by rfl, ?_⟩) hHeld ?_
 rotate_left
 ·(intro wz _; go_simp; try with_reducible rfl)
 try simp only [List.getElem_toArray, List.getElem_cons_succ, List.getElem_cons_zero, Act.put, List.setIfInBounds_toArray, List.set_cons_zero, List.set_cons_succ]
 refine wpAnyH_take (i := 5) (v := _) rfl (by kernel_rfl) (by kernel_rfl) (by kernel_rfl) (fun _ _ _ h => h) (yields_agg rfl 190 _ rfl rfl hbK dx dz Tryz.underlying190 rfl (by kernel_rfl)) hHeld ?_
 try simp only [List.getElem_toArray, List.getElem_cons_succ, List.getElem_cons_zero, Act.put, List.setIfInBounds_toArray, List.set_cons_zero, List.set_cons_succ]
 refine wpAnyH_take (i := 6) (v := ?_) rfl (by kernel_rfl) (by kernel_rfl) (by kernel_rfl) (fun _ _ _ h => h) (Or.inl ⟨by rfl, ?_⟩) hHeld ?_
 rotate_left
 ·(intro wz _; go_simp; try with_reducible rfl)
 try simp only [List.getElem_toArray, List.getElem_cons_succ, List.getElem_cons_zero, Act.put, List.setIfInBounds_toArray, List.set_cons_zero, List.set_cons_succ]
 replace h := h.drew
 generalize w.drew = w1 at h hHeld ⊢
 clear w
 obtain ⟨w, rfl⟩ : ∃ q : World, q = w1 := ⟨_, rfl⟩
 refine wpAnyH_ready (rs := [3]) (by kernel_rfl) (by simp) ?_
 refine AllReadyH.cons rfl (fun K hK => ?_) AllReadyH.nil
 (go_simp; go_wp2_with (go_at_call 46; refine (ME.out _ h).mono ?_; clear h; rintro _ w ⟨rfl, h⟩))
 refine hK.out _ _ (h.le KL) (fun hHeld => ?_)
 clear hK K
 try simp only [Act.put, List.setIfInBounds_toArray, List.set_cons_zero, List.set_cons_succ]
 refine wpAnyH_ready (rs := [7]) (by kernel_rfl) (by simp) ?_
 refine AllReadyH.cons rfl (fun K hK => ?_) AllReadyH.nil
 (go_simp; go_wp2_with (go_at_call 143; refine (ND1.out _ h).mono ?_; clear h; rintro _ w ⟨rfl, h⟩))
 refine hK.out _ _ (h.le KL) (fun hHeld => ?_)
 clear hK K
 try simp only [Act.put, List.setIfInBounds_toArray, List.set_cons_zero, List.set_cons_succ]
 refine wpAnyH_ready (rs := [8]) (by kernel_rfl) (by simp) ?_
 refine AllReadyH.cons rfl (fun K hK => ?_) AllReadyH.nil
 (go_simp; go_wp2_with (go_at_call 94; refine (LD.out _ h).mono ?_; clear h; rintro _ w ⟨rfl, h⟩))
 refine hK.out _ _ (h.le KE) (fun hHeld => ?_)
 clear hK K
 try simp only [Act.put, List.setIfInBounds_toArray, List.set_cons_zero, List.set_cons_succ]
 refine wpAnyH_ready (rs := [9]) (by kernel_rfl) (by simp) ?_
 refine AllReadyH.cons rfl (fun K hK => ?_) AllReadyH.nil
 (go_simp; go_wp2_with (go_at_call 142; refine (HS.out _).mono ?_; rintro _ w' ⟨rfl, rfl⟩))
 refine hK.out _ _ (h.le KE) (fun hHeld => ?_)
 clear hK K
 try simp only [Act.put, List.setIfInBounds_toArray, List.set_cons_zero, List.set_cons_succ]
 refine wpAnyH_take (i := 10) (v := ?_) rfl (by kernel_rfl) (by kernel_rfl) (by kernel_rfl) (fun _ _ _ h => h) (Or.inl ⟨by rfl, ?_⟩) hHeld ?_
 rotate_left
 ·(intro wz _; go_simp; try with_reducible rfl)
 try simp only [List.getElem_toArray, List.getElem_cons_succ, List.getElem_cons_zero, Act.put, List.setIfInBounds_toArray, List.set_cons_zero, List.set_cons_succ]
 refine wpAnyH_take (i := 11) (v := ?_) rfl (by kernel_rfl) (by kernel_rfl) (by kernel_rfl) (fun _ _ _ h => h) (Or.inl ⟨by rfl, ?_⟩) hHeld ?_
 rotate_left
 ·(intro wz _; go_simp; try with_reducible rfl)
 try simp only [List.getElem_toArray, List.getElem_cons_succ, List.getElem_cons_zero, Act.put, List.setIfInBounds_toArray, List.set_cons_zero, List.set_cons_succ]
 refine wpAnyH_take (i := 12) (v := ?_) rfl (by kernel_rfl) (by kernel_rfl) (by kernel_rfl) (fun _ _ _ h => h) (Or.inl ⟨by rfl, ?_⟩) hHeld ?_
 rotate_left
 ·(intro wz _; go_simp; try with_reducible rfl)
 try simp only [List.getElem_toArray, List.getElem_cons_succ, List.getElem_cons_zero, Act.put, List.setIfInBounds_toArray, List.set_cons_zero, List.set_cons_succ]
 refine wpAnyH_take (i := 13) (v := ?_) rfl (by kernel_rfl) (by kernel_rfl) (by kernel_rfl) (fun _ _ _ h => h) (Or.inl ⟨by rfl, ?_⟩) hHeld ?_
 rotate_left
 ·(intro wz _; go_simp; try with_reducible rfl)
 try simp only [List.getElem_toArray, List.getElem_cons_succ, List.getElem_cons_zero, Act.put, List.setIfInBounds_toArray, List.set_cons_zero, List.set_cons_succ]
 refine wpAnyH_take (i := 14) (v := ?_) rfl (by kernel_rfl) (by kernel_rfl) (by kernel_rfl) (fun _ _ _ h => h) (Or.inl ⟨by rfl, ?_⟩) hHeld ?_
 rotate_left
 ·(intro wz _; go_simp; try with_reducible rfl)
 try simp only [List.getElem_toArray, List.getElem_cons_succ, List.getElem_cons_zero, Act.put, List.setIfInBounds_toArray, List.set_cons_zero, List.set_cons_succ]
 refine wpAnyH_done (by kernel_rfl) ?_ _
 clear hHeld
 go_upto_region 10 with (first
  | (with_reducible show wpList _ _ _ ({ dst := _, op := Op.store 42 _ _, type := _, pos := _, after := _, guard := _ } :: _) _ _; refine wpList_store1_has h rfl 42 _ _ rfl rfl rfl hfb2 hsz rfl (by kernel_rfl) ?_; clear h; intro w h))
 have h0 : Has σ (M2.upd b (.cells (fr0.setIfInBounds 4 (.int .u64 ((g1 : Int) + 1))) 69)) w := h
 rw [R1.out] at h0
 clear h
 have h := h0
 clear h0
 generalize hM3 : M2.upd b (.cells fr1 69) = M3 at h hfb3
 go_wp2_with (first
  | (with_reducible show wpList _ _ _ ({ dst := _, op := Op.store 3 _ _, type := _, pos := _, after := _, guard := _ } :: _) _ _; refine wpList_store1_has h rfl 3 _ _ rfl rfl rfl hfb3 hsz3 rfl (by kernel_rfl) ?_; clear h; intro w h))
 go_end0
 refine ⟨rfl, _, _, ?_, HT.out⟩
 have h0 : Has σ (M2.upd b (.cells (fr1.setIfInBounds 1 (.int .i64 1)) 69)) w := by rw [← hM3, Mm.upd_upd] at h; exact h
 rw [R2.out] at h0
 exact h0
end
section
open Go.RowKit
set_option maxHeartbeats 4000000 in
set_option maxRecDepth 20000 in
/-- The slot is away. -/
theorem give_1 {σ w : World} {K M : Mm} {lab : Nat → Nat} {p t q b lv : Nat} {s : MachS} {fs : List FrameS} {f : FrameS} (h : Has σ M w) (hT : AtTop K M lab p s t q b fs f) (hat : f.at_ = 1) {sl g : Nat} (h0 : f.r 0 = (sl : Int)) (hsl : sl < 256) (hg : f.r 2 = (g : Int) + 1) (hg32 : g < 4294967296) (hlv : levelOf s.c (t : Nat) = (lv : Nat)) (hlc : (lv : Int) < s.c 0) (hin : InK s.c 9 (sl : Nat) 0) (hb1 : s.mem.acc < 1000000000) (hb2 : s.mem.wr < 1000000000) :
  Calls Tryz.prog 133 #[.agg (runC p t q b)] w fun r w' => r = .returned (.tuple #[]) ∧ ∃ M' lab', Has σ M' w' ∧ AtTop K M' lab' p (MachS.top { s with mem := s.mem.store (atK s.c lv 9 (sl : Nat) 0) (mkHead g 3 : Nat) } t fs (f.goto 2)) t q b fs (f.goto 2) := by
 have d0 : (runC p t q b)[0]? = some (.pointer (some ⟨p, 0, none⟩)) := rfl
 have d1 : (runC p t q b)[1]? = some (.int .i64 (t : Nat)) := rfl
 have d2 : (runC p t q b)[2]? = some (.pointer (some ⟨q, 0, none⟩)) := rfl
 have d3 : (runC p t q b)[3]? = some (.pointer (some ⟨b, 0, none⟩)) := rfl
 have dx : (runC p t q b).extract 0 (0 + 4) = runC p t q b := rfl
 have dz : (runC p t q b).size = 4 := rfl
 have f1 : f.row[1]? = some (.int .i64 1) := by rw [← hat]; rfl
 have f2 : f.row[2]? = some (.int .u64 (sl : Nat)) := by rw [← h0]; rfl
 have us : IntKind.i64.wrap ((sl : Nat) : Int) = ((sl : Nat) : Int) := IntWalk.i64_in _ (by omega)
 clear hat
 have f4 : f.row[4]? = some (.int .u64 ((g : Int) + 1)) := by rw [← hg]; rfl
 have HH : Hid (∀ w, Calls Tryz.prog 89 #[.int .i64 (g : Nat), .int .i64 3] w fun r w' => r = .returned (.int .u64 (mkHead g 3 : Nat)) ∧ w = w') := Lib.hid fun w => handleHead_any g 3 (by omega) (by omega) w
 have SPA := spotAt_of (σ := σ) hT.mach hlv hlc hin
 obtain ⟨a, ha⟩ : ∃ a, atK s.c lv 9 (sl : Nat) 0 = a := ⟨_, rfl⟩
 rw [ha] at SPA ⊢
 obtain ⟨v, hv⟩ : ∃ v : Int, ((mkHead g 3 : Nat) : Int) = v := ⟨_, rfl⟩
 rw [hv] at HH ⊢
 have ug : IntKind.i64.wrap ((g : Int) + 1) = (g : Int) + 1 := IntWalk.i64_in _ (by omega)
 have ug2 : IntKind.i64.wrap (g : Int) = (g : Int) := IntWalk.i64_in _ (by omega)
 have ug3 : IntKind.i64.wrap ((g : Int) + 1 - 1) = (g : Int) := by rw [show (g : Int) + 1 - 1 = g by omega]; exact ug2
 have ND := Lib.hid (fun (M' : Mm) (w : World) (h : Has σ M' w) (hle : M.le M') => runNode_eq (q := q) (b := b) h (SPA.le hle))
 clear h0 ha hv hlv hlc hin SPA hg
 go_enter Tryz.func133, Tryz.ntmps133
 go_upto_region 1 with (fail)
 obtain ⟨M1, hbx, hle, hb4, hn⟩ := h.box (.cells (runC p t q b) 193)
 generalize w.alloc _ = wx at hbx ⊢
 generalize w.heap.size = b4 at hb4 hn ⊢
 clear h
 try clear w
 have h := hbx
 clear hbx
 obtain ⟨w, rfl⟩ : ∃ x : World, x = wx := ⟨_, rfl⟩
 obtain ⟨lab1, hT1⟩ := hT.more1 hle hn hb4
 have hnK : K b4 = none := by
  cases e : K b4 with
  | none => rfl
  | some o => have := (hT.base _ _ e).1; rw [hn] at this; cases this
 have hKK : K.le (K.upd b4 (.cells (runC p t q b) 193)) := Mm.le_upd' hnK _
 have hbK : (K.upd b4 (.cells (runC p t q b) 193)) b4 = some (.cells (runC p t q b) 193) := Mm.upd_same _ _ _
 have hfb := hT1.obj
 have ND1 := Lib.hid (fun (w : World) (h : Has σ M1 w) => ND.out M1 w h hle)
 clear ND
 -- behind the entrance: the store of v at a, then the frame goes on at 2
 have ME := Lib.hid (fun (w : World) (h : Has σ M1 w) => mMem_eq h hT1.mach)
 have SE := Lib.hid (fun (w : World) (h : Has σ M1 w) => memStore_eq h hT1.mach.mem hb1 hb2 a v)
 have hne : b4 ≠ b := fun e => by
  subst e
  rw [hb4] at hfb
  simp only [Option.some.injEq, Obj.cells.injEq] at hfb
  exact absurd hfb.2.1 (by decide)
 have hT2 := hT1.store a v
 have KL := Mm.upd_le2 hT1.base.le hT1.obj
 have KE := Mm.upd_le2 hT2.base.le hT2.obj
 have hbK2 : ((K.upd b4 (.cells (runC p t q b) 193)).upd b (.cells f.row 69)) b4 = some (.cells (runC p t q b) 193) := (Mm.upd_ne hne).trans (Mm.upd_same _ _ _)
 have hfK : ((K.upd b4 (.cells (runC p t q b) 193)).upd b (.cells f.row 69)) b = some (.cells f.row 69) := Mm.upd_same _ _ _
 obtain ⟨hfb2, hT3⟩ := hT2.frame (f.goto 2)
 have HT := Lib.hid (hT3.less hKK)
 have hsz : 1 < f.row.size := show 1 < 18 by omega
 have R1 := Lib.hid (row_goto f 2)
 clear hT hT1 hT2 hT3 hb1 hb2 hn hle hnK hKK hne hbK
 generalize runC p t q b = rc at *
 generalize hr0 : f.row = fr0 at *
 generalize hr1 : (f.goto 2).row = fr1 at *
 clear hr0 hr1
 generalize (K.upd b4 _).upd b _ = K1 at KL KE hbK2 hfK
 generalize storeM M1 s.mp s.mem a v = M2 at *
 go_upto_region 12 with (first
  | (with_reducible show wpList _ _ _ ({ dst := _, op := Op.load 70 _, type := _, pos := _, after := _, guard := _ } :: _) _ _; refine wpList_load1_has h rfl 70 _ rfl rfl hb4 d3 Tryz.underlying70 rfl ?_)
  | (with_reducible show wpList _ _ _ ({ dst := _, op := Op.load 42 _, type := _, pos := _, after := _, guard := _ } :: _) _ _; refine wpList_load1_has h rfl 42 _ rfl rfl hfb f2 Tryz.underlying42 rfl ?_)
  | (with_reducible show wpList _ _ _ ({ dst := _, op := Op.load 3 _, type := _, pos := _, after := _, guard := _ } :: _) _ _; refine wpList_load1_has h rfl 3 _ rfl rfl hfb f1 Tryz.underlying3 rfl ?_))
 clear hfb hb4
 refine wp_region_held_drew (S := Has σ (K1)) (by kernel_rfl) (h.drew.le KL) (fun hHeld => ?_)
 refine wpAnyH_take (i := 0) (v := ?_) rfl (by kernel_rfl) (by kernel_rfl) (by kernel_rfl) (fun _ _ _ h => h) (Or.inl ⟨by rfl, ?_⟩) hHeld ?_
 rotate_left
 ·(intro wz _; go_simp; try with_reducible rfl)
 try simp only [List.getElem_toArray, List.getElem_cons_succ, List.getElem_cons_zero, Act.put, List.setIfInBounds_toArray, List.set_cons_zero, List.set_cons_succ]
 refine wpAnyH_take (i := 1) (v := ?_) rfl (by kernel_rfl) (by kernel_rfl) (by kernel_rfl) (fun _ _ _ h => h) (Or.inl ⟨by rfl, ?_⟩) hHeld ?_
 rotate_left
 ·(intro wz _; go_simp; try with_reducible rfl)
 try simp only [List.getElem_toArray, List.getElem_cons_succ, List.getElem_cons_zero, Act.put, List.setIfInBounds_toArray, List.set_cons_zero, List.set_cons_succ]
 refine wpAnyH_take (i := 2) (v := _) rfl (by kernel_rfl) (by kernel_rfl) (by kernel_rfl) (fun _ _ _ h => h) (yields_load1 rfl 26 _ rfl rfl hbK2 d0 Tryz.underlying26 rfl) hHeld ?_
 try simp only [List.getElem_toArray, List.getElem_cons_succ, List.getElem_cons_zero, Act.put, List.setIfInBounds_toArray, List.set_cons_zero, List.set_cons_succ]
 refine wpAnyH_take (i := 4) (v := ?_) rfl (by kernel_rfl) (by kernel_rfl) (by kernel_rfl) (fun _ _ _ h => h) (Or.inl ⟨by rfl, ?_⟩) hHeld ?_
 rotate_left
 ·(intro wz _; go_simp; try with_reducible rfl)
 try simp only [List.getElem_toArray, List.getElem_cons_succ, List.getElem_cons_zero, Act.put, List.setIfInBounds_toArray, List.set_cons_zero, List.set_cons_succ]
 refine wpAnyH_take (i := 5) (v := _) rfl (by kernel_rfl) (by kernel_rfl) (by kernel_rfl) (fun _ _ _ h => h) (yields_agg rfl 190 _ rfl rfl hbK2 dx dz Tryz.underlying190 rfl (by kernel_rfl)) hHeld ?_
 try simp only [List.getElem_toArray, List.getElem_cons_succ, List.getElem_cons_zero, Act.put, List.setIfInBounds_toArray, List.set_cons_zero, List.set_cons_succ]
 refine wpAnyH_take (i := 6) (v := ?_) rfl (by kernel_rfl) (by kernel_rfl) (by kernel_rfl) (fun _ _ _ h => h) (Or.inl ⟨by rfl, ?_⟩) hHeld ?_
 rotate_left
 ·(intro wz _; go_simp; try with_reducible rfl)
 try simp only [List.getElem_toArray, List.getElem_cons_succ, List.getElem_cons_zero, Act.put, List.setIfInBounds_toArray, List.set_cons_zero, List.set_cons_succ]
 refine wpAnyH_take (i := 8) (v := ?_) rfl (by kernel_rfl) (by kernel_rfl) (by kernel_rfl) (fun _ _ _ h => h) (Or.inl ⟨by rfl, ?_⟩) hHeld ?_
 rotate_left
 ·(intro wz _; go_simp; try with_reducible rfl)
 try simp only [List.getElem_toArray, List.getElem_cons_succ, List.getElem_cons_zero, Act.put, List.setIfInBounds_toArray, List.set_cons_zero, List.set_cons_succ]
 refine wpAnyH_take (i := 9) (v := ?_) rfl (by kernel_rfl) (by kernel_rfl) (by kernel_rfl) (fun _ _ _ h => h) (Or.inl ⟨by rfl, ?_⟩) hHeld ?_
 rotate_left
 ·(intro wz _; go_simp; try with_reducible rfl)
 try simp only [List.getElem_toArray, List.getElem_cons_succ, List.getElem_cons_zero, Act.put, List.setIfInBounds_toArray, List.set_cons_zero, List.set_cons_succ]
 refine wpAnyH_take (i := 10) (v := ?_) rfl (by kernel_rfl) (by kernel_rfl) (by kernel_rfl) (fun _ _ _ h => h) (Or.inl ⟨by rfl, ?_⟩) hHeld ?_
 rotate_left
 ·(intro wz _; go_simp; try with_reducible rfl)
 try simp only [List.getElem_toArray, List.getElem_cons_succ, List.getElem_cons_zero, Act.put, List.setIfInBounds_toArray, List.set_cons_zero, List.set_cons_succ]
 refine wpAnyH_take (i := 11) (v := ?_) rfl (by kernel_rfl) (by kernel_rfl) (by kernel_rfl) (fun _ _ _ h => h) (Or.inl ⟨by rfl, ?_⟩) hHeld ?_
 rotate_left
 ·(intro wz _; go_simp; try with_reducible rfl)
 try simp only [List.getElem_toArray, List.getElem_cons_succ, List.getElem_cons_zero, Act.put, List.setIfInBounds_toArray, List.set_cons_zero, List.set_cons_succ]
 refine wpAnyH_take (i := 12) (v := _) rfl (by kernel_rfl) (by kernel_rfl) (by kernel_rfl) (fun _ _ _ h => h) (yields_load1 rfl 42 _ rfl rfl hfK f4 Tryz.underlying42 rfl) hHeld ?_
 try simp only [List.getElem_toArray, List.getElem_cons_succ, List.getElem_cons_zero, Act.put, List.setIfInBounds_toArray, List.set_cons_zero, List.set_cons_succ]
 refine wpAnyH_take (i := 13) (v := ?_) rfl (by kernel_rfl) (by kernel_rfl) (by kernel_rfl) (fun _ _ _ h => h) (Or.inl ⟨by rfl, ?_⟩) hHeld ?_
 rotate_left
 ·(intro wz _; go_simp; try with_reducible rfl)
 try simp only [List.getElem_toArray, List.getElem_cons_succ, List.getElem_cons_zero, Act.put, List.setIfInBounds_toArray, List.set_cons_zero, List.set_cons_succ]
 refine wpAnyH_take (i := 14) (v := ?_) rfl (by kernel_rfl) (by kernel_rfl) (by kernel_rfl) (fun _ _ _ h => h) (Or.inl ⟨by rfl, ?_⟩) hHeld ?_
 rotate_left
 ·(intro wz _; go_simp; try with_reducible rfl)
 try simp only [List.getElem_toArray, List.getElem_cons_succ, List.getElem_cons_zero, Act.put, List.setIfInBounds_toArray, List.set_cons_zero, List.set_cons_succ]
 replace h := h.drew
 generalize w.drew = w1 at h hHeld ⊢
 clear w
 obtain ⟨w, rfl⟩ : ∃ q : World, q = w1 := ⟨_, rfl⟩
 refine wpAnyH_ready (rs := [3]) (by kernel_rfl) (by simp) ?_
 refine AllReadyH.cons rfl (fun K hK => ?_) AllReadyH.nil
 (go_simp; go_wp2_with (go_at_call 46; refine (ME.out _ h).mono ?_; clear h; rintro _ w ⟨rfl, h⟩))
 refine hK.out _ _ (h.le KL) (fun hHeld => ?_)
 clear hK K
 try simp only [Act.put, List.setIfInBounds_toArray, List.set_cons_zero, List.set_cons_succ]
 refine wpAnyH_ready (rs := [7]) (by kernel_rfl) (by simp) ?_
 refine AllReadyH.cons rfl (fun K hK => ?_) AllReadyH.nil
 (go_simp; go_wp2_with (go_at_call 143; refine (ND1.out _ h).mono ?_; clear h; rintro _ w ⟨rfl, h⟩))
 refine hK.out _ _ (h.le KL) (fun hHeld => ?_)
 clear hK K
 try simp only [Act.put, List.setIfInBounds_toArray, List.set_cons_zero, List.set_cons_succ]
 refine wpAnyH_ready (rs := [15]) (by kernel_rfl) (by simp) ?_
 refine AllReadyH.cons rfl (fun K hK => ?_) AllReadyH.nil
 (go_simp; go_wp2_with (go_at_call 89; refine (HH.out _).mono ?_; rintro _ w' ⟨rfl, rfl⟩))
 refine hK.out _ _ (h.le KL) (fun hHeld => ?_)
 clear hK K
 try simp only [Act.put, List.setIfInBounds_toArray, List.set_cons_zero, List.set_cons_succ]
 refine wpAnyH_ready (rs := [16]) (by kernel_rfl) (by simp) ?_
 refine AllReadyH.cons rfl (fun K hK => ?_) AllReadyH.nil
 (go_simp; go_wp2_with (go_at_call 97; refine (SE.out _ h).mono ?_; clear h; rintro _ w ⟨rfl, h⟩))
 refine hK.out _ _ (h.le KE) (fun hHeld => ?_)
 clear hK K
 try simp only [Act.put, List.setIfInBounds_toArray, List.set_cons_zero, List.set_cons_succ]
 refine wpAnyH_done (by kernel_rfl) ?_ _
 clear hHeld
 go_wp2_with (first
  | (with_reducible show wpList _ _ _ ({ dst := _, op := Op.store 3 _ _, type := _, pos := _, after := _, guard := _ } :: _) _ _; refine wpList_store1_has h rfl 3 _ _ rfl rfl rfl hfb2 hsz rfl (by kernel_rfl) ?_; clear h; intro w h))
 go_end0
 refine ⟨rfl, _, _, ?_, HT.out⟩
 have h0 : Has σ (M2.upd b (.cells (fr0.setIfInBounds 1 (.int .i64 2)) 69)) w := h
 rw [R1.out] at h0
 exact h0
set_option maxHeartbeats 4000000 in
set_option maxRecDepth 20000 in
/-- The first slot becomes what is behind this one. -/
theorem give_8 {σ w : World} {K M : Mm} {lab : Nat → Nat} {p t q b lv : Nat} {s : MachS} {fs : List FrameS} {f : FrameS} (h : Has σ M w) (hT : AtTop K M lab p s t q b fs f) (hat : f.at_ = 8) {sl x : Nat} (h0 : f.r 0 = (sl : Int)) (hsl : sl < 256) (hx : f.r 1 = (x : Int)) (hx64 : x < 18446744073709551616) (hlv : levelOf s.c (t : Nat) = (lv : Nat)) (hlc : (lv : Int) < s.c 0) (hin : InK s.c 8 (sl : Nat) 0) (hb1 : s.mem.acc < 1000000000) (hb2 : s.mem.wr < 1000000000) :
  Calls Tryz.prog 133 #[.agg (runC p t q b)] w fun r w' => r = .returned (.tuple #[]) ∧ ∃ M' lab', Has σ M' w' ∧ AtTop K M' lab' p (MachS.top { s with mem := s.mem.store (atK s.c lv 8 (sl : Nat) 0) (cutN x 0 8 : Nat) } t fs (f.goto 9)) t q b fs (f.goto 9) := by
 have d0 : (runC p t q b)[0]? = some (.pointer (some ⟨p, 0, none⟩)) := rfl
 have d1 : (runC p t q b)[1]? = some (.int .i64 (t : Nat)) := rfl
 have d2 : (runC p t q b)[2]? = some (.pointer (some ⟨q, 0, none⟩)) := rfl
 have d3 : (runC p t q b)[3]? = some (.pointer (some ⟨b, 0, none⟩)) := rfl
 have dx : (runC p t q b).extract 0 (0 + 4) = runC p t q b := rfl
 have dz : (runC p t q b).size = 4 := rfl
 have f1 : f.row[1]? = some (.int .i64 8) := by rw [← hat]; rfl
 have f2 : f.row[2]? = some (.int .u64 (sl : Nat)) := by rw [← h0]; rfl
 have us : IntKind.i64.wrap ((sl : Nat) : Int) = ((sl : Nat) : Int) := IntWalk.i64_in _ (by omega)
 clear hat
 have f3 : f.row[3]? = some (.int .u64 (x : Nat)) := by rw [← hx]; rfl
 have UN := Lib.hid (linkUnder_any x hx64)
 have lu : cutN x 0 8 < 256 := cutN_lt x 0 8
 have SPA := spotAt_of (σ := σ) hT.mach hlv hlc hin
 obtain ⟨a, ha⟩ : ∃ a, atK s.c lv 8 (sl : Nat) 0 = a := ⟨_, rfl⟩
 rw [ha] at SPA ⊢
 obtain ⟨u, hu⟩ : ∃ u, cutN x 0 8 = u := ⟨_, rfl⟩
 rw [hu] at UN lu ⊢
 have uu : IntKind.u64.wrap ((u : Nat) : Int) = ((u : Nat) : Int) := IntWalk.u64_in _ (by omega)
 obtain ⟨v, hv⟩ : ∃ v : Int, v = ((u : Nat) : Int) := ⟨_, rfl⟩
 rw [← hv]
 have AN := Lib.hid (fun (M' : Mm) (w : World) (h : Has σ M' w) (hle : M.le M') => runAt_eq (q := q) (b := b) h (SPA.le hle))
 clear h0 ha hu hlv hlc hin SPA hx hx64
 go_enter Tryz.func133, Tryz.ntmps133
 go_upto_region 1 with (fail)
 obtain ⟨M1, hbx, hle, hb4, hn⟩ := h.box (.cells (runC p t q b) 193)
 generalize w.alloc _ = wx at hbx ⊢
 generalize w.heap.size = b4 at hb4 hn ⊢
 clear h
 try clear w
 have h := hbx
 clear hbx
 obtain ⟨w, rfl⟩ : ∃ x : World, x = wx := ⟨_, rfl⟩
 obtain ⟨lab1, hT1⟩ := hT.more1 hle hn hb4
 have hnK : K b4 = none := by
  cases e : K b4 with
  | none => rfl
  | some o => have := (hT.base _ _ e).1; rw [hn] at this; cases this
 have hKK : K.le (K.upd b4 (.cells (runC p t q b) 193)) := Mm.le_upd' hnK _
 have hbK : (K.upd b4 (.cells (runC p t q b) 193)) b4 = some (.cells (runC p t q b) 193) := Mm.upd_same _ _ _
 have hfb := hT1.obj
 have AN1 := Lib.hid (fun (w : World) (h : Has σ M1 w) => AN.out M1 w h hle)
 clear AN
 -- behind the entrance: the store of v at a, then the frame goes on at 9
 have ME := Lib.hid (fun (w : World) (h : Has σ M1 w) => mMem_eq h hT1.mach)
 have SE := Lib.hid (fun (w : World) (h : Has σ M1 w) => memStore_eq h hT1.mach.mem hb1 hb2 a v)
 have hne : b4 ≠ b := fun e => by
  subst e
  rw [hb4] at hfb
  simp only [Option.some.injEq, Obj.cells.injEq] at hfb
  exact absurd hfb.2.1 (by decide)
 have hT2 := hT1.store a v
 have KL := Mm.upd_le2 hT1.base.le hT1.obj
 have KE := Mm.upd_le2 hT2.base.le hT2.obj
 have hbK2 : ((K.upd b4 (.cells (runC p t q b) 193)).upd b (.cells f.row 69)) b4 = some (.cells (runC p t q b) 193) := (Mm.upd_ne hne).trans (Mm.upd_same _ _ _)
 have hfK : ((K.upd b4 (.cells (runC p t q b) 193)).upd b (.cells f.row 69)) b = some (.cells f.row 69) := Mm.upd_same _ _ _
 obtain ⟨hfb2, hT3⟩ := hT2.frame (f.goto 9)
 have HT := Lib.hid (hT3.less hKK)
 have hsz : 1 < f.row.size := show 1 < 18 by omega
 have R1 := Lib.hid (row_goto f 9)
 clear hT hT1 hT2 hT3 hb1 hb2 hn hle hnK hKK hne hbK
 generalize runC p t q b = rc at *
 generalize hr0 : f.row = fr0 at *
 generalize hr1 : (f.goto 9).row = fr1 at *
 clear hr0 hr1
 generalize (K.upd b4 _).upd b _ = K1 at KL KE hbK2 hfK
 generalize storeM M1 s.mp s.mem a v = M2 at *
 subst hv
 go_upto_region 25 with (first
  | (with_reducible show wpList _ _ _ ({ dst := _, op := Op.load 70 _, type := _, pos := _, after := _, guard := _ } :: _) _ _; refine wpList_load1_has h rfl 70 _ rfl rfl hb4 d3 Tryz.underlying70 rfl ?_)
  | (with_reducible show wpList _ _ _ ({ dst := _, op := Op.load 42 _, type := _, pos := _, after := _, guard := _ } :: _) _ _; refine wpList_load1_has h rfl 42 _ rfl rfl hfb f2 Tryz.underlying42 rfl ?_)
  | (with_reducible show wpList _ _ _ ({ dst := _, op := Op.load 3 _, type := _, pos := _, after := _, guard := _ } :: _) _ _; refine wpList_load1_has h rfl 3 _ rfl rfl hfb f1 Tryz.underlying3 rfl ?_))
 clear hfb hb4
 refine wp_region_held_drew (S := Has σ (K1)) (by kernel_rfl) (h.drew.le KL) (fun hHeld => ?_)
 refine wpAnyH_take (i := 0) (v := ?_) rfl (by kernel_rfl) (by kernel_rfl) (by kernel_rfl) (fun _ _ _ h => h) (Or.inl ⟨by rfl, ?_⟩) hHeld ?_
 rotate_left
 ·(intro wz _; go_simp; try with_reducible rfl)
 try simp only [List.getElem_toArray, List.getElem_cons_succ, List.getElem_cons_zero, Act.put, List.setIfInBounds_toArray, List.set_cons_zero, List.set_cons_succ]
 refine wpAnyH_take (i := 1) (v := ?_) rfl (by kernel_rfl) (by kernel_rfl) (by kernel_rfl) (fun _ _ _ h => h) (Or.inl ⟨by rfl, ?_⟩) hHeld ?_
 rotate_left
 ·(intro wz _; go_simp; try with_reducible rfl)
 try simp only [List.getElem_toArray, List.getElem_cons_succ, List.getElem_cons_zero, Act.put, List.setIfInBounds_toArray, List.set_cons_zero, List.set_cons_succ]
 refine wpAnyH_take (i := 2) (v := _) rfl (by kernel_rfl) (by kernel_rfl) (by kernel_rfl) (fun _ _ _ h => h) (yields_load1 rfl 26 _ rfl rfl hbK2 d0 Tryz.underlying26 rfl) hHeld ?_
 try simp only [List.getElem_toArray, List.getElem_cons_succ, List.getElem_cons_zero, Act.put, List.setIfInBounds_toArray, List.set_cons_zero, List.set_cons_succ]
 refine wpAnyH_take (i := 4) (v := ?_) rfl (by kernel_rfl) (by kernel_rfl) (by kernel_rfl) (fun _ _ _ h => h) (Or.inl ⟨by rfl, ?_⟩) hHeld ?_
 rotate_left
 ·(intro wz _; go_simp; try with_reducible rfl)
 try simp only [List.getElem_toArray, List.getElem_cons_succ, List.getElem_cons_zero, Act.put, List.setIfInBounds_toArray, List.set_cons_zero, List.set_cons_succ]
 refine wpAnyH_take (i := 5) (v := _) rfl (by kernel_rfl) (by kernel_rfl) (by kernel_rfl) (fun _ _ _ h => h) (yields_agg rfl 190 _ rfl rfl hbK2 dx dz Tryz.underlying190 rfl (by kernel_rfl)) hHeld ?_
 try simp only [List.getElem_toArray, List.getElem_cons_succ, List.getElem_cons_zero, Act.put, List.setIfInBounds_toArray, List.set_cons_zero, List.set_cons_succ]
 refine wpAnyH_take (i := 6) (v := ?_) rfl (by kernel_rfl) (by kernel_rfl) (by kernel_rfl) (fun _ _ _ h => h) (Or.inl ⟨by rfl, ?_⟩) hHeld ?_
 rotate_left
 ·(intro wz _; go_simp; try with_reducible rfl)
 try simp only [List.getElem_toArray, List.getElem_cons_succ, List.getElem_cons_zero, Act.put, List.setIfInBounds_toArray, List.set_cons_zero, List.set_cons_succ]
 refine wpAnyH_take (i := 8) (v := ?_) rfl (by kernel_rfl) (by kernel_rfl) (by kernel_rfl) (fun _ _ _ h => h) (Or.inl ⟨by rfl, ?_⟩) hHeld ?_
 rotate_left
 ·(intro wz _; go_simp; try with_reducible rfl)
 try simp only [List.getElem_toArray, List.getElem_cons_succ, List.getElem_cons_zero, Act.put, List.setIfInBounds_toArray, List.set_cons_zero, List.set_cons_succ]
 refine wpAnyH_take (i := 9) (v := ?_) rfl (by kernel_rfl) (by kernel_rfl) (by kernel_rfl) (fun _ _ _ h => h) (Or.inl ⟨by rfl, ?_⟩) hHeld ?_
 rotate_left
 ·(intro wz _; go_simp; try with_reducible rfl)
 try simp only [List.getElem_toArray, List.getElem_cons_succ, List.getElem_cons_zero, Act.put, List.setIfInBounds_toArray, List.set_cons_zero, List.set_cons_succ]
 refine wpAnyH_take (i := 10) (v := ?_) rfl (by kernel_rfl) (by kernel_rfl) (by kernel_rfl) (fun _ _ _ h => h) (Or.inl ⟨by rfl, ?_⟩) hHeld ?_
 rotate_left
 ·(intro wz _; go_simp; try with_reducible rfl)
 try simp only [List.getElem_toArray, List.getElem_cons_succ, List.getElem_cons_zero, Act.put, List.setIfInBounds_toArray, List.set_cons_zero, List.set_cons_succ]
 refine wpAnyH_take (i := 11) (v := ?_) rfl (by kernel_rfl) (by kernel_rfl) (by kernel_rfl) (fun _ _ _ h => h) (Or.inl ⟨by rfl, ?_⟩) hHeld ?_
 rotate_left
 ·(intro wz _; go_simp; try with_reducible rfl)
 try simp only [List.getElem_toArray, List.getElem_cons_succ, List.getElem_cons_zero, Act.put, List.setIfInBounds_toArray, List.set_cons_zero, List.set_cons_succ]
 refine wpAnyH_take (i := 12) (v := _) rfl (by kernel_rfl) (by kernel_rfl) (by kernel_rfl) (fun _ _ _ h => h) (yields_load1 rfl 42 _ rfl rfl hfK f3 Tryz.underlying42 rfl) hHeld ?_
 try simp only [List.getElem_toArray, List.getElem_cons_succ, List.getElem_cons_zero, Act.put, List.setIfInBounds_toArray, List.set_cons_zero, List.set_cons_succ]
 replace h := h.drew
 generalize w.drew = w1 at h hHeld ⊢
 clear w
 obtain ⟨w, rfl⟩ : ∃ q : World, q = w1 := ⟨_, rfl⟩
 refine wpAnyH_ready (rs := [3]) (by kernel_rfl) (by simp) ?_
 refine AllReadyH.cons rfl (fun K hK => ?_) AllReadyH.nil
 (go_simp; go_wp2_with (go_at_call 46; refine (ME.out _ h).mono ?_; clear h; rintro _ w ⟨rfl, h⟩))
 refine hK.out _ _ (h.le KL) (fun hHeld => ?_)
 clear hK K
 try simp only [Act.put, List.setIfInBounds_toArray, List.set_cons_zero, List.set_cons_succ]
 refine wpAnyH_ready (rs := [7]) (by kernel_rfl) (by simp) ?_
 refine AllReadyH.cons rfl (fun K hK => ?_) AllReadyH.nil
 (go_simp; go_wp2_with (go_at_call 140; refine (AN1.out _ h).mono ?_; clear h; rintro _ w ⟨rfl, h⟩))
 refine hK.out _ _ (h.le KL) (fun hHeld => ?_)
 clear hK K
 try simp only [Act.put, List.setIfInBounds_toArray, List.set_cons_zero, List.set_cons_succ]
 refine wpAnyH_ready (rs := [13]) (by kernel_rfl) (by simp) ?_
 refine AllReadyH.cons rfl (fun K hK => ?_) AllReadyH.nil
 (go_simp; go_wp2_with (go_at_call 138; refine (UN.out _).mono ?_; rintro _ w' ⟨rfl, rfl⟩))
 refine hK.out _ _ (h.le KL) (fun hHeld => ?_)
 clear hK K
 try simp only [Act.put, List.setIfInBounds_toArray, List.set_cons_zero, List.set_cons_succ]
 refine wpAnyH_take (i := 14) (v := ?_) rfl (by kernel_rfl) (by kernel_rfl) (by kernel_rfl) (fun _ _ _ h => h) (Or.inl ⟨by rfl, ?_⟩) hHeld ?_
 rotate_left
 ·(intro wz _; go_simp; try with_reducible rfl)
 try simp only [List.getElem_toArray, List.getElem_cons_succ, List.getElem_cons_zero, Act.put, List.setIfInBounds_toArray, List.set_cons_zero, List.set_cons_succ]
 refine wpAnyH_ready (rs := [15]) (by kernel_rfl) (by simp) ?_
 refine AllReadyH.cons rfl (fun K hK => ?_) AllReadyH.nil
 (go_simp; go_wp2_with (go_at_call 97; refine (SE.out _ h).mono ?_; clear h; rintro _ w ⟨rfl, h⟩))
 refine hK.out _ _ (h.le KE) (fun hHeld => ?_)
 clear hK K
 try simp only [Act.put, List.setIfInBounds_toArray, List.set_cons_zero, List.set_cons_succ]
 refine wpAnyH_done (by kernel_rfl) ?_ _
 clear hHeld
 go_wp2_with (first
  | (with_reducible show wpList _ _ _ ({ dst := _, op := Op.store 3 _ _, type := _, pos := _, after := _, guard := _ } :: _) _ _; refine wpList_store1_has h rfl 3 _ _ rfl rfl rfl hfb2 hsz rfl (by kernel_rfl) ?_; clear h; intro w h))
 go_end0
 refine ⟨rfl, _, _, ?_, HT.out⟩
 have h0 : Has σ (M2.upd b (.cells (fr0.setIfInBounds 1 (.int .i64 9)) 69)) w := h
 rw [R1.out] at h0
 exact h0
end
section
open Go.RowKit
set_option maxRecDepth 20000 in
theorem scrubbed_2 (w : World) : Calls Tryz.prog 144 #[.int .i64 2] w fun r w' => r = .returned (.int .i64 3) ∧ w = w' := by
 have IX : ∀ w : World, (Instr.index 112 (.agg #[.int .i64 3, .int .i64 4, .int .i64 2, .int .i64 1]) (.int .i64 0)).run Tryz.prog w = .ok (.int .i64 3) w := fun w => run_index_one w Tryz.underlying112 Tryz.underlying3 rfl (by kernel_rfl) _ .i64 0 (by omega) (by omega) rfl
 go_enter Tryz.func144, Tryz.ntmps144
 go_wp2
 go_ret
 exact ⟨rfl, rfl⟩
set_option maxRecDepth 20000 in
theorem scrubbed_3 (w : World) : Calls Tryz.prog 144 #[.int .i64 3] w fun r w' => r = .returned (.int .i64 4) ∧ w = w' := by
 have IX : ∀ w : World, (Instr.index 112 (.agg #[.int .i64 3, .int .i64 4, .int .i64 2, .int .i64 1]) (.int .i64 1)).run Tryz.prog w = .ok (.int .i64 4) w := fun w => run_index_one w Tryz.underlying112 Tryz.underlying3 rfl (by kernel_rfl) _ .i64 1 (by omega) (by omega) rfl
 go_enter Tryz.func144, Tryz.ntmps144
 go_wp2
 go_ret
 exact ⟨rfl, rfl⟩
set_option maxRecDepth 20000 in
theorem scrubbed_4 (w : World) : Calls Tryz.prog 144 #[.int .i64 4] w fun r w' => r = .returned (.int .i64 2) ∧ w = w' := by
 have IX : ∀ w : World, (Instr.index 112 (.agg #[.int .i64 3, .int .i64 4, .int .i64 2, .int .i64 1]) (.int .i64 2)).run Tryz.prog w = .ok (.int .i64 2) w := fun w => run_index_one w Tryz.underlying112 Tryz.underlying3 rfl (by kernel_rfl) _ .i64 2 (by omega) (by omega) rfl
 go_enter Tryz.func144, Tryz.ntmps144
 go_wp2
 go_ret
 exact ⟨rfl, rfl⟩
set_option maxRecDepth 20000 in
theorem scrubbed_5 (w : World) : Calls Tryz.prog 144 #[.int .i64 5] w fun r w' => r = .returned (.int .i64 1) ∧ w = w' := by
 have IX : ∀ w : World, (Instr.index 112 (.agg #[.int .i64 3, .int .i64 4, .int .i64 2, .int .i64 1]) (.int .i64 3)).run Tryz.prog w = .ok (.int .i64 1) w := fun w => run_index_one w Tryz.underlying112 Tryz.underlying3 rfl (by kernel_rfl) _ .i64 3 (by omega) (by omega) rfl
 go_enter Tryz.func144, Tryz.ntmps144
 go_wp2
 go_ret
 exact ⟨rfl, rfl⟩
end
section
open Go.RowKit
set_option maxHeartbeats 4000000 in
set_option maxRecDepth 20000 in
theorem give_2 {σ w : World} {K M : Mm} {lab : Nat → Nat} {p t q b lv : Nat} {s : MachS} {fs : List FrameS} {f : FrameS} (h : Has σ M w) (hT : AtTop K M lab p s t q b fs f) (hat : f.at_ = 2) {sl : Nat} (h0 : f.r 0 = (sl : Int)) (hsl : sl < 256) (hlv : levelOf s.c (t : Nat) = (lv : Nat)) (hlc : (lv : Int) < s.c 0) (hin : InK s.c 9 (sl : Nat) 3) (hb1 : s.mem.acc < 1000000000) (hb2 : s.mem.wr < 1000000000) :
  Calls Tryz.prog 133 #[.agg (runC p t q b)] w fun r w' => r = .returned (.tuple #[]) ∧ ∃ M' lab', Has σ M' w' ∧ AtTop K M' lab' p (MachS.top { s with mem := s.mem.store (atK s.c lv 9 (sl : Nat) 3) 0 } t fs (f.goto 3)) t q b fs (f.goto 3) := by
 have d0 : (runC p t q b)[0]? = some (.pointer (some ⟨p, 0, none⟩)) := rfl
 have d1 : (runC p t q b)[1]? = some (.int .i64 (t : Nat)) := rfl
 have d2 : (runC p t q b)[2]? = some (.pointer (some ⟨q, 0, none⟩)) := rfl
 have d3 : (runC p t q b)[3]? = some (.pointer (some ⟨b, 0, none⟩)) := rfl
 have dx : (runC p t q b).extract 0 (0 + 4) = runC p t q b := rfl
 have dz : (runC p t q b).size = 4 := rfl
 have f1 : f.row[1]? = some (.int .i64 2) := by rw [← hat]; rfl
 have f2 : f.row[2]? = some (.int .u64 (sl : Nat)) := by rw [← h0]; rfl
 have us : IntKind.i64.wrap ((sl : Nat) : Int) = ((sl : Nat) : Int) := IntWalk.i64_in _ (by omega)
 clear hat
 have SC := Lib.hid scrubbed_2
 have SPA := spotAt_of (σ := σ) hT.mach hlv hlc hin
 obtain ⟨a, ha⟩ : ∃ a, atK s.c lv 9 (sl : Nat) 3 = a := ⟨_, rfl⟩
 rw [ha] at SPA ⊢
 obtain ⟨v, hv⟩ : ∃ v : Int, v = 0 := ⟨_, rfl⟩
 rw [← hv]
 have ND := Lib.hid (fun (M' : Mm) (w : World) (h : Has σ M' w) (hle : M.le M') => runNode_eq (q := q) (b := b) h (SPA.le hle))
 clear h0 ha hlv hlc hin SPA
 go_enter Tryz.func133, Tryz.ntmps133
 go_upto_region 1 with (fail)
 obtain ⟨M1, hbx, hle, hb4, hn⟩ := h.box (.cells (runC p t q b) 193)
 generalize w.alloc _ = wx at hbx ⊢
 generalize w.heap.size = b4 at hb4 hn ⊢
 clear h
 try clear w
 have h := hbx
 clear hbx
 obtain ⟨w, rfl⟩ : ∃ x : World, x = wx := ⟨_, rfl⟩
 obtain ⟨lab1, hT1⟩ := hT.more1 hle hn hb4
 have hnK : K b4 = none := by
  cases e : K b4 with
  | none => rfl
  | some o => have := (hT.base _ _ e).1; rw [hn] at this; cases this
 have hKK : K.le (K.upd b4 (.cells (runC p t q b) 193)) := Mm.le_upd' hnK _
 have hbK : (K.upd b4 (.cells (runC p t q b) 193)) b4 = some (.cells (runC p t q b) 193) := Mm.upd_same _ _ _
 have hfb := hT1.obj
 have ND1 := Lib.hid (fun (w : World) (h : Has σ M1 w) => ND.out M1 w h hle)
 clear ND
 -- behind the entrance: the store of v at a, then the frame goes on at 3
 have ME := Lib.hid (fun (w : World) (h : Has σ M1 w) => mMem_eq h hT1.mach)
 have SE := Lib.hid (fun (w : World) (h : Has σ M1 w) => memStore_eq h hT1.mach.mem hb1 hb2 a v)
 have hne : b4 ≠ b := fun e => by
  subst e
  rw [hb4] at hfb
  simp only [Option.some.injEq, Obj.cells.injEq] at hfb
  exact absurd hfb.2.1 (by decide)
 have hT2 := hT1.store a v
 have KL := Mm.upd_le2 hT1.base.le hT1.obj
 have KE := Mm.upd_le2 hT2.base.le hT2.obj
 have hbK2 : ((K.upd b4 (.cells (runC p t q b) 193)).upd b (.cells f.row 69)) b4 = some (.cells (runC p t q b) 193) := (Mm.upd_ne hne).trans (Mm.upd_same _ _ _)
 have hfK : ((K.upd b4 (.cells (runC p t q b) 193)).upd b (.cells f.row 69)) b = some (.cells f.row 69) := Mm.upd_same _ _ _
 obtain ⟨hfb2, hT3⟩ := hT2.frame (f.goto 3)
 have HT := Lib.hid (hT3.less hKK)
 have hsz : 1 < f.row.size := show 1 < 18 by omega
 have R1 := Lib.hid (row_goto f 3)
 clear hT hT1 hT2 hT3 hb1 hb2 hn hle hnK hKK hne hbK
 generalize runC p t q b = rc at *
 generalize hr0 : f.row = fr0 at *
 generalize hr1 : (f.goto 3).row = fr1 at *
 clear hr0 hr1
 generalize (K.upd b4 _).upd b _ = K1 at KL KE hbK2 hfK
 generalize storeM M1 s.mp s.mem a v = M2 at *
 subst hv
 go_upto_region 18 with (first
  | (with_reducible show wpList _ _ _ ({ dst := _, op := Op.load 70 _, type := _, pos := _, after := _, guard := _ } :: _) _ _; refine wpList_load1_has h rfl 70 _ rfl rfl hb4 d3 Tryz.underlying70 rfl ?_)
  | (with_reducible show wpList _ _ _ ({ dst := _, op := Op.load 42 _, type := _, pos := _, after := _, guard := _ } :: _) _ _; refine wpList_load1_has h rfl 42 _ rfl rfl hfb f2 Tryz.underlying42 rfl ?_)
  | (with_reducible show wpList _ _ _ ({ dst := _, op := Op.load 3 _, type := _, pos := _, after := _, guard := _ } :: _) _ _; refine wpList_load1_has h rfl 3 _ rfl rfl hfb f1 Tryz.underlying3 rfl ?_))
 clear hfb hb4
 refine wp_region_held_drew (S := Has σ (K1)) (by kernel_rfl) (h.drew.le KL) (fun hHeld => ?_)
 refine wpAnyH_take (i := 0) (v := ?_) rfl (by kernel_rfl) (by kernel_rfl) (by kernel_rfl) (fun _ _ _ h => h) (Or.inl ⟨by rfl, ?_⟩) hHeld ?_
 rotate_left
 ·(intro wz _; go_simp; try with_reducible rfl)
 try simp only [List.getElem_toArray, List.getElem_cons_succ, List.getElem_cons_zero, Act.put, List.setIfInBounds_toArray, List.set_cons_zero, List.set_cons_succ]
 refine wpAnyH_take (i := 1) (v := ?_) rfl (by kernel_rfl) (by kernel_rfl) (by kernel_rfl) (fun _ _ _ h => h) (Or.inl ⟨by rfl, ?_⟩) hHeld ?_
 rotate_left
 ·(intro wz _; go_simp; try with_reducible rfl)
 try simp only [List.getElem_toArray, List.getElem_cons_succ, List.getElem_cons_zero, Act.put, List.setIfInBounds_toArray, List.set_cons_zero, List.set_cons_succ]
 refine wpAnyH_take (i := 2) (v := _) rfl (by kernel_rfl) (by kernel_rfl) (by kernel_rfl) (fun _ _ _ h => h) (yields_load1 rfl 26 _ rfl rfl hbK2 d0 Tryz.underlying26 rfl) hHeld ?_
 try simp only [List.getElem_toArray, List.getElem_cons_succ, List.getElem_cons_zero, Act.put, List.setIfInBounds_toArray, List.set_cons_zero, List.set_cons_succ]
 refine wpAnyH_take (i := 4) (v := ?_) rfl (by kernel_rfl) (by kernel_rfl) (by kernel_rfl) (fun _ _ _ h => h) (Or.inl ⟨by rfl, ?_⟩) hHeld ?_
 rotate_left
 ·(intro wz _; go_simp; try with_reducible rfl)
 try simp only [List.getElem_toArray, List.getElem_cons_succ, List.getElem_cons_zero, Act.put, List.setIfInBounds_toArray, List.set_cons_zero, List.set_cons_succ]
 refine wpAnyH_take (i := 5) (v := _) rfl (by kernel_rfl) (by kernel_rfl) (by kernel_rfl) (fun _ _ _ h => h) (yields_agg rfl 190 _ rfl rfl hbK2 dx dz Tryz.underlying190 rfl (by kernel_rfl)) hHeld ?_
 try simp only [List.getElem_toArray, List.getElem_cons_succ, List.getElem_cons_zero, Act.put, List.setIfInBounds_toArray, List.set_cons_zero, List.set_cons_succ]
 refine wpAnyH_take (i := 6) (v := ?_) rfl (by kernel_rfl) (by kernel_rfl) (by kernel_rfl) (fun _ _ _ h => h) (Or.inl ⟨by rfl, ?_⟩) hHeld ?_
 rotate_left
 ·(intro wz _; go_simp; try with_reducible rfl)
 try simp only [List.getElem_toArray, List.getElem_cons_succ, List.getElem_cons_zero, Act.put, List.setIfInBounds_toArray, List.set_cons_zero, List.set_cons_succ]
 refine wpAnyH_take (i := 7) (v := ?_) rfl (by kernel_rfl) (by kernel_rfl) (by kernel_rfl) (fun _ _ _ h => h) (Or.inl ⟨by rfl, ?_⟩) hHeld ?_
 rotate_left
 ·(intro wz _; go_simp; try with_reducible rfl)
 try simp only [List.getElem_toArray, List.getElem_cons_succ, List.getElem_cons_zero, Act.put, List.setIfInBounds_toArray, List.set_cons_zero, List.set_cons_succ]
 refine wpAnyH_take (i := 8) (v := ?_) rfl (by kernel_rfl) (by kernel_rfl) (by kernel_rfl) (fun _ _ _ h => h) (Or.inl ⟨by rfl, ?_⟩) hHeld ?_
 rotate_left
 ·(intro wz _; go_simp; try with_reducible rfl)
 try simp only [List.getElem_toArray, List.getElem_cons_succ, List.getElem_cons_zero, Act.put, List.setIfInBounds_toArray, List.set_cons_zero, List.set_cons_succ]
 refine wpAnyH_take (i := 9) (v := ?_) rfl (by kernel_rfl) (by kernel_rfl) (by kernel_rfl) (fun _ _ _ h => h) (Or.inl ⟨by rfl, ?_⟩) hHeld ?_
 rotate_left
 ·(intro wz _; go_simp; try with_reducible rfl)
 try simp only [List.getElem_toArray, List.getElem_cons_succ, List.getElem_cons_zero, Act.put, List.setIfInBounds_toArray, List.set_cons_zero, List.set_cons_succ]
 refine wpAnyH_take (i := 10) (v := _) rfl (by kernel_rfl) (by kernel_rfl) (by kernel_rfl) (fun _ _ _ h => h) (yields_load1 rfl 3 _ rfl rfl hfK f1 Tryz.underlying3 rfl) hHeld ?_
 try simp only [List.getElem_toArray, List.getElem_cons_succ, List.getElem_cons_zero, Act.put, List.setIfInBounds_toArray, List.set_cons_zero, List.set_cons_succ]
 replace h := h.drew
 generalize w.drew = w1 at h hHeld ⊢
 clear w
 obtain ⟨w, rfl⟩ : ∃ q : World, q = w1 := ⟨_, rfl⟩
 refine wpAnyH_ready (rs := [3]) (by kernel_rfl) (by simp) ?_
 refine AllReadyH.cons rfl (fun K hK => ?_) AllReadyH.nil
 (go_simp; go_wp2_with (go_at_call 46; refine (ME.out _ h).mono ?_; clear h; rintro _ w ⟨rfl, h⟩))
 refine hK.out _ _ (h.le KL) (fun hHeld => ?_)
 clear hK K
 try simp only [Act.put, List.setIfInBounds_toArray, List.set_cons_zero, List.set_cons_succ]
 refine wpAnyH_ready (rs := [11]) (by kernel_rfl) (by simp) ?_
 refine AllReadyH.cons rfl (fun K hK => ?_) AllReadyH.nil
 (go_simp; go_wp2_with (go_at_call 144; refine (SC.out _).mono ?_; rintro _ w' ⟨rfl, rfl⟩))
 refine hK.out _ _ (h.le KL) (fun hHeld => ?_)
 clear hK K
 try simp only [Act.put, List.setIfInBounds_toArray, List.set_cons_zero, List.set_cons_succ]
 refine wpAnyH_ready (rs := [12]) (by kernel_rfl) (by simp) ?_
 refine AllReadyH.cons rfl (fun K hK => ?_) AllReadyH.nil
 (go_simp; go_wp2_with (go_at_call 143; refine (ND1.out _ h).mono ?_; clear h; rintro _ w ⟨rfl, h⟩))
 refine hK.out _ _ (h.le KL) (fun hHeld => ?_)
 clear hK K
 try simp only [Act.put, List.setIfInBounds_toArray, List.set_cons_zero, List.set_cons_succ]
 refine wpAnyH_ready (rs := [13]) (by kernel_rfl) (by simp) ?_
 refine AllReadyH.cons rfl (fun K hK => ?_) AllReadyH.nil
 (go_simp; go_wp2_with (go_at_call 97; refine (SE.out _ h).mono ?_; clear h; rintro _ w ⟨rfl, h⟩))
 refine hK.out _ _ (h.le KE) (fun hHeld => ?_)
 clear hK K
 try simp only [Act.put, List.setIfInBounds_toArray, List.set_cons_zero, List.set_cons_succ]
 refine wpAnyH_done (by kernel_rfl) ?_ _
 clear hHeld
 go_wp2_with (first
  | (with_reducible show wpList _ _ _ ({ dst := _, op := Op.load 3 _, type := _, pos := _, after := _, guard := _ } :: _) _ _; refine wpList_load1_has h rfl 3 _ rfl rfl hfb2 f1 Tryz.underlying3 rfl ?_)
  | (with_reducible show wpList _ _ _ ({ dst := _, op := Op.store 3 _ _, type := _, pos := _, after := _, guard := _ } :: _) _ _; refine wpList_store1_has h rfl 3 _ _ rfl rfl rfl hfb2 hsz rfl (by kernel_rfl) ?_; clear h; intro w h))
 go_end0
 refine ⟨rfl, _, _, ?_, HT.out⟩
 have h0 : Has σ (M2.upd b (.cells (fr0.setIfInBounds 1 (.int .i64 3)) 69)) w := h
 rw [R1.out] at h0
 exact h0
set_option maxHeartbeats 4000000 in
set_option maxRecDepth 20000 in
theorem give_3 {σ w : World} {K M : Mm} {lab : Nat → Nat} {p t q b lv : Nat} {s : MachS} {fs : List FrameS} {f : FrameS} (h : Has σ M w) (hT : AtTop K M lab p s t q b fs f) (hat : f.at_ = 3) {sl : Nat} (h0 : f.r 0 = (sl : Int)) (hsl : sl < 256) (hlv : levelOf s.c (t : Nat) = (lv : Nat)) (hlc : (lv : Int) < s.c 0) (hin : InK s.c 9 (sl : Nat) 4) (hb1 : s.mem.acc < 1000000000) (hb2 : s.mem.wr < 1000000000) :
  Calls Tryz.prog 133 #[.agg (runC p t q b)] w fun r w' => r = .returned (.tuple #[]) ∧ ∃ M' lab', Has σ M' w' ∧ AtTop K M' lab' p (MachS.top { s with mem := s.mem.store (atK s.c lv 9 (sl : Nat) 4) 0 } t fs (f.goto 4)) t q b fs (f.goto 4) := by
 have d0 : (runC p t q b)[0]? = some (.pointer (some ⟨p, 0, none⟩)) := rfl
 have d1 : (runC p t q b)[1]? = some (.int .i64 (t : Nat)) := rfl
 have d2 : (runC p t q b)[2]? = some (.pointer (some ⟨q, 0, none⟩)) := rfl
 have d3 : (runC p t q b)[3]? = some (.pointer (some ⟨b, 0, none⟩)) := rfl
 have dx : (runC p t q b).extract 0 (0 + 4) = runC p t q b := rfl
 have dz : (runC p t q b).size = 4 := rfl
 have f1 : f.row[1]? = some (.int .i64 3) := by rw [← hat]; rfl
 have f2 : f.row[2]? = some (.int .u64 (sl : Nat)) := by rw [← h0]; rfl
 have us : IntKind.i64.wrap ((sl : Nat) : Int) = ((sl : Nat) : Int) := IntWalk.i64_in _ (by omega)
 clear hat
 have SC := Lib.hid scrubbed_3
 have SPA := spotAt_of (σ := σ) hT.mach hlv hlc hin
 obtain ⟨a, ha⟩ : ∃ a, atK s.c lv 9 (sl : Nat) 4 = a := ⟨_, rfl⟩
 rw [ha] at SPA ⊢
 obtain ⟨v, hv⟩ : ∃ v : Int, v = 0 := ⟨_, rfl⟩
 rw [← hv]
 have ND := Lib.hid (fun (M' : Mm) (w : World) (h : Has σ M' w) (hle : M.le M') => runNode_eq (q := q) (b := b) h (SPA.le hle))
 clear h0 ha hlv hlc hin SPA
 go_enter Tryz.func133, Tryz.ntmps133
 go_upto_region 1 with (fail)
 obtain ⟨M1, hbx, hle, hb4, hn⟩ := h.box (.cells (runC p t q b) 193)
 generalize w.alloc _ = wx at hbx ⊢
 generalize w.heap.size = b4 at hb4 hn ⊢
 clear h
 try clear w
 have h := hbx
 clear hbx
 obtain ⟨w, rfl⟩ : ∃ x : World, x = wx := ⟨_, rfl⟩
 obtain ⟨lab1, hT1⟩ := hT.more1 hle hn hb4
 have hnK : K b4 = none := by
  cases e : K b4 with
  | none => rfl
  | some o => have := (hT.base _ _ e).1; rw [hn] at this; cases this
 have hKK : K.le (K.upd b4 (.cells (runC p t q b) 193)) := Mm.le_upd' hnK _
 have hbK : (K.upd b4 (.cells (runC p t q b) 193)) b4 = some (.cells (runC p t q b) 193) := Mm.upd_same _ _ _
 have hfb := hT1.obj
 have ND1 := Lib.hid (fun (w : World) (h : Has σ M1 w) => ND.out M1 w h hle)
 clear ND
 -- behind the entrance: the store of v at a, then the frame goes on at 4
 have ME := Lib.hid (fun (w : World) (h : Has σ M1 w) => mMem_eq h hT1.mach)
 have SE := Lib.hid (fun (w : World) (h : Has σ M1 w) => memStore_eq h hT1.mach.mem hb1 hb2 a v)
 have hne : b4 ≠ b := fun e => by
  subst e
  rw [hb4] at hfb
  simp only [Option.some.injEq, Obj.cells.injEq] at hfb
  exact absurd hfb.2.1 (by decide)
 have hT2 := hT1.store a v
 have KL := Mm.upd_le2 hT1.base.le hT1.obj
 have KE := Mm.upd_le2 hT2.base.le hT2.obj
 have hbK2 : ((K.upd b4 (.cells (runC p t q b) 193)).upd b (.cells f.row 69)) b4 = some (.cells (runC p t q b) 193) := (Mm.upd_ne hne).trans (Mm.upd_same _ _ _)
 have hfK : ((K.upd b4 (.cells (runC p t q b) 193)).upd b (.cells f.row 69)) b = some (.cells f.row 69) := Mm.upd_same _ _ _
 obtain ⟨hfb2, hT3⟩ := hT2.frame (f.goto 4)
 have HT := Lib.hid (hT3.less hKK)
 have hsz : 1 < f.row.size := show 1 < 18 by omega
 have R1 := Lib.hid (row_goto f 4)
 clear hT hT1 hT2 hT3 hb1 hb2 hn hle hnK hKK hne hbK
 generalize runC p t q b = rc at *
 generalize hr0 : f.row = fr0 at *
 generalize hr1 : (f.goto 4).row = fr1 at *
 clear hr0 hr1
 generalize (K.upd b4 _).upd b _ = K1 at KL KE hbK2 hfK
 generalize storeM M1 s.mp s.mem a v = M2 at *
 subst hv
 go_upto_region 18 with (first
  | (with_reducible show wpList _ _ _ ({ dst := _, op := Op.load 70 _, type := _, pos := _, after := _, guard := _ } :: _) _ _; refine wpList_load1_has h rfl 70 _ rfl rfl hb4 d3 Tryz.underlying70 rfl ?_)
  | (with_reducible show wpList _ _ _ ({ dst := _, op := Op.load 42 _, type := _, pos := _, after := _, guard := _ } :: _) _ _; refine wpList_load1_has h rfl 42 _ rfl rfl hfb f2 Tryz.underlying42 rfl ?_)
  | (with_reducible show wpList _ _ _ ({ dst := _, op := Op.load 3 _, type := _, pos := _, after := _, guard := _ } :: _) _ _; refine wpList_load1_has h rfl 3 _ rfl rfl hfb f1 Tryz.underlying3 rfl ?_))
 clear hfb hb4
 refine wp_region_held_drew (S := Has σ (K1)) (by kernel_rfl) (h.drew.le KL) (fun hHeld => ?_)
 refine wpAnyH_take (i := 0) (v := ?_) rfl (by kernel_rfl) (by kernel_rfl) (by kernel_rfl) (fun _ _ _ h => h) (Or.inl ⟨by rfl, ?_⟩) hHeld ?_
 rotate_left
 ·(intro wz _; go_simp; try with_reducible rfl)
 try simp only [List.getElem_toArray, List.getElem_cons_succ, List.getElem_cons_zero, Act.put, List.setIfInBounds_toArray, List.set_cons_zero, List.set_cons_succ]
 refine wpAnyH_take (i := 1) (v := ?_) rfl (by kernel_rfl) (by kernel_rfl) (by kernel_rfl) (fun _ _ _ h => h) (Or.inl ⟨by rfl, ?_⟩) hHeld ?_
 rotate_left
 ·(intro wz _; go_simp; try with_reducible rfl)
 try simp only [List.getElem_toArray, List.getElem_cons_succ, List.getElem_cons_zero, Act.put, List.setIfInBounds_toArray, List.set_cons_zero, List.set_cons_succ]
 refine wpAnyH_take (i := 2) (v := _) rfl (by kernel_rfl) (by kernel_rfl) (by kernel_rfl) (fun _ _ _ h => h) (yields_load1 rfl 26 _ rfl rfl hbK2 d0 Tryz.underlying26 rfl) hHeld ?_
 try simp only [List.getElem_toArray, List.getElem_cons_succ, List.getElem_cons_zero, Act.put, List.setIfInBounds_toArray, List.set_cons_zero, List.set_cons_succ]
 refine wpAnyH_take (i := 4) (v := ?_) rfl (by kernel_rfl) (by kernel_rfl) (by kernel_rfl) (fun _ _ _ h => h) (Or.inl ⟨by rfl, ?_⟩) hHeld ?_
 rotate_left
 ·(intro wz _; go_simp; try with_reducible rfl)
 try simp only [List.getElem_toArray, List.getElem_cons_succ, List.getElem_cons_zero, Act.put, List.setIfInBounds_toArray, List.set_cons_zero, List.set_cons_succ]
 refine wpAnyH_take (i := 5) (v := _) rfl (by kernel_rfl) (by kernel_rfl) (by kernel_rfl) (fun _ _ _ h => h) (yields_agg rfl 190 _ rfl rfl hbK2 dx dz Tryz.underlying190 rfl (by kernel_rfl)) hHeld ?_
 try simp only [List.getElem_toArray, List.getElem_cons_succ, List.getElem_cons_zero, Act.put, List.setIfInBounds_toArray, List.set_cons_zero, List.set_cons_succ]
 refine wpAnyH_take (i := 6) (v := ?_) rfl (by kernel_rfl) (by kernel_rfl) (by kernel_rfl) (fun _ _ _ h => h) (Or.inl ⟨by rfl, ?_⟩) hHeld ?_
 rotate_left
 ·(intro wz _; go_simp; try with_reducible rfl)
 try simp only [List.getElem_toArray, List.getElem_cons_succ, List.getElem_cons_zero, Act.put, List.setIfInBounds_toArray, List.set_cons_zero, List.set_cons_succ]
 refine wpAnyH_take (i := 7) (v := ?_) rfl (by kernel_rfl) (by kernel_rfl) (by kernel_rfl) (fun _ _ _ h => h) (Or.inl ⟨by rfl, ?_⟩) hHeld ?_
 rotate_left
 ·(intro wz _; go_simp; try with_reducible rfl)
 try simp only [List.getElem_toArray, List.getElem_cons_succ, List.getElem_cons_zero, Act.put, List.setIfInBounds_toArray, List.set_cons_zero, List.set_cons_succ]
 refine wpAnyH_take (i := 8) (v := ?_) rfl (by kernel_rfl) (by kernel_rfl) (by kernel_rfl) (fun _ _ _ h => h) (Or.inl ⟨by rfl, ?_⟩) hHeld ?_
 rotate_left
 ·(intro wz _; go_simp; try with_reducible rfl)
 try simp only [List.getElem_toArray, List.getElem_cons_succ, List.getElem_cons_zero, Act.put, List.setIfInBounds_toArray, List.set_cons_zero, List.set_cons_succ]
 refine wpAnyH_take (i := 9) (v := ?_) rfl (by kernel_rfl) (by kernel_rfl) (by kernel_rfl) (fun _ _ _ h => h) (Or.inl ⟨by rfl, ?_⟩) hHeld ?_
 rotate_left
 ·(intro wz _; go_simp; try with_reducible rfl)
 try simp only [List.getElem_toArray, List.getElem_cons_succ, List.getElem_cons_zero, Act.put, List.setIfInBounds_toArray, List.set_cons_zero, List.set_cons_succ]
 refine wpAnyH_take (i := 10) (v := _) rfl (by kernel_rfl) (by kernel_rfl) (by kernel_rfl) (fun _ _ _ h => h) (yields_load1 rfl 3 _ rfl rfl hfK f1 Tryz.underlying3 rfl) hHeld ?_
 try simp only [List.getElem_toArray, List.getElem_cons_succ, List.getElem_cons_zero, Act.put, List.setIfInBounds_toArray, List.set_cons_zero, List.set_cons_succ]
 replace h := h.drew
 generalize w.drew = w1 at h hHeld ⊢
 clear w
 obtain ⟨w, rfl⟩ : ∃ q : World, q = w1 := ⟨_, rfl⟩
 refine wpAnyH_ready (rs := [3]) (by kernel_rfl) (by simp) ?_
 refine AllReadyH.cons rfl (fun K hK => ?_) AllReadyH.nil
 (go_simp; go_wp2_with (go_at_call 46; refine (ME.out _ h).mono ?_; clear h; rintro _ w ⟨rfl, h⟩))
 refine hK.out _ _ (h.le KL) (fun hHeld => ?_)
 clear hK K
 try simp only [Act.put, List.setIfInBounds_toArray, List.set_cons_zero, List.set_cons_succ]
 refine wpAnyH_ready (rs := [11]) (by kernel_rfl) (by simp) ?_
 refine AllReadyH.cons rfl (fun K hK => ?_) AllReadyH.nil
 (go_simp; go_wp2_with (go_at_call 144; refine (SC.out _).mono ?_; rintro _ w' ⟨rfl, rfl⟩))
 refine hK.out _ _ (h.le KL) (fun hHeld => ?_)
 clear hK K
 try simp only [Act.put, List.setIfInBounds_toArray, List.set_cons_zero, List.set_cons_succ]
 refine wpAnyH_ready (rs := [12]) (by kernel_rfl) (by simp) ?_
 refine AllReadyH.cons rfl (fun K hK => ?_) AllReadyH.nil
 (go_simp; go_wp2_with (go_at_call 143; refine (ND1.out _ h).mono ?_; clear h; rintro _ w ⟨rfl, h⟩))
 refine hK.out _ _ (h.le KL) (fun hHeld => ?_)
 clear hK K
 try simp only [Act.put, List.setIfInBounds_toArray, List.set_cons_zero, List.set_cons_succ]
 refine wpAnyH_ready (rs := [13]) (by kernel_rfl) (by simp) ?_
 refine AllReadyH.cons rfl (fun K hK => ?_) AllReadyH.nil
 (go_simp; go_wp2_with (go_at_call 97; refine (SE.out _ h).mono ?_; clear h; rintro _ w ⟨rfl, h⟩))
 refine hK.out _ _ (h.le KE) (fun hHeld => ?_)
 clear hK K
 try simp only [Act.put, List.setIfInBounds_toArray, List.set_cons_zero, List.set_cons_succ]
 refine wpAnyH_done (by kernel_rfl) ?_ _
 clear hHeld
 go_wp2_with (first
  | (with_reducible show wpList _ _ _ ({ dst := _, op := Op.load 3 _, type := _, pos := _, after := _, guard := _ } :: _) _ _; refine wpList_load1_has h rfl 3 _ rfl rfl hfb2 f1 Tryz.underlying3 rfl ?_)
  | (with_reducible show wpList _ _ _ ({ dst := _, op := Op.store 3 _ _, type := _, pos := _, after := _, guard := _ } :: _) _ _; refine wpList_store1_has h rfl 3 _ _ rfl rfl rfl hfb2 hsz rfl (by kernel_rfl) ?_; clear h; intro w h))
 go_end0
 refine ⟨rfl, _, _, ?_, HT.out⟩
 have h0 : Has σ (M2.upd b (.cells (fr0.setIfInBounds 1 (.int .i64 4)) 69)) w := h
 rw [R1.out] at h0
 exact h0
set_option maxHeartbeats 4000000 in
set_option maxRecDepth 20000 in
theorem give_4 {σ w : World} {K M : Mm} {lab : Nat → Nat} {p t q b lv : Nat} {s : MachS} {fs : List FrameS} {f : FrameS} (h : Has σ M w) (hT : AtTop K M lab p s t q b fs f) (hat : f.at_ = 4) {sl : Nat} (h0 : f.r 0 = (sl : Int)) (hsl : sl < 256) (hlv : levelOf s.c (t : Nat) = (lv : Nat)) (hlc : (lv : Int) < s.c 0) (hin : InK s.c 9 (sl : Nat) 2) (hb1 : s.mem.acc < 1000000000) (hb2 : s.mem.wr < 1000000000) :
  Calls Tryz.prog 133 #[.agg (runC p t q b)] w fun r w' => r = .returned (.tuple #[]) ∧ ∃ M' lab', Has σ M' w' ∧ AtTop K M' lab' p (MachS.top { s with mem := s.mem.store (atK s.c lv 9 (sl : Nat) 2) 0 } t fs (f.goto 5)) t q b fs (f.goto 5) := by
 have d0 : (runC p t q b)[0]? = some (.pointer (some ⟨p, 0, none⟩)) := rfl
 have d1 : (runC p t q b)[1]? = some (.int .i64 (t : Nat)) := rfl
 have d2 : (runC p t q b)[2]? = some (.pointer (some ⟨q, 0, none⟩)) := rfl
 have d3 : (runC p t q b)[3]? = some (.pointer (some ⟨b, 0, none⟩)) := rfl
 have dx : (runC p t q b).extract 0 (0 + 4) = runC p t q b := rfl
 have dz : (runC p t q b).size = 4 := rfl
 have f1 : f.row[1]? = some (.int .i64 4) := by rw [← hat]; rfl
 have f2 : f.row[2]? = some (.int .u64 (sl : Nat)) := by rw [← h0]; rfl
 have us : IntKind.i64.wrap ((sl : Nat) : Int) = ((sl : Nat) : Int) := IntWalk.i64_in _ (by omega)
 clear hat
 have SC := Lib.hid scrubbed_4
 have SPA := spotAt_of (σ := σ) hT.mach hlv hlc hin
 obtain ⟨a, ha⟩ : ∃ a, atK s.c lv 9 (sl : Nat) 2 = a := ⟨_, rfl⟩
 rw [ha] at SPA ⊢
 obtain ⟨v, hv⟩ : ∃ v : Int, v = 0 := ⟨_, rfl⟩
 rw [← hv]
 have ND := Lib.hid (fun (M' : Mm) (w : World) (h : Has σ M' w) (hle : M.le M') => runNode_eq (q := q) (b := b) h (SPA.le hle))
 clear h0 ha hlv hlc hin SPA
 go_enter Tryz.func133, Tryz.ntmps133
 go_upto_region 1 with (fail)
 obtain ⟨M1, hbx, hle, hb4, hn⟩ := h.box (.cells (runC p t q b) 193)
 generalize w.alloc _ = wx at hbx ⊢
 generalize w.heap.size = b4 at hb4 hn ⊢
 clear h
 try clear w
 have h := hbx
 clear hbx
 obtain ⟨w, rfl⟩ : ∃ x : World, x = wx := ⟨_, rfl⟩
 obtain ⟨lab1, hT1⟩ := hT.more1 hle hn hb4
 have hnK : K b4 = none := by
  cases e : K b4 with
  | none => rfl
  | some o => have := (hT.base _ _ e).1; rw [hn] at this; cases this
 have hKK : K.le (K.upd b4 (.cells (runC p t q b) 193)) := Mm.le_upd' hnK _
 have hbK : (K.upd b4 (.cells (runC p t q b) 193)) b4 = some (.cells (runC p t q b) 193) := Mm.upd_same _ _ _
 have hfb := hT1.obj
 have ND1 := Lib.hid (fun (w : World) (h : Has σ M1 w) => ND.out M1 w h hle)
 clear ND
 -- behind the entrance: the store of v at a, then the frame goes on at 5
 have ME := Lib.hid (fun (w : World) (h : Has σ M1 w) => mMem_eq h hT1.mach)
 have SE := Lib.hid (fun (w : World) (h : Has σ M1 w) => memStore_eq h hT1.mach.mem hb1 hb2 a v)
 have hne : b4 ≠ b := fun e => by
  subst e
  rw [hb4] at hfb
  simp only [Option.some.injEq, Obj.cells.injEq] at hfb
  exact absurd hfb.2.1 (by decide)
 have hT2 := hT1.store a v
 have KL := Mm.upd_le2 hT1.base.le hT1.obj
 have KE := Mm.upd_le2 hT2.base.le hT2.obj
 have hbK2 : ((K.upd b4 (.cells (runC p t q b) 193)).upd b (.cells f.row 69)) b4 = some (.cells (runC p t q b) 193) := (Mm.upd_ne hne).trans (Mm.upd_same _ _ _)
 have hfK : ((K.upd b4 (.cells (runC p t q b) 193)).upd b (.cells f.row 69)) b = some (.cells f.row 69) := Mm.upd_same _ _ _
 obtain ⟨hfb2, hT3⟩ := hT2.frame (f.goto 5)
 have HT := Lib.hid (hT3.less hKK)
 have hsz : 1 < f.row.size := show 1 < 18 by omega
 have R1 := Lib.hid (row_goto f 5)
 clear hT hT1 hT2 hT3 hb1 hb2 hn hle hnK hKK hne hbK
 generalize runC p t q b = rc at *
 generalize hr0 : f.row = fr0 at *
 generalize hr1 : (f.goto 5).row = fr1 at *
 clear hr0 hr1
 generalize (K.upd b4 _).upd b _ = K1 at KL KE hbK2 hfK
 generalize storeM M1 s.mp s.mem a v = M2 at *
 subst hv
 go_upto_region 18 with (first
  | (with_reducible show wpList _ _ _ ({ dst := _, op := Op.load 70 _, type := _, pos := _, after := _, guard := _ } :: _) _ _; refine wpList_load1_has h rfl 70 _ rfl rfl hb4 d3 Tryz.underlying70 rfl ?_)
  | (with_reducible show wpList _ _ _ ({ dst := _, op := Op.load 42 _, type := _, pos := _, after := _, guard := _ } :: _) _ _; refine wpList_load1_has h rfl 42 _ rfl rfl hfb f2 Tryz.underlying42 rfl ?_)
  | (with_reducible show wpList _ _ _ ({ dst := _, op := Op.load 3 _, type := _, pos := _, after := _, guard := _ } :: _) _ _; refine wpList_load1_has h rfl 3 _ rfl rfl hfb f1 Tryz.underlying3 rfl ?_))
 clear hfb hb4
 refine wp_region_held_drew (S := Has σ (K1)) (by kernel_rfl) (h.drew.le KL) (fun hHeld => ?_)
 refine wpAnyH_take (i := 0) (v := ?_) rfl (by kernel_rfl) (by kernel_rfl) (by kernel_rfl) (fun _ _ _ h => h) (Or.inl ⟨by rfl, ?_⟩) hHeld ?_
 rotate_left
 ·(intro wz _; go_simp; try with_reducible rfl)
 try simp only [List.getElem_toArray, List.getElem_cons_succ, List.getElem_cons_zero, Act.put, List.setIfInBounds_toArray, List.set_cons_zero, List.set_cons_succ]
 refine wpAnyH_take (i := 1) (v := ?_) rfl (by kernel_rfl) (by kernel_rfl) (by kernel_rfl) (fun _ _ _ h => h) (Or.inl ⟨by rfl, ?_⟩) hHeld ?_
 rotate_left
 ·(intro wz _; go_simp; try with_reducible rfl)
 try simp only [List.getElem_toArray, List.getElem_cons_succ, List.getElem_cons_zero, Act.put, List.setIfInBounds_toArray, List.set_cons_zero, List.set_cons_succ]
 refine wpAnyH_take (i := 2) (v := _) rfl (by kernel_rfl) (by kernel_rfl) (by kernel_rfl) (fun _ _ _ h => h) (yields_load1 rfl 26 _ rfl rfl hbK2 d0 Tryz.underlying26 rfl) hHeld ?_
 try simp only [List.getElem_toArray, List.getElem_cons_succ, List.getElem_cons_zero, Act.put, List.setIfInBounds_toArray, List.set_cons_zero, List.set_cons_succ]
 refine wpAnyH_take (i := 4) (v := ?_) rfl (by kernel_rfl) (by kernel_rfl) (by kernel_rfl) (fun _ _ _ h => h) (Or.inl ⟨by rfl, ?_⟩) hHeld ?_
 rotate_left
 ·(intro wz _; go_simp; try with_reducible rfl)
 try simp only [List.getElem_toArray, List.getElem_cons_succ, List.getElem_cons_zero, Act.put, List.setIfInBounds_toArray, List.set_cons_zero, List.set_cons_succ]
 refine wpAnyH_take (i := 5) (v := _) rfl (by kernel_rfl) (by kernel_rfl) (by kernel_rfl) (fun _ _ _ h => h) (yields_agg rfl 190 _ rfl rfl hbK2 dx dz Tryz.underlying190 rfl (by kernel_rfl)) hHeld ?_
 try simp only [List.getElem_toArray, List.getElem_cons_succ, List.getElem_cons_zero, Act.put, List.setIfInBounds_toArray, List.set_cons_zero, List.set_cons_succ]
 refine wpAnyH_take (i := 6) (v := ?_) rfl (by kernel_rfl) (by kernel_rfl) (by kernel_rfl) (fun _ _ _ h => h) (Or.inl ⟨by rfl, ?_⟩) hHeld ?_
 rotate_left
 ·(intro wz _; go_simp; try with_reducible rfl)
 try simp only [List.getElem_toArray, List.getElem_cons_succ, List.getElem_cons_zero, Act.put, List.setIfInBounds_toArray, List.set_cons_zero, List.set_cons_succ]
 refine wpAnyH_take (i := 7) (v := ?_) rfl (by kernel_rfl) (by kernel_rfl) (by kernel_rfl) (fun _ _ _ h => h) (Or.inl ⟨by rfl, ?_⟩) hHeld ?_
 rotate_left
 ·(intro wz _; go_simp; try with_reducible rfl)
 try simp only [List.getElem_toArray, List.getElem_cons_succ, List.getElem_cons_zero, Act.put, List.setIfInBounds_toArray, List.set_cons_zero, List.set_cons_succ]
 refine wpAnyH_take (i := 8) (v := ?_) rfl (by kernel_rfl) (by kernel_rfl) (by kernel_rfl) (fun _ _ _ h => h) (Or.inl ⟨by rfl, ?_⟩) hHeld ?_
 rotate_left
 ·(intro wz _; go_simp; try with_reducible rfl)
 try simp only [List.getElem_toArray, List.getElem_cons_succ, List.getElem_cons_zero, Act.put, List.setIfInBounds_toArray, List.set_cons_zero, List.set_cons_succ]
 refine wpAnyH_take (i := 9) (v := ?_) rfl (by kernel_rfl) (by kernel_rfl) (by kernel_rfl) (fun _ _ _ h => h) (Or.inl ⟨by rfl, ?_⟩) hHeld ?_
 rotate_left
 ·(intro wz _; go_simp; try with_reducible rfl)
 try simp only [List.getElem_toArray, List.getElem_cons_succ, List.getElem_cons_zero, Act.put, List.setIfInBounds_toArray, List.set_cons_zero, List.set_cons_succ]
 refine wpAnyH_take (i := 10) (v := _) rfl (by kernel_rfl) (by kernel_rfl) (by kernel_rfl) (fun _ _ _ h => h) (yields_load1 rfl 3 _ rfl rfl hfK f1 Tryz.underlying3 rfl) hHeld ?_
 try simp only [List.getElem_toArray, List.getElem_cons_succ, List.getElem_cons_zero, Act.put, List.setIfInBounds_toArray, List.set_cons_zero, List.set_cons_succ]
 replace h := h.drew
 generalize w.drew = w1 at h hHeld ⊢
 clear w
 obtain ⟨w, rfl⟩ : ∃ q : World, q = w1 := ⟨_, rfl⟩
 refine wpAnyH_ready (rs := [3]) (by kernel_rfl) (by simp) ?_
 refine AllReadyH.cons rfl (fun K hK => ?_) AllReadyH.nil
 (go_simp; go_wp2_with (go_at_call 46; refine (ME.out _ h).mono ?_; clear h; rintro _ w ⟨rfl, h⟩))
 refine hK.out _ _ (h.le KL) (fun hHeld => ?_)
 clear hK K
 try simp only [Act.put, List.setIfInBounds_toArray, List.set_cons_zero, List.set_cons_succ]
 refine wpAnyH_ready (rs := [11]) (by kernel_rfl) (by simp) ?_
 refine AllReadyH.cons rfl (fun K hK => ?_) AllReadyH.nil
 (go_simp; go_wp2_with (go_at_call 144; refine (SC.out _).mono ?_; rintro _ w' ⟨rfl, rfl⟩))
 refine hK.out _ _ (h.le KL) (fun hHeld => ?_)
 clear hK K
 try simp only [Act.put, List.setIfInBounds_toArray, List.set_cons_zero, List.set_cons_succ]
 refine wpAnyH_ready (rs := [12]) (by kernel_rfl) (by simp) ?_
 refine AllReadyH.cons rfl (fun K hK => ?_) AllReadyH.nil
 (go_simp; go_wp2_with (go_at_call 143; refine (ND1.out _ h).mono ?_; clear h; rintro _ w ⟨rfl, h⟩))
 refine hK.out _ _ (h.le KL) (fun hHeld => ?_)
 clear hK K
 try simp only [Act.put, List.setIfInBounds_toArray, List.set_cons_zero, List.set_cons_succ]
 refine wpAnyH_ready (rs := [13]) (by kernel_rfl) (by simp) ?_
 refine AllReadyH.cons rfl (fun K hK => ?_) AllReadyH.nil
 (go_simp; go_wp2_with (go_at_call 97; refine (SE.out _ h).mono ?_; clear h; rintro _ w ⟨rfl, h⟩))
 refine hK.out _ _ (h.le KE) (fun hHeld => ?_)
 clear hK K
 try simp only [Act.put, List.setIfInBounds_toArray, List.set_cons_zero, List.set_cons_succ]
 refine wpAnyH_done (by kernel_rfl) ?_ _
 clear hHeld
 go_wp2_with (first
  | (with_reducible show wpList _ _ _ ({ dst := _, op := Op.load 3 _, type := _, pos := _, after := _, guard := _ } :: _) _ _; refine wpList_load1_has h rfl 3 _ rfl rfl hfb2 f1 Tryz.underlying3 rfl ?_)
  | (with_reducible show wpList _ _ _ ({ dst := _, op := Op.store 3 _ _, type := _, pos := _, after := _, guard := _ } :: _) _ _; refine wpList_store1_has h rfl 3 _ _ rfl rfl rfl hfb2 hsz rfl (by kernel_rfl) ?_; clear h; intro w h))
 go_end0
 refine ⟨rfl, _, _, ?_, HT.out⟩
 have h0 : Has σ (M2.upd b (.cells (fr0.setIfInBounds 1 (.int .i64 5)) 69)) w := h
 rw [R1.out] at h0
 exact h0
set_option maxHeartbeats 4000000 in
set_option maxRecDepth 20000 in
theorem give_5 {σ w : World} {K M : Mm} {lab : Nat → Nat} {p t q b lv : Nat} {s : MachS} {fs : List FrameS} {f : FrameS} (h : Has σ M w) (hT : AtTop K M lab p s t q b fs f) (hat : f.at_ = 5) {sl : Nat} (h0 : f.r 0 = (sl : Int)) (hsl : sl < 256) (hlv : levelOf s.c (t : Nat) = (lv : Nat)) (hlc : (lv : Int) < s.c 0) (hin : InK s.c 9 (sl : Nat) 1) (hb1 : s.mem.acc < 1000000000) (hb2 : s.mem.wr < 1000000000) :
  Calls Tryz.prog 133 #[.agg (runC p t q b)] w fun r w' => r = .returned (.tuple #[]) ∧ ∃ M' lab', Has σ M' w' ∧ AtTop K M' lab' p (MachS.top { s with mem := s.mem.store (atK s.c lv 9 (sl : Nat) 1) 0 } t fs (f.goto 6)) t q b fs (f.goto 6) := by
 have d0 : (runC p t q b)[0]? = some (.pointer (some ⟨p, 0, none⟩)) := rfl
 have d1 : (runC p t q b)[1]? = some (.int .i64 (t : Nat)) := rfl
 have d2 : (runC p t q b)[2]? = some (.pointer (some ⟨q, 0, none⟩)) := rfl
 have d3 : (runC p t q b)[3]? = some (.pointer (some ⟨b, 0, none⟩)) := rfl
 have dx : (runC p t q b).extract 0 (0 + 4) = runC p t q b := rfl
 have dz : (runC p t q b).size = 4 := rfl
 have f1 : f.row[1]? = some (.int .i64 5) := by rw [← hat]; rfl
 have f2 : f.row[2]? = some (.int .u64 (sl : Nat)) := by rw [← h0]; rfl
 have us : IntKind.i64.wrap ((sl : Nat) : Int) = ((sl : Nat) : Int) := IntWalk.i64_in _ (by omega)
 clear hat
 have SC := Lib.hid scrubbed_5
 have SPA := spotAt_of (σ := σ) hT.mach hlv hlc hin
 obtain ⟨a, ha⟩ : ∃ a, atK s.c lv 9 (sl : Nat) 1 = a := ⟨_, rfl⟩
 rw [ha] at SPA ⊢
 obtain ⟨v, hv⟩ : ∃ v : Int, v = 0 := ⟨_, rfl⟩
 rw [← hv]
 have ND := Lib.hid (fun (M' : Mm) (w : World) (h : Has σ M' w) (hle : M.le M') => runNode_eq (q := q) (b := b) h (SPA.le hle))
 clear h0 ha hlv hlc hin SPA
 go_enter Tryz.func133, Tryz.ntmps133
 go_upto_region 1 with (fail)
 obtain ⟨M1, hbx, hle, hb4, hn⟩ := h.box (.cells (runC p t q b) 193)
 generalize w.alloc _ = wx at hbx ⊢
 generalize w.heap.size = b4 at hb4 hn ⊢
 clear h
 try clear w
 have h := hbx
 clear hbx
 obtain ⟨w, rfl⟩ : ∃ x : World, x = wx := ⟨_, rfl⟩
 obtain ⟨lab1, hT1⟩ := hT.more1 hle hn hb4
 have hnK : K b4 = none := by
  cases e : K b4 with
  | none => rfl
  | some o => have := (hT.base _ _ e).1; rw [hn] at this; cases this
 have hKK : K.le (K.upd b4 (.cells (runC p t q b) 193)) := Mm.le_upd' hnK _
 have hbK : (K.upd b4 (.cells (runC p t q b) 193)) b4 = some (.cells (runC p t q b) 193) := Mm.upd_same _ _ _
 have hfb := hT1.obj
 have ND1 := Lib.hid (fun (w : World) (h : Has σ M1 w) => ND.out M1 w h hle)
 clear ND
 -- behind the entrance: the store of v at a, then the frame goes on at 6
 have ME := Lib.hid (fun (w : World) (h : Has σ M1 w) => mMem_eq h hT1.mach)
 have SE := Lib.hid (fun (w : World) (h : Has σ M1 w) => memStore_eq h hT1.mach.mem hb1 hb2 a v)
 have hne : b4 ≠ b := fun e => by
  subst e
  rw [hb4] at hfb
  simp only [Option.some.injEq, Obj.cells.injEq] at hfb
  exact absurd hfb.2.1 (by decide)
 have hT2 := hT1.store a v
 have KL := Mm.upd_le2 hT1.base.le hT1.obj
 have KE := Mm.upd_le2 hT2.base.le hT2.obj
 have hbK2 : ((K.upd b4 (.cells (runC p t q b) 193)).upd b (.cells f.row 69)) b4 = some (.cells (runC p t q b) 193) := (Mm.upd_ne hne).trans (Mm.upd_same _ _ _)
 have hfK : ((K.upd b4 (.cells (runC p t q b) 193)).upd b (.cells f.row 69)) b = some (.cells f.row 69) := Mm.upd_same _ _ _
 obtain ⟨hfb2, hT3⟩ := hT2.frame (f.goto 6)
 have HT := Lib.hid (hT3.less hKK)
 have hsz : 1 < f.row.size := show 1 < 18 by omega
 have R1 := Lib.hid (row_goto f 6)
 clear hT hT1 hT2 hT3 hb1 hb2 hn hle hnK hKK hne hbK
 generalize runC p t q b = rc at *
 generalize hr0 : f.row = fr0 at *
 generalize hr1 : (f.goto 6).row = fr1 at *
 clear hr0 hr1
 generalize (K.upd b4 _).upd b _ = K1 at KL KE hbK2 hfK
 generalize storeM M1 s.mp s.mem a v = M2 at *
 subst hv
 go_upto_region 18 with (first
  | (with_reducible show wpList _ _ _ ({ dst := _, op := Op.load 70 _, type := _, pos := _, after := _, guard := _ } :: _) _ _; refine wpList_load1_has h rfl 70 _ rfl rfl hb4 d3 Tryz.underlying70 rfl ?_)
  | (with_reducible show wpList _ _ _ ({ dst := _, op := Op.load 42 _, type := _, pos := _, after := _, guard := _ } :: _) _ _; refine wpList_load1_has h rfl 42 _ rfl rfl hfb f2 Tryz.underlying42 rfl ?_)
  | (with_reducible show wpList _ _ _ ({ dst := _, op := Op.load 3 _, type := _, pos := _, after := _, guard := _ } :: _) _ _; refine wpList_load1_has h rfl 3 _ rfl rfl hfb f1 Tryz.underlying3 rfl ?_))
 clear hfb hb4
 refine wp_region_held_drew (S := Has σ (K1)) (by kernel_rfl) (h.drew.le KL) (fun hHeld => ?_)
 refine wpAnyH_take (i := 0) (v := ?_) rfl (by kernel_rfl) (by kernel_rfl) (by kernel_rfl) (fun _ _ _ h => h) (Or.inl ⟨by rfl, ?_⟩) hHeld ?_
 rotate_left
 ·(intro wz _; go_simp; try with_reducible rfl)
 try simp only [List.getElem_toArray, List.getElem_cons_succ, List.getElem_cons_zero, Act.put, List.setIfInBounds_toArray, List.set_cons_zero, List.set_cons_succ]
 refine wpAnyH_take (i := 1) (v := ?_) rfl (by kernel_rfl) (by kernel_rfl) (by kernel_rfl) (fun _ _ _ h => h) (Or.inl ⟨by rfl, ?_⟩) hHeld ?_
 rotate_left
 ·(intro wz _; go_simp; try with_reducible rfl)
 try simp only [List.getElem_toArray, List.getElem_cons_succ, List.getElem_cons_zero, Act.put, List.setIfInBounds_toArray, List.set_cons_zero, List.set_cons_succ]
 refine wpAnyH_take (i := 2) (v := _) rfl (by kernel_rfl) (by kernel_rfl) (by kernel_rfl) (fun _ _ _ h => h) (yields_load1 rfl 26 _ rfl rfl hbK2 d0 Tryz.underlying26 rfl) hHeld ?_
 try simp only [List.getElem_toArray, List.getElem_cons_succ, List.getElem_cons_zero, Act.put, List.setIfInBounds_toArray, List.set_cons_zero, List.set_cons_succ]
 refine wpAnyH_take (i := 4) (v := ?_) rfl (by kernel_rfl) (by kernel_rfl) (by kernel_rfl) (fun _ _ _ h => h) (Or.inl ⟨by rfl, ?_⟩) hHeld ?_
 rotate_left
 ·(intro wz _; go_simp; try with_reducible rfl)
 try simp only [List.getElem_toArray, List.getElem_cons_succ, List.getElem_cons_zero, Act.put, List.setIfInBounds_toArray, List.set_cons_zero, List.set_cons_succ]
 refine wpAnyH_take (i := 5) (v := _) rfl (by kernel_rfl) (by kernel_rfl) (by kernel_rfl) (fun _ _ _ h => h) (yields_agg rfl 190 _ rfl rfl hbK2 dx dz Tryz.underlying190 rfl (by kernel_rfl)) hHeld ?_
 try simp only [List.getElem_toArray, List.getElem_cons_succ, List.getElem_cons_zero, Act.put, List.setIfInBounds_toArray, List.set_cons_zero, List.set_cons_succ]
 refine wpAnyH_take (i := 6) (v := ?_) rfl (by kernel_rfl) (by kernel_rfl) (by kernel_rfl) (fun _ _ _ h => h) (Or.inl ⟨by rfl, ?_⟩) hHeld ?_
 rotate_left
 ·(intro wz _; go_simp; try with_reducible rfl)
 try simp only [List.getElem_toArray, List.getElem_cons_succ, List.getElem_cons_zero, Act.put, List.setIfInBounds_toArray, List.set_cons_zero, List.set_cons_succ]
 refine wpAnyH_take (i := 7) (v := ?_) rfl (by kernel_rfl) (by kernel_rfl) (by kernel_rfl) (fun _ _ _ h => h) (Or.inl ⟨by rfl, ?_⟩) hHeld ?_
 rotate_left
 ·(intro wz _; go_simp; try with_reducible rfl)
 try simp only [List.getElem_toArray, List.getElem_cons_succ, List.getElem_cons_zero, Act.put, List.setIfInBounds_toArray, List.set_cons_zero, List.set_cons_succ]
 refine wpAnyH_take (i := 8) (v := ?_) rfl (by kernel_rfl) (by kernel_rfl) (by kernel_rfl) (fun _ _ _ h => h) (Or.inl ⟨by rfl, ?_⟩) hHeld ?_
 rotate_left
 ·(intro wz _; go_simp; try with_reducible rfl)
 try simp only [List.getElem_toArray, List.getElem_cons_succ, List.getElem_cons_zero, Act.put, List.setIfInBounds_toArray, List.set_cons_zero, List.set_cons_succ]
 refine wpAnyH_take (i := 9) (v := ?_) rfl (by kernel_rfl) (by kernel_rfl) (by kernel_rfl) (fun _ _ _ h => h) (Or.inl ⟨by rfl, ?_⟩) hHeld ?_
 rotate_left
 ·(intro wz _; go_simp; try with_reducible rfl)
 try simp only [List.getElem_toArray, List.getElem_cons_succ, List.getElem_cons_zero, Act.put, List.setIfInBounds_toArray, List.set_cons_zero, List.set_cons_succ]
 refine wpAnyH_take (i := 10) (v := _) rfl (by kernel_rfl) (by kernel_rfl) (by kernel_rfl) (fun _ _ _ h => h) (yields_load1 rfl 3 _ rfl rfl hfK f1 Tryz.underlying3 rfl) hHeld ?_
 try simp only [List.getElem_toArray, List.getElem_cons_succ, List.getElem_cons_zero, Act.put, List.setIfInBounds_toArray, List.set_cons_zero, List.set_cons_succ]
 replace h := h.drew
 generalize w.drew = w1 at h hHeld ⊢
 clear w
 obtain ⟨w, rfl⟩ : ∃ q : World, q = w1 := ⟨_, rfl⟩
 refine wpAnyH_ready (rs := [3]) (by kernel_rfl) (by simp) ?_
 refine AllReadyH.cons rfl (fun K hK => ?_) AllReadyH.nil
 (go_simp; go_wp2_with (go_at_call 46; refine (ME.out _ h).mono ?_; clear h; rintro _ w ⟨rfl, h⟩))
 refine hK.out _ _ (h.le KL) (fun hHeld => ?_)
 clear hK K
 try simp only [Act.put, List.setIfInBounds_toArray, List.set_cons_zero, List.set_cons_succ]
 refine wpAnyH_ready (rs := [11]) (by kernel_rfl) (by simp) ?_
 refine AllReadyH.cons rfl (fun K hK => ?_) AllReadyH.nil
 (go_simp; go_wp2_with (go_at_call 144; refine (SC.out _).mono ?_; rintro _ w' ⟨rfl, rfl⟩))
 refine hK.out _ _ (h.le KL) (fun hHeld => ?_)
 clear hK K
 try simp only [Act.put, List.setIfInBounds_toArray, List.set_cons_zero, List.set_cons_succ]
 refine wpAnyH_ready (rs := [12]) (by kernel_rfl) (by simp) ?_
 refine AllReadyH.cons rfl (fun K hK => ?_) AllReadyH.nil
 (go_simp; go_wp2_with (go_at_call 143; refine (ND1.out _ h).mono ?_; clear h; rintro _ w ⟨rfl, h⟩))
 refine hK.out _ _ (h.le KL) (fun hHeld => ?_)
 clear hK K
 try simp only [Act.put, List.setIfInBounds_toArray, List.set_cons_zero, List.set_cons_succ]
 refine wpAnyH_ready (rs := [13]) (by kernel_rfl) (by simp) ?_
 refine AllReadyH.cons rfl (fun K hK => ?_) AllReadyH.nil
 (go_simp; go_wp2_with (go_at_call 97; refine (SE.out _ h).mono ?_; clear h; rintro _ w ⟨rfl, h⟩))
 refine hK.out _ _ (h.le KE) (fun hHeld => ?_)
 clear hK K
 try simp only [Act.put, List.setIfInBounds_toArray, List.set_cons_zero, List.set_cons_succ]
 refine wpAnyH_done (by kernel_rfl) ?_ _
 clear hHeld
 go_wp2_with (first
  | (with_reducible show wpList _ _ _ ({ dst := _, op := Op.load 3 _, type := _, pos := _, after := _, guard := _ } :: _) _ _; refine wpList_load1_has h rfl 3 _ rfl rfl hfb2 f1 Tryz.underlying3 rfl ?_)
  | (with_reducible show wpList _ _ _ ({ dst := _, op := Op.store 3 _ _, type := _, pos := _, after := _, guard := _ } :: _) _ _; refine wpList_store1_has h rfl 3 _ _ rfl rfl rfl hfb2 hsz rfl (by kernel_rfl) ?_; clear h; intro w h))
 go_end0
 refine ⟨rfl, _, _, ?_, HT.out⟩
 have h0 : Has σ (M2.upd b (.cells (fr0.setIfInBounds 1 (.int .i64 6)) 69)) w := h
 rw [R1.out] at h0
 exact h0
end
section
open Go.RowKit
set_option maxHeartbeats 4000000 in
set_option maxRecDepth 20000 in
theorem give_9no {σ w : World} {K M : Mm} {lab : Nat → Nat} {p t q b lv : Nat} {s : MachS} {fs : List FrameS} {f : FrameS} (h : Has σ M w) (hT : AtTop K M lab p s t q b fs f) (hat : f.at_ = 9) {sl x : Nat} (h0 : f.r 0 = (sl : Int)) (hsl : sl < 256) (hx : f.r 1 = (x : Int)) (hx64 : x < 18446744073709551616) (hlv : levelOf s.c (t : Nat) = (lv : Nat)) (hlc : (lv : Int) < s.c 0) (hb1 : s.mem.acc < 1000000000) (hb2 : s.mem.wr < 1000000000) (hsw : s.mem.swaps (atK s.c lv 0 0 0) x = false) :
  Calls Tryz.prog 133 #[.agg (runC p t q b)] w fun r w' => r = .returned (.tuple #[]) ∧ ∃ M' lab', Has σ M' w' ∧ AtTop K M' lab' p { s.top t fs (f.goto 7) with mem := s.mem.cas (atK s.c lv 0 0 0) x (mkTop sl (cutN x 8 56 + 1) : Nat) } t q b fs (f.goto 7) := by
 have d0 : (runC p t q b)[0]? = some (.pointer (some ⟨p, 0, none⟩)) := rfl
 have d1 : (runC p t q b)[1]? = some (.int .i64 (t : Nat)) := rfl
 have d2 : (runC p t q b)[2]? = some (.pointer (some ⟨q, 0, none⟩)) := rfl
 have d3 : (runC p t q b)[3]? = some (.pointer (some ⟨b, 0, none⟩)) := rfl
 have dx : (runC p t q b).extract 0 (0 + 4) = runC p t q b := rfl
 have dz : (runC p t q b).size = 4 := rfl
 have f1 : f.row[1]? = some (.int .i64 9) := by rw [← hat]; rfl
 have f2 : f.row[2]? = some (.int .u64 (sl : Nat)) := by rw [← h0]; rfl
 have us : IntKind.i64.wrap ((sl : Nat) : Int) = ((sl : Nat) : Int) := IntWalk.i64_in _ (by omega)
 clear hat
 go_enter Tryz.func133, Tryz.ntmps133
 go_upto_region 1 with (fail)
 obtain ⟨M1, hbx, hle, hb4, hn⟩ := h.box (.cells (runC p t q b) 193)
 generalize w.alloc _ = wx at hbx ⊢
 generalize w.heap.size = b4 at hb4 hn ⊢
 clear h
 try clear w
 have h := hbx
 clear hbx
 obtain ⟨w, rfl⟩ : ∃ x : World, x = wx := ⟨_, rfl⟩
 obtain ⟨lab1, hT1⟩ := hT.more1 hle hn hb4
 have hnK : K b4 = none := by
  cases e : K b4 with
  | none => rfl
  | some o => have := (hT.base _ _ e).1; rw [hn] at this; cases this
 have hKK : K.le (K.upd b4 (.cells (runC p t q b) 193)) := Mm.le_upd' hnK _
 have hbK : (K.upd b4 (.cells (runC p t q b) 193)) b4 = some (.cells (runC p t q b) 193) := Mm.upd_same _ _ _
 have hfb := hT1.obj
 have hsz : 1 < f.row.size := show 1 < 18 by omega
 have R0 := Lib.hid (row_goto f 7)
 obtain ⟨_, hT2⟩ := hT1.frame (f.goto 7)
 have SW := Lib.hid (fun (w : World) (h : Has σ (M1.upd b (.cells (f.goto 7).row 69)) w) => runSwing_eq h hT2 (spotAt_of hT2.mach hlv hlc (inK_free _)) hb1 hb2 (x := x) (slot := sl) hx hx64 (by omega))
 rw [show (s.top t fs (f.goto 7)).mem = s.mem from rfl, show (s.top t fs (f.goto 7)).c = s.c from rfl, hsw] at SW
 have hbK2 := hT2.base.le _ _ hbK
 have HK := Lib.hid hKK
 have HBK := Lib.hid hbK
 clear hT hT1 hT2 hb1 hb2 hn hle hnK hKK hx hx64 hlv hlc hsw hbK h0
 generalize f.row = fr0 at *
 generalize hr1 : (f.goto 7).row = fr1 at *
 generalize runC p t q b = rc at *
 clear hr1
 go_upto_region 5 with (first
  | (with_reducible show wpList _ _ _ ({ dst := _, op := Op.load 70 _, type := _, pos := _, after := _, guard := _ } :: _) _ _; refine wpList_load1_has h rfl 70 _ rfl rfl hb4 d3 Tryz.underlying70 rfl ?_)
  | (with_reducible show wpList _ _ _ ({ dst := _, op := Op.load 42 _, type := _, pos := _, after := _, guard := _ } :: _) _ _; refine wpList_load1_has h rfl 42 _ rfl rfl hfb f2 Tryz.underlying42 rfl ?_)
  | (with_reducible show wpList _ _ _ ({ dst := _, op := Op.load 3 _, type := _, pos := _, after := _, guard := _ } :: _) _ _; refine wpList_load1_has h rfl 3 _ rfl rfl hfb f1 Tryz.underlying3 rfl ?_)
  | (with_reducible show wpList _ _ _ ({ dst := _, op := Op.store 3 _ _, type := _, pos := _, after := _, guard := _ } :: _) _ _; refine wpList_store1_has h rfl 3 _ _ rfl rfl rfl hfb hsz rfl (by kernel_rfl) ?_; clear h; intro w h))
 have h9 : Has σ (M1.upd b (.cells (fr0.setIfInBounds 1 (.int .i64 7)) 69)) w := h
 rw [R0.out] at h9
 clear h hfb hsz R0 hb4
 have h := h9
 clear h9
 generalize M1.upd b _ = M2 at h hbK2 SW
 go_wp2_with (first
  | ((with_reducible show wpList _ _ _ ({ dst := _, op := Op.load 190 _, type := _, pos := _, after := _, guard := _ } :: _) _ _); refine wpList_agg_has h rfl 190 _ rfl rfl hbK2 dx dz Tryz.underlying190 rfl (by kernel_rfl) ?_; try simp only [Act.put, List.setIfInBounds_toArray, List.set_cons_zero, List.set_cons_succ])
  | (go_at_call 141; refine (SW.out _ h).mono ?_; clear h; rintro _ w ⟨rfl, M3, lab3, h, hT3⟩))
 go_end0
 exact ⟨rfl, M3, lab3, h, hT3.less HK.out⟩
set_option maxHeartbeats 4000000 in
set_option maxRecDepth 20000 in
theorem give_9yes {σ w : World} {K M : Mm} {lab : Nat → Nat} {p t q b lv : Nat} {s : MachS} {fs : List FrameS} {f : FrameS} (h : Has σ M w) (hT : AtTop K M lab p s t q b fs f) (hat : f.at_ = 9) {sl x : Nat} (h0 : f.r 0 = (sl : Int)) (hsl : sl < 256) (hx : f.r 1 = (x : Int)) (hx64 : x < 18446744073709551616) (hlv : levelOf s.c (t : Nat) = (lv : Nat)) (hlc : (lv : Int) < s.c 0) (hb1 : s.mem.acc < 1000000000) (hb2 : s.mem.wr < 1000000000) (hsw : s.mem.swaps (atK s.c lv 0 0 0) x = true) (hfs : fs.length < 1000000) :
  Calls Tryz.prog 133 #[.agg (runC p t q b)] w fun r w' => r = .returned (.tuple #[]) ∧ ∃ M' lab', Has σ M' w' ∧ Mach M' lab' p (MachS.backed { s.top t fs (f.goto 7) with mem := s.mem.cas (atK s.c lv 0 0 0) x (mkTop sl (cutN x 8 56 + 1) : Nat) } t []) ∧ Base K M' lab' := by
 have d0 : (runC p t q b)[0]? = some (.pointer (some ⟨p, 0, none⟩)) := rfl
 have d1 : (runC p t q b)[1]? = some (.int .i64 (t : Nat)) := rfl
 have d2 : (runC p t q b)[2]? = some (.pointer (some ⟨q, 0, none⟩)) := rfl
 have d3 : (runC p t q b)[3]? = some (.pointer (some ⟨b, 0, none⟩)) := rfl
 have dx : (runC p t q b).extract 0 (0 + 4) = runC p t q b := rfl
 have dz : (runC p t q b).size = 4 := rfl
 have f1 : f.row[1]? = some (.int .i64 9) := by rw [← hat]; rfl
 have f2 : f.row[2]? = some (.int .u64 (sl : Nat)) := by rw [← h0]; rfl
 have us : IntKind.i64.wrap ((sl : Nat) : Int) = ((sl : Nat) : Int) := IntWalk.i64_in _ (by omega)
 clear hat
 have HF := Lib.hid hfs
 clear hfs
 go_enter Tryz.func133, Tryz.ntmps133
 go_upto_region 1 with (fail)
 obtain ⟨M1, hbx, hle, hb4, hn⟩ := h.box (.cells (runC p t q b) 193)
 generalize w.alloc _ = wx at hbx ⊢
 generalize w.heap.size = b4 at hb4 hn ⊢
 clear h
 try clear w
 have h := hbx
 clear hbx
 obtain ⟨w, rfl⟩ : ∃ x : World, x = wx := ⟨_, rfl⟩
 obtain ⟨lab1, hT1⟩ := hT.more1 hle hn hb4
 have hnK : K b4 = none := by
  cases e : K b4 with
  | none => rfl
  | some o => have := (hT.base _ _ e).1; rw [hn] at this; cases this
 have hKK : K.le (K.upd b4 (.cells (runC p t q b) 193)) := Mm.le_upd' hnK _
 have hbK : (K.upd b4 (.cells (runC p t q b) 193)) b4 = some (.cells (runC p t q b) 193) := Mm.upd_same _ _ _
 have hfb := hT1.obj
 have hsz : 1 < f.row.size := show 1 < 18 by omega
 have R0 := Lib.hid (row_goto f 7)
 obtain ⟨_, hT2⟩ := hT1.frame (f.goto 7)
 have SW := Lib.hid (fun (w : World) (h : Has σ (M1.upd b (.cells (f.goto 7).row 69)) w) => runSwing_eq h hT2 (spotAt_of hT2.mach hlv hlc (inK_free _)) hb1 hb2 (x := x) (slot := sl) hx hx64 (by omega))
 rw [show (s.top t fs (f.goto 7)).mem = s.mem from rfl, show (s.top t fs (f.goto 7)).c = s.c from rfl, hsw] at SW
 have hbK2 := hT2.base.le _ _ hbK
 have HK := Lib.hid hKK
 have HBK := Lib.hid hbK
 clear hT hT1 hT2 hb1 hb2 hn hle hnK hKK hx hx64 hlv hlc hsw hbK h0
 generalize f.row = fr0 at *
 generalize hr1 : (f.goto 7).row = fr1 at *
 generalize runC p t q b = rc at *
 clear hr1
 go_upto_region 5 with (first
  | (with_reducible show wpList _ _ _ ({ dst := _, op := Op.load 70 _, type := _, pos := _, after := _, guard := _ } :: _) _ _; refine wpList_load1_has h rfl 70 _ rfl rfl hb4 d3 Tryz.underlying70 rfl ?_)
  | (with_reducible show wpList _ _ _ ({ dst := _, op := Op.load 42 _, type := _, pos := _, after := _, guard := _ } :: _) _ _; refine wpList_load1_has h rfl 42 _ rfl rfl hfb f2 Tryz.underlying42 rfl ?_)
  | (with_reducible show wpList _ _ _ ({ dst := _, op := Op.load 3 _, type := _, pos := _, after := _, guard := _ } :: _) _ _; refine wpList_load1_has h rfl 3 _ rfl rfl hfb f1 Tryz.underlying3 rfl ?_)
  | (with_reducible show wpList _ _ _ ({ dst := _, op := Op.store 3 _ _, type := _, pos := _, after := _, guard := _ } :: _) _ _; refine wpList_store1_has h rfl 3 _ _ rfl rfl rfl hfb hsz rfl (by kernel_rfl) ?_; clear h; intro w h))
 have h9 : Has σ (M1.upd b (.cells (fr0.setIfInBounds 1 (.int .i64 7)) 69)) w := h
 rw [R0.out] at h9
 clear h hfb hsz R0 hb4
 have h := h9
 clear h9
 generalize M1.upd b _ = M2 at h hbK2 SW
 go_wp2_with (first | ((with_reducible show wpList _ _ _ ({ dst := _, op := Op.load 190 _, type := _, pos := _, after := _, guard := _ } :: _) _ _); refine wpList_agg_has h rfl 190 _ rfl rfl hbK2 dx dz Tryz.underlying190 rfl (by kernel_rfl) ?_; try simp only [Act.put, List.setIfInBounds_toArray, List.set_cons_zero, List.set_cons_succ]))
 go_at_call 141
 refine (SW.out _ h).mono ?_
 clear h
 rintro _ w ⟨rfl, M3, lab3, h, hT3⟩
 have hb4' := hT3.base.le _ _ HBK.out
 have BK := Lib.hid (fun (w : World) (h : Has σ M3 w) => back0_eq h hT3 HF.out)
 clear hT3 SW hbK2
 go_wp2_with (first
  | (with_reducible show wpList _ _ _ ({ dst := _, op := Op.load 38 _, type := _, pos := _, after := _, guard := _ } :: _) _ _; refine wpList_load1_has h rfl 38 _ rfl rfl hb4' d2 Tryz.underlying38 rfl ?_)
  | (go_at_call 93; refine (BK.out _ h).mono ?_; clear h; rintro _ w ⟨rfl, M4, lab4, h, hM4, hB4⟩))
 go_end0
 exact ⟨rfl, M4, lab4, h, hM4, fun c o hc => hB4 c o (HK.out _ _ hc)⟩
end
section
open Go.RowKit
/-- The machine behind a step that brought it to s2. -/
def MachS.after (s2 s : MachS) (lv : Nat) : MachS := MachS.watch { s2 with steps := s2.steps + 1 } lv s.mem.acc s.mem.wr
theorem after_same (s2 s : MachS) (lv : Nat) : (s2.after s lv).c = s2.c ∧ (s2.after s lv).tp = s2.tp ∧ (s2.after s lv).mem = s2.mem ∧ (s2.after s lv).ward = s2.ward ∧ (s2.after s lv).thr = s2.thr ∧ (s2.after s lv).clk = s2.clk ∧ (s2.after s lv).steps = s2.steps + 1 ∧ (s2.after s lv).given = s2.given := by
 unfold MachS.after MachS.watch
 repeat' split
 all_goals exact ⟨rfl, rfl, rfl, rfl, rfl, rfl, rfl, rfl⟩
theorem step_take {σ w : World} {K M : Mm} {lab : Nat → Nat} {p t q lv : Nat} {s : MachS} {fs : List FrameS} {f : FrameS} (h : Has σ M w) (hM : Mach M lab p s) (hB : Base K M lab) (hq : s.tp[t]? = some q) (hf : (s.thr t).frames = fs ++ [f]) (hfn : f.fn = 1) (hrun : ((s.thr t).st || (s.thr t).ki) = false) (hlv : levelOf s.c t = (lv : Nat))
  (hb1 : s.mem.acc < 1000000000) (hb2 : s.steps < 1000000) (hb3 : ∀ k, s.clk k < 1000000000) (hfs : fs.length < 1000000) {s2 : MachS} (e1 : s2.tp = s.tp) (e2 : s2.steps = s.steps) (e3 : (s2.thr t).frames.length ≤ fs.length + 1)
  (hstep : ∀ (b : Nat) (K1 M1 : Mm) (lab1 : Nat → Nat) (w1 : World), Has σ M1 w1 → AtTop K1 M1 lab1 p (s.tick lv) t q b fs f → Calls Tryz.prog 132 #[.agg (runC p t q b)] w1 fun r w' => r = .returned (.tuple #[]) ∧ ∃ M' lab', Has σ M' w' ∧ Mach M' lab' p s2 ∧ Base K1 M' lab') :
  Calls Tryz.prog 33 #[.pointer (some ⟨p, 0, none⟩), .int .i64 (t : Nat), .func (.func 105) #[] #[]] w fun r w' => ∃ M' lab' b, r = .returned (.bool b) ∧ Has σ M' w' ∧ Mach M' lab' p (s2.after s lv) ∧ Base K M' lab' := by
 have STP := step_eq (R := fun x => x = s2) (F := 105) (caps := #[]) h hM hB hq (by rw [hf]; simp) hrun hlv hb1 (by omega) hb3 (by rw [hf]; simp; omega) (by kernel_rfl)
  (fun M1 lab1 w1 h1 hM1 hB1 => by
   obtain ⟨b, hT⟩ := AtTop.of (f := f) (fs := fs) hM1 hB1 hq hf
   refine (do_take h1 hT hfn hfs (s' := s2) (fun K1 M2 lab2 w2 h2 hT2 => hstep b K1 M2 lab2 w2 h2 hT2)).mono fun r w' ⟨e, M', lab', h', hB', hM'⟩ => ⟨e, M', lab', s2, h', hB', hM', rfl⟩)
  (fun x hx => by subst hx; exact ⟨e1, by rw [e2]; omega, by omega⟩)
 refine STP.mono fun r w' hr => ?_
 obtain ⟨M', lab', x, rfl, hr, h', hB', hM'⟩ := hr
 exact ⟨M', lab', _, hr, h', hM', hB'⟩
end
section
open Go.RowKit
section
variable {σ w : World} {K M : Mm} {lab : Nat → Nat} {p t q : Nat} {s : MachS}
set_option maxHeartbeats 2000000 in
set_option maxRecDepth 20000 in
/-- Do of Give: what a bit of it does. -/
theorem do_give {b : Nat} {fs : List FrameS} {f : FrameS} (h : Has σ M w) (hT : AtTop K M lab p s t q b fs f) (hfn : f.fn = 2) (hfs : fs.length < 1000000) {s' : MachS}
  (hstep : ∀ (K1 M1 : Mm) (lab1 : Nat → Nat) (w1 : World), Has σ M1 w1 → AtTop K1 M1 lab1 p s t q b fs f → Calls Tryz.prog 133 #[.agg (runC p t q b)] w1 fun r w' => r = .returned (.tuple #[]) ∧ ∃ M' lab', Has σ M' w' ∧ Mach M' lab' p s' ∧ Base K1 M' lab') :
  Calls Tryz.prog 105 #[.pointer (some ⟨p, 0, none⟩), .int .i64 (t : Nat)] w fun r w' => r = .returned (.tuple #[]) ∧ ∃ M' lab', Has σ M' w' ∧ Base K M' lab' ∧ Mach M' lab' p s' := by
 obtain ⟨fv, hv, fbs, hTh⟩ := hT.thr
 have hlen : fbs.length = fs.length := by
  have h1 := hTh.flen
  rw [hT.fr] at h1
  simpa using h1
 have TH := Lib.hid (fun (w : World) (h : Has σ M w) => mThread_yes h hT.mach hT.tp)
 have TP := Lib.hid (fun (w : World) (h : Has σ M w) => thrTop_eq h hTh (by omega))
 have hfb := hT.obj
 have f0 : f.row[0]? = some (.int .i64 f.fn) := rfl
 have HT := Lib.hid hT
 have HS := Lib.hid hstep
 rw [hfn] at f0
 clear hT hTh hlen hfs hfn hstep
 generalize f.row = fr0 at *
 go_enter Tryz.func105, Tryz.ntmps105
 go_upto_region 3 with (first
  | (go_at_call 13; refine (TH.out _ h).mono ?_; clear h; rintro _ w ⟨rfl, h⟩)
  | (go_at_call 32; refine (TP.out _ h).mono ?_; clear h; rintro _ w ⟨rfl, h⟩)
  | ((with_reducible show wpList _ _ _ ({ dst := _, op := Op.alloc 190, type := _, pos := _, after := _, guard := _ } :: _) _ _); refine wpList_alloc_has h rfl 190 rfl _ zrun ?_; clear h; intro bx w h hnx; try simp only [Act.put, List.setIfInBounds_toArray, List.set_cons_zero, List.set_cons_succ])
  | ((with_reducible show wpList _ _ _ ({ dst := _, op := Op.store 190 _ _, type := _, pos := _, after := _, guard := _ } :: _) _ _); refine wpList_storeAll_has (cells := runC p t q b) h rfl 190 _ _ rfl rfl rfl (Mm.upd_same _ _ _) rfl rfl rfl (by kernel_rfl) rfl ?_; clear h; intro w h))
 rw [Mm.upd_upd] at h
 have hfb1 := Mm.upd_of (o := .cells (runC p t q b) 190) hnx hfb
 have hle := Mm.le_upd' hnx (.cells (runC p t q b) 190)
 have hbx := Mm.upd_same M bx (.cells (runC p t q b) 190)
 generalize M.upd bx _ = M1 at h hfb1 hle hbx
 obtain ⟨lab1, hT1⟩ := HT.out.more1 hle hnx hbx
 have hnK : K bx = none := by
  cases e : K bx with
  | none => rfl
  | some o => have := (HT.out.base _ _ e).1; rw [hnx] at this; cases this
 have HKK := Lib.hid (Mm.le_upd' hnK (.cells (runC p t q b) 190))
 have ST := Lib.hid (fun (w : World) (h : Has σ M1 w) => HS.out _ M1 lab1 w h hT1)
 clear hT1 hnK hnx hle TH TP
 unfold runC at ST hbx
 have dx : (#[.pointer (some ⟨p, 0, none⟩), .int .i64 (t : Nat), .pointer (some ⟨q, 0, none⟩), .pointer (some ⟨b, 0, none⟩)] : Array Value).extract 0 (0 + 4) = #[.pointer (some ⟨p, 0, none⟩), .int .i64 (t : Nat), .pointer (some ⟨q, 0, none⟩), .pointer (some ⟨b, 0, none⟩)] := rfl
 go_wp2_with (first
  | (with_reducible show wpList _ _ _ ({ dst := _, op := Op.load 3 _, type := _, pos := _, after := _, guard := _ } :: _) _ _; refine wpList_load1_has h rfl 3 _ rfl rfl hfb1 f0 Tryz.underlying3 rfl ?_)
  | ((with_reducible show wpList _ _ _ ({ dst := _, op := Op.load 190 _, type := _, pos := _, after := _, guard := _ } :: _) _ _); refine wpList_agg_has h rfl 190 _ rfl rfl hbx dx rfl Tryz.underlying190 rfl (by kernel_rfl) ?_; try simp only [Act.put, List.setIfInBounds_toArray, List.set_cons_zero, List.set_cons_succ])
  | (go_at_call 133; refine (ST.out _ h).mono ?_; clear h; rintro _ w ⟨rfl, M2, lab2, h, hM2, hB2⟩))
 go_end0
 exact ⟨rfl, M2, lab2, h, fun c o hc => hB2 c o (HKK.out _ _ hc), hM2⟩
end
theorem step_give {σ w : World} {K M : Mm} {lab : Nat → Nat} {p t q lv : Nat} {s : MachS} {fs : List FrameS} {f : FrameS} (h : Has σ M w) (hM : Mach M lab p s) (hB : Base K M lab) (hq : s.tp[t]? = some q) (hf : (s.thr t).frames = fs ++ [f]) (hfn : f.fn = 2) (hrun : ((s.thr t).st || (s.thr t).ki) = false) (hlv : levelOf s.c t = (lv : Nat))
  (hb1 : s.mem.acc < 1000000000) (hb2 : s.steps < 1000000) (hb3 : ∀ k, s.clk k < 1000000000) (hfs : fs.length < 1000000) {s2 : MachS} (e1 : s2.tp = s.tp) (e2 : s2.steps = s.steps) (e3 : (s2.thr t).frames.length ≤ fs.length + 1)
  (hstep : ∀ (b : Nat) (K1 M1 : Mm) (lab1 : Nat → Nat) (w1 : World), Has σ M1 w1 → AtTop K1 M1 lab1 p (s.tick lv) t q b fs f → Calls Tryz.prog 133 #[.agg (runC p t q b)] w1 fun r w' => r = .returned (.tuple #[]) ∧ ∃ M' lab', Has σ M' w' ∧ Mach M' lab' p s2 ∧ Base K1 M' lab') :
  Calls Tryz.prog 33 #[.pointer (some ⟨p, 0, none⟩), .int .i64 (t : Nat), .func (.func 105) #[] #[]] w fun r w' => ∃ M' lab' b, r = .returned (.bool b) ∧ Has σ M' w' ∧ Mach M' lab' p (s2.after s lv) ∧ Base K M' lab' := by
 have STP := step_eq (R := fun x => x = s2) (F := 105) (caps := #[]) h hM hB hq (by rw [hf]; simp) hrun hlv hb1 (by omega) hb3 (by rw [hf]; simp; omega) (by kernel_rfl)
  (fun M1 lab1 w1 h1 hM1 hB1 => by
   obtain ⟨b, hT⟩ := AtTop.of (f := f) (fs := fs) hM1 hB1 hq hf
   refine (do_give h1 hT hfn hfs (s' := s2) (fun K1 M2 lab2 w2 h2 hT2 => hstep b K1 M2 lab2 w2 h2 hT2)).mono fun r w' ⟨e, M', lab', h', hB', hM'⟩ => ⟨e, M', lab', s2, h', hB', hM', rfl⟩)
  (fun x hx => by subst hx; exact ⟨e1, by rw [e2]; omega, by omega⟩)
 refine STP.mono fun r w' hr => ?_
 obtain ⟨M', lab', x, rfl, hr, h', hB', hM'⟩ := hr
 exact ⟨M', lab', _, hr, h', hM', hB'⟩
end
section
open Go.RowKit
def Dropped3 : Nat → Prop := fun k => k = 3 ∨ (k = 4 ∨ k = 6)
section
variable {σ w : World} {K M M' : Mm} {lab lab' : Nat → Nat} {p : Nat} {s : MachS}
theorem gone_kp (hM : Mach M lab p s) (l t : Int) : Kp Dropped3 M lab ((M.upd s.ward.hb (mapRow (s.ward.gone l t).held (s.ward.gone l t).hclk)).upd s.ward.gb (mapRow (s.ward.gone l t).gens (s.ward.gone l t).gclk)) lab := by
 have k1 : Kp (fun j => j = 3) M lab (M.upd s.ward.hb (mapRow (s.ward.gone l t).held (s.ward.gone l t).hclk)) lab := Kp.upd hM.wlab.2.1 _
 exact (k1.trans (Kp.upd hM.wlab.2.2 _)).mono fun _ h => .inl h
theorem Mach.gaveK (hM : Mach M lab p s) (hB : Base K M lab) {g : GivenS} {v : Value} {M3 : Mm} (hle : (M.out lab 6).le M3) (ho : Own (M.out lab 6) M3 204 6 v (s.given.length + 1) ((s.given ++ [g]).flatMap encG)) {s' : MachS} (hs : s' = { s with gv := v, given := s.given ++ [g] }) :
  ∃ lab', Base K (M3.upd p (.cells s'.row 115)) lab' ∧ Mach (M3.upd p (.cells s'.row 115)) lab' p s' ∧ Kp (fun k => k = 4 ∨ k = 6) M lab (M3.upd p (.cells s'.row 115)) lab' := by
 subst hs
 obtain ⟨lab', hK, hR⟩ := Row.grow hle ho
 obtain ⟨p1, p2⟩ := hK.get hM.obj hM.mark (by omega)
 have k3 : Kp (fun j => j = 4) M3 lab' (M3.upd p (.cells (MachS.row { s with gv := v, given := s.given ++ [g] }) 115)) lab' := Kp.upd p2 _
 have k4 : Kp (fun k => k = 4 ∨ k = 6) M lab (M3.upd p (.cells (MachS.row { s with gv := v, given := s.given ++ [g] }) 115)) lab' := (hK.mono fun _ h => .inr h).trans (k3.mono fun _ h => .inl h)
 obtain ⟨⟨o1, o2, h1, h2, h3, h4, h5, h6, h7, h8, h9, h10, h11, h12⟩, h13⟩ := hM
 obtain ⟨m1, m2⟩ := h4.keep h5 k4 (by omega)
 obtain ⟨w1, w2⟩ := h7.keep h8 k4 (by omega)
 obtain ⟨q1, q2⟩ := k4.get h2 h3 (by omega)
 refine ⟨lab', hB.keep k4 (by omega), ⟨⟨Mm.upd_same _ _ _, p2, h1, q1, q2, m1, m2, h6, w1, w2, h9, h10.keep k4 (by omega), fun t p' hp => (h11 t p' hp).keep k4 fun k hk => by have := hk.1; omega, ?_⟩, h13⟩, k4⟩
 have := hR.keep k3 (by omega)
 rw [List.length_append]
 exact this
/-- Behind Drop of what is held. -/
def MachS.gaveS (s : MachS) (lv t : Int) (gv : Value) : MachS := { s with ward := s.ward.gone lv t, gv := gv, given := s.given ++ [⟨lv, s.ward.link lv t, s.clk⟩] }
set_option maxHeartbeats 4000000 in
set_option maxRecDepth 20000 in
theorem mDrop_kp (h : Has σ M w) (hM : Mach M lab p s) (hB : Base K M lab) (t slot : Int) {lv : Int} (hlv : levelOf s.c t = lv) (hst : StampE s.ward.gens s.ward.gclk) (hg : 0 ≤ valE lv slot s.ward.gens ∧ valE lv slot s.ward.gens < 1000000000) (hsl : s.ward.slips < 1000000000) (hn : s.given.length < 1000000) (hh : s.ward.has lv slot = true) :
  Calls Tryz.prog 147 #[.pointer (some ⟨p, 0, none⟩), .int .i64 t, .int .i64 slot] w fun r w' => r = .returned (.tuple #[]) ∧ ∃ M' lab' gv, Has σ M' w' ∧ Base K M' lab' ∧ Mach M' lab' p (s.gaveS lv slot gv) ∧ Kp Dropped3 M lab M' lab' := by
 have LV := Lib.hid (fun (w : World) (h : Has σ M w) => mLevel_eq h hM t)
 rw [hlv] at LV
 have WD := Lib.hid (fun (w : World) (h : Has σ M w) => mWarden_eq h hM)
 have hs60 : s.ward.sl ≤ 1000000 := by rw [hM.wsz.2]; have := (Nums.of hM.may); obtain ⟨L, B, S, hn⟩ := this; have := hn.slo; have := hn.s0; omega
 have LK := Lib.hid (fun (w : World) (h : Has σ M w) => wardLink_eq h hM.ward lv slot hs60 hg)
 have DR := Lib.hid (fun (w : World) (h : Has σ M w) => drop_yes h hM.ward lv slot hh hst (by omega))
 obtain ⟨hM2, hB2⟩ := hM.gone hB lv slot rfl
 have KPA := Lib.hid (gone_kp hM lv slot)
 obtain ⟨g, G⟩ : ∃ g : GivenS, Hid (g = GivenS.mk lv (s.ward.link lv slot) s.clk) := ⟨_, rfl⟩
 have E : ∀ gv, MachS.gaveS s lv slot gv = { { s with ward := s.ward.gone lv slot } with gv := gv, given := s.given ++ [g] } := fun gv => by unfold MachS.gaveS; rw [G.out]
 replace E := Lib.hid E
 have EG : Hid (encG g = [.int .i64 lv, .int .u64 (s.ward.link lv slot), .int .i64 (s.clk 0 : Nat), .int .i64 (s.clk 1 : Nat), .int .i64 (s.clk 2 : Nat), .int .i64 (s.clk 3 : Nat)]) := by show _ = _; rw [G.out]; rfl
 clear hM hB hlv hst hg hsl hs60 hh
 generalize (M.upd s.ward.hb _).upd s.ward.gb _ = M2 at DR hM2 hB2 KPA
 obtain ⟨s2, E2⟩ : ∃ s2 : MachS, Hid (s2 = { s with ward := s.ward.gone lv slot }) := ⟨_, rfl⟩
 rw [← E2.out] at hM2 E
 have hp := hM2.obj
 have e8 : s2.row[8]? = some s2.gv := rfl
 have eg : Hid (s2.given = s.given) := by show _ = _; rw [E2.out]
 have e4 : s2.row.extract 4 (4 + 4) = #[.int .i64 (s.clk 0 : Nat), .int .i64 (s.clk 1 : Nat), .int .i64 (s.clk 2 : Nat), .int .i64 (s.clk 3 : Nat)] := by rw [E2.out]; rfl
 have l8 : 8 < s2.row.size := show 8 < 11 by omega
 have hown := hM2.grow
 have hpo := Mm.out_of (lab := lab) (k := 6) hp (by rw [hM2.mark]; omega)
 have hle := Mm.out_le M2 lab 6
 unfold Row at hown
 rw [eg.out] at hown
 have GAVE := Lib.hid (fun (M3 : Mm) (v : Value) hl ho => hM2.gaveK hB2 (g := g) (v := v) (M3 := M3) hl ho (s' := { s2 with gv := v, given := s2.given ++ [g] }) rfl)
 rw [eg.out] at GAVE
 have EQ : Hid (∀ v, s2.row.setIfInBounds 8 v = MachS.row { s2 with gv := v, given := s.given ++ [g] }) := Lib.hid fun v => rfl
 have FA : Hid (∀ g : GivenS, (s.given ++ [g]).flatMap encG = s.given.flatMap encG ++ encG g) := Lib.hid fun g => by simp
 replace FA := Lib.hid (FA.out g)
 clear hM2 hB2
 generalize s2.row = row at hp e8 e4 l8 EQ hpo
 generalize s2.gv = gv at e8 hown
 generalize s.given.flatMap encG = xs at hown FA
 generalize hnn : s.given.length = n at hown hn GAVE
 generalize s.ward.link lv slot = lk at LK EG
 generalize s.clk 0 = k0 at e4 EG
 generalize s.clk 1 = k1 at e4 EG
 generalize s.clk 2 = k2 at e4 EG
 generalize s.clk 3 = k3 at e4 EG
 go_enter Tryz.func147, Tryz.ntmps147
 go_upto_region 3 with (first
  | (go_at_call 12; refine (LV.out _ h).mono ?_; clear h; rintro _ w ⟨rfl, h⟩)
  | (go_at_call 17; refine (WD.out _ h).mono ?_; clear h; rintro _ w ⟨rfl, h⟩)
  | (go_at_call 18; refine (LK.out _ h).mono ?_; clear h; rintro _ w ⟨rfl, h⟩)
  | (go_at_call 148; refine (DR.out _ h).mono ?_; clear h; rintro _ w ⟨rfl, h⟩))
 clear LV WD LK DR
 have hpN := Mm.drop_none (M2.out lab 6) p
 have hdl : ((M2.out lab 6).drop p).le M2 := Mm.le_trans (Mm.drop_le _ _) hle
 have hd6 := Mm.drop_le (M2.out lab 6) p
 generalize (M2.out lab 6).drop p = MD at hpN hdl hd6
 generalize M2.out lab 6 = MR at hle hpo hown GAVE hd6
 refine wp_region_held_drew (S := Has σ (MD)) (by kernel_rfl) (h.drew.le hdl) (fun hHeld => ?_)
 refine wpAnyH_take (i := 0) (v := ?_) rfl (by kernel_rfl) (by kernel_rfl) (by kernel_rfl) (fun _ _ _ h => h) (Or.inl ⟨by rfl, ?_⟩) hHeld ?_
 rotate_left
 ·(intro wz _; go_simp; try with_reducible rfl)
 try simp only [List.getElem_toArray, List.getElem_cons_succ, List.getElem_cons_zero, Act.put, List.setIfInBounds_toArray, List.set_cons_zero, List.set_cons_succ]
 refine wpAnyH_take (i := 1) (v := ?_) rfl (by kernel_rfl) (by kernel_rfl) (by kernel_rfl) (fun _ _ _ h => h) (Or.inl ⟨by rfl, ?_⟩) hHeld ?_
 rotate_left
 ·(intro wz _; go_simp; try with_reducible rfl)
 try simp only [List.getElem_toArray, List.getElem_cons_succ, List.getElem_cons_zero, Act.put, List.setIfInBounds_toArray, List.set_cons_zero, List.set_cons_succ]
 refine wpAnyH_take (i := 2) (v := ?_) rfl (by kernel_rfl) (by kernel_rfl) (by kernel_rfl) (fun _ _ _ h => h) (Or.inl ⟨by rfl, ?_⟩) hHeld ?_
 rotate_left
 ·(intro wz _; go_simp; try with_reducible rfl)
 try simp only [List.getElem_toArray, List.getElem_cons_succ, List.getElem_cons_zero, Act.put, List.setIfInBounds_toArray, List.set_cons_zero, List.set_cons_succ]
 refine wpAnyH_take (i := 3) (v := ?_) rfl (by kernel_rfl) (by kernel_rfl) (by kernel_rfl) (fun _ _ _ h => h) (Or.inl ⟨by rfl, ?_⟩) hHeld ?_
 rotate_left
 ·(intro wz _; go_simp; try with_reducible rfl)
 try simp only [List.getElem_toArray, List.getElem_cons_succ, List.getElem_cons_zero, Act.put, List.setIfInBounds_toArray, List.set_cons_zero, List.set_cons_succ]
 refine wpAnyH_take (i := 5) (v := ?_) rfl (by kernel_rfl) (by kernel_rfl) (by kernel_rfl) (fun _ _ _ h => h) (Or.inl ⟨by rfl, ?_⟩) hHeld ?_
 rotate_left
 ·(intro wz _; go_simp; try with_reducible rfl)
 try simp only [List.getElem_toArray, List.getElem_cons_succ, List.getElem_cons_zero, Act.put, List.setIfInBounds_toArray, List.set_cons_zero, List.set_cons_succ]
 refine wpAnyH_take (i := 6) (v := ?_) rfl (by kernel_rfl) (by kernel_rfl) (by kernel_rfl) (fun _ _ _ h => h) (Or.inl ⟨by rfl, ?_⟩) hHeld ?_
 rotate_left
 ·(intro wz _; go_simp; try with_reducible rfl)
 try simp only [List.getElem_toArray, List.getElem_cons_succ, List.getElem_cons_zero, Act.put, List.setIfInBounds_toArray, List.set_cons_zero, List.set_cons_succ]
 refine wpAnyH_take (i := 7) (v := ?_) rfl (by kernel_rfl) (by kernel_rfl) (by kernel_rfl) (fun _ _ _ h => h) (Or.inl ⟨by rfl, ?_⟩) hHeld ?_
 rotate_left
 ·(intro wz _; go_simp; try with_reducible rfl)
 try simp only [List.getElem_toArray, List.getElem_cons_succ, List.getElem_cons_zero, Act.put, List.setIfInBounds_toArray, List.set_cons_zero, List.set_cons_succ]
 refine wpAnyH_take (i := 8) (v := ?_) rfl (by kernel_rfl) (by kernel_rfl) (by kernel_rfl) (fun _ _ _ h => h) (Or.inl ⟨by rfl, ?_⟩) hHeld ?_
 rotate_left
 ·(intro wz _; go_simp; try with_reducible rfl)
 try simp only [List.getElem_toArray, List.getElem_cons_succ, List.getElem_cons_zero, Act.put, List.setIfInBounds_toArray, List.set_cons_zero, List.set_cons_succ]
 refine wpAnyH_take (i := 9) (v := ?_) rfl (by kernel_rfl) (by kernel_rfl) (by kernel_rfl) (fun _ _ _ h => h) (Or.inl ⟨by rfl, ?_⟩) hHeld ?_
 rotate_left
 ·(intro wz _; go_simp; try with_reducible rfl)
 try simp only [List.getElem_toArray, List.getElem_cons_succ, List.getElem_cons_zero, Act.put, List.setIfInBounds_toArray, List.set_cons_zero, List.set_cons_succ]
 replace h := h.drew
 generalize w.drew = w1 at h hHeld ⊢
 clear w
 obtain ⟨w, rfl⟩ : ∃ q : World, q = w1 := ⟨_, rfl⟩
 refine wpAnyH_ready (rs := [4, 10]) (by kernel_rfl) (by simp) ?_
 refine AllReadyH.cons rfl (fun K hK => ?_) (AllReadyH.cons rfl (fun K hK => ?_) AllReadyH.nil)
 ·refine step_yields rfl (yields_load1 rfl 113 _ rfl rfl hp e8 Tryz.underlying113 rfl) h ?_
  refine hK.out _ _ hHeld (fun hHeld => ?_)
  clear hK K
  simp only [Act.put, List.setIfInBounds_toArray, List.set_cons_zero, List.set_cons_succ]
  refine wpAnyH_ready (rs := [10]) (by kernel_rfl) (by simp) ?_
  refine AllReadyH.cons rfl (fun K hK => ?_) AllReadyH.nil
  (refine step_yields rfl (yields_agg rfl 112 _ rfl rfl hp e4 rfl Tryz.underlying112 rfl (by kernel_rfl)) h ?_)
  refine hK.out _ _ (hHeld) (fun hHeld => ?_)
  clear hK K
  try simp only [Act.put, List.setIfInBounds_toArray, List.set_cons_zero, List.set_cons_succ]
  refine wpAnyH_take (i := 11) (v := ?_) rfl (by kernel_rfl) (by kernel_rfl) (by kernel_rfl) (fun _ _ _ h => h) (Or.inl ⟨by rfl, ?_⟩) hHeld ?_
  rotate_left
  ·(intro wz _; go_simp; try with_reducible rfl)
  try simp only [List.getElem_toArray, List.getElem_cons_succ, List.getElem_cons_zero, Act.put, List.setIfInBounds_toArray, List.set_cons_zero, List.set_cons_succ]
  refine wpAnyH_ready (rs := [12]) (by kernel_rfl) (by simp) ?_
  refine AllReadyH.cons rfl (fun K hK => ?_) AllReadyH.nil
  go_simp
  refine hK.out _ _ ((h.quietAlloc _).le hdl) (fun hHeld => ?_)
  clear hK K
  try simp only [Act.put, List.setIfInBounds_toArray, List.set_cons_zero, List.set_cons_succ]
  clear hHeld
  obtain ⟨M3, hbx, hle2, hbl, hnl⟩ := h.box (.cells #[.int .i64 lv, .int .u64 lk, .int .i64 (k0 : Nat), .int .i64 (k1 : Nat), .int .i64 (k2 : Nat), .int .i64 (k3 : Nat)] 204)
  generalize w.alloc _ = wx at hbx ⊢
  generalize w.heap.size = bl at hbl hnl ⊢
  clear h
  try clear w
  have h := hbx
  clear hbx
  obtain ⟨w, rfl⟩ : ∃ x : World, x = wx := ⟨_, rfl⟩
  have hHeld : Has σ MD w := h.le (Mm.le_trans hdl hle2)
  have hrl : Rd M3 6 (.slice (some ⟨bl, 0, none⟩) 1 1) 1 [.int .i64 lv, .int .u64 lk, .int .i64 (k0 : Nat), .int .i64 (k1 : Nat), .int .i64 (k2 : Nat), .int .i64 (k3 : Nat)] := ⟨rfl, _, _, rfl, Nat.le_refl _, fun _ => ⟨bl, 0, _, _, _, rfl, hbl, fun j u hu => by simpa using hu⟩⟩
  have hleR := Mm.le_trans hle hle2
  have hownR := hown.le hle2
  refine wpAnyH_ready (rs := [13]) (by kernel_rfl) (by simp) ?_
  refine AllReadyH.cons rfl (fun K hK => ?_) AllReadyH.nil
  (refine step_append_rd h hleR rfl _ _ 113 rfl Tryz.underlying113 info_gv rfl (by omega) rfl hownR rfl hrl (by intro y hy; simp at hy; rcases hy with rfl | rfl | rfl | rfl | rfl | rfl <;> rfl) (by omega) (by omega) ?_; clear h; intro v w hacc; obtain ⟨M4, h, hl3, ho3⟩ := hacc)
  refine hK.out _ _ (h.le (Mm.le_trans hd6 hl3)) (fun hHeld => ?_)
  clear hK K
  try simp only [Act.put, List.setIfInBounds_toArray, List.set_cons_zero, List.set_cons_succ]
  obtain ⟨A, cc, rfl⟩ := ho3.form
  refine wpAnyH_take (i := 14) (v := ?_) rfl (by kernel_rfl) (by kernel_rfl) (by kernel_rfl) (fun _ _ _ h => h) (Or.inl ⟨by rfl, ?_⟩) hHeld ?_
  rotate_left
  ·(intro wz _; go_simp; try with_reducible rfl)
  try simp only [List.getElem_toArray, List.getElem_cons_succ, List.getElem_cons_zero, Act.put, List.setIfInBounds_toArray, List.set_cons_zero, List.set_cons_succ]
  refine wpAnyH_take (i := 15) (v := ?_) rfl (by kernel_rfl) (by kernel_rfl) (by kernel_rfl) (fun _ _ _ h => h) (Or.inl ⟨by rfl, ?_⟩) hHeld ?_
  rotate_left
  ·(intro wz _; go_simp; try with_reducible rfl)
  try simp only [List.getElem_toArray, List.getElem_cons_succ, List.getElem_cons_zero, Act.put, List.setIfInBounds_toArray, List.set_cons_zero, List.set_cons_succ]
  have hdo : ∀ o, MD.le (M4.upd p o) := fun o => Mm.le_upd (Mm.le_trans hd6 hl3) hpN o
  refine wpAnyH_ready (rs := [16]) (by kernel_rfl) (by simp) ?_
  refine AllReadyH.cons rfl (fun K hK => ?_) AllReadyH.nil
  (refine step_store1 (v := .slice A (n + 1) cc) h rfl 113 _ _ rfl rfl rfl (hl3 _ _ hpo) l8 rfl rfl (by kernel_rfl) ?_; clear h; intro w h)
  refine hK.out _ _ (h.le (hdo _)) (fun hHeld => ?_)
  clear hK K
  try simp only [Act.put, List.setIfInBounds_toArray, List.set_cons_zero, List.set_cons_succ]
  refine wpAnyH_done (by kernel_rfl) ?_ _
  rw [EQ.out] at h
  have ho4 : Own MR M4 204 6 (.slice A (n + 1) cc) (n + 1) ((s.given ++ [g]).flatMap encG) := by
   rw [FA.out, EG.out]
   exact ho3
  obtain ⟨lab', hB3, hM3, hK3⟩ := GAVE.out M4 _ hl3 ho4
  clear hdo ho4 ho3 hHeld hrl hleR hownR hl3 hle2
  go_wp2
  go_end0
  exact ⟨rfl, _, lab', _, h, hB3, by rw [E.out]; exact hM3, KPA.out.trans (hK3.mono fun _ h => .inr h)⟩
 ·refine step_yields rfl (yields_agg rfl 112 _ rfl rfl hp e4 rfl Tryz.underlying112 rfl (by kernel_rfl)) h ?_
  refine hK.out _ _ hHeld (fun hHeld => ?_)
  clear hK K
  simp only [Act.put, List.setIfInBounds_toArray, List.set_cons_zero, List.set_cons_succ]
  refine wpAnyH_take (i := 11) (v := ?_) rfl (by kernel_rfl) (by kernel_rfl) (by kernel_rfl) (fun _ _ _ h => h) (Or.inl ⟨by rfl, ?_⟩) hHeld ?_
  rotate_left
  ·(intro wz _; go_simp; try with_reducible rfl)
  try simp only [List.getElem_toArray, List.getElem_cons_succ, List.getElem_cons_zero, Act.put, List.setIfInBounds_toArray, List.set_cons_zero, List.set_cons_succ]
  refine wpAnyH_ready (rs := [4, 12]) (by kernel_rfl) (by simp) ?_
  refine AllReadyH.cons rfl (fun K hK => ?_) (AllReadyH.cons rfl (fun K hK => ?_) AllReadyH.nil)
  ·refine step_yields rfl (yields_load1 rfl 113 _ rfl rfl hp e8 Tryz.underlying113 rfl) h ?_
   refine hK.out _ _ hHeld (fun hHeld => ?_)
   clear hK K
   simp only [Act.put, List.setIfInBounds_toArray, List.set_cons_zero, List.set_cons_succ]
   refine wpAnyH_ready (rs := [12]) (by kernel_rfl) (by simp) ?_
   refine AllReadyH.cons rfl (fun K hK => ?_) AllReadyH.nil
   go_simp
   refine hK.out _ _ ((h.quietAlloc _).le hdl) (fun hHeld => ?_)
   clear hK K
   try simp only [Act.put, List.setIfInBounds_toArray, List.set_cons_zero, List.set_cons_succ]
   clear hHeld
   obtain ⟨M3, hbx, hle2, hbl, hnl⟩ := h.box (.cells #[.int .i64 lv, .int .u64 lk, .int .i64 (k0 : Nat), .int .i64 (k1 : Nat), .int .i64 (k2 : Nat), .int .i64 (k3 : Nat)] 204)
   generalize w.alloc _ = wx at hbx ⊢
   generalize w.heap.size = bl at hbl hnl ⊢
   clear h
   try clear w
   have h := hbx
   clear hbx
   obtain ⟨w, rfl⟩ : ∃ x : World, x = wx := ⟨_, rfl⟩
   have hHeld : Has σ MD w := h.le (Mm.le_trans hdl hle2)
   have hrl : Rd M3 6 (.slice (some ⟨bl, 0, none⟩) 1 1) 1 [.int .i64 lv, .int .u64 lk, .int .i64 (k0 : Nat), .int .i64 (k1 : Nat), .int .i64 (k2 : Nat), .int .i64 (k3 : Nat)] := ⟨rfl, _, _, rfl, Nat.le_refl _, fun _ => ⟨bl, 0, _, _, _, rfl, hbl, fun j u hu => by simpa using hu⟩⟩
   have hleR := Mm.le_trans hle hle2
   have hownR := hown.le hle2
   refine wpAnyH_ready (rs := [13]) (by kernel_rfl) (by simp) ?_
   refine AllReadyH.cons rfl (fun K hK => ?_) AllReadyH.nil
   (refine step_append_rd h hleR rfl _ _ 113 rfl Tryz.underlying113 info_gv rfl (by omega) rfl hownR rfl hrl (by intro y hy; simp at hy; rcases hy with rfl | rfl | rfl | rfl | rfl | rfl <;> rfl) (by omega) (by omega) ?_; clear h; intro v w hacc; obtain ⟨M4, h, hl3, ho3⟩ := hacc)
   refine hK.out _ _ (h.le (Mm.le_trans hd6 hl3)) (fun hHeld => ?_)
   clear hK K
   try simp only [Act.put, List.setIfInBounds_toArray, List.set_cons_zero, List.set_cons_succ]
   obtain ⟨A, cc, rfl⟩ := ho3.form
   refine wpAnyH_take (i := 14) (v := ?_) rfl (by kernel_rfl) (by kernel_rfl) (by kernel_rfl) (fun _ _ _ h => h) (Or.inl ⟨by rfl, ?_⟩) hHeld ?_
   rotate_left
   ·(intro wz _; go_simp; try with_reducible rfl)
   try simp only [List.getElem_toArray, List.getElem_cons_succ, List.getElem_cons_zero, Act.put, List.setIfInBounds_toArray, List.set_cons_zero, List.set_cons_succ]
   refine wpAnyH_take (i := 15) (v := ?_) rfl (by kernel_rfl) (by kernel_rfl) (by kernel_rfl) (fun _ _ _ h => h) (Or.inl ⟨by rfl, ?_⟩) hHeld ?_
   rotate_left
   ·(intro wz _; go_simp; try with_reducible rfl)
   try simp only [List.getElem_toArray, List.getElem_cons_succ, List.getElem_cons_zero, Act.put, List.setIfInBounds_toArray, List.set_cons_zero, List.set_cons_succ]
   have hdo : ∀ o, MD.le (M4.upd p o) := fun o => Mm.le_upd (Mm.le_trans hd6 hl3) hpN o
   refine wpAnyH_ready (rs := [16]) (by kernel_rfl) (by simp) ?_
   refine AllReadyH.cons rfl (fun K hK => ?_) AllReadyH.nil
   (refine step_store1 (v := .slice A (n + 1) cc) h rfl 113 _ _ rfl rfl rfl (hl3 _ _ hpo) l8 rfl rfl (by kernel_rfl) ?_; clear h; intro w h)
   refine hK.out _ _ (h.le (hdo _)) (fun hHeld => ?_)
   clear hK K
   try simp only [Act.put, List.setIfInBounds_toArray, List.set_cons_zero, List.set_cons_succ]
   refine wpAnyH_done (by kernel_rfl) ?_ _
   rw [EQ.out] at h
   have ho4 : Own MR M4 204 6 (.slice A (n + 1) cc) (n + 1) ((s.given ++ [g]).flatMap encG) := by
    rw [FA.out, EG.out]
    exact ho3
   obtain ⟨lab', hB3, hM3, hK3⟩ := GAVE.out M4 _ hl3 ho4
   clear hdo ho4 ho3 hHeld hrl hleR hownR hl3 hle2
   go_wp2
   go_end0
   exact ⟨rfl, _, lab', _, h, hB3, by rw [E.out]; exact hM3, KPA.out.trans (hK3.mono fun _ h => .inr h)⟩
  ·go_simp
   refine hK.out _ _ ((h.quietAlloc _).le hdl) (fun hHeld => ?_)
   clear hK K
   try simp only [Act.put, List.setIfInBounds_toArray, List.set_cons_zero, List.set_cons_succ]
   clear hHeld
   obtain ⟨M3, hbx, hle2, hbl, hnl⟩ := h.box (.cells #[.int .i64 lv, .int .u64 lk, .int .i64 (k0 : Nat), .int .i64 (k1 : Nat), .int .i64 (k2 : Nat), .int .i64 (k3 : Nat)] 204)
   generalize w.alloc _ = wx at hbx ⊢
   generalize w.heap.size = bl at hbl hnl ⊢
   clear h
   try clear w
   have h := hbx
   clear hbx
   obtain ⟨w, rfl⟩ : ∃ x : World, x = wx := ⟨_, rfl⟩
   have hHeld : Has σ MD w := h.le (Mm.le_trans hdl hle2)
   have hrl : Rd M3 6 (.slice (some ⟨bl, 0, none⟩) 1 1) 1 [.int .i64 lv, .int .u64 lk, .int .i64 (k0 : Nat), .int .i64 (k1 : Nat), .int .i64 (k2 : Nat), .int .i64 (k3 : Nat)] := ⟨rfl, _, _, rfl, Nat.le_refl _, fun _ => ⟨bl, 0, _, _, _, rfl, hbl, fun j u hu => by simpa using hu⟩⟩
   have hleR := Mm.le_trans hle hle2
   have hownR := hown.le hle2
   refine wpAnyH_ready (rs := [4]) (by kernel_rfl) (by simp) ?_
   refine AllReadyH.cons rfl (fun K hK => ?_) AllReadyH.nil
   (refine step_yields rfl (yields_load1 rfl 113 _ rfl rfl (hle2 _ _ hp) e8 Tryz.underlying113 rfl) h ?_)
   refine hK.out _ _ (hHeld) (fun hHeld => ?_)
   clear hK K
   try simp only [Act.put, List.setIfInBounds_toArray, List.set_cons_zero, List.set_cons_succ]
   refine wpAnyH_ready (rs := [13]) (by kernel_rfl) (by simp) ?_
   refine AllReadyH.cons rfl (fun K hK => ?_) AllReadyH.nil
   (refine step_append_rd h hleR rfl _ _ 113 rfl Tryz.underlying113 info_gv rfl (by omega) rfl hownR rfl hrl (by intro y hy; simp at hy; rcases hy with rfl | rfl | rfl | rfl | rfl | rfl <;> rfl) (by omega) (by omega) ?_; clear h; intro v w hacc; obtain ⟨M4, h, hl3, ho3⟩ := hacc)
   refine hK.out _ _ (h.le (Mm.le_trans hd6 hl3)) (fun hHeld => ?_)
   clear hK K
   try simp only [Act.put, List.setIfInBounds_toArray, List.set_cons_zero, List.set_cons_succ]
   obtain ⟨A, cc, rfl⟩ := ho3.form
   refine wpAnyH_take (i := 14) (v := ?_) rfl (by kernel_rfl) (by kernel_rfl) (by kernel_rfl) (fun _ _ _ h => h) (Or.inl ⟨by rfl, ?_⟩) hHeld ?_
   rotate_left
   ·(intro wz _; go_simp; try with_reducible rfl)
   try simp only [List.getElem_toArray, List.getElem_cons_succ, List.getElem_cons_zero, Act.put, List.setIfInBounds_toArray, List.set_cons_zero, List.set_cons_succ]
   refine wpAnyH_take (i := 15) (v := ?_) rfl (by kernel_rfl) (by kernel_rfl) (by kernel_rfl) (fun _ _ _ h => h) (Or.inl ⟨by rfl, ?_⟩) hHeld ?_
   rotate_left
   ·(intro wz _; go_simp; try with_reducible rfl)
   try simp only [List.getElem_toArray, List.getElem_cons_succ, List.getElem_cons_zero, Act.put, List.setIfInBounds_toArray, List.set_cons_zero, List.set_cons_succ]
   have hdo : ∀ o, MD.le (M4.upd p o) := fun o => Mm.le_upd (Mm.le_trans hd6 hl3) hpN o
   refine wpAnyH_ready (rs := [16]) (by kernel_rfl) (by simp) ?_
   refine AllReadyH.cons rfl (fun K hK => ?_) AllReadyH.nil
   (refine step_store1 (v := .slice A (n + 1) cc) h rfl 113 _ _ rfl rfl rfl (hl3 _ _ hpo) l8 rfl rfl (by kernel_rfl) ?_; clear h; intro w h)
   refine hK.out _ _ (h.le (hdo _)) (fun hHeld => ?_)
   clear hK K
   try simp only [Act.put, List.setIfInBounds_toArray, List.set_cons_zero, List.set_cons_succ]
   refine wpAnyH_done (by kernel_rfl) ?_ _
   rw [EQ.out] at h
   have ho4 : Own MR M4 204 6 (.slice A (n + 1) cc) (n + 1) ((s.given ++ [g]).flatMap encG) := by
    rw [FA.out, EG.out]
    exact ho3
   obtain ⟨lab', hB3, hM3, hK3⟩ := GAVE.out M4 _ hl3 ho4
   clear hdo ho4 ho3 hHeld hrl hleR hownR hl3 hle2
   go_wp2
   go_end0
   exact ⟨rfl, _, lab', _, h, hB3, by rw [E.out]; exact hM3, KPA.out.trans (hK3.mono fun _ h => .inr h)⟩
end
end
section
open Go.RowKit
/-- Behind the idle bit: the head is stored, the slot is given back. -/
def MachS.idled (s : MachS) (lv sl g : Nat) (gv : Value) : MachS := MachS.gaveS { s with mem := s.mem.store (atK s.c lv 9 (sl : Nat) 0) (mkHead g 0 : Nat) } lv (sl : Nat) gv
section
variable {σ w : World} {K M : Mm} {lab : Nat → Nat} {p t q b lv : Nat} {s : MachS} {fs : List FrameS} {f : FrameS}
set_option maxHeartbeats 4000000 in
set_option maxRecDepth 20000 in
/-- It isn't worn: Give goes on. -/
theorem idle_on (h : Has σ M w) (hT : AtTop K M lab p s t q b fs f) {sl g : Nat} (h0 : f.r 0 = (sl : Int)) (hsl : sl < 256) (hg : f.r 2 = (g : Int)) (hg32 : g < 4294967296) (hlv : levelOf s.c (t : Nat) = (lv : Nat)) (hlc : (lv : Int) < s.c 0) (hin : InK s.c 9 (sl : Nat) 0) (hb1 : s.mem.acc < 1000000000) (hb2 : s.mem.wr < 1000000000) (hst : StampE s.ward.gens s.ward.gclk) (hgg : 0 ≤ valE lv (sl : Nat) s.ward.gens ∧ valE lv (sl : Nat) s.ward.gens < 1000000000) (hsp : s.ward.slips < 1000000000) (hgn : s.given.length < 1000000) (hhas : s.ward.has lv (sl : Nat) = true) (hfs : fs.length < 1000000) (hgo : (g : Int) < s.c 12) :
  Calls Tryz.prog 145 #[.agg (runC p t q b)] w fun r w' => r = .returned (.tuple #[]) ∧ ∃ M' lab' gv, Has σ M' w' ∧ AtTop K M' lab' p ((s.idled lv sl g gv).top t fs (f.goto 7)) t q b fs (f.goto 7) := by
 have hw7 : decide (s.c 12 ≤ (g : Int)) = false := decide_eq_false (by omega)
 clear hgo
 have d0 : (runC p t q b)[0]? = some (.pointer (some ⟨p, 0, none⟩)) := rfl
 have d1 : (runC p t q b)[1]? = some (.int .i64 (t : Nat)) := rfl
 have d2 : (runC p t q b)[2]? = some (.pointer (some ⟨q, 0, none⟩)) := rfl
 have d3 : (runC p t q b)[3]? = some (.pointer (some ⟨b, 0, none⟩)) := rfl
 have dx : (runC p t q b).extract 0 (0 + 4) = runC p t q b := rfl
 have dz : (runC p t q b).size = 4 := rfl
 have f2 : f.row[2]? = some (.int .u64 (sl : Nat)) := by rw [← h0]; rfl
 have f4 : f.row[4]? = some (.int .u64 (g : Nat)) := by rw [← hg]; rfl
 have g4 : (f.goto 7).row[4]? = some (.int .u64 (g : Nat)) := by rw [← hg]; rfl
 have us : IntKind.i64.wrap ((sl : Nat) : Int) = ((sl : Nat) : Int) := IntWalk.i64_in _ (by omega)
 have ug : IntKind.i64.wrap ((g : Nat) : Int) = ((g : Nat) : Int) := IntWalk.i64_in _ (by omega)
 have HH : Hid (∀ w, Calls Tryz.prog 89 #[.int .i64 (g : Nat), .int .i64 0] w fun r w' => r = .returned (.int .u64 (mkHead g 0 : Nat)) ∧ w = w') := Lib.hid fun w => handleHead_any g 0 (by omega) (by omega) w
 have SPA := spotAt_of (σ := σ) hT.mach hlv hlc hin
 have hfd : ∀ w : World, (Instr.field 24 (.agg #[.int .i64 (s.c 0), .int .i64 (s.c 1), .int .i64 (s.c 2), .int .i64 (s.c 3), .int .i64 (s.c 4), .int .i64 (s.c 5), .int .i64 (s.c 6), .int .i64 (s.c 7), .int .i64 (s.c 8), .int .i64 (s.c 9), .int .i64 (s.c 10), .int .i64 (s.c 11), .int .i64 (s.c 12), .int .i64 (s.c 13)]) 5).run Tryz.prog w = .ok (.int .i64 (s.c 12)) w := fun w => by kernel_rfl
 have CFQ := Lib.hid (fun (M' : Mm) (w : World) (h : Has σ M' w) (p' : Nat) (hp : M' p' = some (planRow s.c)) => conf_has h s.c hp)
 rw [ints14_lit] at CFQ
 obtain ⟨a, ha⟩ : ∃ a, atK s.c lv 9 (sl : Nat) 0 = a := ⟨_, rfl⟩
 unfold MachS.idled
 rw [ha] at SPA ⊢
 obtain ⟨v, hv⟩ : ∃ v : Int, ((mkHead g 0 : Nat) : Int) = v := ⟨_, rfl⟩
 rw [hv] at HH ⊢
 have ND := Lib.hid (fun (M' : Mm) (w : World) (h : Has σ M' w) (hle : M.le M') => runNode_eq (q := q) (b := b) h (SPA.le hle))
 have DRQ := Lib.hid (fun (K' M' : Mm) (w : World) (lab' : Nat → Nat) (h : Has σ M' w) (hT' : AtTop K' M' lab' p { s with mem := s.mem.store a v } t q b fs f) => mDrop_kp h hT'.mach hT'.base (t : Nat) (sl : Nat) (lv := ((lv : Nat) : Int)) hlv hst hgg hsp hgn hhas)
 have HFS := Lib.hid hfs
 clear h0 ha hv hin SPA hg hlv hlc hst hgg hsp hgn hhas hfs
 go_enter Tryz.func145, Tryz.ntmps145
 go_upto_region 1 with (fail)
 obtain ⟨M1, hbx, hle, hb4, hn⟩ := h.box (.cells (runC p t q b) 193)
 generalize w.alloc _ = wx at hbx ⊢
 generalize w.heap.size = b4 at hb4 hn ⊢
 clear h
 try clear w
 have h := hbx
 clear hbx
 obtain ⟨w, rfl⟩ : ∃ x : World, x = wx := ⟨_, rfl⟩
 obtain ⟨lab1, hT1⟩ := hT.more1 hle hn hb4
 have hnK : K b4 = none := by
  cases e : K b4 with
  | none => rfl
  | some o => have := (hT.base _ _ e).1; rw [hn] at this; cases this
 have hKK : K.le (K.upd b4 (.cells (runC p t q b) 193)) := Mm.le_upd' hnK _
 have hbK : (K.upd b4 (.cells (runC p t q b) 193)) b4 = some (.cells (runC p t q b) 193) := Mm.upd_same _ _ _
 have hfb := hT1.obj
 have ND1 := Lib.hid (fun (w : World) (h : Has σ M1 w) => ND.out M1 w h hle)
 have ME := Lib.hid (fun (w : World) (h : Has σ M1 w) => mMem_eq h hT1.mach)
 have SE := Lib.hid (fun (w : World) (h : Has σ M1 w) => memStore_eq h hT1.mach.mem hb1 hb2 a v)
 have hne : b4 ≠ b := fun e => by
  subst e
  rw [hb4] at hfb
  simp only [Option.some.injEq, Obj.cells.injEq] at hfb
  exact absurd hfb.2.1 (by decide)
 have hT2 := hT1.store a v
 have KL := Mm.upd_le2 hT1.base.le hT1.obj
 have KE := Mm.upd_le2 hT2.base.le hT2.obj
 have hbK2 : ((K.upd b4 (.cells (runC p t q b) 193)).upd b (.cells f.row 69)) b4 = some (.cells (runC p t q b) 193) := (Mm.upd_ne hne).trans (Mm.upd_same _ _ _)
 have hfK : ((K.upd b4 (.cells (runC p t q b) 193)).upd b (.cells f.row 69)) b = some (.cells f.row 69) := Mm.upd_same _ _ _
 have HT2 := Lib.hid hT2
 have HNE := Lib.hid hne
 have HKK := Lib.hid hKK
 have HBK := Lib.hid hbK
 clear hT hT1 hT2 hb1 hb2 hn hle hnK hKK hne hbK ND
 generalize K.upd b4 _ = K0 at HT2 KL KE hbK2 hfK HKK HBK
 have hsz : 1 < f.row.size := show 1 < 18 by omega
 have R1 := Lib.hid (row_goto f 7)
 generalize runC p t q b = rc at *
 generalize hr0 : f.row = fr0 at *
 generalize hKD : K0.upd b (.cells fr0 69) = K1 at KL KE hbK2 hfK
 generalize hM2 : storeM M1 s.mp s.mem a v = M2 at *
 clear hM2
 go_upto_region 3 with (first
  | (with_reducible show wpList _ _ _ ({ dst := _, op := Op.load 70 _, type := _, pos := _, after := _, guard := _ } :: _) _ _; refine wpList_load1_has h rfl 70 _ rfl rfl hb4 d3 Tryz.underlying70 rfl ?_)
  | (with_reducible show wpList _ _ _ ({ dst := _, op := Op.load 42 _, type := _, pos := _, after := _, guard := _ } :: _) _ _; refine wpList_load1_has h rfl 42 _ rfl rfl hfb f2 Tryz.underlying42 rfl ?_))
 clear hfb hb4
 refine wp_region_held_drew (S := Has σ (K1)) (by kernel_rfl) (h.drew.le KL) (fun hHeld => ?_)
 refine wpAnyH_take (i := 0) (v := ?_) rfl (by kernel_rfl) (by kernel_rfl) (by kernel_rfl) (fun _ _ _ h => h) (Or.inl ⟨by rfl, ?_⟩) hHeld ?_
 rotate_left
 ·(intro wz _; go_simp; try with_reducible rfl)
 try simp only [List.getElem_toArray, List.getElem_cons_succ, List.getElem_cons_zero, Act.put, List.setIfInBounds_toArray, List.set_cons_zero, List.set_cons_succ]
 refine wpAnyH_take (i := 1) (v := ?_) rfl (by kernel_rfl) (by kernel_rfl) (by kernel_rfl) (fun _ _ _ h => h) (Or.inl ⟨by rfl, ?_⟩) hHeld ?_
 rotate_left
 ·(intro wz _; go_simp; try with_reducible rfl)
 try simp only [List.getElem_toArray, List.getElem_cons_succ, List.getElem_cons_zero, Act.put, List.setIfInBounds_toArray, List.set_cons_zero, List.set_cons_succ]
 refine wpAnyH_take (i := 2) (v := _) rfl (by kernel_rfl) (by kernel_rfl) (by kernel_rfl) (fun _ _ _ h => h) (yields_load1 rfl 26 _ rfl rfl hbK2 d0 Tryz.underlying26 rfl) hHeld ?_
 try simp only [List.getElem_toArray, List.getElem_cons_succ, List.getElem_cons_zero, Act.put, List.setIfInBounds_toArray, List.set_cons_zero, List.set_cons_succ]
 refine wpAnyH_take (i := 4) (v := ?_) rfl (by kernel_rfl) (by kernel_rfl) (by kernel_rfl) (fun _ _ _ h => h) (Or.inl ⟨by rfl, ?_⟩) hHeld ?_
 rotate_left
 ·(intro wz _; go_simp; try with_reducible rfl)
 try simp only [List.getElem_toArray, List.getElem_cons_succ, List.getElem_cons_zero, Act.put, List.setIfInBounds_toArray, List.set_cons_zero, List.set_cons_succ]
 refine wpAnyH_take (i := 5) (v := _) rfl (by kernel_rfl) (by kernel_rfl) (by kernel_rfl) (fun _ _ _ h => h) (yields_agg rfl 190 _ rfl rfl hbK2 dx dz Tryz.underlying190 rfl (by kernel_rfl)) hHeld ?_
 try simp only [List.getElem_toArray, List.getElem_cons_succ, List.getElem_cons_zero, Act.put, List.setIfInBounds_toArray, List.set_cons_zero, List.set_cons_succ]
 refine wpAnyH_take (i := 6) (v := ?_) rfl (by kernel_rfl) (by kernel_rfl) (by kernel_rfl) (fun _ _ _ h => h) (Or.inl ⟨by rfl, ?_⟩) hHeld ?_
 rotate_left
 ·(intro wz _; go_simp; try with_reducible rfl)
 try simp only [List.getElem_toArray, List.getElem_cons_succ, List.getElem_cons_zero, Act.put, List.setIfInBounds_toArray, List.set_cons_zero, List.set_cons_succ]
 refine wpAnyH_take (i := 8) (v := ?_) rfl (by kernel_rfl) (by kernel_rfl) (by kernel_rfl) (fun _ _ _ h => h) (Or.inl ⟨by rfl, ?_⟩) hHeld ?_
 rotate_left
 ·(intro wz _; go_simp; try with_reducible rfl)
 try simp only [List.getElem_toArray, List.getElem_cons_succ, List.getElem_cons_zero, Act.put, List.setIfInBounds_toArray, List.set_cons_zero, List.set_cons_succ]
 refine wpAnyH_take (i := 9) (v := ?_) rfl (by kernel_rfl) (by kernel_rfl) (by kernel_rfl) (fun _ _ _ h => h) (Or.inl ⟨by rfl, ?_⟩) hHeld ?_
 rotate_left
 ·(intro wz _; go_simp; try with_reducible rfl)
 try simp only [List.getElem_toArray, List.getElem_cons_succ, List.getElem_cons_zero, Act.put, List.setIfInBounds_toArray, List.set_cons_zero, List.set_cons_succ]
 refine wpAnyH_take (i := 10) (v := ?_) rfl (by kernel_rfl) (by kernel_rfl) (by kernel_rfl) (fun _ _ _ h => h) (Or.inl ⟨by rfl, ?_⟩) hHeld ?_
 rotate_left
 ·(intro wz _; go_simp; try with_reducible rfl)
 try simp only [List.getElem_toArray, List.getElem_cons_succ, List.getElem_cons_zero, Act.put, List.setIfInBounds_toArray, List.set_cons_zero, List.set_cons_succ]
 refine wpAnyH_take (i := 11) (v := ?_) rfl (by kernel_rfl) (by kernel_rfl) (by kernel_rfl) (fun _ _ _ h => h) (Or.inl ⟨by rfl, ?_⟩) hHeld ?_
 rotate_left
 ·(intro wz _; go_simp; try with_reducible rfl)
 try simp only [List.getElem_toArray, List.getElem_cons_succ, List.getElem_cons_zero, Act.put, List.setIfInBounds_toArray, List.set_cons_zero, List.set_cons_succ]
 refine wpAnyH_take (i := 12) (v := _) rfl (by kernel_rfl) (by kernel_rfl) (by kernel_rfl) (fun _ _ _ h => h) (yields_load1 rfl 42 _ rfl rfl hfK f4 Tryz.underlying42 rfl) hHeld ?_
 try simp only [List.getElem_toArray, List.getElem_cons_succ, List.getElem_cons_zero, Act.put, List.setIfInBounds_toArray, List.set_cons_zero, List.set_cons_succ]
 refine wpAnyH_take (i := 13) (v := ?_) rfl (by kernel_rfl) (by kernel_rfl) (by kernel_rfl) (fun _ _ _ h => h) (Or.inl ⟨by rfl, ?_⟩) hHeld ?_
 rotate_left
 ·(intro wz _; go_simp; try with_reducible rfl)
 try simp only [List.getElem_toArray, List.getElem_cons_succ, List.getElem_cons_zero, Act.put, List.setIfInBounds_toArray, List.set_cons_zero, List.set_cons_succ]
 replace h := h.drew
 generalize w.drew = w1 at h hHeld ⊢
 clear w
 obtain ⟨w, rfl⟩ : ∃ q : World, q = w1 := ⟨_, rfl⟩
 refine wpAnyH_ready (rs := [3]) (by kernel_rfl) (by simp) ?_
 refine AllReadyH.cons rfl (fun K hK => ?_) AllReadyH.nil
 (go_simp; go_wp2_with (go_at_call 46; refine (ME.out _ h).mono ?_; clear h; rintro _ w ⟨rfl, h⟩))
 refine hK.out _ _ (h.le KL) (fun hHeld => ?_)
 clear hK K
 try simp only [Act.put, List.setIfInBounds_toArray, List.set_cons_zero, List.set_cons_succ]
 refine wpAnyH_ready (rs := [7]) (by kernel_rfl) (by simp) ?_
 refine AllReadyH.cons rfl (fun K hK => ?_) AllReadyH.nil
 (go_simp; go_wp2_with (go_at_call 143; refine (ND1.out _ h).mono ?_; clear h; rintro _ w ⟨rfl, h⟩))
 refine hK.out _ _ (h.le KL) (fun hHeld => ?_)
 clear hK K
 try simp only [Act.put, List.setIfInBounds_toArray, List.set_cons_zero, List.set_cons_succ]
 refine wpAnyH_ready (rs := [14]) (by kernel_rfl) (by simp) ?_
 refine AllReadyH.cons rfl (fun K hK => ?_) AllReadyH.nil
 (go_simp; go_wp2_with (go_at_call 89; refine (HH.out _).mono ?_; rintro _ w' ⟨rfl, rfl⟩))
 refine hK.out _ _ (h.le KL) (fun hHeld => ?_)
 clear hK K
 try simp only [Act.put, List.setIfInBounds_toArray, List.set_cons_zero, List.set_cons_succ]
 refine wpAnyH_ready (rs := [15]) (by kernel_rfl) (by simp) ?_
 refine AllReadyH.cons rfl (fun K hK => ?_) AllReadyH.nil
 (go_simp; go_wp2_with (go_at_call 97; refine (SE.out _ h).mono ?_; clear h; rintro _ w ⟨rfl, h⟩))
 refine hK.out _ _ (h.le KE) (fun hHeld => ?_)
 clear hK K
 try simp only [Act.put, List.setIfInBounds_toArray, List.set_cons_zero, List.set_cons_succ]
 refine wpAnyH_done (by kernel_rfl) ?_ _
 clear hHeld ME SE HH ND1 KL
 have hb4' := KE _ _ hbK2
 have DR := Lib.hid (fun (w : World) (h : Has σ M2 w) => DRQ.out K0 M2 w _ h HT2.out)
 clear KE hbK2 hfK hKD DRQ
 go_upto_region 5 with (first
  | (with_reducible show wpList _ _ _ ({ dst := _, op := Op.load 26 _, type := _, pos := _, after := _, guard := _ } :: _) _ _; refine wpList_load1_has h rfl 26 _ rfl rfl hb4' d0 Tryz.underlying26 rfl ?_)
  | (with_reducible show wpList _ _ _ ({ dst := _, op := Op.load 3 _, type := _, pos := _, after := _, guard := _ } :: _) _ _; refine wpList_load1_has h rfl 3 _ rfl rfl hb4' d1 Tryz.underlying3 rfl ?_)
  | ((go_at_call 147; refine (DR.out _ h).mono ?_; clear h; rintro _ w ⟨rfl, M3, lab3, gv, h, hB3, hM3, hK3⟩)))
 have hT3 := HT2.out.keep hK3 (fun k hk e => by have h1 := hk.1; rcases e with e | e | e <;> omega) hM3 hB3 rfl rfl
 obtain ⟨hfb3, hT4⟩ := hT3.frame (f.goto 7)
 rw [hr0] at hfb3
 have HT4 := Lib.hid (hT4.less HKK.out)
 have PL := Lib.hid (fun (w : World) (h : Has σ (M3.upd b (.cells (f.goto 7).row 69)) w) => mPlan_eq h hT4.mach)
 have CF := Lib.hid (fun (w : World) (h : Has σ (M3.upd b (.cells (f.goto 7).row 69)) w) => CFQ.out _ w h _ hT4.mach.plan)
 have BK0 := Lib.hid (fun (w : World) (h : Has σ (M3.upd b (.cells (f.goto 7).row 69)) w) => back0_eq h hT4 HFS.out)
 have KP := Mm.upd_le2 hT4.base.le hT4.obj
 have hb5 := hT4.base.le _ _ HBK.out
 have hbK5 : (K0.upd b (.cells (f.goto 7).row 69)) b4 = some (.cells rc 193) := (Mm.upd_ne HNE.out).trans HBK.out
 have hfK5 : (K0.upd b (.cells (f.goto 7).row 69)) b = some (.cells (f.goto 7).row 69) := Mm.upd_same _ _ _
 clear hT3 hT4 hK3 hM3 hB3 hb4' HT2 DR CFQ hr0
 generalize (f.goto 7).row = fr1 at *
 go_upto_region 6 with (first
  | (with_reducible show wpList _ _ _ ({ dst := _, op := Op.store 3 _ _, type := _, pos := _, after := _, guard := _ } :: _) _ _; refine wpList_store1_has h rfl 3 _ _ rfl rfl rfl hfb3 hsz rfl (by kernel_rfl) ?_; clear h; intro w h))
 have h9 : Has σ (M3.upd b (.cells (fr0.setIfInBounds 1 (.int .i64 7)) 69)) w := h
 rw [R1.out] at h9
 clear h hfb3 hsz R1
 have h := h9
 clear h9
 generalize M3.upd b (.cells fr1 69) = M4 at *
 generalize K0.upd b (.cells fr1 69) = K5 at *
 refine wp_region_held_drew (S := Has σ (K5)) (by kernel_rfl) (h.drew.le KP) (fun hHeld => ?_)
 refine wpAnyH_take (i := 0) (v := ?_) rfl (by kernel_rfl) (by kernel_rfl) (by kernel_rfl) (fun _ _ _ h => h) (Or.inl ⟨by rfl, ?_⟩) hHeld ?_
 rotate_left
 ·(intro wz _; go_simp; try with_reducible rfl)
 try simp only [List.getElem_toArray, List.getElem_cons_succ, List.getElem_cons_zero, Act.put, List.setIfInBounds_toArray, List.set_cons_zero, List.set_cons_succ]
 refine wpAnyH_take (i := 1) (v := ?_) rfl (by kernel_rfl) (by kernel_rfl) (by kernel_rfl) (fun _ _ _ h => h) (Or.inl ⟨by rfl, ?_⟩) hHeld ?_
 rotate_left
 ·(intro wz _; go_simp; try with_reducible rfl)
 try simp only [List.getElem_toArray, List.getElem_cons_succ, List.getElem_cons_zero, Act.put, List.setIfInBounds_toArray, List.set_cons_zero, List.set_cons_succ]
 refine wpAnyH_take (i := 2) (v := ?_) rfl (by kernel_rfl) (by kernel_rfl) (by kernel_rfl) (fun _ _ _ h => h) (Or.inl ⟨by rfl, ?_⟩) hHeld ?_
 rotate_left
 ·(intro wz _; go_simp; try with_reducible rfl)
 try simp only [List.getElem_toArray, List.getElem_cons_succ, List.getElem_cons_zero, Act.put, List.setIfInBounds_toArray, List.set_cons_zero, List.set_cons_succ]
 refine wpAnyH_take (i := 3) (v := ?_) rfl (by kernel_rfl) (by kernel_rfl) (by kernel_rfl) (fun _ _ _ h => h) (Or.inl ⟨by rfl, ?_⟩) hHeld ?_
 rotate_left
 ·(intro wz _; go_simp; try with_reducible rfl)
 try simp only [List.getElem_toArray, List.getElem_cons_succ, List.getElem_cons_zero, Act.put, List.setIfInBounds_toArray, List.set_cons_zero, List.set_cons_succ]
 refine wpAnyH_take (i := 4) (v := _) rfl (by kernel_rfl) (by kernel_rfl) (by kernel_rfl) (fun _ _ _ h => h) (yields_load1 rfl 42 _ rfl rfl hfK5 g4 Tryz.underlying42 rfl) hHeld ?_
 try simp only [List.getElem_toArray, List.getElem_cons_succ, List.getElem_cons_zero, Act.put, List.setIfInBounds_toArray, List.set_cons_zero, List.set_cons_succ]
 refine wpAnyH_take (i := 5) (v := ?_) rfl (by kernel_rfl) (by kernel_rfl) (by kernel_rfl) (fun _ _ _ h => h) (Or.inl ⟨by rfl, ?_⟩) hHeld ?_
 rotate_left
 ·(intro wz _; go_simp; try with_reducible rfl)
 try simp only [List.getElem_toArray, List.getElem_cons_succ, List.getElem_cons_zero, Act.put, List.setIfInBounds_toArray, List.set_cons_zero, List.set_cons_succ]
 refine wpAnyH_take (i := 6) (v := ?_) rfl (by kernel_rfl) (by kernel_rfl) (by kernel_rfl) (fun _ _ _ h => h) (Or.inl ⟨by rfl, ?_⟩) hHeld ?_
 rotate_left
 ·(intro wz _; go_simp; try with_reducible rfl)
 try simp only [List.getElem_toArray, List.getElem_cons_succ, List.getElem_cons_zero, Act.put, List.setIfInBounds_toArray, List.set_cons_zero, List.set_cons_succ]
 refine wpAnyH_take (i := 7) (v := ?_) rfl (by kernel_rfl) (by kernel_rfl) (by kernel_rfl) (fun _ _ _ h => h) (Or.inl ⟨by rfl, ?_⟩) hHeld ?_
 rotate_left
 ·(intro wz _; go_simp; try with_reducible rfl)
 try simp only [List.getElem_toArray, List.getElem_cons_succ, List.getElem_cons_zero, Act.put, List.setIfInBounds_toArray, List.set_cons_zero, List.set_cons_succ]
 refine wpAnyH_take (i := 8) (v := _) rfl (by kernel_rfl) (by kernel_rfl) (by kernel_rfl) (fun _ _ _ h => h) (yields_load1 rfl 26 _ rfl rfl hbK5 d0 Tryz.underlying26 rfl) hHeld ?_
 try simp only [List.getElem_toArray, List.getElem_cons_succ, List.getElem_cons_zero, Act.put, List.setIfInBounds_toArray, List.set_cons_zero, List.set_cons_succ]
 replace h := h.drew
 generalize w.drew = w1 at h hHeld ⊢
 clear w
 obtain ⟨w, rfl⟩ : ∃ q : World, q = w1 := ⟨_, rfl⟩
 refine wpAnyH_ready (rs := [9]) (by kernel_rfl) (by simp) ?_
 refine AllReadyH.cons rfl (fun K hK => ?_) AllReadyH.nil
 (go_simp; go_wp2_with (go_at_call 57; refine (PL.out _ h).mono ?_; clear h; rintro _ w ⟨rfl, h⟩))
 refine hK.out _ _ (h.le KP) (fun hHeld => ?_)
 clear hK K
 try simp only [Act.put, List.setIfInBounds_toArray, List.set_cons_zero, List.set_cons_succ]
 refine wpAnyH_ready (rs := [10]) (by kernel_rfl) (by simp) ?_
 refine AllReadyH.cons rfl (fun K hK => ?_) AllReadyH.nil
 (go_simp; go_wp2_with (go_at_call 58; refine (CF.out _ h).mono ?_; clear h; rintro _ w ⟨rfl, h⟩))
 refine hK.out _ _ (h.le KP) (fun hHeld => ?_)
 clear hK K
 try simp only [Act.put, List.setIfInBounds_toArray, List.set_cons_zero, List.set_cons_succ]
 refine wpAnyH_take (i := 11) (v := ?_) rfl (by kernel_rfl) (by kernel_rfl) (by kernel_rfl) (fun _ _ _ h => h) (Or.inl ⟨by rfl, ?_⟩) hHeld ?_
 rotate_left
 ·(intro wz _; go_simp; try with_reducible rfl)
 try simp only [List.getElem_toArray, List.getElem_cons_succ, List.getElem_cons_zero, Act.put, List.setIfInBounds_toArray, List.set_cons_zero, List.set_cons_succ]
 refine wpAnyH_take (i := 12) (v := ?_) rfl (by kernel_rfl) (by kernel_rfl) (by kernel_rfl) (fun _ _ _ h => h) (Or.inl ⟨by rfl, ?_⟩) hHeld ?_
 rotate_left
 ·(intro wz _; go_simp; try with_reducible rfl)
 try simp only [List.getElem_toArray, List.getElem_cons_succ, List.getElem_cons_zero, Act.put, List.setIfInBounds_toArray, List.set_cons_zero, List.set_cons_succ]
 refine wpAnyH_done (by kernel_rfl) ?_ _
 clear hHeld PL CF hfd
 go_wp2
 go_end0
 exact ⟨rfl, M4, lab3, gv, h, HT4.out⟩
set_option maxHeartbeats 4000000 in
set_option maxRecDepth 20000 in
/-- It is worn: Give ends. -/
theorem idle_end (h : Has σ M w) (hT : AtTop K M lab p s t q b fs f) {sl g : Nat} (h0 : f.r 0 = (sl : Int)) (hsl : sl < 256) (hg : f.r 2 = (g : Int)) (hg32 : g < 4294967296) (hlv : levelOf s.c (t : Nat) = (lv : Nat)) (hlc : (lv : Int) < s.c 0) (hin : InK s.c 9 (sl : Nat) 0) (hb1 : s.mem.acc < 1000000000) (hb2 : s.mem.wr < 1000000000) (hst : StampE s.ward.gens s.ward.gclk) (hgg : 0 ≤ valE lv (sl : Nat) s.ward.gens ∧ valE lv (sl : Nat) s.ward.gens < 1000000000) (hsp : s.ward.slips < 1000000000) (hgn : s.given.length < 1000000) (hhas : s.ward.has lv (sl : Nat) = true) (hfs : fs.length < 1000000) (hgo : s.c 12 ≤ (g : Int)) :
  Calls Tryz.prog 145 #[.agg (runC p t q b)] w fun r w' => r = .returned (.tuple #[]) ∧ ∃ M' lab' gv, Has σ M' w' ∧ Mach M' lab' p (MachS.backed ((s.idled lv sl g gv).top t fs (f.goto 7)) t []) ∧ Base K M' lab' := by
 have hw7 : decide (s.c 12 ≤ (g : Int)) = true := decide_eq_true (by omega)
 clear hgo
 have d0 : (runC p t q b)[0]? = some (.pointer (some ⟨p, 0, none⟩)) := rfl
 have d1 : (runC p t q b)[1]? = some (.int .i64 (t : Nat)) := rfl
 have d2 : (runC p t q b)[2]? = some (.pointer (some ⟨q, 0, none⟩)) := rfl
 have d3 : (runC p t q b)[3]? = some (.pointer (some ⟨b, 0, none⟩)) := rfl
 have dx : (runC p t q b).extract 0 (0 + 4) = runC p t q b := rfl
 have dz : (runC p t q b).size = 4 := rfl
 have f2 : f.row[2]? = some (.int .u64 (sl : Nat)) := by rw [← h0]; rfl
 have f4 : f.row[4]? = some (.int .u64 (g : Nat)) := by rw [← hg]; rfl
 have g4 : (f.goto 7).row[4]? = some (.int .u64 (g : Nat)) := by rw [← hg]; rfl
 have us : IntKind.i64.wrap ((sl : Nat) : Int) = ((sl : Nat) : Int) := IntWalk.i64_in _ (by omega)
 have ug : IntKind.i64.wrap ((g : Nat) : Int) = ((g : Nat) : Int) := IntWalk.i64_in _ (by omega)
 have HH : Hid (∀ w, Calls Tryz.prog 89 #[.int .i64 (g : Nat), .int .i64 0] w fun r w' => r = .returned (.int .u64 (mkHead g 0 : Nat)) ∧ w = w') := Lib.hid fun w => handleHead_any g 0 (by omega) (by omega) w
 have SPA := spotAt_of (σ := σ) hT.mach hlv hlc hin
 have hfd : ∀ w : World, (Instr.field 24 (.agg #[.int .i64 (s.c 0), .int .i64 (s.c 1), .int .i64 (s.c 2), .int .i64 (s.c 3), .int .i64 (s.c 4), .int .i64 (s.c 5), .int .i64 (s.c 6), .int .i64 (s.c 7), .int .i64 (s.c 8), .int .i64 (s.c 9), .int .i64 (s.c 10), .int .i64 (s.c 11), .int .i64 (s.c 12), .int .i64 (s.c 13)]) 5).run Tryz.prog w = .ok (.int .i64 (s.c 12)) w := fun w => by kernel_rfl
 have CFQ := Lib.hid (fun (M' : Mm) (w : World) (h : Has σ M' w) (p' : Nat) (hp : M' p' = some (planRow s.c)) => conf_has h s.c hp)
 rw [ints14_lit] at CFQ
 obtain ⟨a, ha⟩ : ∃ a, atK s.c lv 9 (sl : Nat) 0 = a := ⟨_, rfl⟩
 unfold MachS.idled
 rw [ha] at SPA ⊢
 obtain ⟨v, hv⟩ : ∃ v : Int, ((mkHead g 0 : Nat) : Int) = v := ⟨_, rfl⟩
 rw [hv] at HH ⊢
 have ND := Lib.hid (fun (M' : Mm) (w : World) (h : Has σ M' w) (hle : M.le M') => runNode_eq (q := q) (b := b) h (SPA.le hle))
 have DRQ := Lib.hid (fun (K' M' : Mm) (w : World) (lab' : Nat → Nat) (h : Has σ M' w) (hT' : AtTop K' M' lab' p { s with mem := s.mem.store a v } t q b fs f) => mDrop_kp h hT'.mach hT'.base (t : Nat) (sl : Nat) (lv := ((lv : Nat) : Int)) hlv hst hgg hsp hgn hhas)
 have HFS := Lib.hid hfs
 clear h0 ha hv hin SPA hg hlv hlc hst hgg hsp hgn hhas hfs
 go_enter Tryz.func145, Tryz.ntmps145
 go_upto_region 1 with (fail)
 obtain ⟨M1, hbx, hle, hb4, hn⟩ := h.box (.cells (runC p t q b) 193)
 generalize w.alloc _ = wx at hbx ⊢
 generalize w.heap.size = b4 at hb4 hn ⊢
 clear h
 try clear w
 have h := hbx
 clear hbx
 obtain ⟨w, rfl⟩ : ∃ x : World, x = wx := ⟨_, rfl⟩
 obtain ⟨lab1, hT1⟩ := hT.more1 hle hn hb4
 have hnK : K b4 = none := by
  cases e : K b4 with
  | none => rfl
  | some o => have := (hT.base _ _ e).1; rw [hn] at this; cases this
 have hKK : K.le (K.upd b4 (.cells (runC p t q b) 193)) := Mm.le_upd' hnK _
 have hbK : (K.upd b4 (.cells (runC p t q b) 193)) b4 = some (.cells (runC p t q b) 193) := Mm.upd_same _ _ _
 have hfb := hT1.obj
 have ND1 := Lib.hid (fun (w : World) (h : Has σ M1 w) => ND.out M1 w h hle)
 have ME := Lib.hid (fun (w : World) (h : Has σ M1 w) => mMem_eq h hT1.mach)
 have SE := Lib.hid (fun (w : World) (h : Has σ M1 w) => memStore_eq h hT1.mach.mem hb1 hb2 a v)
 have hne : b4 ≠ b := fun e => by
  subst e
  rw [hb4] at hfb
  simp only [Option.some.injEq, Obj.cells.injEq] at hfb
  exact absurd hfb.2.1 (by decide)
 have hT2 := hT1.store a v
 have KL := Mm.upd_le2 hT1.base.le hT1.obj
 have KE := Mm.upd_le2 hT2.base.le hT2.obj
 have hbK2 : ((K.upd b4 (.cells (runC p t q b) 193)).upd b (.cells f.row 69)) b4 = some (.cells (runC p t q b) 193) := (Mm.upd_ne hne).trans (Mm.upd_same _ _ _)
 have hfK : ((K.upd b4 (.cells (runC p t q b) 193)).upd b (.cells f.row 69)) b = some (.cells f.row 69) := Mm.upd_same _ _ _
 have HT2 := Lib.hid hT2
 have HNE := Lib.hid hne
 have HKK := Lib.hid hKK
 have HBK := Lib.hid hbK
 clear hT hT1 hT2 hb1 hb2 hn hle hnK hKK hne hbK ND
 generalize K.upd b4 _ = K0 at HT2 KL KE hbK2 hfK HKK HBK
 have hsz : 1 < f.row.size := show 1 < 18 by omega
 have R1 := Lib.hid (row_goto f 7)
 generalize runC p t q b = rc at *
 generalize hr0 : f.row = fr0 at *
 generalize hKD : K0.upd b (.cells fr0 69) = K1 at KL KE hbK2 hfK
 generalize hM2 : storeM M1 s.mp s.mem a v = M2 at *
 clear hM2
 go_upto_region 3 with (first
  | (with_reducible show wpList _ _ _ ({ dst := _, op := Op.load 70 _, type := _, pos := _, after := _, guard := _ } :: _) _ _; refine wpList_load1_has h rfl 70 _ rfl rfl hb4 d3 Tryz.underlying70 rfl ?_)
  | (with_reducible show wpList _ _ _ ({ dst := _, op := Op.load 42 _, type := _, pos := _, after := _, guard := _ } :: _) _ _; refine wpList_load1_has h rfl 42 _ rfl rfl hfb f2 Tryz.underlying42 rfl ?_))
 clear hfb hb4
 refine wp_region_held_drew (S := Has σ (K1)) (by kernel_rfl) (h.drew.le KL) (fun hHeld => ?_)
 refine wpAnyH_take (i := 0) (v := ?_) rfl (by kernel_rfl) (by kernel_rfl) (by kernel_rfl) (fun _ _ _ h => h) (Or.inl ⟨by rfl, ?_⟩) hHeld ?_
 rotate_left
 ·(intro wz _; go_simp; try with_reducible rfl)
 try simp only [List.getElem_toArray, List.getElem_cons_succ, List.getElem_cons_zero, Act.put, List.setIfInBounds_toArray, List.set_cons_zero, List.set_cons_succ]
 refine wpAnyH_take (i := 1) (v := ?_) rfl (by kernel_rfl) (by kernel_rfl) (by kernel_rfl) (fun _ _ _ h => h) (Or.inl ⟨by rfl, ?_⟩) hHeld ?_
 rotate_left
 ·(intro wz _; go_simp; try with_reducible rfl)
 try simp only [List.getElem_toArray, List.getElem_cons_succ, List.getElem_cons_zero, Act.put, List.setIfInBounds_toArray, List.set_cons_zero, List.set_cons_succ]
 refine wpAnyH_take (i := 2) (v := _) rfl (by kernel_rfl) (by kernel_rfl) (by kernel_rfl) (fun _ _ _ h => h) (yields_load1 rfl 26 _ rfl rfl hbK2 d0 Tryz.underlying26 rfl) hHeld ?_
 try simp only [List.getElem_toArray, List.getElem_cons_succ, List.getElem_cons_zero, Act.put, List.setIfInBounds_toArray, List.set_cons_zero, List.set_cons_succ]
 refine wpAnyH_take (i := 4) (v := ?_) rfl (by kernel_rfl) (by kernel_rfl) (by kernel_rfl) (fun _ _ _ h => h) (Or.inl ⟨by rfl, ?_⟩) hHeld ?_
 rotate_left
 ·(intro wz _; go_simp; try with_reducible rfl)
 try simp only [List.getElem_toArray, List.getElem_cons_succ, List.getElem_cons_zero, Act.put, List.setIfInBounds_toArray, List.set_cons_zero, List.set_cons_succ]
 refine wpAnyH_take (i := 5) (v := _) rfl (by kernel_rfl) (by kernel_rfl) (by kernel_rfl) (fun _ _ _ h => h) (yields_agg rfl 190 _ rfl rfl hbK2 dx dz Tryz.underlying190 rfl (by kernel_rfl)) hHeld ?_
 try simp only [List.getElem_toArray, List.getElem_cons_succ, List.getElem_cons_zero, Act.put, List.setIfInBounds_toArray, List.set_cons_zero, List.set_cons_succ]
 refine wpAnyH_take (i := 6) (v := ?_) rfl (by kernel_rfl) (by kernel_rfl) (by kernel_rfl) (fun _ _ _ h => h) (Or.inl ⟨by rfl, ?_⟩) hHeld ?_
 rotate_left
 ·(intro wz _; go_simp; try with_reducible rfl)
 try simp only [List.getElem_toArray, List.getElem_cons_succ, List.getElem_cons_zero, Act.put, List.setIfInBounds_toArray, List.set_cons_zero, List.set_cons_succ]
 refine wpAnyH_take (i := 8) (v := ?_) rfl (by kernel_rfl) (by kernel_rfl) (by kernel_rfl) (fun _ _ _ h => h) (Or.inl ⟨by rfl, ?_⟩) hHeld ?_
 rotate_left
 ·(intro wz _; go_simp; try with_reducible rfl)
 try simp only [List.getElem_toArray, List.getElem_cons_succ, List.getElem_cons_zero, Act.put, List.setIfInBounds_toArray, List.set_cons_zero, List.set_cons_succ]
 refine wpAnyH_take (i := 9) (v := ?_) rfl (by kernel_rfl) (by kernel_rfl) (by kernel_rfl) (fun _ _ _ h => h) (Or.inl ⟨by rfl, ?_⟩) hHeld ?_
 rotate_left
 ·(intro wz _; go_simp; try with_reducible rfl)
 try simp only [List.getElem_toArray, List.getElem_cons_succ, List.getElem_cons_zero, Act.put, List.setIfInBounds_toArray, List.set_cons_zero, List.set_cons_succ]
 refine wpAnyH_take (i := 10) (v := ?_) rfl (by kernel_rfl) (by kernel_rfl) (by kernel_rfl) (fun _ _ _ h => h) (Or.inl ⟨by rfl, ?_⟩) hHeld ?_
 rotate_left
 ·(intro wz _; go_simp; try with_reducible rfl)
 try simp only [List.getElem_toArray, List.getElem_cons_succ, List.getElem_cons_zero, Act.put, List.setIfInBounds_toArray, List.set_cons_zero, List.set_cons_succ]
 refine wpAnyH_take (i := 11) (v := ?_) rfl (by kernel_rfl) (by kernel_rfl) (by kernel_rfl) (fun _ _ _ h => h) (Or.inl ⟨by rfl, ?_⟩) hHeld ?_
 rotate_left
 ·(intro wz _; go_simp; try with_reducible rfl)
 try simp only [List.getElem_toArray, List.getElem_cons_succ, List.getElem_cons_zero, Act.put, List.setIfInBounds_toArray, List.set_cons_zero, List.set_cons_succ]
 refine wpAnyH_take (i := 12) (v := _) rfl (by kernel_rfl) (by kernel_rfl) (by kernel_rfl) (fun _ _ _ h => h) (yields_load1 rfl 42 _ rfl rfl hfK f4 Tryz.underlying42 rfl) hHeld ?_
 try simp only [List.getElem_toArray, List.getElem_cons_succ, List.getElem_cons_zero, Act.put, List.setIfInBounds_toArray, List.set_cons_zero, List.set_cons_succ]
 refine wpAnyH_take (i := 13) (v := ?_) rfl (by kernel_rfl) (by kernel_rfl) (by kernel_rfl) (fun _ _ _ h => h) (Or.inl ⟨by rfl, ?_⟩) hHeld ?_
 rotate_left
 ·(intro wz _; go_simp; try with_reducible rfl)
 try simp only [List.getElem_toArray, List.getElem_cons_succ, List.getElem_cons_zero, Act.put, List.setIfInBounds_toArray, List.set_cons_zero, List.set_cons_succ]
 replace h := h.drew
 generalize w.drew = w1 at h hHeld ⊢
 clear w
 obtain ⟨w, rfl⟩ : ∃ q : World, q = w1 := ⟨_, rfl⟩
 refine wpAnyH_ready (rs := [3]) (by kernel_rfl) (by simp) ?_
 refine AllReadyH.cons rfl (fun K hK => ?_) AllReadyH.nil
 (go_simp; go_wp2_with (go_at_call 46; refine (ME.out _ h).mono ?_; clear h; rintro _ w ⟨rfl, h⟩))
 refine hK.out _ _ (h.le KL) (fun hHeld => ?_)
 clear hK K
 try simp only [Act.put, List.setIfInBounds_toArray, List.set_cons_zero, List.set_cons_succ]
 refine wpAnyH_ready (rs := [7]) (by kernel_rfl) (by simp) ?_
 refine AllReadyH.cons rfl (fun K hK => ?_) AllReadyH.nil
 (go_simp; go_wp2_with (go_at_call 143; refine (ND1.out _ h).mono ?_; clear h; rintro _ w ⟨rfl, h⟩))
 refine hK.out _ _ (h.le KL) (fun hHeld => ?_)
 clear hK K
 try simp only [Act.put, List.setIfInBounds_toArray, List.set_cons_zero, List.set_cons_succ]
 refine wpAnyH_ready (rs := [14]) (by kernel_rfl) (by simp) ?_
 refine AllReadyH.cons rfl (fun K hK => ?_) AllReadyH.nil
 (go_simp; go_wp2_with (go_at_call 89; refine (HH.out _).mono ?_; rintro _ w' ⟨rfl, rfl⟩))
 refine hK.out _ _ (h.le KL) (fun hHeld => ?_)
 clear hK K
 try simp only [Act.put, List.setIfInBounds_toArray, List.set_cons_zero, List.set_cons_succ]
 refine wpAnyH_ready (rs := [15]) (by kernel_rfl) (by simp) ?_
 refine AllReadyH.cons rfl (fun K hK => ?_) AllReadyH.nil
 (go_simp; go_wp2_with (go_at_call 97; refine (SE.out _ h).mono ?_; clear h; rintro _ w ⟨rfl, h⟩))
 refine hK.out _ _ (h.le KE) (fun hHeld => ?_)
 clear hK K
 try simp only [Act.put, List.setIfInBounds_toArray, List.set_cons_zero, List.set_cons_succ]
 refine wpAnyH_done (by kernel_rfl) ?_ _
 clear hHeld ME SE HH ND1 KL
 have hb4' := KE _ _ hbK2
 have DR := Lib.hid (fun (w : World) (h : Has σ M2 w) => DRQ.out K0 M2 w _ h HT2.out)
 clear KE hbK2 hfK hKD DRQ
 go_upto_region 5 with (first
  | (with_reducible show wpList _ _ _ ({ dst := _, op := Op.load 26 _, type := _, pos := _, after := _, guard := _ } :: _) _ _; refine wpList_load1_has h rfl 26 _ rfl rfl hb4' d0 Tryz.underlying26 rfl ?_)
  | (with_reducible show wpList _ _ _ ({ dst := _, op := Op.load 3 _, type := _, pos := _, after := _, guard := _ } :: _) _ _; refine wpList_load1_has h rfl 3 _ rfl rfl hb4' d1 Tryz.underlying3 rfl ?_)
  | ((go_at_call 147; refine (DR.out _ h).mono ?_; clear h; rintro _ w ⟨rfl, M3, lab3, gv, h, hB3, hM3, hK3⟩)))
 have hT3 := HT2.out.keep hK3 (fun k hk e => by have h1 := hk.1; rcases e with e | e | e <;> omega) hM3 hB3 rfl rfl
 obtain ⟨hfb3, hT4⟩ := hT3.frame (f.goto 7)
 rw [hr0] at hfb3
 have HT4 := Lib.hid (hT4.less HKK.out)
 have PL := Lib.hid (fun (w : World) (h : Has σ (M3.upd b (.cells (f.goto 7).row 69)) w) => mPlan_eq h hT4.mach)
 have CF := Lib.hid (fun (w : World) (h : Has σ (M3.upd b (.cells (f.goto 7).row 69)) w) => CFQ.out _ w h _ hT4.mach.plan)
 have BK0 := Lib.hid (fun (w : World) (h : Has σ (M3.upd b (.cells (f.goto 7).row 69)) w) => back0_eq h hT4 HFS.out)
 have KP := Mm.upd_le2 hT4.base.le hT4.obj
 have hb5 := hT4.base.le _ _ HBK.out
 have hbK5 : (K0.upd b (.cells (f.goto 7).row 69)) b4 = some (.cells rc 193) := (Mm.upd_ne HNE.out).trans HBK.out
 have hfK5 : (K0.upd b (.cells (f.goto 7).row 69)) b = some (.cells (f.goto 7).row 69) := Mm.upd_same _ _ _
 clear hT3 hT4 hK3 hM3 hB3 hb4' HT2 DR CFQ hr0
 generalize (f.goto 7).row = fr1 at *
 go_upto_region 6 with (first
  | (with_reducible show wpList _ _ _ ({ dst := _, op := Op.store 3 _ _, type := _, pos := _, after := _, guard := _ } :: _) _ _; refine wpList_store1_has h rfl 3 _ _ rfl rfl rfl hfb3 hsz rfl (by kernel_rfl) ?_; clear h; intro w h))
 have h9 : Has σ (M3.upd b (.cells (fr0.setIfInBounds 1 (.int .i64 7)) 69)) w := h
 rw [R1.out] at h9
 clear h hfb3 hsz R1
 have h := h9
 clear h9
 generalize M3.upd b (.cells fr1 69) = M4 at *
 generalize K0.upd b (.cells fr1 69) = K5 at *
 refine wp_region_held_drew (S := Has σ (K5)) (by kernel_rfl) (h.drew.le KP) (fun hHeld => ?_)
 refine wpAnyH_take (i := 0) (v := ?_) rfl (by kernel_rfl) (by kernel_rfl) (by kernel_rfl) (fun _ _ _ h => h) (Or.inl ⟨by rfl, ?_⟩) hHeld ?_
 rotate_left
 ·(intro wz _; go_simp; try with_reducible rfl)
 try simp only [List.getElem_toArray, List.getElem_cons_succ, List.getElem_cons_zero, Act.put, List.setIfInBounds_toArray, List.set_cons_zero, List.set_cons_succ]
 refine wpAnyH_take (i := 1) (v := ?_) rfl (by kernel_rfl) (by kernel_rfl) (by kernel_rfl) (fun _ _ _ h => h) (Or.inl ⟨by rfl, ?_⟩) hHeld ?_
 rotate_left
 ·(intro wz _; go_simp; try with_reducible rfl)
 try simp only [List.getElem_toArray, List.getElem_cons_succ, List.getElem_cons_zero, Act.put, List.setIfInBounds_toArray, List.set_cons_zero, List.set_cons_succ]
 refine wpAnyH_take (i := 2) (v := ?_) rfl (by kernel_rfl) (by kernel_rfl) (by kernel_rfl) (fun _ _ _ h => h) (Or.inl ⟨by rfl, ?_⟩) hHeld ?_
 rotate_left
 ·(intro wz _; go_simp; try with_reducible rfl)
 try simp only [List.getElem_toArray, List.getElem_cons_succ, List.getElem_cons_zero, Act.put, List.setIfInBounds_toArray, List.set_cons_zero, List.set_cons_succ]
 refine wpAnyH_take (i := 3) (v := ?_) rfl (by kernel_rfl) (by kernel_rfl) (by kernel_rfl) (fun _ _ _ h => h) (Or.inl ⟨by rfl, ?_⟩) hHeld ?_
 rotate_left
 ·(intro wz _; go_simp; try with_reducible rfl)
 try simp only [List.getElem_toArray, List.getElem_cons_succ, List.getElem_cons_zero, Act.put, List.setIfInBounds_toArray, List.set_cons_zero, List.set_cons_succ]
 refine wpAnyH_take (i := 4) (v := _) rfl (by kernel_rfl) (by kernel_rfl) (by kernel_rfl) (fun _ _ _ h => h) (yields_load1 rfl 42 _ rfl rfl hfK5 g4 Tryz.underlying42 rfl) hHeld ?_
 try simp only [List.getElem_toArray, List.getElem_cons_succ, List.getElem_cons_zero, Act.put, List.setIfInBounds_toArray, List.set_cons_zero, List.set_cons_succ]
 refine wpAnyH_take (i := 5) (v := ?_) rfl (by kernel_rfl) (by kernel_rfl) (by kernel_rfl) (fun _ _ _ h => h) (Or.inl ⟨by rfl, ?_⟩) hHeld ?_
 rotate_left
 ·(intro wz _; go_simp; try with_reducible rfl)
 try simp only [List.getElem_toArray, List.getElem_cons_succ, List.getElem_cons_zero, Act.put, List.setIfInBounds_toArray, List.set_cons_zero, List.set_cons_succ]
 refine wpAnyH_take (i := 6) (v := ?_) rfl (by kernel_rfl) (by kernel_rfl) (by kernel_rfl) (fun _ _ _ h => h) (Or.inl ⟨by rfl, ?_⟩) hHeld ?_
 rotate_left
 ·(intro wz _; go_simp; try with_reducible rfl)
 try simp only [List.getElem_toArray, List.getElem_cons_succ, List.getElem_cons_zero, Act.put, List.setIfInBounds_toArray, List.set_cons_zero, List.set_cons_succ]
 refine wpAnyH_take (i := 7) (v := ?_) rfl (by kernel_rfl) (by kernel_rfl) (by kernel_rfl) (fun _ _ _ h => h) (Or.inl ⟨by rfl, ?_⟩) hHeld ?_
 rotate_left
 ·(intro wz _; go_simp; try with_reducible rfl)
 try simp only [List.getElem_toArray, List.getElem_cons_succ, List.getElem_cons_zero, Act.put, List.setIfInBounds_toArray, List.set_cons_zero, List.set_cons_succ]
 refine wpAnyH_take (i := 8) (v := _) rfl (by kernel_rfl) (by kernel_rfl) (by kernel_rfl) (fun _ _ _ h => h) (yields_load1 rfl 26 _ rfl rfl hbK5 d0 Tryz.underlying26 rfl) hHeld ?_
 try simp only [List.getElem_toArray, List.getElem_cons_succ, List.getElem_cons_zero, Act.put, List.setIfInBounds_toArray, List.set_cons_zero, List.set_cons_succ]
 replace h := h.drew
 generalize w.drew = w1 at h hHeld ⊢
 clear w
 obtain ⟨w, rfl⟩ : ∃ q : World, q = w1 := ⟨_, rfl⟩
 refine wpAnyH_ready (rs := [9]) (by kernel_rfl) (by simp) ?_
 refine AllReadyH.cons rfl (fun K hK => ?_) AllReadyH.nil
 (go_simp; go_wp2_with (go_at_call 57; refine (PL.out _ h).mono ?_; clear h; rintro _ w ⟨rfl, h⟩))
 refine hK.out _ _ (h.le KP) (fun hHeld => ?_)
 clear hK K
 try simp only [Act.put, List.setIfInBounds_toArray, List.set_cons_zero, List.set_cons_succ]
 refine wpAnyH_ready (rs := [10]) (by kernel_rfl) (by simp) ?_
 refine AllReadyH.cons rfl (fun K hK => ?_) AllReadyH.nil
 (go_simp; go_wp2_with (go_at_call 58; refine (CF.out _ h).mono ?_; clear h; rintro _ w ⟨rfl, h⟩))
 refine hK.out _ _ (h.le KP) (fun hHeld => ?_)
 clear hK K
 try simp only [Act.put, List.setIfInBounds_toArray, List.set_cons_zero, List.set_cons_succ]
 refine wpAnyH_take (i := 11) (v := ?_) rfl (by kernel_rfl) (by kernel_rfl) (by kernel_rfl) (fun _ _ _ h => h) (Or.inl ⟨by rfl, ?_⟩) hHeld ?_
 rotate_left
 ·(intro wz _; go_simp; try with_reducible rfl)
 try simp only [List.getElem_toArray, List.getElem_cons_succ, List.getElem_cons_zero, Act.put, List.setIfInBounds_toArray, List.set_cons_zero, List.set_cons_succ]
 refine wpAnyH_take (i := 12) (v := ?_) rfl (by kernel_rfl) (by kernel_rfl) (by kernel_rfl) (fun _ _ _ h => h) (Or.inl ⟨by rfl, ?_⟩) hHeld ?_
 rotate_left
 ·(intro wz _; go_simp; try with_reducible rfl)
 try simp only [List.getElem_toArray, List.getElem_cons_succ, List.getElem_cons_zero, Act.put, List.setIfInBounds_toArray, List.set_cons_zero, List.set_cons_succ]
 refine wpAnyH_done (by kernel_rfl) ?_ _
 clear hHeld PL CF hfd
 go_wp2_with (first
  | (with_reducible show wpList _ _ _ ({ dst := _, op := Op.load 38 _, type := _, pos := _, after := _, guard := _ } :: _) _ _; refine wpList_load1_has h rfl 38 _ rfl rfl hb5 d2 Tryz.underlying38 rfl ?_)
  | ((go_at_call 93; refine (BK0.out _ h).mono ?_; clear h; rintro _ w ⟨rfl, M5, lab5, h, hM5, hB5⟩)))
 go_end0
 exact ⟨rfl, M5, lab5, gv, h, hM5, fun c o hc => hB5 c o (HKK.out _ _ hc)⟩
end
end
section
open Go.RowKit
section
variable {σ w : World} {K M : Mm} {lab : Nat → Nat} {p t q b lv : Nat} {s : MachS} {fs : List FrameS} {f : FrameS}
set_option maxHeartbeats 4000000 in
set_option maxRecDepth 20000 in
theorem give_6on (h : Has σ M w) (hT : AtTop K M lab p s t q b fs f) (hat : f.at_ = 6) {sl g : Nat} (h0 : f.r 0 = (sl : Int)) (hsl : sl < 256) (hg : f.r 2 = (g : Int)) (hg32 : g < 4294967296) (hlv : levelOf s.c (t : Nat) = (lv : Nat)) (hlc : (lv : Int) < s.c 0) (hin : InK s.c 9 (sl : Nat) 0) (hb1 : s.mem.acc < 1000000000) (hb2 : s.mem.wr < 1000000000) (hst : StampE s.ward.gens s.ward.gclk) (hgg : 0 ≤ valE lv (sl : Nat) s.ward.gens ∧ valE lv (sl : Nat) s.ward.gens < 1000000000) (hsp : s.ward.slips < 1000000000) (hgn : s.given.length < 1000000) (hhas : s.ward.has lv (sl : Nat) = true) (hfs : fs.length < 1000000) (hgo : (g : Int) < s.c 12) :
  Calls Tryz.prog 133 #[.agg (runC p t q b)] w fun r w' => r = .returned (.tuple #[]) ∧ ∃ M' lab' gv, Has σ M' w' ∧ AtTop K M' lab' p ((s.idled lv sl g gv).top t fs (f.goto 7)) t q b fs (f.goto 7) := by
 have ID := Lib.hid (fun (K' M' : Mm) (w : World) (lab' : Nat → Nat) (h : Has σ M' w) (hT' : AtTop K' M' lab' p s t q b fs f) => idle_on h hT' h0 hsl hg hg32 hlv hlc hin hb1 hb2 hst hgg hsp hgn hhas hfs hgo)
 clear hg hgo hst hgg hsp hgn hhas hlv hlc hin hb1 hb2 hg32 hfs
 have d0 : (runC p t q b)[0]? = some (.pointer (some ⟨p, 0, none⟩)) := rfl
 have d1 : (runC p t q b)[1]? = some (.int .i64 (t : Nat)) := rfl
 have d2 : (runC p t q b)[2]? = some (.pointer (some ⟨q, 0, none⟩)) := rfl
 have d3 : (runC p t q b)[3]? = some (.pointer (some ⟨b, 0, none⟩)) := rfl
 have dx : (runC p t q b).extract 0 (0 + 4) = runC p t q b := rfl
 have dz : (runC p t q b).size = 4 := rfl
 have f1 : f.row[1]? = some (.int .i64 6) := by rw [← hat]; rfl
 have f2 : f.row[2]? = some (.int .u64 (sl : Nat)) := by rw [← h0]; rfl
 have us : IntKind.i64.wrap ((sl : Nat) : Int) = ((sl : Nat) : Int) := IntWalk.i64_in _ (by omega)
 clear hat
 go_enter Tryz.func133, Tryz.ntmps133
 go_upto_region 1 with (fail)
 obtain ⟨M1, hbx, hle, hb4, hn⟩ := h.box (.cells (runC p t q b) 193)
 generalize w.alloc _ = wx at hbx ⊢
 generalize w.heap.size = b4 at hb4 hn ⊢
 clear h
 try clear w
 have h := hbx
 clear hbx
 obtain ⟨w, rfl⟩ : ∃ x : World, x = wx := ⟨_, rfl⟩
 obtain ⟨lab1, hT1⟩ := hT.more1 hle hn hb4
 have hnK : K b4 = none := by
  cases e : K b4 with
  | none => rfl
  | some o => have := (hT.base _ _ e).1; rw [hn] at this; cases this
 have hKK : K.le (K.upd b4 (.cells (runC p t q b) 193)) := Mm.le_upd' hnK _
 have hbK : (K.upd b4 (.cells (runC p t q b) 193)) b4 = some (.cells (runC p t q b) 193) := Mm.upd_same _ _ _
 have hfb := hT1.obj
 have ID1 := Lib.hid (fun (w : World) (h : Has σ M1 w) => ID.out _ M1 w _ h hT1)
 have HK := Lib.hid hKK
 clear hT hT1 hn hnK hKK h0 ID
 generalize runC p t q b = rc at *
 generalize f.row = fr0 at *
 go_wp2_with (first
  | (with_reducible show wpList _ _ _ ({ dst := _, op := Op.load 70 _, type := _, pos := _, after := _, guard := _ } :: _) _ _; refine wpList_load1_has h rfl 70 _ rfl rfl hb4 d3 Tryz.underlying70 rfl ?_)
  | (with_reducible show wpList _ _ _ ({ dst := _, op := Op.load 42 _, type := _, pos := _, after := _, guard := _ } :: _) _ _; refine wpList_load1_has h rfl 42 _ rfl rfl hfb f2 Tryz.underlying42 rfl ?_)
  | (with_reducible show wpList _ _ _ ({ dst := _, op := Op.load 3 _, type := _, pos := _, after := _, guard := _ } :: _) _ _; refine wpList_load1_has h rfl 3 _ rfl rfl hfb f1 Tryz.underlying3 rfl ?_)
  | ((with_reducible show wpList _ _ _ ({ dst := _, op := Op.load 193 _, type := _, pos := _, after := _, guard := _ } :: _) _ _); refine wpList_agg_has h rfl 193 _ rfl rfl hb4 dx dz Tryz.underlying193 rfl (by kernel_rfl) ?_; try simp only [Act.put, List.setIfInBounds_toArray, List.set_cons_zero, List.set_cons_succ])
  | (go_at_call 145; refine (ID1.out _ h).mono ?_; clear h; rintro _ w ⟨rfl, M2, lab2, gv, h, hT2⟩))
 go_end0
 exact ⟨rfl, M2, lab2, gv, h, hT2.less HK.out⟩
set_option maxHeartbeats 4000000 in
set_option maxRecDepth 20000 in
theorem give_6end (h : Has σ M w) (hT : AtTop K M lab p s t q b fs f) (hat : f.at_ = 6) {sl g : Nat} (h0 : f.r 0 = (sl : Int)) (hsl : sl < 256) (hg : f.r 2 = (g : Int)) (hg32 : g < 4294967296) (hlv : levelOf s.c (t : Nat) = (lv : Nat)) (hlc : (lv : Int) < s.c 0) (hin : InK s.c 9 (sl : Nat) 0) (hb1 : s.mem.acc < 1000000000) (hb2 : s.mem.wr < 1000000000) (hst : StampE s.ward.gens s.ward.gclk) (hgg : 0 ≤ valE lv (sl : Nat) s.ward.gens ∧ valE lv (sl : Nat) s.ward.gens < 1000000000) (hsp : s.ward.slips < 1000000000) (hgn : s.given.length < 1000000) (hhas : s.ward.has lv (sl : Nat) = true) (hfs : fs.length < 1000000) (hgo : s.c 12 ≤ (g : Int)) :
  Calls Tryz.prog 133 #[.agg (runC p t q b)] w fun r w' => r = .returned (.tuple #[]) ∧ ∃ M' lab' gv, Has σ M' w' ∧ Mach M' lab' p (MachS.backed ((s.idled lv sl g gv).top t fs (f.goto 7)) t []) ∧ Base K M' lab' := by
 have ID := Lib.hid (fun (K' M' : Mm) (w : World) (lab' : Nat → Nat) (h : Has σ M' w) (hT' : AtTop K' M' lab' p s t q b fs f) => idle_end h hT' h0 hsl hg hg32 hlv hlc hin hb1 hb2 hst hgg hsp hgn hhas hfs hgo)
 clear hg hgo hst hgg hsp hgn hhas hlv hlc hin hb1 hb2 hg32 hfs
 have d0 : (runC p t q b)[0]? = some (.pointer (some ⟨p, 0, none⟩)) := rfl
 have d1 : (runC p t q b)[1]? = some (.int .i64 (t : Nat)) := rfl
 have d2 : (runC p t q b)[2]? = some (.pointer (some ⟨q, 0, none⟩)) := rfl
 have d3 : (runC p t q b)[3]? = some (.pointer (some ⟨b, 0, none⟩)) := rfl
 have dx : (runC p t q b).extract 0 (0 + 4) = runC p t q b := rfl
 have dz : (runC p t q b).size = 4 := rfl
 have f1 : f.row[1]? = some (.int .i64 6) := by rw [← hat]; rfl
 have f2 : f.row[2]? = some (.int .u64 (sl : Nat)) := by rw [← h0]; rfl
 have us : IntKind.i64.wrap ((sl : Nat) : Int) = ((sl : Nat) : Int) := IntWalk.i64_in _ (by omega)
 clear hat
 go_enter Tryz.func133, Tryz.ntmps133
 go_upto_region 1 with (fail)
 obtain ⟨M1, hbx, hle, hb4, hn⟩ := h.box (.cells (runC p t q b) 193)
 generalize w.alloc _ = wx at hbx ⊢
 generalize w.heap.size = b4 at hb4 hn ⊢
 clear h
 try clear w
 have h := hbx
 clear hbx
 obtain ⟨w, rfl⟩ : ∃ x : World, x = wx := ⟨_, rfl⟩
 obtain ⟨lab1, hT1⟩ := hT.more1 hle hn hb4
 have hnK : K b4 = none := by
  cases e : K b4 with
  | none => rfl
  | some o => have := (hT.base _ _ e).1; rw [hn] at this; cases this
 have hKK : K.le (K.upd b4 (.cells (runC p t q b) 193)) := Mm.le_upd' hnK _
 have hbK : (K.upd b4 (.cells (runC p t q b) 193)) b4 = some (.cells (runC p t q b) 193) := Mm.upd_same _ _ _
 have hfb := hT1.obj
 have ID1 := Lib.hid (fun (w : World) (h : Has σ M1 w) => ID.out _ M1 w _ h hT1)
 have HK := Lib.hid hKK
 clear hT hT1 hn hnK hKK h0 ID
 generalize runC p t q b = rc at *
 generalize f.row = fr0 at *
 go_wp2_with (first
  | (with_reducible show wpList _ _ _ ({ dst := _, op := Op.load 70 _, type := _, pos := _, after := _, guard := _ } :: _) _ _; refine wpList_load1_has h rfl 70 _ rfl rfl hb4 d3 Tryz.underlying70 rfl ?_)
  | (with_reducible show wpList _ _ _ ({ dst := _, op := Op.load 42 _, type := _, pos := _, after := _, guard := _ } :: _) _ _; refine wpList_load1_has h rfl 42 _ rfl rfl hfb f2 Tryz.underlying42 rfl ?_)
  | (with_reducible show wpList _ _ _ ({ dst := _, op := Op.load 3 _, type := _, pos := _, after := _, guard := _ } :: _) _ _; refine wpList_load1_has h rfl 3 _ rfl rfl hfb f1 Tryz.underlying3 rfl ?_)
  | ((with_reducible show wpList _ _ _ ({ dst := _, op := Op.load 193 _, type := _, pos := _, after := _, guard := _ } :: _) _ _); refine wpList_agg_has h rfl 193 _ rfl rfl hb4 dx dz Tryz.underlying193 rfl (by kernel_rfl) ?_; try simp only [Act.put, List.setIfInBounds_toArray, List.set_cons_zero, List.set_cons_succ])
  | (go_at_call 145; refine (ID1.out _ h).mono ?_; clear h; rintro _ w ⟨rfl, M2, lab2, gv, h, hM2, hB2⟩))
 go_end0
 exact ⟨rfl, M2, lab2, gv, h, hM2, fun c o hc => hB2 c o (HK.out _ _ hc)⟩
set_option maxHeartbeats 2000000 in
set_option maxRecDepth 20000 in
theorem do_takeR (h : Has σ M w) (hT : AtTop K M lab p s t q b fs f) (hfn : f.fn = 1) (hfs : fs.length < 1000000) {R : MachS → Prop}
  (hstep : ∀ (K1 M1 : Mm) (lab1 : Nat → Nat) (w1 : World), Has σ M1 w1 → AtTop K1 M1 lab1 p s t q b fs f → Calls Tryz.prog 132 #[.agg (runC p t q b)] w1 fun r w' => r = .returned (.tuple #[]) ∧ ∃ M' lab' s', Has σ M' w' ∧ Mach M' lab' p s' ∧ Base K1 M' lab' ∧ R s') :
  Calls Tryz.prog 105 #[.pointer (some ⟨p, 0, none⟩), .int .i64 (t : Nat)] w fun r w' => r = .returned (.tuple #[]) ∧ ∃ M' lab' s', Has σ M' w' ∧ Base K M' lab' ∧ Mach M' lab' p s' ∧ R s' := by
 obtain ⟨fv, hv, fbs, hTh⟩ := hT.thr
 have hlen : fbs.length = fs.length := by
  have h1 := hTh.flen
  rw [hT.fr] at h1
  simpa using h1
 have TH := Lib.hid (fun (w : World) (h : Has σ M w) => mThread_yes h hT.mach hT.tp)
 have TP := Lib.hid (fun (w : World) (h : Has σ M w) => thrTop_eq h hTh (by omega))
 have hfb := hT.obj
 have f0 : f.row[0]? = some (.int .i64 f.fn) := rfl
 have HT := Lib.hid hT
 have HS := Lib.hid hstep
 rw [hfn] at f0
 clear hT hTh hlen hfs hfn hstep
 generalize f.row = fr0 at *
 go_enter Tryz.func105, Tryz.ntmps105
 go_upto_region 3 with (first
  | (go_at_call 13; refine (TH.out _ h).mono ?_; clear h; rintro _ w ⟨rfl, h⟩)
  | (go_at_call 32; refine (TP.out _ h).mono ?_; clear h; rintro _ w ⟨rfl, h⟩)
  | ((with_reducible show wpList _ _ _ ({ dst := _, op := Op.alloc 190, type := _, pos := _, after := _, guard := _ } :: _) _ _); refine wpList_alloc_has h rfl 190 rfl _ zrun ?_; clear h; intro bx w h hnx; try simp only [Act.put, List.setIfInBounds_toArray, List.set_cons_zero, List.set_cons_succ])
  | ((with_reducible show wpList _ _ _ ({ dst := _, op := Op.store 190 _ _, type := _, pos := _, after := _, guard := _ } :: _) _ _); refine wpList_storeAll_has (cells := runC p t q b) h rfl 190 _ _ rfl rfl rfl (Mm.upd_same _ _ _) rfl rfl rfl (by kernel_rfl) rfl ?_; clear h; intro w h))
 rw [Mm.upd_upd] at h
 have hfb1 := Mm.upd_of (o := .cells (runC p t q b) 190) hnx hfb
 have hle := Mm.le_upd' hnx (.cells (runC p t q b) 190)
 have hbx := Mm.upd_same M bx (.cells (runC p t q b) 190)
 generalize M.upd bx _ = M1 at h hfb1 hle hbx
 obtain ⟨lab1, hT1⟩ := HT.out.more1 hle hnx hbx
 have hnK : K bx = none := by
  cases e : K bx with
  | none => rfl
  | some o => have := (HT.out.base _ _ e).1; rw [hnx] at this; cases this
 have HKK := Lib.hid (Mm.le_upd' hnK (.cells (runC p t q b) 190))
 have ST := Lib.hid (fun (w : World) (h : Has σ M1 w) => HS.out _ M1 lab1 w h hT1)
 clear hT1 hnK hnx hle TH TP
 unfold runC at ST hbx
 have dx : (#[.pointer (some ⟨p, 0, none⟩), .int .i64 (t : Nat), .pointer (some ⟨q, 0, none⟩), .pointer (some ⟨b, 0, none⟩)] : Array Value).extract 0 (0 + 4) = #[.pointer (some ⟨p, 0, none⟩), .int .i64 (t : Nat), .pointer (some ⟨q, 0, none⟩), .pointer (some ⟨b, 0, none⟩)] := rfl
 go_wp2_with (first
  | (with_reducible show wpList _ _ _ ({ dst := _, op := Op.load 3 _, type := _, pos := _, after := _, guard := _ } :: _) _ _; refine wpList_load1_has h rfl 3 _ rfl rfl hfb1 f0 Tryz.underlying3 rfl ?_)
  | ((with_reducible show wpList _ _ _ ({ dst := _, op := Op.load 190 _, type := _, pos := _, after := _, guard := _ } :: _) _ _); refine wpList_agg_has h rfl 190 _ rfl rfl hbx dx rfl Tryz.underlying190 rfl (by kernel_rfl) ?_; try simp only [Act.put, List.setIfInBounds_toArray, List.set_cons_zero, List.set_cons_succ])
  | (go_at_call 132; refine (ST.out _ h).mono ?_; clear h; rintro _ w ⟨rfl, M2, lab2, s2, h, hM2, hB2, hR2⟩))
 go_end0
 exact ⟨rfl, M2, lab2, s2, h, fun c o hc => hB2 c o (HKK.out _ _ hc), hM2, hR2⟩
set_option maxHeartbeats 2000000 in
set_option maxRecDepth 20000 in
theorem do_giveR (h : Has σ M w) (hT : AtTop K M lab p s t q b fs f) (hfn : f.fn = 2) (hfs : fs.length < 1000000) {R : MachS → Prop}
  (hstep : ∀ (K1 M1 : Mm) (lab1 : Nat → Nat) (w1 : World), Has σ M1 w1 → AtTop K1 M1 lab1 p s t q b fs f → Calls Tryz.prog 133 #[.agg (runC p t q b)] w1 fun r w' => r = .returned (.tuple #[]) ∧ ∃ M' lab' s', Has σ M' w' ∧ Mach M' lab' p s' ∧ Base K1 M' lab' ∧ R s') :
  Calls Tryz.prog 105 #[.pointer (some ⟨p, 0, none⟩), .int .i64 (t : Nat)] w fun r w' => r = .returned (.tuple #[]) ∧ ∃ M' lab' s', Has σ M' w' ∧ Base K M' lab' ∧ Mach M' lab' p s' ∧ R s' := by
 obtain ⟨fv, hv, fbs, hTh⟩ := hT.thr
 have hlen : fbs.length = fs.length := by
  have h1 := hTh.flen
  rw [hT.fr] at h1
  simpa using h1
 have TH := Lib.hid (fun (w : World) (h : Has σ M w) => mThread_yes h hT.mach hT.tp)
 have TP := Lib.hid (fun (w : World) (h : Has σ M w) => thrTop_eq h hTh (by omega))
 have hfb := hT.obj
 have f0 : f.row[0]? = some (.int .i64 f.fn) := rfl
 have HT := Lib.hid hT
 have HS := Lib.hid hstep
 rw [hfn] at f0
 clear hT hTh hlen hfs hfn hstep
 generalize f.row = fr0 at *
 go_enter Tryz.func105, Tryz.ntmps105
 go_upto_region 3 with (first
  | (go_at_call 13; refine (TH.out _ h).mono ?_; clear h; rintro _ w ⟨rfl, h⟩)
  | (go_at_call 32; refine (TP.out _ h).mono ?_; clear h; rintro _ w ⟨rfl, h⟩)
  | ((with_reducible show wpList _ _ _ ({ dst := _, op := Op.alloc 190, type := _, pos := _, after := _, guard := _ } :: _) _ _); refine wpList_alloc_has h rfl 190 rfl _ zrun ?_; clear h; intro bx w h hnx; try simp only [Act.put, List.setIfInBounds_toArray, List.set_cons_zero, List.set_cons_succ])
  | ((with_reducible show wpList _ _ _ ({ dst := _, op := Op.store 190 _ _, type := _, pos := _, after := _, guard := _ } :: _) _ _); refine wpList_storeAll_has (cells := runC p t q b) h rfl 190 _ _ rfl rfl rfl (Mm.upd_same _ _ _) rfl rfl rfl (by kernel_rfl) rfl ?_; clear h; intro w h))
 rw [Mm.upd_upd] at h
 have hfb1 := Mm.upd_of (o := .cells (runC p t q b) 190) hnx hfb
 have hle := Mm.le_upd' hnx (.cells (runC p t q b) 190)
 have hbx := Mm.upd_same M bx (.cells (runC p t q b) 190)
 generalize M.upd bx _ = M1 at h hfb1 hle hbx
 obtain ⟨lab1, hT1⟩ := HT.out.more1 hle hnx hbx
 have hnK : K bx = none := by
  cases e : K bx with
  | none => rfl
  | some o => have := (HT.out.base _ _ e).1; rw [hnx] at this; cases this
 have HKK := Lib.hid (Mm.le_upd' hnK (.cells (runC p t q b) 190))
 have ST := Lib.hid (fun (w : World) (h : Has σ M1 w) => HS.out _ M1 lab1 w h hT1)
 clear hT1 hnK hnx hle TH TP
 unfold runC at ST hbx
 have dx : (#[.pointer (some ⟨p, 0, none⟩), .int .i64 (t : Nat), .pointer (some ⟨q, 0, none⟩), .pointer (some ⟨b, 0, none⟩)] : Array Value).extract 0 (0 + 4) = #[.pointer (some ⟨p, 0, none⟩), .int .i64 (t : Nat), .pointer (some ⟨q, 0, none⟩), .pointer (some ⟨b, 0, none⟩)] := rfl
 go_wp2_with (first
  | (with_reducible show wpList _ _ _ ({ dst := _, op := Op.load 3 _, type := _, pos := _, after := _, guard := _ } :: _) _ _; refine wpList_load1_has h rfl 3 _ rfl rfl hfb1 f0 Tryz.underlying3 rfl ?_)
  | ((with_reducible show wpList _ _ _ ({ dst := _, op := Op.load 190 _, type := _, pos := _, after := _, guard := _ } :: _) _ _); refine wpList_agg_has h rfl 190 _ rfl rfl hbx dx rfl Tryz.underlying190 rfl (by kernel_rfl) ?_; try simp only [Act.put, List.setIfInBounds_toArray, List.set_cons_zero, List.set_cons_succ])
  | (go_at_call 133; refine (ST.out _ h).mono ?_; clear h; rintro _ w ⟨rfl, M2, lab2, s2, h, hM2, hB2, hR2⟩))
 go_end0
 exact ⟨rfl, M2, lab2, s2, h, fun c o hc => hB2 c o (HKK.out _ _ hc), hM2, hR2⟩
/-- A step of Take, or of Give. -/
theorem stepR (h : Has σ M w) (hM : Mach M lab p s) (hB : Base K M lab) (hq : s.tp[t]? = some q) (hf : (s.thr t).frames = fs ++ [f]) (hrun : ((s.thr t).st || (s.thr t).ki) = false) (hlv : levelOf s.c t = (lv : Nat)) (hb1 : s.mem.acc < 1000000000) (hb2 : s.steps < 1000000) (hb3 : ∀ k, s.clk k < 1000000000) (hfs : fs.length < 1000000) {R : MachS → Prop} (hR : ∀ s2, R s2 → s2.tp = s.tp ∧ s2.steps < 1000000000 ∧ (s2.thr t).frames.length < 1000000000)
  (hstep : (f.fn = 1 ∧ ∀ (b : Nat) (K1 M1 : Mm) (lab1 : Nat → Nat) (w1 : World), Has σ M1 w1 → AtTop K1 M1 lab1 p (s.tick lv) t q b fs f → Calls Tryz.prog 132 #[.agg (runC p t q b)] w1 fun r w' => r = .returned (.tuple #[]) ∧ ∃ M' lab' s', Has σ M' w' ∧ Mach M' lab' p s' ∧ Base K1 M' lab' ∧ R s') ∨
   (f.fn = 2 ∧ ∀ (b : Nat) (K1 M1 : Mm) (lab1 : Nat → Nat) (w1 : World), Has σ M1 w1 → AtTop K1 M1 lab1 p (s.tick lv) t q b fs f → Calls Tryz.prog 133 #[.agg (runC p t q b)] w1 fun r w' => r = .returned (.tuple #[]) ∧ ∃ M' lab' s', Has σ M' w' ∧ Mach M' lab' p s' ∧ Base K1 M' lab' ∧ R s')) :
  Calls Tryz.prog 33 #[.pointer (some ⟨p, 0, none⟩), .int .i64 (t : Nat), .func (.func 105) #[] #[]] w fun r w' => ∃ M' lab' s2, R s2 ∧ r = .returned (.bool (!(s2.thr t).frames.isEmpty)) ∧ Has σ M' w' ∧ Mach M' lab' p (s2.after s lv) ∧ Base K M' lab' := by
 have STP := step_eq (R := R) (F := 105) (caps := #[]) h hM hB hq (by rw [hf]; simp) hrun hlv hb1 (by omega) hb3 (by rw [hf]; simp; omega) (by kernel_rfl)
  (fun M1 lab1 w1 h1 hM1 hB1 => by
   obtain ⟨b, hT⟩ := AtTop.of (f := f) (fs := fs) hM1 hB1 hq hf
   rcases hstep with ⟨hfn, hs⟩ | ⟨hfn, hs⟩
   ·exact do_takeR h1 hT hfn hfs (R := R) (fun K1 M2 lab2 w2 h2 hT2 => hs b K1 M2 lab2 w2 h2 hT2)
   ·exact do_giveR h1 hT hfn hfs (R := R) (fun K1 M2 lab2 w2 h2 hT2 => hs b K1 M2 lab2 w2 h2 hT2)) hR
 refine STP.mono fun r w' hr => ?_
 obtain ⟨M', lab', x, hx, hr, h', hB', hM'⟩ := hr
 exact ⟨M', lab', x, hx, hr, h', hM', hB'⟩
end
end
section
open Go.RowKit
/-- Ints, as a slice's cells. -/
def natv (l : List Nat) : List Value := l.map fun n : Nat => Value.int .i64 n
theorem natv_snoc' (l : List Nat) (x : Nat) : natv (l ++ [x]) = natv l ++ [.int .i64 (x : Nat)] := by simp [natv]
theorem natv_len' (l : List Nat) : (natv l).length = l.length := by simp [natv]
def put1 {α : Type} (f : Nat → α) (k : Nat) (v : α) : Nat → α := fun j => if j = k then v else f j
theorem put1_same {α : Type} (f : Nat → α) (k : Nat) (v : α) : put1 f k v k = v := if_pos rfl
theorem put1_ne {α : Type} {f : Nat → α} {k j : Nat} {v : α} (h : j ≠ k) : put1 f k v j = f j := if_neg h
theorem put1_self {α : Type} (f : Nat → α) (k : Nat) : put1 f k (f k) = f := by funext j; unfold put1; by_cases hj : j = k <;> simp [hj]
theorem put1_put1 {α : Type} (f : Nat → α) (k : Nat) (a b : α) : put1 (put1 f k a) k b = put1 f k b := by funext j; unfold put1; by_cases hj : j = k <;> simp [hj]
end
section
open Go.RowKit
/-- A level: the top, links, heads, which slots are held. -/
structure LvG where
 top : Nat
 lk : Nat → Nat
 hd : Nat → Nat
 held : Nat → Bool
/-- A frame. -/
structure StF where
 fn : Nat
 pc : Nat
 r0 : Nat
 r1 : Nat
 r2 : Nat
structure StG where
 lv : Nat → LvG
 thr : Nat → Option StF
 t0 : Nat → Nat
 t1 : Nat → Nat
def slOf (x : Nat) : Nat := cutN x 0 8
def cnt (x : Nat) : Nat := cutN x 8 56
def genOf (x : Nat) : Nat := cutN x 2 32
def StG.go (g : StG) (t : Nat) (F : StF) : StG := { g with thr := put1 g.thr t (some F) }
def StG.back (g : StG) (t a b : Nat) : StG := { g with thr := put1 g.thr t none, t0 := put1 g.t0 t a, t1 := put1 g.t1 t b }
def StG.lev (g : StG) (l : Nat) (L : LvG) : StG := { g with lv := put1 g.lv l L }
def StG.take (g : StG) (t l : Nat) (F : StF) : StG :=
 if F.pc = 0 then g.go t { F with r1 := (g.lv l).top, pc := 1 }
 else if F.pc = 1 then (if slOf F.r1 = 0 then g.back t 0 0 else g.go t { F with r2 := (g.lv l).lk (slOf F.r1), pc := 2 })
 else if F.pc = 2 then (if (g.lv l).top = F.r1 then (g.lev l { g.lv l with top := mkTop F.r2 (cnt F.r1 + 1), held := put1 (g.lv l).held (slOf F.r1) true }).go t { F with pc := 3 } else g.go t { F with pc := 0 })
 else g.back t (slOf F.r1) (genOf ((g.lv l).hd (slOf F.r1)))
def StG.give (gens : Nat) (g : StG) (t l : Nat) (F : StF) : StG :=
 if F.pc = 0 then g.go t { F with r2 := genOf ((g.lv l).hd F.r0) + 1, pc := 1 }
 else if F.pc = 1 then (g.lev l { g.lv l with hd := put1 (g.lv l).hd F.r0 (mkHead (F.r2 - 1) 3) }).go t { F with pc := 2 }
 else if F.pc = 2 then g.go t { F with pc := 3 }
 else if F.pc = 3 then g.go t { F with pc := 4 }
 else if F.pc = 4 then g.go t { F with pc := 5 }
 else if F.pc = 5 then g.go t { F with pc := 6 }
 else if F.pc = 6 then (if F.r2 < gens then (g.lev l { g.lv l with hd := put1 (g.lv l).hd F.r0 (mkHead F.r2 0), held := put1 (g.lv l).held F.r0 false }).go t { F with pc := 7 } else (g.lev l { g.lv l with hd := put1 (g.lv l).hd F.r0 (mkHead F.r2 0), held := put1 (g.lv l).held F.r0 false }).back t 0 0)
 else if F.pc = 7 then g.go t { F with r1 := (g.lv l).top, pc := 8 }
 else if F.pc = 8 then (g.lev l { g.lv l with lk := put1 (g.lv l).lk F.r0 (slOf F.r1) }).go t { F with pc := 9 }
 else (if (g.lv l).top = F.r1 then (g.lev l { g.lv l with top := mkTop F.r0 (cnt F.r1 + 1) }).back t 0 0 else g.go t { F with pc := 7 })
def StG.next (gens : Nat) (g : StG) (t l : Nat) (F : StF) : StG := if F.fn = 1 then g.take t l F else g.give gens t l F
end
end Go.Proofs.YtjeeldacnllipaaGreat
