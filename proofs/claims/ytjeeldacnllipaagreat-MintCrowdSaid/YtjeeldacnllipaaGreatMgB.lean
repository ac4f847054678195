/- Layer 22 (stock), plain: what always holds of levels, threads and free lists. -/
import Derived.Test.YtjeeldacnllipaaGreatMgA
import Derived.Test.YtjeeldacnllipaaGreatRunC
namespace Go.Proofs.YtjeeldacnllipaaGreat
set_option linter.unusedVariables false
set_option linter.unusedSimpArgs false
set_option linter.unnecessarySimpa false
section
open Go.RowKit
theorem row_reg4 (f : FrameS) (v : Int) : f.row.setIfInBounds 6 (.int .u64 v) = (f.reg 4 v).row := rfl
theorem row_reg5 (f : FrameS) (v : Int) : f.row.setIfInBounds 7 (.int .u64 v) = (f.reg 5 v).row := rfl
/-- A routine is begun upon the others. -/
theorem atTop_call {σ w : World} {K M : Mm} {lab : Nat → Nat} {p t q b : Nat} {s : MachS} {fs : List FrameS} {f : FrameS} (h : Has σ M w) (hT : AtTop K M lab p s t q b fs f) (hfs : fs.length + 1 < 1000000) (fn : Int) {rv : Value} {us : List Int} (hr : Rd M 1 rv us.length (u64s us)) (hu : us.length ≤ 16) :
  Calls Tryz.prog 34 #[.pointer (some ⟨q, 0, none⟩), .int .i64 fn, rv] w fun r w' => r = .returned (.tuple #[]) ∧ ∃ M' lab', Has σ M' w' ∧ Mach M' lab' p (s.begun t fn us) ∧ Base K M' lab' := by
 obtain ⟨fv, hv, fbs, hTh⟩ := hT.thr
 refine (thrCall_eq h hTh fn hr hu (by have h1 := hTh.flen; rw [hT.fr] at h1; simp at h1; simp; omega)).mono fun r w' ⟨e, M', lab', h', hK, hI⟩ => ?_
 obtain ⟨h4, h5⟩ := hT.mach.thrTo hT.base hT.tp hK hI
 exact ⟨e, M', lab', h', h4, h5⟩
set_option maxHeartbeats 4000000 in
set_option maxRecDepth 20000 in
theorem mint_write {σ w : World} {K M : Mm} {lab : Nat → Nat} {p t q b : Nat} {s : MachS} {fs : List FrameS} {f : FrameS} (h : Has σ M w) (hT : AtTop K M lab p s t q b fs f) (hfs : fs.length < 1000000) {lv sl fd k : Nat} {v : Int} (h4 : f.r 4 = (sl : Int)) (hsl : sl < 256) (hat : f.at_ = (k : Int)) (hk : k < 1000) (hlv : levelOf s.c (t : Nat) = (lv : Nat)) (hlc : (lv : Int) < s.c 0) (hin : InK s.c 9 (sl : Nat) (fd : Nat)) (hb1 : s.mem.acc < 1000000000) (hb2 : s.mem.wr < 1000000000) :
  Calls Tryz.prog 115 #[.pointer (some ⟨p, 0, none⟩), .int .i64 (t : Nat), .int .i64 (fd : Nat), .int .u64 v] w fun r w' => r = .returned (.tuple #[]) ∧ ∃ M' lab', Has σ M' w' ∧ AtTop K M' lab' p (MachS.top { s with mem := s.mem.store (atK s.c lv 9 (sl : Nat) (fd : Nat)) v } t fs (f.goto (k + 1 : Nat))) t q b fs (f.goto (k + 1 : Nat)) := by
 obtain ⟨fv, hv, fbs, hTh⟩ := hT.thr
 have hlen : fbs.length = fs.length := by
  have h1 := hTh.flen
  rw [hT.fr] at h1
  simpa using h1
 have TH := Lib.hid (fun (w : World) (h : Has σ M w) => mThread_yes h hT.mach hT.tp)
 have TP := Lib.hid (fun (w : World) (h : Has σ M w) => thrTop_eq h hTh (by omega))
 have hfb := hT.obj
 have f1 : f.row[1]? = some (.int .i64 (k : Nat)) := by rw [← hat]; rfl
 have f6 : f.row[6]? = some (.int .u64 (sl : Nat)) := by rw [← h4]; rfl
 have us : IntKind.i64.wrap ((sl : Nat) : Int) = ((sl : Nat) : Int) := IntWalk.i64_in _ (by omega)
 have uk : IntKind.i64.wrap ((k : Int) + 1) = ((k + 1 : Nat) : Int) := by rw [show (k : Int) + 1 = ((k + 1 : Nat) : Int) by omega]; exact IntWalk.i64_in _ (by omega)
 have SPA := spotAt_of (σ := σ) hT.mach hlv hlc hin
 obtain ⟨a, ha⟩ : ∃ a, atK s.c lv 9 (sl : Nat) (fd : Nat) = a := ⟨_, rfl⟩
 rw [ha] at SPA ⊢
 have SP := Lib.hid (fun (w : World) (h : Has σ M w) => SPA M w (Mm.le_refl _) h)
 have ME := Lib.hid (fun (w : World) (h : Has σ M w) => mMem_eq h hT.mach)
 have SE := Lib.hid (fun (w : World) (h : Has σ M w) => memStore_eq h hT.mach.mem hb1 hb2 a v)
 have hT2 := hT.store a v
 have KL := Mm.upd_le2 hT.base.le hT.obj
 have KE := Mm.upd_le2 hT2.base.le hT2.obj
 have hfK : (K.upd b (.cells f.row 69)) b = some (.cells f.row 69) := Mm.upd_same _ _ _
 obtain ⟨hfb2, hT3⟩ := hT2.frame (f.goto (k + 1 : Nat))
 have HT := Lib.hid hT3
 have hsz : 1 < f.row.size := show 1 < 18 by omega
 have R1 := Lib.hid (row_goto f (k + 1 : Nat))
 clear hT hTh hT2 hT3 hb1 hb2 hlv hlc hin ha hat h4 hlen hfs SPA
 generalize hr0 : f.row = fr0 at *
 generalize hr1 : (f.goto (k + 1 : Nat)).row = fr1 at *
 clear hr0 hr1
 generalize K.upd b _ = K1 at KL KE hfK
 generalize storeM M s.mp s.mem a v = M2 at *
 generalize k + 1 = k1 at *
 go_enter Tryz.func115, Tryz.ntmps115
 go_upto_region 1 with (first
  | (go_at_call 13; refine (TH.out _ h).mono ?_; clear h; rintro _ w ⟨rfl, h⟩)
  | (go_at_call 32; refine (TP.out _ h).mono ?_; clear h; rintro _ w ⟨rfl, h⟩))
 refine wp_region_held_drew (S := Has σ (K1)) (by kernel_rfl) (h.drew.le KL) (fun hHeld => ?_)
 refine wpAnyH_take (i := 0) (v := ?_) rfl (by kernel_rfl) (by kernel_rfl) (by kernel_rfl) (fun _ _ _ h => h) (Or.inl ⟨by rfl, ?_⟩) hHeld ?_
 rotate_left
 ·(intro wz _; go_simp; try with_reducible rfl)
 try simp only [List.getElem_toArray, List.getElem_cons_succ, List.getElem_cons_zero, Act.put, List.setIfInBounds_toArray, List.set_cons_zero, List.set_cons_succ]
 refine wpAnyH_take (i := 2) (v := ?_) rfl (by kernel_rfl) (by kernel_rfl) (by kernel_rfl) (fun _ _ _ h => h) (Or.inl ⟨by rfl, ?_⟩) hHeld ?_
 rotate_left
 ·(intro wz _; go_simp; try with_reducible rfl)
 try simp only [List.getElem_toArray, List.getElem_cons_succ, List.getElem_cons_zero, Act.put, List.setIfInBounds_toArray, List.set_cons_zero, List.set_cons_succ]
 refine wpAnyH_take (i := 3) (v := ?_) rfl (by kernel_rfl) (by kernel_rfl) (by kernel_rfl) (fun _ _ _ h => h) (Or.inl ⟨by rfl, ?_⟩) hHeld ?_
 rotate_left
 ·(intro wz _; go_simp; try with_reducible rfl)
 try simp only [List.getElem_toArray, List.getElem_cons_succ, List.getElem_cons_zero, Act.put, List.setIfInBounds_toArray, List.set_cons_zero, List.set_cons_succ]
 refine wpAnyH_take (i := 4) (v := ?_) rfl (by kernel_rfl) (by kernel_rfl) (by kernel_rfl) (fun _ _ _ h => h) (Or.inl ⟨by rfl, ?_⟩) hHeld ?_
 rotate_left
 ·(intro wz _; go_simp; try with_reducible rfl)
 try simp only [List.getElem_toArray, List.getElem_cons_succ, List.getElem_cons_zero, Act.put, List.setIfInBounds_toArray, List.set_cons_zero, List.set_cons_succ]
 refine wpAnyH_take (i := 5) (v := ?_) rfl (by kernel_rfl) (by kernel_rfl) (by kernel_rfl) (fun _ _ _ h => h) (Or.inl ⟨by rfl, ?_⟩) hHeld ?_
 rotate_left
 ·(intro wz _; go_simp; try with_reducible rfl)
 try simp only [List.getElem_toArray, List.getElem_cons_succ, List.getElem_cons_zero, Act.put, List.setIfInBounds_toArray, List.set_cons_zero, List.set_cons_succ]
 refine wpAnyH_take (i := 6) (v := ?_) rfl (by kernel_rfl) (by kernel_rfl) (by kernel_rfl) (fun _ _ _ h => h) (Or.inl ⟨by rfl, ?_⟩) hHeld ?_
 rotate_left
 ·(intro wz _; go_simp; try with_reducible rfl)
 try simp only [List.getElem_toArray, List.getElem_cons_succ, List.getElem_cons_zero, Act.put, List.setIfInBounds_toArray, List.set_cons_zero, List.set_cons_succ]
 refine wpAnyH_take (i := 7) (v := ?_) rfl (by kernel_rfl) (by kernel_rfl) (by kernel_rfl) (fun _ _ _ h => h) (Or.inl ⟨by rfl, ?_⟩) hHeld ?_
 rotate_left
 ·(intro wz _; go_simp; try with_reducible rfl)
 try simp only [List.getElem_toArray, List.getElem_cons_succ, List.getElem_cons_zero, Act.put, List.setIfInBounds_toArray, List.set_cons_zero, List.set_cons_succ]
 refine wpAnyH_take (i := 8) (v := _) rfl (by kernel_rfl) (by kernel_rfl) (by kernel_rfl) (fun _ _ _ h => h) (yields_load1 rfl 42 _ rfl rfl hfK f6 Tryz.underlying42 rfl) hHeld ?_
 try simp only [List.getElem_toArray, List.getElem_cons_succ, List.getElem_cons_zero, Act.put, List.setIfInBounds_toArray, List.set_cons_zero, List.set_cons_succ]
 refine wpAnyH_take (i := 9) (v := ?_) rfl (by kernel_rfl) (by kernel_rfl) (by kernel_rfl) (fun _ _ _ h => h) (Or.inl ⟨by rfl, ?_⟩) hHeld ?_
 rotate_left
 ·(intro wz _; go_simp; try with_reducible rfl)
 try simp only [List.getElem_toArray, List.getElem_cons_succ, List.getElem_cons_zero, Act.put, List.setIfInBounds_toArray, List.set_cons_zero, List.set_cons_succ]
 refine wpAnyH_take (i := 10) (v := ?_) rfl (by kernel_rfl) (by kernel_rfl) (by kernel_rfl) (fun _ _ _ h => h) (Or.inl ⟨by rfl, ?_⟩) hHeld ?_
 rotate_left
 ·(intro wz _; go_simp; try with_reducible rfl)
 try simp only [List.getElem_toArray, List.getElem_cons_succ, List.getElem_cons_zero, Act.put, List.setIfInBounds_toArray, List.set_cons_zero, List.set_cons_succ]
 refine wpAnyH_take (i := 11) (v := ?_) rfl (by kernel_rfl) (by kernel_rfl) (by kernel_rfl) (fun _ _ _ h => h) (Or.inl ⟨by rfl, ?_⟩) hHeld ?_
 rotate_left
 ·(intro wz _; go_simp; try with_reducible rfl)
 try simp only [List.getElem_toArray, List.getElem_cons_succ, List.getElem_cons_zero, Act.put, List.setIfInBounds_toArray, List.set_cons_zero, List.set_cons_succ]
 refine wpAnyH_take (i := 13) (v := ?_) rfl (by kernel_rfl) (by kernel_rfl) (by kernel_rfl) (fun _ _ _ h => h) (Or.inl ⟨by rfl, ?_⟩) hHeld ?_
 rotate_left
 ·(intro wz _; go_simp; try with_reducible rfl)
 try simp only [List.getElem_toArray, List.getElem_cons_succ, List.getElem_cons_zero, Act.put, List.setIfInBounds_toArray, List.set_cons_zero, List.set_cons_succ]
 replace h := h.drew
 generalize w.drew = w1 at h hHeld ⊢
 clear w
 obtain ⟨w, rfl⟩ : ∃ q : World, q = w1 := ⟨_, rfl⟩
 refine wpAnyH_ready (rs := [1]) (by kernel_rfl) (by simp) ?_
 refine AllReadyH.cons rfl (fun K hK => ?_) AllReadyH.nil
 (go_simp; go_wp2_with (go_at_call 46; refine (ME.out _ h).mono ?_; clear h; rintro _ w ⟨rfl, h⟩))
 refine hK.out _ _ (h.le KL) (fun hHeld => ?_)
 clear hK K
 try simp only [Act.put, List.setIfInBounds_toArray, List.set_cons_zero, List.set_cons_succ]
 refine wpAnyH_ready (rs := [12]) (by kernel_rfl) (by simp) ?_
 refine AllReadyH.cons rfl (fun K hK => ?_) AllReadyH.nil
 (go_simp; go_wp2_with (go_at_call 120; refine (SP.out _ h).mono ?_; clear h; rintro _ w ⟨rfl, h⟩))
 refine hK.out _ _ (h.le KL) (fun hHeld => ?_)
 clear hK K
 try simp only [Act.put, List.setIfInBounds_toArray, List.set_cons_zero, List.set_cons_succ]
 refine wpAnyH_ready (rs := [14]) (by kernel_rfl) (by simp) ?_
 refine AllReadyH.cons rfl (fun K hK => ?_) AllReadyH.nil
 (go_simp; go_wp2_with (go_at_call 97; refine (SE.out _ h).mono ?_; clear h; rintro _ w ⟨rfl, h⟩))
 refine hK.out _ _ (h.le KE) (fun hHeld => ?_)
 clear hK K
 try simp only [Act.put, List.setIfInBounds_toArray, List.set_cons_zero, List.set_cons_succ]
 refine wpAnyH_done (by kernel_rfl) ?_ _
 clear hHeld
 have f1' : fr0[1]? = some (.int .i64 (k : Nat)) := f1
 go_wp2_with (first
  | (with_reducible show wpList _ _ _ ({ dst := _, op := Op.load 3 _, type := _, pos := _, after := _, guard := _ } :: _) _ _; refine wpList_load1_has h rfl 3 _ rfl rfl hfb2 f1 Tryz.underlying3 rfl ?_)
  | (with_reducible show wpList _ _ _ ({ dst := _, op := Op.store 3 _ _, type := _, pos := _, after := _, guard := _ } :: _) _ _; refine wpList_store1_has h rfl 3 _ _ rfl rfl rfl hfb2 hsz rfl (by kernel_rfl) ?_; clear h; intro w h))
 go_end0
 refine ⟨rfl, _, _, ?_, HT.out⟩
 have h0 : Has σ (M2.upd b (.cells (fr0.setIfInBounds 1 (.int .i64 k1)) 69)) w := h
 rw [R1.out] at h0
 exact h0
set_option maxHeartbeats 4000000 in
set_option maxRecDepth 20000 in
theorem mint_2 {σ w : World} {K M : Mm} {lab : Nat → Nat} {p t q b : Nat} {s : MachS} {fs : List FrameS} {f : FrameS} (h : Has σ M w) (hT : AtTop K M lab p s t q b fs f) (hfs : fs.length < 1000000) {lv sl : Nat} (h4 : f.r 4 = (sl : Int)) (hsl : sl < 256) (hlv : levelOf s.c (t : Nat) = (lv : Nat)) (hlc : (lv : Int) < s.c 0) (hb1 : s.mem.acc < 1000000000) (hb2 : s.mem.wr < 1000000000) (hat : f.at_ = 2) (hin : InK s.c 9 (sl : Nat) (2 : Nat)) :
  Calls Tryz.prog 82 #[.pointer (some ⟨p, 0, none⟩), .int .i64 (t : Nat)] w fun r w' => r = .returned (.tuple #[]) ∧ ∃ M' lab', Has σ M' w' ∧ AtTop K M' lab' p (MachS.top { s with mem := s.mem.store (atK s.c lv 9 (sl : Nat) ((2 : Nat) : Int)) (f.r 1) } t fs (f.goto (2 + 1 : Nat))) t q b fs (f.goto (2 + 1 : Nat)) := by
 obtain ⟨fv, hv, fbs, hTh⟩ := hT.thr
 have hlen : fbs.length = fs.length := by
  have h1 := hTh.flen
  rw [hT.fr] at h1
  simpa using h1
 have TH := Lib.hid (fun (w : World) (h : Has σ M w) => mThread_yes h hT.mach hT.tp)
 have TP := Lib.hid (fun (w : World) (h : Has σ M w) => thrTop_eq h hTh (by omega))
 have hfb := hT.obj
 have f1 : f.row[1]? = some (.int .i64 2) := by rw [← hat]; rfl
 have fv' : f.row[3]? = some (.int .u64 (f.r (3 - 2))) := rfl
 have WR : Hid (∀ w, Has σ M w → Calls Tryz.prog 115 #[.pointer (some ⟨p, 0, none⟩), .int .i64 (t : Nat), .int .i64 2, .int .u64 (f.r 1)] w fun r w' => r = .returned (.tuple #[]) ∧ ∃ M' lab', Has σ M' w' ∧ AtTop K M' lab' p (MachS.top { s with mem := s.mem.store (atK s.c lv 9 (sl : Nat) ((2 : Nat) : Int)) (f.r 1) } t fs (f.goto (2 + 1 : Nat))) t q b fs (f.goto (2 + 1 : Nat))) := Lib.hid fun w h => mint_write h hT hfs (k := 2) (fd := 2) h4 hsl hat (by omega) hlv hlc hin hb1 hb2
 clear hT hTh hb1 hb2 hlv hlc hin hat h4 hlen hfs
 generalize f.row = fr0 at *
 go_enter Tryz.func82, Tryz.ntmps82
 go_wp2_with (first
  | (go_at_call 13; refine (TH.out _ h).mono ?_; clear h; rintro _ w ⟨rfl, h⟩)
  | (go_at_call 32; refine (TP.out _ h).mono ?_; clear h; rintro _ w ⟨rfl, h⟩)
  | (with_reducible show wpList _ _ _ ({ dst := _, op := Op.load 3 _, type := _, pos := _, after := _, guard := _ } :: _) _ _; refine wpList_load1_has h rfl 3 _ rfl rfl hfb f1 Tryz.underlying3 rfl ?_)
  | (with_reducible show wpList _ _ _ ({ dst := _, op := Op.load 42 _, type := _, pos := _, after := _, guard := _ } :: _) _ _; refine wpList_load1_has h rfl 42 _ rfl rfl hfb fv' Tryz.underlying42 rfl ?_)
  | (go_at_call 115; refine (WR.out _ h).mono ?_; clear h; rintro _ w ⟨rfl, M2, lab2, h, hT2⟩))
 go_end0
 exact ⟨rfl, M2, lab2, h, hT2⟩
set_option maxHeartbeats 4000000 in
set_option maxRecDepth 20000 in
theorem mint_3 {σ w : World} {K M : Mm} {lab : Nat → Nat} {p t q b : Nat} {s : MachS} {fs : List FrameS} {f : FrameS} (h : Has σ M w) (hT : AtTop K M lab p s t q b fs f) (hfs : fs.length < 1000000) {lv sl : Nat} (h4 : f.r 4 = (sl : Int)) (hsl : sl < 256) (hlv : levelOf s.c (t : Nat) = (lv : Nat)) (hlc : (lv : Int) < s.c 0) (hb1 : s.mem.acc < 1000000000) (hb2 : s.mem.wr < 1000000000) (hat : f.at_ = 3) (hin : InK s.c 9 (sl : Nat) (3 : Nat)) :
  Calls Tryz.prog 82 #[.pointer (some ⟨p, 0, none⟩), .int .i64 (t : Nat)] w fun r w' => r = .returned (.tuple #[]) ∧ ∃ M' lab', Has σ M' w' ∧ AtTop K M' lab' p (MachS.top { s with mem := s.mem.store (atK s.c lv 9 (sl : Nat) ((3 : Nat) : Int)) (f.r 2) } t fs (f.goto (3 + 1 : Nat))) t q b fs (f.goto (3 + 1 : Nat)) := by
 obtain ⟨fv, hv, fbs, hTh⟩ := hT.thr
 have hlen : fbs.length = fs.length := by
  have h1 := hTh.flen
  rw [hT.fr] at h1
  simpa using h1
 have TH := Lib.hid (fun (w : World) (h : Has σ M w) => mThread_yes h hT.mach hT.tp)
 have TP := Lib.hid (fun (w : World) (h : Has σ M w) => thrTop_eq h hTh (by omega))
 have hfb := hT.obj
 have f1 : f.row[1]? = some (.int .i64 3) := by rw [← hat]; rfl
 have fv' : f.row[4]? = some (.int .u64 (f.r (4 - 2))) := rfl
 have WR : Hid (∀ w, Has σ M w → Calls Tryz.prog 115 #[.pointer (some ⟨p, 0, none⟩), .int .i64 (t : Nat), .int .i64 3, .int .u64 (f.r 2)] w fun r w' => r = .returned (.tuple #[]) ∧ ∃ M' lab', Has σ M' w' ∧ AtTop K M' lab' p (MachS.top { s with mem := s.mem.store (atK s.c lv 9 (sl : Nat) ((3 : Nat) : Int)) (f.r 2) } t fs (f.goto (3 + 1 : Nat))) t q b fs (f.goto (3 + 1 : Nat))) := Lib.hid fun w h => mint_write h hT hfs (k := 3) (fd := 3) h4 hsl hat (by omega) hlv hlc hin hb1 hb2
 clear hT hTh hb1 hb2 hlv hlc hin hat h4 hlen hfs
 generalize f.row = fr0 at *
 go_enter Tryz.func82, Tryz.ntmps82
 go_wp2_with (first
  | (go_at_call 13; refine (TH.out _ h).mono ?_; clear h; rintro _ w ⟨rfl, h⟩)
  | (go_at_call 32; refine (TP.out _ h).mono ?_; clear h; rintro _ w ⟨rfl, h⟩)
  | (with_reducible show wpList _ _ _ ({ dst := _, op := Op.load 3 _, type := _, pos := _, after := _, guard := _ } :: _) _ _; refine wpList_load1_has h rfl 3 _ rfl rfl hfb f1 Tryz.underlying3 rfl ?_)
  | (with_reducible show wpList _ _ _ ({ dst := _, op := Op.load 42 _, type := _, pos := _, after := _, guard := _ } :: _) _ _; refine wpList_load1_has h rfl 42 _ rfl rfl hfb fv' Tryz.underlying42 rfl ?_)
  | (go_at_call 115; refine (WR.out _ h).mono ?_; clear h; rintro _ w ⟨rfl, M2, lab2, h, hT2⟩))
 go_end0
 exact ⟨rfl, M2, lab2, h, hT2⟩
set_option maxHeartbeats 4000000 in
set_option maxRecDepth 20000 in
theorem mint_4 {σ w : World} {K M : Mm} {lab : Nat → Nat} {p t q b : Nat} {s : MachS} {fs : List FrameS} {f : FrameS} (h : Has σ M w) (hT : AtTop K M lab p s t q b fs f) (hfs : fs.length < 1000000) {lv sl : Nat} (h4 : f.r 4 = (sl : Int)) (hsl : sl < 256) (hlv : levelOf s.c (t : Nat) = (lv : Nat)) (hlc : (lv : Int) < s.c 0) (hb1 : s.mem.acc < 1000000000) (hb2 : s.mem.wr < 1000000000) (hat : f.at_ = 4) (hin : InK s.c 9 (sl : Nat) (4 : Nat)) :
  Calls Tryz.prog 82 #[.pointer (some ⟨p, 0, none⟩), .int .i64 (t : Nat)] w fun r w' => r = .returned (.tuple #[]) ∧ ∃ M' lab', Has σ M' w' ∧ AtTop K M' lab' p (MachS.top { s with mem := s.mem.store (atK s.c lv 9 (sl : Nat) ((4 : Nat) : Int)) (f.r 3) } t fs (f.goto (4 + 1 : Nat))) t q b fs (f.goto (4 + 1 : Nat)) := by
 obtain ⟨fv, hv, fbs, hTh⟩ := hT.thr
 have hlen : fbs.length = fs.length := by
  have h1 := hTh.flen
  rw [hT.fr] at h1
  simpa using h1
 have TH := Lib.hid (fun (w : World) (h : Has σ M w) => mThread_yes h hT.mach hT.tp)
 have TP := Lib.hid (fun (w : World) (h : Has σ M w) => thrTop_eq h hTh (by omega))
 have hfb := hT.obj
 have f1 : f.row[1]? = some (.int .i64 4) := by rw [← hat]; rfl
 have fv' : f.row[5]? = some (.int .u64 (f.r (5 - 2))) := rfl
 have WR : Hid (∀ w, Has σ M w → Calls Tryz.prog 115 #[.pointer (some ⟨p, 0, none⟩), .int .i64 (t : Nat), .int .i64 4, .int .u64 (f.r 3)] w fun r w' => r = .returned (.tuple #[]) ∧ ∃ M' lab', Has σ M' w' ∧ AtTop K M' lab' p (MachS.top { s with mem := s.mem.store (atK s.c lv 9 (sl : Nat) ((4 : Nat) : Int)) (f.r 3) } t fs (f.goto (4 + 1 : Nat))) t q b fs (f.goto (4 + 1 : Nat))) := Lib.hid fun w h => mint_write h hT hfs (k := 4) (fd := 4) h4 hsl hat (by omega) hlv hlc hin hb1 hb2
 clear hT hTh hb1 hb2 hlv hlc hin hat h4 hlen hfs
 generalize f.row = fr0 at *
 go_enter Tryz.func82, Tryz.ntmps82
 go_wp2_with (first
  | (go_at_call 13; refine (TH.out _ h).mono ?_; clear h; rintro _ w ⟨rfl, h⟩)
  | (go_at_call 32; refine (TP.out _ h).mono ?_; clear h; rintro _ w ⟨rfl, h⟩)
  | (with_reducible show wpList _ _ _ ({ dst := _, op := Op.load 3 _, type := _, pos := _, after := _, guard := _ } :: _) _ _; refine wpList_load1_has h rfl 3 _ rfl rfl hfb f1 Tryz.underlying3 rfl ?_)
  | (with_reducible show wpList _ _ _ ({ dst := _, op := Op.load 42 _, type := _, pos := _, after := _, guard := _ } :: _) _ _; refine wpList_load1_has h rfl 42 _ rfl rfl hfb fv' Tryz.underlying42 rfl ?_)
  | (go_at_call 115; refine (WR.out _ h).mono ?_; clear h; rintro _ w ⟨rfl, M2, lab2, h, hT2⟩))
 go_end0
 exact ⟨rfl, M2, lab2, h, hT2⟩
set_option maxHeartbeats 4000000 in
set_option maxRecDepth 20000 in
theorem mint_5 {σ w : World} {K M : Mm} {lab : Nat → Nat} {p t q b : Nat} {s : MachS} {fs : List FrameS} {f : FrameS} (h : Has σ M w) (hT : AtTop K M lab p s t q b fs f) (hfs : fs.length < 1000000) {lv sl : Nat} (h4 : f.r 4 = (sl : Int)) (hsl : sl < 256) (hlv : levelOf s.c (t : Nat) = (lv : Nat)) (hlc : (lv : Int) < s.c 0) (hb1 : s.mem.acc < 1000000000) (hb2 : s.mem.wr < 1000000000) (hat : f.at_ = 5) (hin : InK s.c 9 (sl : Nat) (1 : Nat)) :
  Calls Tryz.prog 82 #[.pointer (some ⟨p, 0, none⟩), .int .i64 (t : Nat)] w fun r w' => r = .returned (.tuple #[]) ∧ ∃ M' lab', Has σ M' w' ∧ AtTop K M' lab' p (MachS.top { s with mem := s.mem.store (atK s.c lv 9 (sl : Nat) ((1 : Nat) : Int)) 0 } t fs (f.goto (5 + 1 : Nat))) t q b fs (f.goto (5 + 1 : Nat)) := by
 obtain ⟨fv, hv, fbs, hTh⟩ := hT.thr
 have hlen : fbs.length = fs.length := by
  have h1 := hTh.flen
  rw [hT.fr] at h1
  simpa using h1
 have TH := Lib.hid (fun (w : World) (h : Has σ M w) => mThread_yes h hT.mach hT.tp)
 have TP := Lib.hid (fun (w : World) (h : Has σ M w) => thrTop_eq h hTh (by omega))
 have hfb := hT.obj
 have f1 : f.row[1]? = some (.int .i64 5) := by rw [← hat]; rfl
 have fv' : f.row[2]? = some (.int .u64 (f.r (2 - 2))) := rfl
 have WR : Hid (∀ w, Has σ M w → Calls Tryz.prog 115 #[.pointer (some ⟨p, 0, none⟩), .int .i64 (t : Nat), .int .i64 1, .int .u64 0] w fun r w' => r = .returned (.tuple #[]) ∧ ∃ M' lab', Has σ M' w' ∧ AtTop K M' lab' p (MachS.top { s with mem := s.mem.store (atK s.c lv 9 (sl : Nat) ((1 : Nat) : Int)) 0 } t fs (f.goto (5 + 1 : Nat))) t q b fs (f.goto (5 + 1 : Nat))) := Lib.hid fun w h => mint_write h hT hfs (k := 5) (fd := 1) h4 hsl hat (by omega) hlv hlc hin hb1 hb2
 clear hT hTh hb1 hb2 hlv hlc hin hat h4 hlen hfs
 generalize f.row = fr0 at *
 go_enter Tryz.func82, Tryz.ntmps82
 go_wp2_with (first
  | (go_at_call 13; refine (TH.out _ h).mono ?_; clear h; rintro _ w ⟨rfl, h⟩)
  | (go_at_call 32; refine (TP.out _ h).mono ?_; clear h; rintro _ w ⟨rfl, h⟩)
  | (with_reducible show wpList _ _ _ ({ dst := _, op := Op.load 3 _, type := _, pos := _, after := _, guard := _ } :: _) _ _; refine wpList_load1_has h rfl 3 _ rfl rfl hfb f1 Tryz.underlying3 rfl ?_)
  | (with_reducible show wpList _ _ _ ({ dst := _, op := Op.load 42 _, type := _, pos := _, after := _, guard := _ } :: _) _ _; refine wpList_load1_has h rfl 42 _ rfl rfl hfb fv' Tryz.underlying42 rfl ?_)
  | (go_at_call 115; refine (WR.out _ h).mono ?_; clear h; rintro _ w ⟨rfl, M2, lab2, h, hT2⟩))
 go_end0
 exact ⟨rfl, M2, lab2, h, hT2⟩
set_option maxHeartbeats 4000000 in
set_option maxRecDepth 20000 in
theorem mint_6 {σ w : World} {K M : Mm} {lab : Nat → Nat} {p t q b : Nat} {s : MachS} {fs : List FrameS} {f : FrameS} (h : Has σ M w) (hT : AtTop K M lab p s t q b fs f) (hfs : fs.length < 1000000) {lv sl : Nat} (h4 : f.r 4 = (sl : Int)) (hsl : sl < 256) (hlv : levelOf s.c (t : Nat) = (lv : Nat)) (hlc : (lv : Int) < s.c 0) (hb1 : s.mem.acc < 1000000000) (hb2 : s.mem.wr < 1000000000) (hat : f.at_ = 6) (hin : InK s.c 9 (sl : Nat) (0 : Nat)) {gn st : Nat} (h5 : f.r 5 = (gn : Int)) (h0 : f.r 0 = (st : Int)) (hg : gn < 4294967296) (hs : st < 256) :
  Calls Tryz.prog 82 #[.pointer (some ⟨p, 0, none⟩), .int .i64 (t : Nat)] w fun r w' => r = .returned (.tuple #[]) ∧ ∃ M' lab', Has σ M' w' ∧ AtTop K M' lab' p (MachS.top { s with mem := s.mem.store (atK s.c lv 9 (sl : Nat) ((0 : Nat) : Int)) (mkHead gn st : Nat) } t fs (f.goto (6 + 1 : Nat))) t q b fs (f.goto (6 + 1 : Nat)) := by
 obtain ⟨fv, hv, fbs, hTh⟩ := hT.thr
 have hlen : fbs.length = fs.length := by
  have h1 := hTh.flen
  rw [hT.fr] at h1
  simpa using h1
 have TH := Lib.hid (fun (w : World) (h : Has σ M w) => mThread_yes h hT.mach hT.tp)
 have TP := Lib.hid (fun (w : World) (h : Has σ M w) => thrTop_eq h hTh (by omega))
 have hfb := hT.obj
 have f1 : f.row[1]? = some (.int .i64 6) := by rw [← hat]; rfl
 have f2 : f.row[2]? = some (.int .u64 (st : Nat)) := by rw [← h0]; rfl
 have f7 : f.row[7]? = some (.int .u64 (gn : Nat)) := by rw [← h5]; rfl
 have u1 : IntKind.i64.wrap ((gn : Nat) : Int) = ((gn : Nat) : Int) := IntWalk.i64_in _ (by omega)
 have u2 : IntKind.i64.wrap ((st : Nat) : Int) = ((st : Nat) : Int) := IntWalk.i64_in _ (by omega)
 have HH : Hid (∀ w, Has σ M w → Calls Tryz.prog 89 #[.int .i64 (gn : Nat), .int .i64 (st : Nat)] w fun r w' => r = .returned (.int .u64 (mkHead gn st : Nat)) ∧ Has σ M w') := Lib.hid fun w h => (handleHead_any gn st (by omega) (by omega) w).mono fun r w' ⟨e1, e2⟩ => ⟨e1, e2 ▸ h⟩
 have WR : Hid (∀ w, Has σ M w → Calls Tryz.prog 115 #[.pointer (some ⟨p, 0, none⟩), .int .i64 (t : Nat), .int .i64 0, .int .u64 (mkHead gn st : Nat)] w fun r w' => r = .returned (.tuple #[]) ∧ ∃ M' lab', Has σ M' w' ∧ AtTop K M' lab' p (MachS.top { s with mem := s.mem.store (atK s.c lv 9 (sl : Nat) ((0 : Nat) : Int)) (mkHead gn st : Nat) } t fs (f.goto (6 + 1 : Nat))) t q b fs (f.goto (6 + 1 : Nat))) := Lib.hid fun w h => mint_write h hT hfs (k := 6) (fd := 0) h4 hsl hat (by omega) hlv hlc hin hb1 hb2
 clear hT hTh hb1 hb2 hlv hlc hin hat h4 hlen hfs h5 h0 hg hs
 generalize f.row = fr0 at *
 generalize mkHead gn st = hd at *
 go_enter Tryz.func82, Tryz.ntmps82
 go_upto_region 21 with (first
  | (go_at_call 13; refine (TH.out _ h).mono ?_; clear h; rintro _ w ⟨rfl, h⟩)
  | (go_at_call 32; refine (TP.out _ h).mono ?_; clear h; rintro _ w ⟨rfl, h⟩)
  | (with_reducible show wpList _ _ _ ({ dst := _, op := Op.load 3 _, type := _, pos := _, after := _, guard := _ } :: _) _ _; refine wpList_load1_has h rfl 3 _ rfl rfl hfb f1 Tryz.underlying3 rfl ?_))
 refine wp_region_head (Has σ M) 15 (by kernel_rfl) (by kernel_rfl) (fun _ _ _ _ _ h => h) h.drew ?_
 clear h
 simp only [List.take_succ_cons, List.take_zero, List.drop_succ_cons, List.drop_zero]
 repeat (first
  | go_big_quiet_skip
  | (go_big_quiet_want; first
   | (refine quiet_load_has 42 _ rfl rfl hfb f7 Tryz.underlying42 rfl ?_; simp only [Act.put, List.setIfInBounds_toArray, List.set_cons_zero, List.set_cons_succ]; go_big_quiet_on)
   | (refine quiet_load_has 42 _ rfl rfl hfb f2 Tryz.underlying42 rfl ?_; simp only [Act.put, List.setIfInBounds_toArray, List.set_cons_zero, List.set_cons_succ]; go_big_quiet_on)
   | (go_big_quiet_op; first | go_big_quiet_on | go_big_quiet_call (first | with_reducible exact fun _ => rfl | with_reducible exact HH.out _))))
 refine wpQuiet_nil ?_
 try clear w
 intro w h
 go_wp2_with (first
  | (go_at_call 115; refine (WR.out _ h).mono ?_; clear h; rintro _ w ⟨rfl, M2, lab2, h, hT2⟩))
 go_end0
 exact ⟨rfl, M2, lab2, h, hT2⟩
set_option maxHeartbeats 4000000 in
set_option maxRecDepth 20000 in
/-- Mint begins to take a slot. -/
theorem mint_0 {σ w : World} {K M : Mm} {lab : Nat → Nat} {p t q b : Nat} {s : MachS} {fs : List FrameS} {f : FrameS} (h : Has σ M w) (hT : AtTop K M lab p s t q b fs f) (hfs : fs.length < 1000000) (hfs2 : fs.length + 1 < 1000000) (hat : f.at_ = 0) :
  Calls Tryz.prog 82 #[.pointer (some ⟨p, 0, none⟩), .int .i64 (t : Nat)] w fun r w' => r = .returned (.tuple #[]) ∧ ∃ M' lab', Has σ M' w' ∧ Mach M' lab' p ((s.top t fs (f.goto 1)).begun t 1 []) ∧ Base K M' lab' := by
 obtain ⟨fv, hv, fbs, hTh⟩ := hT.thr
 have hlen : fbs.length = fs.length := by
  have h1 := hTh.flen
  rw [hT.fr] at h1
  simpa using h1
 have TH := Lib.hid (fun (w : World) (h : Has σ M w) => mThread_yes h hT.mach hT.tp)
 have TP := Lib.hid (fun (w : World) (h : Has σ M w) => thrTop_eq h hTh (by omega))
 have hfb := hT.obj
 have f1 : f.row[1]? = some (.int .i64 0) := by rw [← hat]; rfl
 obtain ⟨hfb2, hT3⟩ := hT.frame (f.goto 1)
 have CL := Lib.hid (fun (w : World) (h : Has σ (M.upd b (.cells (f.goto 1).row 69)) w) => atTop_call h hT3 hfs2 1 (rv := .slice none 0 0) (us := []) (Rd.nil _ _ _) (by simp))
 have hsz : 1 < f.row.size := show 1 < 18 by omega
 have R1 := Lib.hid (row_goto f 1)
 clear hT hTh hT3 hat hlen hfs
 generalize f.row = fr0 at *
 generalize (f.goto 1).row = fr1 at *
 go_enter Tryz.func82, Tryz.ntmps82
 go_upto_region 6 with (first
  | (go_at_call 13; refine (TH.out _ h).mono ?_; clear h; rintro _ w ⟨rfl, h⟩)
  | (go_at_call 32; refine (TP.out _ h).mono ?_; clear h; rintro _ w ⟨rfl, h⟩)
  | (with_reducible show wpList _ _ _ ({ dst := _, op := Op.load 3 _, type := _, pos := _, after := _, guard := _ } :: _) _ _; refine wpList_load1_has h rfl 3 _ rfl rfl hfb f1 Tryz.underlying3 rfl ?_)
  | (with_reducible show wpList _ _ _ ({ dst := _, op := Op.store 3 _ _, type := _, pos := _, after := _, guard := _ } :: _) _ _; refine wpList_store1_has h rfl 3 _ _ rfl rfl rfl hfb hsz rfl (by kernel_rfl) ?_; clear h; intro w h))
 have h0 : Has σ (M.upd b (.cells (fr0.setIfInBounds 1 (.int .i64 1)) 69)) w := h
 rw [R1.out] at h0
 clear h
 have h := h0
 go_wp2_with (first
  | ((go_at_call 34; refine (CL.out _ h).mono ?_; clear h; rintro _ w ⟨rfl, M2, lab2, h, hM2, hB2⟩)))
 go_end0
 exact ⟨rfl, M2, lab2, h, hM2, hB2⟩
set_option maxHeartbeats 4000000 in
set_option maxRecDepth 20000 in
theorem mint_1any {σ w : World} {K M : Mm} {lab : Nat → Nat} {p t q b : Nat} {s : MachS} {fs : List FrameS} {f : FrameS} (h : Has σ M w) (hT : AtTop K M lab p s t q b fs f) (hfs : fs.length < 1000000) (hat : f.at_ = 1) {a0 a1 : Nat} (ht0 : (s.thr t).told 0 = (a0 : Int)) (ht1 : (s.thr t).told 1 = (a1 : Int)) {Q : Ending → World → Prop} (hQ0 : a0 = 0 → ∀ r w', (r = .returned (.tuple #[]) ∧ ∃ M' lab', Has σ M' w' ∧ Mach M' lab' p (MachS.backed (s.top t fs (((f.reg 4 a0).reg 5 a1).goto 2)) t [0]) ∧ Base K M' lab') → Q r w') (hQ1 : a0 ≠ 0 → ∀ r w', (r = .returned (.tuple #[]) ∧ ∃ M' lab', Has σ M' w' ∧ AtTop K M' lab' p (s.top t fs (((f.reg 4 a0).reg 5 a1).goto 2)) t q b fs (((f.reg 4 a0).reg 5 a1).goto 2)) → Q r w') :
  Calls Tryz.prog 82 #[.pointer (some ⟨p, 0, none⟩), .int .i64 (t : Nat)] w Q := by
 have HQ0 := Lib.hid hQ0
 have HQ1 := Lib.hid hQ1
 clear hQ0 hQ1
 obtain ⟨fv, hv, fbs, hTh⟩ := hT.thr
 have hlen : fbs.length = fs.length := by
  have h1 := hTh.flen
  rw [hT.fr] at h1
  simpa using h1
 have TH := Lib.hid (fun (w : World) (h : Has σ M w) => mThread_yes h hT.mach hT.tp)
 have TP := Lib.hid (fun (w : World) (h : Has σ M w) => thrTop_eq h hTh (by omega))
 have hfb := hT.obj
 have f1 : f.row[1]? = some (.int .i64 1) := by rw [← hat]; rfl
 have hob := hTh.obj
 have t0 : ((s.thr t).row fv hv)[0]? = some (.int .u64 (a0 : Nat)) := by rw [← ht0]; rfl
 have t1 : ((s.thr t).row fv hv)[1]? = some (.int .u64 (a1 : Nat)) := by rw [← ht1]; rfl
 have hqb : q ≠ b := fun e => by
  subst e
  rw [hob] at hfb
  simp only [Option.some.injEq, Obj.cells.injEq] at hfb
  exact absurd hfb.2.1 (by decide)
 obtain ⟨_, hT3⟩ := hT.frame (f.reg 4 a0)
 obtain ⟨_, hT4⟩ := hT3.frame ((f.reg 4 a0).reg 5 a1)
 obtain ⟨_, hT5⟩ := hT4.frame (((f.reg 4 a0).reg 5 a1).goto 2)
 rw [MachS.top_top, MachS.top_top, Mm.upd_upd, Mm.upd_upd] at hT5
 have hsz : 6 < f.row.size := show 6 < 18 by omega
 have hsz2 : 7 < (f.reg 4 a0).row.size := show 7 < 18 by omega
 have hsz3 : 1 < ((f.reg 4 a0).reg 5 a1).row.size := show 1 < 18 by omega
 have R1 := Lib.hid (row_reg4 f a0)
 have R2 := Lib.hid (row_reg5 (f.reg 4 a0) a1)
 have R3 := Lib.hid (row_goto ((f.reg 4 a0).reg 5 a1) 2)
 have r4 : (((f.reg 4 a0).reg 5 a1).goto 2).row[6]? = some (.int .u64 (a0 : Nat)) := rfl
 have HT := Lib.hid hT5
 have BK := Lib.hid (fun (M2 : Mm) (w : World) (bl : Nat) (h : Has σ M2 w) (hle : (M.upd b (.cells (((f.reg 4 a0).reg 5 a1).goto 2).row 69)).le M2) (hn : (M.upd b (.cells (((f.reg 4 a0).reg 5 a1).goto 2).row 69)) bl = none) (hbl : M2 bl = some (.cells #[.int .u64 0] 42)) => back1_eq h hT5 hle hn hbl hfs)
 clear hT hTh hT3 hT4 hT5 hat hlen hfs ht0 ht1
 generalize (s.thr t).row fv hv = trow at *
 generalize f.row = fr0 at *
 generalize (f.reg 4 a0).row = fr1 at *
 generalize ((f.reg 4 a0).reg 5 a1).row = fr2 at *
 generalize (((f.reg 4 a0).reg 5 a1).goto 2).row = fr3 at *
 go_enter Tryz.func82, Tryz.ntmps82
 go_upto_region 8 with (first
  | (go_at_call 13; refine (TH.out _ h).mono ?_; clear h; rintro _ w ⟨rfl, h⟩)
  | (go_at_call 32; refine (TP.out _ h).mono ?_; clear h; rintro _ w ⟨rfl, h⟩)
  | (with_reducible show wpList _ _ _ ({ dst := _, op := Op.load 3 _, type := _, pos := _, after := _, guard := _ } :: _) _ _; refine wpList_load1_has h rfl 3 _ rfl rfl hfb f1 Tryz.underlying3 rfl ?_))
 have hq1 := Mm.one_get q (.cells trow 46)
 go_cut [] from 6 to 119 (fun wx => Has σ (M.upd b (.cells fr2 69)) wx)
 case first =>
  refine wp_region_held_drew (S := Has σ (Mm.one q (.cells trow 46))) (by kernel_rfl) (h.drew.le (Mm.one_le hob)) (fun hHeld => ?_)
  refine wpAnyH_take (i := 0) (v := ?_) rfl (by kernel_rfl) (by kernel_rfl) (by kernel_rfl) (fun _ _ _ h => h) (Or.inl ⟨by rfl, ?_⟩) hHeld ?_
  rotate_left
  ·(intro wz _; go_simp; try with_reducible rfl)
  try simp only [List.getElem_toArray, List.getElem_cons_succ, List.getElem_cons_zero, Act.put, List.setIfInBounds_toArray, List.set_cons_zero, List.set_cons_succ]
  refine wpAnyH_take (i := 2) (v := ?_) rfl (by kernel_rfl) (by kernel_rfl) (by kernel_rfl) (fun _ _ _ h => h) (Or.inl ⟨by rfl, ?_⟩) hHeld ?_
  rotate_left
  ·(intro wz _; go_simp; try with_reducible rfl)
  try simp only [List.getElem_toArray, List.getElem_cons_succ, List.getElem_cons_zero, Act.put, List.setIfInBounds_toArray, List.set_cons_zero, List.set_cons_succ]
  refine wpAnyH_take (i := 3) (v := ?_) rfl (by kernel_rfl) (by kernel_rfl) (by kernel_rfl) (fun _ _ _ h => h) (Or.inl ⟨by rfl, ?_⟩) hHeld ?_
  rotate_left
  ·(intro wz _; go_simp; try with_reducible rfl)
  try simp only [List.getElem_toArray, List.getElem_cons_succ, List.getElem_cons_zero, Act.put, List.setIfInBounds_toArray, List.set_cons_zero, List.set_cons_succ]
  refine wpAnyH_take (i := 4) (v := ?_) rfl (by kernel_rfl) (by kernel_rfl) (by kernel_rfl) (fun _ _ _ h => h) (Or.inl ⟨by rfl, ?_⟩) hHeld ?_
  rotate_left
  ·(intro wz _; go_simp; try with_reducible rfl)
  try simp only [List.getElem_toArray, List.getElem_cons_succ, List.getElem_cons_zero, Act.put, List.setIfInBounds_toArray, List.set_cons_zero, List.set_cons_succ]
  refine wpAnyH_take (i := 5) (v := ?_) rfl (by kernel_rfl) (by kernel_rfl) (by kernel_rfl) (fun _ _ _ h => h) (Or.inl ⟨by rfl, ?_⟩) hHeld ?_
  rotate_left
  ·(intro wz _; go_simp; try with_reducible rfl)
  try simp only [List.getElem_toArray, List.getElem_cons_succ, List.getElem_cons_zero, Act.put, List.setIfInBounds_toArray, List.set_cons_zero, List.set_cons_succ]
  refine wpAnyH_take (i := 6) (v := _) rfl (by kernel_rfl) (by kernel_rfl) (by kernel_rfl) (fun _ _ _ h => h) (yields_load1 rfl 42 _ rfl rfl hq1 t0 Tryz.underlying42 rfl) hHeld ?_
  try simp only [List.getElem_toArray, List.getElem_cons_succ, List.getElem_cons_zero, Act.put, List.setIfInBounds_toArray, List.set_cons_zero, List.set_cons_succ]
  refine wpAnyH_take (i := 7) (v := ?_) rfl (by kernel_rfl) (by kernel_rfl) (by kernel_rfl) (fun _ _ _ h => h) (Or.inl ⟨by rfl, ?_⟩) hHeld ?_
  rotate_left
  ·(intro wz _; go_simp; try with_reducible rfl)
  try simp only [List.getElem_toArray, List.getElem_cons_succ, List.getElem_cons_zero, Act.put, List.setIfInBounds_toArray, List.set_cons_zero, List.set_cons_succ]
  refine wpAnyH_take (i := 8) (v := ?_) rfl (by kernel_rfl) (by kernel_rfl) (by kernel_rfl) (fun _ _ _ h => h) (Or.inl ⟨by rfl, ?_⟩) hHeld ?_
  rotate_left
  ·(intro wz _; go_simp; try with_reducible rfl)
  try simp only [List.getElem_toArray, List.getElem_cons_succ, List.getElem_cons_zero, Act.put, List.setIfInBounds_toArray, List.set_cons_zero, List.set_cons_succ]
  refine wpAnyH_take (i := 9) (v := ?_) rfl (by kernel_rfl) (by kernel_rfl) (by kernel_rfl) (fun _ _ _ h => h) (Or.inl ⟨by rfl, ?_⟩) hHeld ?_
  rotate_left
  ·(intro wz _; go_simp; try with_reducible rfl)
  try simp only [List.getElem_toArray, List.getElem_cons_succ, List.getElem_cons_zero, Act.put, List.setIfInBounds_toArray, List.set_cons_zero, List.set_cons_succ]
  refine wpAnyH_take (i := 10) (v := ?_) rfl (by kernel_rfl) (by kernel_rfl) (by kernel_rfl) (fun _ _ _ h => h) (Or.inl ⟨by rfl, ?_⟩) hHeld ?_
  rotate_left
  ·(intro wz _; go_simp; try with_reducible rfl)
  try simp only [List.getElem_toArray, List.getElem_cons_succ, List.getElem_cons_zero, Act.put, List.setIfInBounds_toArray, List.set_cons_zero, List.set_cons_succ]
  refine wpAnyH_take (i := 11) (v := _) rfl (by kernel_rfl) (by kernel_rfl) (by kernel_rfl) (fun _ _ _ h => h) (yields_load1 rfl 42 _ rfl rfl hq1 t1 Tryz.underlying42 rfl) hHeld ?_
  try simp only [List.getElem_toArray, List.getElem_cons_succ, List.getElem_cons_zero, Act.put, List.setIfInBounds_toArray, List.set_cons_zero, List.set_cons_succ]
  refine wpAnyH_take (i := 12) (v := ?_) rfl (by kernel_rfl) (by kernel_rfl) (by kernel_rfl) (fun _ _ _ h => h) (Or.inl ⟨by rfl, ?_⟩) hHeld ?_
  rotate_left
  ·(intro wz _; go_simp; try with_reducible rfl)
  try simp only [List.getElem_toArray, List.getElem_cons_succ, List.getElem_cons_zero, Act.put, List.setIfInBounds_toArray, List.set_cons_zero, List.set_cons_succ]
  refine wpAnyH_take (i := 13) (v := ?_) rfl (by kernel_rfl) (by kernel_rfl) (by kernel_rfl) (fun _ _ _ h => h) (Or.inl ⟨by rfl, ?_⟩) hHeld ?_
  rotate_left
  ·(intro wz _; go_simp; try with_reducible rfl)
  try simp only [List.getElem_toArray, List.getElem_cons_succ, List.getElem_cons_zero, Act.put, List.setIfInBounds_toArray, List.set_cons_zero, List.set_cons_succ]
  replace h := h.drew
  generalize w.drew = w1 at h hHeld ⊢
  clear w
  obtain ⟨w, rfl⟩ : ∃ q : World, q = w1 := ⟨_, rfl⟩
  have hfb1 : (M.upd b (.cells fr1 69)) b = some (.cells fr1 69) := Mm.upd_same _ _ _
  refine wpAnyH_ready (rs := [1, 14]) (by kernel_rfl) (by simp) ?_
  refine AllReadyH.cons rfl (fun K hK => ?_) (AllReadyH.cons rfl (fun K hK => ?_) AllReadyH.nil)
  ·skip
   go_simp
   refine hK.out _ _ hHeld (fun hHeld => ?_)
   clear hK K
   try simp only [Act.put, List.setIfInBounds_toArray, List.set_cons_zero, List.set_cons_succ]
   refine wpAnyH_take (i := 16) (v := ?_) rfl (by kernel_rfl) (by kernel_rfl) (by kernel_rfl) (fun _ _ _ h => h) (Or.inl ⟨by rfl, ?_⟩) hHeld ?_
   rotate_left
   ·(intro wz _; go_simp; try with_reducible rfl)
   try simp only [List.getElem_toArray, List.getElem_cons_succ, List.getElem_cons_zero, Act.put, List.setIfInBounds_toArray, List.set_cons_zero, List.set_cons_succ]
   refine wpAnyH_take (i := 17) (v := ?_) rfl (by kernel_rfl) (by kernel_rfl) (by kernel_rfl) (fun _ _ _ h => h) (Or.inl ⟨by rfl, ?_⟩) hHeld ?_
   rotate_left
   ·(intro wz _; go_simp; try with_reducible rfl)
   try simp only [List.getElem_toArray, List.getElem_cons_succ, List.getElem_cons_zero, Act.put, List.setIfInBounds_toArray, List.set_cons_zero, List.set_cons_succ]
   refine wpAnyH_ready (rs := [14]) (by kernel_rfl) (by simp) ?_
   refine AllReadyH.cons rfl (fun K hK => ?_) AllReadyH.nil
   go_simp
   refine hK.out _ _ (hHeld) (fun hHeld => ?_)
   clear hK K
   try simp only [Act.put, List.setIfInBounds_toArray, List.set_cons_zero, List.set_cons_succ]
   refine wpAnyH_ready (rs := [15]) (by kernel_rfl) (by simp) ?_
   refine AllReadyH.cons rfl (fun K hK => ?_) AllReadyH.nil
   refine step_store1 (v := .int .u64 (a0 : Nat)) h rfl 42 _ _ rfl rfl rfl hfb hsz rfl rfl (by kernel_rfl) ?_
   clear h hHeld
   intro w h
   rw [R1.out] at h
   refine hK.out _ _ (h.le (Mm.one_le ((Mm.upd_ne hqb).trans hob))) (fun hHeld => ?_)
   clear hK K
   try simp only [Act.put, List.setIfInBounds_toArray, List.set_cons_zero, List.set_cons_succ]
   refine wpAnyH_take (i := 18) (v := ?_) rfl (by kernel_rfl) (by kernel_rfl) (by kernel_rfl) (fun _ _ _ h => h) (Or.inl ⟨by rfl, ?_⟩) hHeld ?_
   rotate_left
   ·(intro wz _; go_simp; try with_reducible rfl)
   try simp only [List.getElem_toArray, List.getElem_cons_succ, List.getElem_cons_zero, Act.put, List.setIfInBounds_toArray, List.set_cons_zero, List.set_cons_succ]
   refine wpAnyH_ready (rs := [19]) (by kernel_rfl) (by simp) ?_
   refine AllReadyH.cons rfl (fun K hK => ?_) AllReadyH.nil
   (refine step_store1 (v := .int .u64 (a1 : Nat)) h rfl 42 _ _ rfl rfl rfl hfb1 hsz2 rfl rfl (by kernel_rfl) ?_; clear h hHeld; intro w h; rw [R2.out, Mm.upd_upd] at h)
   refine hK.out _ _ (h.le (Mm.one_le ((Mm.upd_ne hqb).trans hob))) (fun hHeld => ?_)
   clear hK K
   try simp only [Act.put, List.setIfInBounds_toArray, List.set_cons_zero, List.set_cons_succ]
   refine wpAnyH_done (by kernel_rfl) ?_ _
   clear hHeld
   have hEnd := h
   go_wp2
   all_goals (go_meet; (case rel => exact hEnd))
  ·skip
   go_simp
   refine hK.out _ _ hHeld (fun hHeld => ?_)
   clear hK K
   try simp only [Act.put, List.setIfInBounds_toArray, List.set_cons_zero, List.set_cons_succ]
   refine wpAnyH_ready (rs := [1, 15]) (by kernel_rfl) (by simp) ?_
   refine AllReadyH.cons rfl (fun K hK => ?_) (AllReadyH.cons rfl (fun K hK => ?_) AllReadyH.nil)
   ·skip
    go_simp
    refine hK.out _ _ hHeld (fun hHeld => ?_)
    clear hK K
    try simp only [Act.put, List.setIfInBounds_toArray, List.set_cons_zero, List.set_cons_succ]
    refine wpAnyH_take (i := 16) (v := ?_) rfl (by kernel_rfl) (by kernel_rfl) (by kernel_rfl) (fun _ _ _ h => h) (Or.inl ⟨by rfl, ?_⟩) hHeld ?_
    rotate_left
    ·(intro wz _; go_simp; try with_reducible rfl)
    try simp only [List.getElem_toArray, List.getElem_cons_succ, List.getElem_cons_zero, Act.put, List.setIfInBounds_toArray, List.set_cons_zero, List.set_cons_succ]
    refine wpAnyH_take (i := 17) (v := ?_) rfl (by kernel_rfl) (by kernel_rfl) (by kernel_rfl) (fun _ _ _ h => h) (Or.inl ⟨by rfl, ?_⟩) hHeld ?_
    rotate_left
    ·(intro wz _; go_simp; try with_reducible rfl)
    try simp only [List.getElem_toArray, List.getElem_cons_succ, List.getElem_cons_zero, Act.put, List.setIfInBounds_toArray, List.set_cons_zero, List.set_cons_succ]
    refine wpAnyH_ready (rs := [15]) (by kernel_rfl) (by simp) ?_
    refine AllReadyH.cons rfl (fun K hK => ?_) AllReadyH.nil
    refine step_store1 (v := .int .u64 (a0 : Nat)) h rfl 42 _ _ rfl rfl rfl hfb hsz rfl rfl (by kernel_rfl) ?_
    clear h hHeld
    intro w h
    rw [R1.out] at h
    refine hK.out _ _ (h.le (Mm.one_le ((Mm.upd_ne hqb).trans hob))) (fun hHeld => ?_)
    clear hK K
    try simp only [Act.put, List.setIfInBounds_toArray, List.set_cons_zero, List.set_cons_succ]
    refine wpAnyH_take (i := 18) (v := ?_) rfl (by kernel_rfl) (by kernel_rfl) (by kernel_rfl) (fun _ _ _ h => h) (Or.inl ⟨by rfl, ?_⟩) hHeld ?_
    rotate_left
    ·(intro wz _; go_simp; try with_reducible rfl)
    try simp only [List.getElem_toArray, List.getElem_cons_succ, List.getElem_cons_zero, Act.put, List.setIfInBounds_toArray, List.set_cons_zero, List.set_cons_succ]
    refine wpAnyH_ready (rs := [19]) (by kernel_rfl) (by simp) ?_
    refine AllReadyH.cons rfl (fun K hK => ?_) AllReadyH.nil
    (refine step_store1 (v := .int .u64 (a1 : Nat)) h rfl 42 _ _ rfl rfl rfl hfb1 hsz2 rfl rfl (by kernel_rfl) ?_; clear h hHeld; intro w h; rw [R2.out, Mm.upd_upd] at h)
    refine hK.out _ _ (h.le (Mm.one_le ((Mm.upd_ne hqb).trans hob))) (fun hHeld => ?_)
    clear hK K
    try simp only [Act.put, List.setIfInBounds_toArray, List.set_cons_zero, List.set_cons_succ]
    refine wpAnyH_done (by kernel_rfl) ?_ _
    clear hHeld
    have hEnd := h
    go_wp2
    all_goals (go_meet; (case rel => exact hEnd))
   ·skip
    refine step_store1 (v := .int .u64 (a0 : Nat)) h rfl 42 _ _ rfl rfl rfl hfb hsz rfl rfl (by kernel_rfl) ?_
    clear h hHeld
    intro w h
    rw [R1.out] at h
    refine hK.out _ _ (h.le (Mm.one_le ((Mm.upd_ne hqb).trans hob))) (fun hHeld => ?_)
    clear hK K
    try simp only [Act.put, List.setIfInBounds_toArray, List.set_cons_zero, List.set_cons_succ]
    refine wpAnyH_take (i := 1) (v := ?_) rfl (by kernel_rfl) (by kernel_rfl) (by kernel_rfl) (fun _ _ _ h => h) (Or.inl ⟨by rfl, ?_⟩) hHeld ?_
    rotate_left
    ·(intro wz _; go_simp; try with_reducible rfl)
    try simp only [List.getElem_toArray, List.getElem_cons_succ, List.getElem_cons_zero, Act.put, List.setIfInBounds_toArray, List.set_cons_zero, List.set_cons_succ]
    refine wpAnyH_take (i := 16) (v := ?_) rfl (by kernel_rfl) (by kernel_rfl) (by kernel_rfl) (fun _ _ _ h => h) (Or.inl ⟨by rfl, ?_⟩) hHeld ?_
    rotate_left
    ·(intro wz _; go_simp; try with_reducible rfl)
    try simp only [List.getElem_toArray, List.getElem_cons_succ, List.getElem_cons_zero, Act.put, List.setIfInBounds_toArray, List.set_cons_zero, List.set_cons_succ]
    refine wpAnyH_take (i := 17) (v := ?_) rfl (by kernel_rfl) (by kernel_rfl) (by kernel_rfl) (fun _ _ _ h => h) (Or.inl ⟨by rfl, ?_⟩) hHeld ?_
    rotate_left
    ·(intro wz _; go_simp; try with_reducible rfl)
    try simp only [List.getElem_toArray, List.getElem_cons_succ, List.getElem_cons_zero, Act.put, List.setIfInBounds_toArray, List.set_cons_zero, List.set_cons_succ]
    refine wpAnyH_take (i := 18) (v := ?_) rfl (by kernel_rfl) (by kernel_rfl) (by kernel_rfl) (fun _ _ _ h => h) (Or.inl ⟨by rfl, ?_⟩) hHeld ?_
    rotate_left
    ·(intro wz _; go_simp; try with_reducible rfl)
    try simp only [List.getElem_toArray, List.getElem_cons_succ, List.getElem_cons_zero, Act.put, List.setIfInBounds_toArray, List.set_cons_zero, List.set_cons_succ]
    refine wpAnyH_ready (rs := [19]) (by kernel_rfl) (by simp) ?_
    refine AllReadyH.cons rfl (fun K hK => ?_) AllReadyH.nil
    (refine step_store1 (v := .int .u64 (a1 : Nat)) h rfl 42 _ _ rfl rfl rfl hfb1 hsz2 rfl rfl (by kernel_rfl) ?_; clear h hHeld; intro w h; rw [R2.out, Mm.upd_upd] at h)
    refine hK.out _ _ (h.le (Mm.one_le ((Mm.upd_ne hqb).trans hob))) (fun hHeld => ?_)
    clear hK K
    try simp only [Act.put, List.setIfInBounds_toArray, List.set_cons_zero, List.set_cons_succ]
    refine wpAnyH_done (by kernel_rfl) ?_ _
    clear hHeld
    have hEnd := h
    go_wp2
    all_goals (go_meet; (case rel => exact hEnd))
 case rest =>
  clear h
  obtain ⟨w, rfl⟩ : ∃ q : World, q = wc := ⟨_, rfl⟩
  have h := hcut
  clear hcut
  have hfb2 : (M.upd b (.cells fr2 69)) b = some (.cells fr2 69) := Mm.upd_same _ _ _
  go_upto_region 10 with (first
   | (with_reducible show wpList _ _ _ ({ dst := _, op := Op.store 3 _ _, type := _, pos := _, after := _, guard := _ } :: _) _ _; refine wpList_store1_has h rfl 3 _ _ rfl rfl rfl hfb2 hsz3 rfl (by kernel_rfl) ?_; clear h; intro w h))
  have h0 : Has σ ((M.upd b (.cells fr2 69)).upd b (.cells (fr2.setIfInBounds 1 (.int .i64 2)) 69)) w := h
  rw [R3.out, Mm.upd_upd] at h0
  clear h
  have h := h0
  have hfb3 : (M.upd b (.cells fr3 69)) b = some (.cells fr3 69) := Mm.upd_same _ _ _
  generalize M.upd b (.cells fr3 69) = M3 at *
  by_cases hz : a0 = 0
  ·have r5 : fr3[6]? = some (.int .u64 0) := by rw [r4, hz]; rfl
   clear r4
   go_wp2_with (first
    | (with_reducible show wpList _ _ _ ({ dst := _, op := Op.load 42 _, type := _, pos := _, after := _, guard := _ } :: _) _ _; refine wpList_load1_has h rfl 42 _ rfl rfl hfb3 r5 Tryz.underlying42 rfl ?_))
   obtain ⟨M4, hbx, hle2, hbl, hnl⟩ := h.box (.cells #[.int .u64 0] 42)
   generalize w.alloc _ = wx at hbx ⊢
   generalize w.heap.size = bl at hbl hnl ⊢
   clear h
   try clear w
   have h := hbx
   clear hbx
   obtain ⟨w, rfl⟩ : ∃ x : World, x = wx := ⟨_, rfl⟩
   go_wp2_with (first
    | ((go_at_call 93; refine (BK.out M4 _ bl h hle2 hnl hbl).mono ?_; clear h; rintro _ w ⟨rfl, M5, lab5, h, hM5, hB5⟩)))
   go_end0
   exact HQ0.out hz _ _ ⟨rfl, M5, lab5, h, hM5, hB5⟩
  ·have n0 : ¬ (a0 : Int) = 0 := by omega
   go_wp2_with (first
    | (with_reducible show wpList _ _ _ ({ dst := _, op := Op.load 42 _, type := _, pos := _, after := _, guard := _ } :: _) _ _; refine wpList_load1_has h rfl 42 _ rfl rfl hfb3 r4 Tryz.underlying42 rfl ?_))
   go_end0
   exact HQ1.out hz _ _ ⟨rfl, M3, lab, h, HT.out⟩
/-- Mint has a slot. -/
theorem mint_1 {σ w : World} {K M : Mm} {lab : Nat → Nat} {p t q b : Nat} {s : MachS} {fs : List FrameS} {f : FrameS} (h : Has σ M w) (hT : AtTop K M lab p s t q b fs f) (hfs : fs.length < 1000000) (hat : f.at_ = 1) {a0 a1 : Nat} (ht0 : (s.thr t).told 0 = (a0 : Int)) (ht1 : (s.thr t).told 1 = (a1 : Int)) (hne : a0 ≠ 0) :
  Calls Tryz.prog 82 #[.pointer (some ⟨p, 0, none⟩), .int .i64 (t : Nat)] w fun r w' => r = .returned (.tuple #[]) ∧ ∃ M' lab', Has σ M' w' ∧ AtTop K M' lab' p (s.top t fs (((f.reg 4 a0).reg 5 a1).goto 2)) t q b fs (((f.reg 4 a0).reg 5 a1).goto 2) := by
 exact mint_1any h hT hfs hat ht0 ht1 (fun e => absurd e hne) fun _ r w' hr => hr
/-- Mint has none. -/
theorem mint_1no {σ w : World} {K M : Mm} {lab : Nat → Nat} {p t q b : Nat} {s : MachS} {fs : List FrameS} {f : FrameS} (h : Has σ M w) (hT : AtTop K M lab p s t q b fs f) (hfs : fs.length < 1000000) (hat : f.at_ = 1) {a0 a1 : Nat} (ht0 : (s.thr t).told 0 = (a0 : Int)) (ht1 : (s.thr t).told 1 = (a1 : Int)) (hz : a0 = 0) :
  Calls Tryz.prog 82 #[.pointer (some ⟨p, 0, none⟩), .int .i64 (t : Nat)] w fun r w' => r = .returned (.tuple #[]) ∧ ∃ M' lab', Has σ M' w' ∧ Mach M' lab' p (MachS.backed (s.top t fs (((f.reg 4 a0).reg 5 a1).goto 2)) t [0]) ∧ Base K M' lab' := by
 exact mint_1any h hT hfs hat ht0 ht1 (fun _ r w' hr => hr) fun e => absurd hz e
set_option maxHeartbeats 4000000 in
set_option maxRecDepth 20000 in
/-- Mint tells the slot. -/
theorem mint_7 {σ w : World} {K M : Mm} {lab : Nat → Nat} {p t q b : Nat} {s : MachS} {fs : List FrameS} {f : FrameS} (h : Has σ M w) (hT : AtTop K M lab p s t q b fs f) (hfs : fs.length < 1000000) (hat : f.at_ = 7) {sl gn : Nat} (h4 : f.r 4 = (sl : Int)) (h5 : f.r 5 = (gn : Int)) :
  Calls Tryz.prog 82 #[.pointer (some ⟨p, 0, none⟩), .int .i64 (t : Nat)] w fun r w' => r = .returned (.tuple #[]) ∧ ∃ M' lab', Has σ M' w' ∧ Mach M' lab' p (s.backed t [(sl : Int), (gn : Int)]) ∧ Base K M' lab' := by
 obtain ⟨fv, hv, fbs, hTh⟩ := hT.thr
 have hlen : fbs.length = fs.length := by
  have h1 := hTh.flen
  rw [hT.fr] at h1
  simpa using h1
 have TH := Lib.hid (fun (w : World) (h : Has σ M w) => mThread_yes h hT.mach hT.tp)
 have TP := Lib.hid (fun (w : World) (h : Has σ M w) => thrTop_eq h hTh (by omega))
 have hfb := hT.obj
 have f1 : f.row[1]? = some (.int .i64 7) := by rw [← hat]; rfl
 have f6 : f.row[6]? = some (.int .u64 (sl : Nat)) := by rw [← h4]; rfl
 have f7 : f.row[7]? = some (.int .u64 (gn : Nat)) := by rw [← h5]; rfl
 have BK := Lib.hid (fun (M2 : Mm) (w : World) (bl : Nat) (h : Has σ M2 w) (hle : M.le M2) (hn : M bl = none) (hbl : M2 bl = some (.cells #[.int .u64 (sl : Nat), .int .u64 (gn : Nat)] 42)) => back2_eq h hT hle hn hbl hfs)
 clear hT hTh hat hlen hfs h4 h5
 generalize f.row = fr0 at *
 go_enter Tryz.func82, Tryz.ntmps82
 go_upto_region 3 with (first
  | (go_at_call 13; refine (TH.out _ h).mono ?_; clear h; rintro _ w ⟨rfl, h⟩)
  | (go_at_call 32; refine (TP.out _ h).mono ?_; clear h; rintro _ w ⟨rfl, h⟩)
  | (with_reducible show wpList _ _ _ ({ dst := _, op := Op.load 3 _, type := _, pos := _, after := _, guard := _ } :: _) _ _; refine wpList_load1_has h rfl 3 _ rfl rfl hfb f1 Tryz.underlying3 rfl ?_))
 refine wp_region_head (Has σ M) 11 (by kernel_rfl) (by kernel_rfl) (fun _ _ _ _ _ h => h) h.drew ?_
 clear h
 simp only [List.take_succ_cons, List.take_zero, List.drop_succ_cons, List.drop_zero]
 repeat (first
  | go_big_quiet_skip
  | (go_big_quiet_want; first
   | (refine quiet_load_has 42 _ rfl rfl hfb f6 Tryz.underlying42 rfl ?_; simp only [Act.put, List.setIfInBounds_toArray, List.set_cons_zero, List.set_cons_succ]; go_big_quiet_on)
   | (refine quiet_load_has 42 _ rfl rfl hfb f7 Tryz.underlying42 rfl ?_; simp only [Act.put, List.setIfInBounds_toArray, List.set_cons_zero, List.set_cons_succ]; go_big_quiet_on)
   | (go_big_quiet_op; first | go_big_quiet_on | go_big_quiet_call (first | with_reducible exact fun _ => rfl))))
 refine wpQuiet_nil ?_
 try clear w
 intro w h
 go_wp2_with (fail)
 obtain ⟨M4, hbx, hle2, hbl, hnl⟩ := h.box (.cells #[.int .u64 (sl : Nat), .int .u64 (gn : Nat)] 42)
 generalize w.alloc _ = wx at hbx ⊢
 generalize w.heap.size = bl at hbl hnl ⊢
 clear h
 try clear w
 have h := hbx
 clear hbx
 obtain ⟨w, rfl⟩ : ∃ x : World, x = wx := ⟨_, rfl⟩
 go_wp2_with (first
  | ((go_at_call 93; refine (BK.out M4 _ bl h hle2 hnl hbl).mono ?_; clear h; rintro _ w ⟨rfl, M5, lab5, h, hM5, hB5⟩)))
 go_end0
 exact ⟨rfl, M5, lab5, h, hM5, hB5⟩
set_option maxHeartbeats 4000000 in
/-- Do of Mint. -/
theorem mi_do {σ w : World} {K M : Mm} {lab : Nat → Nat} {p t q b : Nat} {s : MachS} {fs : List FrameS} {f : FrameS} (h : Has σ M w) (hT : AtTop K M lab p s t q b fs f) (hfs : fs.length < 1000000) (hfn : f.fn = 30) {R : MachS → Prop} (hstep : ∀ w, Has σ M w → Calls Tryz.prog 82 #[.pointer (some ⟨p, 0, none⟩), .int .i64 (t : Nat)] w fun r w' => r = .returned (.tuple #[]) ∧ ∃ M' lab' s', Has σ M' w' ∧ Mach M' lab' p s' ∧ Base K M' lab' ∧ R s') : Calls Tryz.prog 41 #[.pointer (some ⟨p, 0, none⟩), .int .i64 (t : Nat)] w fun r w' => r = .returned (.tuple #[]) ∧ ∃ M' lab' s', Has σ M' w' ∧ Base K M' lab' ∧ Mach M' lab' p s' ∧ R s' := by
 obtain ⟨fv, hv, fbs, hTh⟩ := hT.thr
 have hlen : fbs.length = fs.length := by
  have h1 := hTh.flen
  rw [hT.fr] at h1
  simpa using h1
 have TH := Lib.hid (fun (w : World) (h : Has σ M w) => mThread_yes h hT.mach hT.tp)
 have TP := Lib.hid (fun (w : World) (h : Has σ M w) => thrTop_eq h hTh (by omega))
 have hfb := hT.obj
 have f0 : f.row[0]? = some (.int .i64 f.fn) := rfl
 have HS := Lib.hid (fun (w : World) (h : Has σ M w) => hstep w h)
 clear hT hTh hlen hfs hstep
 generalize f.row = fr0 at *
 rw [hfn] at f0
 clear hfn
 go_enter Tryz.func41, Tryz.ntmps41
 go_wp2_with (first
  | (go_at_call 13; refine (TH.out _ h).mono ?_; clear h; rintro _ w ⟨rfl, h⟩)
  | (go_at_call 32; refine (TP.out _ h).mono ?_; clear h; rintro _ w ⟨rfl, h⟩)
  | (with_reducible show wpList _ _ _ ({ dst := _, op := Op.load 3 _, type := _, pos := _, after := _, guard := _ } :: _) _ _; refine wpList_load1_has h rfl 3 _ rfl rfl hfb f0 Tryz.underlying3 rfl ?_)
  | (go_at_call 82; refine (HS.out _ h).mono ?_; clear h; rintro _ w ⟨rfl, M2, lab2, s2, h, hM2, hB2, hR2⟩))
 go_end0
 exact ⟨rfl, M2, lab2, s2, h, hB2, hM2, hR2⟩
set_option maxHeartbeats 4000000 in
/-- Do of another routine. -/
theorem mi_doOther {σ w : World} {K M : Mm} {lab : Nat → Nat} {p t q b : Nat} {s : MachS} {fs : List FrameS} {f : FrameS} (h : Has σ M w) (hT : AtTop K M lab p s t q b fs f) (hfs : fs.length < 1000000) (hfn : f.fn ≠ 30) {R : MachS → Prop} (hstep : ∀ w, Has σ M w → Calls Tryz.prog 15 #[.pointer (some ⟨p, 0, none⟩), .int .i64 (t : Nat)] w fun r w' => r = .returned (.tuple #[]) ∧ ∃ M' lab' s', Has σ M' w' ∧ Mach M' lab' p s' ∧ Base K M' lab' ∧ R s') : Calls Tryz.prog 41 #[.pointer (some ⟨p, 0, none⟩), .int .i64 (t : Nat)] w fun r w' => r = .returned (.tuple #[]) ∧ ∃ M' lab' s', Has σ M' w' ∧ Base K M' lab' ∧ Mach M' lab' p s' ∧ R s' := by
 obtain ⟨fv, hv, fbs, hTh⟩ := hT.thr
 have hlen : fbs.length = fs.length := by
  have h1 := hTh.flen
  rw [hT.fr] at h1
  simpa using h1
 have TH := Lib.hid (fun (w : World) (h : Has σ M w) => mThread_yes h hT.mach hT.tp)
 have TP := Lib.hid (fun (w : World) (h : Has σ M w) => thrTop_eq h hTh (by omega))
 have hfb := hT.obj
 have f0 : f.row[0]? = some (.int .i64 f.fn) := rfl
 have HS := Lib.hid (fun (w : World) (h : Has σ M w) => hstep w h)
 clear hT hTh hlen hfs hstep
 generalize f.row = fr0 at *
 have g1 : (f.fn == 30) = false := beq_eq_false_iff_ne.2 hfn
 generalize hfnn : f.fn = fnn at *
 clear hfnn
 go_enter Tryz.func41, Tryz.ntmps41
 go_wp2_with (first
  | (go_at_call 13; refine (TH.out _ h).mono ?_; clear h; rintro _ w ⟨rfl, h⟩)
  | (go_at_call 32; refine (TP.out _ h).mono ?_; clear h; rintro _ w ⟨rfl, h⟩)
  | (with_reducible show wpList _ _ _ ({ dst := _, op := Op.load 3 _, type := _, pos := _, after := _, guard := _ } :: _) _ _; refine wpList_load1_has h rfl 3 _ rfl rfl hfb f0 Tryz.underlying3 rfl ?_)
  | (go_at_call 15; refine (HS.out _ h).mono ?_; clear h; rintro _ w ⟨rfl, M2, lab2, s2, h, hM2, hB2, hR2⟩))
 exact bodyPost_ret (results_none rfl _ _ _) rfl ⟨rfl, M2, lab2, s2, h, hB2, hM2, hR2⟩
end
section
open Go.RowKit
theorem atK_hit {c : Nat → Int} (hc : ConfMay c) {m : MemS} (hN : (m.N : Int) = c 0 * firsts c 10) {lv : Nat} (hl : (lv : Int) < c 0) {k : Nat} {i j : Int} (hk : InK c k i j) : m.hit (atK c lv k i j) = true := by
 have hs := firsts_succ c (k := k) hk.kind
 have hnn := numK_nn hk
 have hhi := hk.high
 have hf0 := (firsts_bd hc k).1
 have hkk := hk.kind
 have hle : firsts c (k + 1) ≤ firsts c 10 := by
  obtain ⟨_, _, _, _, ⟨g2, g3⟩, ⟨g4, g5⟩, _⟩ := hc
  unfold firsts
  rcases k with _ | _ | _ | _ | _ | _ | _ | _ | _ | _ | k <;> simp <;> omega
 obtain ⟨L, B, S, hn⟩ := Nums.of hc
 rw [hn.sz] at hle hN
 obtain ⟨T, hT⟩ : ∃ T : Nat, 18 + B + 6 * S = T := ⟨_, rfl⟩
 rw [hT] at hle hN
 rw [hn.lev] at hN hl
 unfold MemS.hit atK
 rw [hn.sz, hT, Bool.and_eq_true, decide_eq_true_eq, decide_eq_true_eq]
 have h1 : 0 ≤ (lv : Int) * (T : Int) := Int.mul_nonneg (by omega) (by omega)
 have h2 : ((lv + 1 : Nat) : Int) * (T : Int) ≤ (L : Int) * (T : Int) := Int.mul_le_mul_of_nonneg_right (by omega) (by omega)
 have h3 : ((lv + 1 : Nat) : Int) * (T : Int) = (lv : Int) * (T : Int) + T := by rw [Int.natCast_add, Int.add_mul]; simp
 exact ⟨by omega, by rw [hN]; omega⟩
theorem load_hit {m : MemS} {a : Int} (h : m.hit a = true) : m.load a = m.f a.toNat := by unfold MemS.load; rw [h]; rfl
theorem at_hit {m : MemS} {a : Int} (h : m.hit a = true) : m.at_ a = { m with acc := m.acc + 1, last := a, named := true } := by unfold MemS.at_; rw [h]; rfl
theorem store_hit {m : MemS} {a v : Int} (h : m.hit a = true) : m.store a v = { m with acc := m.acc + 1, last := a, named := true, f := upd m.f a.toNat v, wr := m.wr + 1 } := by unfold MemS.store; rw [h, if_pos rfl, at_hit h]
theorem inK_link {c : Nat → Int} {i : Nat} (h1 : 1 ≤ i) (h2 : (i : Int) ≤ c 10) : InK c 8 (i : Nat) 0 := ⟨by omega, by unfold baseK; simp; omega, by omega, by omega, fun _ => rfl, by unfold numK many baseK; simp; omega⟩
theorem inK_head {c : Nat → Int} {i : Nat} (h1 : 1 ≤ i) (h2 : (i : Int) ≤ c 10) : InK c 9 (i : Nat) 0 := ⟨by omega, by unfold baseK; simp; omega, by omega, by omega, fun h => absurd rfl h, by unfold numK many; simp; omega⟩
end
section
open Go.RowKit
/-- A spot is in a map once. -/
def OnceE (es : List Ent) : Prop := (es.map fun x => (x.l, x.s)).Nodup
theorem firstHeld_val (n : Nat) : ∀ l t : Int, valE l t (firstHeld n) = if t = 1 ∧ 0 ≤ l ∧ l < n then 1 else 0 := by
 intro l t
 induction n with
 | zero => simp [firstHeld, valE]
 | succ n ih =>
  have e : ∀ (a b : List Ent), valE l t (a ++ b) = if hasE l t a then valE l t a else valE l t b := fun a b => by
   induction a with
   | nil => simp [hasE]
   | cons x r ih2 =>
    simp only [List.cons_append, valE, hasE]
    by_cases h : (l == x.l && t == x.s) = true
    ·simp only [h, if_true, Bool.true_or]
    ·simp only [Bool.not_eq_true] at h
     simp only [h, Bool.false_eq_true, if_false, Bool.false_or, ih2]
  have hv : hasE l t (firstHeld n) = true → valE l t (firstHeld n) = 1 := by
   have : ∀ (ls : List Nat), hasE l t (ls.map fun (l : Nat) => (⟨l, 1, 1, l⟩ : Ent)) = true → valE l t (ls.map fun (l : Nat) => (⟨l, 1, 1, l⟩ : Ent)) = 1 := fun ls => by
    induction ls with
    | nil => intro h; cases h
    | cons x r ih2 =>
     intro h
     simp only [List.map_cons, hasE, valE] at h ⊢
     cases h3 : (l == (x : Int) && t == 1)
     ·rw [h3] at h; simp only [Bool.false_or] at h; simpa using ih2 h
     ·simp
   exact this _
  rw [← firstHeld_put, putE_none _ _ _ _ _ (firstHeld_has n), e]
  cases hh : hasE l t (firstHeld n)
  ·have := hasE_val hh
   rw [this] at ih
   simp only [Bool.false_eq_true, if_false, valE]
   split
   ·rename_i h
    simp only [Bool.and_eq_true, beq_iff_eq] at h
    rw [if_pos (by omega)]
   ·rename_i h
    simp only [Bool.and_eq_true, beq_iff_eq] at h
    split at ih
    ·cases ih
    ·rw [if_neg (by omega)]
  ·have h1 := hv hh
   rw [h1] at ih
   simp only [if_true]
   rw [h1]
   split at ih
   ·rw [if_pos (by omega)]
   ·cases ih
theorem valE_put (l t v : Int) (clk : Nat) (l' t' : Int) : ∀ es : List Ent, valE l' t' (putE l t v clk es) = if l' = l ∧ t' = t then v else valE l' t' es
 | [] => by
  simp only [putE, valE]
  by_cases h : l' = l ∧ t' = t
  ·rw [if_pos h, if_pos (by simpa using h)]
  ·rw [if_neg h, if_neg (by simpa using h)]
 | x :: r => by
  have ih := valE_put l t v clk l' t' r
  unfold putE
  cases hx : (l == x.l && t == x.s)
  ·simp only [Bool.false_eq_true, if_false, valE, ih]
   by_cases h : l' = l ∧ t' = t
   ·obtain ⟨rfl, rfl⟩ := h
    rw [hx]
    simp
   ·simp only [if_neg h]
  ·simp only [Bool.and_eq_true, beq_iff_eq] at hx
   obtain ⟨rfl, rfl⟩ := hx
   simp only [if_true, valE]
   by_cases h : l' = x.l ∧ t' = x.s
   ·rw [if_pos h]
    simp [h.1, h.2]
   ·rw [if_neg h]
    have : (l' == x.l && t' == x.s) = false := by simpa using h
    simp only [this, Bool.false_eq_true, if_false]
theorem StampE.put {es : List Ent} {clk : Nat} (h : StampE es clk) (l t v : Int) : StampE (putE l t v clk es) (if hasE l t es then clk else clk + 1) := by
 have hb : ∀ es : List Ent, hasE l t es = true → (putE l t v clk es).map (·.born) = es.map (·.born) := by
  intro es
  induction es with
  | nil => intro h; cases h
  | cons x r ih =>
   intro h
   unfold hasE at h
   unfold putE
   cases hx : (l == x.l && t == x.s)
   ·rw [hx, Bool.false_or] at h
    simp [ih h]
   ·simp
 cases hh : hasE l t es
 ·rw [putE_none _ _ _ _ _ hh]
  simp only [Bool.false_eq_true, if_false]
  refine ⟨fun y hy => ?_, ?_⟩
  ·rcases List.mem_append.1 hy with hy | hy
   ·exact Nat.lt_succ_of_lt (h.1 y hy)
   ·simp at hy; subst hy; exact Nat.lt_succ_self _
  ·rw [List.map_append, List.nodup_append]
   refine ⟨h.2, by simp, fun a ha b hb => ?_⟩
   simp at hb
   subst hb
   obtain ⟨y, hy, rfl⟩ := List.mem_map.1 ha
   have := h.1 y hy
   omega
 ·simp only [if_true]
  have e := hb es hh
  refine ⟨fun y hy => ?_, by rw [e]; exact h.2⟩
  have : y.born ∈ es.map (·.born) := by rw [← e]; exact List.mem_map_of_mem hy
  obtain ⟨z, hz, e2⟩ := List.mem_map.1 this
  have := h.1 z hz
  omega
theorem valE_del_ne (l t l' t' : Int) (hne : ¬ (l' = l ∧ t' = t)) : ∀ es : List Ent, valE l' t' (delE l t es) = valE l' t' es
 | [] => rfl
 | x :: r => by
  have ih := valE_del_ne l t l' t' hne r
  unfold delE
  cases hx : (l == x.l && t == x.s)
  ·simp only [Bool.false_eq_true, if_false, valE, ih]
  ·simp only [Bool.and_eq_true, beq_iff_eq] at hx
   obtain ⟨rfl, rfl⟩ := hx
   have : (l' == x.l && t' == x.s) = false := by simpa using hne
   simp only [if_true, valE, this, Bool.false_eq_true, if_false]
theorem valE_del (l t : Int) : ∀ es : List Ent, OnceE es → valE l t (delE l t es) = 0
 | [], _ => rfl
 | x :: r, h => by
  unfold OnceE at h
  simp only [List.map_cons, List.nodup_cons] at h
  unfold delE
  cases hx : (l == x.l && t == x.s)
  ·simp only [Bool.false_eq_true, if_false, valE, hx]
   exact valE_del l t r h.2
  ·simp only [Bool.and_eq_true, beq_iff_eq] at hx
   obtain ⟨rfl, rfl⟩ := hx
   simp only [if_true]
   apply hasE_val
   have h1 := h.1
   have : ∀ r : List Ent, (x.l, x.s) ∉ r.map (fun x => (x.l, x.s)) → hasE x.l x.s r = false := by
    intro r
    induction r with
    | nil => intro _; rfl
    | cons y r ih =>
     intro h
     simp only [List.map_cons, List.mem_cons, not_or] at h
     unfold hasE
     rw [ih h.2, Bool.or_false]
     have := h.1
     simp only [Prod.mk.injEq] at this
     simpa using this
   exact this r h1
theorem OnceE.del {es : List Ent} (h : OnceE es) (l t : Int) : OnceE (delE l t es) := by
 induction es with
 | nil => exact h
 | cons x r ih =>
  unfold OnceE at h ih ⊢
  simp only [List.map_cons, List.nodup_cons] at h
  unfold delE
  split
  ·exact h.2
  ·simp only [List.map_cons, List.nodup_cons]
   refine ⟨fun hm => h.1 ?_, ih h.2⟩
   obtain ⟨y, hy, e⟩ := List.mem_map.1 hm
   have : ∀ r : List Ent, y ∈ delE l t r → y ∈ r := fun r => by
    induction r with
    | nil => intro h; exact h
    | cons z r ih =>
     intro h
     unfold delE at h
     split at h
     ·exact List.mem_cons_of_mem _ h
     ·rcases List.mem_cons.1 h with rfl | h
      ·exact List.mem_cons_self
      ·exact List.mem_cons_of_mem _ (ih h)
   exact List.mem_map.2 ⟨y, this r hy, e⟩
theorem watch_given (s : MachS) (lv : Int) (acc wr : Nat) : (s.watch lv acc wr).given = s.given ∧ ((s.watch lv acc wr).fault = (s.fault || (decide (s.mem.acc ≠ acc) && s.wrong lv acc wr))) := by
 unfold MachS.watch
 split
 ·rename_i h; simp [h]
 ·rename_i h
  split
  ·rename_i h2; simp [h, h2]
  ·rename_i h2; simp [h, h2]
theorem at_acc (m : MemS) (x : Int) : (m.at_ x).acc = m.acc + 1 ∧ (m.at_ x).wr = m.wr ∧ (m.at_ x).N = m.N := by
 unfold MemS.at_
 split <;> exact ⟨rfl, rfl, rfl⟩
theorem store_acc (m : MemS) (x v : Int) : (m.store x v).acc = m.acc + 1 ∧ (m.store x v).wr ≤ m.wr + 1 ∧ (m.store x v).N = m.N := by
 unfold MemS.store
 split
 ·exact ⟨(at_acc m x).1, Nat.le_refl _, (at_acc m x).2.2⟩
 ·exact ⟨(at_acc m x).1, by rw [(at_acc m x).2.1]; exact Nat.le_succ _, (at_acc m x).2.2⟩
theorem watch_same (s : MachS) (lv : Int) (acc wr : Nat) : (s.watch lv acc wr).c = s.c ∧ (s.watch lv acc wr).tp = s.tp ∧ (s.watch lv acc wr).mem = s.mem ∧ (s.watch lv acc wr).clk = s.clk ∧ (s.watch lv acc wr).steps = s.steps ∧ (s.watch lv acc wr).thr = s.thr ∧ (s.watch lv acc wr).ward = s.ward := by
 unfold MachS.watch
 split
 ·exact ⟨rfl, rfl, rfl, rfl, rfl, rfl, rfl⟩
 ·split <;> exact ⟨rfl, rfl, rfl, rfl, rfl, rfl, rfl⟩
theorem OnceE.put {es : List Ent} (h : OnceE es) (l t v : Int) (clk : Nat) : OnceE (putE l t v clk es) := by
 have hm : ∀ (es : List Ent) (y : Int × Int), y ∈ (putE l t v clk es).map (fun x => (x.l, x.s)) → y = (l, t) ∨ y ∈ es.map (fun x => (x.l, x.s)) := by
  intro es
  induction es with
  | nil => intro y hy; simp [putE] at hy; exact .inl hy
  | cons x r ih =>
   intro y hy
   unfold putE at hy
   split at hy
   ·exact .inr (by simpa using hy)
   ·simp only [List.map_cons, List.mem_cons] at hy ⊢
    rcases hy with hy | hy
    ·exact .inr (.inl hy)
    ·rcases ih y hy with h | h
     ·exact .inl h
     ·exact .inr (.inr h)
 induction es with
 | nil => unfold OnceE; simp [putE]
 | cons x r ih =>
  unfold OnceE at h ih ⊢
  simp only [List.map_cons, List.nodup_cons] at h
  unfold putE
  split
  ·simpa using h
  ·rename_i hne
   simp only [List.map_cons, List.nodup_cons]
   refine ⟨fun hx => ?_, ih h.2⟩
   rcases hm r _ hx with e | e
   ·apply hne
    simp only [Prod.mk.injEq] at e
    simp [e.1, e.2]
   ·exact h.1 e
end
section
open Go.RowKit
theorem delE_sub (l t : Int) : ∀ es : List Ent, (delE l t es).Sublist es
 | [] => .slnil
 | x :: r => by
  unfold delE
  split
  ·exact List.sublist_cons_self _ _
  ·exact (delE_sub l t r).cons_cons _
theorem StampE.del {es : List Ent} {clk : Nat} (h : StampE es clk) (l t : Int) : StampE (delE l t es) clk :=
 ⟨fun x hx => h.1 x ((delE_sub l t es).subset hx), h.2.sublist ((delE_sub l t es).map _)⟩
/-- Each entry is a slot that there is, and its number is 1. -/
def KeysE (lv sl : Int) (es : List Ent) : Prop := ∀ x ∈ es, 0 ≤ x.l ∧ x.l < lv ∧ 1 ≤ x.s ∧ x.s ≤ sl ∧ x.v = 1
theorem KeysE.del {lv sl : Int} {es : List Ent} (h : KeysE lv sl es) (l t : Int) : KeysE lv sl (delE l t es) := fun x hx => h x ((delE_sub l t es).subset hx)
theorem KeysE.put {lv sl : Int} {l t : Int} (hl : 0 ≤ l ∧ l < lv ∧ 1 ≤ t ∧ t ≤ sl) (clk : Nat) : ∀ {es : List Ent}, KeysE lv sl es → KeysE lv sl (putE l t 1 clk es)
 | [], _ => fun x hx => by
  simp only [putE, List.mem_singleton] at hx
  subst hx
  exact ⟨hl.1, hl.2.1, hl.2.2.1, hl.2.2.2, rfl⟩
 | y :: r, h => fun x hx => by
  unfold putE at hx
  have hy := h y List.mem_cons_self
  split at hx
  ·rcases List.mem_cons.1 hx with e | hx
   ·subst e; exact ⟨hy.1, hy.2.1, hy.2.2.1, hy.2.2.2.1, rfl⟩
   ·exact h x (List.mem_cons_of_mem _ hx)
  ·rcases List.mem_cons.1 hx with e | hx
   ·subst e; exact hy
   ·exact KeysE.put hl clk (fun z hz => h z (List.mem_cons_of_mem _ hz)) x hx
end
section
open Go.RowKit
/-- A frame. -/
structure Fr where
 fn : Nat
 pc : Nat
 r : Nat → Nat
def Fr.enc (F : Fr) : FrameS := ⟨F.fn, F.pc, fun i => F.r i⟩
def Fr.goto (F : Fr) (k : Nat) : Fr := { F with pc := k }
def Fr.reg (F : Fr) (i v : Nat) : Fr := { F with r := put1 F.r i v }
theorem fr_goto (F : Fr) (k : Nat) : F.enc.goto (k : Nat) = (F.goto k).enc := rfl
theorem fr_reg (F : Fr) (i v : Nat) : F.enc.reg i (v : Nat) = (F.reg i v).enc := by
 unfold FrameS.reg Fr.reg Fr.enc
 congr 1
 funext j
 unfold upd put1
 by_cases h : j = i <;> simp [h]
structure GM where
 w : Nat → Nat → Nat
 held : Nat → Nat → Bool
 wg : Nat → Nat → Nat
 thr : Nat → List Fr
 told : Nat → Nat → Nat
def GM.set (g : GM) (l o v : Nat) : GM := { g with w := put1 g.w l (put1 (g.w l) o v) }
def GM.top (g : GM) (t : Nat) (fs : List Fr) (F : Fr) : GM := { g with thr := put1 g.thr t (fs ++ [F]) }
def GM.back (g : GM) (t : Nat) (fs : List Fr) (us : List Nat) : GM := { g with thr := put1 g.thr t fs, told := put1 g.told t fun i => us.getD i 0 }
def GM.hold (g : GM) (l i : Nat) : GM := { g with held := put1 g.held l (put1 (g.held l) i true) }
def GM.drop (g : GM) (l i : Nat) : GM := { g with held := put1 g.held l (put1 (g.held l) i false), wg := put1 g.wg l (put1 (g.wg l) i (g.wg l i + 1)) }
/-- Which word of its level a place is. -/
def offK (c : Nat → Int) (k : Nat) (i j : Int) : Nat := (firsts c k + numK k i j).toNat
theorem off_lt {c : Nat → Int} (hc : ConfMay c) {k : Nat} {i j : Int} (hk : InK c k i j) : 0 ≤ firsts c k + numK k i j ∧ (offK c k i j : Int) < firsts c 10 := by
 have hs := firsts_succ c (k := k) hk.kind
 have hnn := numK_nn hk
 have hhi := hk.high
 have hf0 := (firsts_bd hc k).1
 have hkk := hk.kind
 have hle : firsts c (k + 1) ≤ firsts c 10 := by
  obtain ⟨_, _, _, _, ⟨g2, g3⟩, ⟨g4, g5⟩, _⟩ := hc
  unfold firsts
  rcases k with _ | _ | _ | _ | _ | _ | _ | _ | _ | _ | k <;> simp <;> omega
 unfold offK
 omega
theorem atK_off {c : Nat → Int} (hc : ConfMay c) {k l : Nat} {i j : Int} (hk : InK c k i j) : (atK c (l : Nat) k i j).toNat = l * (firsts c 10).toNat + offK c k i j := by
 have h1 := (off_lt hc hk).1
 have h2 := (firsts_bd hc 10).1
 have e : atK c (l : Nat) k i j = ((l * (firsts c 10).toNat + offK c k i j : Nat) : Int) := by
  unfold atK offK
  rw [Int.natCast_add, Int.natCast_mul, Int.toNat_of_nonneg h2, Int.toNat_of_nonneg h1]
  omega
 rw [e, Int.toNat_natCast]
theorem place_ne {Z l l' o o' : Nat} (h : o < Z) (h' : o' < Z) (e : l * Z + o = l' * Z + o') : l = l' ∧ o = o' := by
 have a1 : (l * Z + o) / Z = l := by rw [Nat.add_comm, Nat.add_mul_div_right _ _ (by omega), Nat.div_eq_of_lt h, Nat.zero_add]
 have a2 : (l' * Z + o') / Z = l' := by rw [Nat.add_comm, Nat.add_mul_div_right _ _ (by omega), Nat.div_eq_of_lt h', Nat.zero_add]
 have : l = l' := by rw [← a1, ← a2, e]
 subst this
 exact ⟨rfl, by omega⟩
/-- Words, by level and offset. -/
def WordsM (c : Nat → Int) (f : Nat → Int) (w : Nat → Nat → Nat) : Prop := ∀ l o : Nat, (l : Int) < c 0 → (o : Int) < firsts c 10 → f (l * (firsts c 10).toNat + o) = (w l o : Int)
theorem WordsM.at {c f : Nat → Int} {w : Nat → Nat → Nat} (h : WordsM c f w) (hc : ConfMay c) {l k : Nat} {i j : Int} (hl : (l : Int) < c 0) (hk : InK c k i j) : f (atK c (l : Nat) k i j).toNat = (w l (offK c k i j) : Int) := by
 rw [atK_off hc hk]
 exact h l _ hl (off_lt hc hk).2
theorem WordsM.set {c f : Nat → Int} {w : Nat → Nat → Nat} (h : WordsM c f w) (hc : ConfMay c) {l k : Nat} {i j : Int} (hk : InK c k i j) (v : Nat) : WordsM c (upd f (atK c (l : Nat) k i j).toNat v) (put1 w l (put1 (w l) (offK c k i j) v)) := fun l' o hl ho => by
 rw [atK_off hc hk]
 have hb := (off_lt hc hk).2
 have h2 := (firsts_bd hc 10).1
 unfold upd
 by_cases e : l' * (firsts c 10).toNat + o = l * (firsts c 10).toNat + offK c k i j
 ·obtain ⟨e1, e2⟩ := place_ne (by omega) (by omega) e
  subst e1
  subst e2
  rw [if_pos rfl, put1_same, put1_same]
 ·rw [if_neg e, h l' o hl ho]
  by_cases e1 : l' = l
  ·subst e1
   rw [put1_same, put1_ne fun e2 => e (by rw [e2])]
  ·rw [put1_ne e1]
/-- What the warden knows. -/
structure WardM (c : Nat → Int) (n : Nat) (wd : WardS) (held : Nat → Nat → Bool) (wg : Nat → Nat → Nat) : Prop where
 lv : wd.lv = c 0
 sl : wd.sl = c 10
 held : ∀ l i : Nat, (l : Int) < c 0 → 1 ≤ i → (i : Int) ≤ c 10 → valE (l : Nat) (i : Nat) wd.held = if held l i then 1 else 0
 gen : ∀ l i : Nat, (l : Int) < c 0 → 1 ≤ i → (i : Int) ≤ c 10 → valE (l : Nat) (i : Nat) wd.gens = (wg l i : Int)
 once : OnceE wd.held
 stamp : StampE wd.gens wd.gclk
 gens : ∀ l i : Int, 0 ≤ valE l i wd.gens ∧ valE l i wd.gens ≤ n
 slips : wd.slips = 0
 keys : KeysE (c 0) (c 10) wd.held
 hst : StampE wd.held wd.hclk
theorem WardM.mono {c : Nat → Int} {n m : Nat} {wd : WardS} {held : Nat → Nat → Bool} {wg : Nat → Nat → Nat} (h : WardM c n wd held wg) (hm : n ≤ m) : WardM c m wd held wg := ⟨h.lv, h.sl, h.held, h.gen, h.once, h.stamp, fun l i => by have := h.gens l i; omega, h.slips, h.keys, h.hst⟩
theorem WardM.take {c : Nat → Int} {n l i : Nat} {wd : WardS} {held : Nat → Nat → Bool} {wg : Nat → Nat → Nat} (h : WardM c n wd held wg) (hl : (l : Int) < c 0) (h1 : 1 ≤ i) (h2 : (i : Int) ≤ c 10) : WardM c n (wd.take (l : Nat) (i : Nat)) (put1 held l (put1 (held l) i true)) wg := by
 refine ⟨h.lv, h.sl, fun l' j a1 a2 a3 => ?_, h.gen, h.once.put _ _ _ _, h.stamp, h.gens, h.slips, h.keys.put ⟨by omega, hl, by omega, h2⟩ _, h.hst.put _ _ _⟩
 show valE _ _ (putE _ _ _ _ _) = _
 rw [valE_put]
 by_cases hl' : l' = l
 ·subst hl'
  rw [put1_same]
  by_cases hj : j = i
  ·subst hj; rw [put1_same, if_pos ⟨rfl, rfl⟩]; rfl
  ·rw [put1_ne hj, if_neg (by omega), h.held l' j a1 a2 a3]
 ·rw [put1_ne hl', if_neg (by omega), h.held l' j a1 a2 a3]
theorem WardM.gone {c : Nat → Int} {n l i : Nat} {wd : WardS} {held : Nat → Nat → Bool} {wg : Nat → Nat → Nat} (h : WardM c n wd held wg) (hl : (l : Int) < c 0) (h1 : 1 ≤ i) (h2 : (i : Int) ≤ c 10) : WardM c (n + 1) (wd.gone (l : Nat) (i : Nat)) (put1 held l (put1 (held l) i false)) (put1 wg l (put1 (wg l) i (wg l i + 1))) := by
 refine ⟨h.lv, h.sl, fun l' j h1 h2 h3 => ?_, fun l' j a1 a2 a3 => ?_, h.once.del _ _, h.stamp.put _ _ _, fun l' j => ?_, h.slips, h.keys.del _ _, h.hst.del _ _⟩
 ·show valE _ _ (delE _ _ _) = _
  by_cases hl : l' = l
  ·subst hl
   rw [put1_same]
   by_cases hj : j = i
   ·subst hj; rw [put1_same, valE_del _ _ _ h.once]; rfl
   ·rw [put1_ne hj, valE_del_ne _ _ _ _ (by omega), h.held l' j h1 h2 h3]
  ·rw [put1_ne hl, valE_del_ne _ _ _ _ (by omega), h.held l' j h1 h2 h3]
 ·show valE _ _ (putE _ _ _ _ _) = _
  rw [valE_put]
  by_cases hl' : l' = l
  ·subst hl'
   rw [put1_same]
   by_cases hj : j = i
   ·subst hj; rw [put1_same, if_pos ⟨rfl, rfl⟩, h.gen l' j a1 a2 a3]; omega
   ·rw [put1_ne hj, if_neg (by omega), h.gen l' j a1 a2 a3]
  ·rw [put1_ne hl', if_neg (by omega), h.gen l' j a1 a2 a3]
 ·show 0 ≤ valE _ _ (putE _ _ _ _ _) ∧ valE _ _ (putE _ _ _ _ _) ≤ _
  rw [valE_put]
  have a := h.gens l i
  have b := h.gens l' j
  split <;> omega
/-- What threads are within, and were told. -/
structure ThrM (c : Nat → Int) (thr : Nat → ThrS) (g : GM) : Prop where
 fr : ∀ t : Nat, (t : Int) < c 1 → (thr t).frames = (g.thr t).map Fr.enc
 run : ∀ t : Nat, ((thr t).st || (thr t).ki) = false
 told : ∀ t j : Nat, (thr t).told j = (g.told t j : Int)
/-- The machine is so, behind n steps. -/
structure AbsM (c : Nat → Int) (tp : List Nat) (n : Nat) (s : MachS) (g : GM) : Prop where
 cc : s.c = c
 may : ConfMay c
 ttp : s.tp = tp
 memN : (s.mem.N : Int) = c 0 * firsts c 10
 words : WordsM c s.mem.f g.w
 ward : WardM c n s.ward g.held g.wg
 thr : ThrM c s.thr g
 flt : s.mem.flt = false
 fault : s.fault = false
 acc : s.mem.acc ≤ n
 wr : s.mem.wr ≤ n
 steps : s.steps ≤ n
 clk : ∀ k, s.clk k ≤ n
 given : s.given.length ≤ n
theorem AbsM.good {c : Nat → Int} {tp : List Nat} {n : Nat} {s : MachS} {g : GM} (h : AbsM c tp n s g) : s.bad = false := by
 unfold MachS.bad
 rw [h.fault, h.flt, h.ward.slips]
 rfl
/-- What a bit of a routine makes of a machine. -/
structure Did (c : Nat → Int) (n l : Nat) (s s2 : MachS) (g2 : GM) : Prop where
 e : s2.c = s.c ∧ s2.tp = s.tp ∧ s2.steps = s.steps ∧ s2.clk = (s.tick l).clk ∧ s2.fault = s.fault
 N : s2.mem.N = s.mem.N
 flt : s2.mem.flt = s.mem.flt
 acc : s2.mem.acc = s.mem.acc ∨ (s2.mem.acc = s.mem.acc + 1 ∧ s2.mem.last / firsts c 10 = (l : Int))
 wr : s2.mem.wr ≤ s.mem.wr + 1
 words : WordsM c s2.mem.f g2.w
 ward : WardM c (n + 1) s2.ward g2.held g2.wg
 thr : ThrM c s2.thr g2
 given : s2.given.length ≤ n + 1
section
variable {c : Nat → Int} {tp : List Nat} {n t l : Nat} {s s2 : MachS} {g g2 : GM} {thr : Nat → ThrS}
theorem AbsM.next (hA : AbsM c tp n s g) (h : Did c n l s s2 g2) : AbsM c tp (n + 1) (s2.after s l) g2 := by
 obtain ⟨a1, a2, a3, a4, a5, a6, a7, a8⟩ := after_same s2 s l
 obtain ⟨e1, e2, e3, e4, e5⟩ := h.e
 have hf : (s2.after s l).fault = false := by
  unfold MachS.after
  rw [(watch_given _ _ _ _).2]
  show (s2.fault || _) = false
  rw [e5, hA.fault, Bool.false_or]
  rcases h.acc with ea | ⟨ea, el⟩
  ·show (decide (s2.mem.acc ≠ s.mem.acc) && _) = false
   rw [ea]; simp
  ·unfold MachS.wrong MachS.lvOf
   show (_ && (decide ((s.mem.acc : Int) + 1 < (s2.mem.acc : Int)) || (_ && (decide ((l : Int) < s2.mem.last / firsts s2.c 10) || (_ && s2.mem.last / firsts s2.c 10 != (l : Int)))))) = false
   rw [ea, e1, hA.cc, el]
   simp
 refine ⟨a1.trans (e1.trans hA.cc), hA.may, a2.trans (e2.trans hA.ttp), by rw [a3, h.N]; exact hA.memN, by rw [a3]; exact h.words, by rw [a4]; exact h.ward, by rw [a5]; exact h.thr, by rw [a3, h.flt]; exact hA.flt, hf, ?_, ?_, ?_, fun k => ?_, by rw [a8]; exact h.given⟩
 ·rw [a3]; have := hA.acc; rcases h.acc with ea | ⟨ea, _⟩ <;> omega
 ·rw [a3]; have := hA.wr; have := h.wr; omega
 ·rw [a7, e3]; have := hA.steps; omega
 ·rw [a6, e4]
  show (if l ≤ k ∧ k < 4 then s.clk k + 1 else s.clk k) ≤ _
  have := hA.clk k
  split <;> omega
/-- A thread's top frame is another one. -/
theorem ThrM.top (h : ThrM c thr g) {fs : List Fr} {F : Fr} : ThrM c (fun j => if j = t then { thr t with frames := fs.map Fr.enc ++ [F.enc] } else thr j) (g.top t fs F) := by
 refine ⟨fun t' ht' => ?_, fun t' => ?_, fun t' j => ?_⟩
 ·show _ = List.map Fr.enc (put1 g.thr t (fs ++ [F]) t')
  by_cases h1 : t' = t
  ·subst h1; rw [put1_same, if_pos rfl]; simp
  ·rw [put1_ne h1, if_neg h1]; exact h.fr t' ht'
 ·by_cases h1 : t' = t
  ·subst h1; rw [if_pos rfl]; exact h.run t'
  ·rw [if_neg h1]; exact h.run t'
 ·by_cases h1 : t' = t
  ·subst h1; rw [if_pos rfl]; exact h.told t' j
  ·rw [if_neg h1]; exact h.told t' j
/-- A thread's top frame is over. -/
theorem ThrM.back (h : ThrM c thr g) {fs : List Fr} {us : List Nat} {x : ThrS} (hx : x.frames.dropLast = fs.map Fr.enc ∧ x.st = (thr t).st ∧ x.ki = (thr t).ki) : ThrM c (fun j => if j = t then x.back (us.map fun u : Nat => (u : Int)) else thr j) (g.back t fs us) := by
 refine ⟨fun t' ht' => ?_, fun t' => ?_, fun t' j => ?_⟩
 ·show _ = List.map Fr.enc (put1 g.thr t fs t')
  by_cases h1 : t' = t
  ·subst h1; rw [put1_same, if_pos rfl]; exact hx.1
  ·rw [put1_ne h1, if_neg h1]; exact h.fr t' ht'
 ·by_cases h1 : t' = t
  ·subst h1; rw [if_pos rfl]; show (x.st || x.ki) = false; rw [hx.2.1, hx.2.2]; exact h.run t'
  ·rw [if_neg h1]; exact h.run t'
 ·show _ = ((put1 g.told t (fun i => us.getD i 0) t' j : Nat) : Int)
  by_cases h1 : t' = t
  ·subst h1
   rw [put1_same, if_pos rfl]
   show (us.map fun u : Nat => (u : Int)).getD j 0 = _
   rw [List.getD_eq_getElem?_getD, List.getD_eq_getElem?_getD, List.getElem?_map]
   cases us[j]? <;> rfl
  ·rw [put1_ne h1, if_neg h1]; exact h.told t' j
/-- The memory behind one access. -/
def memTo' (m : MemS) (a : Int) (f : Nat → Int) (d : Nat) : MemS := { m with acc := m.acc + 1, last := a, named := true, f := f, wr := m.wr + d }
theorem at_to' {m : MemS} {a : Int} (h : m.hit a = true) : m.at_ a = memTo' m a m.f 0 := at_hit h
theorem store_to' {m : MemS} {a v : Int} (h : m.hit a = true) : m.store a v = memTo' m a (upd m.f a.toNat v) 1 := store_hit h
theorem cas_yes' {m : MemS} {a x v : Int} (h : m.hit a = true) (hs : m.swaps a x = true) : m.cas a x v = memTo' m a (upd m.f a.toNat v) 1 := by unfold MemS.cas; rw [if_pos hs]; exact store_hit h
theorem cas_no' {m : MemS} {a x v : Int} (h : m.hit a = true) (hs : m.swaps a x = false) : m.cas a x v = memTo' m a m.f 0 := by unfold MemS.cas; rw [hs]; exact at_hit h
theorem load_at' {m : MemS} {a : Int} {v : Int} (h : m.hit a = true) (hv : m.f a.toNat = v) : m.load a = v := (load_hit h).trans hv
/-- A bit of one access. -/
theorem Did.one {k d : Nat} {i j : Int} {f : Nat → Int} (hA : AbsM c tp n s g) (hk : InK c k i j) (hd : d ≤ 1) (e : s2.c = s.c ∧ s2.tp = s.tp ∧ s2.steps = s.steps ∧ s2.clk = (s.tick l).clk ∧ s2.fault = s.fault) (hm : s2.mem = memTo' s.mem (atK c (l : Nat) k i j) f d) (hW : WordsM c f g2.w) (hD : WardM c (n + 1) s2.ward g2.held g2.wg) (hT : ThrM c s2.thr g2) (hG : s2.given.length ≤ n + 1) : Did c n l s s2 g2 := by
 refine ⟨e, by rw [hm]; rfl, by rw [hm]; rfl, .inr ⟨by rw [hm]; rfl, ?_⟩, by rw [hm]; show s.mem.wr + d ≤ _; omega, by rw [hm]; exact hW, hD, hT, hG⟩
 rw [hm]
 have hs := firsts_succ c (k := k) hk.kind
 have h1 := off_lt hA.may hk
 have h31 := firsts_ten hA.may
 show atK c (l : Nat) k i j / firsts c 10 = _
 unfold offK at h1
 unfold atK
 generalize firsts c 10 = T at *
 rw [show (l : Int) * T + firsts c k + numK k i j = (firsts c k + numK k i j) + (l : Int) * T by omega, Int.add_mul_ediv_right _ _ (by omega), Int.ediv_eq_zero_of_lt h1.1 (by omega)]
 omega
/-- A bit of no access. -/
theorem Did.none (hA : AbsM c tp n s g) (e : s2.c = s.c ∧ s2.tp = s.tp ∧ s2.steps = s.steps ∧ s2.clk = (s.tick l).clk ∧ s2.fault = s.fault) (hm : s2.mem = s.mem) (hW : WordsM c s.mem.f g2.w) (hD : WardM c (n + 1) s2.ward g2.held g2.wg) (hT : ThrM c s2.thr g2) (hG : s2.given.length ≤ n + 1) : Did c n l s s2 g2 :=
 ⟨e, by rw [hm], by rw [hm], .inl (by rw [hm]), by rw [hm]; omega, by rw [hm]; exact hW, hD, hT, hG⟩
end
/-- What a function that does a bit of a thread's top frame makes of a machine. -/
def DoesTo (f : FuncId) (σ : World) (p t : Nat) (c : Nat → Int) (tp : List Nat) (n l : Nat) (g g2 : GM) : Prop := ∀ (K : Mm) (s : MachS) (M : Mm) (lab : Nat → Nat) (w : World), Has σ M w → Mach M lab p (s.tick l) → Base K M lab → AbsM c tp n s g → Calls Tryz.prog f #[.pointer (some ⟨p, 0, none⟩), .int .i64 (t : Nat)] w fun r w' => r = .returned (.tuple #[]) ∧ ∃ M' lab' s2, Has σ M' w' ∧ Mach M' lab' p s2 ∧ Base K M' lab' ∧ Did c n l s s2 g2
theorem frames_nil {l : List Fr} : (l.map Fr.enc).isEmpty = l.isEmpty := by cases l <;> rfl
/-- A step of a thread that is within something. -/
theorem step_does {σ w : World} {K M : Mm} {lab : Nat → Nat} {p t q l n : Nat} {s : MachS} {c : Nat → Int} {tp : List Nat} {g g2 : GM} {f : FuncId} (h : Has σ M w) (hM : Mach M lab p s) (hB : Base K M lab) (hA : AbsM c tp n s g) (hn : n < 100000) (ht : (t : Int) < c 1) (hq : tp[t]? = some q) (hl : levelOf c t = (l : Nat)) (hfr : g.thr t ≠ []) (hfl : (g.thr t).length < 100000) (hfl2 : (g2.thr t).length < 100000) (hent : entB Tryz.prog f = true) (hD : DoesTo f σ p t c tp n l g g2) :
  Calls Tryz.prog 33 #[.pointer (some ⟨p, 0, none⟩), .int .i64 (t : Nat), .func (.func f) #[] #[]] w fun r w' => ∃ M' lab' s', r = .returned (.bool (!(g2.thr t).isEmpty)) ∧ Has σ M' w' ∧ Mach M' lab' p s' ∧ Base K M' lab' ∧ AbsM c tp (n + 1) s' g2 := by
 have hfs := hA.thr.fr t ht
 have STP := step_eq (R := fun x => Did c n l s x g2) (F := f) (caps := #[]) h hM hB (t := t) (q := q) (lv := l) (by rw [hA.ttp]; exact hq) (by rw [hfs]; simpa using hfr) (hA.thr.run t) (by rw [hA.cc]; exact hl) (by have := hA.acc; omega) (by have := hA.steps; omega) (fun k => by have := hA.clk k; omega) (by rw [hfs, List.length_map]; omega) hent
  (fun M1 lab1 w1 h1 hM1 hB1 => by
   refine (hD K s M1 lab1 w1 h1 hM1 hB1 hA).mono fun r w' ⟨e, M', lab', s2, h', hM', hB', hd⟩ => ⟨e, M', lab', s2, h', hB', hM', hd⟩)
  (fun x hx => ⟨hx.e.2.1, by rw [hx.e.2.2.1]; have := hA.steps; omega, by rw [hx.thr.fr t ht, List.length_map]; omega⟩)
 refine STP.mono fun r w' hr => ?_
 obtain ⟨M', lab', x, hx, hr, h', hB', hM'⟩ := hr
 refine ⟨M', lab', x.after s l, by rw [hr, hx.thr.fr t ht, frames_nil], h', hM', hB', hA.next hx⟩
end
section
open Go.RowKit
theorem ThrM.set {c : Nat → Int} {thr : Nat → ThrS} {g : GM} (h : ThrM c thr g) (l o v : Nat) : ThrM c thr (g.set l o v) := ⟨h.fr, h.run, h.told⟩
/-- From a machine as numbers to a thread's top frame. -/
theorem AbsM.atTop {K M : Mm} {lab : Nat → Nat} {p t q l n : Nat} {c : Nat → Int} {tp : List Nat} {s : MachS} {g : GM} {fs : List Fr} {F : Fr} (hA : AbsM c tp n s g) (hM : Mach M lab p (s.tick l)) (hB : Base K M lab) (ht : (t : Int) < c 1) (hq : tp[t]? = some q) (hthr : g.thr t = fs ++ [F]) : ∃ b, AtTop K M lab p (s.tick l) t q b (fs.map Fr.enc) F.enc := by
 refine AtTop.of hM hB (by show s.tp[t]? = _; rw [hA.ttp]; exact hq) ?_
 show (s.thr t).frames = _
 rw [hA.thr.fr t ht, hthr, List.map_append]
 rfl
theorem ThrM.hold {c : Nat → Int} {thr : Nat → ThrS} {g : GM} (h : ThrM c thr g) (l i : Nat) : ThrM c thr (g.hold l i) := ⟨h.fr, h.run, h.told⟩
theorem ThrM.drop {c : Nat → Int} {thr : Nat → ThrS} {g : GM} (h : ThrM c thr g) (l i : Nat) : ThrM c thr (g.drop l i) := ⟨h.fr, h.run, h.told⟩
end
section
open Go.RowKit
/-- Where words are: of links, of nodes. -/
def oLk (B i : Nat) : Nat := 18 + B + (i - 1)
def oNd (B S i j : Nat) : Nat := 18 + B + S + (i - 1) * 5 + j
theorem off_free (c : Nat → Int) : offK c 0 0 0 = 0 := by unfold offK firsts numK baseK; simp
theorem off_link {c : Nat → Int} {B i : Nat} (hB : c 11 = (B : Nat)) (h1 : 1 ≤ i) : offK c 8 (i : Nat) 0 = oLk B i := by unfold offK oLk firsts numK baseK; simp; omega
theorem off_node {c : Nat → Int} {B S i j : Nat} (hB : c 11 = (B : Nat)) (hS : c 10 = (S : Nat)) (h1 : 1 ≤ i) : offK c 9 (i : Nat) (j : Nat) = oNd B S i j := by unfold offK oNd firsts numK; simp; omega
theorem inK_link' {c : Nat → Int} {i : Nat} (h1 : 1 ≤ i) (h2 : (i : Int) ≤ c 10) : InK c 8 (i : Nat) 0 := ⟨by omega, by unfold baseK; simp; omega, by omega, by omega, fun _ => rfl, by unfold numK many baseK; simp; omega⟩
theorem inK_node' {c : Nat → Int} {i j : Nat} (h1 : 1 ≤ i) (h2 : (i : Int) ≤ c 10) (hj : j < 5) : InK c 9 (i : Nat) (j : Nat) := ⟨by omega, by unfold baseK; simp; omega, by omega, by omega, fun h => absurd rfl h, by unfold numK many; simp; omega⟩
theorem does_t0 {σ : World} {p t q l n B S : Nat} {c : Nat → Int} {tp : List Nat} {g : GM} {fs : List Fr} {F : Fr} (hn : n < 100000) (ht : (t : Int) < c 1) (hq : tp[t]? = some q) (hl : levelOf c t = (l : Nat)) (hlc : (l : Int) < c 0) (hthr : g.thr t = fs ++ [F]) (hfs : fs.length < 100000) (hB' : c 11 = (B : Nat)) (hS' : c 10 = (S : Nat)) (h1 : F.fn = 1) (hp : F.pc = 0) (hr : F.r 1 < 18446744073709551616) : DoesTo 105 σ p t c tp n l g (g.top t fs ((F.reg 1 (g.w l 0)).goto 1)) := by
 intro K s M lab w h hM hB hA
 obtain ⟨b, hT⟩ := hA.atTop hM hB ht hq hthr
 obtain rfl := hA.cc
 have hmay := hA.may
 have b1 : (s.tick l).mem.acc < 1000000000 := by show s.mem.acc < _; have := hA.acc; omega
 have b2 : (s.tick l).mem.wr < 1000000000 := by show s.mem.wr < _; have := hA.wr; omega
 have hl' : levelOf (s.tick l).c (t : Nat) = (l : Nat) := hl
 have hlc' : (l : Int) < (s.tick l).c 0 := hlc
 have hfs' : (fs.map Fr.enc).length < 1000000 := by rw [List.length_map]; omega
 have gl : s.given.length ≤ n + 1 := Nat.le_succ_of_le hA.given
 have bk : (s.thr t).frames.dropLast = fs.map Fr.enc ∧ (s.thr t).st = (s.thr t).st ∧ (s.thr t).ki = (s.thr t).ki := ⟨by rw [hA.thr.fr t ht, hthr]; simp, rfl, rfl⟩
 have S256 := hmay.2.2.2.2.1
 have hk := inK_free s.c
 have hit := atK_hit hmay hA.memN hlc hk
 have hv : s.mem.load (atK s.c (l : Nat) 0 0 0) = (g.w l 0 : Int) := load_at' hit (by rw [hA.words.at hmay hlc hk, off_free])
 have hf0 : s.mem.f (atK s.c (l : Nat) 0 0 0).toNat = (g.w l 0 : Int) := by rw [hA.words.at hmay hlc hk, off_free]
 refine (do_takeR h hT (by show (F.fn : Int) = 1; omega) hfs' (R := fun s' => Did s.c n l s s' (g.top t fs ((F.reg 1 (g.w l 0)).goto 1))) fun K1 M1 lab1 w1 h1' hT1 => ?_).mono fun r w' ⟨e, M', lab', s', a1, a2, a3, a4⟩ => ⟨e, M', lab', s', a1, a3, a2, a4⟩
 refine (take_0 h1' hT1 (by show (F.pc : Int) = 0; omega) (x := F.r 1) rfl hr (spotAt_of hT1.mach hl' hlc' hk) b1).mono (fun r w' ⟨e, M', lab', h', hT'⟩ => ⟨e, M', lab', _, h', hT'.mach, hT'.base, ?_⟩)
 refine Did.one hA hk (Nat.zero_le _) ⟨rfl, rfl, rfl, rfl, rfl⟩ (at_to' hit) hA.words (hA.ward.mono (Nat.le_succ _)) ?_ gl
 have := hA.thr.top (t := t) (fs := fs) (F := (F.reg 1 (g.w l 0)).goto 1)
 rw [← fr_goto, ← fr_reg, ← hv] at this
 exact this
theorem does_t1a {σ : World} {p t q l n B S : Nat} {c : Nat → Int} {tp : List Nat} {g : GM} {fs : List Fr} {F : Fr} (hn : n < 100000) (ht : (t : Int) < c 1) (hq : tp[t]? = some q) (hl : levelOf c t = (l : Nat)) (hlc : (l : Int) < c 0) (hthr : g.thr t = fs ++ [F]) (hfs : fs.length < 100000) (hB' : c 11 = (B : Nat)) (hS' : c 10 = (S : Nat)) (h1 : F.fn = 1) (hp : F.pc = 1) (hr : F.r 1 < 18446744073709551616) (hs : slOf (F.r 1) = 0) : DoesTo 105 σ p t c tp n l g (g.back t fs [0, 0]) := by
 intro K s M lab w h hM hB hA
 obtain ⟨b, hT⟩ := hA.atTop hM hB ht hq hthr
 obtain rfl := hA.cc
 have hmay := hA.may
 have b1 : (s.tick l).mem.acc < 1000000000 := by show s.mem.acc < _; have := hA.acc; omega
 have b2 : (s.tick l).mem.wr < 1000000000 := by show s.mem.wr < _; have := hA.wr; omega
 have hl' : levelOf (s.tick l).c (t : Nat) = (l : Nat) := hl
 have hlc' : (l : Int) < (s.tick l).c 0 := hlc
 have hfs' : (fs.map Fr.enc).length < 1000000 := by rw [List.length_map]; omega
 have gl : s.given.length ≤ n + 1 := Nat.le_succ_of_le hA.given
 have bk : (s.thr t).frames.dropLast = fs.map Fr.enc ∧ (s.thr t).st = (s.thr t).st ∧ (s.thr t).ki = (s.thr t).ki := ⟨by rw [hA.thr.fr t ht, hthr]; simp, rfl, rfl⟩
 have S256 := hmay.2.2.2.2.1
 refine (do_takeR h hT (by show (F.fn : Int) = 1; omega) hfs' (R := fun s' => Did s.c n l s s' (g.back t fs [0, 0])) fun K1 M1 lab1 w1 h1' hT1 => ?_).mono fun r w' ⟨e, M', lab', s', a1, a2, a3, a4⟩ => ⟨e, M', lab', s', a1, a3, a2, a4⟩
 refine (take_1end h1' hT1 (by show (F.pc : Int) = 1; omega) (x := F.r 1) rfl hr hs hfs').mono (fun r w' ⟨e, M', lab', h', hM', hB'⟩ => ⟨e, M', lab', _, h', hM', hB', ?_⟩)
 exact Did.none hA ⟨rfl, rfl, rfl, rfl, rfl⟩ rfl hA.words (hA.ward.mono (Nat.le_succ _)) (hA.thr.back (t := t) (fs := fs) (us := [0, 0]) (x := s.thr t) bk) gl
theorem does_t1b {σ : World} {p t q l n B S : Nat} {c : Nat → Int} {tp : List Nat} {g : GM} {fs : List Fr} {F : Fr} (hn : n < 100000) (ht : (t : Int) < c 1) (hq : tp[t]? = some q) (hl : levelOf c t = (l : Nat)) (hlc : (l : Int) < c 0) (hthr : g.thr t = fs ++ [F]) (hfs : fs.length < 100000) (hB' : c 11 = (B : Nat)) (hS' : c 10 = (S : Nat)) (h1 : F.fn = 1) (hp : F.pc = 1) (hr : F.r 1 < 18446744073709551616) (hs : slOf (F.r 1) ≠ 0) (hs2 : slOf (F.r 1) ≤ S) : DoesTo 105 σ p t c tp n l g (g.top t fs ((F.reg 2 (g.w l (oLk B (slOf (F.r 1))))).goto 2)) := by
 intro K s M lab w h hM hB hA
 obtain ⟨b, hT⟩ := hA.atTop hM hB ht hq hthr
 obtain rfl := hA.cc
 have hmay := hA.may
 have b1 : (s.tick l).mem.acc < 1000000000 := by show s.mem.acc < _; have := hA.acc; omega
 have b2 : (s.tick l).mem.wr < 1000000000 := by show s.mem.wr < _; have := hA.wr; omega
 have hl' : levelOf (s.tick l).c (t : Nat) = (l : Nat) := hl
 have hlc' : (l : Int) < (s.tick l).c 0 := hlc
 have hfs' : (fs.map Fr.enc).length < 1000000 := by rw [List.length_map]; omega
 have gl : s.given.length ≤ n + 1 := Nat.le_succ_of_le hA.given
 have bk : (s.thr t).frames.dropLast = fs.map Fr.enc ∧ (s.thr t).st = (s.thr t).st ∧ (s.thr t).ki = (s.thr t).ki := ⟨by rw [hA.thr.fr t ht, hthr]; simp, rfl, rfl⟩
 have S256 := hmay.2.2.2.2.1
 have hk := inK_link' (c := s.c) (i := slOf (F.r 1)) (by omega) (by omega)
 have hit := atK_hit hmay hA.memN hlc hk
 have hv : s.mem.load (atK s.c (l : Nat) 8 (slOf (F.r 1) : Nat) 0) = (g.w l (oLk B (slOf (F.r 1))) : Int) := load_at' hit (by rw [hA.words.at hmay hlc hk, off_link hB' (by omega)])
 refine (do_takeR h hT (by show (F.fn : Int) = 1; omega) hfs' (R := fun s' => Did s.c n l s s' (g.top t fs ((F.reg 2 (g.w l (oLk B (slOf (F.r 1))))).goto 2))) fun K1 M1 lab1 w1 h1' hT1 => ?_).mono fun r w' ⟨e, M', lab', s', a1, a2, a3, a4⟩ => ⟨e, M', lab', s', a1, a3, a2, a4⟩
 refine (take_1 h1' hT1 (by show (F.pc : Int) = 1; omega) (x := F.r 1) rfl hr hs (spotAt_of hT1.mach hl' hlc' hk) b1).mono (fun r w' ⟨e, M', lab', h', hT'⟩ => ⟨e, M', lab', _, h', hT'.mach, hT'.base, ?_⟩)
 refine Did.one hA hk (Nat.zero_le _) ⟨rfl, rfl, rfl, rfl, rfl⟩ (at_to' hit) hA.words (hA.ward.mono (Nat.le_succ _)) ?_ gl
 have := hA.thr.top (t := t) (fs := fs) (F := (F.reg 2 (g.w l (oLk B (slOf (F.r 1))))).goto 2)
 rw [← fr_goto, ← fr_reg, ← hv] at this
 exact this
theorem does_t2a {σ : World} {p t q l n B S : Nat} {c : Nat → Int} {tp : List Nat} {g : GM} {fs : List Fr} {F : Fr} (hn : n < 100000) (ht : (t : Int) < c 1) (hq : tp[t]? = some q) (hl : levelOf c t = (l : Nat)) (hlc : (l : Int) < c 0) (hthr : g.thr t = fs ++ [F]) (hfs : fs.length < 100000) (hB' : c 11 = (B : Nat)) (hS' : c 10 = (S : Nat)) (h1 : F.fn = 1) (hp : F.pc = 2) (hr : F.r 1 < 18446744073709551616) (hs0 : slOf (F.r 1) ≠ 0) (hs2 : slOf (F.r 1) ≤ S) (hy : F.r 2 < 9223372036854775808) (hs : g.w l 0 = F.r 1) (hh : g.held l (slOf (F.r 1)) = false) : DoesTo 105 σ p t c tp n l g (((g.set l 0 (mkTop (F.r 2) (cnt (F.r 1) + 1))).hold l (slOf (F.r 1))).top t fs (F.goto 3)) := by
 intro K s M lab w h hM hB hA
 obtain ⟨b, hT⟩ := hA.atTop hM hB ht hq hthr
 obtain rfl := hA.cc
 have hmay := hA.may
 have b1 : (s.tick l).mem.acc < 1000000000 := by show s.mem.acc < _; have := hA.acc; omega
 have b2 : (s.tick l).mem.wr < 1000000000 := by show s.mem.wr < _; have := hA.wr; omega
 have hl' : levelOf (s.tick l).c (t : Nat) = (l : Nat) := hl
 have hlc' : (l : Int) < (s.tick l).c 0 := hlc
 have hfs' : (fs.map Fr.enc).length < 1000000 := by rw [List.length_map]; omega
 have gl : s.given.length ≤ n + 1 := Nat.le_succ_of_le hA.given
 have bk : (s.thr t).frames.dropLast = fs.map Fr.enc ∧ (s.thr t).st = (s.thr t).st ∧ (s.thr t).ki = (s.thr t).ki := ⟨by rw [hA.thr.fr t ht, hthr]; simp, rfl, rfl⟩
 have S256 := hmay.2.2.2.2.1
 have hk := inK_free s.c
 have hit := atK_hit hmay hA.memN hlc hk
 have hv : s.mem.load (atK s.c (l : Nat) 0 0 0) = (g.w l 0 : Int) := load_at' hit (by rw [hA.words.at hmay hlc hk, off_free])
 have hf0 : s.mem.f (atK s.c (l : Nat) 0 0 0).toNat = (g.w l 0 : Int) := by rw [hA.words.at hmay hlc hk, off_free]
 have hsw : (s.tick l).mem.swaps (atK (s.tick l).c (l : Nat) 0 0 0) (F.r 1 : Nat) = true := by show s.mem.swaps _ _ = true; unfold MemS.swaps; rw [show (s.tick l).c = s.c from rfl, hit, hf0, hs]; simp
 have hth : (s.tick l).ward.there (l : Nat) (cutN (F.r 1) 0 8 : Nat) = true := WardS.there_iff.2 ⟨by omega, by show (l : Int) < s.ward.lv; rw [hA.ward.lv]; exact hlc, by have : slOf (F.r 1) = cutN (F.r 1) 0 8 := rfl; omega, by show _ ≤ s.ward.sl; rw [hA.ward.sl, hS']; have : slOf (F.r 1) = cutN (F.r 1) 0 8 := rfl; omega⟩
 have hv0 : valE (l : Nat) (cutN (F.r 1) 0 8 : Nat) (s.tick l).ward.held = 0 := by
  show valE _ ((slOf (F.r 1) : Nat) : Int) s.ward.held = 0
  rw [hA.ward.held l _ hlc (by omega) (by omega), hh]; rfl
 refine (do_takeR h hT (by show (F.fn : Int) = 1; omega) hfs' (R := fun s' => Did s.c n l s s' (((g.set l 0 (mkTop (F.r 2) (cnt (F.r 1) + 1))).hold l (slOf (F.r 1))).top t fs (F.goto 3))) fun K1 M1 lab1 w1 h1' hT1 => ?_).mono fun r w' ⟨e, M', lab', s', a1, a2, a3, a4⟩ => ⟨e, M', lab', s', a1, a3, a2, a4⟩
 refine (take_2yes h1' hT1 (by show (F.pc : Int) = 2; omega) (x := F.r 1) (y := F.r 2) rfl hr rfl hy hl' hlc' b1 b2 hsw hth hv0).mono (fun r w' ⟨e, M', lab', h', hT'⟩ => ⟨e, M', lab', _, h', hT'.mach, hT'.base, ?_⟩)
 refine Did.one hA hk (Nat.le_refl _) ⟨rfl, rfl, rfl, rfl, rfl⟩ (cas_yes' hit hsw) ?_ ((hA.ward.take (i := slOf (F.r 1)) hlc (by omega) (by omega)).mono (Nat.le_succ _)) (((hA.thr.set l 0 _).hold l (slOf (F.r 1))).top (t := t) (fs := fs) (F := F.goto 3)) gl
 have := hA.words.set hmay (l := l) hk (mkTop (F.r 2) (cnt (F.r 1) + 1))
 rw [off_free] at this
 exact this
theorem does_t2b {σ : World} {p t q l n B S : Nat} {c : Nat → Int} {tp : List Nat} {g : GM} {fs : List Fr} {F : Fr} (hn : n < 100000) (ht : (t : Int) < c 1) (hq : tp[t]? = some q) (hl : levelOf c t = (l : Nat)) (hlc : (l : Int) < c 0) (hthr : g.thr t = fs ++ [F]) (hfs : fs.length < 100000) (hB' : c 11 = (B : Nat)) (hS' : c 10 = (S : Nat)) (h1 : F.fn = 1) (hp : F.pc = 2) (hr : F.r 1 < 18446744073709551616) (hy : F.r 2 < 9223372036854775808) (hs : g.w l 0 ≠ F.r 1) : DoesTo 105 σ p t c tp n l g (g.top t fs (F.goto 0)) := by
 intro K s M lab w h hM hB hA
 obtain ⟨b, hT⟩ := hA.atTop hM hB ht hq hthr
 obtain rfl := hA.cc
 have hmay := hA.may
 have b1 : (s.tick l).mem.acc < 1000000000 := by show s.mem.acc < _; have := hA.acc; omega
 have b2 : (s.tick l).mem.wr < 1000000000 := by show s.mem.wr < _; have := hA.wr; omega
 have hl' : levelOf (s.tick l).c (t : Nat) = (l : Nat) := hl
 have hlc' : (l : Int) < (s.tick l).c 0 := hlc
 have hfs' : (fs.map Fr.enc).length < 1000000 := by rw [List.length_map]; omega
 have gl : s.given.length ≤ n + 1 := Nat.le_succ_of_le hA.given
 have bk : (s.thr t).frames.dropLast = fs.map Fr.enc ∧ (s.thr t).st = (s.thr t).st ∧ (s.thr t).ki = (s.thr t).ki := ⟨by rw [hA.thr.fr t ht, hthr]; simp, rfl, rfl⟩
 have S256 := hmay.2.2.2.2.1
 have hk := inK_free s.c
 have hit := atK_hit hmay hA.memN hlc hk
 have hv : s.mem.load (atK s.c (l : Nat) 0 0 0) = (g.w l 0 : Int) := load_at' hit (by rw [hA.words.at hmay hlc hk, off_free])
 have hf0 : s.mem.f (atK s.c (l : Nat) 0 0 0).toNat = (g.w l 0 : Int) := by rw [hA.words.at hmay hlc hk, off_free]
 have hsw : (s.tick l).mem.swaps (atK (s.tick l).c (l : Nat) 0 0 0) (F.r 1 : Nat) = false := by show s.mem.swaps _ _ = false; unfold MemS.swaps; rw [show (s.tick l).c = s.c from rfl, hit, hf0]; simp; omega
 refine (do_takeR h hT (by show (F.fn : Int) = 1; omega) hfs' (R := fun s' => Did s.c n l s s' (g.top t fs (F.goto 0))) fun K1 M1 lab1 w1 h1' hT1 => ?_).mono fun r w' ⟨e, M', lab', s', a1, a2, a3, a4⟩ => ⟨e, M', lab', s', a1, a3, a2, a4⟩
 refine (take_2no h1' hT1 (by show (F.pc : Int) = 2; omega) (x := F.r 1) (y := F.r 2) rfl hr rfl hy hl' hlc' b1 b2 hsw).mono (fun r w' ⟨e, M', lab', h', hT'⟩ => ⟨e, M', lab', _, h', hT'.mach, hT'.base, ?_⟩)
 exact Did.one hA hk (Nat.zero_le _) ⟨rfl, rfl, rfl, rfl, rfl⟩ (cas_no' hit hsw) hA.words (hA.ward.mono (Nat.le_succ _)) (hA.thr.top (t := t) (fs := fs) (F := F.goto 0)) gl
theorem does_t3 {σ : World} {p t q l n B S : Nat} {c : Nat → Int} {tp : List Nat} {g : GM} {fs : List Fr} {F : Fr} (hn : n < 100000) (ht : (t : Int) < c 1) (hq : tp[t]? = some q) (hl : levelOf c t = (l : Nat)) (hlc : (l : Int) < c 0) (hthr : g.thr t = fs ++ [F]) (hfs : fs.length < 100000) (hB' : c 11 = (B : Nat)) (hS' : c 10 = (S : Nat)) (h1 : F.fn = 1) (hp : F.pc = 3) (hr : F.r 1 < 18446744073709551616) (hs0 : slOf (F.r 1) ≠ 0) (hs2 : slOf (F.r 1) ≤ S) (hz : g.w l (oNd B S (slOf (F.r 1)) 0) < 18446744073709551616) : DoesTo 105 σ p t c tp n l g (g.back t fs [slOf (F.r 1), genOf (g.w l (oNd B S (slOf (F.r 1)) 0))]) := by
 intro K s M lab w h hM hB hA
 obtain ⟨b, hT⟩ := hA.atTop hM hB ht hq hthr
 obtain rfl := hA.cc
 have hmay := hA.may
 have b1 : (s.tick l).mem.acc < 1000000000 := by show s.mem.acc < _; have := hA.acc; omega
 have b2 : (s.tick l).mem.wr < 1000000000 := by show s.mem.wr < _; have := hA.wr; omega
 have hl' : levelOf (s.tick l).c (t : Nat) = (l : Nat) := hl
 have hlc' : (l : Int) < (s.tick l).c 0 := hlc
 have hfs' : (fs.map Fr.enc).length < 1000000 := by rw [List.length_map]; omega
 have gl : s.given.length ≤ n + 1 := Nat.le_succ_of_le hA.given
 have bk : (s.thr t).frames.dropLast = fs.map Fr.enc ∧ (s.thr t).st = (s.thr t).st ∧ (s.thr t).ki = (s.thr t).ki := ⟨by rw [hA.thr.fr t ht, hthr]; simp, rfl, rfl⟩
 have S256 := hmay.2.2.2.2.1
 have hk := inK_node' (c := s.c) (i := slOf (F.r 1)) (j := 0) (by omega) (by omega) (by omega)
 have hit := atK_hit hmay hA.memN hlc hk
 have hv : s.mem.load (atK s.c (l : Nat) 9 (slOf (F.r 1) : Nat) ((0 : Nat) : Int)) = (g.w l (oNd B S (slOf (F.r 1)) 0) : Int) := load_at' hit (by rw [hA.words.at hmay hlc hk, off_node hB' hS' (by omega)])
 refine (do_takeR h hT (by show (F.fn : Int) = 1; omega) hfs' (R := fun s' => Did s.c n l s s' (g.back t fs [slOf (F.r 1), genOf (g.w l (oNd B S (slOf (F.r 1)) 0))])) fun K1 M1 lab1 w1 h1' hT1 => ?_).mono fun r w' ⟨e, M', lab', s', a1, a2, a3, a4⟩ => ⟨e, M', lab', s', a1, a3, a2, a4⟩
 refine (take_3 h1' hT1 (by show (F.pc : Int) = 3; omega) (x := F.r 1) rfl hr hl' hlc' hk hv hz b1 hfs').mono (fun r w' ⟨e, M', lab', h', hM', hB'⟩ => ⟨e, M', lab', _, h', hM', hB', ?_⟩)
 exact Did.one hA hk (Nat.zero_le _) ⟨rfl, rfl, rfl, rfl, rfl⟩ (at_to' hit) hA.words (hA.ward.mono (Nat.le_succ _)) (hA.thr.back (t := t) (fs := fs) (us := [slOf (F.r 1), genOf (g.w l (oNd B S (slOf (F.r 1)) 0))]) (x := s.thr t) bk) gl
theorem does_g0 {σ : World} {p t q l n B S : Nat} {c : Nat → Int} {tp : List Nat} {g : GM} {fs : List Fr} {F : Fr} (hn : n < 100000) (ht : (t : Int) < c 1) (hq : tp[t]? = some q) (hl : levelOf c t = (l : Nat)) (hlc : (l : Int) < c 0) (hthr : g.thr t = fs ++ [F]) (hfs : fs.length < 100000) (hB' : c 11 = (B : Nat)) (hS' : c 10 = (S : Nat)) (h1 : F.fn = 2) (hp : F.pc = 0) (x1 : 1 ≤ F.r 0) (x2 : F.r 0 ≤ S) (hz : g.w l (oNd B S (F.r 0) 0) < 18446744073709551616) : DoesTo 105 σ p t c tp n l g (g.top t fs ((F.reg 2 (genOf (g.w l (oNd B S (F.r 0) 0)) + 1)).goto 1)) := by
 intro K s M lab w h hM hB hA
 obtain ⟨b, hT⟩ := hA.atTop hM hB ht hq hthr
 obtain rfl := hA.cc
 have hmay := hA.may
 have b1 : (s.tick l).mem.acc < 1000000000 := by show s.mem.acc < _; have := hA.acc; omega
 have b2 : (s.tick l).mem.wr < 1000000000 := by show s.mem.wr < _; have := hA.wr; omega
 have hl' : levelOf (s.tick l).c (t : Nat) = (l : Nat) := hl
 have hlc' : (l : Int) < (s.tick l).c 0 := hlc
 have hfs' : (fs.map Fr.enc).length < 1000000 := by rw [List.length_map]; omega
 have gl : s.given.length ≤ n + 1 := Nat.le_succ_of_le hA.given
 have bk : (s.thr t).frames.dropLast = fs.map Fr.enc ∧ (s.thr t).st = (s.thr t).st ∧ (s.thr t).ki = (s.thr t).ki := ⟨by rw [hA.thr.fr t ht, hthr]; simp, rfl, rfl⟩
 have S256 := hmay.2.2.2.2.1
 have hk := inK_node' (c := s.c) (i := F.r 0) (j := 0) (by omega) (by omega) (by omega)
 have hit := atK_hit hmay hA.memN hlc hk
 have hv : s.mem.load (atK s.c (l : Nat) 9 (F.r 0 : Nat) ((0 : Nat) : Int)) = (g.w l (oNd B S (F.r 0) 0) : Int) := load_at' hit (by rw [hA.words.at hmay hlc hk, off_node hB' hS' (by omega)])
 refine (do_giveR h hT (by show (F.fn : Int) = 2; omega) hfs' (R := fun s' => Did s.c n l s s' (g.top t fs ((F.reg 2 (genOf (g.w l (oNd B S (F.r 0) 0)) + 1)).goto 1))) fun K1 M1 lab1 w1 h1' hT1 => ?_).mono fun r w' ⟨e, M', lab', s', a1, a2, a3, a4⟩ => ⟨e, M', lab', s', a1, a3, a2, a4⟩
 refine (give_0 h1' hT1 (by show (F.pc : Int) = 0; omega) (sl := F.r 0) rfl (by omega) hl' hlc' hk hv hz b1).mono (fun r w' ⟨e, M', lab', h', hT'⟩ => ⟨e, M', lab', _, h', hT'.mach, hT'.base, ?_⟩)
 refine Did.one hA hk (Nat.zero_le _) ⟨rfl, rfl, rfl, rfl, rfl⟩ (at_to' hit) hA.words (hA.ward.mono (Nat.le_succ _)) ?_ gl
 have := hA.thr.top (t := t) (fs := fs) (F := (F.reg 2 (genOf (g.w l (oNd B S (F.r 0) 0)) + 1)).goto 1)
 rw [← fr_goto, ← fr_reg] at this
 exact this
theorem does_g1 {σ : World} {p t q l n B S : Nat} {c : Nat → Int} {tp : List Nat} {g : GM} {fs : List Fr} {F : Fr} (hn : n < 100000) (ht : (t : Int) < c 1) (hq : tp[t]? = some q) (hl : levelOf c t = (l : Nat)) (hlc : (l : Int) < c 0) (hthr : g.thr t = fs ++ [F]) (hfs : fs.length < 100000) (hB' : c 11 = (B : Nat)) (hS' : c 10 = (S : Nat)) (h1 : F.fn = 2) (hp : F.pc = 1) (x1 : 1 ≤ F.r 0) (x2 : F.r 0 ≤ S) (hg1 : 1 ≤ F.r 2) (hg2 : F.r 2 ≤ 4294967296) : DoesTo 105 σ p t c tp n l g ((g.set l (oNd B S (F.r 0) 0) (mkHead (F.r 2 - 1) 3)).top t fs (F.goto 2)) := by
 intro K s M lab w h hM hB hA
 obtain ⟨b, hT⟩ := hA.atTop hM hB ht hq hthr
 obtain rfl := hA.cc
 have hmay := hA.may
 have b1 : (s.tick l).mem.acc < 1000000000 := by show s.mem.acc < _; have := hA.acc; omega
 have b2 : (s.tick l).mem.wr < 1000000000 := by show s.mem.wr < _; have := hA.wr; omega
 have hl' : levelOf (s.tick l).c (t : Nat) = (l : Nat) := hl
 have hlc' : (l : Int) < (s.tick l).c 0 := hlc
 have hfs' : (fs.map Fr.enc).length < 1000000 := by rw [List.length_map]; omega
 have gl : s.given.length ≤ n + 1 := Nat.le_succ_of_le hA.given
 have bk : (s.thr t).frames.dropLast = fs.map Fr.enc ∧ (s.thr t).st = (s.thr t).st ∧ (s.thr t).ki = (s.thr t).ki := ⟨by rw [hA.thr.fr t ht, hthr]; simp, rfl, rfl⟩
 have S256 := hmay.2.2.2.2.1
 have hk := inK_node' (c := s.c) (i := F.r 0) (j := 0) (by omega) (by omega) (by omega)
 have hit := atK_hit hmay hA.memN hlc hk
 refine (do_giveR h hT (by show (F.fn : Int) = 2; omega) hfs' (R := fun s' => Did s.c n l s s' ((g.set l (oNd B S (F.r 0) 0) (mkHead (F.r 2 - 1) 3)).top t fs (F.goto 2))) fun K1 M1 lab1 w1 h1' hT1 => ?_).mono fun r w' ⟨e, M', lab', s', a1, a2, a3, a4⟩ => ⟨e, M', lab', s', a1, a3, a2, a4⟩
 refine (give_1 h1' hT1 (by show (F.pc : Int) = 1; omega) (sl := F.r 0) (g := F.r 2 - 1) rfl (by omega) (by show (F.r 2 : Int) = _; omega) (by omega) hl' hlc' hk b1 b2).mono (fun r w' ⟨e, M', lab', h', hT'⟩ => ⟨e, M', lab', _, h', hT'.mach, hT'.base, ?_⟩)
 refine Did.one hA hk (Nat.le_refl _) ⟨rfl, rfl, rfl, rfl, rfl⟩ (store_to' hit) ?_ (hA.ward.mono (Nat.le_succ _)) ((hA.thr.set l _ _).top (t := t) (fs := fs) (F := F.goto 2)) gl
 have := hA.words.set hmay (l := l) hk (mkHead (F.r 2 - 1) 3)
 rw [off_node hB' hS' (by omega)] at this
 exact this
theorem does_g2 {σ : World} {p t q l n B S : Nat} {c : Nat → Int} {tp : List Nat} {g : GM} {fs : List Fr} {F : Fr} (hn : n < 100000) (ht : (t : Int) < c 1) (hq : tp[t]? = some q) (hl : levelOf c t = (l : Nat)) (hlc : (l : Int) < c 0) (hthr : g.thr t = fs ++ [F]) (hfs : fs.length < 100000) (hB' : c 11 = (B : Nat)) (hS' : c 10 = (S : Nat)) (h1 : F.fn = 2) (hp : F.pc = 2) (x1 : 1 ≤ F.r 0) (x2 : F.r 0 ≤ S) : DoesTo 105 σ p t c tp n l g ((g.set l (oNd B S (F.r 0) 3) 0).top t fs (F.goto 3)) := by
 intro K s M lab w h hM hB hA
 obtain ⟨b, hT⟩ := hA.atTop hM hB ht hq hthr
 obtain rfl := hA.cc
 have hmay := hA.may
 have b1 : (s.tick l).mem.acc < 1000000000 := by show s.mem.acc < _; have := hA.acc; omega
 have b2 : (s.tick l).mem.wr < 1000000000 := by show s.mem.wr < _; have := hA.wr; omega
 have hl' : levelOf (s.tick l).c (t : Nat) = (l : Nat) := hl
 have hlc' : (l : Int) < (s.tick l).c 0 := hlc
 have hfs' : (fs.map Fr.enc).length < 1000000 := by rw [List.length_map]; omega
 have gl : s.given.length ≤ n + 1 := Nat.le_succ_of_le hA.given
 have bk : (s.thr t).frames.dropLast = fs.map Fr.enc ∧ (s.thr t).st = (s.thr t).st ∧ (s.thr t).ki = (s.thr t).ki := ⟨by rw [hA.thr.fr t ht, hthr]; simp, rfl, rfl⟩
 have S256 := hmay.2.2.2.2.1
 have hk := inK_node' (c := s.c) (i := F.r 0) (j := 3) (by omega) (by omega) (by omega)
 have hit := atK_hit hmay hA.memN hlc hk
 refine (do_giveR h hT (by show (F.fn : Int) = 2; omega) hfs' (R := fun s' => Did s.c n l s s' ((g.set l (oNd B S (F.r 0) 3) 0).top t fs (F.goto 3))) fun K1 M1 lab1 w1 h1' hT1 => ?_).mono fun r w' ⟨e, M', lab', s', a1, a2, a3, a4⟩ => ⟨e, M', lab', s', a1, a3, a2, a4⟩
 refine (give_2 h1' hT1 (by show (F.pc : Int) = 2; omega) (sl := F.r 0) rfl (by omega) hl' hlc' hk b1 b2).mono (fun r w' ⟨e, M', lab', h', hT'⟩ => ⟨e, M', lab', _, h', hT'.mach, hT'.base, ?_⟩)
 refine Did.one hA hk (Nat.le_refl _) ⟨rfl, rfl, rfl, rfl, rfl⟩ (store_to' hit) ?_ (hA.ward.mono (Nat.le_succ _)) ((hA.thr.set l _ _).top (t := t) (fs := fs) (F := F.goto 3)) gl
 have := hA.words.set hmay (l := l) hk 0
 rw [off_node hB' hS' (by omega)] at this
 exact this
theorem does_g3 {σ : World} {p t q l n B S : Nat} {c : Nat → Int} {tp : List Nat} {g : GM} {fs : List Fr} {F : Fr} (hn : n < 100000) (ht : (t : Int) < c 1) (hq : tp[t]? = some q) (hl : levelOf c t = (l : Nat)) (hlc : (l : Int) < c 0) (hthr : g.thr t = fs ++ [F]) (hfs : fs.length < 100000) (hB' : c 11 = (B : Nat)) (hS' : c 10 = (S : Nat)) (h1 : F.fn = 2) (hp : F.pc = 3) (x1 : 1 ≤ F.r 0) (x2 : F.r 0 ≤ S) : DoesTo 105 σ p t c tp n l g ((g.set l (oNd B S (F.r 0) 4) 0).top t fs (F.goto 4)) := by
 intro K s M lab w h hM hB hA
 obtain ⟨b, hT⟩ := hA.atTop hM hB ht hq hthr
 obtain rfl := hA.cc
 have hmay := hA.may
 have b1 : (s.tick l).mem.acc < 1000000000 := by show s.mem.acc < _; have := hA.acc; omega
 have b2 : (s.tick l).mem.wr < 1000000000 := by show s.mem.wr < _; have := hA.wr; omega
 have hl' : levelOf (s.tick l).c (t : Nat) = (l : Nat) := hl
 have hlc' : (l : Int) < (s.tick l).c 0 := hlc
 have hfs' : (fs.map Fr.enc).length < 1000000 := by rw [List.length_map]; omega
 have gl : s.given.length ≤ n + 1 := Nat.le_succ_of_le hA.given
 have bk : (s.thr t).frames.dropLast = fs.map Fr.enc ∧ (s.thr t).st = (s.thr t).st ∧ (s.thr t).ki = (s.thr t).ki := ⟨by rw [hA.thr.fr t ht, hthr]; simp, rfl, rfl⟩
 have S256 := hmay.2.2.2.2.1
 have hk := inK_node' (c := s.c) (i := F.r 0) (j := 4) (by omega) (by omega) (by omega)
 have hit := atK_hit hmay hA.memN hlc hk
 refine (do_giveR h hT (by show (F.fn : Int) = 2; omega) hfs' (R := fun s' => Did s.c n l s s' ((g.set l (oNd B S (F.r 0) 4) 0).top t fs (F.goto 4))) fun K1 M1 lab1 w1 h1' hT1 => ?_).mono fun r w' ⟨e, M', lab', s', a1, a2, a3, a4⟩ => ⟨e, M', lab', s', a1, a3, a2, a4⟩
 refine (give_3 h1' hT1 (by show (F.pc : Int) = 3; omega) (sl := F.r 0) rfl (by omega) hl' hlc' hk b1 b2).mono (fun r w' ⟨e, M', lab', h', hT'⟩ => ⟨e, M', lab', _, h', hT'.mach, hT'.base, ?_⟩)
 refine Did.one hA hk (Nat.le_refl _) ⟨rfl, rfl, rfl, rfl, rfl⟩ (store_to' hit) ?_ (hA.ward.mono (Nat.le_succ _)) ((hA.thr.set l _ _).top (t := t) (fs := fs) (F := F.goto 4)) gl
 have := hA.words.set hmay (l := l) hk 0
 rw [off_node hB' hS' (by omega)] at this
 exact this
theorem does_g4 {σ : World} {p t q l n B S : Nat} {c : Nat → Int} {tp : List Nat} {g : GM} {fs : List Fr} {F : Fr} (hn : n < 100000) (ht : (t : Int) < c 1) (hq : tp[t]? = some q) (hl : levelOf c t = (l : Nat)) (hlc : (l : Int) < c 0) (hthr : g.thr t = fs ++ [F]) (hfs : fs.length < 100000) (hB' : c 11 = (B : Nat)) (hS' : c 10 = (S : Nat)) (h1 : F.fn = 2) (hp : F.pc = 4) (x1 : 1 ≤ F.r 0) (x2 : F.r 0 ≤ S) : DoesTo 105 σ p t c tp n l g ((g.set l (oNd B S (F.r 0) 2) 0).top t fs (F.goto 5)) := by
 intro K s M lab w h hM hB hA
 obtain ⟨b, hT⟩ := hA.atTop hM hB ht hq hthr
 obtain rfl := hA.cc
 have hmay := hA.may
 have b1 : (s.tick l).mem.acc < 1000000000 := by show s.mem.acc < _; have := hA.acc; omega
 have b2 : (s.tick l).mem.wr < 1000000000 := by show s.mem.wr < _; have := hA.wr; omega
 have hl' : levelOf (s.tick l).c (t : Nat) = (l : Nat) := hl
 have hlc' : (l : Int) < (s.tick l).c 0 := hlc
 have hfs' : (fs.map Fr.enc).length < 1000000 := by rw [List.length_map]; omega
 have gl : s.given.length ≤ n + 1 := Nat.le_succ_of_le hA.given
 have bk : (s.thr t).frames.dropLast = fs.map Fr.enc ∧ (s.thr t).st = (s.thr t).st ∧ (s.thr t).ki = (s.thr t).ki := ⟨by rw [hA.thr.fr t ht, hthr]; simp, rfl, rfl⟩
 have S256 := hmay.2.2.2.2.1
 have hk := inK_node' (c := s.c) (i := F.r 0) (j := 2) (by omega) (by omega) (by omega)
 have hit := atK_hit hmay hA.memN hlc hk
 refine (do_giveR h hT (by show (F.fn : Int) = 2; omega) hfs' (R := fun s' => Did s.c n l s s' ((g.set l (oNd B S (F.r 0) 2) 0).top t fs (F.goto 5))) fun K1 M1 lab1 w1 h1' hT1 => ?_).mono fun r w' ⟨e, M', lab', s', a1, a2, a3, a4⟩ => ⟨e, M', lab', s', a1, a3, a2, a4⟩
 refine (give_4 h1' hT1 (by show (F.pc : Int) = 4; omega) (sl := F.r 0) rfl (by omega) hl' hlc' hk b1 b2).mono (fun r w' ⟨e, M', lab', h', hT'⟩ => ⟨e, M', lab', _, h', hT'.mach, hT'.base, ?_⟩)
 refine Did.one hA hk (Nat.le_refl _) ⟨rfl, rfl, rfl, rfl, rfl⟩ (store_to' hit) ?_ (hA.ward.mono (Nat.le_succ _)) ((hA.thr.set l _ _).top (t := t) (fs := fs) (F := F.goto 5)) gl
 have := hA.words.set hmay (l := l) hk 0
 rw [off_node hB' hS' (by omega)] at this
 exact this
theorem does_g5 {σ : World} {p t q l n B S : Nat} {c : Nat → Int} {tp : List Nat} {g : GM} {fs : List Fr} {F : Fr} (hn : n < 100000) (ht : (t : Int) < c 1) (hq : tp[t]? = some q) (hl : levelOf c t = (l : Nat)) (hlc : (l : Int) < c 0) (hthr : g.thr t = fs ++ [F]) (hfs : fs.length < 100000) (hB' : c 11 = (B : Nat)) (hS' : c 10 = (S : Nat)) (h1 : F.fn = 2) (hp : F.pc = 5) (x1 : 1 ≤ F.r 0) (x2 : F.r 0 ≤ S) : DoesTo 105 σ p t c tp n l g ((g.set l (oNd B S (F.r 0) 1) 0).top t fs (F.goto 6)) := by
 intro K s M lab w h hM hB hA
 obtain ⟨b, hT⟩ := hA.atTop hM hB ht hq hthr
 obtain rfl := hA.cc
 have hmay := hA.may
 have b1 : (s.tick l).mem.acc < 1000000000 := by show s.mem.acc < _; have := hA.acc; omega
 have b2 : (s.tick l).mem.wr < 1000000000 := by show s.mem.wr < _; have := hA.wr; omega
 have hl' : levelOf (s.tick l).c (t : Nat) = (l : Nat) := hl
 have hlc' : (l : Int) < (s.tick l).c 0 := hlc
 have hfs' : (fs.map Fr.enc).length < 1000000 := by rw [List.length_map]; omega
 have gl : s.given.length ≤ n + 1 := Nat.le_succ_of_le hA.given
 have bk : (s.thr t).frames.dropLast = fs.map Fr.enc ∧ (s.thr t).st = (s.thr t).st ∧ (s.thr t).ki = (s.thr t).ki := ⟨by rw [hA.thr.fr t ht, hthr]; simp, rfl, rfl⟩
 have S256 := hmay.2.2.2.2.1
 have hk := inK_node' (c := s.c) (i := F.r 0) (j := 1) (by omega) (by omega) (by omega)
 have hit := atK_hit hmay hA.memN hlc hk
 refine (do_giveR h hT (by show (F.fn : Int) = 2; omega) hfs' (R := fun s' => Did s.c n l s s' ((g.set l (oNd B S (F.r 0) 1) 0).top t fs (F.goto 6))) fun K1 M1 lab1 w1 h1' hT1 => ?_).mono fun r w' ⟨e, M', lab', s', a1, a2, a3, a4⟩ => ⟨e, M', lab', s', a1, a3, a2, a4⟩
 refine (give_5 h1' hT1 (by show (F.pc : Int) = 5; omega) (sl := F.r 0) rfl (by omega) hl' hlc' hk b1 b2).mono (fun r w' ⟨e, M', lab', h', hT'⟩ => ⟨e, M', lab', _, h', hT'.mach, hT'.base, ?_⟩)
 refine Did.one hA hk (Nat.le_refl _) ⟨rfl, rfl, rfl, rfl, rfl⟩ (store_to' hit) ?_ (hA.ward.mono (Nat.le_succ _)) ((hA.thr.set l _ _).top (t := t) (fs := fs) (F := F.goto 6)) gl
 have := hA.words.set hmay (l := l) hk 0
 rw [off_node hB' hS' (by omega)] at this
 exact this
theorem does_g6a {σ : World} {p t q l n B S : Nat} {c : Nat → Int} {tp : List Nat} {g : GM} {fs : List Fr} {F : Fr} (hn : n < 100000) (ht : (t : Int) < c 1) (hq : tp[t]? = some q) (hl : levelOf c t = (l : Nat)) (hlc : (l : Int) < c 0) (hthr : g.thr t = fs ++ [F]) (hfs : fs.length < 100000) (hB' : c 11 = (B : Nat)) (hS' : c 10 = (S : Nat)) (h1 : F.fn = 2) (hp : F.pc = 6) (x1 : 1 ≤ F.r 0) (x2 : F.r 0 ≤ S) (hg : F.r 2 < 4294967296) (hh : g.held l (F.r 0) = true) (hs : (F.r 2 : Int) < c 12) : DoesTo 105 σ p t c tp n l g (((g.set l (oNd B S (F.r 0) 0) (mkHead (F.r 2) 0)).drop l (F.r 0)).top t fs (F.goto 7)) := by
 intro K s M lab w h hM hB hA
 obtain ⟨b, hT⟩ := hA.atTop hM hB ht hq hthr
 obtain rfl := hA.cc
 have hmay := hA.may
 have b1 : (s.tick l).mem.acc < 1000000000 := by show s.mem.acc < _; have := hA.acc; omega
 have b2 : (s.tick l).mem.wr < 1000000000 := by show s.mem.wr < _; have := hA.wr; omega
 have hl' : levelOf (s.tick l).c (t : Nat) = (l : Nat) := hl
 have hlc' : (l : Int) < (s.tick l).c 0 := hlc
 have hfs' : (fs.map Fr.enc).length < 1000000 := by rw [List.length_map]; omega
 have gl : s.given.length ≤ n + 1 := Nat.le_succ_of_le hA.given
 have bk : (s.thr t).frames.dropLast = fs.map Fr.enc ∧ (s.thr t).st = (s.thr t).st ∧ (s.thr t).ki = (s.thr t).ki := ⟨by rw [hA.thr.fr t ht, hthr]; simp, rfl, rfl⟩
 have S256 := hmay.2.2.2.2.1
 have hk := inK_node' (c := s.c) (i := F.r 0) (j := 0) (by omega) (by omega) (by omega)
 have hit := atK_hit hmay hA.memN hlc hk
 have hhas : (s.tick l).ward.has (l : Nat) (F.r 0 : Nat) = true := by
  show s.ward.has _ _ = true
  unfold WardS.has
  rw [Bool.and_eq_true, decide_eq_true_eq, hA.ward.held l _ hlc x1 (by omega), hh]
  exact ⟨WardS.there_iff.2 ⟨by omega, by rw [hA.ward.lv]; exact hlc, by omega, by rw [hA.ward.sl]; omega⟩, by decide⟩
 have hgg : 0 ≤ valE (l : Nat) (F.r 0 : Nat) (s.tick l).ward.gens ∧ valE (l : Nat) (F.r 0 : Nat) (s.tick l).ward.gens < 1000000000 := by
  have := hA.ward.gens (l : Nat) (F.r 0 : Nat)
  show 0 ≤ valE _ _ s.ward.gens ∧ valE _ _ s.ward.gens < _
  omega
 have hsp : (s.tick l).ward.slips < 1000000000 := by show s.ward.slips < _; rw [hA.ward.slips]; omega
 have hgn : (s.tick l).given.length < 1000000 := by show s.given.length < _; have := hA.given; omega
 refine (do_giveR h hT (by show (F.fn : Int) = 2; omega) hfs' (R := fun s' => Did s.c n l s s' (((g.set l (oNd B S (F.r 0) 0) (mkHead (F.r 2) 0)).drop l (F.r 0)).top t fs (F.goto 7))) fun K1 M1 lab1 w1 h1' hT1 => ?_).mono fun r w' ⟨e, M', lab', s', a1, a2, a3, a4⟩ => ⟨e, M', lab', s', a1, a3, a2, a4⟩
 refine (give_6on h1' hT1 (by show (F.pc : Int) = 6; omega) (sl := F.r 0) (g := F.r 2) rfl (by omega) rfl hg hl' hlc' hk b1 b2 hA.ward.stamp hgg hsp hgn hhas hfs' hs).mono (fun r w' ⟨e, M', lab', gv, h', hT'⟩ => ⟨e, M', lab', _, h', hT'.mach, hT'.base, ?_⟩)
 refine Did.one hA hk (Nat.le_refl _) ⟨rfl, rfl, rfl, rfl, rfl⟩ (store_to' hit) ?_ (hA.ward.gone hlc x1 (by omega)) (((hA.thr.set l _ _).drop l (F.r 0)).top (t := t) (fs := fs) (F := F.goto 7)) ?_
 ·have := hA.words.set hmay (l := l) hk (mkHead (F.r 2) 0)
  rw [off_node hB' hS' (by omega)] at this
  exact this
 ·show (s.given ++ [_]).length ≤ _
  rw [List.length_append]
  have := hA.given
  simp; omega
theorem does_g6b {σ : World} {p t q l n B S : Nat} {c : Nat → Int} {tp : List Nat} {g : GM} {fs : List Fr} {F : Fr} (hn : n < 100000) (ht : (t : Int) < c 1) (hq : tp[t]? = some q) (hl : levelOf c t = (l : Nat)) (hlc : (l : Int) < c 0) (hthr : g.thr t = fs ++ [F]) (hfs : fs.length < 100000) (hB' : c 11 = (B : Nat)) (hS' : c 10 = (S : Nat)) (h1 : F.fn = 2) (hp : F.pc = 6) (x1 : 1 ≤ F.r 0) (x2 : F.r 0 ≤ S) (hg : F.r 2 < 4294967296) (hh : g.held l (F.r 0) = true) (hs : c 12 ≤ (F.r 2 : Int)) : DoesTo 105 σ p t c tp n l g (((g.set l (oNd B S (F.r 0) 0) (mkHead (F.r 2) 0)).drop l (F.r 0)).back t fs []) := by
 intro K s M lab w h hM hB hA
 obtain ⟨b, hT⟩ := hA.atTop hM hB ht hq hthr
 obtain rfl := hA.cc
 have hmay := hA.may
 have b1 : (s.tick l).mem.acc < 1000000000 := by show s.mem.acc < _; have := hA.acc; omega
 have b2 : (s.tick l).mem.wr < 1000000000 := by show s.mem.wr < _; have := hA.wr; omega
 have hl' : levelOf (s.tick l).c (t : Nat) = (l : Nat) := hl
 have hlc' : (l : Int) < (s.tick l).c 0 := hlc
 have hfs' : (fs.map Fr.enc).length < 1000000 := by rw [List.length_map]; omega
 have gl : s.given.length ≤ n + 1 := Nat.le_succ_of_le hA.given
 have bk : (s.thr t).frames.dropLast = fs.map Fr.enc ∧ (s.thr t).st = (s.thr t).st ∧ (s.thr t).ki = (s.thr t).ki := ⟨by rw [hA.thr.fr t ht, hthr]; simp, rfl, rfl⟩
 have S256 := hmay.2.2.2.2.1
 have hk := inK_node' (c := s.c) (i := F.r 0) (j := 0) (by omega) (by omega) (by omega)
 have hit := atK_hit hmay hA.memN hlc hk
 have hhas : (s.tick l).ward.has (l : Nat) (F.r 0 : Nat) = true := by
  show s.ward.has _ _ = true
  unfold WardS.has
  rw [Bool.and_eq_true, decide_eq_true_eq, hA.ward.held l _ hlc x1 (by omega), hh]
  exact ⟨WardS.there_iff.2 ⟨by omega, by rw [hA.ward.lv]; exact hlc, by omega, by rw [hA.ward.sl]; omega⟩, by decide⟩
 have hgg : 0 ≤ valE (l : Nat) (F.r 0 : Nat) (s.tick l).ward.gens ∧ valE (l : Nat) (F.r 0 : Nat) (s.tick l).ward.gens < 1000000000 := by
  have := hA.ward.gens (l : Nat) (F.r 0 : Nat)
  show 0 ≤ valE _ _ s.ward.gens ∧ valE _ _ s.ward.gens < _
  omega
 have hsp : (s.tick l).ward.slips < 1000000000 := by show s.ward.slips < _; rw [hA.ward.slips]; omega
 have hgn : (s.tick l).given.length < 1000000 := by show s.given.length < _; have := hA.given; omega
 refine (do_giveR h hT (by show (F.fn : Int) = 2; omega) hfs' (R := fun s' => Did s.c n l s s' (((g.set l (oNd B S (F.r 0) 0) (mkHead (F.r 2) 0)).drop l (F.r 0)).back t fs [])) fun K1 M1 lab1 w1 h1' hT1 => ?_).mono fun r w' ⟨e, M', lab', s', a1, a2, a3, a4⟩ => ⟨e, M', lab', s', a1, a3, a2, a4⟩
 refine (give_6end h1' hT1 (by show (F.pc : Int) = 6; omega) (sl := F.r 0) (g := F.r 2) rfl (by omega) rfl hg hl' hlc' hk b1 b2 hA.ward.stamp hgg hsp hgn hhas hfs' hs).mono (fun r w' ⟨e, M', lab', gv, h', hMx, hBx⟩ => ⟨e, M', lab', _, h', hMx, hBx, ?_⟩)
 refine Did.one hA hk (Nat.le_refl _) ⟨rfl, rfl, rfl, rfl, rfl⟩ (store_to' hit) ?_ (hA.ward.gone hlc x1 (by omega)) ?_ ?_
 ·have := hA.words.set hmay (l := l) hk (mkHead (F.r 2) 0)
  rw [off_node hB' hS' (by omega)] at this
  exact this
 ·have := ((hA.thr.set l (oNd B S (F.r 0) 0) (mkHead (F.r 2) 0)).drop l (F.r 0)).back (t := t) (fs := fs) (us := []) (x := { s.thr t with frames := fs.map Fr.enc ++ [(F.goto 7).enc] }) ⟨by simp, rfl, rfl⟩
  have e : (fun j => if j = t then ThrS.back { s.thr t with frames := fs.map Fr.enc ++ [(F.goto 7).enc] } (List.map (fun u : Nat => (u : Int)) []) else s.thr j) = (MachS.backed (((s.tick l).idled l (F.r 0) (F.r 2) gv).top t (fs.map Fr.enc) (F.enc.goto 7)) t []).thr := by
   funext j
   show _ = (if j = t then ThrS.back (if t = t then _ else _) [] else (if j = t then _ else _))
   by_cases hj : j = t
   ·rw [if_pos hj, if_pos hj, if_pos rfl]; rfl
   ·rw [if_neg hj, if_neg hj, if_neg hj]; rfl
  rw [e] at this
  exact this
 ·show (s.given ++ [_]).length ≤ _
  rw [List.length_append]
  have := hA.given
  simp; omega
theorem does_g7 {σ : World} {p t q l n B S : Nat} {c : Nat → Int} {tp : List Nat} {g : GM} {fs : List Fr} {F : Fr} (hn : n < 100000) (ht : (t : Int) < c 1) (hq : tp[t]? = some q) (hl : levelOf c t = (l : Nat)) (hlc : (l : Int) < c 0) (hthr : g.thr t = fs ++ [F]) (hfs : fs.length < 100000) (hB' : c 11 = (B : Nat)) (hS' : c 10 = (S : Nat)) (h1 : F.fn = 2) (hp : F.pc = 7) (x1 : 1 ≤ F.r 0) (x2 : F.r 0 ≤ S) : DoesTo 105 σ p t c tp n l g (g.top t fs ((F.reg 1 (g.w l 0)).goto 8)) := by
 intro K s M lab w h hM hB hA
 obtain ⟨b, hT⟩ := hA.atTop hM hB ht hq hthr
 obtain rfl := hA.cc
 have hmay := hA.may
 have b1 : (s.tick l).mem.acc < 1000000000 := by show s.mem.acc < _; have := hA.acc; omega
 have b2 : (s.tick l).mem.wr < 1000000000 := by show s.mem.wr < _; have := hA.wr; omega
 have hl' : levelOf (s.tick l).c (t : Nat) = (l : Nat) := hl
 have hlc' : (l : Int) < (s.tick l).c 0 := hlc
 have hfs' : (fs.map Fr.enc).length < 1000000 := by rw [List.length_map]; omega
 have gl : s.given.length ≤ n + 1 := Nat.le_succ_of_le hA.given
 have bk : (s.thr t).frames.dropLast = fs.map Fr.enc ∧ (s.thr t).st = (s.thr t).st ∧ (s.thr t).ki = (s.thr t).ki := ⟨by rw [hA.thr.fr t ht, hthr]; simp, rfl, rfl⟩
 have S256 := hmay.2.2.2.2.1
 have hk := inK_free s.c
 have hit := atK_hit hmay hA.memN hlc hk
 have hv : s.mem.load (atK s.c (l : Nat) 0 0 0) = (g.w l 0 : Int) := load_at' hit (by rw [hA.words.at hmay hlc hk, off_free])
 have hf0 : s.mem.f (atK s.c (l : Nat) 0 0 0).toNat = (g.w l 0 : Int) := by rw [hA.words.at hmay hlc hk, off_free]
 refine (do_giveR h hT (by show (F.fn : Int) = 2; omega) hfs' (R := fun s' => Did s.c n l s s' (g.top t fs ((F.reg 1 (g.w l 0)).goto 8))) fun K1 M1 lab1 w1 h1' hT1 => ?_).mono fun r w' ⟨e, M', lab', s', a1, a2, a3, a4⟩ => ⟨e, M', lab', s', a1, a3, a2, a4⟩
 refine (give_7 h1' hT1 (by show (F.pc : Int) = 7; omega) (sl := F.r 0) rfl (by omega) (spotAt_of hT1.mach hl' hlc' hk) b1).mono (fun r w' ⟨e, M', lab', h', hT'⟩ => ⟨e, M', lab', _, h', hT'.mach, hT'.base, ?_⟩)
 refine Did.one hA hk (Nat.zero_le _) ⟨rfl, rfl, rfl, rfl, rfl⟩ (at_to' hit) hA.words (hA.ward.mono (Nat.le_succ _)) ?_ gl
 have := hA.thr.top (t := t) (fs := fs) (F := (F.reg 1 (g.w l 0)).goto 8)
 rw [← fr_goto, ← fr_reg, ← hv] at this
 exact this
theorem does_g8 {σ : World} {p t q l n B S : Nat} {c : Nat → Int} {tp : List Nat} {g : GM} {fs : List Fr} {F : Fr} (hn : n < 100000) (ht : (t : Int) < c 1) (hq : tp[t]? = some q) (hl : levelOf c t = (l : Nat)) (hlc : (l : Int) < c 0) (hthr : g.thr t = fs ++ [F]) (hfs : fs.length < 100000) (hB' : c 11 = (B : Nat)) (hS' : c 10 = (S : Nat)) (h1 : F.fn = 2) (hp : F.pc = 8) (x1 : 1 ≤ F.r 0) (x2 : F.r 0 ≤ S) (hr : F.r 1 < 18446744073709551616) : DoesTo 105 σ p t c tp n l g ((g.set l (oLk B (F.r 0)) (slOf (F.r 1))).top t fs (F.goto 9)) := by
 intro K s M lab w h hM hB hA
 obtain ⟨b, hT⟩ := hA.atTop hM hB ht hq hthr
 obtain rfl := hA.cc
 have hmay := hA.may
 have b1 : (s.tick l).mem.acc < 1000000000 := by show s.mem.acc < _; have := hA.acc; omega
 have b2 : (s.tick l).mem.wr < 1000000000 := by show s.mem.wr < _; have := hA.wr; omega
 have hl' : levelOf (s.tick l).c (t : Nat) = (l : Nat) := hl
 have hlc' : (l : Int) < (s.tick l).c 0 := hlc
 have hfs' : (fs.map Fr.enc).length < 1000000 := by rw [List.length_map]; omega
 have gl : s.given.length ≤ n + 1 := Nat.le_succ_of_le hA.given
 have bk : (s.thr t).frames.dropLast = fs.map Fr.enc ∧ (s.thr t).st = (s.thr t).st ∧ (s.thr t).ki = (s.thr t).ki := ⟨by rw [hA.thr.fr t ht, hthr]; simp, rfl, rfl⟩
 have S256 := hmay.2.2.2.2.1
 have hk := inK_link' (c := s.c) (i := F.r 0) (by omega) (by omega)
 have hit := atK_hit hmay hA.memN hlc hk
 refine (do_giveR h hT (by show (F.fn : Int) = 2; omega) hfs' (R := fun s' => Did s.c n l s s' ((g.set l (oLk B (F.r 0)) (slOf (F.r 1))).top t fs (F.goto 9))) fun K1 M1 lab1 w1 h1' hT1 => ?_).mono fun r w' ⟨e, M', lab', s', a1, a2, a3, a4⟩ => ⟨e, M', lab', s', a1, a3, a2, a4⟩
 refine (give_8 h1' hT1 (by show (F.pc : Int) = 8; omega) (sl := F.r 0) (x := F.r 1) rfl (by omega) rfl hr hl' hlc' hk b1 b2).mono (fun r w' ⟨e, M', lab', h', hT'⟩ => ⟨e, M', lab', _, h', hT'.mach, hT'.base, ?_⟩)
 refine Did.one hA hk (Nat.le_refl _) ⟨rfl, rfl, rfl, rfl, rfl⟩ (store_to' hit) ?_ (hA.ward.mono (Nat.le_succ _)) ((hA.thr.set l _ _).top (t := t) (fs := fs) (F := F.goto 9)) gl
 have := hA.words.set hmay (l := l) hk (slOf (F.r 1))
 rw [off_link hB' (by omega)] at this
 exact this
theorem does_g9a {σ : World} {p t q l n B S : Nat} {c : Nat → Int} {tp : List Nat} {g : GM} {fs : List Fr} {F : Fr} (hn : n < 100000) (ht : (t : Int) < c 1) (hq : tp[t]? = some q) (hl : levelOf c t = (l : Nat)) (hlc : (l : Int) < c 0) (hthr : g.thr t = fs ++ [F]) (hfs : fs.length < 100000) (hB' : c 11 = (B : Nat)) (hS' : c 10 = (S : Nat)) (h1 : F.fn = 2) (hp : F.pc = 9) (x1 : 1 ≤ F.r 0) (x2 : F.r 0 ≤ S) (hr : F.r 1 < 18446744073709551616) (hs : g.w l 0 = F.r 1) : DoesTo 105 σ p t c tp n l g ((g.set l 0 (mkTop (F.r 0) (cnt (F.r 1) + 1))).back t fs []) := by
 intro K s M lab w h hM hB hA
 obtain ⟨b, hT⟩ := hA.atTop hM hB ht hq hthr
 obtain rfl := hA.cc
 have hmay := hA.may
 have b1 : (s.tick l).mem.acc < 1000000000 := by show s.mem.acc < _; have := hA.acc; omega
 have b2 : (s.tick l).mem.wr < 1000000000 := by show s.mem.wr < _; have := hA.wr; omega
 have hl' : levelOf (s.tick l).c (t : Nat) = (l : Nat) := hl
 have hlc' : (l : Int) < (s.tick l).c 0 := hlc
 have hfs' : (fs.map Fr.enc).length < 1000000 := by rw [List.length_map]; omega
 have gl : s.given.length ≤ n + 1 := Nat.le_succ_of_le hA.given
 have bk : (s.thr t).frames.dropLast = fs.map Fr.enc ∧ (s.thr t).st = (s.thr t).st ∧ (s.thr t).ki = (s.thr t).ki := ⟨by rw [hA.thr.fr t ht, hthr]; simp, rfl, rfl⟩
 have S256 := hmay.2.2.2.2.1
 have hk := inK_free s.c
 have hit := atK_hit hmay hA.memN hlc hk
 have hv : s.mem.load (atK s.c (l : Nat) 0 0 0) = (g.w l 0 : Int) := load_at' hit (by rw [hA.words.at hmay hlc hk, off_free])
 have hf0 : s.mem.f (atK s.c (l : Nat) 0 0 0).toNat = (g.w l 0 : Int) := by rw [hA.words.at hmay hlc hk, off_free]
 have hsw : (s.tick l).mem.swaps (atK (s.tick l).c (l : Nat) 0 0 0) (F.r 1 : Nat) = true := by show s.mem.swaps _ _ = true; unfold MemS.swaps; rw [show (s.tick l).c = s.c from rfl, hit, hf0, hs]; simp
 refine (do_giveR h hT (by show (F.fn : Int) = 2; omega) hfs' (R := fun s' => Did s.c n l s s' ((g.set l 0 (mkTop (F.r 0) (cnt (F.r 1) + 1))).back t fs [])) fun K1 M1 lab1 w1 h1' hT1 => ?_).mono fun r w' ⟨e, M', lab', s', a1, a2, a3, a4⟩ => ⟨e, M', lab', s', a1, a3, a2, a4⟩
 refine (give_9yes h1' hT1 (by show (F.pc : Int) = 9; omega) (sl := F.r 0) (x := F.r 1) rfl (by omega) rfl hr hl' hlc' b1 b2 hsw hfs').mono (fun r w' ⟨e, M', lab', h', hM', hB'⟩ => ⟨e, M', lab', _, h', hM', hB', ?_⟩)
 refine Did.one hA hk (Nat.le_refl _) ⟨rfl, rfl, rfl, rfl, rfl⟩ (cas_yes' hit hsw) ?_ (hA.ward.mono (Nat.le_succ _)) ?_ gl
 ·have := hA.words.set hmay (l := l) hk (mkTop (F.r 0) (cnt (F.r 1) + 1))
  rw [off_free] at this
  exact this
 ·have := (hA.thr.set l 0 (mkTop (F.r 0) (cnt (F.r 1) + 1))).back (t := t) (fs := fs) (us := []) (x := { s.thr t with frames := fs.map Fr.enc ++ [(F.goto 7).enc] }) ⟨by simp, rfl, rfl⟩
  have e : (fun j => if j = t then ThrS.back { s.thr t with frames := fs.map Fr.enc ++ [(F.goto 7).enc] } (List.map (fun u : Nat => (u : Int)) []) else s.thr j) = (MachS.backed { (s.tick l).top t (fs.map Fr.enc) (F.enc.goto 7) with mem := s.mem.cas (atK s.c (l : Nat) 0 0 0) (F.r 1 : Nat) (mkTop (F.r 0) (cutN (F.r 1) 8 56 + 1) : Nat) } t []).thr := by
   funext j
   show _ = (if j = t then ThrS.back (if t = t then _ else _) [] else (if j = t then _ else _))
   by_cases hj : j = t
   ·rw [if_pos hj, if_pos hj, if_pos rfl]; rfl
   ·rw [if_neg hj, if_neg hj, if_neg hj]; rfl
  rw [e] at this
  exact this
theorem does_g9b {σ : World} {p t q l n B S : Nat} {c : Nat → Int} {tp : List Nat} {g : GM} {fs : List Fr} {F : Fr} (hn : n < 100000) (ht : (t : Int) < c 1) (hq : tp[t]? = some q) (hl : levelOf c t = (l : Nat)) (hlc : (l : Int) < c 0) (hthr : g.thr t = fs ++ [F]) (hfs : fs.length < 100000) (hB' : c 11 = (B : Nat)) (hS' : c 10 = (S : Nat)) (h1 : F.fn = 2) (hp : F.pc = 9) (x1 : 1 ≤ F.r 0) (x2 : F.r 0 ≤ S) (hr : F.r 1 < 18446744073709551616) (hs : g.w l 0 ≠ F.r 1) : DoesTo 105 σ p t c tp n l g (g.top t fs (F.goto 7)) := by
 intro K s M lab w h hM hB hA
 obtain ⟨b, hT⟩ := hA.atTop hM hB ht hq hthr
 obtain rfl := hA.cc
 have hmay := hA.may
 have b1 : (s.tick l).mem.acc < 1000000000 := by show s.mem.acc < _; have := hA.acc; omega
 have b2 : (s.tick l).mem.wr < 1000000000 := by show s.mem.wr < _; have := hA.wr; omega
 have hl' : levelOf (s.tick l).c (t : Nat) = (l : Nat) := hl
 have hlc' : (l : Int) < (s.tick l).c 0 := hlc
 have hfs' : (fs.map Fr.enc).length < 1000000 := by rw [List.length_map]; omega
 have gl : s.given.length ≤ n + 1 := Nat.le_succ_of_le hA.given
 have bk : (s.thr t).frames.dropLast = fs.map Fr.enc ∧ (s.thr t).st = (s.thr t).st ∧ (s.thr t).ki = (s.thr t).ki := ⟨by rw [hA.thr.fr t ht, hthr]; simp, rfl, rfl⟩
 have S256 := hmay.2.2.2.2.1
 have hk := inK_free s.c
 have hit := atK_hit hmay hA.memN hlc hk
 have hv : s.mem.load (atK s.c (l : Nat) 0 0 0) = (g.w l 0 : Int) := load_at' hit (by rw [hA.words.at hmay hlc hk, off_free])
 have hf0 : s.mem.f (atK s.c (l : Nat) 0 0 0).toNat = (g.w l 0 : Int) := by rw [hA.words.at hmay hlc hk, off_free]
 have hsw : (s.tick l).mem.swaps (atK (s.tick l).c (l : Nat) 0 0 0) (F.r 1 : Nat) = false := by show s.mem.swaps _ _ = false; unfold MemS.swaps; rw [show (s.tick l).c = s.c from rfl, hit, hf0]; simp; omega
 refine (do_giveR h hT (by show (F.fn : Int) = 2; omega) hfs' (R := fun s' => Did s.c n l s s' (g.top t fs (F.goto 7))) fun K1 M1 lab1 w1 h1' hT1 => ?_).mono fun r w' ⟨e, M', lab', s', a1, a2, a3, a4⟩ => ⟨e, M', lab', s', a1, a3, a2, a4⟩
 refine (give_9no h1' hT1 (by show (F.pc : Int) = 9; omega) (sl := F.r 0) (x := F.r 1) rfl (by omega) rfl hr hl' hlc' b1 b2 hsw).mono (fun r w' ⟨e, M', lab', h', hT'⟩ => ⟨e, M', lab', _, h', hT'.mach, hT'.base, ?_⟩)
 exact Did.one hA hk (Nat.zero_le _) ⟨rfl, rfl, rfl, rfl, rfl⟩ (cas_no' hit hsw) hA.words (hA.ward.mono (Nat.le_succ _)) (hA.thr.top (t := t) (fs := fs) (F := F.goto 7)) gl
end
section
open Go.RowKit
/-- What stock's Do does, epoch's does; and so on. -/
theorem hand_ep {σ : World} {p t q l n : Nat} {c : Nat → Int} {tp : List Nat} {g g2 : GM} {fs : List Fr} {F : Fr} (hn : n < 100000) (ht : (t : Int) < c 1) (hq : tp[t]? = some q) (hl : levelOf c t = (l : Nat)) (hlc : (l : Int) < c 0) (hthr : g.thr t = fs ++ [F]) (hfs : fs.length < 100000) (h1 : F.fn ≠ 10) (h2 : F.fn ≠ 11) (h3 : F.fn ≠ 12) (D : DoesTo 105 σ p t c tp n l g g2) : DoesTo 63 σ p t c tp n l g g2 := by
 intro K s M lab w h hM hB hA
 obtain ⟨b, hT⟩ := hA.atTop hM hB ht hq hthr
 obtain rfl := hA.cc
 have hfs' : (fs.map Fr.enc).length < 1000000 := by rw [List.length_map]; omega
 exact (ep_doOther h hT (by show (F.fn : Int) ≠ 10; omega) (by show (F.fn : Int) ≠ 11; omega) (by show (F.fn : Int) ≠ 12; omega) hfs' (R := fun s' => Did s.c n l s s' g2) fun K1 M1 lab1 w1 h1' hT1 => D K1 s M1 lab1 w1 h1' hT1.mach hT1.base hA).mono fun r w' ⟨e, M', lab', s', a1, a2, a3, a4⟩ => ⟨e, M', lab', s', a1, a3, a2, a4⟩
theorem hand_li {σ : World} {p t q l n : Nat} {c : Nat → Int} {tp : List Nat} {g g2 : GM} {fs : List Fr} {F : Fr} (hn : n < 100000) (ht : (t : Int) < c 1) (hq : tp[t]? = some q) (hl : levelOf c t = (l : Nat)) (hlc : (l : Int) < c 0) (hthr : g.thr t = fs ++ [F]) (hfs : fs.length < 100000) (h1 : F.fn ≠ 20) (h2 : F.fn ≠ 21) (h3 : F.fn ≠ 22) (h4 : F.fn ≠ 23) (D : DoesTo 63 σ p t c tp n l g g2) : DoesTo 15 σ p t c tp n l g g2 := by
 intro K s M lab w h hM hB hA
 obtain ⟨b, hT⟩ := hA.atTop hM hB ht hq hthr
 obtain rfl := hA.cc
 have hfs' : (fs.map Fr.enc).length < 1000000 := by rw [List.length_map]; omega
 exact (li_doOther h hT (by show (F.fn : Int) ≠ 20; omega) (by show (F.fn : Int) ≠ 21; omega) (by show (F.fn : Int) ≠ 22; omega) (by show (F.fn : Int) ≠ 23; omega) hfs' (R := fun s' => Did s.c n l s s' g2) fun K1 M1 lab1 w1 h1' hT1 => D K1 s M1 lab1 w1 h1' hT1.mach hT1.base hA).mono fun r w' ⟨e, M', lab', s', a1, a2, a3, a4⟩ => ⟨e, M', lab', s', a1, a3, a2, a4⟩
theorem hand_mi {σ : World} {p t q l n : Nat} {c : Nat → Int} {tp : List Nat} {g g2 : GM} {fs : List Fr} {F : Fr} (hn : n < 100000) (ht : (t : Int) < c 1) (hq : tp[t]? = some q) (hl : levelOf c t = (l : Nat)) (hlc : (l : Int) < c 0) (hthr : g.thr t = fs ++ [F]) (hfs : fs.length < 100000) (h1 : F.fn ≠ 30) (D : DoesTo 15 σ p t c tp n l g g2) : DoesTo 41 σ p t c tp n l g g2 := by
 intro K s M lab w h hM hB hA
 obtain ⟨b, hT⟩ := hA.atTop hM hB ht hq hthr
 obtain rfl := hA.cc
 have hfs' : (fs.map Fr.enc).length < 1000000 := by rw [List.length_map]; omega
 exact (mi_doOther h hT hfs' (by show (F.fn : Int) ≠ 30; omega) (R := fun s' => Did s.c n l s s' g2) fun w1 h1' => D K s M lab w1 h1' hT.mach hT.base hA).mono fun r w' ⟨e, M', lab', s', a1, a2, a3, a4⟩ => ⟨e, M', lab', s', a1, a3, a2, a4⟩
/-- Take and Give by mint's Do. -/
theorem hand_st {σ : World} {p t q l n : Nat} {c : Nat → Int} {tp : List Nat} {g g2 : GM} {fs : List Fr} {F : Fr} (hn : n < 100000) (ht : (t : Int) < c 1) (hq : tp[t]? = some q) (hl : levelOf c t = (l : Nat)) (hlc : (l : Int) < c 0) (hthr : g.thr t = fs ++ [F]) (hfs : fs.length < 100000) (h1 : F.fn = 1 ∨ F.fn = 2) (D : DoesTo 105 σ p t c tp n l g g2) : DoesTo 41 σ p t c tp n l g g2 :=
 hand_mi hn ht hq hl hlc hthr hfs (by omega) (hand_li hn ht hq hl hlc hthr hfs (by omega) (by omega) (by omega) (by omega) (hand_ep hn ht hq hl hlc hthr hfs (by omega) (by omega) (by omega) D))
theorem ThrM.call {c : Nat → Int} {thr : Nat → ThrS} {g : GM} (h : ThrM c thr g) {t : Nat} (ht : (t : Int) < c 1) (fn : Nat) (us : List Nat) : ThrM c (fun j => if j = t then (thr t).call fn (us.map fun u : Nat => (u : Int)) else thr j) (g.top t (g.thr t) ⟨fn, 0, fun i => us.getD i 0⟩) := by
 have := h.top (t := t) (fs := g.thr t) (F := ⟨fn, 0, fun i => us.getD i 0⟩)
 have e : (fun j => if j = t then { thr t with frames := (g.thr t).map Fr.enc ++ [Fr.enc ⟨fn, 0, fun i => us.getD i 0⟩] } else thr j) = fun j => if j = t then (thr t).call fn (us.map fun u : Nat => (u : Int)) else thr j := by
  funext j
  by_cases e : j = t
  ·rw [if_pos e, if_pos e]
   have er : (fun i => ((us.getD i 0 : Nat) : Int)) = fun i => (us.map fun u : Nat => (u : Int)).getD i 0 := by
    funext i
    rw [List.getD_eq_getElem?_getD, List.getD_eq_getElem?_getD, List.getElem?_map]
    cases us[i]? <;> rfl
   show ({ thr t with frames := (g.thr t).map Fr.enc ++ [⟨fn, 0, fun i => ((us.getD i 0 : Nat) : Int)⟩] } : ThrS) = { thr t with frames := (thr t).frames ++ [⟨fn, 0, fun i => (us.map fun u : Nat => (u : Int)).getD i 0⟩] }
   rw [er, h.fr t ht]
  ·rw [if_neg e, if_neg e]
 rw [e] at this
 exact this
theorem does_m0 {σ : World} {p t q l n B S : Nat} {c : Nat → Int} {tp : List Nat} {g : GM} {fs : List Fr} {F : Fr} (hn : n < 100000) (ht : (t : Int) < c 1) (hq : tp[t]? = some q) (hl : levelOf c t = (l : Nat)) (hlc : (l : Int) < c 0) (hthr : g.thr t = fs ++ [F]) (hfs : fs.length < 100000) (hB' : c 11 = (B : Nat)) (hS' : c 10 = (S : Nat)) (h1 : F.fn = 30) (hp : F.pc = 0) : DoesTo 41 σ p t c tp n l g (g.top t (fs ++ [F.goto 1]) ⟨1, 0, fun _ => 0⟩) := by
 intro K s M lab w h hM hB hA
 obtain ⟨b, hT⟩ := hA.atTop hM hB ht hq hthr
 obtain rfl := hA.cc
 have hfs' : (fs.map Fr.enc).length < 1000000 := by rw [List.length_map]; omega
 have hmay := hA.may
 have b1 : (s.tick l).mem.acc < 1000000000 := by show s.mem.acc < _; have := hA.acc; omega
 have b2 : (s.tick l).mem.wr < 1000000000 := by show s.mem.wr < _; have := hA.wr; omega
 have hl' : levelOf (s.tick l).c (t : Nat) = (l : Nat) := hl
 have hlc' : (l : Int) < (s.tick l).c 0 := hlc
 have gl : s.given.length ≤ n + 1 := Nat.le_succ_of_le hA.given
 have bk : (s.thr t).frames.dropLast = fs.map Fr.enc ∧ (s.thr t).st = (s.thr t).st ∧ (s.thr t).ki = (s.thr t).ki := ⟨by rw [hA.thr.fr t ht, hthr]; simp, rfl, rfl⟩
 have S256 := hmay.2.2.2.2.1
 refine (mi_do h hT hfs' (by show (F.fn : Int) = 30; omega) (R := fun s' => Did s.c n l s s' (g.top t (fs ++ [F.goto 1]) ⟨1, 0, fun _ => 0⟩)) fun w1 h1' => ?_).mono fun r w' ⟨e, M', lab', s', a1, a2, a3, a4⟩ => ⟨e, M', lab', s', a1, a3, a2, a4⟩
 refine (mint_0 h1' hT hfs' (by rw [List.length_map]; omega) (by show (F.pc : Int) = 0; omega)).mono (fun r w' ⟨e, M', lab', h', hM', hB'⟩ => ⟨e, M', lab', _, h', hM', hB', ?_⟩)
 refine Did.none hA ⟨rfl, rfl, rfl, rfl, rfl⟩ rfl hA.words (hA.ward.mono (Nat.le_succ _)) ?_ gl
 have := (hA.thr.top (t := t) (fs := fs) (F := F.goto 1)).call ht 1 []
 have e : (g.top t fs (F.goto 1)).top t ((g.top t fs (F.goto 1)).thr t) ⟨1, 0, fun i => ([] : List Nat).getD i 0⟩ = g.top t (fs ++ [F.goto 1]) ⟨1, 0, fun _ => 0⟩ := by
  unfold GM.top
  simp only [put1_same, put1_put1]
  rfl
 rw [e] at this
 have e2 : (fun j => if j = t then ThrS.call ((fun j => if j = t then { s.thr t with frames := fs.map Fr.enc ++ [(F.goto 1).enc] } else s.thr j) t) (1 : Nat) (List.map (fun u : Nat => (u : Int)) []) else (fun j => if j = t then { s.thr t with frames := fs.map Fr.enc ++ [(F.goto 1).enc] } else s.thr j) j) = (((s.tick l).top t (fs.map Fr.enc) (F.enc.goto 1)).begun t 1 []).thr := rfl
 rw [e2] at this
 exact this
theorem does_m1 {σ : World} {p t q l n B S : Nat} {c : Nat → Int} {tp : List Nat} {g : GM} {fs : List Fr} {F : Fr} (hn : n < 100000) (ht : (t : Int) < c 1) (hq : tp[t]? = some q) (hl : levelOf c t = (l : Nat)) (hlc : (l : Int) < c 0) (hthr : g.thr t = fs ++ [F]) (hfs : fs.length < 100000) (hB' : c 11 = (B : Nat)) (hS' : c 10 = (S : Nat)) (h1 : F.fn = 30) (hp : F.pc = 1) (hne : g.told t 0 ≠ 0) : DoesTo 41 σ p t c tp n l g (g.top t fs (((F.reg 4 (g.told t 0)).reg 5 (g.told t 1)).goto 2)) := by
 intro K s M lab w h hM hB hA
 obtain ⟨b, hT⟩ := hA.atTop hM hB ht hq hthr
 obtain rfl := hA.cc
 have hfs' : (fs.map Fr.enc).length < 1000000 := by rw [List.length_map]; omega
 have hmay := hA.may
 have b1 : (s.tick l).mem.acc < 1000000000 := by show s.mem.acc < _; have := hA.acc; omega
 have b2 : (s.tick l).mem.wr < 1000000000 := by show s.mem.wr < _; have := hA.wr; omega
 have hl' : levelOf (s.tick l).c (t : Nat) = (l : Nat) := hl
 have hlc' : (l : Int) < (s.tick l).c 0 := hlc
 have gl : s.given.length ≤ n + 1 := Nat.le_succ_of_le hA.given
 have bk : (s.thr t).frames.dropLast = fs.map Fr.enc ∧ (s.thr t).st = (s.thr t).st ∧ (s.thr t).ki = (s.thr t).ki := ⟨by rw [hA.thr.fr t ht, hthr]; simp, rfl, rfl⟩
 have S256 := hmay.2.2.2.2.1
 refine (mi_do h hT hfs' (by show (F.fn : Int) = 30; omega) (R := fun s' => Did s.c n l s s' (g.top t fs (((F.reg 4 (g.told t 0)).reg 5 (g.told t 1)).goto 2))) fun w1 h1' => ?_).mono fun r w' ⟨e, M', lab', s', a1, a2, a3, a4⟩ => ⟨e, M', lab', s', a1, a3, a2, a4⟩
 refine (mint_1 h1' hT hfs' (by show (F.pc : Int) = 1; omega) (a0 := g.told t 0) (a1 := g.told t 1) (hA.thr.told t 0) (hA.thr.told t 1) hne).mono (fun r w' ⟨e, M', lab', h', hT'⟩ => ⟨e, M', lab', _, h', hT'.mach, hT'.base, ?_⟩)
 refine Did.none hA ⟨rfl, rfl, rfl, rfl, rfl⟩ rfl hA.words (hA.ward.mono (Nat.le_succ _)) ?_ gl
 have := hA.thr.top (t := t) (fs := fs) (F := (((F.reg 4 (g.told t 0)).reg 5 (g.told t 1)).goto 2))
 rw [← fr_goto, ← fr_reg, ← fr_reg] at this
 exact this
theorem does_m1no {σ : World} {p t q l n B S : Nat} {c : Nat → Int} {tp : List Nat} {g : GM} {fs : List Fr} {F : Fr} (hn : n < 100000) (ht : (t : Int) < c 1) (hq : tp[t]? = some q) (hl : levelOf c t = (l : Nat)) (hlc : (l : Int) < c 0) (hthr : g.thr t = fs ++ [F]) (hfs : fs.length < 100000) (hB' : c 11 = (B : Nat)) (hS' : c 10 = (S : Nat)) (h1 : F.fn = 30) (hp : F.pc = 1) (hz : g.told t 0 = 0) : DoesTo 41 σ p t c tp n l g (g.back t fs [0]) := by
 intro K s M lab w h hM hB hA
 obtain ⟨b, hT⟩ := hA.atTop hM hB ht hq hthr
 obtain rfl := hA.cc
 have hfs' : (fs.map Fr.enc).length < 1000000 := by rw [List.length_map]; omega
 have hmay := hA.may
 have b1 : (s.tick l).mem.acc < 1000000000 := by show s.mem.acc < _; have := hA.acc; omega
 have b2 : (s.tick l).mem.wr < 1000000000 := by show s.mem.wr < _; have := hA.wr; omega
 have hl' : levelOf (s.tick l).c (t : Nat) = (l : Nat) := hl
 have hlc' : (l : Int) < (s.tick l).c 0 := hlc
 have gl : s.given.length ≤ n + 1 := Nat.le_succ_of_le hA.given
 have bk : (s.thr t).frames.dropLast = fs.map Fr.enc ∧ (s.thr t).st = (s.thr t).st ∧ (s.thr t).ki = (s.thr t).ki := ⟨by rw [hA.thr.fr t ht, hthr]; simp, rfl, rfl⟩
 have S256 := hmay.2.2.2.2.1
 refine (mi_do h hT hfs' (by show (F.fn : Int) = 30; omega) (R := fun s' => Did s.c n l s s' (g.back t fs [0])) fun w1 h1' => ?_).mono fun r w' ⟨e, M', lab', s', a1, a2, a3, a4⟩ => ⟨e, M', lab', s', a1, a3, a2, a4⟩
 refine (mint_1no h1' hT hfs' (by show (F.pc : Int) = 1; omega) (a0 := g.told t 0) (a1 := g.told t 1) (hA.thr.told t 0) (hA.thr.told t 1) hz).mono (fun r w' ⟨e, M', lab', h', hM', hB'⟩ => ⟨e, M', lab', _, h', hM', hB', ?_⟩)
 refine Did.none hA ⟨rfl, rfl, rfl, rfl, rfl⟩ rfl hA.words (hA.ward.mono (Nat.le_succ _)) ?_ gl
 have := hA.thr.back (t := t) (fs := fs) (us := [0]) (x := { s.thr t with frames := fs.map Fr.enc ++ [((F.enc.reg 4 (g.told t 0)).reg 5 (g.told t 1)).goto 2] }) ⟨by simp, rfl, rfl⟩
 have e : (fun j => if j = t then ThrS.back { s.thr t with frames := fs.map Fr.enc ++ [((F.enc.reg 4 (g.told t 0)).reg 5 (g.told t 1)).goto 2] } (List.map (fun u : Nat => (u : Int)) [0]) else s.thr j) = (MachS.backed ((s.tick l).top t (fs.map Fr.enc) (((F.enc.reg 4 (g.told t 0)).reg 5 (g.told t 1)).goto 2)) t [0]).thr := by
  funext j
  show _ = (if j = t then ThrS.back (if t = t then _ else _) [0] else (if j = t then _ else _))
  by_cases hj : j = t
  ·rw [if_pos hj, if_pos hj, if_pos rfl]; rfl
  ·rw [if_neg hj, if_neg hj, if_neg hj]; rfl
 rw [e] at this
 exact this
theorem does_m2 {σ : World} {p t q l n B S : Nat} {c : Nat → Int} {tp : List Nat} {g : GM} {fs : List Fr} {F : Fr} (hn : n < 100000) (ht : (t : Int) < c 1) (hq : tp[t]? = some q) (hl : levelOf c t = (l : Nat)) (hlc : (l : Int) < c 0) (hthr : g.thr t = fs ++ [F]) (hfs : fs.length < 100000) (hB' : c 11 = (B : Nat)) (hS' : c 10 = (S : Nat)) (h1 : F.fn = 30) (hp : F.pc = 2) (x1 : 1 ≤ F.r 4) (x2 : F.r 4 ≤ S) : DoesTo 41 σ p t c tp n l g ((g.set l (oNd B S (F.r 4) 2) (F.r 1)).top t fs (F.goto (2 + 1))) := by
 intro K s M lab w h hM hB hA
 obtain ⟨b, hT⟩ := hA.atTop hM hB ht hq hthr
 obtain rfl := hA.cc
 have hfs' : (fs.map Fr.enc).length < 1000000 := by rw [List.length_map]; omega
 have hmay := hA.may
 have b1 : (s.tick l).mem.acc < 1000000000 := by show s.mem.acc < _; have := hA.acc; omega
 have b2 : (s.tick l).mem.wr < 1000000000 := by show s.mem.wr < _; have := hA.wr; omega
 have hl' : levelOf (s.tick l).c (t : Nat) = (l : Nat) := hl
 have hlc' : (l : Int) < (s.tick l).c 0 := hlc
 have gl : s.given.length ≤ n + 1 := Nat.le_succ_of_le hA.given
 have bk : (s.thr t).frames.dropLast = fs.map Fr.enc ∧ (s.thr t).st = (s.thr t).st ∧ (s.thr t).ki = (s.thr t).ki := ⟨by rw [hA.thr.fr t ht, hthr]; simp, rfl, rfl⟩
 have S256 := hmay.2.2.2.2.1
 have hk := inK_node' (c := s.c) (i := F.r 4) (j := 2) (by omega) (by omega) (by omega)
 have hit := atK_hit hmay hA.memN hlc hk
 refine (mi_do h hT hfs' (by show (F.fn : Int) = 30; omega) (R := fun s' => Did s.c n l s s' ((g.set l (oNd B S (F.r 4) 2) (F.r 1)).top t fs (F.goto (2 + 1)))) fun w1 h1' => ?_).mono fun r w' ⟨e, M', lab', s', a1, a2, a3, a4⟩ => ⟨e, M', lab', s', a1, a3, a2, a4⟩
 refine (mint_2 h1' hT hfs' (sl := F.r 4) rfl (by omega) hl' hlc' b1 b2 (by show (F.pc : Int) = 2; omega) hk).mono (fun r w' ⟨e, M', lab', h', hT'⟩ => ⟨e, M', lab', _, h', hT'.mach, hT'.base, ?_⟩)
 refine Did.one hA hk (Nat.le_refl _) ⟨rfl, rfl, rfl, rfl, rfl⟩ (store_to' hit) ?_ (hA.ward.mono (Nat.le_succ _)) ((hA.thr.set l _ _).top (t := t) (fs := fs) (F := F.goto (2 + 1))) gl
 have := hA.words.set hmay (l := l) hk ((F.r 1))
 rw [off_node hB' hS' (by omega)] at this
 exact this
theorem does_m3 {σ : World} {p t q l n B S : Nat} {c : Nat → Int} {tp : List Nat} {g : GM} {fs : List Fr} {F : Fr} (hn : n < 100000) (ht : (t : Int) < c 1) (hq : tp[t]? = some q) (hl : levelOf c t = (l : Nat)) (hlc : (l : Int) < c 0) (hthr : g.thr t = fs ++ [F]) (hfs : fs.length < 100000) (hB' : c 11 = (B : Nat)) (hS' : c 10 = (S : Nat)) (h1 : F.fn = 30) (hp : F.pc = 3) (x1 : 1 ≤ F.r 4) (x2 : F.r 4 ≤ S) : DoesTo 41 σ p t c tp n l g ((g.set l (oNd B S (F.r 4) 3) (F.r 2)).top t fs (F.goto (3 + 1))) := by
 intro K s M lab w h hM hB hA
 obtain ⟨b, hT⟩ := hA.atTop hM hB ht hq hthr
 obtain rfl := hA.cc
 have hfs' : (fs.map Fr.enc).length < 1000000 := by rw [List.length_map]; omega
 have hmay := hA.may
 have b1 : (s.tick l).mem.acc < 1000000000 := by show s.mem.acc < _; have := hA.acc; omega
 have b2 : (s.tick l).mem.wr < 1000000000 := by show s.mem.wr < _; have := hA.wr; omega
 have hl' : levelOf (s.tick l).c (t : Nat) = (l : Nat) := hl
 have hlc' : (l : Int) < (s.tick l).c 0 := hlc
 have gl : s.given.length ≤ n + 1 := Nat.le_succ_of_le hA.given
 have bk : (s.thr t).frames.dropLast = fs.map Fr.enc ∧ (s.thr t).st = (s.thr t).st ∧ (s.thr t).ki = (s.thr t).ki := ⟨by rw [hA.thr.fr t ht, hthr]; simp, rfl, rfl⟩
 have S256 := hmay.2.2.2.2.1
 have hk := inK_node' (c := s.c) (i := F.r 4) (j := 3) (by omega) (by omega) (by omega)
 have hit := atK_hit hmay hA.memN hlc hk
 refine (mi_do h hT hfs' (by show (F.fn : Int) = 30; omega) (R := fun s' => Did s.c n l s s' ((g.set l (oNd B S (F.r 4) 3) (F.r 2)).top t fs (F.goto (3 + 1)))) fun w1 h1' => ?_).mono fun r w' ⟨e, M', lab', s', a1, a2, a3, a4⟩ => ⟨e, M', lab', s', a1, a3, a2, a4⟩
 refine (mint_3 h1' hT hfs' (sl := F.r 4) rfl (by omega) hl' hlc' b1 b2 (by show (F.pc : Int) = 3; omega) hk).mono (fun r w' ⟨e, M', lab', h', hT'⟩ => ⟨e, M', lab', _, h', hT'.mach, hT'.base, ?_⟩)
 refine Did.one hA hk (Nat.le_refl _) ⟨rfl, rfl, rfl, rfl, rfl⟩ (store_to' hit) ?_ (hA.ward.mono (Nat.le_succ _)) ((hA.thr.set l _ _).top (t := t) (fs := fs) (F := F.goto (3 + 1))) gl
 have := hA.words.set hmay (l := l) hk ((F.r 2))
 rw [off_node hB' hS' (by omega)] at this
 exact this
theorem does_m4 {σ : World} {p t q l n B S : Nat} {c : Nat → Int} {tp : List Nat} {g : GM} {fs : List Fr} {F : Fr} (hn : n < 100000) (ht : (t : Int) < c 1) (hq : tp[t]? = some q) (hl : levelOf c t = (l : Nat)) (hlc : (l : Int) < c 0) (hthr : g.thr t = fs ++ [F]) (hfs : fs.length < 100000) (hB' : c 11 = (B : Nat)) (hS' : c 10 = (S : Nat)) (h1 : F.fn = 30) (hp : F.pc = 4) (x1 : 1 ≤ F.r 4) (x2 : F.r 4 ≤ S) : DoesTo 41 σ p t c tp n l g ((g.set l (oNd B S (F.r 4) 4) (F.r 3)).top t fs (F.goto (4 + 1))) := by
 intro K s M lab w h hM hB hA
 obtain ⟨b, hT⟩ := hA.atTop hM hB ht hq hthr
 obtain rfl := hA.cc
 have hfs' : (fs.map Fr.enc).length < 1000000 := by rw [List.length_map]; omega
 have hmay := hA.may
 have b1 : (s.tick l).mem.acc < 1000000000 := by show s.mem.acc < _; have := hA.acc; omega
 have b2 : (s.tick l).mem.wr < 1000000000 := by show s.mem.wr < _; have := hA.wr; omega
 have hl' : levelOf (s.tick l).c (t : Nat) = (l : Nat) := hl
 have hlc' : (l : Int) < (s.tick l).c 0 := hlc
 have gl : s.given.length ≤ n + 1 := Nat.le_succ_of_le hA.given
 have bk : (s.thr t).frames.dropLast = fs.map Fr.enc ∧ (s.thr t).st = (s.thr t).st ∧ (s.thr t).ki = (s.thr t).ki := ⟨by rw [hA.thr.fr t ht, hthr]; simp, rfl, rfl⟩
 have S256 := hmay.2.2.2.2.1
 have hk := inK_node' (c := s.c) (i := F.r 4) (j := 4) (by omega) (by omega) (by omega)
 have hit := atK_hit hmay hA.memN hlc hk
 refine (mi_do h hT hfs' (by show (F.fn : Int) = 30; omega) (R := fun s' => Did s.c n l s s' ((g.set l (oNd B S (F.r 4) 4) (F.r 3)).top t fs (F.goto (4 + 1)))) fun w1 h1' => ?_).mono fun r w' ⟨e, M', lab', s', a1, a2, a3, a4⟩ => ⟨e, M', lab', s', a1, a3, a2, a4⟩
 refine (mint_4 h1' hT hfs' (sl := F.r 4) rfl (by omega) hl' hlc' b1 b2 (by show (F.pc : Int) = 4; omega) hk).mono (fun r w' ⟨e, M', lab', h', hT'⟩ => ⟨e, M', lab', _, h', hT'.mach, hT'.base, ?_⟩)
 refine Did.one hA hk (Nat.le_refl _) ⟨rfl, rfl, rfl, rfl, rfl⟩ (store_to' hit) ?_ (hA.ward.mono (Nat.le_succ _)) ((hA.thr.set l _ _).top (t := t) (fs := fs) (F := F.goto (4 + 1))) gl
 have := hA.words.set hmay (l := l) hk ((F.r 3))
 rw [off_node hB' hS' (by omega)] at this
 exact this
theorem does_m5 {σ : World} {p t q l n B S : Nat} {c : Nat → Int} {tp : List Nat} {g : GM} {fs : List Fr} {F : Fr} (hn : n < 100000) (ht : (t : Int) < c 1) (hq : tp[t]? = some q) (hl : levelOf c t = (l : Nat)) (hlc : (l : Int) < c 0) (hthr : g.thr t = fs ++ [F]) (hfs : fs.length < 100000) (hB' : c 11 = (B : Nat)) (hS' : c 10 = (S : Nat)) (h1 : F.fn = 30) (hp : F.pc = 5) (x1 : 1 ≤ F.r 4) (x2 : F.r 4 ≤ S) : DoesTo 41 σ p t c tp n l g ((g.set l (oNd B S (F.r 4) 1) 0).top t fs (F.goto (5 + 1))) := by
 intro K s M lab w h hM hB hA
 obtain ⟨b, hT⟩ := hA.atTop hM hB ht hq hthr
 obtain rfl := hA.cc
 have hfs' : (fs.map Fr.enc).length < 1000000 := by rw [List.length_map]; omega
 have hmay := hA.may
 have b1 : (s.tick l).mem.acc < 1000000000 := by show s.mem.acc < _; have := hA.acc; omega
 have b2 : (s.tick l).mem.wr < 1000000000 := by show s.mem.wr < _; have := hA.wr; omega
 have hl' : levelOf (s.tick l).c (t : Nat) = (l : Nat) := hl
 have hlc' : (l : Int) < (s.tick l).c 0 := hlc
 have gl : s.given.length ≤ n + 1 := Nat.le_succ_of_le hA.given
 have bk : (s.thr t).frames.dropLast = fs.map Fr.enc ∧ (s.thr t).st = (s.thr t).st ∧ (s.thr t).ki = (s.thr t).ki := ⟨by rw [hA.thr.fr t ht, hthr]; simp, rfl, rfl⟩
 have S256 := hmay.2.2.2.2.1
 have hk := inK_node' (c := s.c) (i := F.r 4) (j := 1) (by omega) (by omega) (by omega)
 have hit := atK_hit hmay hA.memN hlc hk
 refine (mi_do h hT hfs' (by show (F.fn : Int) = 30; omega) (R := fun s' => Did s.c n l s s' ((g.set l (oNd B S (F.r 4) 1) 0).top t fs (F.goto (5 + 1)))) fun w1 h1' => ?_).mono fun r w' ⟨e, M', lab', s', a1, a2, a3, a4⟩ => ⟨e, M', lab', s', a1, a3, a2, a4⟩
 refine (mint_5 h1' hT hfs' (sl := F.r 4) rfl (by omega) hl' hlc' b1 b2 (by show (F.pc : Int) = 5; omega) hk).mono (fun r w' ⟨e, M', lab', h', hT'⟩ => ⟨e, M', lab', _, h', hT'.mach, hT'.base, ?_⟩)
 refine Did.one hA hk (Nat.le_refl _) ⟨rfl, rfl, rfl, rfl, rfl⟩ (store_to' hit) ?_ (hA.ward.mono (Nat.le_succ _)) ((hA.thr.set l _ _).top (t := t) (fs := fs) (F := F.goto (5 + 1))) gl
 have := hA.words.set hmay (l := l) hk (0)
 rw [off_node hB' hS' (by omega)] at this
 exact this
theorem does_m6 {σ : World} {p t q l n B S : Nat} {c : Nat → Int} {tp : List Nat} {g : GM} {fs : List Fr} {F : Fr} (hn : n < 100000) (ht : (t : Int) < c 1) (hq : tp[t]? = some q) (hl : levelOf c t = (l : Nat)) (hlc : (l : Int) < c 0) (hthr : g.thr t = fs ++ [F]) (hfs : fs.length < 100000) (hB' : c 11 = (B : Nat)) (hS' : c 10 = (S : Nat)) (h1 : F.fn = 30) (hp : F.pc = 6) (x1 : 1 ≤ F.r 4) (x2 : F.r 4 ≤ S) (hg : F.r 5 < 4294967296) (hst : F.r 0 < 256) : DoesTo 41 σ p t c tp n l g ((g.set l (oNd B S (F.r 4) 0) (mkHead (F.r 5) (F.r 0))).top t fs (F.goto 7)) := by
 intro K s M lab w h hM hB hA
 obtain ⟨b, hT⟩ := hA.atTop hM hB ht hq hthr
 obtain rfl := hA.cc
 have hfs' : (fs.map Fr.enc).length < 1000000 := by rw [List.length_map]; omega
 have hmay := hA.may
 have b1 : (s.tick l).mem.acc < 1000000000 := by show s.mem.acc < _; have := hA.acc; omega
 have b2 : (s.tick l).mem.wr < 1000000000 := by show s.mem.wr < _; have := hA.wr; omega
 have hl' : levelOf (s.tick l).c (t : Nat) = (l : Nat) := hl
 have hlc' : (l : Int) < (s.tick l).c 0 := hlc
 have gl : s.given.length ≤ n + 1 := Nat.le_succ_of_le hA.given
 have bk : (s.thr t).frames.dropLast = fs.map Fr.enc ∧ (s.thr t).st = (s.thr t).st ∧ (s.thr t).ki = (s.thr t).ki := ⟨by rw [hA.thr.fr t ht, hthr]; simp, rfl, rfl⟩
 have S256 := hmay.2.2.2.2.1
 have hk := inK_node' (c := s.c) (i := F.r 4) (j := 0) (by omega) (by omega) (by omega)
 have hit := atK_hit hmay hA.memN hlc hk
 refine (mi_do h hT hfs' (by show (F.fn : Int) = 30; omega) (R := fun s' => Did s.c n l s s' ((g.set l (oNd B S (F.r 4) 0) (mkHead (F.r 5) (F.r 0))).top t fs (F.goto 7))) fun w1 h1' => ?_).mono fun r w' ⟨e, M', lab', s', a1, a2, a3, a4⟩ => ⟨e, M', lab', s', a1, a3, a2, a4⟩
 refine (mint_6 h1' hT hfs' (sl := F.r 4) rfl (by omega) hl' hlc' b1 b2 (by show (F.pc : Int) = 6; omega) hk (gn := F.r 5) (st := F.r 0) rfl rfl hg hst).mono (fun r w' ⟨e, M', lab', h', hT'⟩ => ⟨e, M', lab', _, h', hT'.mach, hT'.base, ?_⟩)
 refine Did.one hA hk (Nat.le_refl _) ⟨rfl, rfl, rfl, rfl, rfl⟩ (store_to' hit) ?_ (hA.ward.mono (Nat.le_succ _)) ((hA.thr.set l _ _).top (t := t) (fs := fs) (F := F.goto 7)) gl
 have := hA.words.set hmay (l := l) hk (mkHead (F.r 5) (F.r 0))
 rw [off_node hB' hS' (by omega)] at this
 exact this
theorem does_m7 {σ : World} {p t q l n B S : Nat} {c : Nat → Int} {tp : List Nat} {g : GM} {fs : List Fr} {F : Fr} (hn : n < 100000) (ht : (t : Int) < c 1) (hq : tp[t]? = some q) (hl : levelOf c t = (l : Nat)) (hlc : (l : Int) < c 0) (hthr : g.thr t = fs ++ [F]) (hfs : fs.length < 100000) (hB' : c 11 = (B : Nat)) (hS' : c 10 = (S : Nat)) (h1 : F.fn = 30) (hp : F.pc = 7) : DoesTo 41 σ p t c tp n l g (g.back t fs [F.r 4, F.r 5]) := by
 intro K s M lab w h hM hB hA
 obtain ⟨b, hT⟩ := hA.atTop hM hB ht hq hthr
 obtain rfl := hA.cc
 have hfs' : (fs.map Fr.enc).length < 1000000 := by rw [List.length_map]; omega
 have hmay := hA.may
 have b1 : (s.tick l).mem.acc < 1000000000 := by show s.mem.acc < _; have := hA.acc; omega
 have b2 : (s.tick l).mem.wr < 1000000000 := by show s.mem.wr < _; have := hA.wr; omega
 have hl' : levelOf (s.tick l).c (t : Nat) = (l : Nat) := hl
 have hlc' : (l : Int) < (s.tick l).c 0 := hlc
 have gl : s.given.length ≤ n + 1 := Nat.le_succ_of_le hA.given
 have bk : (s.thr t).frames.dropLast = fs.map Fr.enc ∧ (s.thr t).st = (s.thr t).st ∧ (s.thr t).ki = (s.thr t).ki := ⟨by rw [hA.thr.fr t ht, hthr]; simp, rfl, rfl⟩
 have S256 := hmay.2.2.2.2.1
 refine (mi_do h hT hfs' (by show (F.fn : Int) = 30; omega) (R := fun s' => Did s.c n l s s' (g.back t fs [F.r 4, F.r 5])) fun w1 h1' => ?_).mono fun r w' ⟨e, M', lab', s', a1, a2, a3, a4⟩ => ⟨e, M', lab', s', a1, a3, a2, a4⟩
 refine (mint_7 h1' hT hfs' (by show (F.pc : Int) = 7; omega) (sl := F.r 4) (gn := F.r 5) rfl rfl).mono (fun r w' ⟨e, M', lab', h', hM', hB'⟩ => ⟨e, M', lab', _, h', hM', hB', ?_⟩)
 exact Did.none hA ⟨rfl, rfl, rfl, rfl, rfl⟩ rfl hA.words (hA.ward.mono (Nat.le_succ _)) (hA.thr.back (t := t) (fs := fs) (us := [F.r 4, F.r 5]) (x := s.thr t) bk) gl
end
section
open Go.RowKit
/-- All numbers at first. -/
def gm0 (B S : Nat) : GM := ⟨fun _ o => (w0 B S S o).toNat, fun _ i => i == 1, fun _ _ => 0, fun _ => [], fun _ _ => 0⟩
theorem w0_nn (B S s r : Nat) : 0 ≤ w0 B S s r := by
 unfold w0
 repeat' split
 all_goals omega
theorem absM_first {c : Nat → Int} {L B S : Nat} {s : MachS} (hn : Nums c L B S) (hc : ConfMay c) (h : s.New c L B S) (hw : s.ward.lv = s.c 0 ∧ s.ward.sl = s.c 10) : AbsM c s.tp 0 s (gm0 B S) := by
 obtain ⟨wb, hm⟩ := h.mem
 have hb0 := hn.b0
 have hs0 := hn.s0
 have hl0 := hn.l0
 have hf : s.mem.f = wl B S L := by rw [hm]; rfl
 refine ⟨h.c, hc, rfl, ?_, ?_, ?_, ?_, by rw [hm]; rfl, h.fault, by rw [hm]; exact Nat.le_refl _, by rw [hm]; exact Nat.le_refl _, by rw [h.steps]; exact Nat.le_refl _, fun k => by rw [h.clk]; exact Nat.le_refl _, by rw [h.given]; exact Nat.le_refl _⟩
 ·rw [hm, hn.sz, hn.lev]; show ((L * (18 + B + 6 * S) : Nat) : Int) = _; push_cast; rfl
 ·intro l o hl ho
  rw [hn.lev] at hl
  rw [hn.sz] at ho ⊢
  rw [Int.toNat_natCast, hf]
  have e := (idx_iff (l := l) (sz := 18 + B + 6 * S) (r := o) (by omega)).1 rfl
  unfold wl
  rw [e.1, e.2, if_pos (by omega)]
  show _ = (((w0 B S S o).toNat : Nat) : Int)
  rw [Int.toNat_of_nonneg (w0_nn _ _ _ _)]
 ·refine ⟨by rw [hw.1, h.c], by rw [hw.2, h.c], fun l i h1 h2 h3 => ?_, fun l i h1 h2 h3 => by rw [h.gens.1]; rfl, ?_, ?_, fun l i => by rw [h.gens.1]; exact ⟨Int.le_refl _, Int.le_refl _⟩, h.slips, ?_, ?_⟩
  ·rw [h.held.1, firstHeld_val]
   show _ = if (i == 1) = true then 1 else 0
   rw [hn.lev] at h1
   by_cases hi : i = 1
   ·subst hi; rw [if_pos ⟨rfl, by omega, by omega⟩]; rfl
   ·rw [if_neg (by omega), if_neg (by simpa using hi)]
  ·rw [h.held.1]
   unfold OnceE firstHeld
   rw [List.map_map]
   have : ((fun x : Ent => (x.l, x.s)) ∘ fun (l : Nat) => (⟨l, 1, 1, l⟩ : Ent)) = fun l : Nat => ((l : Int), (1 : Int)) := rfl
   rw [this]
   exact List.Pairwise.map _ (fun a b hab e => hab (by have := congrArg Prod.fst e; exact Int.ofNat_inj.1 this)) (List.nodup_range (n := L))
  ·rw [h.gens.1]; exact ⟨fun x hx => by simp at hx, by simp⟩
  ·rw [h.held.1]
   intro x hx
   unfold firstHeld at hx
   obtain ⟨k, hk, rfl⟩ := List.mem_map.1 hx
   have := List.mem_range.1 hk
   exact ⟨by show (0 : Int) ≤ (k : Int); omega, by rw [hn.lev]; show (k : Int) < _; omega, by show (1 : Int) ≤ 1; decide, by rw [hn.slo]; show (1 : Int) ≤ _; omega, rfl⟩
  ·rw [h.held.1, h.held.2]
   unfold firstHeld
   refine ⟨fun x hx => ?_, ?_⟩
   ·obtain ⟨k, hk, rfl⟩ := List.mem_map.1 hx
    exact List.mem_range.1 hk
   ·rw [List.map_map]
    have : ((fun x : Ent => x.born) ∘ fun (l : Nat) => (⟨l, 1, 1, l⟩ : Ent)) = fun l : Nat => l := rfl
    rw [this, List.map_id']
    exact List.nodup_range
 ·refine ⟨fun t _ => by rw [h.thr]; rfl, fun t => by rw [h.thr]; rfl, fun t j => by rw [h.thr]; rfl⟩
/-- A thread begins a routine. -/
theorem AbsM.begun {c : Nat → Int} {tp : List Nat} {n : Nat} {s : MachS} {g : GM} (h : AbsM c tp n s g) {t : Nat} (ht : (t : Int) < c 1) (fn : Nat) (us : List Nat) : AbsM c tp n (s.begun t fn (us.map fun u : Nat => (u : Int))) (g.top t (g.thr t) ⟨fn, 0, fun i => us.getD i 0⟩) := by
 refine ⟨h.cc, h.may, h.ttp, h.memN, h.words, h.ward, ?_, h.flt, h.fault, h.acc, h.wr, h.steps, h.clk, h.given⟩
 have := h.thr.top (t := t) (fs := g.thr t) (F := ⟨fn, 0, fun i => us.getD i 0⟩)
 have e : (fun j => if j = t then { s.thr t with frames := (g.thr t).map Fr.enc ++ [Fr.enc ⟨fn, 0, fun i => us.getD i 0⟩] } else s.thr j) = (s.begun t fn (us.map fun u : Nat => (u : Int))).thr := by
  funext j
  show _ = if j = t then (s.thr t).call fn _ else s.thr j
  by_cases e : j = t
  ·rw [if_pos e, if_pos e]
   have er : (fun i => ((us.getD i 0 : Nat) : Int)) = fun i => (us.map fun u : Nat => (u : Int)).getD i 0 := by
    funext i
    rw [List.getD_eq_getElem?_getD, List.getD_eq_getElem?_getD, List.getElem?_map]
    cases us[i]? <;> rfl
   show ({ s.thr t with frames := (g.thr t).map Fr.enc ++ [⟨fn, 0, fun i => ((us.getD i 0 : Nat) : Int)⟩] } : ThrS) = { s.thr t with frames := (s.thr t).frames ++ [⟨fn, 0, fun i => (us.map fun u : Nat => (u : Int)).getD i 0⟩] }
   rw [er, h.thr.fr t ht]
  ·rw [if_neg e, if_neg e]
 rw [e] at this
 exact this
end
section
open Go.RowKit
/-- From step to step: what is known of each state. -/
structure TrailP (σ : World) (K : Mm) (p t q : Nat) (dv : Value) (n : Nat) (P : Nat → MachS → Prop) (k : Nat) : Prop where
 step : ∀ i, i < k → ∀ (M : Mm) (lab : Nat → Nat) (s : MachS) (w : World), Has σ M w → Mach M lab p s → Base K M lab → P i s → Calls Tryz.prog 33 #[.pointer (some ⟨p, 0, none⟩), .int .i64 (t : Nat), dv] w fun r w' => ∃ M' lab' b s', r = .returned (.bool b) ∧ Has σ M' w' ∧ Mach M' lab' p s' ∧ Base K M' lab' ∧ P (i + 1) s'
 tp : ∀ i, i ≤ k → ∀ s, P i s → s.tp[t]? = some q
 deep : ∀ i, 0 < i → i < k → ∀ s, P i s → n < (s.thr t).frames.length
 done : ∀ s, P k s → (s.thr t).frames.length ≤ n
set_option maxHeartbeats 4000000 in
set_option maxRecDepth 20000 in
theorem alone_rel {σ w : World} {K M : Mm} {lab : Nat → Nat} {p t q : Nat} {s : MachS} (h : Has σ M w) (hM : Mach M lab p s) (hB : Base K M lab) (hq : s.tp[t]? = some q) {dv rv : Value} {us : List Int} (hr : Rd M 1 rv us.length (u64s us)) (hu : us.length ≤ 16) (hfr : (s.thr t).frames.length < 1000000) (fn : Int) {k most : Nat} {P : Nat → MachS → Prop} (h0 : P 0 (s.begun t fn us)) (hk : 0 < k) (hkm : k ≤ most) (hmost : most < 1000000) (hT : TrailP σ K p t q dv (s.thr t).frames.length P k) :
  Calls Tryz.prog 14 #[.pointer (some ⟨p, 0, none⟩), .int .i64 (t : Nat), dv, .int .i64 (most : Nat), .int .i64 fn, rv] w fun r w' => r = .returned (.int .i64 (k : Nat)) ∧ ∃ M' lab' s', Has σ M' w' ∧ Mach M' lab' p s' ∧ Base K M' lab' ∧ P k s' := by
 have TH := Lib.hid (fun (w : World) (h : Has σ M w) => mThread_yes h hM hq)
 obtain ⟨fv, hv, fbs, hTh⟩ := hM.each t q hq
 have hl := hTh.flen
 have DP := Lib.hid (fun (w : World) (h : Has σ M w) => thrDeep_eq h hTh)
 rw [hl] at DP
 have CA := Lib.hid (fun (w : World) (h : Has σ M w) => thrCall_eq h hTh fn (rv := rv) (us := us) hr hu (by omega))
 have HM := Lib.hid hM
 have HB := Lib.hid hB
 have HQ := Lib.hid hq
 have H0 := Lib.hid h0
 have TR := Lib.hid hT
 clear hM hB hq hTh h0 hT hr hu hl
 generalize hn : (s.thr t).frames.length = n at *
 clear hn
 go_enter Tryz.func14, Tryz.ntmps14
 go_upto_region 6 with (first
  | (go_at_call 13; refine (TH.out _ h).mono ?_; clear h; rintro _ w ⟨rfl, h⟩)
  | (go_at_call 30; refine (DP.out _ h).mono ?_; clear h; rintro _ w ⟨rfl, h⟩)
  | (go_at_call 34; refine (CA.out _ h).mono ?_; clear h; rintro _ w ⟨rfl, M3, lab3, h, hK3, hT3⟩))
 obtain ⟨hM3, hB3⟩ := HM.out.thrTo HB.out HQ.out hK3 hT3
 have HM4 := Lib.hid hM3
 have HB4 := Lib.hid hB3
 clear hM3 hB3 hK3 hT3 TH DP CA HM HB HQ
 go_upto_region 7 with (fail)
 go_loopw [15] (fun u wr => ∃ j : Nat, j < k ∧ u = .int .i64 (j : Nat) ∧ ∃ M5 lab5 s5, Has σ M5 wr ∧ Mach M5 lab5 p s5 ∧ Base K M5 lab5 ∧ P j s5) (fun u _ => most - (intOf u).toNat)
 case atStart => exact ⟨0, hk, rfl, M3, lab3, _, h, HM4.out, HB4.out, H0.out⟩
 case round =>
  clear h w HM4 HB4 M3 lab3
  obtain ⟨w, rfl⟩ : ∃ x : World, x = wr := ⟨_, rfl⟩
  obtain ⟨j, hj, rfl, M5, lab5, s5, h, hM5, hB5, hP5⟩ := hrel
  have hjm : (j : Int) < (most : Int) := by omega
  have SP := Lib.hid (fun (w : World) (h : Has σ M5 w) => TR.out.step j hj M5 lab5 s5 w h hM5 hB5 hP5)
  clear hM5 hB5 hP5
  go_upto_region 10 with (first
   | (go_at_call 33; refine (SP.out _ h).mono ?_; clear h; rintro _ w ⟨M6, lab6, b6, s6, rfl, h, hM6, hB6, hP6⟩))
  obtain ⟨fv6, hv6, fbs6, hT6⟩ := hM6.each t q (TR.out.tp (j + 1) (by omega) s6 hP6)
  have hl6 := hT6.flen
  have DP6 := Lib.hid (fun (w : World) (h : Has σ M6 w) => thrDeep_eq h hT6)
  rw [hl6] at DP6
  have HM6 := Lib.hid hM6
  have HB6 := Lib.hid hB6
  have HP6 := Lib.hid hP6
  clear SP hT6 hl6 hM6 hB6
  by_cases e : j + 1 = k
  ·have hle : (s6.thr t).frames.length ≤ n := TR.out.done s6 (by rw [← e]; exact hP6)
   have hle2 : decide (((s6.thr t).frames.length : Int) ≤ (n : Int)) = true := decide_eq_true (by omega)
   have HE := Lib.hid e
   clear e hP6
   generalize (s6.thr t).frames.length = n6 at *
   go_wp2_with (first
    | (go_at_call 30; refine (DP6.out _ h).mono ?_; clear h; rintro _ w ⟨rfl, h⟩))
   go_ret
   exact ⟨by rw [← HE.out]; exact congrArg (fun z => Ending.returned (Value.int .i64 z)) (by omega), M6, lab6, s6, h, HM6.out, HB6.out, by rw [← HE.out]; exact HP6.out⟩
  ·have hgt : n < (s6.thr t).frames.length := TR.out.deep (j + 1) (by omega) (by omega) s6 hP6
   have hgt2 : decide (((s6.thr t).frames.length : Int) ≤ (n : Int)) = false := decide_eq_false (by omega)
   have hgt3 : ¬ (s6.thr t).frames.length ≤ n := by omega
   clear hgt hP6
   generalize (s6.thr t).frames.length = n6 at *
   go_wp2_with (first
    | (go_at_call 30; refine (DP6.out _ h).mono ?_; clear h; rintro _ w ⟨rfl, h⟩))
   go_roundw
   case rel => exact ⟨j + 1, by omega, by go_num, M6, lab6, s6, h, HM6.out, HB6.out, HP6.out⟩
   case measure => simp [intOf]; omega
end
section
open Go.RowKit
def chainP (lk : Nat → Nat) : Nat → List Nat → Prop
 | s, [] => s = 0
 | s, x :: r => s = x ∧ 1 ≤ x ∧ chainP lk (lk x) r
theorem chainP_congr {lk lk' : Nat → Nat} : ∀ (L : List Nat) (s : Nat), chainP lk s L → (∀ x ∈ L, lk' x = lk x) → chainP lk' s L
 | [], _, h, _ => h
 | x :: r, s, h, hx => ⟨h.1, h.2.1, by rw [hx x List.mem_cons_self]; exact chainP_congr r _ h.2.2 fun y hy => hx y (List.mem_cons_of_mem _ hy)⟩
theorem mkTop_eq (a n : Nat) : mkTop a n = 256 * (n % 72057594037927936) + a % 256 := by
 unfold mkTop setN cutN
 have h1 : a / 2 ^ 0 % 2 ^ 8 / 2 ^ (8 + 56) = 0 := Nat.div_eq_of_lt (by omega)
 rw [h1]
 omega
theorem mkHead_eq (g st : Nat) : mkHead g st = 4 * (g % 4294967296) + st % 4 := by
 unfold mkHead setN cutN
 have h1 : st / 2 ^ 0 % 2 ^ 2 / 2 ^ (2 + 32) = 0 := Nat.div_eq_of_lt (by omega)
 rw [h1]
 omega
theorem slOf_eq (x : Nat) : slOf x = x % 256 := by unfold slOf cutN; omega
theorem cnt_eq (x : Nat) : cnt x = x / 256 % 72057594037927936 := by unfold cnt cutN; omega
theorem genOf_eq (x : Nat) : genOf x = x / 4 % 4294967296 := by unfold genOf cutN; omega
theorem sl_top {a n : Nat} (h : a < 256) : slOf (mkTop a n) = a := by rw [slOf_eq, mkTop_eq]; omega
theorem cnt_top {a n : Nat} (h : n < 1000000) : cnt (mkTop a n) = n := by rw [cnt_eq, mkTop_eq]; omega
theorem top_lt (a n : Nat) : mkTop a n < 18446744073709551616 := by rw [mkTop_eq]; omega
theorem gen_head {g st : Nat} (h : g < 1000000) : genOf (mkHead g st) = g := by rw [genOf_eq, mkHead_eq]; omega
theorem head_lt (g st : Nat) : mkHead g st < 17179869184 := by rw [mkHead_eq]; omega
theorem head_st (g : Nat) : mkHead g 0 % 4 = 0 := by rw [mkHead_eq]; omega
def Past (top r : Nat) : Prop := cnt r ≤ cnt top ∧ (cnt r = cnt top → r = top)
theorem Past.refl (x : Nat) : Past x x := ⟨Nat.le_refl _, fun _ => rfl⟩
/-- A thread within a routine. Owners: 1 free, (2, j) had, (3, t) being taken, (4, t) being given, (5, t) given back and not yet free, 0 none. -/
structure ThrI (S : Nat) (V : LvG) (ow : Nat → Nat × Nat) (t : Nat) (F : StF) : Prop where
 fn : F.fn = 1 ∨ F.fn = 2
 r1 : F.r1 < 18446744073709551616
 past : (F.fn = 1 ∧ (F.pc = 1 ∨ F.pc = 2)) ∨ (F.fn = 2 ∧ (F.pc = 8 ∨ F.pc = 9)) → Past V.top F.r1 ∧ slOf F.r1 ≤ S
 tk : F.fn = 1 → F.pc ≤ 3
 gv : F.fn = 2 → F.pc ≤ 9
 tk2 : F.fn = 1 → F.pc = 2 → 1 ≤ slOf F.r1 ∧ F.r2 ≤ S ∧ (V.top = F.r1 → F.r2 = V.lk (slOf F.r1))
 tk3 : F.fn = 1 → F.pc = 3 → 1 ≤ slOf F.r1 ∧ slOf F.r1 ≤ S ∧ ow (slOf F.r1) = (3, t)
 r0 : F.fn = 2 → 1 ≤ F.r0 ∧ F.r0 ≤ S ∧ ow F.r0 = (if F.pc ≤ 6 then 4 else 5, t)
 gen : F.fn = 2 → 1 ≤ F.pc → F.pc ≤ 6 → F.r2 = genOf (V.hd F.r0) + 1
 lk9 : F.fn = 2 → F.pc = 9 → V.lk F.r0 = slOf F.r1
structure LvI (S gens n : Nat) (V : LvG) (ow : Nat → Nat × Nat) (L : List Nat) : Prop where
 chain : chainP V.lk (slOf V.top) L
 nodup : L.Nodup
 mem : ∀ x, x ∈ L ↔ 1 ≤ x ∧ x ≤ S ∧ (ow x).1 = 1
 top : V.top < 18446744073709551616
 cntN : cnt V.top ≤ n
 lk : ∀ i, 1 ≤ i → i ≤ S → V.lk i ≤ S
 hd : ∀ i, 1 ≤ i → i ≤ S → V.hd i < 17179869184 ∧ genOf (V.hd i) ≤ n
 on : ∀ i, 1 ≤ i → i ≤ S → (ow i).1 = 2 ∨ (ow i).1 = 3 ∨ (ow i).1 = 4 → V.held i = true
 off : ∀ i, 1 ≤ i → i ≤ S → (ow i).1 = 1 ∨ (ow i).1 = 5 → V.held i = false ∧ V.hd i % 4 = 0 ∧ genOf (V.hd i) < gens
 none : ∀ i, 1 ≤ i → i ≤ S → (ow i).1 = 0 → V.held i = true ∨ gens ≤ genOf (V.hd i)
 code : ∀ i, 1 ≤ i → i ≤ S → (ow i).1 ≤ 5
structure EvI (S : Nat) (V : LvG) (ow : Nat → Nat × Nat) (ev : List (Nat × Nat)) : Prop where
 all : ∀ x gn, (x, gn) ∈ ev → 1 ≤ x ∧ x ≤ S ∧ gn ≤ genOf (V.hd x) ∧ ((ow x).1 = 1 ∨ (ow x).1 = 3 ∨ (ow x).1 = 5 → gn < genOf (V.hd x))
structure HadI (S : Nat) (ow : Nat → Nat × Nat) (j : Nat) (had : List Nat) : Prop where
 nodup : had.Nodup
 all : ∀ x ∈ had, 1 ≤ x ∧ x ≤ S ∧ ow x = (2, j)
structure GInv (S gens NL T : Nat) (lev hl : Nat → Nat) (n : Nat) (g : StG) (L : Nat → List Nat) (ow : Nat → Nat → Nat × Nat) (had : Nat → List Nat) (ev : Nat → List (Nat × Nat)) : Prop where
 lv : ∀ l, l < NL → LvI S gens n (g.lv l) (ow l) (L l)
 thr : ∀ t, t < T → ∀ F, g.thr t = some F → ThrI S (g.lv (lev t)) (ow (lev t)) t F
 had : ∀ j, HadI S (ow (hl j)) j (had j)
 ev : ∀ l, l < NL → EvI S (g.lv l) (ow l) (ev l)
section
variable {S gens NL T n : Nat} {lev hl : Nat → Nat} {g g2 : StG} {L : Nat → List Nat} {ow : Nat → Nat → Nat × Nat} {had : Nat → List Nat} {ev : Nat → List (Nat × Nat)} {t l : Nat} {F F2 : StF} {V V2 : LvG} {o o2 : Nat → Nat × Nat}
theorem LvI.mono {L : List Nat} (h : LvI S gens n V o L) : LvI S gens (n + 1) V o L :=
 ⟨h.chain, h.nodup, h.mem, h.top, Nat.le_succ_of_le h.cntN, h.lk, fun i a b => ⟨(h.hd i a b).1, Nat.le_succ_of_le (h.hd i a b).2⟩, h.on, h.off, h.none, h.code⟩
theorem LvI.first {L : List Nat} (h : LvI S gens n V o L) : slOf V.top ≤ S ∧ (slOf V.top = 0 → L = []) ∧ (slOf V.top ≠ 0 → ∃ r, L = slOf V.top :: r) := by
 have hc := h.chain
 cases hL : L with
 | nil => rw [hL] at hc; have e : slOf V.top = 0 := hc; rw [e]; exact ⟨Nat.zero_le _, fun _ => rfl, fun h => absurd rfl h⟩
 | cons x r =>
  rw [hL] at hc
  obtain ⟨e, e1, _⟩ := hc
  have hx := (h.mem x).1 (by rw [hL]; exact List.mem_cons_self)
  rw [e]
  exact ⟨hx.2.1, fun e2 => by omega, fun _ => ⟨r, rfl⟩⟩
/-- Another thread's step. -/
theorem ThrI.frame {t' x : Nat} (h : ThrI S V o t' F) (c1 : V2.top = V.top ∨ cnt V2.top = cnt V.top + 1) (c2 : ∀ i, i ≠ x → V2.lk i = V.lk i ∧ V2.hd i = V.hd i ∧ o2 i = o i) (c3 : ∀ k, 3 ≤ k → o x ≠ (k, t')) (c4 : V2.top = V.top → slOf V.top ≠ x ∨ V2.lk x = V.lk x) : ThrI S V2 o2 t' F := by
 have hr0 : F.fn = 2 → F.r0 ≠ x := fun h2 e => by
  have := (h.r0 h2).2.2
  rw [e] at this
  split at this
  ·exact c3 4 (by omega) this
  ·exact c3 5 (by omega) this
 refine ⟨h.fn, h.r1, fun hp => ⟨?_, (h.past hp).2⟩, h.tk, h.gv, fun h1 h2 => ?_, fun h1 h2 => ?_, fun h1 => ?_, fun h1 h2 h3 => ?_, fun h1 h2 => ?_⟩
 ·obtain ⟨a, b⟩ := (h.past hp).1
  rcases c1 with e | e
  ·rw [e]; exact ⟨a, b⟩
  ·exact ⟨by omega, fun e2 => by omega⟩
 ·obtain ⟨a, b, d⟩ := h.tk2 h1 h2
  refine ⟨a, b, fun e => ?_⟩
  have hp := (h.past (.inl ⟨h1, .inr h2⟩)).1
  rcases c1 with e1 | e1
  ·rw [d (by rw [← e1]; exact e)]
   by_cases hx : slOf F.r1 = x
   ·rcases c4 e1 with h4 | h4
    ·exact absurd (by rw [← e1, e]; exact hx) h4
    ·rw [hx, h4]
   ·exact ((c2 _ hx).1).symm
  ·rw [e] at e1
   have := hp.1
   omega
 ·obtain ⟨a, b, d⟩ := h.tk3 h1 h2
  exact ⟨a, b, by rw [(c2 _ fun e => c3 3 (by omega) (by rw [← e]; exact d)).2.2]; exact d⟩
 ·obtain ⟨a, b, d⟩ := h.r0 h1
  exact ⟨a, b, by rw [(c2 _ (hr0 h1)).2.2]; exact d⟩
 ·rw [(c2 _ (hr0 h1)).2.1]; exact h.gen h1 h2 h3
 ·rw [(c2 _ (hr0 h1)).1]; exact h.lk9 h1 h2
/-- A step at level l: what is to be shown. -/
theorem GInv.upd (h : GInv S gens NL T lev hl n g L ow had ev) (hl0 : lev t < NL) {x : Nat} {L2 : List Nat} {had2 : Nat → List Nat} {ev2 : List (Nat × Nat)} {Fo : Option StF}
  (e1 : g2.lv = put1 g.lv (lev t) V2) (e2 : g2.thr = put1 g.thr t Fo)
  (c1 : V2.top = (g.lv (lev t)).top ∨ cnt V2.top = cnt (g.lv (lev t)).top + 1) (c2 : ∀ i, i ≠ x → V2.lk i = (g.lv (lev t)).lk i ∧ V2.hd i = (g.lv (lev t)).hd i ∧ o2 i = ow (lev t) i) (c3 : ∀ k t', 3 ≤ k → t' ≠ t → ow (lev t) x ≠ (k, t')) (c4 : V2.top = (g.lv (lev t)).top → slOf (g.lv (lev t)).top ≠ x ∨ V2.lk x = (g.lv (lev t)).lk x)
  (hL : LvI S gens (n + 1) V2 o2 L2) (hF : ∀ F, Fo = some F → ThrI S V2 o2 t F) (hH : ∀ j, hl j = lev t → HadI S o2 j (had2 j)) (hH2 : ∀ j, hl j ≠ lev t → had2 j = had j) (hE : EvI S V2 o2 ev2) :
  GInv S gens NL T lev hl (n + 1) g2 (put1 L (lev t) L2) (put1 ow (lev t) o2) had2 (put1 ev (lev t) ev2) := by
 refine ⟨fun l hl => ?_, fun t' ht' F hF' => ?_, fun j => ?_, fun l hl => ?_⟩
 ·rw [e1]
  by_cases e : l = lev t
  ·subst e; rw [put1_same, put1_same, put1_same]; exact hL
  ·rw [put1_ne e, put1_ne e, put1_ne e]; exact (h.lv l hl).mono
 ·rw [e1]
  rw [e2] at hF'
  by_cases e : t' = t
  ·subst e
   rw [put1_same] at hF'
   rw [put1_same, put1_same]
   exact hF F hF'
  ·rw [put1_ne e] at hF'
   have h0 := h.thr t' ht' F hF'
   by_cases e3 : lev t' = lev t
   ·rw [e3, put1_same, put1_same]
    rw [e3] at h0
    exact h0.frame c1 c2 (fun k hk => c3 k t' hk e) c4
   ·rw [put1_ne e3, put1_ne e3]; exact h0
 ·by_cases e : hl j = lev t
  ·rw [e, put1_same]; exact hH j e
  ·rw [put1_ne e, hH2 j e]; exact h.had j
 ·rw [e1]
  by_cases e : l = lev t
  ·subst e; rw [put1_same, put1_same, put1_same]; exact hE
  ·rw [put1_ne e, put1_ne e, put1_ne e]; exact h.ev l hl
/-- A step that changes the thread alone. -/
theorem GInv.same (h : GInv S gens NL T lev hl n g L ow had ev) {Fo : Option StF} (e1 : g2.lv = g.lv) (e2 : g2.thr = put1 g.thr t Fo) (hF : ∀ F, Fo = some F → ThrI S (g.lv (lev t)) (ow (lev t)) t F) : GInv S gens NL T lev hl (n + 1) g2 L ow had ev := by
 refine ⟨fun l hl => by rw [e1]; exact (h.lv l hl).mono, fun t' ht' F hF' => ?_, h.had, fun l hl => by rw [e1]; exact h.ev l hl⟩
 rw [e1]
 rw [e2] at hF'
 by_cases e : t' = t
 ·subst e; rw [put1_same] at hF'; exact hF F hF'
 ·rw [put1_ne e] at hF'; exact h.thr t' ht' F hF'
theorem EvI.keep {ev : List (Nat × Nat)} (h : EvI S V o ev) (hh : ∀ i, V2.hd i = V.hd i) (ho : ∀ i, 1 ≤ i → i ≤ S → (o2 i).1 = 1 ∨ (o2 i).1 = 3 ∨ (o2 i).1 = 5 → (o i).1 = 1 ∨ (o i).1 = 3 ∨ (o i).1 = 5) : EvI S V2 o2 ev :=
 ⟨fun x gn hx => by
  obtain ⟨a, b, d, e⟩ := h.all x gn hx
  rw [hh]
  exact ⟨a, b, d, fun he => e (ho x a b he)⟩⟩
theorem HadI.keep {j x : Nat} {hd : List Nat} (h : HadI S o j hd) (h1 : ∀ i, i ≠ x → o2 i = o i) (hx : (o x).1 ≠ 2) : HadI S o2 j hd :=
 ⟨h.nodup, fun y hy => by
  obtain ⟨a, b, d⟩ := h.all y hy
  exact ⟨a, b, by rw [h1 y fun e => hx (by rw [← e, d])]; exact d⟩⟩
end
end
end Go.Proofs.YtjeeldacnllipaaGreat
