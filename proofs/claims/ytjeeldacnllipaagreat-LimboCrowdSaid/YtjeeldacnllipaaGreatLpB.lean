import Derived.Test.YtjeeldacnllipaaGreatLpA
import Derived.Test.YtjeeldacnllipaaGreatLpO
namespace Go.Proofs.YtjeeldacnllipaaGreat
set_option maxHeartbeats 100000000
set_option maxRecDepth 20000
set_option linter.unusedVariables false
set_option linter.unusedSimpArgs false
set_option linter.unnecessarySimpa false
open List renaming getElem_toArray → qA, getElem_cons_succ → qB, getElem_cons_zero → qC, setIfInBounds_toArray → qD, set_cons_zero → qE, set_cons_succ → qF
section
open Go.RowKit
theorem give_7 {σ w : World} {K M : Mm} {lab : Nat → Nat} {p t q b : Nat} {s : MachS} {fs : List FrameS} {f : FrameS} (h : Has σ M w) (hT : AtTop K M lab p s t q b fs f) (hat : f.at_ = 7) {sl : Nat} (h0 : f.r 0 = (sl : Int)) (hsl : sl < 256) {a : Int} (SP : SpotAt σ M p t 0 0 0 a) (hb1 : s.mem.acc < 1000000000) :
  Calls Tryz.prog 133 #[.agg (runC p t q b)] w fun r w' => r = .returned (.tuple #[]) ∧ ∃ M' lab', Has σ M' w' ∧ AtTop K M' lab' p (MachS.top { s with mem := s.mem.at_ a } t fs ((f.reg 1 (s.mem.load a)).goto 8)) t q b fs ((f.reg 1 (s.mem.load a)).goto 8) := by
 obtain ⟨d0, d1, d2, d3, dx, dz⟩ := runD p t q b
 have f1 : f.row[1]? = some (.int .i64 7) := by rw [← hat]; rfl
 have f2 : f.row[2]? = some (.int .u64 (sl : Nat)) := by rw [← h0]; rfl
 have us : IntKind.i64.wrap ((sl : Nat) : Int) = ((sl : Nat) : Int) := IntWalk.i64_in _ (by omega)
 clear hat
 go_enter Tryz.func133, Tryz.ntmps133
 go_upto_region 1 with (fail)
 obtain ⟨M1, hbx, hle, hb4, hn⟩ := h.box (.cells (runC p t q b) 193)
 generalize w.alloc _ = wx at hbx ⊢
 generalize w.heap.size = b4 at hb4 hn ⊢
 clear h
 try clear w
 have h := hbx
 clear hbx
 obtain ⟨w, rfl⟩ : ∃ x : World, x = wx := ⟨_, rfl⟩
 obtain ⟨lab1, hT1⟩ := hT.more1 hle hn hb4
 have hnK : K b4 = none := by
  cases e : K b4 with
  | none => rfl
  | some o => have := (hT.base _ _ e).1; rw [hn] at this; cases this
 have hKK : K.le (K.upd b4 (.cells (runC p t q b) 193)) := Mm.le_upd' hnK _
 have hbK : (K.upd b4 (.cells (runC p t q b) 193)) b4 = some (.cells (runC p t q b) 193) := Mm.upd_same _ _ _
 have hfb := hT1.obj
 have TP := Lib.hid (fun (w : World) (h : Has σ M1 w) => kC h hT1 (SP.le hle) hb1 8)
 have HK := Lib.hid hKK
 clear hT hT1 SP hb1 hn hnK hKK h0
 generalize runC p t q b = rc at *
 generalize f.row = fr0 at *
 go_wp2_with (first
  | (with_reducible show wpList _ _ _ (⟨_, .load 70 _, _, _, _, _⟩ :: _) _ _; refine zZ h rfl 70 _ rfl rfl hb4 d3 Tryz.underlying70 rfl ?_)
  | (with_reducible show wpList _ _ _ (⟨_, .load 42 _, _, _, _, _⟩ :: _) _ _; refine zZ h rfl 42 _ rfl rfl hfb f2 Tryz.underlying42 rfl ?_)
  | (with_reducible show wpList _ _ _ (⟨_, .load 3 _, _, _, _, _⟩ :: _) _ _; refine zZ h rfl 3 _ rfl rfl hfb f1 Tryz.underlying3 rfl ?_)
  | ((with_reducible show wpList _ _ _ (⟨_, .load 190 _, _, _, _, _⟩ :: _) _ _); refine zR h rfl 190 _ rfl rfl hb4 dx dz Tryz.underlying190 rfl (by kernel_rfl) ?_; try simp only [Act.put, qD, qE, qF])
  | (go_at_call 139; refine (TP.out _ h).mono ?_; clear h; rintro _ w ⟨rfl, M2, lab2, h, hT2⟩))
 go_end0
 exact ⟨rfl, M2, lab2, h, hT2.less HK.out⟩
theorem give_0 {σ w : World} {K M : Mm} {lab : Nat → Nat} {p t q b lv : Nat} {s : MachS} {fs : List FrameS} {f : FrameS} (h : Has σ M w) (hT : AtTop K M lab p s t q b fs f) (hat : f.at_ = 0) {sl z : Nat} (h0 : f.r 0 = (sl : Int)) (hsl : sl < 256) (hlv : zT s.c (t : Nat) = (lv : Nat)) (hlc : (lv : Int) < s.c 0) (hin : InK s.c 9 (sl : Nat) 0) (hz : s.mem.load (atK s.c lv 9 (sl : Nat) 0) = (z : Int)) (hz64 : z < 18446744073709551616) (hb1 : s.mem.acc < 1000000000) :
  Calls Tryz.prog 133 #[.agg (runC p t q b)] w fun r w' => r = .returned (.tuple #[]) ∧ ∃ M' lab', Has σ M' w' ∧ AtTop K M' lab' p (MachS.top { s with mem := s.mem.at_ (atK s.c lv 9 (sl : Nat) 0) } t fs ((f.reg 2 ((cutN z 2 32 : Nat) + 1)).goto 1)) t q b fs ((f.reg 2 ((cutN z 2 32 : Nat) + 1)).goto 1) := by
 obtain ⟨d0, d1, d2, d3, dx, dz⟩ := runD p t q b
 have f1 : f.row[1]? = some (.int .i64 0) := by rw [← hat]; rfl
 have f2 : f.row[2]? = some (.int .u64 (sl : Nat)) := by rw [← h0]; rfl
 have us : IntKind.i64.wrap ((sl : Nat) : Int) = ((sl : Nat) : Int) := IntWalk.i64_in _ (by omega)
 clear hat
 have HS := Lib.hid (rT z hz64)
 have lz : cutN z 2 32 < 4294967296 := yG z 2 32
 have SPA := zD (σ := σ) hT.mach hlv hlc hin
 obtain ⟨a, ha⟩ : ∃ a, atK s.c lv 9 (sl : Nat) 0 = a := ⟨_, rfl⟩
 rw [ha] at hz SPA ⊢
 obtain ⟨g1, hg1⟩ : ∃ g, cutN z 2 32 = g := ⟨_, rfl⟩
 rw [hg1] at HS lz ⊢
 generalize cutN z 0 2 = g2 at HS
 have ug : IntKind.i64.wrap ((g1 : Int) + 1) = (g1 : Int) + 1 := IntWalk.i64_in _ (by omega)
 have ug2 : IntKind.u64.wrap ((g1 : Int) + 1) = (g1 : Int) + 1 := IntWalk.u64_in _ (by omega)
 have ND := Lib.hid (fun (M' : Mm) (w : World) (h : Has σ M' w) (hle : M.le M') => wW (q := q) (b := b) h (SPA.le hle))
 clear h0 ha hg1 hlv hlc hin SPA hz64
 go_enter Tryz.func133, Tryz.ntmps133
 go_upto_region 1 with (fail)
 obtain ⟨M1, hbx, hle, hb4, hn⟩ := h.box (.cells (runC p t q b) 193)
 generalize w.alloc _ = wx at hbx ⊢
 generalize w.heap.size = b4 at hb4 hn ⊢
 clear h
 try clear w
 have h := hbx
 clear hbx
 obtain ⟨w, rfl⟩ : ∃ x : World, x = wx := ⟨_, rfl⟩
 obtain ⟨lab1, hT1⟩ := hT.more1 hle hn hb4
 have hnK : K b4 = none := by
  cases e : K b4 with
  | none => rfl
  | some o => have := (hT.base _ _ e).1; rw [hn] at this; cases this
 have hKK : K.le (K.upd b4 (.cells (runC p t q b) 193)) := Mm.le_upd' hnK _
 have hbK : (K.upd b4 (.cells (runC p t q b) 193)) b4 = some (.cells (runC p t q b) 193) := Mm.upd_same _ _ _
 have hfb := hT1.obj
 have ND1 := Lib.hid (fun (w : World) (h : Has σ M1 w) => ND.out M1 w h hle)
 have ME := Lib.hid (fun (w : World) (h : Has σ M1 w) => yJ h hT1.mach)
 have LD := Lib.hid (fun (w : World) (h : Has σ M1 w) => xM h hT1.mach.mem hb1 a)
 rw [hz] at LD
 have KL := hT1.base.le
 have hT2 := hT1.load a
 have KE := hT2.base.le
 obtain ⟨hfb2, hT3⟩ := hT2.frame (f.reg 2 ((g1 : Int) + 1))
 obtain ⟨hfb3, hT4⟩ := hT3.frame ((f.reg 2 ((g1 : Int) + 1)).goto 1)
 rw [MachS.top_top, Mm.upd_upd] at hT4
 have HT := Lib.hid (hT4.less hKK)
 have hsz : 4 < f.row.size := show 4 < 18 by omega
 have hsz3 : 1 < (f.reg 2 ((g1 : Int) + 1)).row.size := show 1 < 18 by omega
 have R1 := Lib.hid (row_reg2 f ((g1 : Int) + 1))
 have R2 := Lib.hid (xZ (f.reg 2 ((g1 : Int) + 1)) 1)
 clear hT hT1 hT2 hT3 hT4 hn hle hnK hKK hb1 hz ND
 generalize runC p t q b = rc at *
 generalize K.upd b4 _ = K1 at *
 generalize hr0 : f.row = fr0 at *
 generalize hr1 : (f.reg 2 ((g1 : Int) + 1)).row = fr1 at *
 generalize hr2 : ((f.reg 2 ((g1 : Int) + 1)).goto 1).row = fr2 at *
 clear hr0 hr1 hr2
 generalize M1.upd s.mp _ = M2 at *
 go_upto_region 8 with (first
  | (with_reducible show wpList _ _ _ (⟨_, .load 70 _, _, _, _, _⟩ :: _) _ _; refine zZ h rfl 70 _ rfl rfl hb4 d3 Tryz.underlying70 rfl ?_)
  | (with_reducible show wpList _ _ _ (⟨_, .load 42 _, _, _, _, _⟩ :: _) _ _; refine zZ h rfl 42 _ rfl rfl hfb f2 Tryz.underlying42 rfl ?_)
  | (with_reducible show wpList _ _ _ (⟨_, .load 3 _, _, _, _, _⟩ :: _) _ _; refine zZ h rfl 3 _ rfl rfl hfb f1 Tryz.underlying3 rfl ?_))
 clear hfb hb4
 refine wp_region_held_drew (S := Has σ (K1)) (by kernel_rfl) (h.drew.le KL) (fun hHeld => ?_)
 refine tkB 0 ?_
 refine tkB 1 ?_
 try simp only [qA, qB, qC, Act.put, qD, qE, qF]
 refine tkA 2 rfl hHeld (zU rfl 26 _ rfl rfl hbK d0 Tryz.underlying26 rfl) ?_
 try simp only [qA, qB, qC, Act.put, qD, qE, qF]
 refine tkB 4 ?_
 try simp only [qA, qB, qC, Act.put, qD, qE, qF]
 refine tkA 5 rfl hHeld (yZ rfl 190 _ rfl rfl hbK dx dz Tryz.underlying190 rfl (by kernel_rfl)) ?_
 try simp only [qA, qB, qC, Act.put, qD, qE, qF]
 refine tkB 6 ?_
 try simp only [qA, qB, qC, Act.put, qD, qE, qF]
 replace h := h.drew
 generalize w.drew = w1 at h hHeld ⊢
 clear w
 obtain ⟨w, rfl⟩ : ∃ q : World, q = w1 := ⟨_, rfl⟩
 refine op1 3 rfl fun K hK => ?_
 (go_simp; go_wp2_with (go_at_call 46; refine (ME.out _ h).mono ?_; clear h; rintro _ w ⟨rfl, h⟩))
 refine hK.out _ _ (h.le KL) (fun hHeld => ?_)
 clear hK K
 try simp only [Act.put, qD, qE, qF]
 refine op1 7 rfl fun K hK => ?_
 (go_simp; go_wp2_with (go_at_call 143; refine (ND1.out _ h).mono ?_; clear h; rintro _ w ⟨rfl, h⟩))
 refine hK.out _ _ (h.le KL) (fun hHeld => ?_)
 clear hK K
 try simp only [Act.put, qD, qE, qF]
 refine op1 8 rfl fun K hK => ?_
 (go_simp; go_wp2_with (go_at_call 94; refine (LD.out _ h).mono ?_; clear h; rintro _ w ⟨rfl, h⟩))
 refine hK.out _ _ (h.le KE) (fun hHeld => ?_)
 clear hK K
 try simp only [Act.put, qD, qE, qF]
 refine op1 9 rfl fun K hK => ?_
 (go_simp; go_wp2_with (go_at_call 142; refine (HS.out _).mono ?_; rintro _ w' ⟨rfl, rfl⟩))
 refine hK.out _ _ (h.le KE) (fun hHeld => ?_)
 clear hK K
 try simp only [Act.put, qD, qE, qF]
 refine tkB 10 ?_
 refine tkB 11 ?_
 refine tkB 12 ?_
 refine tkB 13 ?_
 refine tkB 14 ?_
 try simp only [qA, qB, qC, Act.put, qD, qE, qF]
 refine wpAnyH_done (by kernel_rfl) ?_ _
 clear hHeld
 go_upto_region 10 with (first
  | (with_reducible show wpList _ _ _ (⟨_, .store 42 _ _, _, _, _, _⟩ :: _) _ _; refine zV h rfl 42 _ _ rfl rfl rfl hfb2 hsz rfl (by kernel_rfl) ?_; clear h; intro w h))
 have h0 : Has σ (M2.upd b (.cells (fr0.setIfInBounds 4 (.int .u64 ((g1 : Int) + 1))) 69)) w := h
 rw [R1.out] at h0
 clear h
 have h := h0
 clear h0
 generalize hM3 : M2.upd b (.cells fr1 69) = M3 at h hfb3
 go_wp2_with (first
  | (with_reducible show wpList _ _ _ (⟨_, .store 3 _ _, _, _, _, _⟩ :: _) _ _; refine zV h rfl 3 _ _ rfl rfl rfl hfb3 hsz3 rfl (by kernel_rfl) ?_; clear h; intro w h))
 go_end0
 refine ⟨rfl, _, _, ?_, HT.out⟩
 have h0 : Has σ (M2.upd b (.cells (fr1.setIfInBounds 1 (.int .i64 1)) 69)) w := by rw [← hM3, Mm.upd_upd] at h; exact h
 rw [R2.out] at h0
 exact h0
end
section
open Go.RowKit
theorem give_1 {σ w : World} {K M : Mm} {lab : Nat → Nat} {p t q b lv : Nat} {s : MachS} {fs : List FrameS} {f : FrameS} (h : Has σ M w) (hT : AtTop K M lab p s t q b fs f) (hat : f.at_ = 1) {sl g : Nat} (h0 : f.r 0 = (sl : Int)) (hsl : sl < 256) (hg : f.r 2 = (g : Int) + 1) (hg32 : g < 4294967296) (hlv : zT s.c (t : Nat) = (lv : Nat)) (hlc : (lv : Int) < s.c 0) (hin : InK s.c 9 (sl : Nat) 0) (hb1 : s.mem.acc < 1000000000) (hb2 : s.mem.wr < 1000000000) :
  Calls Tryz.prog 133 #[.agg (runC p t q b)] w fun r w' => r = .returned (.tuple #[]) ∧ ∃ M' lab', Has σ M' w' ∧ AtTop K M' lab' p (MachS.top { s with mem := s.mem.store (atK s.c lv 9 (sl : Nat) 0) (zA g 3 : Nat) } t fs (f.goto 2)) t q b fs (f.goto 2) := by
 obtain ⟨d0, d1, d2, d3, dx, dz⟩ := runD p t q b
 have f1 : f.row[1]? = some (.int .i64 1) := by rw [← hat]; rfl
 have f2 : f.row[2]? = some (.int .u64 (sl : Nat)) := by rw [← h0]; rfl
 have us : IntKind.i64.wrap ((sl : Nat) : Int) = ((sl : Nat) : Int) := IntWalk.i64_in _ (by omega)
 clear hat
 have f4 : f.row[4]? = some (.int .u64 ((g : Int) + 1)) := by rw [← hg]; rfl
 have HH : Hid (∀ w, Calls Tryz.prog 89 #[.int .i64 (g : Nat), .int .i64 3] w fun r w' => r = .returned (.int .u64 (zA g 3 : Nat)) ∧ w = w') := Lib.hid fun w => vJ g 3 (by omega) (by omega) w
 have SPA := zD (σ := σ) hT.mach hlv hlc hin
 obtain ⟨a, ha⟩ : ∃ a, atK s.c lv 9 (sl : Nat) 0 = a := ⟨_, rfl⟩
 rw [ha] at SPA ⊢
 obtain ⟨v, hv⟩ : ∃ v : Int, ((zA g 3 : Nat) : Int) = v := ⟨_, rfl⟩
 rw [hv] at HH ⊢
 have ug : IntKind.i64.wrap ((g : Int) + 1) = (g : Int) + 1 := IntWalk.i64_in _ (by omega)
 have ug2 : IntKind.i64.wrap (g : Int) = (g : Int) := IntWalk.i64_in _ (by omega)
 have ug3 : IntKind.i64.wrap ((g : Int) + 1 - 1) = (g : Int) := by rw [show (g : Int) + 1 - 1 = g by omega]; exact ug2
 have ND := Lib.hid (fun (M' : Mm) (w : World) (h : Has σ M' w) (hle : M.le M') => wW (q := q) (b := b) h (SPA.le hle))
 clear h0 ha hv hlv hlc hin SPA hg
 go_enter Tryz.func133, Tryz.ntmps133
 go_upto_region 1 with (fail)
 obtain ⟨M1, hbx, hle, hb4, hn⟩ := h.box (.cells (runC p t q b) 193)
 generalize w.alloc _ = wx at hbx ⊢
 generalize w.heap.size = b4 at hb4 hn ⊢
 clear h
 try clear w
 have h := hbx
 clear hbx
 obtain ⟨w, rfl⟩ : ∃ x : World, x = wx := ⟨_, rfl⟩
 obtain ⟨lab1, hT1⟩ := hT.more1 hle hn hb4
 have hnK : K b4 = none := by
  cases e : K b4 with
  | none => rfl
  | some o => have := (hT.base _ _ e).1; rw [hn] at this; cases this
 have hKK : K.le (K.upd b4 (.cells (runC p t q b) 193)) := Mm.le_upd' hnK _
 have hbK : (K.upd b4 (.cells (runC p t q b) 193)) b4 = some (.cells (runC p t q b) 193) := Mm.upd_same _ _ _
 have hfb := hT1.obj
 have ND1 := Lib.hid (fun (w : World) (h : Has σ M1 w) => ND.out M1 w h hle)
 clear ND
 -- behind the entrance: the store of v at a, then the frame goes on at 2
 have ME := Lib.hid (fun (w : World) (h : Has σ M1 w) => yJ h hT1.mach)
 have SE := Lib.hid (fun (w : World) (h : Has σ M1 w) => xV h hT1.mach.mem hb1 hb2 a v)
 have hne : b4 ≠ b := fun e => by
  subst e
  rw [hb4] at hfb
  simp only [Option.some.injEq, Obj.cells.injEq] at hfb
  exact absurd hfb.2.1 (by decide)
 have hT2 := hT1.store a v
 have KL := Mm.upd_le2 hT1.base.le hT1.obj
 have KE := Mm.upd_le2 hT2.base.le hT2.obj
 have hbK2 : ((K.upd b4 (.cells (runC p t q b) 193)).upd b (.cells f.row 69)) b4 = some (.cells (runC p t q b) 193) := (Mm.upd_ne hne).trans (Mm.upd_same _ _ _)
 have hfK : ((K.upd b4 (.cells (runC p t q b) 193)).upd b (.cells f.row 69)) b = some (.cells f.row 69) := Mm.upd_same _ _ _
 obtain ⟨hfb2, hT3⟩ := hT2.frame (f.goto 2)
 have HT := Lib.hid (hT3.less hKK)
 have hsz : 1 < f.row.size := show 1 < 18 by omega
 have R1 := Lib.hid (xZ f 2)
 clear hT hT1 hT2 hT3 hb1 hb2 hn hle hnK hKK hne hbK
 generalize runC p t q b = rc at *
 generalize hr0 : f.row = fr0 at *
 generalize hr1 : (f.goto 2).row = fr1 at *
 clear hr0 hr1
 generalize (K.upd b4 _).upd b _ = K1 at KL KE hbK2 hfK
 generalize yA M1 s.mp s.mem a v = M2 at *
 go_upto_region 12 with (first
  | (with_reducible show wpList _ _ _ (⟨_, .load 70 _, _, _, _, _⟩ :: _) _ _; refine zZ h rfl 70 _ rfl rfl hb4 d3 Tryz.underlying70 rfl ?_)
  | (with_reducible show wpList _ _ _ (⟨_, .load 42 _, _, _, _, _⟩ :: _) _ _; refine zZ h rfl 42 _ rfl rfl hfb f2 Tryz.underlying42 rfl ?_)
  | (with_reducible show wpList _ _ _ (⟨_, .load 3 _, _, _, _, _⟩ :: _) _ _; refine zZ h rfl 3 _ rfl rfl hfb f1 Tryz.underlying3 rfl ?_))
 clear hfb hb4
 refine wp_region_held_drew (S := Has σ (K1)) (by kernel_rfl) (h.drew.le KL) (fun hHeld => ?_)
 refine tkB 0 ?_
 refine tkB 1 ?_
 try simp only [qA, qB, qC, Act.put, qD, qE, qF]
 refine tkA 2 rfl hHeld (zU rfl 26 _ rfl rfl hbK2 d0 Tryz.underlying26 rfl) ?_
 try simp only [qA, qB, qC, Act.put, qD, qE, qF]
 refine tkB 4 ?_
 try simp only [qA, qB, qC, Act.put, qD, qE, qF]
 refine tkA 5 rfl hHeld (yZ rfl 190 _ rfl rfl hbK2 dx dz Tryz.underlying190 rfl (by kernel_rfl)) ?_
 try simp only [qA, qB, qC, Act.put, qD, qE, qF]
 refine tkB 6 ?_
 refine tkB 8 ?_
 refine tkB 9 ?_
 refine tkB 10 ?_
 refine tkB 11 ?_
 try simp only [qA, qB, qC, Act.put, qD, qE, qF]
 refine tkA 12 rfl hHeld (zU rfl 42 _ rfl rfl hfK f4 Tryz.underlying42 rfl) ?_
 try simp only [qA, qB, qC, Act.put, qD, qE, qF]
 refine tkB 13 ?_
 refine tkB 14 ?_
 try simp only [qA, qB, qC, Act.put, qD, qE, qF]
 replace h := h.drew
 generalize w.drew = w1 at h hHeld ⊢
 clear w
 obtain ⟨w, rfl⟩ : ∃ q : World, q = w1 := ⟨_, rfl⟩
 refine op1 3 rfl fun K hK => ?_
 (go_simp; go_wp2_with (go_at_call 46; refine (ME.out _ h).mono ?_; clear h; rintro _ w ⟨rfl, h⟩))
 refine hK.out _ _ (h.le KL) (fun hHeld => ?_)
 clear hK K
 try simp only [Act.put, qD, qE, qF]
 refine op1 7 rfl fun K hK => ?_
 (go_simp; go_wp2_with (go_at_call 143; refine (ND1.out _ h).mono ?_; clear h; rintro _ w ⟨rfl, h⟩))
 refine hK.out _ _ (h.le KL) (fun hHeld => ?_)
 clear hK K
 try simp only [Act.put, qD, qE, qF]
 refine op1 15 rfl fun K hK => ?_
 (go_simp; go_wp2_with (go_at_call 89; refine (HH.out _).mono ?_; rintro _ w' ⟨rfl, rfl⟩))
 refine hK.out _ _ (h.le KL) (fun hHeld => ?_)
 clear hK K
 try simp only [Act.put, qD, qE, qF]
 refine op1 16 rfl fun K hK => ?_
 (go_simp; go_wp2_with (go_at_call 97; refine (SE.out _ h).mono ?_; clear h; rintro _ w ⟨rfl, h⟩))
 refine hK.out _ _ (h.le KE) (fun hHeld => ?_)
 clear hK K
 try simp only [Act.put, qD, qE, qF]
 refine wpAnyH_done (by kernel_rfl) ?_ _
 clear hHeld
 go_wp2_with (first
  | (with_reducible show wpList _ _ _ (⟨_, .store 3 _ _, _, _, _, _⟩ :: _) _ _; refine zV h rfl 3 _ _ rfl rfl rfl hfb2 hsz rfl (by kernel_rfl) ?_; clear h; intro w h))
 go_end0
 refine ⟨rfl, _, _, ?_, HT.out⟩
 have h0 : Has σ (M2.upd b (.cells (fr0.setIfInBounds 1 (.int .i64 2)) 69)) w := h
 rw [R1.out] at h0
 exact h0
theorem give_8 {σ w : World} {K M : Mm} {lab : Nat → Nat} {p t q b lv : Nat} {s : MachS} {fs : List FrameS} {f : FrameS} (h : Has σ M w) (hT : AtTop K M lab p s t q b fs f) (hat : f.at_ = 8) {sl x : Nat} (h0 : f.r 0 = (sl : Int)) (hsl : sl < 256) (hx : f.r 1 = (x : Int)) (hx64 : x < 18446744073709551616) (hlv : zT s.c (t : Nat) = (lv : Nat)) (hlc : (lv : Int) < s.c 0) (hin : InK s.c 8 (sl : Nat) 0) (hb1 : s.mem.acc < 1000000000) (hb2 : s.mem.wr < 1000000000) :
  Calls Tryz.prog 133 #[.agg (runC p t q b)] w fun r w' => r = .returned (.tuple #[]) ∧ ∃ M' lab', Has σ M' w' ∧ AtTop K M' lab' p (MachS.top { s with mem := s.mem.store (atK s.c lv 8 (sl : Nat) 0) (cutN x 0 8 : Nat) } t fs (f.goto 9)) t q b fs (f.goto 9) := by
 obtain ⟨d0, d1, d2, d3, dx, dz⟩ := runD p t q b
 have f1 : f.row[1]? = some (.int .i64 8) := by rw [← hat]; rfl
 have f2 : f.row[2]? = some (.int .u64 (sl : Nat)) := by rw [← h0]; rfl
 have us : IntKind.i64.wrap ((sl : Nat) : Int) = ((sl : Nat) : Int) := IntWalk.i64_in _ (by omega)
 clear hat
 have f3 : f.row[3]? = some (.int .u64 (x : Nat)) := by rw [← hx]; rfl
 have UN := Lib.hid (xD x hx64)
 have lu : cutN x 0 8 < 256 := yG x 0 8
 have SPA := zD (σ := σ) hT.mach hlv hlc hin
 obtain ⟨a, ha⟩ : ∃ a, atK s.c lv 8 (sl : Nat) 0 = a := ⟨_, rfl⟩
 rw [ha] at SPA ⊢
 obtain ⟨u, hu⟩ : ∃ u, cutN x 0 8 = u := ⟨_, rfl⟩
 rw [hu] at UN lu ⊢
 have uu : IntKind.u64.wrap ((u : Nat) : Int) = ((u : Nat) : Int) := IntWalk.u64_in _ (by omega)
 obtain ⟨v, hv⟩ : ∃ v : Int, v = ((u : Nat) : Int) := ⟨_, rfl⟩
 rw [← hv]
 have AN := Lib.hid (fun (M' : Mm) (w : World) (h : Has σ M' w) (hle : M.le M') => rM (q := q) (b := b) h (SPA.le hle))
 clear h0 ha hu hlv hlc hin SPA hx hx64
 go_enter Tryz.func133, Tryz.ntmps133
 go_upto_region 1 with (fail)
 obtain ⟨M1, hbx, hle, hb4, hn⟩ := h.box (.cells (runC p t q b) 193)
 generalize w.alloc _ = wx at hbx ⊢
 generalize w.heap.size = b4 at hb4 hn ⊢
 clear h
 try clear w
 have h := hbx
 clear hbx
 obtain ⟨w, rfl⟩ : ∃ x : World, x = wx := ⟨_, rfl⟩
 obtain ⟨lab1, hT1⟩ := hT.more1 hle hn hb4
 have hnK : K b4 = none := by
  cases e : K b4 with
  | none => rfl
  | some o => have := (hT.base _ _ e).1; rw [hn] at this; cases this
 have hKK : K.le (K.upd b4 (.cells (runC p t q b) 193)) := Mm.le_upd' hnK _
 have hbK : (K.upd b4 (.cells (runC p t q b) 193)) b4 = some (.cells (runC p t q b) 193) := Mm.upd_same _ _ _
 have hfb := hT1.obj
 have AN1 := Lib.hid (fun (w : World) (h : Has σ M1 w) => AN.out M1 w h hle)
 clear AN
 -- behind the entrance: the store of v at a, then the frame goes on at 9
 have ME := Lib.hid (fun (w : World) (h : Has σ M1 w) => yJ h hT1.mach)
 have SE := Lib.hid (fun (w : World) (h : Has σ M1 w) => xV h hT1.mach.mem hb1 hb2 a v)
 have hne : b4 ≠ b := fun e => by
  subst e
  rw [hb4] at hfb
  simp only [Option.some.injEq, Obj.cells.injEq] at hfb
  exact absurd hfb.2.1 (by decide)
 have hT2 := hT1.store a v
 have KL := Mm.upd_le2 hT1.base.le hT1.obj
 have KE := Mm.upd_le2 hT2.base.le hT2.obj
 have hbK2 : ((K.upd b4 (.cells (runC p t q b) 193)).upd b (.cells f.row 69)) b4 = some (.cells (runC p t q b) 193) := (Mm.upd_ne hne).trans (Mm.upd_same _ _ _)
 have hfK : ((K.upd b4 (.cells (runC p t q b) 193)).upd b (.cells f.row 69)) b = some (.cells f.row 69) := Mm.upd_same _ _ _
 obtain ⟨hfb2, hT3⟩ := hT2.frame (f.goto 9)
 have HT := Lib.hid (hT3.less hKK)
 have hsz : 1 < f.row.size := show 1 < 18 by omega
 have R1 := Lib.hid (xZ f 9)
 clear hT hT1 hT2 hT3 hb1 hb2 hn hle hnK hKK hne hbK
 generalize runC p t q b = rc at *
 generalize hr0 : f.row = fr0 at *
 generalize hr1 : (f.goto 9).row = fr1 at *
 clear hr0 hr1
 generalize (K.upd b4 _).upd b _ = K1 at KL KE hbK2 hfK
 generalize yA M1 s.mp s.mem a v = M2 at *
 subst hv
 go_upto_region 25 with (first
  | (with_reducible show wpList _ _ _ (⟨_, .load 70 _, _, _, _, _⟩ :: _) _ _; refine zZ h rfl 70 _ rfl rfl hb4 d3 Tryz.underlying70 rfl ?_)
  | (with_reducible show wpList _ _ _ (⟨_, .load 42 _, _, _, _, _⟩ :: _) _ _; refine zZ h rfl 42 _ rfl rfl hfb f2 Tryz.underlying42 rfl ?_)
  | (with_reducible show wpList _ _ _ (⟨_, .load 3 _, _, _, _, _⟩ :: _) _ _; refine zZ h rfl 3 _ rfl rfl hfb f1 Tryz.underlying3 rfl ?_))
 clear hfb hb4
 refine wp_region_held_drew (S := Has σ (K1)) (by kernel_rfl) (h.drew.le KL) (fun hHeld => ?_)
 refine tkB 0 ?_
 refine tkB 1 ?_
 try simp only [qA, qB, qC, Act.put, qD, qE, qF]
 refine tkA 2 rfl hHeld (zU rfl 26 _ rfl rfl hbK2 d0 Tryz.underlying26 rfl) ?_
 try simp only [qA, qB, qC, Act.put, qD, qE, qF]
 refine tkB 4 ?_
 try simp only [qA, qB, qC, Act.put, qD, qE, qF]
 refine tkA 5 rfl hHeld (yZ rfl 190 _ rfl rfl hbK2 dx dz Tryz.underlying190 rfl (by kernel_rfl)) ?_
 try simp only [qA, qB, qC, Act.put, qD, qE, qF]
 refine tkB 6 ?_
 refine tkB 8 ?_
 refine tkB 9 ?_
 refine tkB 10 ?_
 refine tkB 11 ?_
 try simp only [qA, qB, qC, Act.put, qD, qE, qF]
 refine tkA 12 rfl hHeld (zU rfl 42 _ rfl rfl hfK f3 Tryz.underlying42 rfl) ?_
 try simp only [qA, qB, qC, Act.put, qD, qE, qF]
 replace h := h.drew
 generalize w.drew = w1 at h hHeld ⊢
 clear w
 obtain ⟨w, rfl⟩ : ∃ q : World, q = w1 := ⟨_, rfl⟩
 refine op1 3 rfl fun K hK => ?_
 (go_simp; go_wp2_with (go_at_call 46; refine (ME.out _ h).mono ?_; clear h; rintro _ w ⟨rfl, h⟩))
 refine hK.out _ _ (h.le KL) (fun hHeld => ?_)
 clear hK K
 try simp only [Act.put, qD, qE, qF]
 refine op1 7 rfl fun K hK => ?_
 (go_simp; go_wp2_with (go_at_call 140; refine (AN1.out _ h).mono ?_; clear h; rintro _ w ⟨rfl, h⟩))
 refine hK.out _ _ (h.le KL) (fun hHeld => ?_)
 clear hK K
 try simp only [Act.put, qD, qE, qF]
 refine op1 13 rfl fun K hK => ?_
 (go_simp; go_wp2_with (go_at_call 138; refine (UN.out _).mono ?_; rintro _ w' ⟨rfl, rfl⟩))
 refine hK.out _ _ (h.le KL) (fun hHeld => ?_)
 clear hK K
 try simp only [Act.put, qD, qE, qF]
 refine tkB 14 ?_
 try simp only [qA, qB, qC, Act.put, qD, qE, qF]
 refine op1 15 rfl fun K hK => ?_
 (go_simp; go_wp2_with (go_at_call 97; refine (SE.out _ h).mono ?_; clear h; rintro _ w ⟨rfl, h⟩))
 refine hK.out _ _ (h.le KE) (fun hHeld => ?_)
 clear hK K
 try simp only [Act.put, qD, qE, qF]
 refine wpAnyH_done (by kernel_rfl) ?_ _
 clear hHeld
 go_wp2_with (first
  | (with_reducible show wpList _ _ _ (⟨_, .store 3 _ _, _, _, _, _⟩ :: _) _ _; refine zV h rfl 3 _ _ rfl rfl rfl hfb2 hsz rfl (by kernel_rfl) ?_; clear h; intro w h))
 go_end0
 refine ⟨rfl, _, _, ?_, HT.out⟩
 have h0 : Has σ (M2.upd b (.cells (fr0.setIfInBounds 1 (.int .i64 9)) 69)) w := h
 rw [R1.out] at h0
 exact h0
end
section
open Go.RowKit
theorem scrubbed_2 (w : World) : Calls Tryz.prog 144 #[.int .i64 2] w fun r w' => r = .returned (.int .i64 3) ∧ w = w' := by
 have IX : ∀ w : World, (Instr.index 112 (.agg #[.int .i64 3, .int .i64 4, .int .i64 2, .int .i64 1]) (.int .i64 0)).run Tryz.prog w = .ok (.int .i64 3) w := fun w => wQ w Tryz.underlying112 Tryz.underlying3 rfl (by kernel_rfl) _ .i64 0 (by omega) (by omega) rfl
 go_enter Tryz.func144, Tryz.ntmps144
 go_wp2
 go_ret
 exact ⟨rfl, rfl⟩
theorem scrubbed_3 (w : World) : Calls Tryz.prog 144 #[.int .i64 3] w fun r w' => r = .returned (.int .i64 4) ∧ w = w' := by
 have IX : ∀ w : World, (Instr.index 112 (.agg #[.int .i64 3, .int .i64 4, .int .i64 2, .int .i64 1]) (.int .i64 1)).run Tryz.prog w = .ok (.int .i64 4) w := fun w => wQ w Tryz.underlying112 Tryz.underlying3 rfl (by kernel_rfl) _ .i64 1 (by omega) (by omega) rfl
 go_enter Tryz.func144, Tryz.ntmps144
 go_wp2
 go_ret
 exact ⟨rfl, rfl⟩
theorem scrubbed_4 (w : World) : Calls Tryz.prog 144 #[.int .i64 4] w fun r w' => r = .returned (.int .i64 2) ∧ w = w' := by
 have IX : ∀ w : World, (Instr.index 112 (.agg #[.int .i64 3, .int .i64 4, .int .i64 2, .int .i64 1]) (.int .i64 2)).run Tryz.prog w = .ok (.int .i64 2) w := fun w => wQ w Tryz.underlying112 Tryz.underlying3 rfl (by kernel_rfl) _ .i64 2 (by omega) (by omega) rfl
 go_enter Tryz.func144, Tryz.ntmps144
 go_wp2
 go_ret
 exact ⟨rfl, rfl⟩
theorem scrubbed_5 (w : World) : Calls Tryz.prog 144 #[.int .i64 5] w fun r w' => r = .returned (.int .i64 1) ∧ w = w' := by
 have IX : ∀ w : World, (Instr.index 112 (.agg #[.int .i64 3, .int .i64 4, .int .i64 2, .int .i64 1]) (.int .i64 3)).run Tryz.prog w = .ok (.int .i64 1) w := fun w => wQ w Tryz.underlying112 Tryz.underlying3 rfl (by kernel_rfl) _ .i64 3 (by omega) (by omega) rfl
 go_enter Tryz.func144, Tryz.ntmps144
 go_wp2
 go_ret
 exact ⟨rfl, rfl⟩
end
section
open Go.RowKit
theorem give_2 {σ w : World} {K M : Mm} {lab : Nat → Nat} {p t q b lv : Nat} {s : MachS} {fs : List FrameS} {f : FrameS} (h : Has σ M w) (hT : AtTop K M lab p s t q b fs f) (hat : f.at_ = 2) {sl : Nat} (h0 : f.r 0 = (sl : Int)) (hsl : sl < 256) (hlv : zT s.c (t : Nat) = (lv : Nat)) (hlc : (lv : Int) < s.c 0) (hin : InK s.c 9 (sl : Nat) 3) (hb1 : s.mem.acc < 1000000000) (hb2 : s.mem.wr < 1000000000) :
  Calls Tryz.prog 133 #[.agg (runC p t q b)] w fun r w' => r = .returned (.tuple #[]) ∧ ∃ M' lab', Has σ M' w' ∧ AtTop K M' lab' p (MachS.top { s with mem := s.mem.store (atK s.c lv 9 (sl : Nat) 3) 0 } t fs (f.goto 3)) t q b fs (f.goto 3) := by
 obtain ⟨d0, d1, d2, d3, dx, dz⟩ := runD p t q b
 have f1 : f.row[1]? = some (.int .i64 2) := by rw [← hat]; rfl
 have f2 : f.row[2]? = some (.int .u64 (sl : Nat)) := by rw [← h0]; rfl
 have us : IntKind.i64.wrap ((sl : Nat) : Int) = ((sl : Nat) : Int) := IntWalk.i64_in _ (by omega)
 clear hat
 have SC := Lib.hid scrubbed_2
 have SPA := zD (σ := σ) hT.mach hlv hlc hin
 obtain ⟨a, ha⟩ : ∃ a, atK s.c lv 9 (sl : Nat) 3 = a := ⟨_, rfl⟩
 rw [ha] at SPA ⊢
 obtain ⟨v, hv⟩ : ∃ v : Int, v = 0 := ⟨_, rfl⟩
 rw [← hv]
 have ND := Lib.hid (fun (M' : Mm) (w : World) (h : Has σ M' w) (hle : M.le M') => wW (q := q) (b := b) h (SPA.le hle))
 clear h0 ha hlv hlc hin SPA
 go_enter Tryz.func133, Tryz.ntmps133
 go_upto_region 1 with (fail)
 obtain ⟨M1, hbx, hle, hb4, hn⟩ := h.box (.cells (runC p t q b) 193)
 generalize w.alloc _ = wx at hbx ⊢
 generalize w.heap.size = b4 at hb4 hn ⊢
 clear h
 try clear w
 have h := hbx
 clear hbx
 obtain ⟨w, rfl⟩ : ∃ x : World, x = wx := ⟨_, rfl⟩
 obtain ⟨lab1, hT1⟩ := hT.more1 hle hn hb4
 have hnK : K b4 = none := by
  cases e : K b4 with
  | none => rfl
  | some o => have := (hT.base _ _ e).1; rw [hn] at this; cases this
 have hKK : K.le (K.upd b4 (.cells (runC p t q b) 193)) := Mm.le_upd' hnK _
 have hbK : (K.upd b4 (.cells (runC p t q b) 193)) b4 = some (.cells (runC p t q b) 193) := Mm.upd_same _ _ _
 have hfb := hT1.obj
 have ND1 := Lib.hid (fun (w : World) (h : Has σ M1 w) => ND.out M1 w h hle)
 clear ND
 -- behind the entrance: the store of v at a, then the frame goes on at 3
 have ME := Lib.hid (fun (w : World) (h : Has σ M1 w) => yJ h hT1.mach)
 have SE := Lib.hid (fun (w : World) (h : Has σ M1 w) => xV h hT1.mach.mem hb1 hb2 a v)
 have hne : b4 ≠ b := fun e => by
  subst e
  rw [hb4] at hfb
  simp only [Option.some.injEq, Obj.cells.injEq] at hfb
  exact absurd hfb.2.1 (by decide)
 have hT2 := hT1.store a v
 have KL := Mm.upd_le2 hT1.base.le hT1.obj
 have KE := Mm.upd_le2 hT2.base.le hT2.obj
 have hbK2 : ((K.upd b4 (.cells (runC p t q b) 193)).upd b (.cells f.row 69)) b4 = some (.cells (runC p t q b) 193) := (Mm.upd_ne hne).trans (Mm.upd_same _ _ _)
 have hfK : ((K.upd b4 (.cells (runC p t q b) 193)).upd b (.cells f.row 69)) b = some (.cells f.row 69) := Mm.upd_same _ _ _
 obtain ⟨hfb2, hT3⟩ := hT2.frame (f.goto 3)
 have HT := Lib.hid (hT3.less hKK)
 have hsz : 1 < f.row.size := show 1 < 18 by omega
 have R1 := Lib.hid (xZ f 3)
 clear hT hT1 hT2 hT3 hb1 hb2 hn hle hnK hKK hne hbK
 generalize runC p t q b = rc at *
 generalize hr0 : f.row = fr0 at *
 generalize hr1 : (f.goto 3).row = fr1 at *
 clear hr0 hr1
 generalize (K.upd b4 _).upd b _ = K1 at KL KE hbK2 hfK
 generalize yA M1 s.mp s.mem a v = M2 at *
 subst hv
 go_upto_region 18 with (first
  | (with_reducible show wpList _ _ _ (⟨_, .load 70 _, _, _, _, _⟩ :: _) _ _; refine zZ h rfl 70 _ rfl rfl hb4 d3 Tryz.underlying70 rfl ?_)
  | (with_reducible show wpList _ _ _ (⟨_, .load 42 _, _, _, _, _⟩ :: _) _ _; refine zZ h rfl 42 _ rfl rfl hfb f2 Tryz.underlying42 rfl ?_)
  | (with_reducible show wpList _ _ _ (⟨_, .load 3 _, _, _, _, _⟩ :: _) _ _; refine zZ h rfl 3 _ rfl rfl hfb f1 Tryz.underlying3 rfl ?_))
 clear hfb hb4
 refine wp_region_held_drew (S := Has σ (K1)) (by kernel_rfl) (h.drew.le KL) (fun hHeld => ?_)
 refine tkB 0 ?_
 refine tkB 1 ?_
 try simp only [qA, qB, qC, Act.put, qD, qE, qF]
 refine tkA 2 rfl hHeld (zU rfl 26 _ rfl rfl hbK2 d0 Tryz.underlying26 rfl) ?_
 try simp only [qA, qB, qC, Act.put, qD, qE, qF]
 refine tkB 4 ?_
 try simp only [qA, qB, qC, Act.put, qD, qE, qF]
 refine tkA 5 rfl hHeld (yZ rfl 190 _ rfl rfl hbK2 dx dz Tryz.underlying190 rfl (by kernel_rfl)) ?_
 try simp only [qA, qB, qC, Act.put, qD, qE, qF]
 refine tkB 6 ?_
 refine tkB 7 ?_
 refine tkB 8 ?_
 refine tkB 9 ?_
 try simp only [qA, qB, qC, Act.put, qD, qE, qF]
 refine tkA 10 rfl hHeld (zU rfl 3 _ rfl rfl hfK f1 Tryz.underlying3 rfl) ?_
 try simp only [qA, qB, qC, Act.put, qD, qE, qF]
 replace h := h.drew
 generalize w.drew = w1 at h hHeld ⊢
 clear w
 obtain ⟨w, rfl⟩ : ∃ q : World, q = w1 := ⟨_, rfl⟩
 refine op1 3 rfl fun K hK => ?_
 (go_simp; go_wp2_with (go_at_call 46; refine (ME.out _ h).mono ?_; clear h; rintro _ w ⟨rfl, h⟩))
 refine hK.out _ _ (h.le KL) (fun hHeld => ?_)
 clear hK K
 try simp only [Act.put, qD, qE, qF]
 refine op1 11 rfl fun K hK => ?_
 (go_simp; go_wp2_with (go_at_call 144; refine (SC.out _).mono ?_; rintro _ w' ⟨rfl, rfl⟩))
 refine hK.out _ _ (h.le KL) (fun hHeld => ?_)
 clear hK K
 try simp only [Act.put, qD, qE, qF]
 refine op1 12 rfl fun K hK => ?_
 (go_simp; go_wp2_with (go_at_call 143; refine (ND1.out _ h).mono ?_; clear h; rintro _ w ⟨rfl, h⟩))
 refine hK.out _ _ (h.le KL) (fun hHeld => ?_)
 clear hK K
 try simp only [Act.put, qD, qE, qF]
 refine op1 13 rfl fun K hK => ?_
 (go_simp; go_wp2_with (go_at_call 97; refine (SE.out _ h).mono ?_; clear h; rintro _ w ⟨rfl, h⟩))
 refine hK.out _ _ (h.le KE) (fun hHeld => ?_)
 clear hK K
 try simp only [Act.put, qD, qE, qF]
 refine wpAnyH_done (by kernel_rfl) ?_ _
 clear hHeld
 go_wp2_with (first
  | (with_reducible show wpList _ _ _ (⟨_, .load 3 _, _, _, _, _⟩ :: _) _ _; refine zZ h rfl 3 _ rfl rfl hfb2 f1 Tryz.underlying3 rfl ?_)
  | (with_reducible show wpList _ _ _ (⟨_, .store 3 _ _, _, _, _, _⟩ :: _) _ _; refine zV h rfl 3 _ _ rfl rfl rfl hfb2 hsz rfl (by kernel_rfl) ?_; clear h; intro w h))
 go_end0
 refine ⟨rfl, _, _, ?_, HT.out⟩
 have h0 : Has σ (M2.upd b (.cells (fr0.setIfInBounds 1 (.int .i64 3)) 69)) w := h
 rw [R1.out] at h0
 exact h0
theorem give_3 {σ w : World} {K M : Mm} {lab : Nat → Nat} {p t q b lv : Nat} {s : MachS} {fs : List FrameS} {f : FrameS} (h : Has σ M w) (hT : AtTop K M lab p s t q b fs f) (hat : f.at_ = 3) {sl : Nat} (h0 : f.r 0 = (sl : Int)) (hsl : sl < 256) (hlv : zT s.c (t : Nat) = (lv : Nat)) (hlc : (lv : Int) < s.c 0) (hin : InK s.c 9 (sl : Nat) 4) (hb1 : s.mem.acc < 1000000000) (hb2 : s.mem.wr < 1000000000) :
  Calls Tryz.prog 133 #[.agg (runC p t q b)] w fun r w' => r = .returned (.tuple #[]) ∧ ∃ M' lab', Has σ M' w' ∧ AtTop K M' lab' p (MachS.top { s with mem := s.mem.store (atK s.c lv 9 (sl : Nat) 4) 0 } t fs (f.goto 4)) t q b fs (f.goto 4) := by
 obtain ⟨d0, d1, d2, d3, dx, dz⟩ := runD p t q b
 have f1 : f.row[1]? = some (.int .i64 3) := by rw [← hat]; rfl
 have f2 : f.row[2]? = some (.int .u64 (sl : Nat)) := by rw [← h0]; rfl
 have us : IntKind.i64.wrap ((sl : Nat) : Int) = ((sl : Nat) : Int) := IntWalk.i64_in _ (by omega)
 clear hat
 have SC := Lib.hid scrubbed_3
 have SPA := zD (σ := σ) hT.mach hlv hlc hin
 obtain ⟨a, ha⟩ : ∃ a, atK s.c lv 9 (sl : Nat) 4 = a := ⟨_, rfl⟩
 rw [ha] at SPA ⊢
 obtain ⟨v, hv⟩ : ∃ v : Int, v = 0 := ⟨_, rfl⟩
 rw [← hv]
 have ND := Lib.hid (fun (M' : Mm) (w : World) (h : Has σ M' w) (hle : M.le M') => wW (q := q) (b := b) h (SPA.le hle))
 clear h0 ha hlv hlc hin SPA
 go_enter Tryz.func133, Tryz.ntmps133
 go_upto_region 1 with (fail)
 obtain ⟨M1, hbx, hle, hb4, hn⟩ := h.box (.cells (runC p t q b) 193)
 generalize w.alloc _ = wx at hbx ⊢
 generalize w.heap.size = b4 at hb4 hn ⊢
 clear h
 try clear w
 have h := hbx
 clear hbx
 obtain ⟨w, rfl⟩ : ∃ x : World, x = wx := ⟨_, rfl⟩
 obtain ⟨lab1, hT1⟩ := hT.more1 hle hn hb4
 have hnK : K b4 = none := by
  cases e : K b4 with
  | none => rfl
  | some o => have := (hT.base _ _ e).1; rw [hn] at this; cases this
 have hKK : K.le (K.upd b4 (.cells (runC p t q b) 193)) := Mm.le_upd' hnK _
 have hbK : (K.upd b4 (.cells (runC p t q b) 193)) b4 = some (.cells (runC p t q b) 193) := Mm.upd_same _ _ _
 have hfb := hT1.obj
 have ND1 := Lib.hid (fun (w : World) (h : Has σ M1 w) => ND.out M1 w h hle)
 clear ND
 -- behind the entrance: the store of v at a, then the frame goes on at 4
 have ME := Lib.hid (fun (w : World) (h : Has σ M1 w) => yJ h hT1.mach)
 have SE := Lib.hid (fun (w : World) (h : Has σ M1 w) => xV h hT1.mach.mem hb1 hb2 a v)
 have hne : b4 ≠ b := fun e => by
  subst e
  rw [hb4] at hfb
  simp only [Option.some.injEq, Obj.cells.injEq] at hfb
  exact absurd hfb.2.1 (by decide)
 have hT2 := hT1.store a v
 have KL := Mm.upd_le2 hT1.base.le hT1.obj
 have KE := Mm.upd_le2 hT2.base.le hT2.obj
 have hbK2 : ((K.upd b4 (.cells (runC p t q b) 193)).upd b (.cells f.row 69)) b4 = some (.cells (runC p t q b) 193) := (Mm.upd_ne hne).trans (Mm.upd_same _ _ _)
 have hfK : ((K.upd b4 (.cells (runC p t q b) 193)).upd b (.cells f.row 69)) b = some (.cells f.row 69) := Mm.upd_same _ _ _
 obtain ⟨hfb2, hT3⟩ := hT2.frame (f.goto 4)
 have HT := Lib.hid (hT3.less hKK)
 have hsz : 1 < f.row.size := show 1 < 18 by omega
 have R1 := Lib.hid (xZ f 4)
 clear hT hT1 hT2 hT3 hb1 hb2 hn hle hnK hKK hne hbK
 generalize runC p t q b = rc at *
 generalize hr0 : f.row = fr0 at *
 generalize hr1 : (f.goto 4).row = fr1 at *
 clear hr0 hr1
 generalize (K.upd b4 _).upd b _ = K1 at KL KE hbK2 hfK
 generalize yA M1 s.mp s.mem a v = M2 at *
 subst hv
 go_upto_region 18 with (first
  | (with_reducible show wpList _ _ _ (⟨_, .load 70 _, _, _, _, _⟩ :: _) _ _; refine zZ h rfl 70 _ rfl rfl hb4 d3 Tryz.underlying70 rfl ?_)
  | (with_reducible show wpList _ _ _ (⟨_, .load 42 _, _, _, _, _⟩ :: _) _ _; refine zZ h rfl 42 _ rfl rfl hfb f2 Tryz.underlying42 rfl ?_)
  | (with_reducible show wpList _ _ _ (⟨_, .load 3 _, _, _, _, _⟩ :: _) _ _; refine zZ h rfl 3 _ rfl rfl hfb f1 Tryz.underlying3 rfl ?_))
 clear hfb hb4
 refine wp_region_held_drew (S := Has σ (K1)) (by kernel_rfl) (h.drew.le KL) (fun hHeld => ?_)
 refine tkB 0 ?_
 refine tkB 1 ?_
 try simp only [qA, qB, qC, Act.put, qD, qE, qF]
 refine tkA 2 rfl hHeld (zU rfl 26 _ rfl rfl hbK2 d0 Tryz.underlying26 rfl) ?_
 try simp only [qA, qB, qC, Act.put, qD, qE, qF]
 refine tkB 4 ?_
 try simp only [qA, qB, qC, Act.put, qD, qE, qF]
 refine tkA 5 rfl hHeld (yZ rfl 190 _ rfl rfl hbK2 dx dz Tryz.underlying190 rfl (by kernel_rfl)) ?_
 try simp only [qA, qB, qC, Act.put, qD, qE, qF]
 refine tkB 6 ?_
 refine tkB 7 ?_
 refine tkB 8 ?_
 refine tkB 9 ?_
 try simp only [qA, qB, qC, Act.put, qD, qE, qF]
 refine tkA 10 rfl hHeld (zU rfl 3 _ rfl rfl hfK f1 Tryz.underlying3 rfl) ?_
 try simp only [qA, qB, qC, Act.put, qD, qE, qF]
 replace h := h.drew
 generalize w.drew = w1 at h hHeld ⊢
 clear w
 obtain ⟨w, rfl⟩ : ∃ q : World, q = w1 := ⟨_, rfl⟩
 refine op1 3 rfl fun K hK => ?_
 (go_simp; go_wp2_with (go_at_call 46; refine (ME.out _ h).mono ?_; clear h; rintro _ w ⟨rfl, h⟩))
 refine hK.out _ _ (h.le KL) (fun hHeld => ?_)
 clear hK K
 try simp only [Act.put, qD, qE, qF]
 refine op1 11 rfl fun K hK => ?_
 (go_simp; go_wp2_with (go_at_call 144; refine (SC.out _).mono ?_; rintro _ w' ⟨rfl, rfl⟩))
 refine hK.out _ _ (h.le KL) (fun hHeld => ?_)
 clear hK K
 try simp only [Act.put, qD, qE, qF]
 refine op1 12 rfl fun K hK => ?_
 (go_simp; go_wp2_with (go_at_call 143; refine (ND1.out _ h).mono ?_; clear h; rintro _ w ⟨rfl, h⟩))
 refine hK.out _ _ (h.le KL) (fun hHeld => ?_)
 clear hK K
 try simp only [Act.put, qD, qE, qF]
 refine op1 13 rfl fun K hK => ?_
 (go_simp; go_wp2_with (go_at_call 97; refine (SE.out _ h).mono ?_; clear h; rintro _ w ⟨rfl, h⟩))
 refine hK.out _ _ (h.le KE) (fun hHeld => ?_)
 clear hK K
 try simp only [Act.put, qD, qE, qF]
 refine wpAnyH_done (by kernel_rfl) ?_ _
 clear hHeld
 go_wp2_with (first
  | (with_reducible show wpList _ _ _ (⟨_, .load 3 _, _, _, _, _⟩ :: _) _ _; refine zZ h rfl 3 _ rfl rfl hfb2 f1 Tryz.underlying3 rfl ?_)
  | (with_reducible show wpList _ _ _ (⟨_, .store 3 _ _, _, _, _, _⟩ :: _) _ _; refine zV h rfl 3 _ _ rfl rfl rfl hfb2 hsz rfl (by kernel_rfl) ?_; clear h; intro w h))
 go_end0
 refine ⟨rfl, _, _, ?_, HT.out⟩
 have h0 : Has σ (M2.upd b (.cells (fr0.setIfInBounds 1 (.int .i64 4)) 69)) w := h
 rw [R1.out] at h0
 exact h0
theorem give_4 {σ w : World} {K M : Mm} {lab : Nat → Nat} {p t q b lv : Nat} {s : MachS} {fs : List FrameS} {f : FrameS} (h : Has σ M w) (hT : AtTop K M lab p s t q b fs f) (hat : f.at_ = 4) {sl : Nat} (h0 : f.r 0 = (sl : Int)) (hsl : sl < 256) (hlv : zT s.c (t : Nat) = (lv : Nat)) (hlc : (lv : Int) < s.c 0) (hin : InK s.c 9 (sl : Nat) 2) (hb1 : s.mem.acc < 1000000000) (hb2 : s.mem.wr < 1000000000) :
  Calls Tryz.prog 133 #[.agg (runC p t q b)] w fun r w' => r = .returned (.tuple #[]) ∧ ∃ M' lab', Has σ M' w' ∧ AtTop K M' lab' p (MachS.top { s with mem := s.mem.store (atK s.c lv 9 (sl : Nat) 2) 0 } t fs (f.goto 5)) t q b fs (f.goto 5) := by
 obtain ⟨d0, d1, d2, d3, dx, dz⟩ := runD p t q b
 have f1 : f.row[1]? = some (.int .i64 4) := by rw [← hat]; rfl
 have f2 : f.row[2]? = some (.int .u64 (sl : Nat)) := by rw [← h0]; rfl
 have us : IntKind.i64.wrap ((sl : Nat) : Int) = ((sl : Nat) : Int) := IntWalk.i64_in _ (by omega)
 clear hat
 have SC := Lib.hid scrubbed_4
 have SPA := zD (σ := σ) hT.mach hlv hlc hin
 obtain ⟨a, ha⟩ : ∃ a, atK s.c lv 9 (sl : Nat) 2 = a := ⟨_, rfl⟩
 rw [ha] at SPA ⊢
 obtain ⟨v, hv⟩ : ∃ v : Int, v = 0 := ⟨_, rfl⟩
 rw [← hv]
 have ND := Lib.hid (fun (M' : Mm) (w : World) (h : Has σ M' w) (hle : M.le M') => wW (q := q) (b := b) h (SPA.le hle))
 clear h0 ha hlv hlc hin SPA
 go_enter Tryz.func133, Tryz.ntmps133
 go_upto_region 1 with (fail)
 obtain ⟨M1, hbx, hle, hb4, hn⟩ := h.box (.cells (runC p t q b) 193)
 generalize w.alloc _ = wx at hbx ⊢
 generalize w.heap.size = b4 at hb4 hn ⊢
 clear h
 try clear w
 have h := hbx
 clear hbx
 obtain ⟨w, rfl⟩ : ∃ x : World, x = wx := ⟨_, rfl⟩
 obtain ⟨lab1, hT1⟩ := hT.more1 hle hn hb4
 have hnK : K b4 = none := by
  cases e : K b4 with
  | none => rfl
  | some o => have := (hT.base _ _ e).1; rw [hn] at this; cases this
 have hKK : K.le (K.upd b4 (.cells (runC p t q b) 193)) := Mm.le_upd' hnK _
 have hbK : (K.upd b4 (.cells (runC p t q b) 193)) b4 = some (.cells (runC p t q b) 193) := Mm.upd_same _ _ _
 have hfb := hT1.obj
 have ND1 := Lib.hid (fun (w : World) (h : Has σ M1 w) => ND.out M1 w h hle)
 clear ND
 -- behind the entrance: the store of v at a, then the frame goes on at 5
 have ME := Lib.hid (fun (w : World) (h : Has σ M1 w) => yJ h hT1.mach)
 have SE := Lib.hid (fun (w : World) (h : Has σ M1 w) => xV h hT1.mach.mem hb1 hb2 a v)
 have hne : b4 ≠ b := fun e => by
  subst e
  rw [hb4] at hfb
  simp only [Option.some.injEq, Obj.cells.injEq] at hfb
  exact absurd hfb.2.1 (by decide)
 have hT2 := hT1.store a v
 have KL := Mm.upd_le2 hT1.base.le hT1.obj
 have KE := Mm.upd_le2 hT2.base.le hT2.obj
 have hbK2 : ((K.upd b4 (.cells (runC p t q b) 193)).upd b (.cells f.row 69)) b4 = some (.cells (runC p t q b) 193) := (Mm.upd_ne hne).trans (Mm.upd_same _ _ _)
 have hfK : ((K.upd b4 (.cells (runC p t q b) 193)).upd b (.cells f.row 69)) b = some (.cells f.row 69) := Mm.upd_same _ _ _
 obtain ⟨hfb2, hT3⟩ := hT2.frame (f.goto 5)
 have HT := Lib.hid (hT3.less hKK)
 have hsz : 1 < f.row.size := show 1 < 18 by omega
 have R1 := Lib.hid (xZ f 5)
 clear hT hT1 hT2 hT3 hb1 hb2 hn hle hnK hKK hne hbK
 generalize runC p t q b = rc at *
 generalize hr0 : f.row = fr0 at *
 generalize hr1 : (f.goto 5).row = fr1 at *
 clear hr0 hr1
 generalize (K.upd b4 _).upd b _ = K1 at KL KE hbK2 hfK
 generalize yA M1 s.mp s.mem a v = M2 at *
 subst hv
 go_upto_region 18 with (first
  | (with_reducible show wpList _ _ _ (⟨_, .load 70 _, _, _, _, _⟩ :: _) _ _; refine zZ h rfl 70 _ rfl rfl hb4 d3 Tryz.underlying70 rfl ?_)
  | (with_reducible show wpList _ _ _ (⟨_, .load 42 _, _, _, _, _⟩ :: _) _ _; refine zZ h rfl 42 _ rfl rfl hfb f2 Tryz.underlying42 rfl ?_)
  | (with_reducible show wpList _ _ _ (⟨_, .load 3 _, _, _, _, _⟩ :: _) _ _; refine zZ h rfl 3 _ rfl rfl hfb f1 Tryz.underlying3 rfl ?_))
 clear hfb hb4
 refine wp_region_held_drew (S := Has σ (K1)) (by kernel_rfl) (h.drew.le KL) (fun hHeld => ?_)
 refine tkB 0 ?_
 refine tkB 1 ?_
 try simp only [qA, qB, qC, Act.put, qD, qE, qF]
 refine tkA 2 rfl hHeld (zU rfl 26 _ rfl rfl hbK2 d0 Tryz.underlying26 rfl) ?_
 try simp only [qA, qB, qC, Act.put, qD, qE, qF]
 refine tkB 4 ?_
 try simp only [qA, qB, qC, Act.put, qD, qE, qF]
 refine tkA 5 rfl hHeld (yZ rfl 190 _ rfl rfl hbK2 dx dz Tryz.underlying190 rfl (by kernel_rfl)) ?_
 try simp only [qA, qB, qC, Act.put, qD, qE, qF]
 refine tkB 6 ?_
 refine tkB 7 ?_
 refine tkB 8 ?_
 refine tkB 9 ?_
 try simp only [qA, qB, qC, Act.put, qD, qE, qF]
 refine tkA 10 rfl hHeld (zU rfl 3 _ rfl rfl hfK f1 Tryz.underlying3 rfl) ?_
 try simp only [qA, qB, qC, Act.put, qD, qE, qF]
 replace h := h.drew
 generalize w.drew = w1 at h hHeld ⊢
 clear w
 obtain ⟨w, rfl⟩ : ∃ q : World, q = w1 := ⟨_, rfl⟩
 refine op1 3 rfl fun K hK => ?_
 (go_simp; go_wp2_with (go_at_call 46; refine (ME.out _ h).mono ?_; clear h; rintro _ w ⟨rfl, h⟩))
 refine hK.out _ _ (h.le KL) (fun hHeld => ?_)
 clear hK K
 try simp only [Act.put, qD, qE, qF]
 refine op1 11 rfl fun K hK => ?_
 (go_simp; go_wp2_with (go_at_call 144; refine (SC.out _).mono ?_; rintro _ w' ⟨rfl, rfl⟩))
 refine hK.out _ _ (h.le KL) (fun hHeld => ?_)
 clear hK K
 try simp only [Act.put, qD, qE, qF]
 refine op1 12 rfl fun K hK => ?_
 (go_simp; go_wp2_with (go_at_call 143; refine (ND1.out _ h).mono ?_; clear h; rintro _ w ⟨rfl, h⟩))
 refine hK.out _ _ (h.le KL) (fun hHeld => ?_)
 clear hK K
 try simp only [Act.put, qD, qE, qF]
 refine op1 13 rfl fun K hK => ?_
 (go_simp; go_wp2_with (go_at_call 97; refine (SE.out _ h).mono ?_; clear h; rintro _ w ⟨rfl, h⟩))
 refine hK.out _ _ (h.le KE) (fun hHeld => ?_)
 clear hK K
 try simp only [Act.put, qD, qE, qF]
 refine wpAnyH_done (by kernel_rfl) ?_ _
 clear hHeld
 go_wp2_with (first
  | (with_reducible show wpList _ _ _ (⟨_, .load 3 _, _, _, _, _⟩ :: _) _ _; refine zZ h rfl 3 _ rfl rfl hfb2 f1 Tryz.underlying3 rfl ?_)
  | (with_reducible show wpList _ _ _ (⟨_, .store 3 _ _, _, _, _, _⟩ :: _) _ _; refine zV h rfl 3 _ _ rfl rfl rfl hfb2 hsz rfl (by kernel_rfl) ?_; clear h; intro w h))
 go_end0
 refine ⟨rfl, _, _, ?_, HT.out⟩
 have h0 : Has σ (M2.upd b (.cells (fr0.setIfInBounds 1 (.int .i64 5)) 69)) w := h
 rw [R1.out] at h0
 exact h0
theorem give_5 {σ w : World} {K M : Mm} {lab : Nat → Nat} {p t q b lv : Nat} {s : MachS} {fs : List FrameS} {f : FrameS} (h : Has σ M w) (hT : AtTop K M lab p s t q b fs f) (hat : f.at_ = 5) {sl : Nat} (h0 : f.r 0 = (sl : Int)) (hsl : sl < 256) (hlv : zT s.c (t : Nat) = (lv : Nat)) (hlc : (lv : Int) < s.c 0) (hin : InK s.c 9 (sl : Nat) 1) (hb1 : s.mem.acc < 1000000000) (hb2 : s.mem.wr < 1000000000) :
  Calls Tryz.prog 133 #[.agg (runC p t q b)] w fun r w' => r = .returned (.tuple #[]) ∧ ∃ M' lab', Has σ M' w' ∧ AtTop K M' lab' p (MachS.top { s with mem := s.mem.store (atK s.c lv 9 (sl : Nat) 1) 0 } t fs (f.goto 6)) t q b fs (f.goto 6) := by
 obtain ⟨d0, d1, d2, d3, dx, dz⟩ := runD p t q b
 have f1 : f.row[1]? = some (.int .i64 5) := by rw [← hat]; rfl
 have f2 : f.row[2]? = some (.int .u64 (sl : Nat)) := by rw [← h0]; rfl
 have us : IntKind.i64.wrap ((sl : Nat) : Int) = ((sl : Nat) : Int) := IntWalk.i64_in _ (by omega)
 clear hat
 have SC := Lib.hid scrubbed_5
 have SPA := zD (σ := σ) hT.mach hlv hlc hin
 obtain ⟨a, ha⟩ : ∃ a, atK s.c lv 9 (sl : Nat) 1 = a := ⟨_, rfl⟩
 rw [ha] at SPA ⊢
 obtain ⟨v, hv⟩ : ∃ v : Int, v = 0 := ⟨_, rfl⟩
 rw [← hv]
 have ND := Lib.hid (fun (M' : Mm) (w : World) (h : Has σ M' w) (hle : M.le M') => wW (q := q) (b := b) h (SPA.le hle))
 clear h0 ha hlv hlc hin SPA
 go_enter Tryz.func133, Tryz.ntmps133
 go_upto_region 1 with (fail)
 obtain ⟨M1, hbx, hle, hb4, hn⟩ := h.box (.cells (runC p t q b) 193)
 generalize w.alloc _ = wx at hbx ⊢
 generalize w.heap.size = b4 at hb4 hn ⊢
 clear h
 try clear w
 have h := hbx
 clear hbx
 obtain ⟨w, rfl⟩ : ∃ x : World, x = wx := ⟨_, rfl⟩
 obtain ⟨lab1, hT1⟩ := hT.more1 hle hn hb4
 have hnK : K b4 = none := by
  cases e : K b4 with
  | none => rfl
  | some o => have := (hT.base _ _ e).1; rw [hn] at this; cases this
 have hKK : K.le (K.upd b4 (.cells (runC p t q b) 193)) := Mm.le_upd' hnK _
 have hbK : (K.upd b4 (.cells (runC p t q b) 193)) b4 = some (.cells (runC p t q b) 193) := Mm.upd_same _ _ _
 have hfb := hT1.obj
 have ND1 := Lib.hid (fun (w : World) (h : Has σ M1 w) => ND.out M1 w h hle)
 clear ND
 -- behind the entrance: the store of v at a, then the frame goes on at 6
 have ME := Lib.hid (fun (w : World) (h : Has σ M1 w) => yJ h hT1.mach)
 have SE := Lib.hid (fun (w : World) (h : Has σ M1 w) => xV h hT1.mach.mem hb1 hb2 a v)
 have hne : b4 ≠ b := fun e => by
  subst e
  rw [hb4] at hfb
  simp only [Option.some.injEq, Obj.cells.injEq] at hfb
  exact absurd hfb.2.1 (by decide)
 have hT2 := hT1.store a v
 have KL := Mm.upd_le2 hT1.base.le hT1.obj
 have KE := Mm.upd_le2 hT2.base.le hT2.obj
 have hbK2 : ((K.upd b4 (.cells (runC p t q b) 193)).upd b (.cells f.row 69)) b4 = some (.cells (runC p t q b) 193) := (Mm.upd_ne hne).trans (Mm.upd_same _ _ _)
 have hfK : ((K.upd b4 (.cells (runC p t q b) 193)).upd b (.cells f.row 69)) b = some (.cells f.row 69) := Mm.upd_same _ _ _
 obtain ⟨hfb2, hT3⟩ := hT2.frame (f.goto 6)
 have HT := Lib.hid (hT3.less hKK)
 have hsz : 1 < f.row.size := show 1 < 18 by omega
 have R1 := Lib.hid (xZ f 6)
 clear hT hT1 hT2 hT3 hb1 hb2 hn hle hnK hKK hne hbK
 generalize runC p t q b = rc at *
 generalize hr0 : f.row = fr0 at *
 generalize hr1 : (f.goto 6).row = fr1 at *
 clear hr0 hr1
 generalize (K.upd b4 _).upd b _ = K1 at KL KE hbK2 hfK
 generalize yA M1 s.mp s.mem a v = M2 at *
 subst hv
 go_upto_region 18 with (first
  | (with_reducible show wpList _ _ _ (⟨_, .load 70 _, _, _, _, _⟩ :: _) _ _; refine zZ h rfl 70 _ rfl rfl hb4 d3 Tryz.underlying70 rfl ?_)
  | (with_reducible show wpList _ _ _ (⟨_, .load 42 _, _, _, _, _⟩ :: _) _ _; refine zZ h rfl 42 _ rfl rfl hfb f2 Tryz.underlying42 rfl ?_)
  | (with_reducible show wpList _ _ _ (⟨_, .load 3 _, _, _, _, _⟩ :: _) _ _; refine zZ h rfl 3 _ rfl rfl hfb f1 Tryz.underlying3 rfl ?_))
 clear hfb hb4
 refine wp_region_held_drew (S := Has σ (K1)) (by kernel_rfl) (h.drew.le KL) (fun hHeld => ?_)
 refine tkB 0 ?_
 refine tkB 1 ?_
 try simp only [qA, qB, qC, Act.put, qD, qE, qF]
 refine tkA 2 rfl hHeld (zU rfl 26 _ rfl rfl hbK2 d0 Tryz.underlying26 rfl) ?_
 try simp only [qA, qB, qC, Act.put, qD, qE, qF]
 refine tkB 4 ?_
 try simp only [qA, qB, qC, Act.put, qD, qE, qF]
 refine tkA 5 rfl hHeld (yZ rfl 190 _ rfl rfl hbK2 dx dz Tryz.underlying190 rfl (by kernel_rfl)) ?_
 try simp only [qA, qB, qC, Act.put, qD, qE, qF]
 refine tkB 6 ?_
 refine tkB 7 ?_
 refine tkB 8 ?_
 refine tkB 9 ?_
 try simp only [qA, qB, qC, Act.put, qD, qE, qF]
 refine tkA 10 rfl hHeld (zU rfl 3 _ rfl rfl hfK f1 Tryz.underlying3 rfl) ?_
 try simp only [qA, qB, qC, Act.put, qD, qE, qF]
 replace h := h.drew
 generalize w.drew = w1 at h hHeld ⊢
 clear w
 obtain ⟨w, rfl⟩ : ∃ q : World, q = w1 := ⟨_, rfl⟩
 refine op1 3 rfl fun K hK => ?_
 (go_simp; go_wp2_with (go_at_call 46; refine (ME.out _ h).mono ?_; clear h; rintro _ w ⟨rfl, h⟩))
 refine hK.out _ _ (h.le KL) (fun hHeld => ?_)
 clear hK K
 try simp only [Act.put, qD, qE, qF]
 refine op1 11 rfl fun K hK => ?_
 (go_simp; go_wp2_with (go_at_call 144; refine (SC.out _).mono ?_; rintro _ w' ⟨rfl, rfl⟩))
 refine hK.out _ _ (h.le KL) (fun hHeld => ?_)
 clear hK K
 try simp only [Act.put, qD, qE, qF]
 refine op1 12 rfl fun K hK => ?_
 (go_simp; go_wp2_with (go_at_call 143; refine (ND1.out _ h).mono ?_; clear h; rintro _ w ⟨rfl, h⟩))
 refine hK.out _ _ (h.le KL) (fun hHeld => ?_)
 clear hK K
 try simp only [Act.put, qD, qE, qF]
 refine op1 13 rfl fun K hK => ?_
 (go_simp; go_wp2_with (go_at_call 97; refine (SE.out _ h).mono ?_; clear h; rintro _ w ⟨rfl, h⟩))
 refine hK.out _ _ (h.le KE) (fun hHeld => ?_)
 clear hK K
 try simp only [Act.put, qD, qE, qF]
 refine wpAnyH_done (by kernel_rfl) ?_ _
 clear hHeld
 go_wp2_with (first
  | (with_reducible show wpList _ _ _ (⟨_, .load 3 _, _, _, _, _⟩ :: _) _ _; refine zZ h rfl 3 _ rfl rfl hfb2 f1 Tryz.underlying3 rfl ?_)
  | (with_reducible show wpList _ _ _ (⟨_, .store 3 _ _, _, _, _, _⟩ :: _) _ _; refine zV h rfl 3 _ _ rfl rfl rfl hfb2 hsz rfl (by kernel_rfl) ?_; clear h; intro w h))
 go_end0
 refine ⟨rfl, _, _, ?_, HT.out⟩
 have h0 : Has σ (M2.upd b (.cells (fr0.setIfInBounds 1 (.int .i64 6)) 69)) w := h
 rw [R1.out] at h0
 exact h0
end
section
open Go.RowKit
theorem qV {σ w : World} {K M : Mm} {lab : Nat → Nat} {p t q b : Nat} {s : MachS} {fs : List FrameS} {f : FrameS} (h : Has σ M w) (hT : AtTop K M lab p s t q b fs f) (hfs : fs.length < 1000000) :
  Calls Tryz.prog 93 #[.pointer (some ⟨q, 0, none⟩), .slice none 0 0] w fun r w' => r = .returned (.tuple #[]) ∧ ∃ M' lab', Has σ M' w' ∧ Mach M' lab' p (s.backed t []) ∧ Base K M' lab' := by
 obtain ⟨fv, hv, fbs, hTh⟩ := hT.thr
 have hlen : fbs.length = fs.length := by
  have h1 := hTh.flen
  rw [hT.fr] at h1
  simpa using h1
 refine (pW h hTh (rv := .slice none 0 0) (us := []) (Rd.nil _ _ _) (by simp) (by omega)).mono fun r w' ⟨e, M', h', hK, hI⟩ => ?_
 obtain ⟨h4, h5⟩ := hT.mach.thrTo hT.base hT.tp hK hI
 exact ⟨e, M', lab, h', h4, h5⟩
theorem oN {σ w : World} {K M M2 : Mm} {lab : Nat → Nat} {p t q b bl : Nat} {s : MachS} {fs : List FrameS} {f : FrameS} {v0 : Int} (h : Has σ M2 w) (hT : AtTop K M lab p s t q b fs f) (hle : M.le M2) (hn : M bl = none) (hbl : M2 bl = some (.cells #[.int .u64 v0] 42)) (hfs : fs.length < 1000000) :
  Calls Tryz.prog 93 #[.pointer (some ⟨q, 0, none⟩), .slice (some ⟨bl, 0, none⟩) 1 1] w fun r w' => r = .returned (.tuple #[]) ∧ ∃ M' lab', Has σ M' w' ∧ Mach M' lab' p (s.backed t [v0]) ∧ Base K M' lab' := by
 obtain ⟨lab2, hT2⟩ := hT.more1 hle hn hbl
 obtain ⟨fv, hv, fbs, hTh⟩ := hT2.thr
 have hne : bl ≠ q := fun e => by
  subst e
  have h1 := hTh.obj
  rw [hbl] at h1
  simp only [Option.some.injEq, Obj.cells.injEq] at h1
  exact absurd h1.2.1 (by decide)
 have hnK : K bl = none := by
  cases e : K bl with
  | none => rfl
  | some o => have := (hT.base _ _ e).1; rw [hn] at this; cases this
 have hrd : Rd (M2.drop q) 1 (.slice (some ⟨bl, 0, none⟩) 1 1) [v0].length (u64s [v0]) := ⟨rfl, _, _, rfl, Nat.le_refl _, fun _ => ⟨bl, 0, _, _, _, rfl, (if_neg hne).trans hbl, fun j u hu => by simpa [u64s] using hu⟩⟩
 have hlen : fbs.length = fs.length := by
  have h1 := hTh.flen
  rw [hT2.fr] at h1
  simpa using h1
 refine (pW h hTh hrd (by simp) (by omega)).mono fun r w' ⟨e, M', h', hK, hI⟩ => ?_
 obtain ⟨h4, h5⟩ := hT2.mach.thrTo hT2.base hT2.tp hK hI
 exact ⟨e, M', lab2, h', h4, fun c o hc => h5 c o (Mm.le_upd' hnK _ _ _ hc)⟩
end
section
open Go.RowKit
theorem give_9no {σ w : World} {K M : Mm} {lab : Nat → Nat} {p t q b lv : Nat} {s : MachS} {fs : List FrameS} {f : FrameS} (h : Has σ M w) (hT : AtTop K M lab p s t q b fs f) (hat : f.at_ = 9) {sl x : Nat} (h0 : f.r 0 = (sl : Int)) (hsl : sl < 256) (hx : f.r 1 = (x : Int)) (hx64 : x < 18446744073709551616) (hlv : zT s.c (t : Nat) = (lv : Nat)) (hlc : (lv : Int) < s.c 0) (hb1 : s.mem.acc < 1000000000) (hb2 : s.mem.wr < 1000000000) (hsw : s.mem.swaps (atK s.c lv 0 0 0) x = false) :
  Calls Tryz.prog 133 #[.agg (runC p t q b)] w fun r w' => r = .returned (.tuple #[]) ∧ ∃ M' lab', Has σ M' w' ∧ AtTop K M' lab' p { s.top t fs (f.goto 7) with mem := s.mem.cas (atK s.c lv 0 0 0) x (yK sl (cutN x 8 56 + 1) : Nat) } t q b fs (f.goto 7) := by
 obtain ⟨d0, d1, d2, d3, dx, dz⟩ := runD p t q b
 have f1 : f.row[1]? = some (.int .i64 9) := by rw [← hat]; rfl
 have f2 : f.row[2]? = some (.int .u64 (sl : Nat)) := by rw [← h0]; rfl
 have us : IntKind.i64.wrap ((sl : Nat) : Int) = ((sl : Nat) : Int) := IntWalk.i64_in _ (by omega)
 clear hat
 go_enter Tryz.func133, Tryz.ntmps133
 go_upto_region 1 with (fail)
 obtain ⟨M1, hbx, hle, hb4, hn⟩ := h.box (.cells (runC p t q b) 193)
 generalize w.alloc _ = wx at hbx ⊢
 generalize w.heap.size = b4 at hb4 hn ⊢
 clear h
 try clear w
 have h := hbx
 clear hbx
 obtain ⟨w, rfl⟩ : ∃ x : World, x = wx := ⟨_, rfl⟩
 obtain ⟨lab1, hT1⟩ := hT.more1 hle hn hb4
 have hnK : K b4 = none := by
  cases e : K b4 with
  | none => rfl
  | some o => have := (hT.base _ _ e).1; rw [hn] at this; cases this
 have hKK : K.le (K.upd b4 (.cells (runC p t q b) 193)) := Mm.le_upd' hnK _
 have hbK : (K.upd b4 (.cells (runC p t q b) 193)) b4 = some (.cells (runC p t q b) 193) := Mm.upd_same _ _ _
 have hfb := hT1.obj
 have hsz : 1 < f.row.size := show 1 < 18 by omega
 have R0 := Lib.hid (xZ f 7)
 obtain ⟨_, hT2⟩ := hT1.frame (f.goto 7)
 have SW := Lib.hid (fun (w : World) (h : Has σ (M1.upd b (.cells (f.goto 7).row 69)) w) => tQ h hT2 (zD hT2.mach hlv hlc (wE _)) hb1 hb2 (x := x) (slot := sl) hx hx64 (by omega))
 rw [show (s.top t fs (f.goto 7)).mem = s.mem from rfl, show (s.top t fs (f.goto 7)).c = s.c from rfl, hsw] at SW
 have hbK2 := hT2.base.le _ _ hbK
 have HK := Lib.hid hKK
 have HBK := Lib.hid hbK
 clear hT hT1 hT2 hb1 hb2 hn hle hnK hKK hx hx64 hlv hlc hsw hbK h0
 generalize f.row = fr0 at *
 generalize hr1 : (f.goto 7).row = fr1 at *
 generalize runC p t q b = rc at *
 clear hr1
 go_upto_region 5 with (first
  | (with_reducible show wpList _ _ _ (⟨_, .load 70 _, _, _, _, _⟩ :: _) _ _; refine zZ h rfl 70 _ rfl rfl hb4 d3 Tryz.underlying70 rfl ?_)
  | (with_reducible show wpList _ _ _ (⟨_, .load 42 _, _, _, _, _⟩ :: _) _ _; refine zZ h rfl 42 _ rfl rfl hfb f2 Tryz.underlying42 rfl ?_)
  | (with_reducible show wpList _ _ _ (⟨_, .load 3 _, _, _, _, _⟩ :: _) _ _; refine zZ h rfl 3 _ rfl rfl hfb f1 Tryz.underlying3 rfl ?_)
  | (with_reducible show wpList _ _ _ (⟨_, .store 3 _ _, _, _, _, _⟩ :: _) _ _; refine zV h rfl 3 _ _ rfl rfl rfl hfb hsz rfl (by kernel_rfl) ?_; clear h; intro w h))
 have h9 : Has σ (M1.upd b (.cells (fr0.setIfInBounds 1 (.int .i64 7)) 69)) w := h
 rw [R0.out] at h9
 clear h hfb hsz R0 hb4
 have h := h9
 clear h9
 generalize M1.upd b _ = M2 at h hbK2 SW
 go_wp2_with (first
  | ((with_reducible show wpList _ _ _ (⟨_, .load 190 _, _, _, _, _⟩ :: _) _ _); refine zR h rfl 190 _ rfl rfl hbK2 dx dz Tryz.underlying190 rfl (by kernel_rfl) ?_; try simp only [Act.put, qD, qE, qF])
  | (go_at_call 141; refine (SW.out _ h).mono ?_; clear h; rintro _ w ⟨rfl, M3, lab3, h, hT3⟩))
 go_end0
 exact ⟨rfl, M3, lab3, h, hT3.less HK.out⟩
theorem give_9yes {σ w : World} {K M : Mm} {lab : Nat → Nat} {p t q b lv : Nat} {s : MachS} {fs : List FrameS} {f : FrameS} (h : Has σ M w) (hT : AtTop K M lab p s t q b fs f) (hat : f.at_ = 9) {sl x : Nat} (h0 : f.r 0 = (sl : Int)) (hsl : sl < 256) (hx : f.r 1 = (x : Int)) (hx64 : x < 18446744073709551616) (hlv : zT s.c (t : Nat) = (lv : Nat)) (hlc : (lv : Int) < s.c 0) (hb1 : s.mem.acc < 1000000000) (hb2 : s.mem.wr < 1000000000) (hsw : s.mem.swaps (atK s.c lv 0 0 0) x = true) (hfs : fs.length < 1000000) :
  Calls Tryz.prog 133 #[.agg (runC p t q b)] w fun r w' => r = .returned (.tuple #[]) ∧ ∃ M' lab', Has σ M' w' ∧ Mach M' lab' p (MachS.backed { s.top t fs (f.goto 7) with mem := s.mem.cas (atK s.c lv 0 0 0) x (yK sl (cutN x 8 56 + 1) : Nat) } t []) ∧ Base K M' lab' := by
 obtain ⟨d0, d1, d2, d3, dx, dz⟩ := runD p t q b
 have f1 : f.row[1]? = some (.int .i64 9) := by rw [← hat]; rfl
 have f2 : f.row[2]? = some (.int .u64 (sl : Nat)) := by rw [← h0]; rfl
 have us : IntKind.i64.wrap ((sl : Nat) : Int) = ((sl : Nat) : Int) := IntWalk.i64_in _ (by omega)
 clear hat
 have HF := Lib.hid hfs
 clear hfs
 go_enter Tryz.func133, Tryz.ntmps133
 go_upto_region 1 with (fail)
 obtain ⟨M1, hbx, hle, hb4, hn⟩ := h.box (.cells (runC p t q b) 193)
 generalize w.alloc _ = wx at hbx ⊢
 generalize w.heap.size = b4 at hb4 hn ⊢
 clear h
 try clear w
 have h := hbx
 clear hbx
 obtain ⟨w, rfl⟩ : ∃ x : World, x = wx := ⟨_, rfl⟩
 obtain ⟨lab1, hT1⟩ := hT.more1 hle hn hb4
 have hnK : K b4 = none := by
  cases e : K b4 with
  | none => rfl
  | some o => have := (hT.base _ _ e).1; rw [hn] at this; cases this
 have hKK : K.le (K.upd b4 (.cells (runC p t q b) 193)) := Mm.le_upd' hnK _
 have hbK : (K.upd b4 (.cells (runC p t q b) 193)) b4 = some (.cells (runC p t q b) 193) := Mm.upd_same _ _ _
 have hfb := hT1.obj
 have hsz : 1 < f.row.size := show 1 < 18 by omega
 have R0 := Lib.hid (xZ f 7)
 obtain ⟨_, hT2⟩ := hT1.frame (f.goto 7)
 have SW := Lib.hid (fun (w : World) (h : Has σ (M1.upd b (.cells (f.goto 7).row 69)) w) => tQ h hT2 (zD hT2.mach hlv hlc (wE _)) hb1 hb2 (x := x) (slot := sl) hx hx64 (by omega))
 rw [show (s.top t fs (f.goto 7)).mem = s.mem from rfl, show (s.top t fs (f.goto 7)).c = s.c from rfl, hsw] at SW
 have hbK2 := hT2.base.le _ _ hbK
 have HK := Lib.hid hKK
 have HBK := Lib.hid hbK
 clear hT hT1 hT2 hb1 hb2 hn hle hnK hKK hx hx64 hlv hlc hsw hbK h0
 generalize f.row = fr0 at *
 generalize hr1 : (f.goto 7).row = fr1 at *
 generalize runC p t q b = rc at *
 clear hr1
 go_upto_region 5 with (first
  | (with_reducible show wpList _ _ _ (⟨_, .load 70 _, _, _, _, _⟩ :: _) _ _; refine zZ h rfl 70 _ rfl rfl hb4 d3 Tryz.underlying70 rfl ?_)
  | (with_reducible show wpList _ _ _ (⟨_, .load 42 _, _, _, _, _⟩ :: _) _ _; refine zZ h rfl 42 _ rfl rfl hfb f2 Tryz.underlying42 rfl ?_)
  | (with_reducible show wpList _ _ _ (⟨_, .load 3 _, _, _, _, _⟩ :: _) _ _; refine zZ h rfl 3 _ rfl rfl hfb f1 Tryz.underlying3 rfl ?_)
  | (with_reducible show wpList _ _ _ (⟨_, .store 3 _ _, _, _, _, _⟩ :: _) _ _; refine zV h rfl 3 _ _ rfl rfl rfl hfb hsz rfl (by kernel_rfl) ?_; clear h; intro w h))
 have h9 : Has σ (M1.upd b (.cells (fr0.setIfInBounds 1 (.int .i64 7)) 69)) w := h
 rw [R0.out] at h9
 clear h hfb hsz R0 hb4
 have h := h9
 clear h9
 generalize M1.upd b _ = M2 at h hbK2 SW
 go_wp2_with (first | ((with_reducible show wpList _ _ _ (⟨_, .load 190 _, _, _, _, _⟩ :: _) _ _); refine zR h rfl 190 _ rfl rfl hbK2 dx dz Tryz.underlying190 rfl (by kernel_rfl) ?_; try simp only [Act.put, qD, qE, qF]))
 go_at_call 141
 refine (SW.out _ h).mono ?_
 clear h
 rintro _ w ⟨rfl, M3, lab3, h, hT3⟩
 have hb4' := hT3.base.le _ _ HBK.out
 have BK := Lib.hid (fun (w : World) (h : Has σ M3 w) => qV h hT3 HF.out)
 clear hT3 SW hbK2
 go_wp2_with (first
  | (with_reducible show wpList _ _ _ (⟨_, .load 38 _, _, _, _, _⟩ :: _) _ _; refine zZ h rfl 38 _ rfl rfl hb4' d2 Tryz.underlying38 rfl ?_)
  | (go_at_call 93; refine (BK.out _ h).mono ?_; clear h; rintro _ w ⟨rfl, M4, lab4, h, hM4, hB4⟩))
 go_end0
 exact ⟨rfl, M4, lab4, h, hM4, fun c o hc => hB4 c o (HK.out _ _ hc)⟩
end
section
open Go.RowKit
def MachS.begun (s : MachS) (t : Nat) (fn : Int) (us : List Int) : MachS := { s with thr := fun j => if j = t then (s.thr t).call fn us else s.thr j }
end
section
open Go.RowKit
def MachS.after (s2 s : MachS) (lv : Nat) : MachS := MachS.watch { s2 with steps := s2.steps + 1 } lv s.mem.acc s.mem.wr
theorem after_same (s2 s : MachS) (lv : Nat) : (s2.after s lv).c = s2.c ∧ (s2.after s lv).tp = s2.tp ∧ (s2.after s lv).mem = s2.mem ∧ (s2.after s lv).ward = s2.ward ∧ (s2.after s lv).thr = s2.thr ∧ (s2.after s lv).clk = s2.clk ∧ (s2.after s lv).steps = s2.steps + 1 ∧ (s2.after s lv).given = s2.given := by
 unfold MachS.after MachS.watch
 repeat' split
 all_goals exact ⟨rfl, rfl, rfl, rfl, rfl, rfl, rfl, rfl⟩
end
section
open Go.RowKit
def Dropped3 : Nat → Prop := fun k => k = 3 ∨ (k = 4 ∨ k = 6)
section
variable {σ w : World} {K M M' : Mm} {lab lab' : Nat → Nat} {p : Nat} {s : MachS}
theorem gone_kp (hM : Mach M lab p s) (l t : Int) : Kp Dropped3 M lab ((M.upd s.ward.hb (zH (s.ward.gone l t).held (s.ward.gone l t).hclk)).upd s.ward.gb (zH (s.ward.gone l t).gens (s.ward.gone l t).gclk)) lab := by
 have k1 : Kp (fun j => j = 3) M lab (M.upd s.ward.hb (zH (s.ward.gone l t).held (s.ward.gone l t).hclk)) lab := Kp.upd hM.wlab.2.1 _
 exact (k1.trans (Kp.upd hM.wlab.2.2 _)).mono fun _ h => .inl h
theorem Mach.gaveK (hM : Mach M lab p s) (hB : Base K M lab) {g : GivenS} {v : Value} {M3 : Mm} (hle : (M.out lab 6).le M3) (ho : Own (M.out lab 6) M3 204 6 v (s.given.length + 1) ((s.given ++ [g]).flatMap encG)) {s' : MachS} (hs : s' = { s with gv := v, given := s.given ++ [g] }) :
  ∃ lab', Base K (M3.upd p (.cells s'.row 115)) lab' ∧ Mach (M3.upd p (.cells s'.row 115)) lab' p s' ∧ Kp (fun k => k = 4 ∨ k = 6) M lab (M3.upd p (.cells s'.row 115)) lab' := by
 subst hs
 obtain ⟨lab', hK, hR⟩ := Row.grow hle ho
 obtain ⟨p1, p2⟩ := hK.get hM.obj hM.mark (by omega)
 have k3 : Kp (fun j => j = 4) M3 lab' (M3.upd p (.cells (MachS.row { s with gv := v, given := s.given ++ [g] }) 115)) lab' := Kp.upd p2 _
 have k4 : Kp (fun k => k = 4 ∨ k = 6) M lab (M3.upd p (.cells (MachS.row { s with gv := v, given := s.given ++ [g] }) 115)) lab' := (hK.mono fun _ h => .inr h).trans (k3.mono fun _ h => .inl h)
 obtain ⟨⟨o1, o2, h1, h2, h3, h4, h5, h6, h7, h8, h9, h10, h11, h12⟩, h13⟩ := hM
 obtain ⟨m1, m2⟩ := h4.keep h5 k4 (by omega)
 obtain ⟨w1, w2⟩ := h7.keep h8 k4 (by omega)
 obtain ⟨q1, q2⟩ := k4.get h2 h3 (by omega)
 refine ⟨lab', hB.keep k4 (by omega), ⟨⟨Mm.upd_same _ _ _, p2, h1, q1, q2, m1, m2, h6, w1, w2, h9, h10.keep k4 (by omega), fun t p' hp => (h11 t p' hp).keep k4 fun k hk => by have := hk.1; omega, ?_⟩, h13⟩, k4⟩
 have := hR.keep k3 (by omega)
 rw [List.length_append]
 exact this
def MachS.gaveS (s : MachS) (lv t : Int) (gv : Value) : MachS := { s with ward := s.ward.gone lv t, gv := gv, given := s.given ++ [⟨lv, s.ward.link lv t, s.clk⟩] }
theorem mDrop_kp (h : Has σ M w) (hM : Mach M lab p s) (hB : Base K M lab) (t slot : Int) {lv : Int} (hlv : zT s.c t = lv) (hst : StampE s.ward.gens s.ward.gclk) (hg : 0 ≤ valE lv slot s.ward.gens ∧ valE lv slot s.ward.gens < 1000000000) (hsl : s.ward.slips < 1000000000) (hn : s.given.length < 1000000) (hh : s.ward.has lv slot = true) :
  Calls Tryz.prog 147 #[.pointer (some ⟨p, 0, none⟩), .int .i64 t, .int .i64 slot] w fun r w' => r = .returned (.tuple #[]) ∧ ∃ M' lab' gv, Has σ M' w' ∧ Base K M' lab' ∧ Mach M' lab' p (s.gaveS lv slot gv) ∧ Kp Dropped3 M lab M' lab' := by
 have LV := Lib.hid (fun (w : World) (h : Has σ M w) => vV h hM t)
 rw [hlv] at LV
 have WD := Lib.hid (fun (w : World) (h : Has σ M w) => vF h hM)
 have hs60 : s.ward.sl ≤ 1000000 := by rw [hM.wsz.2]; have := (Nums.of hM.may); obtain ⟨L, B, S, hn⟩ := this; have := hn.slo; have := hn.s0; omega
 have LK := Lib.hid (fun (w : World) (h : Has σ M w) => tZ h hM.ward lv slot hs60 hg)
 have DR := Lib.hid (fun (w : World) (h : Has σ M w) => drop_yes h hM.ward lv slot hh hst (by omega))
 obtain ⟨hM2, hB2⟩ := hM.gone hB lv slot rfl
 have KPA := Lib.hid (gone_kp hM lv slot)
 obtain ⟨g, G⟩ : ∃ g : GivenS, Hid (g = GivenS.mk lv (s.ward.link lv slot) s.clk) := ⟨_, rfl⟩
 have E : ∀ gv, MachS.gaveS s lv slot gv = { { s with ward := s.ward.gone lv slot } with gv := gv, given := s.given ++ [g] } := fun gv => by unfold MachS.gaveS; rw [G.out]
 replace E := Lib.hid E
 have EG : Hid (encG g = [.int .i64 lv, .int .u64 (s.ward.link lv slot), .int .i64 (s.clk 0 : Nat), .int .i64 (s.clk 1 : Nat), .int .i64 (s.clk 2 : Nat), .int .i64 (s.clk 3 : Nat)]) := by show _ = _; rw [G.out]; rfl
 clear hM hB hlv hst hg hsl hs60 hh
 generalize (M.upd s.ward.hb _).upd s.ward.gb _ = M2 at DR hM2 hB2 KPA
 obtain ⟨s2, E2⟩ : ∃ s2 : MachS, Hid (s2 = { s with ward := s.ward.gone lv slot }) := ⟨_, rfl⟩
 rw [← E2.out] at hM2 E
 have hp := hM2.obj
 have e8 : s2.row[8]? = some s2.gv := rfl
 have eg : Hid (s2.given = s.given) := by show _ = _; rw [E2.out]
 have e4 : s2.row.extract 4 (4 + 4) = #[.int .i64 (s.clk 0 : Nat), .int .i64 (s.clk 1 : Nat), .int .i64 (s.clk 2 : Nat), .int .i64 (s.clk 3 : Nat)] := by rw [E2.out]; rfl
 have l8 : 8 < s2.row.size := show 8 < 11 by omega
 have hown := hM2.grow
 have hpo := Mm.out_of (lab := lab) (k := 6) hp (by rw [hM2.mark]; omega)
 have hle := Mm.out_le M2 lab 6
 unfold Row at hown
 rw [eg.out] at hown
 have GAVE := Lib.hid (fun (M3 : Mm) (v : Value) hl ho => hM2.gaveK hB2 (g := g) (v := v) (M3 := M3) hl ho (s' := { s2 with gv := v, given := s2.given ++ [g] }) rfl)
 rw [eg.out] at GAVE
 have EQ : Hid (∀ v, s2.row.setIfInBounds 8 v = MachS.row { s2 with gv := v, given := s.given ++ [g] }) := Lib.hid fun v => rfl
 have FA : Hid (∀ g : GivenS, (s.given ++ [g]).flatMap encG = s.given.flatMap encG ++ encG g) := Lib.hid fun g => by simp
 replace FA := Lib.hid (FA.out g)
 clear hM2 hB2
 generalize s2.row = row at hp e8 e4 l8 EQ hpo
 generalize s2.gv = gv at e8 hown
 generalize s.given.flatMap encG = xs at hown FA
 generalize hnn : s.given.length = n at hown hn GAVE
 generalize s.ward.link lv slot = lk at LK EG
 generalize s.clk 0 = k0 at e4 EG
 generalize s.clk 1 = k1 at e4 EG
 generalize s.clk 2 = k2 at e4 EG
 generalize s.clk 3 = k3 at e4 EG
 go_enter Tryz.func147, Tryz.ntmps147
 go_upto_region 3 with (first
  | (go_at_call 12; refine (LV.out _ h).mono ?_; clear h; rintro _ w ⟨rfl, h⟩)
  | (go_at_call 17; refine (WD.out _ h).mono ?_; clear h; rintro _ w ⟨rfl, h⟩)
  | (go_at_call 18; refine (LK.out _ h).mono ?_; clear h; rintro _ w ⟨rfl, h⟩)
  | (go_at_call 148; refine (DR.out _ h).mono ?_; clear h; rintro _ w ⟨rfl, h⟩))
 clear LV WD LK DR
 have hpN := Mm.drop_none (M2.out lab 6) p
 have hdl : ((M2.out lab 6).drop p).le M2 := Mm.le_trans (Mm.drop_le _ _) hle
 have hd6 := Mm.drop_le (M2.out lab 6) p
 generalize (M2.out lab 6).drop p = MD at hpN hdl hd6
 generalize M2.out lab 6 = MR at hle hpo hown GAVE hd6
 refine wp_region_held_drew (S := Has σ (MD)) (by kernel_rfl) (h.drew.le hdl) (fun hHeld => ?_)
 refine tkB 0 ?_
 refine tkB 1 ?_
 refine tkB 2 ?_
 refine tkB 3 ?_
 refine tkB 5 ?_
 refine tkB 6 ?_
 refine tkB 7 ?_
 refine tkB 8 ?_
 refine tkB 9 ?_
 try simp only [qA, qB, qC, Act.put, qD, qE, qF]
 replace h := h.drew
 generalize w.drew = w1 at h hHeld ⊢
 clear w
 obtain ⟨w, rfl⟩ : ∃ q : World, q = w1 := ⟨_, rfl⟩
 refine wpAnyH_ready (rs := [4, 10]) (by kernel_rfl) (by simp) ?_
 refine AllReadyH.cons rfl (fun K hK => ?_) (AllReadyH.cons rfl (fun K hK => ?_) AllReadyH.nil)
 ·refine yX rfl (zU rfl 113 _ rfl rfl hp e8 Tryz.underlying113 rfl) h ?_
  refine hK.out _ _ hHeld (fun hHeld => ?_)
  clear hK K
  simp only [Act.put, qD, qE, qF]
  refine op1 10 rfl fun K hK => ?_
  (refine yX rfl (yZ rfl 112 _ rfl rfl hp e4 rfl Tryz.underlying112 rfl (by kernel_rfl)) h ?_)
  refine hK.out _ _ (hHeld) (fun hHeld => ?_)
  clear hK K
  try simp only [Act.put, qD, qE, qF]
  refine tkB 11 ?_
  try simp only [qA, qB, qC, Act.put, qD, qE, qF]
  refine op1 12 rfl fun K hK => ?_
  go_simp
  refine hK.out _ _ ((h.quietAlloc _).le hdl) (fun hHeld => ?_)
  clear hK K
  try simp only [Act.put, qD, qE, qF]
  clear hHeld
  obtain ⟨M3, hbx, hle2, hbl, hnl⟩ := h.box (.cells #[.int .i64 lv, .int .u64 lk, .int .i64 (k0 : Nat), .int .i64 (k1 : Nat), .int .i64 (k2 : Nat), .int .i64 (k3 : Nat)] 204)
  generalize w.alloc _ = wx at hbx ⊢
  generalize w.heap.size = bl at hbl hnl ⊢
  clear h
  try clear w
  have h := hbx
  clear hbx
  obtain ⟨w, rfl⟩ : ∃ x : World, x = wx := ⟨_, rfl⟩
  have hHeld : Has σ MD w := h.le (Mm.le_trans hdl hle2)
  have hrl : Rd M3 6 (.slice (some ⟨bl, 0, none⟩) 1 1) 1 [.int .i64 lv, .int .u64 lk, .int .i64 (k0 : Nat), .int .i64 (k1 : Nat), .int .i64 (k2 : Nat), .int .i64 (k3 : Nat)] := ⟨rfl, _, _, rfl, Nat.le_refl _, fun _ => ⟨bl, 0, _, _, _, rfl, hbl, fun j u hu => by simpa using hu⟩⟩
  have hleR := Mm.le_trans hle hle2
  have hownR := hown.le hle2
  refine op1 13 rfl fun K hK => ?_
  (refine xB h hleR rfl _ _ 113 rfl Tryz.underlying113 info_gv rfl (by omega) rfl hownR rfl hrl (by intro y hy; simp at hy; rcases hy with rfl | rfl | rfl | rfl | rfl | rfl <;> rfl) (by omega) (by omega) ?_; clear h; intro v w hacc; obtain ⟨M4, h, hl3, ho3⟩ := hacc)
  refine hK.out _ _ (h.le (Mm.le_trans hd6 hl3)) (fun hHeld => ?_)
  clear hK K
  try simp only [Act.put, qD, qE, qF]
  obtain ⟨A, cc, rfl⟩ := ho3.form
  refine tkB 14 ?_
  refine tkB 15 ?_
  try simp only [qA, qB, qC, Act.put, qD, qE, qF]
  have hdo : ∀ o, MD.le (M4.upd p o) := fun o => Mm.le_upd (Mm.le_trans hd6 hl3) hpN o
  refine op1 16 rfl fun K hK => ?_
  (refine yR (v := .slice A (n + 1) cc) h rfl 113 _ _ rfl rfl rfl (hl3 _ _ hpo) l8 rfl rfl (by kernel_rfl) ?_; clear h; intro w h)
  refine hK.out _ _ (h.le (hdo _)) (fun hHeld => ?_)
  clear hK K
  try simp only [Act.put, qD, qE, qF]
  refine wpAnyH_done (by kernel_rfl) ?_ _
  rw [EQ.out] at h
  have ho4 : Own MR M4 204 6 (.slice A (n + 1) cc) (n + 1) ((s.given ++ [g]).flatMap encG) := by
   rw [FA.out, EG.out]
   exact ho3
  obtain ⟨lab', hB3, hM3, hK3⟩ := GAVE.out M4 _ hl3 ho4
  clear hdo ho4 ho3 hHeld hrl hleR hownR hl3 hle2
  go_wp2
  go_end0
  exact ⟨rfl, _, lab', _, h, hB3, by rw [E.out]; exact hM3, KPA.out.trans (hK3.mono fun _ h => .inr h)⟩
 refine yX rfl (yZ rfl 112 _ rfl rfl hp e4 rfl Tryz.underlying112 rfl (by kernel_rfl)) h ?_
 refine hK.out _ _ hHeld (fun hHeld => ?_)
 clear hK K
 simp only [Act.put, qD, qE, qF]
 refine tkB 11 ?_
 try simp only [qA, qB, qC, Act.put, qD, qE, qF]
 refine wpAnyH_ready (rs := [4, 12]) (by kernel_rfl) (by simp) ?_
 refine AllReadyH.cons rfl (fun K hK => ?_) (AllReadyH.cons rfl (fun K hK => ?_) AllReadyH.nil)
 ·refine yX rfl (zU rfl 113 _ rfl rfl hp e8 Tryz.underlying113 rfl) h ?_
  refine hK.out _ _ hHeld (fun hHeld => ?_)
  clear hK K
  simp only [Act.put, qD, qE, qF]
  refine op1 12 rfl fun K hK => ?_
  go_simp
  refine hK.out _ _ ((h.quietAlloc _).le hdl) (fun hHeld => ?_)
  clear hK K
  try simp only [Act.put, qD, qE, qF]
  clear hHeld
  obtain ⟨M3, hbx, hle2, hbl, hnl⟩ := h.box (.cells #[.int .i64 lv, .int .u64 lk, .int .i64 (k0 : Nat), .int .i64 (k1 : Nat), .int .i64 (k2 : Nat), .int .i64 (k3 : Nat)] 204)
  generalize w.alloc _ = wx at hbx ⊢
  generalize w.heap.size = bl at hbl hnl ⊢
  clear h
  try clear w
  have h := hbx
  clear hbx
  obtain ⟨w, rfl⟩ : ∃ x : World, x = wx := ⟨_, rfl⟩
  have hHeld : Has σ MD w := h.le (Mm.le_trans hdl hle2)
  have hrl : Rd M3 6 (.slice (some ⟨bl, 0, none⟩) 1 1) 1 [.int .i64 lv, .int .u64 lk, .int .i64 (k0 : Nat), .int .i64 (k1 : Nat), .int .i64 (k2 : Nat), .int .i64 (k3 : Nat)] := ⟨rfl, _, _, rfl, Nat.le_refl _, fun _ => ⟨bl, 0, _, _, _, rfl, hbl, fun j u hu => by simpa using hu⟩⟩
  have hleR := Mm.le_trans hle hle2
  have hownR := hown.le hle2
  refine op1 13 rfl fun K hK => ?_
  (refine xB h hleR rfl _ _ 113 rfl Tryz.underlying113 info_gv rfl (by omega) rfl hownR rfl hrl (by intro y hy; simp at hy; rcases hy with rfl | rfl | rfl | rfl | rfl | rfl <;> rfl) (by omega) (by omega) ?_; clear h; intro v w hacc; obtain ⟨M4, h, hl3, ho3⟩ := hacc)
  refine hK.out _ _ (h.le (Mm.le_trans hd6 hl3)) (fun hHeld => ?_)
  clear hK K
  try simp only [Act.put, qD, qE, qF]
  obtain ⟨A, cc, rfl⟩ := ho3.form
  refine tkB 14 ?_
  refine tkB 15 ?_
  try simp only [qA, qB, qC, Act.put, qD, qE, qF]
  have hdo : ∀ o, MD.le (M4.upd p o) := fun o => Mm.le_upd (Mm.le_trans hd6 hl3) hpN o
  refine op1 16 rfl fun K hK => ?_
  (refine yR (v := .slice A (n + 1) cc) h rfl 113 _ _ rfl rfl rfl (hl3 _ _ hpo) l8 rfl rfl (by kernel_rfl) ?_; clear h; intro w h)
  refine hK.out _ _ (h.le (hdo _)) (fun hHeld => ?_)
  clear hK K
  try simp only [Act.put, qD, qE, qF]
  refine wpAnyH_done (by kernel_rfl) ?_ _
  rw [EQ.out] at h
  have ho4 : Own MR M4 204 6 (.slice A (n + 1) cc) (n + 1) ((s.given ++ [g]).flatMap encG) := by
   rw [FA.out, EG.out]
   exact ho3
  obtain ⟨lab', hB3, hM3, hK3⟩ := GAVE.out M4 _ hl3 ho4
  clear hdo ho4 ho3 hHeld hrl hleR hownR hl3 hle2
  go_wp2
  go_end0
  exact ⟨rfl, _, lab', _, h, hB3, by rw [E.out]; exact hM3, KPA.out.trans (hK3.mono fun _ h => .inr h)⟩
 go_simp
 refine hK.out _ _ ((h.quietAlloc _).le hdl) (fun hHeld => ?_)
 clear hK K
 try simp only [Act.put, qD, qE, qF]
 clear hHeld
 obtain ⟨M3, hbx, hle2, hbl, hnl⟩ := h.box (.cells #[.int .i64 lv, .int .u64 lk, .int .i64 (k0 : Nat), .int .i64 (k1 : Nat), .int .i64 (k2 : Nat), .int .i64 (k3 : Nat)] 204)
 generalize w.alloc _ = wx at hbx ⊢
 generalize w.heap.size = bl at hbl hnl ⊢
 clear h
 try clear w
 have h := hbx
 clear hbx
 obtain ⟨w, rfl⟩ : ∃ x : World, x = wx := ⟨_, rfl⟩
 have hHeld : Has σ MD w := h.le (Mm.le_trans hdl hle2)
 have hrl : Rd M3 6 (.slice (some ⟨bl, 0, none⟩) 1 1) 1 [.int .i64 lv, .int .u64 lk, .int .i64 (k0 : Nat), .int .i64 (k1 : Nat), .int .i64 (k2 : Nat), .int .i64 (k3 : Nat)] := ⟨rfl, _, _, rfl, Nat.le_refl _, fun _ => ⟨bl, 0, _, _, _, rfl, hbl, fun j u hu => by simpa using hu⟩⟩
 have hleR := Mm.le_trans hle hle2
 have hownR := hown.le hle2
 refine op1 4 rfl fun K hK => ?_
 (refine yX rfl (zU rfl 113 _ rfl rfl (hle2 _ _ hp) e8 Tryz.underlying113 rfl) h ?_)
 refine hK.out _ _ (hHeld) (fun hHeld => ?_)
 clear hK K
 try simp only [Act.put, qD, qE, qF]
 refine op1 13 rfl fun K hK => ?_
 (refine xB h hleR rfl _ _ 113 rfl Tryz.underlying113 info_gv rfl (by omega) rfl hownR rfl hrl (by intro y hy; simp at hy; rcases hy with rfl | rfl | rfl | rfl | rfl | rfl <;> rfl) (by omega) (by omega) ?_; clear h; intro v w hacc; obtain ⟨M4, h, hl3, ho3⟩ := hacc)
 refine hK.out _ _ (h.le (Mm.le_trans hd6 hl3)) (fun hHeld => ?_)
 clear hK K
 try simp only [Act.put, qD, qE, qF]
 obtain ⟨A, cc, rfl⟩ := ho3.form
 refine tkB 14 ?_
 refine tkB 15 ?_
 try simp only [qA, qB, qC, Act.put, qD, qE, qF]
 have hdo : ∀ o, MD.le (M4.upd p o) := fun o => Mm.le_upd (Mm.le_trans hd6 hl3) hpN o
 refine op1 16 rfl fun K hK => ?_
 (refine yR (v := .slice A (n + 1) cc) h rfl 113 _ _ rfl rfl rfl (hl3 _ _ hpo) l8 rfl rfl (by kernel_rfl) ?_; clear h; intro w h)
 refine hK.out _ _ (h.le (hdo _)) (fun hHeld => ?_)
 clear hK K
 try simp only [Act.put, qD, qE, qF]
 refine wpAnyH_done (by kernel_rfl) ?_ _
 rw [EQ.out] at h
 have ho4 : Own MR M4 204 6 (.slice A (n + 1) cc) (n + 1) ((s.given ++ [g]).flatMap encG) := by
  rw [FA.out, EG.out]
  exact ho3
 obtain ⟨lab', hB3, hM3, hK3⟩ := GAVE.out M4 _ hl3 ho4
 clear hdo ho4 ho3 hHeld hrl hleR hownR hl3 hle2
 go_wp2
 go_end0
 exact ⟨rfl, _, lab', _, h, hB3, by rw [E.out]; exact hM3, KPA.out.trans (hK3.mono fun _ h => .inr h)⟩
end
end
section
open Go.RowKit
def MachS.idled (s : MachS) (lv sl g : Nat) (gv : Value) : MachS := MachS.gaveS { s with mem := s.mem.store (atK s.c lv 9 (sl : Nat) 0) (zA g 0 : Nat) } lv (sl : Nat) gv
section
variable {σ w : World} {K M : Mm} {lab : Nat → Nat} {p t q b lv : Nat} {s : MachS} {fs : List FrameS} {f : FrameS}
theorem idle_on (h : Has σ M w) (hT : AtTop K M lab p s t q b fs f) {sl g : Nat} (h0 : f.r 0 = (sl : Int)) (hsl : sl < 256) (hg : f.r 2 = (g : Int)) (hg32 : g < 4294967296) (hlv : zT s.c (t : Nat) = (lv : Nat)) (hlc : (lv : Int) < s.c 0) (hin : InK s.c 9 (sl : Nat) 0) (hb1 : s.mem.acc < 1000000000) (hb2 : s.mem.wr < 1000000000) (hst : StampE s.ward.gens s.ward.gclk) (hgg : 0 ≤ valE lv (sl : Nat) s.ward.gens ∧ valE lv (sl : Nat) s.ward.gens < 1000000000) (hsp : s.ward.slips < 1000000000) (hgn : s.given.length < 1000000) (hhas : s.ward.has lv (sl : Nat) = true) (hfs : fs.length < 1000000) (hgo : (g : Int) < s.c 12) :
  Calls Tryz.prog 145 #[.agg (runC p t q b)] w fun r w' => r = .returned (.tuple #[]) ∧ ∃ M' lab' gv, Has σ M' w' ∧ AtTop K M' lab' p ((s.idled lv sl g gv).top t fs (f.goto 7)) t q b fs (f.goto 7) := by
 have hw7 : decide (s.c 12 ≤ (g : Int)) = false := decide_eq_false (by omega)
 clear hgo
 obtain ⟨d0, d1, d2, d3, dx, dz⟩ := runD p t q b
 have f2 : f.row[2]? = some (.int .u64 (sl : Nat)) := by rw [← h0]; rfl
 have f4 : f.row[4]? = some (.int .u64 (g : Nat)) := by rw [← hg]; rfl
 have g4 : (f.goto 7).row[4]? = some (.int .u64 (g : Nat)) := by rw [← hg]; rfl
 have us : IntKind.i64.wrap ((sl : Nat) : Int) = ((sl : Nat) : Int) := IntWalk.i64_in _ (by omega)
 have ug : IntKind.i64.wrap ((g : Nat) : Int) = ((g : Nat) : Int) := IntWalk.i64_in _ (by omega)
 have HH : Hid (∀ w, Calls Tryz.prog 89 #[.int .i64 (g : Nat), .int .i64 0] w fun r w' => r = .returned (.int .u64 (zA g 0 : Nat)) ∧ w = w') := Lib.hid fun w => vJ g 0 (by omega) (by omega) w
 have SPA := zD (σ := σ) hT.mach hlv hlc hin
 have hfd : ∀ w : World, (Instr.field 24 (.agg #[.int .i64 (s.c 0), .int .i64 (s.c 1), .int .i64 (s.c 2), .int .i64 (s.c 3), .int .i64 (s.c 4), .int .i64 (s.c 5), .int .i64 (s.c 6), .int .i64 (s.c 7), .int .i64 (s.c 8), .int .i64 (s.c 9), .int .i64 (s.c 10), .int .i64 (s.c 11), .int .i64 (s.c 12), .int .i64 (s.c 13)]) 5).run Tryz.prog w = .ok (.int .i64 (s.c 12)) w := fun w => by kernel_rfl
 have CFQ := Lib.hid (fun (M' : Mm) (w : World) (h : Has σ M' w) (p' : Nat) (hp : M' p' = some (xK s.c)) => wR h s.c hp)
 rw [vD] at CFQ
 obtain ⟨a, ha⟩ : ∃ a, atK s.c lv 9 (sl : Nat) 0 = a := ⟨_, rfl⟩
 unfold MachS.idled
 rw [ha] at SPA ⊢
 obtain ⟨v, hv⟩ : ∃ v : Int, ((zA g 0 : Nat) : Int) = v := ⟨_, rfl⟩
 rw [hv] at HH ⊢
 have ND := Lib.hid (fun (M' : Mm) (w : World) (h : Has σ M' w) (hle : M.le M') => wW (q := q) (b := b) h (SPA.le hle))
 have DRQ := Lib.hid (fun (K' M' : Mm) (w : World) (lab' : Nat → Nat) (h : Has σ M' w) (hT' : AtTop K' M' lab' p { s with mem := s.mem.store a v } t q b fs f) => mDrop_kp h hT'.mach hT'.base (t : Nat) (sl : Nat) (lv := ((lv : Nat) : Int)) hlv hst hgg hsp hgn hhas)
 have HFS := Lib.hid hfs
 clear h0 ha hv hin SPA hg hlv hlc hst hgg hsp hgn hhas hfs
 go_enter Tryz.func145, Tryz.ntmps145
 go_upto_region 1 with (fail)
 obtain ⟨M1, hbx, hle, hb4, hn⟩ := h.box (.cells (runC p t q b) 193)
 generalize w.alloc _ = wx at hbx ⊢
 generalize w.heap.size = b4 at hb4 hn ⊢
 clear h
 try clear w
 have h := hbx
 clear hbx
 obtain ⟨w, rfl⟩ : ∃ x : World, x = wx := ⟨_, rfl⟩
 obtain ⟨lab1, hT1⟩ := hT.more1 hle hn hb4
 have hnK : K b4 = none := by
  cases e : K b4 with
  | none => rfl
  | some o => have := (hT.base _ _ e).1; rw [hn] at this; cases this
 have hKK : K.le (K.upd b4 (.cells (runC p t q b) 193)) := Mm.le_upd' hnK _
 have hbK : (K.upd b4 (.cells (runC p t q b) 193)) b4 = some (.cells (runC p t q b) 193) := Mm.upd_same _ _ _
 have hfb := hT1.obj
 have ND1 := Lib.hid (fun (w : World) (h : Has σ M1 w) => ND.out M1 w h hle)
 have ME := Lib.hid (fun (w : World) (h : Has σ M1 w) => yJ h hT1.mach)
 have SE := Lib.hid (fun (w : World) (h : Has σ M1 w) => xV h hT1.mach.mem hb1 hb2 a v)
 have hne : b4 ≠ b := fun e => by
  subst e
  rw [hb4] at hfb
  simp only [Option.some.injEq, Obj.cells.injEq] at hfb
  exact absurd hfb.2.1 (by decide)
 have hT2 := hT1.store a v
 have KL := Mm.upd_le2 hT1.base.le hT1.obj
 have KE := Mm.upd_le2 hT2.base.le hT2.obj
 have hbK2 : ((K.upd b4 (.cells (runC p t q b) 193)).upd b (.cells f.row 69)) b4 = some (.cells (runC p t q b) 193) := (Mm.upd_ne hne).trans (Mm.upd_same _ _ _)
 have hfK : ((K.upd b4 (.cells (runC p t q b) 193)).upd b (.cells f.row 69)) b = some (.cells f.row 69) := Mm.upd_same _ _ _
 have HT2 := Lib.hid hT2
 have HNE := Lib.hid hne
 have HKK := Lib.hid hKK
 have HBK := Lib.hid hbK
 clear hT hT1 hT2 hb1 hb2 hn hle hnK hKK hne hbK ND
 generalize K.upd b4 _ = K0 at HT2 KL KE hbK2 hfK HKK HBK
 have hsz : 1 < f.row.size := show 1 < 18 by omega
 have R1 := Lib.hid (xZ f 7)
 generalize runC p t q b = rc at *
 generalize hr0 : f.row = fr0 at *
 generalize hKD : K0.upd b (.cells fr0 69) = K1 at KL KE hbK2 hfK
 generalize hM2 : yA M1 s.mp s.mem a v = M2 at *
 clear hM2
 go_upto_region 3 with (first
  | (with_reducible show wpList _ _ _ (⟨_, .load 70 _, _, _, _, _⟩ :: _) _ _; refine zZ h rfl 70 _ rfl rfl hb4 d3 Tryz.underlying70 rfl ?_)
  | (with_reducible show wpList _ _ _ (⟨_, .load 42 _, _, _, _, _⟩ :: _) _ _; refine zZ h rfl 42 _ rfl rfl hfb f2 Tryz.underlying42 rfl ?_))
 clear hfb hb4
 refine wp_region_held_drew (S := Has σ (K1)) (by kernel_rfl) (h.drew.le KL) (fun hHeld => ?_)
 refine tkB 0 ?_
 refine tkB 1 ?_
 try simp only [qA, qB, qC, Act.put, qD, qE, qF]
 refine tkA 2 rfl hHeld (zU rfl 26 _ rfl rfl hbK2 d0 Tryz.underlying26 rfl) ?_
 try simp only [qA, qB, qC, Act.put, qD, qE, qF]
 refine tkB 4 ?_
 try simp only [qA, qB, qC, Act.put, qD, qE, qF]
 refine tkA 5 rfl hHeld (yZ rfl 190 _ rfl rfl hbK2 dx dz Tryz.underlying190 rfl (by kernel_rfl)) ?_
 try simp only [qA, qB, qC, Act.put, qD, qE, qF]
 refine tkB 6 ?_
 refine tkB 8 ?_
 refine tkB 9 ?_
 refine tkB 10 ?_
 refine tkB 11 ?_
 try simp only [qA, qB, qC, Act.put, qD, qE, qF]
 refine tkA 12 rfl hHeld (zU rfl 42 _ rfl rfl hfK f4 Tryz.underlying42 rfl) ?_
 try simp only [qA, qB, qC, Act.put, qD, qE, qF]
 refine tkB 13 ?_
 try simp only [qA, qB, qC, Act.put, qD, qE, qF]
 replace h := h.drew
 generalize w.drew = w1 at h hHeld ⊢
 clear w
 obtain ⟨w, rfl⟩ : ∃ q : World, q = w1 := ⟨_, rfl⟩
 refine op1 3 rfl fun K hK => ?_
 (go_simp; go_wp2_with (go_at_call 46; refine (ME.out _ h).mono ?_; clear h; rintro _ w ⟨rfl, h⟩))
 refine hK.out _ _ (h.le KL) (fun hHeld => ?_)
 clear hK K
 try simp only [Act.put, qD, qE, qF]
 refine op1 7 rfl fun K hK => ?_
 (go_simp; go_wp2_with (go_at_call 143; refine (ND1.out _ h).mono ?_; clear h; rintro _ w ⟨rfl, h⟩))
 refine hK.out _ _ (h.le KL) (fun hHeld => ?_)
 clear hK K
 try simp only [Act.put, qD, qE, qF]
 refine op1 14 rfl fun K hK => ?_
 (go_simp; go_wp2_with (go_at_call 89; refine (HH.out _).mono ?_; rintro _ w' ⟨rfl, rfl⟩))
 refine hK.out _ _ (h.le KL) (fun hHeld => ?_)
 clear hK K
 try simp only [Act.put, qD, qE, qF]
 refine op1 15 rfl fun K hK => ?_
 (go_simp; go_wp2_with (go_at_call 97; refine (SE.out _ h).mono ?_; clear h; rintro _ w ⟨rfl, h⟩))
 refine hK.out _ _ (h.le KE) (fun hHeld => ?_)
 clear hK K
 try simp only [Act.put, qD, qE, qF]
 refine wpAnyH_done (by kernel_rfl) ?_ _
 clear hHeld ME SE HH ND1 KL
 have hb4' := KE _ _ hbK2
 have DR := Lib.hid (fun (w : World) (h : Has σ M2 w) => DRQ.out K0 M2 w _ h HT2.out)
 clear KE hbK2 hfK hKD DRQ
 go_upto_region 5 with (first
  | (with_reducible show wpList _ _ _ (⟨_, .load 26 _, _, _, _, _⟩ :: _) _ _; refine zZ h rfl 26 _ rfl rfl hb4' d0 Tryz.underlying26 rfl ?_)
  | (with_reducible show wpList _ _ _ (⟨_, .load 3 _, _, _, _, _⟩ :: _) _ _; refine zZ h rfl 3 _ rfl rfl hb4' d1 Tryz.underlying3 rfl ?_)
  | ((go_at_call 147; refine (DR.out _ h).mono ?_; clear h; rintro _ w ⟨rfl, M3, lab3, gv, h, hB3, hM3, hK3⟩)))
 have hT3 := HT2.out.keep hK3 (fun k hk e => by have h1 := hk.1; rcases e with e | e | e <;> omega) hM3 hB3 rfl rfl
 obtain ⟨hfb3, hT4⟩ := hT3.frame (f.goto 7)
 rw [hr0] at hfb3
 have HT4 := Lib.hid (hT4.less HKK.out)
 have PL := Lib.hid (fun (w : World) (h : Has σ (M3.upd b (.cells (f.goto 7).row 69)) w) => wU h hT4.mach)
 have CF := Lib.hid (fun (w : World) (h : Has σ (M3.upd b (.cells (f.goto 7).row 69)) w) => CFQ.out _ w h _ hT4.mach.plan)
 have BK0 := Lib.hid (fun (w : World) (h : Has σ (M3.upd b (.cells (f.goto 7).row 69)) w) => qV h hT4 HFS.out)
 have KP := Mm.upd_le2 hT4.base.le hT4.obj
 have hb5 := hT4.base.le _ _ HBK.out
 have hbK5 : (K0.upd b (.cells (f.goto 7).row 69)) b4 = some (.cells rc 193) := (Mm.upd_ne HNE.out).trans HBK.out
 have hfK5 : (K0.upd b (.cells (f.goto 7).row 69)) b = some (.cells (f.goto 7).row 69) := Mm.upd_same _ _ _
 clear hT3 hT4 hK3 hM3 hB3 hb4' HT2 DR CFQ hr0
 generalize (f.goto 7).row = fr1 at *
 go_upto_region 6 with (first
  | (with_reducible show wpList _ _ _ (⟨_, .store 3 _ _, _, _, _, _⟩ :: _) _ _; refine zV h rfl 3 _ _ rfl rfl rfl hfb3 hsz rfl (by kernel_rfl) ?_; clear h; intro w h))
 have h9 : Has σ (M3.upd b (.cells (fr0.setIfInBounds 1 (.int .i64 7)) 69)) w := h
 rw [R1.out] at h9
 clear h hfb3 hsz R1
 have h := h9
 clear h9
 generalize M3.upd b (.cells fr1 69) = M4 at *
 generalize K0.upd b (.cells fr1 69) = K5 at *
 refine wp_region_held_drew (S := Has σ (K5)) (by kernel_rfl) (h.drew.le KP) (fun hHeld => ?_)
 refine tkB 0 ?_
 refine tkB 1 ?_
 refine tkB 2 ?_
 refine tkB 3 ?_
 try simp only [qA, qB, qC, Act.put, qD, qE, qF]
 refine tkA 4 rfl hHeld (zU rfl 42 _ rfl rfl hfK5 g4 Tryz.underlying42 rfl) ?_
 try simp only [qA, qB, qC, Act.put, qD, qE, qF]
 refine tkB 5 ?_
 refine tkB 6 ?_
 refine tkB 7 ?_
 try simp only [qA, qB, qC, Act.put, qD, qE, qF]
 refine tkA 8 rfl hHeld (zU rfl 26 _ rfl rfl hbK5 d0 Tryz.underlying26 rfl) ?_
 try simp only [qA, qB, qC, Act.put, qD, qE, qF]
 replace h := h.drew
 generalize w.drew = w1 at h hHeld ⊢
 clear w
 obtain ⟨w, rfl⟩ : ∃ q : World, q = w1 := ⟨_, rfl⟩
 refine op1 9 rfl fun K hK => ?_
 (go_simp; go_wp2_with (go_at_call 57; refine (PL.out _ h).mono ?_; clear h; rintro _ w ⟨rfl, h⟩))
 refine hK.out _ _ (h.le KP) (fun hHeld => ?_)
 clear hK K
 try simp only [Act.put, qD, qE, qF]
 refine op1 10 rfl fun K hK => ?_
 (go_simp; go_wp2_with (go_at_call 58; refine (CF.out _ h).mono ?_; clear h; rintro _ w ⟨rfl, h⟩))
 refine hK.out _ _ (h.le KP) (fun hHeld => ?_)
 clear hK K
 try simp only [Act.put, qD, qE, qF]
 refine tkB 11 ?_
 refine tkB 12 ?_
 try simp only [qA, qB, qC, Act.put, qD, qE, qF]
 refine wpAnyH_done (by kernel_rfl) ?_ _
 clear hHeld PL CF hfd
 go_wp2
 go_end0
 exact ⟨rfl, M4, lab3, gv, h, HT4.out⟩
theorem idle_end (h : Has σ M w) (hT : AtTop K M lab p s t q b fs f) {sl g : Nat} (h0 : f.r 0 = (sl : Int)) (hsl : sl < 256) (hg : f.r 2 = (g : Int)) (hg32 : g < 4294967296) (hlv : zT s.c (t : Nat) = (lv : Nat)) (hlc : (lv : Int) < s.c 0) (hin : InK s.c 9 (sl : Nat) 0) (hb1 : s.mem.acc < 1000000000) (hb2 : s.mem.wr < 1000000000) (hst : StampE s.ward.gens s.ward.gclk) (hgg : 0 ≤ valE lv (sl : Nat) s.ward.gens ∧ valE lv (sl : Nat) s.ward.gens < 1000000000) (hsp : s.ward.slips < 1000000000) (hgn : s.given.length < 1000000) (hhas : s.ward.has lv (sl : Nat) = true) (hfs : fs.length < 1000000) (hgo : s.c 12 ≤ (g : Int)) :
  Calls Tryz.prog 145 #[.agg (runC p t q b)] w fun r w' => r = .returned (.tuple #[]) ∧ ∃ M' lab' gv, Has σ M' w' ∧ Mach M' lab' p (MachS.backed ((s.idled lv sl g gv).top t fs (f.goto 7)) t []) ∧ Base K M' lab' := by
 have hw7 : decide (s.c 12 ≤ (g : Int)) = true := decide_eq_true (by omega)
 clear hgo
 obtain ⟨d0, d1, d2, d3, dx, dz⟩ := runD p t q b
 have f2 : f.row[2]? = some (.int .u64 (sl : Nat)) := by rw [← h0]; rfl
 have f4 : f.row[4]? = some (.int .u64 (g : Nat)) := by rw [← hg]; rfl
 have g4 : (f.goto 7).row[4]? = some (.int .u64 (g : Nat)) := by rw [← hg]; rfl
 have us : IntKind.i64.wrap ((sl : Nat) : Int) = ((sl : Nat) : Int) := IntWalk.i64_in _ (by omega)
 have ug : IntKind.i64.wrap ((g : Nat) : Int) = ((g : Nat) : Int) := IntWalk.i64_in _ (by omega)
 have HH : Hid (∀ w, Calls Tryz.prog 89 #[.int .i64 (g : Nat), .int .i64 0] w fun r w' => r = .returned (.int .u64 (zA g 0 : Nat)) ∧ w = w') := Lib.hid fun w => vJ g 0 (by omega) (by omega) w
 have SPA := zD (σ := σ) hT.mach hlv hlc hin
 have hfd : ∀ w : World, (Instr.field 24 (.agg #[.int .i64 (s.c 0), .int .i64 (s.c 1), .int .i64 (s.c 2), .int .i64 (s.c 3), .int .i64 (s.c 4), .int .i64 (s.c 5), .int .i64 (s.c 6), .int .i64 (s.c 7), .int .i64 (s.c 8), .int .i64 (s.c 9), .int .i64 (s.c 10), .int .i64 (s.c 11), .int .i64 (s.c 12), .int .i64 (s.c 13)]) 5).run Tryz.prog w = .ok (.int .i64 (s.c 12)) w := fun w => by kernel_rfl
 have CFQ := Lib.hid (fun (M' : Mm) (w : World) (h : Has σ M' w) (p' : Nat) (hp : M' p' = some (xK s.c)) => wR h s.c hp)
 rw [vD] at CFQ
 obtain ⟨a, ha⟩ : ∃ a, atK s.c lv 9 (sl : Nat) 0 = a := ⟨_, rfl⟩
 unfold MachS.idled
 rw [ha] at SPA ⊢
 obtain ⟨v, hv⟩ : ∃ v : Int, ((zA g 0 : Nat) : Int) = v := ⟨_, rfl⟩
 rw [hv] at HH ⊢
 have ND := Lib.hid (fun (M' : Mm) (w : World) (h : Has σ M' w) (hle : M.le M') => wW (q := q) (b := b) h (SPA.le hle))
 have DRQ := Lib.hid (fun (K' M' : Mm) (w : World) (lab' : Nat → Nat) (h : Has σ M' w) (hT' : AtTop K' M' lab' p { s with mem := s.mem.store a v } t q b fs f) => mDrop_kp h hT'.mach hT'.base (t : Nat) (sl : Nat) (lv := ((lv : Nat) : Int)) hlv hst hgg hsp hgn hhas)
 have HFS := Lib.hid hfs
 clear h0 ha hv hin SPA hg hlv hlc hst hgg hsp hgn hhas hfs
 go_enter Tryz.func145, Tryz.ntmps145
 go_upto_region 1 with (fail)
 obtain ⟨M1, hbx, hle, hb4, hn⟩ := h.box (.cells (runC p t q b) 193)
 generalize w.alloc _ = wx at hbx ⊢
 generalize w.heap.size = b4 at hb4 hn ⊢
 clear h
 try clear w
 have h := hbx
 clear hbx
 obtain ⟨w, rfl⟩ : ∃ x : World, x = wx := ⟨_, rfl⟩
 obtain ⟨lab1, hT1⟩ := hT.more1 hle hn hb4
 have hnK : K b4 = none := by
  cases e : K b4 with
  | none => rfl
  | some o => have := (hT.base _ _ e).1; rw [hn] at this; cases this
 have hKK : K.le (K.upd b4 (.cells (runC p t q b) 193)) := Mm.le_upd' hnK _
 have hbK : (K.upd b4 (.cells (runC p t q b) 193)) b4 = some (.cells (runC p t q b) 193) := Mm.upd_same _ _ _
 have hfb := hT1.obj
 have ND1 := Lib.hid (fun (w : World) (h : Has σ M1 w) => ND.out M1 w h hle)
 have ME := Lib.hid (fun (w : World) (h : Has σ M1 w) => yJ h hT1.mach)
 have SE := Lib.hid (fun (w : World) (h : Has σ M1 w) => xV h hT1.mach.mem hb1 hb2 a v)
 have hne : b4 ≠ b := fun e => by
  subst e
  rw [hb4] at hfb
  simp only [Option.some.injEq, Obj.cells.injEq] at hfb
  exact absurd hfb.2.1 (by decide)
 have hT2 := hT1.store a v
 have KL := Mm.upd_le2 hT1.base.le hT1.obj
 have KE := Mm.upd_le2 hT2.base.le hT2.obj
 have hbK2 : ((K.upd b4 (.cells (runC p t q b) 193)).upd b (.cells f.row 69)) b4 = some (.cells (runC p t q b) 193) := (Mm.upd_ne hne).trans (Mm.upd_same _ _ _)
 have hfK : ((K.upd b4 (.cells (runC p t q b) 193)).upd b (.cells f.row 69)) b = some (.cells f.row 69) := Mm.upd_same _ _ _
 have HT2 := Lib.hid hT2
 have HNE := Lib.hid hne
 have HKK := Lib.hid hKK
 have HBK := Lib.hid hbK
 clear hT hT1 hT2 hb1 hb2 hn hle hnK hKK hne hbK ND
 generalize K.upd b4 _ = K0 at HT2 KL KE hbK2 hfK HKK HBK
 have hsz : 1 < f.row.size := show 1 < 18 by omega
 have R1 := Lib.hid (xZ f 7)
 generalize runC p t q b = rc at *
 generalize hr0 : f.row = fr0 at *
 generalize hKD : K0.upd b (.cells fr0 69) = K1 at KL KE hbK2 hfK
 generalize hM2 : yA M1 s.mp s.mem a v = M2 at *
 clear hM2
 go_upto_region 3 with (first
  | (with_reducible show wpList _ _ _ (⟨_, .load 70 _, _, _, _, _⟩ :: _) _ _; refine zZ h rfl 70 _ rfl rfl hb4 d3 Tryz.underlying70 rfl ?_)
  | (with_reducible show wpList _ _ _ (⟨_, .load 42 _, _, _, _, _⟩ :: _) _ _; refine zZ h rfl 42 _ rfl rfl hfb f2 Tryz.underlying42 rfl ?_))
 clear hfb hb4
 refine wp_region_held_drew (S := Has σ (K1)) (by kernel_rfl) (h.drew.le KL) (fun hHeld => ?_)
 refine tkB 0 ?_
 refine tkB 1 ?_
 try simp only [qA, qB, qC, Act.put, qD, qE, qF]
 refine tkA 2 rfl hHeld (zU rfl 26 _ rfl rfl hbK2 d0 Tryz.underlying26 rfl) ?_
 try simp only [qA, qB, qC, Act.put, qD, qE, qF]
 refine tkB 4 ?_
 try simp only [qA, qB, qC, Act.put, qD, qE, qF]
 refine tkA 5 rfl hHeld (yZ rfl 190 _ rfl rfl hbK2 dx dz Tryz.underlying190 rfl (by kernel_rfl)) ?_
 try simp only [qA, qB, qC, Act.put, qD, qE, qF]
 refine tkB 6 ?_
 refine tkB 8 ?_
 refine tkB 9 ?_
 refine tkB 10 ?_
 refine tkB 11 ?_
 try simp only [qA, qB, qC, Act.put, qD, qE, qF]
 refine tkA 12 rfl hHeld (zU rfl 42 _ rfl rfl hfK f4 Tryz.underlying42 rfl) ?_
 try simp only [qA, qB, qC, Act.put, qD, qE, qF]
 refine tkB 13 ?_
 try simp only [qA, qB, qC, Act.put, qD, qE, qF]
 replace h := h.drew
 generalize w.drew = w1 at h hHeld ⊢
 clear w
 obtain ⟨w, rfl⟩ : ∃ q : World, q = w1 := ⟨_, rfl⟩
 refine op1 3 rfl fun K hK => ?_
 (go_simp; go_wp2_with (go_at_call 46; refine (ME.out _ h).mono ?_; clear h; rintro _ w ⟨rfl, h⟩))
 refine hK.out _ _ (h.le KL) (fun hHeld => ?_)
 clear hK K
 try simp only [Act.put, qD, qE, qF]
 refine op1 7 rfl fun K hK => ?_
 (go_simp; go_wp2_with (go_at_call 143; refine (ND1.out _ h).mono ?_; clear h; rintro _ w ⟨rfl, h⟩))
 refine hK.out _ _ (h.le KL) (fun hHeld => ?_)
 clear hK K
 try simp only [Act.put, qD, qE, qF]
 refine op1 14 rfl fun K hK => ?_
 (go_simp; go_wp2_with (go_at_call 89; refine (HH.out _).mono ?_; rintro _ w' ⟨rfl, rfl⟩))
 refine hK.out _ _ (h.le KL) (fun hHeld => ?_)
 clear hK K
 try simp only [Act.put, qD, qE, qF]
 refine op1 15 rfl fun K hK => ?_
 (go_simp; go_wp2_with (go_at_call 97; refine (SE.out _ h).mono ?_; clear h; rintro _ w ⟨rfl, h⟩))
 refine hK.out _ _ (h.le KE) (fun hHeld => ?_)
 clear hK K
 try simp only [Act.put, qD, qE, qF]
 refine wpAnyH_done (by kernel_rfl) ?_ _
 clear hHeld ME SE HH ND1 KL
 have hb4' := KE _ _ hbK2
 have DR := Lib.hid (fun (w : World) (h : Has σ M2 w) => DRQ.out K0 M2 w _ h HT2.out)
 clear KE hbK2 hfK hKD DRQ
 go_upto_region 5 with (first
  | (with_reducible show wpList _ _ _ (⟨_, .load 26 _, _, _, _, _⟩ :: _) _ _; refine zZ h rfl 26 _ rfl rfl hb4' d0 Tryz.underlying26 rfl ?_)
  | (with_reducible show wpList _ _ _ (⟨_, .load 3 _, _, _, _, _⟩ :: _) _ _; refine zZ h rfl 3 _ rfl rfl hb4' d1 Tryz.underlying3 rfl ?_)
  | ((go_at_call 147; refine (DR.out _ h).mono ?_; clear h; rintro _ w ⟨rfl, M3, lab3, gv, h, hB3, hM3, hK3⟩)))
 have hT3 := HT2.out.keep hK3 (fun k hk e => by have h1 := hk.1; rcases e with e | e | e <;> omega) hM3 hB3 rfl rfl
 obtain ⟨hfb3, hT4⟩ := hT3.frame (f.goto 7)
 rw [hr0] at hfb3
 have HT4 := Lib.hid (hT4.less HKK.out)
 have PL := Lib.hid (fun (w : World) (h : Has σ (M3.upd b (.cells (f.goto 7).row 69)) w) => wU h hT4.mach)
 have CF := Lib.hid (fun (w : World) (h : Has σ (M3.upd b (.cells (f.goto 7).row 69)) w) => CFQ.out _ w h _ hT4.mach.plan)
 have BK0 := Lib.hid (fun (w : World) (h : Has σ (M3.upd b (.cells (f.goto 7).row 69)) w) => qV h hT4 HFS.out)
 have KP := Mm.upd_le2 hT4.base.le hT4.obj
 have hb5 := hT4.base.le _ _ HBK.out
 have hbK5 : (K0.upd b (.cells (f.goto 7).row 69)) b4 = some (.cells rc 193) := (Mm.upd_ne HNE.out).trans HBK.out
 have hfK5 : (K0.upd b (.cells (f.goto 7).row 69)) b = some (.cells (f.goto 7).row 69) := Mm.upd_same _ _ _
 clear hT3 hT4 hK3 hM3 hB3 hb4' HT2 DR CFQ hr0
 generalize (f.goto 7).row = fr1 at *
 go_upto_region 6 with (first
  | (with_reducible show wpList _ _ _ (⟨_, .store 3 _ _, _, _, _, _⟩ :: _) _ _; refine zV h rfl 3 _ _ rfl rfl rfl hfb3 hsz rfl (by kernel_rfl) ?_; clear h; intro w h))
 have h9 : Has σ (M3.upd b (.cells (fr0.setIfInBounds 1 (.int .i64 7)) 69)) w := h
 rw [R1.out] at h9
 clear h hfb3 hsz R1
 have h := h9
 clear h9
 generalize M3.upd b (.cells fr1 69) = M4 at *
 generalize K0.upd b (.cells fr1 69) = K5 at *
 refine wp_region_held_drew (S := Has σ (K5)) (by kernel_rfl) (h.drew.le KP) (fun hHeld => ?_)
 refine tkB 0 ?_
 refine tkB 1 ?_
 refine tkB 2 ?_
 refine tkB 3 ?_
 try simp only [qA, qB, qC, Act.put, qD, qE, qF]
 refine tkA 4 rfl hHeld (zU rfl 42 _ rfl rfl hfK5 g4 Tryz.underlying42 rfl) ?_
 try simp only [qA, qB, qC, Act.put, qD, qE, qF]
 refine tkB 5 ?_
 refine tkB 6 ?_
 refine tkB 7 ?_
 try simp only [qA, qB, qC, Act.put, qD, qE, qF]
 refine tkA 8 rfl hHeld (zU rfl 26 _ rfl rfl hbK5 d0 Tryz.underlying26 rfl) ?_
 try simp only [qA, qB, qC, Act.put, qD, qE, qF]
 replace h := h.drew
 generalize w.drew = w1 at h hHeld ⊢
 clear w
 obtain ⟨w, rfl⟩ : ∃ q : World, q = w1 := ⟨_, rfl⟩
 refine op1 9 rfl fun K hK => ?_
 (go_simp; go_wp2_with (go_at_call 57; refine (PL.out _ h).mono ?_; clear h; rintro _ w ⟨rfl, h⟩))
 refine hK.out _ _ (h.le KP) (fun hHeld => ?_)
 clear hK K
 try simp only [Act.put, qD, qE, qF]
 refine op1 10 rfl fun K hK => ?_
 (go_simp; go_wp2_with (go_at_call 58; refine (CF.out _ h).mono ?_; clear h; rintro _ w ⟨rfl, h⟩))
 refine hK.out _ _ (h.le KP) (fun hHeld => ?_)
 clear hK K
 try simp only [Act.put, qD, qE, qF]
 refine tkB 11 ?_
 refine tkB 12 ?_
 try simp only [qA, qB, qC, Act.put, qD, qE, qF]
 refine wpAnyH_done (by kernel_rfl) ?_ _
 clear hHeld PL CF hfd
 go_wp2_with (first
  | (with_reducible show wpList _ _ _ (⟨_, .load 38 _, _, _, _, _⟩ :: _) _ _; refine zZ h rfl 38 _ rfl rfl hb5 d2 Tryz.underlying38 rfl ?_)
  | ((go_at_call 93; refine (BK0.out _ h).mono ?_; clear h; rintro _ w ⟨rfl, M5, lab5, h, hM5, hB5⟩)))
 go_end0
 exact ⟨rfl, M5, lab5, gv, h, hM5, fun c o hc => hB5 c o (HKK.out _ _ hc)⟩
end
end
section
open Go.RowKit
section
variable {σ w : World} {K M : Mm} {lab : Nat → Nat} {p t q b lv : Nat} {s : MachS} {fs : List FrameS} {f : FrameS}
theorem give_6on (h : Has σ M w) (hT : AtTop K M lab p s t q b fs f) (hat : f.at_ = 6) {sl g : Nat} (h0 : f.r 0 = (sl : Int)) (hsl : sl < 256) (hg : f.r 2 = (g : Int)) (hg32 : g < 4294967296) (hlv : zT s.c (t : Nat) = (lv : Nat)) (hlc : (lv : Int) < s.c 0) (hin : InK s.c 9 (sl : Nat) 0) (hb1 : s.mem.acc < 1000000000) (hb2 : s.mem.wr < 1000000000) (hst : StampE s.ward.gens s.ward.gclk) (hgg : 0 ≤ valE lv (sl : Nat) s.ward.gens ∧ valE lv (sl : Nat) s.ward.gens < 1000000000) (hsp : s.ward.slips < 1000000000) (hgn : s.given.length < 1000000) (hhas : s.ward.has lv (sl : Nat) = true) (hfs : fs.length < 1000000) (hgo : (g : Int) < s.c 12) :
  Calls Tryz.prog 133 #[.agg (runC p t q b)] w fun r w' => r = .returned (.tuple #[]) ∧ ∃ M' lab' gv, Has σ M' w' ∧ AtTop K M' lab' p ((s.idled lv sl g gv).top t fs (f.goto 7)) t q b fs (f.goto 7) := by
 have ID := Lib.hid (fun (K' M' : Mm) (w : World) (lab' : Nat → Nat) (h : Has σ M' w) (hT' : AtTop K' M' lab' p s t q b fs f) => idle_on h hT' h0 hsl hg hg32 hlv hlc hin hb1 hb2 hst hgg hsp hgn hhas hfs hgo)
 clear hg hgo hst hgg hsp hgn hhas hlv hlc hin hb1 hb2 hg32 hfs
 obtain ⟨d0, d1, d2, d3, dx, dz⟩ := runD p t q b
 have f1 : f.row[1]? = some (.int .i64 6) := by rw [← hat]; rfl
 have f2 : f.row[2]? = some (.int .u64 (sl : Nat)) := by rw [← h0]; rfl
 have us : IntKind.i64.wrap ((sl : Nat) : Int) = ((sl : Nat) : Int) := IntWalk.i64_in _ (by omega)
 clear hat
 go_enter Tryz.func133, Tryz.ntmps133
 go_upto_region 1 with (fail)
 obtain ⟨M1, hbx, hle, hb4, hn⟩ := h.box (.cells (runC p t q b) 193)
 generalize w.alloc _ = wx at hbx ⊢
 generalize w.heap.size = b4 at hb4 hn ⊢
 clear h
 try clear w
 have h := hbx
 clear hbx
 obtain ⟨w, rfl⟩ : ∃ x : World, x = wx := ⟨_, rfl⟩
 obtain ⟨lab1, hT1⟩ := hT.more1 hle hn hb4
 have hnK : K b4 = none := by
  cases e : K b4 with
  | none => rfl
  | some o => have := (hT.base _ _ e).1; rw [hn] at this; cases this
 have hKK : K.le (K.upd b4 (.cells (runC p t q b) 193)) := Mm.le_upd' hnK _
 have hbK : (K.upd b4 (.cells (runC p t q b) 193)) b4 = some (.cells (runC p t q b) 193) := Mm.upd_same _ _ _
 have hfb := hT1.obj
 have ID1 := Lib.hid (fun (w : World) (h : Has σ M1 w) => ID.out _ M1 w _ h hT1)
 have HK := Lib.hid hKK
 clear hT hT1 hn hnK hKK h0 ID
 generalize runC p t q b = rc at *
 generalize f.row = fr0 at *
 go_wp2_with (first
  | (with_reducible show wpList _ _ _ (⟨_, .load 70 _, _, _, _, _⟩ :: _) _ _; refine zZ h rfl 70 _ rfl rfl hb4 d3 Tryz.underlying70 rfl ?_)
  | (with_reducible show wpList _ _ _ (⟨_, .load 42 _, _, _, _, _⟩ :: _) _ _; refine zZ h rfl 42 _ rfl rfl hfb f2 Tryz.underlying42 rfl ?_)
  | (with_reducible show wpList _ _ _ (⟨_, .load 3 _, _, _, _, _⟩ :: _) _ _; refine zZ h rfl 3 _ rfl rfl hfb f1 Tryz.underlying3 rfl ?_)
  | ((with_reducible show wpList _ _ _ (⟨_, .load 193 _, _, _, _, _⟩ :: _) _ _); refine zR h rfl 193 _ rfl rfl hb4 dx dz Tryz.underlying193 rfl (by kernel_rfl) ?_; try simp only [Act.put, qD, qE, qF])
  | (go_at_call 145; refine (ID1.out _ h).mono ?_; clear h; rintro _ w ⟨rfl, M2, lab2, gv, h, hT2⟩))
 go_end0
 exact ⟨rfl, M2, lab2, gv, h, hT2.less HK.out⟩
theorem give_6end (h : Has σ M w) (hT : AtTop K M lab p s t q b fs f) (hat : f.at_ = 6) {sl g : Nat} (h0 : f.r 0 = (sl : Int)) (hsl : sl < 256) (hg : f.r 2 = (g : Int)) (hg32 : g < 4294967296) (hlv : zT s.c (t : Nat) = (lv : Nat)) (hlc : (lv : Int) < s.c 0) (hin : InK s.c 9 (sl : Nat) 0) (hb1 : s.mem.acc < 1000000000) (hb2 : s.mem.wr < 1000000000) (hst : StampE s.ward.gens s.ward.gclk) (hgg : 0 ≤ valE lv (sl : Nat) s.ward.gens ∧ valE lv (sl : Nat) s.ward.gens < 1000000000) (hsp : s.ward.slips < 1000000000) (hgn : s.given.length < 1000000) (hhas : s.ward.has lv (sl : Nat) = true) (hfs : fs.length < 1000000) (hgo : s.c 12 ≤ (g : Int)) :
  Calls Tryz.prog 133 #[.agg (runC p t q b)] w fun r w' => r = .returned (.tuple #[]) ∧ ∃ M' lab' gv, Has σ M' w' ∧ Mach M' lab' p (MachS.backed ((s.idled lv sl g gv).top t fs (f.goto 7)) t []) ∧ Base K M' lab' := by
 have ID := Lib.hid (fun (K' M' : Mm) (w : World) (lab' : Nat → Nat) (h : Has σ M' w) (hT' : AtTop K' M' lab' p s t q b fs f) => idle_end h hT' h0 hsl hg hg32 hlv hlc hin hb1 hb2 hst hgg hsp hgn hhas hfs hgo)
 clear hg hgo hst hgg hsp hgn hhas hlv hlc hin hb1 hb2 hg32 hfs
 obtain ⟨d0, d1, d2, d3, dx, dz⟩ := runD p t q b
 have f1 : f.row[1]? = some (.int .i64 6) := by rw [← hat]; rfl
 have f2 : f.row[2]? = some (.int .u64 (sl : Nat)) := by rw [← h0]; rfl
 have us : IntKind.i64.wrap ((sl : Nat) : Int) = ((sl : Nat) : Int) := IntWalk.i64_in _ (by omega)
 clear hat
 go_enter Tryz.func133, Tryz.ntmps133
 go_upto_region 1 with (fail)
 obtain ⟨M1, hbx, hle, hb4, hn⟩ := h.box (.cells (runC p t q b) 193)
 generalize w.alloc _ = wx at hbx ⊢
 generalize w.heap.size = b4 at hb4 hn ⊢
 clear h
 try clear w
 have h := hbx
 clear hbx
 obtain ⟨w, rfl⟩ : ∃ x : World, x = wx := ⟨_, rfl⟩
 obtain ⟨lab1, hT1⟩ := hT.more1 hle hn hb4
 have hnK : K b4 = none := by
  cases e : K b4 with
  | none => rfl
  | some o => have := (hT.base _ _ e).1; rw [hn] at this; cases this
 have hKK : K.le (K.upd b4 (.cells (runC p t q b) 193)) := Mm.le_upd' hnK _
 have hbK : (K.upd b4 (.cells (runC p t q b) 193)) b4 = some (.cells (runC p t q b) 193) := Mm.upd_same _ _ _
 have hfb := hT1.obj
 have ID1 := Lib.hid (fun (w : World) (h : Has σ M1 w) => ID.out _ M1 w _ h hT1)
 have HK := Lib.hid hKK
 clear hT hT1 hn hnK hKK h0 ID
 generalize runC p t q b = rc at *
 generalize f.row = fr0 at *
 go_wp2_with (first
  | (with_reducible show wpList _ _ _ (⟨_, .load 70 _, _, _, _, _⟩ :: _) _ _; refine zZ h rfl 70 _ rfl rfl hb4 d3 Tryz.underlying70 rfl ?_)
  | (with_reducible show wpList _ _ _ (⟨_, .load 42 _, _, _, _, _⟩ :: _) _ _; refine zZ h rfl 42 _ rfl rfl hfb f2 Tryz.underlying42 rfl ?_)
  | (with_reducible show wpList _ _ _ (⟨_, .load 3 _, _, _, _, _⟩ :: _) _ _; refine zZ h rfl 3 _ rfl rfl hfb f1 Tryz.underlying3 rfl ?_)
  | ((with_reducible show wpList _ _ _ (⟨_, .load 193 _, _, _, _, _⟩ :: _) _ _); refine zR h rfl 193 _ rfl rfl hb4 dx dz Tryz.underlying193 rfl (by kernel_rfl) ?_; try simp only [Act.put, qD, qE, qF])
  | (go_at_call 145; refine (ID1.out _ h).mono ?_; clear h; rintro _ w ⟨rfl, M2, lab2, gv, h, hM2, hB2⟩))
 go_end0
 exact ⟨rfl, M2, lab2, gv, h, hM2, fun c o hc => hB2 c o (HK.out _ _ hc)⟩
theorem sN (h : Has σ M w) (hT : AtTop K M lab p s t q b fs f) (hfn : f.fn = 1) (hfs : fs.length < 1000000) {R : MachS → Prop}
  (hstep : ∀ (K1 M1 : Mm) (lab1 : Nat → Nat) (w1 : World), Has σ M1 w1 → AtTop K1 M1 lab1 p s t q b fs f → Calls Tryz.prog 132 #[.agg (runC p t q b)] w1 fun r w' => r = .returned (.tuple #[]) ∧ ∃ M' lab' s', Has σ M' w' ∧ Mach M' lab' p s' ∧ Base K1 M' lab' ∧ R s') :
  Calls Tryz.prog 105 #[.pointer (some ⟨p, 0, none⟩), .int .i64 (t : Nat)] w fun r w' => r = .returned (.tuple #[]) ∧ ∃ M' lab' s', Has σ M' w' ∧ Base K M' lab' ∧ Mach M' lab' p s' ∧ R s' := by
 obtain ⟨fv, hv, fbs, hTh⟩ := hT.thr
 have hlen : fbs.length = fs.length := by
  have h1 := hTh.flen
  rw [hT.fr] at h1
  simpa using h1
 have TH := Lib.hid (fun (w : World) (h : Has σ M w) => yT h hT.mach hT.tp)
 have TP := Lib.hid (fun (w : World) (h : Has σ M w) => xI h hTh (by omega))
 have hfb := hT.obj
 have f0 : f.row[0]? = some (.int .i64 f.fn) := rfl
 have HT := Lib.hid hT
 have HS := Lib.hid hstep
 rw [hfn] at f0
 clear hT hTh hlen hfs hfn hstep
 generalize f.row = fr0 at *
 go_enter Tryz.func105, Tryz.ntmps105
 go_upto_region 3 with (first
  | (go_at_call 13; refine (TH.out _ h).mono ?_; clear h; rintro _ w ⟨rfl, h⟩)
  | (go_at_call 32; refine (TP.out _ h).mono ?_; clear h; rintro _ w ⟨rfl, h⟩)
  | ((with_reducible show wpList _ _ _ (⟨_, .alloc 190, _, _, _, _⟩ :: _) _ _); refine zK h rfl 190 rfl _ zrun ?_; clear h; intro bx w h hnx; try simp only [Act.put, qD, qE, qF])
  | ((with_reducible show wpList _ _ _ (⟨_, .store 190 _ _, _, _, _, _⟩ :: _) _ _); refine zP (cells := runC p t q b) h rfl 190 _ _ rfl rfl rfl (Mm.upd_same _ _ _) rfl rfl rfl (by kernel_rfl) rfl ?_; clear h; intro w h))
 rw [Mm.upd_upd] at h
 have hfb1 := Mm.upd_of (o := .cells (runC p t q b) 190) hnx hfb
 have hle := Mm.le_upd' hnx (.cells (runC p t q b) 190)
 have hbx := Mm.upd_same M bx (.cells (runC p t q b) 190)
 generalize M.upd bx _ = M1 at h hfb1 hle hbx
 obtain ⟨lab1, hT1⟩ := HT.out.more1 hle hnx hbx
 have hnK : K bx = none := by
  cases e : K bx with
  | none => rfl
  | some o => have := (HT.out.base _ _ e).1; rw [hnx] at this; cases this
 have HKK := Lib.hid (Mm.le_upd' hnK (.cells (runC p t q b) 190))
 have ST := Lib.hid (fun (w : World) (h : Has σ M1 w) => HS.out _ M1 lab1 w h hT1)
 clear hT1 hnK hnx hle TH TP
 unfold runC at ST hbx
 have dx : (#[.pointer (some ⟨p, 0, none⟩), .int .i64 (t : Nat), .pointer (some ⟨q, 0, none⟩), .pointer (some ⟨b, 0, none⟩)] : Array Value).extract 0 (0 + 4) = #[.pointer (some ⟨p, 0, none⟩), .int .i64 (t : Nat), .pointer (some ⟨q, 0, none⟩), .pointer (some ⟨b, 0, none⟩)] := rfl
 go_wp2_with (first
  | (with_reducible show wpList _ _ _ (⟨_, .load 3 _, _, _, _, _⟩ :: _) _ _; refine zZ h rfl 3 _ rfl rfl hfb1 f0 Tryz.underlying3 rfl ?_)
  | ((with_reducible show wpList _ _ _ (⟨_, .load 190 _, _, _, _, _⟩ :: _) _ _); refine zR h rfl 190 _ rfl rfl hbx dx rfl Tryz.underlying190 rfl (by kernel_rfl) ?_; try simp only [Act.put, qD, qE, qF])
  | (go_at_call 132; refine (ST.out _ h).mono ?_; clear h; rintro _ w ⟨rfl, M2, lab2, s2, h, hM2, hB2, hR2⟩))
 go_end0
 exact ⟨rfl, M2, lab2, s2, h, fun c o hc => hB2 c o (HKK.out _ _ hc), hM2, hR2⟩
theorem wT (h : Has σ M w) (hT : AtTop K M lab p s t q b fs f) (hfn : f.fn = 2) (hfs : fs.length < 1000000) {R : MachS → Prop}
  (hstep : ∀ (K1 M1 : Mm) (lab1 : Nat → Nat) (w1 : World), Has σ M1 w1 → AtTop K1 M1 lab1 p s t q b fs f → Calls Tryz.prog 133 #[.agg (runC p t q b)] w1 fun r w' => r = .returned (.tuple #[]) ∧ ∃ M' lab' s', Has σ M' w' ∧ Mach M' lab' p s' ∧ Base K1 M' lab' ∧ R s') :
  Calls Tryz.prog 105 #[.pointer (some ⟨p, 0, none⟩), .int .i64 (t : Nat)] w fun r w' => r = .returned (.tuple #[]) ∧ ∃ M' lab' s', Has σ M' w' ∧ Base K M' lab' ∧ Mach M' lab' p s' ∧ R s' := by
 obtain ⟨fv, hv, fbs, hTh⟩ := hT.thr
 have hlen : fbs.length = fs.length := by
  have h1 := hTh.flen
  rw [hT.fr] at h1
  simpa using h1
 have TH := Lib.hid (fun (w : World) (h : Has σ M w) => yT h hT.mach hT.tp)
 have TP := Lib.hid (fun (w : World) (h : Has σ M w) => xI h hTh (by omega))
 have hfb := hT.obj
 have f0 : f.row[0]? = some (.int .i64 f.fn) := rfl
 have HT := Lib.hid hT
 have HS := Lib.hid hstep
 rw [hfn] at f0
 clear hT hTh hlen hfs hfn hstep
 generalize f.row = fr0 at *
 go_enter Tryz.func105, Tryz.ntmps105
 go_upto_region 3 with (first
  | (go_at_call 13; refine (TH.out _ h).mono ?_; clear h; rintro _ w ⟨rfl, h⟩)
  | (go_at_call 32; refine (TP.out _ h).mono ?_; clear h; rintro _ w ⟨rfl, h⟩)
  | ((with_reducible show wpList _ _ _ (⟨_, .alloc 190, _, _, _, _⟩ :: _) _ _); refine zK h rfl 190 rfl _ zrun ?_; clear h; intro bx w h hnx; try simp only [Act.put, qD, qE, qF])
  | ((with_reducible show wpList _ _ _ (⟨_, .store 190 _ _, _, _, _, _⟩ :: _) _ _); refine zP (cells := runC p t q b) h rfl 190 _ _ rfl rfl rfl (Mm.upd_same _ _ _) rfl rfl rfl (by kernel_rfl) rfl ?_; clear h; intro w h))
 rw [Mm.upd_upd] at h
 have hfb1 := Mm.upd_of (o := .cells (runC p t q b) 190) hnx hfb
 have hle := Mm.le_upd' hnx (.cells (runC p t q b) 190)
 have hbx := Mm.upd_same M bx (.cells (runC p t q b) 190)
 generalize M.upd bx _ = M1 at h hfb1 hle hbx
 obtain ⟨lab1, hT1⟩ := HT.out.more1 hle hnx hbx
 have hnK : K bx = none := by
  cases e : K bx with
  | none => rfl
  | some o => have := (HT.out.base _ _ e).1; rw [hnx] at this; cases this
 have HKK := Lib.hid (Mm.le_upd' hnK (.cells (runC p t q b) 190))
 have ST := Lib.hid (fun (w : World) (h : Has σ M1 w) => HS.out _ M1 lab1 w h hT1)
 clear hT1 hnK hnx hle TH TP
 unfold runC at ST hbx
 have dx : (#[.pointer (some ⟨p, 0, none⟩), .int .i64 (t : Nat), .pointer (some ⟨q, 0, none⟩), .pointer (some ⟨b, 0, none⟩)] : Array Value).extract 0 (0 + 4) = #[.pointer (some ⟨p, 0, none⟩), .int .i64 (t : Nat), .pointer (some ⟨q, 0, none⟩), .pointer (some ⟨b, 0, none⟩)] := rfl
 go_wp2_with (first
  | (with_reducible show wpList _ _ _ (⟨_, .load 3 _, _, _, _, _⟩ :: _) _ _; refine zZ h rfl 3 _ rfl rfl hfb1 f0 Tryz.underlying3 rfl ?_)
  | ((with_reducible show wpList _ _ _ (⟨_, .load 190 _, _, _, _, _⟩ :: _) _ _); refine zR h rfl 190 _ rfl rfl hbx dx rfl Tryz.underlying190 rfl (by kernel_rfl) ?_; try simp only [Act.put, qD, qE, qF])
  | (go_at_call 133; refine (ST.out _ h).mono ?_; clear h; rintro _ w ⟨rfl, M2, lab2, s2, h, hM2, hB2, hR2⟩))
 go_end0
 exact ⟨rfl, M2, lab2, s2, h, fun c o hc => hB2 c o (HKK.out _ _ hc), hM2, hR2⟩
end
end
section
open Go.RowKit
structure LvG where
 top : Nat
 lk : Nat → Nat
 hd : Nat → Nat
 held : Nat → Bool
structure StF where
 fn : Nat
 pc : Nat
 r0 : Nat
 r1 : Nat
 r2 : Nat
structure StG where
 lv : Nat → LvG
 thr : Nat → Option StF
 t0 : Nat → Nat
 t1 : Nat → Nat
def slOf (x : Nat) : Nat := cutN x 0 8
def cnt (x : Nat) : Nat := cutN x 8 56
def zB (x : Nat) : Nat := cutN x 2 32
def StG.go (g : StG) (t : Nat) (F : StF) : StG := { g with thr := put1 g.thr t (some F) }
def StG.back (g : StG) (t a b : Nat) : StG := { g with thr := put1 g.thr t none, t0 := put1 g.t0 t a, t1 := put1 g.t1 t b }
def StG.lev (g : StG) (l : Nat) (L : LvG) : StG := { g with lv := put1 g.lv l L }
def StG.take (g : StG) (t l : Nat) (F : StF) : StG :=
 if F.pc = 0 then g.go t { F with r1 := (g.lv l).top, pc := 1 }
 else if F.pc = 1 then (if slOf F.r1 = 0 then g.back t 0 0 else g.go t { F with r2 := (g.lv l).lk (slOf F.r1), pc := 2 })
 else if F.pc = 2 then (if (g.lv l).top = F.r1 then (g.lev l { g.lv l with top := yK F.r2 (cnt F.r1 + 1), held := put1 (g.lv l).held (slOf F.r1) true }).go t { F with pc := 3 } else g.go t { F with pc := 0 })
 else g.back t (slOf F.r1) (zB ((g.lv l).hd (slOf F.r1)))
def StG.give (gens : Nat) (g : StG) (t l : Nat) (F : StF) : StG :=
 if F.pc = 0 then g.go t { F with r2 := zB ((g.lv l).hd F.r0) + 1, pc := 1 }
 else if F.pc = 1 then (g.lev l { g.lv l with hd := put1 (g.lv l).hd F.r0 (zA (F.r2 - 1) 3) }).go t { F with pc := 2 }
 else if F.pc = 2 then g.go t { F with pc := 3 }
 else if F.pc = 3 then g.go t { F with pc := 4 }
 else if F.pc = 4 then g.go t { F with pc := 5 }
 else if F.pc = 5 then g.go t { F with pc := 6 }
 else if F.pc = 6 then (if F.r2 < gens then (g.lev l { g.lv l with hd := put1 (g.lv l).hd F.r0 (zA F.r2 0), held := put1 (g.lv l).held F.r0 false }).go t { F with pc := 7 } else (g.lev l { g.lv l with hd := put1 (g.lv l).hd F.r0 (zA F.r2 0), held := put1 (g.lv l).held F.r0 false }).back t 0 0)
 else if F.pc = 7 then g.go t { F with r1 := (g.lv l).top, pc := 8 }
 else if F.pc = 8 then (g.lev l { g.lv l with lk := put1 (g.lv l).lk F.r0 (slOf F.r1) }).go t { F with pc := 9 }
 else (if (g.lv l).top = F.r1 then (g.lev l { g.lv l with top := yK F.r0 (cnt F.r1 + 1) }).back t 0 0 else g.go t { F with pc := 7 })
def StG.next (gens : Nat) (g : StG) (t l : Nat) (F : StF) : StG := if F.fn = 1 then g.take t l F else g.give gens t l F
end
section
open Go.RowKit
theorem yS {c : Nat → Int} (hc : zF c) {m : MemS} (hN : (m.N : Int) = c 0 * zQ c 10) {lv : Nat} (hl : (lv : Int) < c 0) {k : Nat} {i j : Int} (hk : InK c k i j) : m.hit (atK c lv k i j) = true := by
 have hs := tN c (k := k) hk.kind
 have hnn := numK_nn hk
 have hhi := hk.high
 have hf0 := (vS hc k).1
 have hkk := hk.kind
 have hle : zQ c (k + 1) ≤ zQ c 10 := by
  obtain ⟨_, _, _, _, ⟨g2, g3⟩, ⟨g4, g5⟩, _⟩ := hc
  unfold zQ
  rcases k with _ | _ | _ | _ | _ | _ | _ | _ | _ | _ | k <;> simp <;> omega
 obtain ⟨L, B, S, hn⟩ := Nums.of hc
 rw [hn.sz] at hle hN
 obtain ⟨T, hT⟩ : ∃ T : Nat, 18 + B + 6 * S = T := ⟨_, rfl⟩
 rw [hT] at hle hN
 rw [hn.lev] at hN hl
 unfold MemS.hit atK
 rw [hn.sz, hT, Bool.and_eq_true, decide_eq_true_eq, decide_eq_true_eq]
 have h1 : 0 ≤ (lv : Int) * (T : Int) := Int.mul_nonneg (by omega) (by omega)
 have h2 : ((lv + 1 : Nat) : Int) * (T : Int) ≤ (L : Int) * (T : Int) := Int.mul_le_mul_of_nonneg_right (by omega) (by omega)
 have h3 : ((lv + 1 : Nat) : Int) * (T : Int) = (lv : Int) * (T : Int) + T := by rw [Int.natCast_add, Int.add_mul]; simp
 exact ⟨by omega, by rw [hN]; omega⟩
theorem load_hit {m : MemS} {a : Int} (h : m.hit a = true) : m.load a = m.f a.toNat := by unfold MemS.load; rw [h]; rfl
theorem at_hit {m : MemS} {a : Int} (h : m.hit a = true) : m.at_ a = { m with acc := m.acc + 1, last := a, named := true } := by unfold MemS.at_; rw [h]; rfl
theorem kG {m : MemS} {a v : Int} (h : m.hit a = true) : m.store a v = { m with acc := m.acc + 1, last := a, named := true, f := upd m.f a.toNat v, wr := m.wr + 1 } := by unfold MemS.store; rw [h, if_pos rfl, at_hit h]
end
section
open Go.RowKit
def OnceE (es : List Ent) : Prop := (es.map fun x => (x.l, x.s)).Nodup
theorem kL (n : Nat) : ∀ l t : Int, valE l t (yO n) = if t = 1 ∧ 0 ≤ l ∧ l < n then 1 else 0 := by
 intro l t
 induction n with
 | zero => simp [yO, valE]
 | succ n ih =>
  have e : ∀ (a b : List Ent), valE l t (a ++ b) = if hasE l t a then valE l t a else valE l t b := fun a b => by
   induction a with
   | nil => simp [hasE]
   | cons x r ih2 =>
    simp only [List.cons_append, valE, hasE]
    by_cases h : (l == x.l && t == x.s) = true
    ·simp only [h, if_true, Bool.true_or]
    simp only [Bool.not_eq_true] at h
    simp only [h, Bool.false_eq_true, if_false, Bool.false_or, ih2]
  have hv : hasE l t (yO n) = true → valE l t (yO n) = 1 := by
   have : ∀ (ls : List Nat), hasE l t (ls.map fun (l : Nat) => (⟨l, 1, 1, l⟩ : Ent)) = true → valE l t (ls.map fun (l : Nat) => (⟨l, 1, 1, l⟩ : Ent)) = 1 := fun ls => by
    induction ls with
    | nil => intro h; cases h
    | cons x r ih2 =>
     intro h
     simp only [List.map_cons, hasE, valE] at h ⊢
     cases h3 : (l == (x : Int) && t == 1)
     ·rw [h3] at h; simp only [Bool.false_or] at h; simpa using ih2 h
     simp
   exact this _
  rw [← qG, uO _ _ _ _ _ (uW n), e]
  cases hh : hasE l t (yO n)
  ·have := oZ hh
   rw [this] at ih
   simp only [Bool.false_eq_true, if_false, valE]
   split
   ·rename_i h
    simp only [Bool.and_eq_true, beq_iff_eq] at h
    rw [if_pos (by omega)]
   rename_i h
   simp only [Bool.and_eq_true, beq_iff_eq] at h
   split at ih
   ·cases ih
   rw [if_neg (by omega)]
  have h1 := hv hh
  rw [h1] at ih
  simp only [if_true]
  rw [h1]
  split at ih
  ·rw [if_pos (by omega)]
  cases ih
theorem pR (l t v : Int) (clk : Nat) (l' t' : Int) : ∀ es : List Ent, valE l' t' (putE l t v clk es) = if l' = l ∧ t' = t then v else valE l' t' es
 | [] => by
  simp only [putE, valE]
  by_cases h : l' = l ∧ t' = t
  ·rw [if_pos h, if_pos (by simpa using h)]
  rw [if_neg h, if_neg (by simpa using h)]
 | x :: r => by
  have ih := pR l t v clk l' t' r
  unfold putE
  cases hx : (l == x.l && t == x.s)
  ·simp only [Bool.false_eq_true, if_false, valE, ih]
   by_cases h : l' = l ∧ t' = t
   ·obtain ⟨rfl, rfl⟩ := h
    rw [hx]
    simp
   simp only [if_neg h]
  simp only [Bool.and_eq_true, beq_iff_eq] at hx
  obtain ⟨rfl, rfl⟩ := hx
  simp only [if_true, valE]
  by_cases h : l' = x.l ∧ t' = x.s
  ·rw [if_pos h]
   simp [h.1, h.2]
  rw [if_neg h]
  have : (l' == x.l && t' == x.s) = false := by simpa using h
  simp only [this, Bool.false_eq_true, if_false]
theorem StampE.put {es : List Ent} {clk : Nat} (h : StampE es clk) (l t v : Int) : StampE (putE l t v clk es) (if hasE l t es then clk else clk + 1) := by
 have hb : ∀ es : List Ent, hasE l t es = true → (putE l t v clk es).map (·.born) = es.map (·.born) := by
  intro es
  induction es with
  | nil => intro h; cases h
  | cons x r ih =>
   intro h
   unfold hasE at h
   unfold putE
   cases hx : (l == x.l && t == x.s)
   ·rw [hx, Bool.false_or] at h
    simp [ih h]
   simp
 cases hh : hasE l t es
 ·rw [uO _ _ _ _ _ hh]
  simp only [Bool.false_eq_true, if_false]
  refine ⟨fun y hy => ?_, ?_⟩
  ·rcases List.mem_append.1 hy with hy | hy
   ·exact Nat.lt_succ_of_lt (h.1 y hy)
   simp at hy; subst hy; exact Nat.lt_succ_self _
  rw [List.map_append, List.nodup_append]
  refine ⟨h.2, by simp, fun a ha b hb => ?_⟩
  simp at hb
  subst hb
  obtain ⟨y, hy, rfl⟩ := List.mem_map.1 ha
  have := h.1 y hy
  omega
 simp only [if_true]
 have e := hb es hh
 refine ⟨fun y hy => ?_, by rw [e]; exact h.2⟩
 have : y.born ∈ es.map (·.born) := by rw [← e]; exact List.mem_map_of_mem hy
 obtain ⟨z, hz, e2⟩ := List.mem_map.1 this
 have := h.1 z hz
 omega
theorem rP (l t l' t' : Int) (hne : ¬ (l' = l ∧ t' = t)) : ∀ es : List Ent, valE l' t' (delE l t es) = valE l' t' es
 | [] => rfl
 | x :: r => by
  have ih := rP l t l' t' hne r
  unfold delE
  cases hx : (l == x.l && t == x.s)
  ·simp only [Bool.false_eq_true, if_false, valE, ih]
  simp only [Bool.and_eq_true, beq_iff_eq] at hx
  obtain ⟨rfl, rfl⟩ := hx
  have : (l' == x.l && t' == x.s) = false := by simpa using hne
  simp only [if_true, valE, this, Bool.false_eq_true, if_false]
theorem valE_del (l t : Int) : ∀ es : List Ent, OnceE es → valE l t (delE l t es) = 0
 | [], _ => rfl
 | x :: r, h => by
  unfold OnceE at h
  simp only [List.map_cons, List.nodup_cons] at h
  unfold delE
  cases hx : (l == x.l && t == x.s)
  ·simp only [Bool.false_eq_true, if_false, valE, hx]
   exact valE_del l t r h.2
  simp only [Bool.and_eq_true, beq_iff_eq] at hx
  obtain ⟨rfl, rfl⟩ := hx
  simp only [if_true]
  apply oZ
  have h1 := h.1
  have : ∀ r : List Ent, (x.l, x.s) ∉ r.map (fun x => (x.l, x.s)) → hasE x.l x.s r = false := by
   intro r
   induction r with
   | nil => intro _; rfl
   | cons y r ih =>
    intro h
    simp only [List.map_cons, List.mem_cons, not_or] at h
    unfold hasE
    rw [ih h.2, Bool.or_false]
    have := h.1
    simp only [Prod.mk.injEq] at this
    simpa using this
  exact this r h1
theorem OnceE.del {es : List Ent} (h : OnceE es) (l t : Int) : OnceE (delE l t es) := by
 induction es with
 | nil => exact h
 | cons x r ih =>
  unfold OnceE at h ih ⊢
  simp only [List.map_cons, List.nodup_cons] at h
  unfold delE
  split
  ·exact h.2
  simp only [List.map_cons, List.nodup_cons]
  refine ⟨fun hm => h.1 ?_, ih h.2⟩
  obtain ⟨y, hy, e⟩ := List.mem_map.1 hm
  have : ∀ r : List Ent, y ∈ delE l t r → y ∈ r := fun r => by
   induction r with
   | nil => intro h; exact h
   | cons z r ih =>
    intro h
    unfold delE at h
    split at h
    ·exact List.mem_cons_of_mem _ h
    rcases List.mem_cons.1 h with rfl | h
    ·exact List.mem_cons_self
    exact List.mem_cons_of_mem _ (ih h)
  exact List.mem_map.2 ⟨y, this r hy, e⟩
theorem watch_given (s : MachS) (lv : Int) (acc wr : Nat) : (s.watch lv acc wr).given = s.given ∧ ((s.watch lv acc wr).fault = (s.fault || (decide (s.mem.acc ≠ acc) && s.wrong lv acc wr))) := by
 unfold MachS.watch
 split
 ·rename_i h; simp [h]
 rename_i h
 split
 ·rename_i h2; simp [h, h2]
 rename_i h2; simp [h, h2]
theorem OnceE.put {es : List Ent} (h : OnceE es) (l t v : Int) (clk : Nat) : OnceE (putE l t v clk es) := by
 have hm : ∀ (es : List Ent) (y : Int × Int), y ∈ (putE l t v clk es).map (fun x => (x.l, x.s)) → y = (l, t) ∨ y ∈ es.map (fun x => (x.l, x.s)) := by
  intro es
  induction es with
  | nil => intro y hy; simp [putE] at hy; exact .inl hy
  | cons x r ih =>
   intro y hy
   unfold putE at hy
   split at hy
   ·exact .inr (by simpa using hy)
   simp only [List.map_cons, List.mem_cons] at hy ⊢
   rcases hy with hy | hy
   ·exact .inr (.inl hy)
   rcases ih y hy with h | h
   ·exact .inl h
   exact .inr (.inr h)
 induction es with
 | nil => unfold OnceE; simp [putE]
 | cons x r ih =>
  unfold OnceE at h ih ⊢
  simp only [List.map_cons, List.nodup_cons] at h
  unfold putE
  split
  ·simpa using h
  rename_i hne
  simp only [List.map_cons, List.nodup_cons]
  refine ⟨fun hx => ?_, ih h.2⟩
  rcases hm r _ hx with e | e
  ·apply hne
   simp only [Prod.mk.injEq] at e
   simp [e.1, e.2]
  exact h.1 e
end
section
open Go.RowKit
theorem oQ (l t : Int) : ∀ es : List Ent, (delE l t es).Sublist es
 | [] => .slnil
 | x :: r => by
  unfold delE
  split
  ·exact List.sublist_cons_self _ _
  exact (oQ l t r).cons_cons _
theorem StampE.del {es : List Ent} {clk : Nat} (h : StampE es clk) (l t : Int) : StampE (delE l t es) clk :=
 ⟨fun x hx => h.1 x ((oQ l t es).subset hx), h.2.sublist ((oQ l t es).map _)⟩
def KeysE (lv sl : Int) (es : List Ent) : Prop := ∀ x ∈ es, 0 ≤ x.l ∧ x.l < lv ∧ 1 ≤ x.s ∧ x.s ≤ sl ∧ x.v = 1
theorem KeysE.del {lv sl : Int} {es : List Ent} (h : KeysE lv sl es) (l t : Int) : KeysE lv sl (delE l t es) := fun x hx => h x ((oQ l t es).subset hx)
theorem KeysE.put {lv sl : Int} {l t : Int} (hl : 0 ≤ l ∧ l < lv ∧ 1 ≤ t ∧ t ≤ sl) (clk : Nat) : ∀ {es : List Ent}, KeysE lv sl es → KeysE lv sl (putE l t 1 clk es)
 | [], _ => fun x hx => by
  simp only [putE, List.mem_singleton] at hx
  subst hx
  exact ⟨hl.1, hl.2.1, hl.2.2.1, hl.2.2.2, rfl⟩
 | y :: r, h => fun x hx => by
  unfold putE at hx
  have hy := h y List.mem_cons_self
  split at hx
  ·rcases List.mem_cons.1 hx with e | hx
   ·subst e; exact ⟨hy.1, hy.2.1, hy.2.2.1, hy.2.2.2.1, rfl⟩
   exact h x (List.mem_cons_of_mem _ hx)
  rcases List.mem_cons.1 hx with e | hx
  ·subst e; exact hy
  exact KeysE.put hl clk (fun z hz => h z (List.mem_cons_of_mem _ hz)) x hx
end
section
open Go.RowKit
structure Fr where
 fn : Nat
 pc : Nat
 r : Nat → Nat
def Fr.enc (F : Fr) : FrameS := ⟨F.fn, F.pc, fun i => F.r i⟩
def Fr.goto (F : Fr) (k : Nat) : Fr := { F with pc := k }
def Fr.reg (F : Fr) (i v : Nat) : Fr := { F with r := put1 F.r i v }
theorem wC (F : Fr) (k : Nat) : F.enc.goto (k : Nat) = (F.goto k).enc := rfl
theorem wJ (F : Fr) (i v : Nat) : F.enc.reg i (v : Nat) = (F.reg i v).enc := by
 unfold FrameS.reg Fr.reg Fr.enc
 congr 1
 funext j
 unfold upd put1
 by_cases h : j = i <;> simp [h]
structure GM where
 w : Nat → Nat → Nat
 held : Nat → Nat → Bool
 wg : Nat → Nat → Nat
 thr : Nat → List Fr
 told : Nat → Nat → Nat
def GM.set (g : GM) (l o v : Nat) : GM := { g with w := put1 g.w l (put1 (g.w l) o v) }
def GM.top (g : GM) (t : Nat) (fs : List Fr) (F : Fr) : GM := { g with thr := put1 g.thr t (fs ++ [F]) }
def GM.back (g : GM) (t : Nat) (fs : List Fr) (us : List Nat) : GM := { g with thr := put1 g.thr t fs, told := put1 g.told t fun i => us.getD i 0 }
def GM.hold (g : GM) (l i : Nat) : GM := { g with held := put1 g.held l (put1 (g.held l) i true) }
def GM.drop (g : GM) (l i : Nat) : GM := { g with held := put1 g.held l (put1 (g.held l) i false), wg := put1 g.wg l (put1 (g.wg l) i (g.wg l i + 1)) }
def offK (c : Nat → Int) (k : Nat) (i j : Int) : Nat := (zQ c k + numK k i j).toNat
theorem off_lt {c : Nat → Int} (hc : zF c) {k : Nat} {i j : Int} (hk : InK c k i j) : 0 ≤ zQ c k + numK k i j ∧ (offK c k i j : Int) < zQ c 10 := by
 have hs := tN c (k := k) hk.kind
 have hnn := numK_nn hk
 have hhi := hk.high
 have hf0 := (vS hc k).1
 have hkk := hk.kind
 have hle : zQ c (k + 1) ≤ zQ c 10 := by
  obtain ⟨_, _, _, _, ⟨g2, g3⟩, ⟨g4, g5⟩, _⟩ := hc
  unfold zQ
  rcases k with _ | _ | _ | _ | _ | _ | _ | _ | _ | _ | k <;> simp <;> omega
 unfold offK
 omega
theorem atK_off {c : Nat → Int} (hc : zF c) {k l : Nat} {i j : Int} (hk : InK c k i j) : (atK c (l : Nat) k i j).toNat = l * (zQ c 10).toNat + offK c k i j := by
 have h1 := (off_lt hc hk).1
 have h2 := (vS hc 10).1
 have e : atK c (l : Nat) k i j = ((l * (zQ c 10).toNat + offK c k i j : Nat) : Int) := by
  unfold atK offK
  rw [Int.natCast_add, Int.natCast_mul, Int.toNat_of_nonneg h2, Int.toNat_of_nonneg h1]
  omega
 rw [e, Int.toNat_natCast]
theorem place_ne {Z l l' o o' : Nat} (h : o < Z) (h' : o' < Z) (e : l * Z + o = l' * Z + o') : l = l' ∧ o = o' := by
 have a1 : (l * Z + o) / Z = l := by rw [Nat.add_comm, Nat.add_mul_div_right _ _ (by omega), Nat.div_eq_of_lt h, Nat.zero_add]
 have a2 : (l' * Z + o') / Z = l' := by rw [Nat.add_comm, Nat.add_mul_div_right _ _ (by omega), Nat.div_eq_of_lt h', Nat.zero_add]
 have : l = l' := by rw [← a1, ← a2, e]
 subst this
 exact ⟨rfl, by omega⟩
def WordsM (c : Nat → Int) (f : Nat → Int) (w : Nat → Nat → Nat) : Prop := ∀ l o : Nat, (l : Int) < c 0 → (o : Int) < zQ c 10 → f (l * (zQ c 10).toNat + o) = (w l o : Int)
theorem WordsM.at {c f : Nat → Int} {w : Nat → Nat → Nat} (h : WordsM c f w) (hc : zF c) {l k : Nat} {i j : Int} (hl : (l : Int) < c 0) (hk : InK c k i j) : f (atK c (l : Nat) k i j).toNat = (w l (offK c k i j) : Int) := by
 rw [atK_off hc hk]
 exact h l _ hl (off_lt hc hk).2
theorem WordsM.set {c f : Nat → Int} {w : Nat → Nat → Nat} (h : WordsM c f w) (hc : zF c) {l k : Nat} {i j : Int} (hk : InK c k i j) (v : Nat) : WordsM c (upd f (atK c (l : Nat) k i j).toNat v) (put1 w l (put1 (w l) (offK c k i j) v)) := fun l' o hl ho => by
 rw [atK_off hc hk]
 have hb := (off_lt hc hk).2
 have h2 := (vS hc 10).1
 unfold upd
 by_cases e : l' * (zQ c 10).toNat + o = l * (zQ c 10).toNat + offK c k i j
 ·obtain ⟨e1, e2⟩ := place_ne (by omega) (by omega) e
  subst e1
  subst e2
  rw [if_pos rfl, zY, zY]
 rw [if_neg e, h l' o hl ho]
 by_cases e1 : l' = l
 ·subst e1
  rw [zY, zW fun e2 => e (by rw [e2])]
 rw [zW e1]
structure WardM (c : Nat → Int) (n : Nat) (wd : WardS) (held : Nat → Nat → Bool) (wg : Nat → Nat → Nat) : Prop where
 lv : wd.lv = c 0
 sl : wd.sl = c 10
 held : ∀ l i : Nat, (l : Int) < c 0 → 1 ≤ i → (i : Int) ≤ c 10 → valE (l : Nat) (i : Nat) wd.held = if held l i then 1 else 0
 gen : ∀ l i : Nat, (l : Int) < c 0 → 1 ≤ i → (i : Int) ≤ c 10 → valE (l : Nat) (i : Nat) wd.gens = (wg l i : Int)
 once : OnceE wd.held
 stamp : StampE wd.gens wd.gclk
 gens : ∀ l i : Int, 0 ≤ valE l i wd.gens ∧ valE l i wd.gens ≤ n
 slips : wd.slips = 0
 keys : KeysE (c 0) (c 10) wd.held
 hst : StampE wd.held wd.hclk
theorem WardM.mono {c : Nat → Int} {n m : Nat} {wd : WardS} {held : Nat → Nat → Bool} {wg : Nat → Nat → Nat} (h : WardM c n wd held wg) (hm : n ≤ m) : WardM c m wd held wg := ⟨h.lv, h.sl, h.held, h.gen, h.once, h.stamp, fun l i => by have := h.gens l i; omega, h.slips, h.keys, h.hst⟩
theorem WardM.take {c : Nat → Int} {n l i : Nat} {wd : WardS} {held : Nat → Nat → Bool} {wg : Nat → Nat → Nat} (h : WardM c n wd held wg) (hl : (l : Int) < c 0) (h1 : 1 ≤ i) (h2 : (i : Int) ≤ c 10) : WardM c n (wd.take (l : Nat) (i : Nat)) (put1 held l (put1 (held l) i true)) wg := by
 refine ⟨h.lv, h.sl, fun l' j a1 a2 a3 => ?_, h.gen, h.once.put _ _ _ _, h.stamp, h.gens, h.slips, h.keys.put ⟨by omega, hl, by omega, h2⟩ _, h.hst.put _ _ _⟩
 show valE _ _ (putE _ _ _ _ _) = _
 rw [pR]
 by_cases hl' : l' = l
 ·subst hl'
  rw [zY]
  by_cases hj : j = i
  ·subst hj; rw [zY, if_pos ⟨rfl, rfl⟩]; rfl
  rw [zW hj, if_neg (by omega), h.held l' j a1 a2 a3]
 rw [zW hl', if_neg (by omega), h.held l' j a1 a2 a3]
theorem WardM.gone {c : Nat → Int} {n l i : Nat} {wd : WardS} {held : Nat → Nat → Bool} {wg : Nat → Nat → Nat} (h : WardM c n wd held wg) (hl : (l : Int) < c 0) (h1 : 1 ≤ i) (h2 : (i : Int) ≤ c 10) : WardM c (n + 1) (wd.gone (l : Nat) (i : Nat)) (put1 held l (put1 (held l) i false)) (put1 wg l (put1 (wg l) i (wg l i + 1))) := by
 refine ⟨h.lv, h.sl, fun l' j h1 h2 h3 => ?_, fun l' j a1 a2 a3 => ?_, h.once.del _ _, h.stamp.put _ _ _, fun l' j => ?_, h.slips, h.keys.del _ _, h.hst.del _ _⟩
 ·show valE _ _ (delE _ _ _) = _
  by_cases hl : l' = l
  ·subst hl
   rw [zY]
   by_cases hj : j = i
   ·subst hj; rw [zY, valE_del _ _ _ h.once]; rfl
   rw [zW hj, rP _ _ _ _ (by omega), h.held l' j h1 h2 h3]
  rw [zW hl, rP _ _ _ _ (by omega), h.held l' j h1 h2 h3]
 ·show valE _ _ (putE _ _ _ _ _) = _
  rw [pR]
  by_cases hl' : l' = l
  ·subst hl'
   rw [zY]
   by_cases hj : j = i
   ·subst hj; rw [zY, if_pos ⟨rfl, rfl⟩, h.gen l' j a1 a2 a3]; omega
   rw [zW hj, if_neg (by omega), h.gen l' j a1 a2 a3]
  rw [zW hl', if_neg (by omega), h.gen l' j a1 a2 a3]
 show 0 ≤ valE _ _ (putE _ _ _ _ _) ∧ valE _ _ (putE _ _ _ _ _) ≤ _
 rw [pR]
 have a := h.gens l i
 have b := h.gens l' j
 split <;> omega
structure ThrM (c : Nat → Int) (thr : Nat → ThrS) (g : GM) : Prop where
 fr : ∀ t : Nat, (t : Int) < c 1 → (thr t).frames = (g.thr t).map Fr.enc
 run : ∀ t : Nat, ((thr t).st || (thr t).ki) = false
 told : ∀ t j : Nat, (thr t).told j = (g.told t j : Int)
structure AbsM (c : Nat → Int) (tp : List Nat) (n : Nat) (s : MachS) (g : GM) : Prop where
 cc : s.c = c
 may : zF c
 ttp : s.tp = tp
 memN : (s.mem.N : Int) = c 0 * zQ c 10
 words : WordsM c s.mem.f g.w
 ward : WardM c n s.ward g.held g.wg
 thr : ThrM c s.thr g
 flt : s.mem.flt = false
 fault : s.fault = false
 acc : s.mem.acc ≤ n
 wr : s.mem.wr ≤ n
 steps : s.steps ≤ n
 clk : ∀ k, s.clk k ≤ n
 given : s.given.length ≤ n
theorem AbsM.good {c : Nat → Int} {tp : List Nat} {n : Nat} {s : MachS} {g : GM} (h : AbsM c tp n s g) : s.bad = false := by
 unfold MachS.bad
 rw [h.fault, h.flt, h.ward.slips]
 rfl
structure Did (c : Nat → Int) (n l : Nat) (s s2 : MachS) (g2 : GM) : Prop where
 e : s2.c = s.c ∧ s2.tp = s.tp ∧ s2.steps = s.steps ∧ s2.clk = (s.tick l).clk ∧ s2.fault = s.fault
 N : s2.mem.N = s.mem.N
 flt : s2.mem.flt = s.mem.flt
 acc : s2.mem.acc = s.mem.acc ∨ (s2.mem.acc = s.mem.acc + 1 ∧ s2.mem.last / zQ c 10 = (l : Int))
 wr : s2.mem.wr ≤ s.mem.wr + 1
 words : WordsM c s2.mem.f g2.w
 ward : WardM c (n + 1) s2.ward g2.held g2.wg
 thr : ThrM c s2.thr g2
 given : s2.given.length ≤ n + 1
section
variable {c : Nat → Int} {tp : List Nat} {n t l : Nat} {s s2 : MachS} {g g2 : GM} {thr : Nat → ThrS}
theorem AbsM.next (hA : AbsM c tp n s g) (h : Did c n l s s2 g2) : AbsM c tp (n + 1) (s2.after s l) g2 := by
 obtain ⟨a1, a2, a3, a4, a5, a6, a7, a8⟩ := after_same s2 s l
 obtain ⟨e1, e2, e3, e4, e5⟩ := h.e
 have hf : (s2.after s l).fault = false := by
  unfold MachS.after
  rw [(watch_given _ _ _ _).2]
  show (s2.fault || _) = false
  rw [e5, hA.fault, Bool.false_or]
  rcases h.acc with ea | ⟨ea, el⟩
  ·show (decide (s2.mem.acc ≠ s.mem.acc) && _) = false
   rw [ea]; simp
  unfold MachS.wrong MachS.lvOf
  show (_ && (decide ((s.mem.acc : Int) + 1 < (s2.mem.acc : Int)) || (_ && (decide ((l : Int) < s2.mem.last / zQ s2.c 10) || (_ && s2.mem.last / zQ s2.c 10 != (l : Int)))))) = false
  rw [ea, e1, hA.cc, el]
  simp
 refine ⟨a1.trans (e1.trans hA.cc), hA.may, a2.trans (e2.trans hA.ttp), by rw [a3, h.N]; exact hA.memN, by rw [a3]; exact h.words, by rw [a4]; exact h.ward, by rw [a5]; exact h.thr, by rw [a3, h.flt]; exact hA.flt, hf, ?_, ?_, ?_, fun k => ?_, by rw [a8]; exact h.given⟩
 ·rw [a3]; have := hA.acc; rcases h.acc with ea | ⟨ea, _⟩ <;> omega
 ·rw [a3]; have := hA.wr; have := h.wr; omega
 ·rw [a7, e3]; have := hA.steps; omega
 rw [a6, e4]
 show (if l ≤ k ∧ k < 4 then s.clk k + 1 else s.clk k) ≤ _
 have := hA.clk k
 split <;> omega
theorem ThrM.top (h : ThrM c thr g) {fs : List Fr} {F : Fr} : ThrM c (fun j => if j = t then { thr t with frames := fs.map Fr.enc ++ [F.enc] } else thr j) (g.top t fs F) := by
 refine ⟨fun t' ht' => ?_, fun t' => ?_, fun t' j => ?_⟩
 ·show _ = List.map Fr.enc (put1 g.thr t (fs ++ [F]) t')
  by_cases h1 : t' = t
  ·subst h1; rw [zY, if_pos rfl]; simp
  rw [zW h1, if_neg h1]; exact h.fr t' ht'
 ·by_cases h1 : t' = t
  ·subst h1; rw [if_pos rfl]; exact h.run t'
  rw [if_neg h1]; exact h.run t'
 by_cases h1 : t' = t
 ·subst h1; rw [if_pos rfl]; exact h.told t' j
 rw [if_neg h1]; exact h.told t' j
theorem ThrM.back (h : ThrM c thr g) {fs : List Fr} {us : List Nat} {x : ThrS} (hx : x.frames.dropLast = fs.map Fr.enc ∧ x.st = (thr t).st ∧ x.ki = (thr t).ki) : ThrM c (fun j => if j = t then x.back (us.map fun u : Nat => (u : Int)) else thr j) (g.back t fs us) := by
 refine ⟨fun t' ht' => ?_, fun t' => ?_, fun t' j => ?_⟩
 ·show _ = List.map Fr.enc (put1 g.thr t fs t')
  by_cases h1 : t' = t
  ·subst h1; rw [zY, if_pos rfl]; exact hx.1
  rw [zW h1, if_neg h1]; exact h.fr t' ht'
 ·by_cases h1 : t' = t
  ·subst h1; rw [if_pos rfl]; show (x.st || x.ki) = false; rw [hx.2.1, hx.2.2]; exact h.run t'
  rw [if_neg h1]; exact h.run t'
 show _ = ((put1 g.told t (fun i => us.getD i 0) t' j : Nat) : Int)
 by_cases h1 : t' = t
 ·subst h1
  rw [zY, if_pos rfl]
  show (us.map fun u : Nat => (u : Int)).getD j 0 = _
  rw [List.getD_eq_getElem?_getD, List.getD_eq_getElem?_getD, List.getElem?_map]
  cases us[j]? <;> rfl
 rw [zW h1, if_neg h1]; exact h.told t' j
def mD (m : MemS) (a : Int) (f : Nat → Int) (d : Nat) : MemS := { m with acc := m.acc + 1, last := a, named := true, f := f, wr := m.wr + d }
theorem vH {m : MemS} {a : Int} (h : m.hit a = true) : m.at_ a = mD m a m.f 0 := at_hit h
theorem xC {m : MemS} {a v : Int} (h : m.hit a = true) : m.store a v = mD m a (upd m.f a.toNat v) 1 := kG h
theorem qY {m : MemS} {a x v : Int} (h : m.hit a = true) (hs : m.swaps a x = true) : m.cas a x v = mD m a (upd m.f a.toNat v) 1 := by unfold MemS.cas; rw [if_pos hs]; exact kG h
theorem oP {m : MemS} {a x v : Int} (h : m.hit a = true) (hs : m.swaps a x = false) : m.cas a x v = mD m a m.f 0 := by unfold MemS.cas; rw [hs]; exact at_hit h
theorem yL {m : MemS} {a : Int} {v : Int} (h : m.hit a = true) (hv : m.f a.toNat = v) : m.load a = v := (load_hit h).trans hv
theorem Did.one {k d : Nat} {i j : Int} {f : Nat → Int} (hA : AbsM c tp n s g) (hk : InK c k i j) (hd : d ≤ 1) (e : s2.c = s.c ∧ s2.tp = s.tp ∧ s2.steps = s.steps ∧ s2.clk = (s.tick l).clk ∧ s2.fault = s.fault) (hm : s2.mem = mD s.mem (atK c (l : Nat) k i j) f d) (hW : WordsM c f g2.w) (hD : WardM c (n + 1) s2.ward g2.held g2.wg) (hT : ThrM c s2.thr g2) (hG : s2.given.length ≤ n + 1) : Did c n l s s2 g2 := by
 refine ⟨e, by rw [hm]; rfl, by rw [hm]; rfl, .inr ⟨by rw [hm]; rfl, ?_⟩, by rw [hm]; show s.mem.wr + d ≤ _; omega, by rw [hm]; exact hW, hD, hT, hG⟩
 rw [hm]
 have hs := tN c (k := k) hk.kind
 have h1 := off_lt hA.may hk
 have h31 := lI hA.may
 show atK c (l : Nat) k i j / zQ c 10 = _
 unfold offK at h1
 unfold atK
 generalize zQ c 10 = T at *
 rw [show (l : Int) * T + zQ c k + numK k i j = (zQ c k + numK k i j) + (l : Int) * T by omega, Int.add_mul_ediv_right _ _ (by omega), Int.ediv_eq_zero_of_lt h1.1 (by omega)]
 omega
theorem Did.none (hA : AbsM c tp n s g) (e : s2.c = s.c ∧ s2.tp = s.tp ∧ s2.steps = s.steps ∧ s2.clk = (s.tick l).clk ∧ s2.fault = s.fault) (hm : s2.mem = s.mem) (hW : WordsM c s.mem.f g2.w) (hD : WardM c (n + 1) s2.ward g2.held g2.wg) (hT : ThrM c s2.thr g2) (hG : s2.given.length ≤ n + 1) : Did c n l s s2 g2 :=
 ⟨e, by rw [hm], by rw [hm], .inl (by rw [hm]), by rw [hm]; omega, by rw [hm]; exact hW, hD, hT, hG⟩
end
def zG (f : FuncId) (σ : World) (p t : Nat) (c : Nat → Int) (tp : List Nat) (n l : Nat) (g g2 : GM) : Prop := ∀ (K : Mm) (s : MachS) (M : Mm) (lab : Nat → Nat) (w : World), Has σ M w → Mach M lab p (s.tick l) → Base K M lab → AbsM c tp n s g → Calls Tryz.prog f #[.pointer (some ⟨p, 0, none⟩), .int .i64 (t : Nat)] w fun r w' => r = .returned (.tuple #[]) ∧ ∃ M' lab' s2, Has σ M' w' ∧ Mach M' lab' p s2 ∧ Base K M' lab' ∧ Did c n l s s2 g2
theorem frames_nil {l : List Fr} : (l.map Fr.enc).isEmpty = l.isEmpty := by cases l <;> rfl
theorem kF {σ w : World} {K M : Mm} {lab : Nat → Nat} {p t q l n : Nat} {s : MachS} {c : Nat → Int} {tp : List Nat} {g g2 : GM} {f : FuncId} (h : Has σ M w) (hM : Mach M lab p s) (hB : Base K M lab) (hA : AbsM c tp n s g) (hn : n < 100000) (ht : (t : Int) < c 1) (hq : tp[t]? = some q) (hl : zT c t = (l : Nat)) (hfr : g.thr t ≠ []) (hfl : (g.thr t).length < 100000) (hfl2 : (g2.thr t).length < 100000) (hent : entB Tryz.prog f = true) (hD : zG f σ p t c tp n l g g2) :
  Calls Tryz.prog 33 #[.pointer (some ⟨p, 0, none⟩), .int .i64 (t : Nat), .func (.func f) #[] #[]] w fun r w' => ∃ M' lab' s', r = .returned (.bool (!(g2.thr t).isEmpty)) ∧ Has σ M' w' ∧ Mach M' lab' p s' ∧ Base K M' lab' ∧ AbsM c tp (n + 1) s' g2 := by
 have hfs := hA.thr.fr t ht
 have STP := step_eq (R := fun x => Did c n l s x g2) (F := f) (caps := #[]) h hM hB (t := t) (q := q) (lv := l) (by rw [hA.ttp]; exact hq) (by rw [hfs]; simpa using hfr) (hA.thr.run t) (by rw [hA.cc]; exact hl) (by have := hA.acc; omega) (by have := hA.steps; omega) (fun k => by have := hA.clk k; omega) (by rw [hfs, List.length_map]; omega) hent
  (fun M1 lab1 w1 h1 hM1 hB1 => by
   refine (hD K s M1 lab1 w1 h1 hM1 hB1 hA).mono fun r w' ⟨e, M', lab', s2, h', hM', hB', hd⟩ => ⟨e, M', lab', s2, h', hB', hM', hd⟩)
  (fun x hx => ⟨hx.e.2.1, by rw [hx.e.2.2.1]; have := hA.steps; omega, by rw [hx.thr.fr t ht, List.length_map]; omega⟩)
 refine STP.mono fun r w' hr => ?_
 obtain ⟨M', lab', x, hx, hr, h', hB', hM'⟩ := hr
 refine ⟨M', lab', x.after s l, by rw [hr, hx.thr.fr t ht, frames_nil], h', hM', hB', hA.next hx⟩
end
section
open Go.RowKit
theorem ThrM.set {c : Nat → Int} {thr : Nat → ThrS} {g : GM} (h : ThrM c thr g) (l o v : Nat) : ThrM c thr (g.set l o v) := ⟨h.fr, h.run, h.told⟩
theorem AbsM.atTop {K M : Mm} {lab : Nat → Nat} {p t q l n : Nat} {c : Nat → Int} {tp : List Nat} {s : MachS} {g : GM} {fs : List Fr} {F : Fr} (hA : AbsM c tp n s g) (hM : Mach M lab p (s.tick l)) (hB : Base K M lab) (ht : (t : Int) < c 1) (hq : tp[t]? = some q) (hthr : g.thr t = fs ++ [F]) : ∃ b, AtTop K M lab p (s.tick l) t q b (fs.map Fr.enc) F.enc := by
 refine AtTop.of hM hB (by show s.tp[t]? = _; rw [hA.ttp]; exact hq) ?_
 show (s.thr t).frames = _
 rw [hA.thr.fr t ht, hthr, List.map_append]
 rfl
theorem ThrM.hold {c : Nat → Int} {thr : Nat → ThrS} {g : GM} (h : ThrM c thr g) (l i : Nat) : ThrM c thr (g.hold l i) := ⟨h.fr, h.run, h.told⟩
theorem ThrM.drop {c : Nat → Int} {thr : Nat → ThrS} {g : GM} (h : ThrM c thr g) (l i : Nat) : ThrM c thr (g.drop l i) := ⟨h.fr, h.run, h.told⟩
end
section
open Go.RowKit
def oLk (B i : Nat) : Nat := 18 + B + (i - 1)
def oNd (B S i j : Nat) : Nat := 18 + B + S + (i - 1) * 5 + j
theorem xE (c : Nat → Int) : offK c 0 0 0 = 0 := by unfold offK zQ numK yE; simp
theorem off_link {c : Nat → Int} {B i : Nat} (hB : c 11 = (B : Nat)) (h1 : 1 ≤ i) : offK c 8 (i : Nat) 0 = oLk B i := by unfold offK oLk zQ numK yE; simp; omega
theorem vL {c : Nat → Int} {B S i j : Nat} (hB : c 11 = (B : Nat)) (hS : c 10 = (S : Nat)) (h1 : 1 ≤ i) : offK c 9 (i : Nat) (j : Nat) = oNd B S i j := by unfold offK oNd zQ numK; simp; omega
theorem jR {c : Nat → Int} {i : Nat} (h1 : 1 ≤ i) (h2 : (i : Int) ≤ c 10) : InK c 8 (i : Nat) 0 := ⟨by omega, by unfold yE; simp; omega, by omega, by omega, fun _ => rfl, by unfold numK many yE; simp; omega⟩
theorem wH {c : Nat → Int} {i j : Nat} (h1 : 1 ≤ i) (h2 : (i : Int) ≤ c 10) (hj : j < 5) : InK c 9 (i : Nat) (j : Nat) := ⟨by omega, by unfold yE; simp; omega, by omega, by omega, fun h => absurd rfl h, by unfold numK many; simp; omega⟩
theorem does_t0 {σ : World} {p t q l n B S : Nat} {c : Nat → Int} {tp : List Nat} {g : GM} {fs : List Fr} {F : Fr} (hn : n < 100000) (ht : (t : Int) < c 1) (hq : tp[t]? = some q) (hl : zT c t = (l : Nat)) (hlc : (l : Int) < c 0) (hthr : g.thr t = fs ++ [F]) (hfs : fs.length < 100000) (hB' : c 11 = (B : Nat)) (hS' : c 10 = (S : Nat)) (h1 : F.fn = 1) (hp : F.pc = 0) (hr : F.r 1 < 18446744073709551616) : zG 105 σ p t c tp n l g (g.top t fs ((F.reg 1 (g.w l 0)).goto 1)) := by
 intro K s M lab w h hM hB hA
 obtain ⟨b, hT⟩ := hA.atTop hM hB ht hq hthr
 obtain rfl := hA.cc
 have hmay := hA.may
 have b1 : (s.tick l).mem.acc < 1000000000 := by show s.mem.acc < _; have := hA.acc; omega
 have b2 : (s.tick l).mem.wr < 1000000000 := by show s.mem.wr < _; have := hA.wr; omega
 have hl' : zT (s.tick l).c (t : Nat) = (l : Nat) := hl
 have hlc' : (l : Int) < (s.tick l).c 0 := hlc
 have hfs' : (fs.map Fr.enc).length < 1000000 := by rw [List.length_map]; omega
 have gl : s.given.length ≤ n + 1 := Nat.le_succ_of_le hA.given
 have bk : (s.thr t).frames.dropLast = fs.map Fr.enc ∧ (s.thr t).st = (s.thr t).st ∧ (s.thr t).ki = (s.thr t).ki := ⟨by rw [hA.thr.fr t ht, hthr]; simp, rfl, rfl⟩
 have S256 := hmay.2.2.2.2.1
 have hk := wE s.c
 have hit := yS hmay hA.memN hlc hk
 have hv : s.mem.load (atK s.c (l : Nat) 0 0 0) = (g.w l 0 : Int) := yL hit (by rw [hA.words.at hmay hlc hk, xE])
 have hf0 : s.mem.f (atK s.c (l : Nat) 0 0 0).toNat = (g.w l 0 : Int) := by rw [hA.words.at hmay hlc hk, xE]
 refine (sN h hT (by show (F.fn : Int) = 1; omega) hfs' (R := fun s' => Did s.c n l s s' (g.top t fs ((F.reg 1 (g.w l 0)).goto 1))) fun K1 M1 lab1 w1 h1' hT1 => ?_).mono fun r w' ⟨e, M', lab', s', a1, a2, a3, a4⟩ => ⟨e, M', lab', s', a1, a3, a2, a4⟩
 refine (take_0 h1' hT1 (by show (F.pc : Int) = 0; omega) (x := F.r 1) rfl hr (zD hT1.mach hl' hlc' hk) b1).mono (fun r w' ⟨e, M', lab', h', hT'⟩ => ⟨e, M', lab', _, h', hT'.mach, hT'.base, ?_⟩)
 refine Did.one hA hk (Nat.zero_le _) ⟨rfl, rfl, rfl, rfl, rfl⟩ (vH hit) hA.words (hA.ward.mono (Nat.le_succ _)) ?_ gl
 have := hA.thr.top (t := t) (fs := fs) (F := (F.reg 1 (g.w l 0)).goto 1)
 rw [← wC, ← wJ, ← hv] at this
 exact this
theorem does_t1a {σ : World} {p t q l n B S : Nat} {c : Nat → Int} {tp : List Nat} {g : GM} {fs : List Fr} {F : Fr} (hn : n < 100000) (ht : (t : Int) < c 1) (hq : tp[t]? = some q) (hl : zT c t = (l : Nat)) (hlc : (l : Int) < c 0) (hthr : g.thr t = fs ++ [F]) (hfs : fs.length < 100000) (hB' : c 11 = (B : Nat)) (hS' : c 10 = (S : Nat)) (h1 : F.fn = 1) (hp : F.pc = 1) (hr : F.r 1 < 18446744073709551616) (hs : slOf (F.r 1) = 0) : zG 105 σ p t c tp n l g (g.back t fs [0, 0]) := by
 intro K s M lab w h hM hB hA
 obtain ⟨b, hT⟩ := hA.atTop hM hB ht hq hthr
 obtain rfl := hA.cc
 have hmay := hA.may
 have b1 : (s.tick l).mem.acc < 1000000000 := by show s.mem.acc < _; have := hA.acc; omega
 have b2 : (s.tick l).mem.wr < 1000000000 := by show s.mem.wr < _; have := hA.wr; omega
 have hl' : zT (s.tick l).c (t : Nat) = (l : Nat) := hl
 have hlc' : (l : Int) < (s.tick l).c 0 := hlc
 have hfs' : (fs.map Fr.enc).length < 1000000 := by rw [List.length_map]; omega
 have gl : s.given.length ≤ n + 1 := Nat.le_succ_of_le hA.given
 have bk : (s.thr t).frames.dropLast = fs.map Fr.enc ∧ (s.thr t).st = (s.thr t).st ∧ (s.thr t).ki = (s.thr t).ki := ⟨by rw [hA.thr.fr t ht, hthr]; simp, rfl, rfl⟩
 have S256 := hmay.2.2.2.2.1
 refine (sN h hT (by show (F.fn : Int) = 1; omega) hfs' (R := fun s' => Did s.c n l s s' (g.back t fs [0, 0])) fun K1 M1 lab1 w1 h1' hT1 => ?_).mono fun r w' ⟨e, M', lab', s', a1, a2, a3, a4⟩ => ⟨e, M', lab', s', a1, a3, a2, a4⟩
 refine (take_1end h1' hT1 (by show (F.pc : Int) = 1; omega) (x := F.r 1) rfl hr hs hfs').mono (fun r w' ⟨e, M', lab', h', hM', hB'⟩ => ⟨e, M', lab', _, h', hM', hB', ?_⟩)
 exact Did.none hA ⟨rfl, rfl, rfl, rfl, rfl⟩ rfl hA.words (hA.ward.mono (Nat.le_succ _)) (hA.thr.back (t := t) (fs := fs) (us := [0, 0]) (x := s.thr t) bk) gl
theorem does_t1b {σ : World} {p t q l n B S : Nat} {c : Nat → Int} {tp : List Nat} {g : GM} {fs : List Fr} {F : Fr} (hn : n < 100000) (ht : (t : Int) < c 1) (hq : tp[t]? = some q) (hl : zT c t = (l : Nat)) (hlc : (l : Int) < c 0) (hthr : g.thr t = fs ++ [F]) (hfs : fs.length < 100000) (hB' : c 11 = (B : Nat)) (hS' : c 10 = (S : Nat)) (h1 : F.fn = 1) (hp : F.pc = 1) (hr : F.r 1 < 18446744073709551616) (hs : slOf (F.r 1) ≠ 0) (hs2 : slOf (F.r 1) ≤ S) : zG 105 σ p t c tp n l g (g.top t fs ((F.reg 2 (g.w l (oLk B (slOf (F.r 1))))).goto 2)) := by
 intro K s M lab w h hM hB hA
 obtain ⟨b, hT⟩ := hA.atTop hM hB ht hq hthr
 obtain rfl := hA.cc
 have hmay := hA.may
 have b1 : (s.tick l).mem.acc < 1000000000 := by show s.mem.acc < _; have := hA.acc; omega
 have b2 : (s.tick l).mem.wr < 1000000000 := by show s.mem.wr < _; have := hA.wr; omega
 have hl' : zT (s.tick l).c (t : Nat) = (l : Nat) := hl
 have hlc' : (l : Int) < (s.tick l).c 0 := hlc
 have hfs' : (fs.map Fr.enc).length < 1000000 := by rw [List.length_map]; omega
 have gl : s.given.length ≤ n + 1 := Nat.le_succ_of_le hA.given
 have bk : (s.thr t).frames.dropLast = fs.map Fr.enc ∧ (s.thr t).st = (s.thr t).st ∧ (s.thr t).ki = (s.thr t).ki := ⟨by rw [hA.thr.fr t ht, hthr]; simp, rfl, rfl⟩
 have S256 := hmay.2.2.2.2.1
 have hk := jR (c := s.c) (i := slOf (F.r 1)) (by omega) (by omega)
 have hit := yS hmay hA.memN hlc hk
 have hv : s.mem.load (atK s.c (l : Nat) 8 (slOf (F.r 1) : Nat) 0) = (g.w l (oLk B (slOf (F.r 1))) : Int) := yL hit (by rw [hA.words.at hmay hlc hk, off_link hB' (by omega)])
 refine (sN h hT (by show (F.fn : Int) = 1; omega) hfs' (R := fun s' => Did s.c n l s s' (g.top t fs ((F.reg 2 (g.w l (oLk B (slOf (F.r 1))))).goto 2))) fun K1 M1 lab1 w1 h1' hT1 => ?_).mono fun r w' ⟨e, M', lab', s', a1, a2, a3, a4⟩ => ⟨e, M', lab', s', a1, a3, a2, a4⟩
 refine (take_1 h1' hT1 (by show (F.pc : Int) = 1; omega) (x := F.r 1) rfl hr hs (zD hT1.mach hl' hlc' hk) b1).mono (fun r w' ⟨e, M', lab', h', hT'⟩ => ⟨e, M', lab', _, h', hT'.mach, hT'.base, ?_⟩)
 refine Did.one hA hk (Nat.zero_le _) ⟨rfl, rfl, rfl, rfl, rfl⟩ (vH hit) hA.words (hA.ward.mono (Nat.le_succ _)) ?_ gl
 have := hA.thr.top (t := t) (fs := fs) (F := (F.reg 2 (g.w l (oLk B (slOf (F.r 1))))).goto 2)
 rw [← wC, ← wJ, ← hv] at this
 exact this
theorem does_t2a {σ : World} {p t q l n B S : Nat} {c : Nat → Int} {tp : List Nat} {g : GM} {fs : List Fr} {F : Fr} (hn : n < 100000) (ht : (t : Int) < c 1) (hq : tp[t]? = some q) (hl : zT c t = (l : Nat)) (hlc : (l : Int) < c 0) (hthr : g.thr t = fs ++ [F]) (hfs : fs.length < 100000) (hB' : c 11 = (B : Nat)) (hS' : c 10 = (S : Nat)) (h1 : F.fn = 1) (hp : F.pc = 2) (hr : F.r 1 < 18446744073709551616) (hs0 : slOf (F.r 1) ≠ 0) (hs2 : slOf (F.r 1) ≤ S) (hy : F.r 2 < 9223372036854775808) (hs : g.w l 0 = F.r 1) (hh : g.held l (slOf (F.r 1)) = false) : zG 105 σ p t c tp n l g (((g.set l 0 (yK (F.r 2) (cnt (F.r 1) + 1))).hold l (slOf (F.r 1))).top t fs (F.goto 3)) := by
 intro K s M lab w h hM hB hA
 obtain ⟨b, hT⟩ := hA.atTop hM hB ht hq hthr
 obtain rfl := hA.cc
 have hmay := hA.may
 have b1 : (s.tick l).mem.acc < 1000000000 := by show s.mem.acc < _; have := hA.acc; omega
 have b2 : (s.tick l).mem.wr < 1000000000 := by show s.mem.wr < _; have := hA.wr; omega
 have hl' : zT (s.tick l).c (t : Nat) = (l : Nat) := hl
 have hlc' : (l : Int) < (s.tick l).c 0 := hlc
 have hfs' : (fs.map Fr.enc).length < 1000000 := by rw [List.length_map]; omega
 have gl : s.given.length ≤ n + 1 := Nat.le_succ_of_le hA.given
 have bk : (s.thr t).frames.dropLast = fs.map Fr.enc ∧ (s.thr t).st = (s.thr t).st ∧ (s.thr t).ki = (s.thr t).ki := ⟨by rw [hA.thr.fr t ht, hthr]; simp, rfl, rfl⟩
 have S256 := hmay.2.2.2.2.1
 have hk := wE s.c
 have hit := yS hmay hA.memN hlc hk
 have hv : s.mem.load (atK s.c (l : Nat) 0 0 0) = (g.w l 0 : Int) := yL hit (by rw [hA.words.at hmay hlc hk, xE])
 have hf0 : s.mem.f (atK s.c (l : Nat) 0 0 0).toNat = (g.w l 0 : Int) := by rw [hA.words.at hmay hlc hk, xE]
 have hsw : (s.tick l).mem.swaps (atK (s.tick l).c (l : Nat) 0 0 0) (F.r 1 : Nat) = true := by show s.mem.swaps _ _ = true; unfold MemS.swaps; rw [show (s.tick l).c = s.c from rfl, hit, hf0, hs]; simp
 have hth : (s.tick l).ward.there (l : Nat) (cutN (F.r 1) 0 8 : Nat) = true := WardS.there_iff.2 ⟨by omega, by show (l : Int) < s.ward.lv; rw [hA.ward.lv]; exact hlc, by have : slOf (F.r 1) = cutN (F.r 1) 0 8 := rfl; omega, by show _ ≤ s.ward.sl; rw [hA.ward.sl, hS']; have : slOf (F.r 1) = cutN (F.r 1) 0 8 := rfl; omega⟩
 have hv0 : valE (l : Nat) (cutN (F.r 1) 0 8 : Nat) (s.tick l).ward.held = 0 := by
  show valE _ ((slOf (F.r 1) : Nat) : Int) s.ward.held = 0
  rw [hA.ward.held l _ hlc (by omega) (by omega), hh]; rfl
 refine (sN h hT (by show (F.fn : Int) = 1; omega) hfs' (R := fun s' => Did s.c n l s s' (((g.set l 0 (yK (F.r 2) (cnt (F.r 1) + 1))).hold l (slOf (F.r 1))).top t fs (F.goto 3))) fun K1 M1 lab1 w1 h1' hT1 => ?_).mono fun r w' ⟨e, M', lab', s', a1, a2, a3, a4⟩ => ⟨e, M', lab', s', a1, a3, a2, a4⟩
 refine (take_2yes h1' hT1 (by show (F.pc : Int) = 2; omega) (x := F.r 1) (y := F.r 2) rfl hr rfl hy hl' hlc' b1 b2 hsw hth hv0).mono (fun r w' ⟨e, M', lab', h', hT'⟩ => ⟨e, M', lab', _, h', hT'.mach, hT'.base, ?_⟩)
 refine Did.one hA hk (Nat.le_refl _) ⟨rfl, rfl, rfl, rfl, rfl⟩ (qY hit hsw) ?_ ((hA.ward.take (i := slOf (F.r 1)) hlc (by omega) (by omega)).mono (Nat.le_succ _)) (((hA.thr.set l 0 _).hold l (slOf (F.r 1))).top (t := t) (fs := fs) (F := F.goto 3)) gl
 have := hA.words.set hmay (l := l) hk (yK (F.r 2) (cnt (F.r 1) + 1))
 rw [xE] at this
 exact this
theorem does_t2b {σ : World} {p t q l n B S : Nat} {c : Nat → Int} {tp : List Nat} {g : GM} {fs : List Fr} {F : Fr} (hn : n < 100000) (ht : (t : Int) < c 1) (hq : tp[t]? = some q) (hl : zT c t = (l : Nat)) (hlc : (l : Int) < c 0) (hthr : g.thr t = fs ++ [F]) (hfs : fs.length < 100000) (hB' : c 11 = (B : Nat)) (hS' : c 10 = (S : Nat)) (h1 : F.fn = 1) (hp : F.pc = 2) (hr : F.r 1 < 18446744073709551616) (hy : F.r 2 < 9223372036854775808) (hs : g.w l 0 ≠ F.r 1) : zG 105 σ p t c tp n l g (g.top t fs (F.goto 0)) := by
 intro K s M lab w h hM hB hA
 obtain ⟨b, hT⟩ := hA.atTop hM hB ht hq hthr
 obtain rfl := hA.cc
 have hmay := hA.may
 have b1 : (s.tick l).mem.acc < 1000000000 := by show s.mem.acc < _; have := hA.acc; omega
 have b2 : (s.tick l).mem.wr < 1000000000 := by show s.mem.wr < _; have := hA.wr; omega
 have hl' : zT (s.tick l).c (t : Nat) = (l : Nat) := hl
 have hlc' : (l : Int) < (s.tick l).c 0 := hlc
 have hfs' : (fs.map Fr.enc).length < 1000000 := by rw [List.length_map]; omega
 have gl : s.given.length ≤ n + 1 := Nat.le_succ_of_le hA.given
 have bk : (s.thr t).frames.dropLast = fs.map Fr.enc ∧ (s.thr t).st = (s.thr t).st ∧ (s.thr t).ki = (s.thr t).ki := ⟨by rw [hA.thr.fr t ht, hthr]; simp, rfl, rfl⟩
 have S256 := hmay.2.2.2.2.1
 have hk := wE s.c
 have hit := yS hmay hA.memN hlc hk
 have hv : s.mem.load (atK s.c (l : Nat) 0 0 0) = (g.w l 0 : Int) := yL hit (by rw [hA.words.at hmay hlc hk, xE])
 have hf0 : s.mem.f (atK s.c (l : Nat) 0 0 0).toNat = (g.w l 0 : Int) := by rw [hA.words.at hmay hlc hk, xE]
 have hsw : (s.tick l).mem.swaps (atK (s.tick l).c (l : Nat) 0 0 0) (F.r 1 : Nat) = false := by show s.mem.swaps _ _ = false; unfold MemS.swaps; rw [show (s.tick l).c = s.c from rfl, hit, hf0]; simp; omega
 refine (sN h hT (by show (F.fn : Int) = 1; omega) hfs' (R := fun s' => Did s.c n l s s' (g.top t fs (F.goto 0))) fun K1 M1 lab1 w1 h1' hT1 => ?_).mono fun r w' ⟨e, M', lab', s', a1, a2, a3, a4⟩ => ⟨e, M', lab', s', a1, a3, a2, a4⟩
 refine (take_2no h1' hT1 (by show (F.pc : Int) = 2; omega) (x := F.r 1) (y := F.r 2) rfl hr rfl hy hl' hlc' b1 b2 hsw).mono (fun r w' ⟨e, M', lab', h', hT'⟩ => ⟨e, M', lab', _, h', hT'.mach, hT'.base, ?_⟩)
 exact Did.one hA hk (Nat.zero_le _) ⟨rfl, rfl, rfl, rfl, rfl⟩ (oP hit hsw) hA.words (hA.ward.mono (Nat.le_succ _)) (hA.thr.top (t := t) (fs := fs) (F := F.goto 0)) gl
theorem does_t3 {σ : World} {p t q l n B S : Nat} {c : Nat → Int} {tp : List Nat} {g : GM} {fs : List Fr} {F : Fr} (hn : n < 100000) (ht : (t : Int) < c 1) (hq : tp[t]? = some q) (hl : zT c t = (l : Nat)) (hlc : (l : Int) < c 0) (hthr : g.thr t = fs ++ [F]) (hfs : fs.length < 100000) (hB' : c 11 = (B : Nat)) (hS' : c 10 = (S : Nat)) (h1 : F.fn = 1) (hp : F.pc = 3) (hr : F.r 1 < 18446744073709551616) (hs0 : slOf (F.r 1) ≠ 0) (hs2 : slOf (F.r 1) ≤ S) (hz : g.w l (oNd B S (slOf (F.r 1)) 0) < 18446744073709551616) : zG 105 σ p t c tp n l g (g.back t fs [slOf (F.r 1), zB (g.w l (oNd B S (slOf (F.r 1)) 0))]) := by
 intro K s M lab w h hM hB hA
 obtain ⟨b, hT⟩ := hA.atTop hM hB ht hq hthr
 obtain rfl := hA.cc
 have hmay := hA.may
 have b1 : (s.tick l).mem.acc < 1000000000 := by show s.mem.acc < _; have := hA.acc; omega
 have b2 : (s.tick l).mem.wr < 1000000000 := by show s.mem.wr < _; have := hA.wr; omega
 have hl' : zT (s.tick l).c (t : Nat) = (l : Nat) := hl
 have hlc' : (l : Int) < (s.tick l).c 0 := hlc
 have hfs' : (fs.map Fr.enc).length < 1000000 := by rw [List.length_map]; omega
 have gl : s.given.length ≤ n + 1 := Nat.le_succ_of_le hA.given
 have bk : (s.thr t).frames.dropLast = fs.map Fr.enc ∧ (s.thr t).st = (s.thr t).st ∧ (s.thr t).ki = (s.thr t).ki := ⟨by rw [hA.thr.fr t ht, hthr]; simp, rfl, rfl⟩
 have S256 := hmay.2.2.2.2.1
 have hk := wH (c := s.c) (i := slOf (F.r 1)) (j := 0) (by omega) (by omega) (by omega)
 have hit := yS hmay hA.memN hlc hk
 have hv : s.mem.load (atK s.c (l : Nat) 9 (slOf (F.r 1) : Nat) ((0 : Nat) : Int)) = (g.w l (oNd B S (slOf (F.r 1)) 0) : Int) := yL hit (by rw [hA.words.at hmay hlc hk, vL hB' hS' (by omega)])
 refine (sN h hT (by show (F.fn : Int) = 1; omega) hfs' (R := fun s' => Did s.c n l s s' (g.back t fs [slOf (F.r 1), zB (g.w l (oNd B S (slOf (F.r 1)) 0))])) fun K1 M1 lab1 w1 h1' hT1 => ?_).mono fun r w' ⟨e, M', lab', s', a1, a2, a3, a4⟩ => ⟨e, M', lab', s', a1, a3, a2, a4⟩
 refine (take_3 h1' hT1 (by show (F.pc : Int) = 3; omega) (x := F.r 1) rfl hr hl' hlc' hk hv hz b1 hfs').mono (fun r w' ⟨e, M', lab', h', hM', hB'⟩ => ⟨e, M', lab', _, h', hM', hB', ?_⟩)
 exact Did.one hA hk (Nat.zero_le _) ⟨rfl, rfl, rfl, rfl, rfl⟩ (vH hit) hA.words (hA.ward.mono (Nat.le_succ _)) (hA.thr.back (t := t) (fs := fs) (us := [slOf (F.r 1), zB (g.w l (oNd B S (slOf (F.r 1)) 0))]) (x := s.thr t) bk) gl
theorem does_g0 {σ : World} {p t q l n B S : Nat} {c : Nat → Int} {tp : List Nat} {g : GM} {fs : List Fr} {F : Fr} (hn : n < 100000) (ht : (t : Int) < c 1) (hq : tp[t]? = some q) (hl : zT c t = (l : Nat)) (hlc : (l : Int) < c 0) (hthr : g.thr t = fs ++ [F]) (hfs : fs.length < 100000) (hB' : c 11 = (B : Nat)) (hS' : c 10 = (S : Nat)) (h1 : F.fn = 2) (hp : F.pc = 0) (x1 : 1 ≤ F.r 0) (x2 : F.r 0 ≤ S) (hz : g.w l (oNd B S (F.r 0) 0) < 18446744073709551616) : zG 105 σ p t c tp n l g (g.top t fs ((F.reg 2 (zB (g.w l (oNd B S (F.r 0) 0)) + 1)).goto 1)) := by
 intro K s M lab w h hM hB hA
 obtain ⟨b, hT⟩ := hA.atTop hM hB ht hq hthr
 obtain rfl := hA.cc
 have hmay := hA.may
 have b1 : (s.tick l).mem.acc < 1000000000 := by show s.mem.acc < _; have := hA.acc; omega
 have b2 : (s.tick l).mem.wr < 1000000000 := by show s.mem.wr < _; have := hA.wr; omega
 have hl' : zT (s.tick l).c (t : Nat) = (l : Nat) := hl
 have hlc' : (l : Int) < (s.tick l).c 0 := hlc
 have hfs' : (fs.map Fr.enc).length < 1000000 := by rw [List.length_map]; omega
 have gl : s.given.length ≤ n + 1 := Nat.le_succ_of_le hA.given
 have bk : (s.thr t).frames.dropLast = fs.map Fr.enc ∧ (s.thr t).st = (s.thr t).st ∧ (s.thr t).ki = (s.thr t).ki := ⟨by rw [hA.thr.fr t ht, hthr]; simp, rfl, rfl⟩
 have S256 := hmay.2.2.2.2.1
 have hk := wH (c := s.c) (i := F.r 0) (j := 0) (by omega) (by omega) (by omega)
 have hit := yS hmay hA.memN hlc hk
 have hv : s.mem.load (atK s.c (l : Nat) 9 (F.r 0 : Nat) ((0 : Nat) : Int)) = (g.w l (oNd B S (F.r 0) 0) : Int) := yL hit (by rw [hA.words.at hmay hlc hk, vL hB' hS' (by omega)])
 refine (wT h hT (by show (F.fn : Int) = 2; omega) hfs' (R := fun s' => Did s.c n l s s' (g.top t fs ((F.reg 2 (zB (g.w l (oNd B S (F.r 0) 0)) + 1)).goto 1))) fun K1 M1 lab1 w1 h1' hT1 => ?_).mono fun r w' ⟨e, M', lab', s', a1, a2, a3, a4⟩ => ⟨e, M', lab', s', a1, a3, a2, a4⟩
 refine (give_0 h1' hT1 (by show (F.pc : Int) = 0; omega) (sl := F.r 0) rfl (by omega) hl' hlc' hk hv hz b1).mono (fun r w' ⟨e, M', lab', h', hT'⟩ => ⟨e, M', lab', _, h', hT'.mach, hT'.base, ?_⟩)
 refine Did.one hA hk (Nat.zero_le _) ⟨rfl, rfl, rfl, rfl, rfl⟩ (vH hit) hA.words (hA.ward.mono (Nat.le_succ _)) ?_ gl
 have := hA.thr.top (t := t) (fs := fs) (F := (F.reg 2 (zB (g.w l (oNd B S (F.r 0) 0)) + 1)).goto 1)
 rw [← wC, ← wJ] at this
 exact this
theorem does_g1 {σ : World} {p t q l n B S : Nat} {c : Nat → Int} {tp : List Nat} {g : GM} {fs : List Fr} {F : Fr} (hn : n < 100000) (ht : (t : Int) < c 1) (hq : tp[t]? = some q) (hl : zT c t = (l : Nat)) (hlc : (l : Int) < c 0) (hthr : g.thr t = fs ++ [F]) (hfs : fs.length < 100000) (hB' : c 11 = (B : Nat)) (hS' : c 10 = (S : Nat)) (h1 : F.fn = 2) (hp : F.pc = 1) (x1 : 1 ≤ F.r 0) (x2 : F.r 0 ≤ S) (hg1 : 1 ≤ F.r 2) (hg2 : F.r 2 ≤ 4294967296) : zG 105 σ p t c tp n l g ((g.set l (oNd B S (F.r 0) 0) (zA (F.r 2 - 1) 3)).top t fs (F.goto 2)) := by
 intro K s M lab w h hM hB hA
 obtain ⟨b, hT⟩ := hA.atTop hM hB ht hq hthr
 obtain rfl := hA.cc
 have hmay := hA.may
 have b1 : (s.tick l).mem.acc < 1000000000 := by show s.mem.acc < _; have := hA.acc; omega
 have b2 : (s.tick l).mem.wr < 1000000000 := by show s.mem.wr < _; have := hA.wr; omega
 have hl' : zT (s.tick l).c (t : Nat) = (l : Nat) := hl
 have hlc' : (l : Int) < (s.tick l).c 0 := hlc
 have hfs' : (fs.map Fr.enc).length < 1000000 := by rw [List.length_map]; omega
 have gl : s.given.length ≤ n + 1 := Nat.le_succ_of_le hA.given
 have bk : (s.thr t).frames.dropLast = fs.map Fr.enc ∧ (s.thr t).st = (s.thr t).st ∧ (s.thr t).ki = (s.thr t).ki := ⟨by rw [hA.thr.fr t ht, hthr]; simp, rfl, rfl⟩
 have S256 := hmay.2.2.2.2.1
 have hk := wH (c := s.c) (i := F.r 0) (j := 0) (by omega) (by omega) (by omega)
 have hit := yS hmay hA.memN hlc hk
 refine (wT h hT (by show (F.fn : Int) = 2; omega) hfs' (R := fun s' => Did s.c n l s s' ((g.set l (oNd B S (F.r 0) 0) (zA (F.r 2 - 1) 3)).top t fs (F.goto 2))) fun K1 M1 lab1 w1 h1' hT1 => ?_).mono fun r w' ⟨e, M', lab', s', a1, a2, a3, a4⟩ => ⟨e, M', lab', s', a1, a3, a2, a4⟩
 refine (give_1 h1' hT1 (by show (F.pc : Int) = 1; omega) (sl := F.r 0) (g := F.r 2 - 1) rfl (by omega) (by show (F.r 2 : Int) = _; omega) (by omega) hl' hlc' hk b1 b2).mono (fun r w' ⟨e, M', lab', h', hT'⟩ => ⟨e, M', lab', _, h', hT'.mach, hT'.base, ?_⟩)
 refine Did.one hA hk (Nat.le_refl _) ⟨rfl, rfl, rfl, rfl, rfl⟩ (xC hit) ?_ (hA.ward.mono (Nat.le_succ _)) ((hA.thr.set l _ _).top (t := t) (fs := fs) (F := F.goto 2)) gl
 have := hA.words.set hmay (l := l) hk (zA (F.r 2 - 1) 3)
 rw [vL hB' hS' (by omega)] at this
 exact this
theorem does_g2 {σ : World} {p t q l n B S : Nat} {c : Nat → Int} {tp : List Nat} {g : GM} {fs : List Fr} {F : Fr} (hn : n < 100000) (ht : (t : Int) < c 1) (hq : tp[t]? = some q) (hl : zT c t = (l : Nat)) (hlc : (l : Int) < c 0) (hthr : g.thr t = fs ++ [F]) (hfs : fs.length < 100000) (hB' : c 11 = (B : Nat)) (hS' : c 10 = (S : Nat)) (h1 : F.fn = 2) (hp : F.pc = 2) (x1 : 1 ≤ F.r 0) (x2 : F.r 0 ≤ S) : zG 105 σ p t c tp n l g ((g.set l (oNd B S (F.r 0) 3) 0).top t fs (F.goto 3)) := by
 intro K s M lab w h hM hB hA
 obtain ⟨b, hT⟩ := hA.atTop hM hB ht hq hthr
 obtain rfl := hA.cc
 have hmay := hA.may
 have b1 : (s.tick l).mem.acc < 1000000000 := by show s.mem.acc < _; have := hA.acc; omega
 have b2 : (s.tick l).mem.wr < 1000000000 := by show s.mem.wr < _; have := hA.wr; omega
 have hl' : zT (s.tick l).c (t : Nat) = (l : Nat) := hl
 have hlc' : (l : Int) < (s.tick l).c 0 := hlc
 have hfs' : (fs.map Fr.enc).length < 1000000 := by rw [List.length_map]; omega
 have gl : s.given.length ≤ n + 1 := Nat.le_succ_of_le hA.given
 have bk : (s.thr t).frames.dropLast = fs.map Fr.enc ∧ (s.thr t).st = (s.thr t).st ∧ (s.thr t).ki = (s.thr t).ki := ⟨by rw [hA.thr.fr t ht, hthr]; simp, rfl, rfl⟩
 have S256 := hmay.2.2.2.2.1
 have hk := wH (c := s.c) (i := F.r 0) (j := 3) (by omega) (by omega) (by omega)
 have hit := yS hmay hA.memN hlc hk
 refine (wT h hT (by show (F.fn : Int) = 2; omega) hfs' (R := fun s' => Did s.c n l s s' ((g.set l (oNd B S (F.r 0) 3) 0).top t fs (F.goto 3))) fun K1 M1 lab1 w1 h1' hT1 => ?_).mono fun r w' ⟨e, M', lab', s', a1, a2, a3, a4⟩ => ⟨e, M', lab', s', a1, a3, a2, a4⟩
 refine (give_2 h1' hT1 (by show (F.pc : Int) = 2; omega) (sl := F.r 0) rfl (by omega) hl' hlc' hk b1 b2).mono (fun r w' ⟨e, M', lab', h', hT'⟩ => ⟨e, M', lab', _, h', hT'.mach, hT'.base, ?_⟩)
 refine Did.one hA hk (Nat.le_refl _) ⟨rfl, rfl, rfl, rfl, rfl⟩ (xC hit) ?_ (hA.ward.mono (Nat.le_succ _)) ((hA.thr.set l _ _).top (t := t) (fs := fs) (F := F.goto 3)) gl
 have := hA.words.set hmay (l := l) hk 0
 rw [vL hB' hS' (by omega)] at this
 exact this
theorem does_g3 {σ : World} {p t q l n B S : Nat} {c : Nat → Int} {tp : List Nat} {g : GM} {fs : List Fr} {F : Fr} (hn : n < 100000) (ht : (t : Int) < c 1) (hq : tp[t]? = some q) (hl : zT c t = (l : Nat)) (hlc : (l : Int) < c 0) (hthr : g.thr t = fs ++ [F]) (hfs : fs.length < 100000) (hB' : c 11 = (B : Nat)) (hS' : c 10 = (S : Nat)) (h1 : F.fn = 2) (hp : F.pc = 3) (x1 : 1 ≤ F.r 0) (x2 : F.r 0 ≤ S) : zG 105 σ p t c tp n l g ((g.set l (oNd B S (F.r 0) 4) 0).top t fs (F.goto 4)) := by
 intro K s M lab w h hM hB hA
 obtain ⟨b, hT⟩ := hA.atTop hM hB ht hq hthr
 obtain rfl := hA.cc
 have hmay := hA.may
 have b1 : (s.tick l).mem.acc < 1000000000 := by show s.mem.acc < _; have := hA.acc; omega
 have b2 : (s.tick l).mem.wr < 1000000000 := by show s.mem.wr < _; have := hA.wr; omega
 have hl' : zT (s.tick l).c (t : Nat) = (l : Nat) := hl
 have hlc' : (l : Int) < (s.tick l).c 0 := hlc
 have hfs' : (fs.map Fr.enc).length < 1000000 := by rw [List.length_map]; omega
 have gl : s.given.length ≤ n + 1 := Nat.le_succ_of_le hA.given
 have bk : (s.thr t).frames.dropLast = fs.map Fr.enc ∧ (s.thr t).st = (s.thr t).st ∧ (s.thr t).ki = (s.thr t).ki := ⟨by rw [hA.thr.fr t ht, hthr]; simp, rfl, rfl⟩
 have S256 := hmay.2.2.2.2.1
 have hk := wH (c := s.c) (i := F.r 0) (j := 4) (by omega) (by omega) (by omega)
 have hit := yS hmay hA.memN hlc hk
 refine (wT h hT (by show (F.fn : Int) = 2; omega) hfs' (R := fun s' => Did s.c n l s s' ((g.set l (oNd B S (F.r 0) 4) 0).top t fs (F.goto 4))) fun K1 M1 lab1 w1 h1' hT1 => ?_).mono fun r w' ⟨e, M', lab', s', a1, a2, a3, a4⟩ => ⟨e, M', lab', s', a1, a3, a2, a4⟩
 refine (give_3 h1' hT1 (by show (F.pc : Int) = 3; omega) (sl := F.r 0) rfl (by omega) hl' hlc' hk b1 b2).mono (fun r w' ⟨e, M', lab', h', hT'⟩ => ⟨e, M', lab', _, h', hT'.mach, hT'.base, ?_⟩)
 refine Did.one hA hk (Nat.le_refl _) ⟨rfl, rfl, rfl, rfl, rfl⟩ (xC hit) ?_ (hA.ward.mono (Nat.le_succ _)) ((hA.thr.set l _ _).top (t := t) (fs := fs) (F := F.goto 4)) gl
 have := hA.words.set hmay (l := l) hk 0
 rw [vL hB' hS' (by omega)] at this
 exact this
theorem does_g4 {σ : World} {p t q l n B S : Nat} {c : Nat → Int} {tp : List Nat} {g : GM} {fs : List Fr} {F : Fr} (hn : n < 100000) (ht : (t : Int) < c 1) (hq : tp[t]? = some q) (hl : zT c t = (l : Nat)) (hlc : (l : Int) < c 0) (hthr : g.thr t = fs ++ [F]) (hfs : fs.length < 100000) (hB' : c 11 = (B : Nat)) (hS' : c 10 = (S : Nat)) (h1 : F.fn = 2) (hp : F.pc = 4) (x1 : 1 ≤ F.r 0) (x2 : F.r 0 ≤ S) : zG 105 σ p t c tp n l g ((g.set l (oNd B S (F.r 0) 2) 0).top t fs (F.goto 5)) := by
 intro K s M lab w h hM hB hA
 obtain ⟨b, hT⟩ := hA.atTop hM hB ht hq hthr
 obtain rfl := hA.cc
 have hmay := hA.may
 have b1 : (s.tick l).mem.acc < 1000000000 := by show s.mem.acc < _; have := hA.acc; omega
 have b2 : (s.tick l).mem.wr < 1000000000 := by show s.mem.wr < _; have := hA.wr; omega
 have hl' : zT (s.tick l).c (t : Nat) = (l : Nat) := hl
 have hlc' : (l : Int) < (s.tick l).c 0 := hlc
 have hfs' : (fs.map Fr.enc).length < 1000000 := by rw [List.length_map]; omega
 have gl : s.given.length ≤ n + 1 := Nat.le_succ_of_le hA.given
 have bk : (s.thr t).frames.dropLast = fs.map Fr.enc ∧ (s.thr t).st = (s.thr t).st ∧ (s.thr t).ki = (s.thr t).ki := ⟨by rw [hA.thr.fr t ht, hthr]; simp, rfl, rfl⟩
 have S256 := hmay.2.2.2.2.1
 have hk := wH (c := s.c) (i := F.r 0) (j := 2) (by omega) (by omega) (by omega)
 have hit := yS hmay hA.memN hlc hk
 refine (wT h hT (by show (F.fn : Int) = 2; omega) hfs' (R := fun s' => Did s.c n l s s' ((g.set l (oNd B S (F.r 0) 2) 0).top t fs (F.goto 5))) fun K1 M1 lab1 w1 h1' hT1 => ?_).mono fun r w' ⟨e, M', lab', s', a1, a2, a3, a4⟩ => ⟨e, M', lab', s', a1, a3, a2, a4⟩
 refine (give_4 h1' hT1 (by show (F.pc : Int) = 4; omega) (sl := F.r 0) rfl (by omega) hl' hlc' hk b1 b2).mono (fun r w' ⟨e, M', lab', h', hT'⟩ => ⟨e, M', lab', _, h', hT'.mach, hT'.base, ?_⟩)
 refine Did.one hA hk (Nat.le_refl _) ⟨rfl, rfl, rfl, rfl, rfl⟩ (xC hit) ?_ (hA.ward.mono (Nat.le_succ _)) ((hA.thr.set l _ _).top (t := t) (fs := fs) (F := F.goto 5)) gl
 have := hA.words.set hmay (l := l) hk 0
 rw [vL hB' hS' (by omega)] at this
 exact this
theorem does_g5 {σ : World} {p t q l n B S : Nat} {c : Nat → Int} {tp : List Nat} {g : GM} {fs : List Fr} {F : Fr} (hn : n < 100000) (ht : (t : Int) < c 1) (hq : tp[t]? = some q) (hl : zT c t = (l : Nat)) (hlc : (l : Int) < c 0) (hthr : g.thr t = fs ++ [F]) (hfs : fs.length < 100000) (hB' : c 11 = (B : Nat)) (hS' : c 10 = (S : Nat)) (h1 : F.fn = 2) (hp : F.pc = 5) (x1 : 1 ≤ F.r 0) (x2 : F.r 0 ≤ S) : zG 105 σ p t c tp n l g ((g.set l (oNd B S (F.r 0) 1) 0).top t fs (F.goto 6)) := by
 intro K s M lab w h hM hB hA
 obtain ⟨b, hT⟩ := hA.atTop hM hB ht hq hthr
 obtain rfl := hA.cc
 have hmay := hA.may
 have b1 : (s.tick l).mem.acc < 1000000000 := by show s.mem.acc < _; have := hA.acc; omega
 have b2 : (s.tick l).mem.wr < 1000000000 := by show s.mem.wr < _; have := hA.wr; omega
 have hl' : zT (s.tick l).c (t : Nat) = (l : Nat) := hl
 have hlc' : (l : Int) < (s.tick l).c 0 := hlc
 have hfs' : (fs.map Fr.enc).length < 1000000 := by rw [List.length_map]; omega
 have gl : s.given.length ≤ n + 1 := Nat.le_succ_of_le hA.given
 have bk : (s.thr t).frames.dropLast = fs.map Fr.enc ∧ (s.thr t).st = (s.thr t).st ∧ (s.thr t).ki = (s.thr t).ki := ⟨by rw [hA.thr.fr t ht, hthr]; simp, rfl, rfl⟩
 have S256 := hmay.2.2.2.2.1
 have hk := wH (c := s.c) (i := F.r 0) (j := 1) (by omega) (by omega) (by omega)
 have hit := yS hmay hA.memN hlc hk
 refine (wT h hT (by show (F.fn : Int) = 2; omega) hfs' (R := fun s' => Did s.c n l s s' ((g.set l (oNd B S (F.r 0) 1) 0).top t fs (F.goto 6))) fun K1 M1 lab1 w1 h1' hT1 => ?_).mono fun r w' ⟨e, M', lab', s', a1, a2, a3, a4⟩ => ⟨e, M', lab', s', a1, a3, a2, a4⟩
 refine (give_5 h1' hT1 (by show (F.pc : Int) = 5; omega) (sl := F.r 0) rfl (by omega) hl' hlc' hk b1 b2).mono (fun r w' ⟨e, M', lab', h', hT'⟩ => ⟨e, M', lab', _, h', hT'.mach, hT'.base, ?_⟩)
 refine Did.one hA hk (Nat.le_refl _) ⟨rfl, rfl, rfl, rfl, rfl⟩ (xC hit) ?_ (hA.ward.mono (Nat.le_succ _)) ((hA.thr.set l _ _).top (t := t) (fs := fs) (F := F.goto 6)) gl
 have := hA.words.set hmay (l := l) hk 0
 rw [vL hB' hS' (by omega)] at this
 exact this
theorem does_g6a {σ : World} {p t q l n B S : Nat} {c : Nat → Int} {tp : List Nat} {g : GM} {fs : List Fr} {F : Fr} (hn : n < 100000) (ht : (t : Int) < c 1) (hq : tp[t]? = some q) (hl : zT c t = (l : Nat)) (hlc : (l : Int) < c 0) (hthr : g.thr t = fs ++ [F]) (hfs : fs.length < 100000) (hB' : c 11 = (B : Nat)) (hS' : c 10 = (S : Nat)) (h1 : F.fn = 2) (hp : F.pc = 6) (x1 : 1 ≤ F.r 0) (x2 : F.r 0 ≤ S) (hg : F.r 2 < 4294967296) (hh : g.held l (F.r 0) = true) (hs : (F.r 2 : Int) < c 12) : zG 105 σ p t c tp n l g (((g.set l (oNd B S (F.r 0) 0) (zA (F.r 2) 0)).drop l (F.r 0)).top t fs (F.goto 7)) := by
 intro K s M lab w h hM hB hA
 obtain ⟨b, hT⟩ := hA.atTop hM hB ht hq hthr
 obtain rfl := hA.cc
 have hmay := hA.may
 have b1 : (s.tick l).mem.acc < 1000000000 := by show s.mem.acc < _; have := hA.acc; omega
 have b2 : (s.tick l).mem.wr < 1000000000 := by show s.mem.wr < _; have := hA.wr; omega
 have hl' : zT (s.tick l).c (t : Nat) = (l : Nat) := hl
 have hlc' : (l : Int) < (s.tick l).c 0 := hlc
 have hfs' : (fs.map Fr.enc).length < 1000000 := by rw [List.length_map]; omega
 have gl : s.given.length ≤ n + 1 := Nat.le_succ_of_le hA.given
 have bk : (s.thr t).frames.dropLast = fs.map Fr.enc ∧ (s.thr t).st = (s.thr t).st ∧ (s.thr t).ki = (s.thr t).ki := ⟨by rw [hA.thr.fr t ht, hthr]; simp, rfl, rfl⟩
 have S256 := hmay.2.2.2.2.1
 have hk := wH (c := s.c) (i := F.r 0) (j := 0) (by omega) (by omega) (by omega)
 have hit := yS hmay hA.memN hlc hk
 have hhas : (s.tick l).ward.has (l : Nat) (F.r 0 : Nat) = true := by
  show s.ward.has _ _ = true
  unfold WardS.has
  rw [Bool.and_eq_true, decide_eq_true_eq, hA.ward.held l _ hlc x1 (by omega), hh]
  exact ⟨WardS.there_iff.2 ⟨by omega, by rw [hA.ward.lv]; exact hlc, by omega, by rw [hA.ward.sl]; omega⟩, by decide⟩
 have hgg : 0 ≤ valE (l : Nat) (F.r 0 : Nat) (s.tick l).ward.gens ∧ valE (l : Nat) (F.r 0 : Nat) (s.tick l).ward.gens < 1000000000 := by
  have := hA.ward.gens (l : Nat) (F.r 0 : Nat)
  show 0 ≤ valE _ _ s.ward.gens ∧ valE _ _ s.ward.gens < _
  omega
 have hsp : (s.tick l).ward.slips < 1000000000 := by show s.ward.slips < _; rw [hA.ward.slips]; omega
 have hgn : (s.tick l).given.length < 1000000 := by show s.given.length < _; have := hA.given; omega
 refine (wT h hT (by show (F.fn : Int) = 2; omega) hfs' (R := fun s' => Did s.c n l s s' (((g.set l (oNd B S (F.r 0) 0) (zA (F.r 2) 0)).drop l (F.r 0)).top t fs (F.goto 7))) fun K1 M1 lab1 w1 h1' hT1 => ?_).mono fun r w' ⟨e, M', lab', s', a1, a2, a3, a4⟩ => ⟨e, M', lab', s', a1, a3, a2, a4⟩
 refine (give_6on h1' hT1 (by show (F.pc : Int) = 6; omega) (sl := F.r 0) (g := F.r 2) rfl (by omega) rfl hg hl' hlc' hk b1 b2 hA.ward.stamp hgg hsp hgn hhas hfs' hs).mono (fun r w' ⟨e, M', lab', gv, h', hT'⟩ => ⟨e, M', lab', _, h', hT'.mach, hT'.base, ?_⟩)
 refine Did.one hA hk (Nat.le_refl _) ⟨rfl, rfl, rfl, rfl, rfl⟩ (xC hit) ?_ (hA.ward.gone hlc x1 (by omega)) (((hA.thr.set l _ _).drop l (F.r 0)).top (t := t) (fs := fs) (F := F.goto 7)) ?_
 ·have := hA.words.set hmay (l := l) hk (zA (F.r 2) 0)
  rw [vL hB' hS' (by omega)] at this
  exact this
 show (s.given ++ [_]).length ≤ _
 rw [List.length_append]
 have := hA.given
 simp; omega
theorem does_g6b {σ : World} {p t q l n B S : Nat} {c : Nat → Int} {tp : List Nat} {g : GM} {fs : List Fr} {F : Fr} (hn : n < 100000) (ht : (t : Int) < c 1) (hq : tp[t]? = some q) (hl : zT c t = (l : Nat)) (hlc : (l : Int) < c 0) (hthr : g.thr t = fs ++ [F]) (hfs : fs.length < 100000) (hB' : c 11 = (B : Nat)) (hS' : c 10 = (S : Nat)) (h1 : F.fn = 2) (hp : F.pc = 6) (x1 : 1 ≤ F.r 0) (x2 : F.r 0 ≤ S) (hg : F.r 2 < 4294967296) (hh : g.held l (F.r 0) = true) (hs : c 12 ≤ (F.r 2 : Int)) : zG 105 σ p t c tp n l g (((g.set l (oNd B S (F.r 0) 0) (zA (F.r 2) 0)).drop l (F.r 0)).back t fs []) := by
 intro K s M lab w h hM hB hA
 obtain ⟨b, hT⟩ := hA.atTop hM hB ht hq hthr
 obtain rfl := hA.cc
 have hmay := hA.may
 have b1 : (s.tick l).mem.acc < 1000000000 := by show s.mem.acc < _; have := hA.acc; omega
 have b2 : (s.tick l).mem.wr < 1000000000 := by show s.mem.wr < _; have := hA.wr; omega
 have hl' : zT (s.tick l).c (t : Nat) = (l : Nat) := hl
 have hlc' : (l : Int) < (s.tick l).c 0 := hlc
 have hfs' : (fs.map Fr.enc).length < 1000000 := by rw [List.length_map]; omega
 have gl : s.given.length ≤ n + 1 := Nat.le_succ_of_le hA.given
 have bk : (s.thr t).frames.dropLast = fs.map Fr.enc ∧ (s.thr t).st = (s.thr t).st ∧ (s.thr t).ki = (s.thr t).ki := ⟨by rw [hA.thr.fr t ht, hthr]; simp, rfl, rfl⟩
 have S256 := hmay.2.2.2.2.1
 have hk := wH (c := s.c) (i := F.r 0) (j := 0) (by omega) (by omega) (by omega)
 have hit := yS hmay hA.memN hlc hk
 have hhas : (s.tick l).ward.has (l : Nat) (F.r 0 : Nat) = true := by
  show s.ward.has _ _ = true
  unfold WardS.has
  rw [Bool.and_eq_true, decide_eq_true_eq, hA.ward.held l _ hlc x1 (by omega), hh]
  exact ⟨WardS.there_iff.2 ⟨by omega, by rw [hA.ward.lv]; exact hlc, by omega, by rw [hA.ward.sl]; omega⟩, by decide⟩
 have hgg : 0 ≤ valE (l : Nat) (F.r 0 : Nat) (s.tick l).ward.gens ∧ valE (l : Nat) (F.r 0 : Nat) (s.tick l).ward.gens < 1000000000 := by
  have := hA.ward.gens (l : Nat) (F.r 0 : Nat)
  show 0 ≤ valE _ _ s.ward.gens ∧ valE _ _ s.ward.gens < _
  omega
 have hsp : (s.tick l).ward.slips < 1000000000 := by show s.ward.slips < _; rw [hA.ward.slips]; omega
 have hgn : (s.tick l).given.length < 1000000 := by show s.given.length < _; have := hA.given; omega
 refine (wT h hT (by show (F.fn : Int) = 2; omega) hfs' (R := fun s' => Did s.c n l s s' (((g.set l (oNd B S (F.r 0) 0) (zA (F.r 2) 0)).drop l (F.r 0)).back t fs [])) fun K1 M1 lab1 w1 h1' hT1 => ?_).mono fun r w' ⟨e, M', lab', s', a1, a2, a3, a4⟩ => ⟨e, M', lab', s', a1, a3, a2, a4⟩
 refine (give_6end h1' hT1 (by show (F.pc : Int) = 6; omega) (sl := F.r 0) (g := F.r 2) rfl (by omega) rfl hg hl' hlc' hk b1 b2 hA.ward.stamp hgg hsp hgn hhas hfs' hs).mono (fun r w' ⟨e, M', lab', gv, h', hMx, hBx⟩ => ⟨e, M', lab', _, h', hMx, hBx, ?_⟩)
 refine Did.one hA hk (Nat.le_refl _) ⟨rfl, rfl, rfl, rfl, rfl⟩ (xC hit) ?_ (hA.ward.gone hlc x1 (by omega)) ?_ ?_
 ·have := hA.words.set hmay (l := l) hk (zA (F.r 2) 0)
  rw [vL hB' hS' (by omega)] at this
  exact this
 ·have := ((hA.thr.set l (oNd B S (F.r 0) 0) (zA (F.r 2) 0)).drop l (F.r 0)).back (t := t) (fs := fs) (us := []) (x := { s.thr t with frames := fs.map Fr.enc ++ [(F.goto 7).enc] }) ⟨by simp, rfl, rfl⟩
  have e : (fun j => if j = t then ThrS.back { s.thr t with frames := fs.map Fr.enc ++ [(F.goto 7).enc] } (List.map (fun u : Nat => (u : Int)) []) else s.thr j) = (MachS.backed (((s.tick l).idled l (F.r 0) (F.r 2) gv).top t (fs.map Fr.enc) (F.enc.goto 7)) t []).thr := by
   funext j
   show _ = (if j = t then ThrS.back (if t = t then _ else _) [] else (if j = t then _ else _))
   by_cases hj : j = t
   ·rw [if_pos hj, if_pos hj, if_pos rfl]; rfl
   rw [if_neg hj, if_neg hj, if_neg hj]; rfl
  rw [e] at this
  exact this
 show (s.given ++ [_]).length ≤ _
 rw [List.length_append]
 have := hA.given
 simp; omega
theorem does_g7 {σ : World} {p t q l n B S : Nat} {c : Nat → Int} {tp : List Nat} {g : GM} {fs : List Fr} {F : Fr} (hn : n < 100000) (ht : (t : Int) < c 1) (hq : tp[t]? = some q) (hl : zT c t = (l : Nat)) (hlc : (l : Int) < c 0) (hthr : g.thr t = fs ++ [F]) (hfs : fs.length < 100000) (hB' : c 11 = (B : Nat)) (hS' : c 10 = (S : Nat)) (h1 : F.fn = 2) (hp : F.pc = 7) (x1 : 1 ≤ F.r 0) (x2 : F.r 0 ≤ S) : zG 105 σ p t c tp n l g (g.top t fs ((F.reg 1 (g.w l 0)).goto 8)) := by
 intro K s M lab w h hM hB hA
 obtain ⟨b, hT⟩ := hA.atTop hM hB ht hq hthr
 obtain rfl := hA.cc
 have hmay := hA.may
 have b1 : (s.tick l).mem.acc < 1000000000 := by show s.mem.acc < _; have := hA.acc; omega
 have b2 : (s.tick l).mem.wr < 1000000000 := by show s.mem.wr < _; have := hA.wr; omega
 have hl' : zT (s.tick l).c (t : Nat) = (l : Nat) := hl
 have hlc' : (l : Int) < (s.tick l).c 0 := hlc
 have hfs' : (fs.map Fr.enc).length < 1000000 := by rw [List.length_map]; omega
 have gl : s.given.length ≤ n + 1 := Nat.le_succ_of_le hA.given
 have bk : (s.thr t).frames.dropLast = fs.map Fr.enc ∧ (s.thr t).st = (s.thr t).st ∧ (s.thr t).ki = (s.thr t).ki := ⟨by rw [hA.thr.fr t ht, hthr]; simp, rfl, rfl⟩
 have S256 := hmay.2.2.2.2.1
 have hk := wE s.c
 have hit := yS hmay hA.memN hlc hk
 have hv : s.mem.load (atK s.c (l : Nat) 0 0 0) = (g.w l 0 : Int) := yL hit (by rw [hA.words.at hmay hlc hk, xE])
 have hf0 : s.mem.f (atK s.c (l : Nat) 0 0 0).toNat = (g.w l 0 : Int) := by rw [hA.words.at hmay hlc hk, xE]
 refine (wT h hT (by show (F.fn : Int) = 2; omega) hfs' (R := fun s' => Did s.c n l s s' (g.top t fs ((F.reg 1 (g.w l 0)).goto 8))) fun K1 M1 lab1 w1 h1' hT1 => ?_).mono fun r w' ⟨e, M', lab', s', a1, a2, a3, a4⟩ => ⟨e, M', lab', s', a1, a3, a2, a4⟩
 refine (give_7 h1' hT1 (by show (F.pc : Int) = 7; omega) (sl := F.r 0) rfl (by omega) (zD hT1.mach hl' hlc' hk) b1).mono (fun r w' ⟨e, M', lab', h', hT'⟩ => ⟨e, M', lab', _, h', hT'.mach, hT'.base, ?_⟩)
 refine Did.one hA hk (Nat.zero_le _) ⟨rfl, rfl, rfl, rfl, rfl⟩ (vH hit) hA.words (hA.ward.mono (Nat.le_succ _)) ?_ gl
 have := hA.thr.top (t := t) (fs := fs) (F := (F.reg 1 (g.w l 0)).goto 8)
 rw [← wC, ← wJ, ← hv] at this
 exact this
theorem does_g8 {σ : World} {p t q l n B S : Nat} {c : Nat → Int} {tp : List Nat} {g : GM} {fs : List Fr} {F : Fr} (hn : n < 100000) (ht : (t : Int) < c 1) (hq : tp[t]? = some q) (hl : zT c t = (l : Nat)) (hlc : (l : Int) < c 0) (hthr : g.thr t = fs ++ [F]) (hfs : fs.length < 100000) (hB' : c 11 = (B : Nat)) (hS' : c 10 = (S : Nat)) (h1 : F.fn = 2) (hp : F.pc = 8) (x1 : 1 ≤ F.r 0) (x2 : F.r 0 ≤ S) (hr : F.r 1 < 18446744073709551616) : zG 105 σ p t c tp n l g ((g.set l (oLk B (F.r 0)) (slOf (F.r 1))).top t fs (F.goto 9)) := by
 intro K s M lab w h hM hB hA
 obtain ⟨b, hT⟩ := hA.atTop hM hB ht hq hthr
 obtain rfl := hA.cc
 have hmay := hA.may
 have b1 : (s.tick l).mem.acc < 1000000000 := by show s.mem.acc < _; have := hA.acc; omega
 have b2 : (s.tick l).mem.wr < 1000000000 := by show s.mem.wr < _; have := hA.wr; omega
 have hl' : zT (s.tick l).c (t : Nat) = (l : Nat) := hl
 have hlc' : (l : Int) < (s.tick l).c 0 := hlc
 have hfs' : (fs.map Fr.enc).length < 1000000 := by rw [List.length_map]; omega
 have gl : s.given.length ≤ n + 1 := Nat.le_succ_of_le hA.given
 have bk : (s.thr t).frames.dropLast = fs.map Fr.enc ∧ (s.thr t).st = (s.thr t).st ∧ (s.thr t).ki = (s.thr t).ki := ⟨by rw [hA.thr.fr t ht, hthr]; simp, rfl, rfl⟩
 have S256 := hmay.2.2.2.2.1
 have hk := jR (c := s.c) (i := F.r 0) (by omega) (by omega)
 have hit := yS hmay hA.memN hlc hk
 refine (wT h hT (by show (F.fn : Int) = 2; omega) hfs' (R := fun s' => Did s.c n l s s' ((g.set l (oLk B (F.r 0)) (slOf (F.r 1))).top t fs (F.goto 9))) fun K1 M1 lab1 w1 h1' hT1 => ?_).mono fun r w' ⟨e, M', lab', s', a1, a2, a3, a4⟩ => ⟨e, M', lab', s', a1, a3, a2, a4⟩
 refine (give_8 h1' hT1 (by show (F.pc : Int) = 8; omega) (sl := F.r 0) (x := F.r 1) rfl (by omega) rfl hr hl' hlc' hk b1 b2).mono (fun r w' ⟨e, M', lab', h', hT'⟩ => ⟨e, M', lab', _, h', hT'.mach, hT'.base, ?_⟩)
 refine Did.one hA hk (Nat.le_refl _) ⟨rfl, rfl, rfl, rfl, rfl⟩ (xC hit) ?_ (hA.ward.mono (Nat.le_succ _)) ((hA.thr.set l _ _).top (t := t) (fs := fs) (F := F.goto 9)) gl
 have := hA.words.set hmay (l := l) hk (slOf (F.r 1))
 rw [off_link hB' (by omega)] at this
 exact this
theorem does_g9a {σ : World} {p t q l n B S : Nat} {c : Nat → Int} {tp : List Nat} {g : GM} {fs : List Fr} {F : Fr} (hn : n < 100000) (ht : (t : Int) < c 1) (hq : tp[t]? = some q) (hl : zT c t = (l : Nat)) (hlc : (l : Int) < c 0) (hthr : g.thr t = fs ++ [F]) (hfs : fs.length < 100000) (hB' : c 11 = (B : Nat)) (hS' : c 10 = (S : Nat)) (h1 : F.fn = 2) (hp : F.pc = 9) (x1 : 1 ≤ F.r 0) (x2 : F.r 0 ≤ S) (hr : F.r 1 < 18446744073709551616) (hs : g.w l 0 = F.r 1) : zG 105 σ p t c tp n l g ((g.set l 0 (yK (F.r 0) (cnt (F.r 1) + 1))).back t fs []) := by
 intro K s M lab w h hM hB hA
 obtain ⟨b, hT⟩ := hA.atTop hM hB ht hq hthr
 obtain rfl := hA.cc
 have hmay := hA.may
 have b1 : (s.tick l).mem.acc < 1000000000 := by show s.mem.acc < _; have := hA.acc; omega
 have b2 : (s.tick l).mem.wr < 1000000000 := by show s.mem.wr < _; have := hA.wr; omega
 have hl' : zT (s.tick l).c (t : Nat) = (l : Nat) := hl
 have hlc' : (l : Int) < (s.tick l).c 0 := hlc
 have hfs' : (fs.map Fr.enc).length < 1000000 := by rw [List.length_map]; omega
 have gl : s.given.length ≤ n + 1 := Nat.le_succ_of_le hA.given
 have bk : (s.thr t).frames.dropLast = fs.map Fr.enc ∧ (s.thr t).st = (s.thr t).st ∧ (s.thr t).ki = (s.thr t).ki := ⟨by rw [hA.thr.fr t ht, hthr]; simp, rfl, rfl⟩
 have S256 := hmay.2.2.2.2.1
 have hk := wE s.c
 have hit := yS hmay hA.memN hlc hk
 have hv : s.mem.load (atK s.c (l : Nat) 0 0 0) = (g.w l 0 : Int) := yL hit (by rw [hA.words.at hmay hlc hk, xE])
 have hf0 : s.mem.f (atK s.c (l : Nat) 0 0 0).toNat = (g.w l 0 : Int) := by rw [hA.words.at hmay hlc hk, xE]
 have hsw : (s.tick l).mem.swaps (atK (s.tick l).c (l : Nat) 0 0 0) (F.r 1 : Nat) = true := by show s.mem.swaps _ _ = true; unfold MemS.swaps; rw [show (s.tick l).c = s.c from rfl, hit, hf0, hs]; simp
 refine (wT h hT (by show (F.fn : Int) = 2; omega) hfs' (R := fun s' => Did s.c n l s s' ((g.set l 0 (yK (F.r 0) (cnt (F.r 1) + 1))).back t fs [])) fun K1 M1 lab1 w1 h1' hT1 => ?_).mono fun r w' ⟨e, M', lab', s', a1, a2, a3, a4⟩ => ⟨e, M', lab', s', a1, a3, a2, a4⟩
 refine (give_9yes h1' hT1 (by show (F.pc : Int) = 9; omega) (sl := F.r 0) (x := F.r 1) rfl (by omega) rfl hr hl' hlc' b1 b2 hsw hfs').mono (fun r w' ⟨e, M', lab', h', hM', hB'⟩ => ⟨e, M', lab', _, h', hM', hB', ?_⟩)
 refine Did.one hA hk (Nat.le_refl _) ⟨rfl, rfl, rfl, rfl, rfl⟩ (qY hit hsw) ?_ (hA.ward.mono (Nat.le_succ _)) ?_ gl
 ·have := hA.words.set hmay (l := l) hk (yK (F.r 0) (cnt (F.r 1) + 1))
  rw [xE] at this
  exact this
 have := (hA.thr.set l 0 (yK (F.r 0) (cnt (F.r 1) + 1))).back (t := t) (fs := fs) (us := []) (x := { s.thr t with frames := fs.map Fr.enc ++ [(F.goto 7).enc] }) ⟨by simp, rfl, rfl⟩
 have e : (fun j => if j = t then ThrS.back { s.thr t with frames := fs.map Fr.enc ++ [(F.goto 7).enc] } (List.map (fun u : Nat => (u : Int)) []) else s.thr j) = (MachS.backed { (s.tick l).top t (fs.map Fr.enc) (F.enc.goto 7) with mem := s.mem.cas (atK s.c (l : Nat) 0 0 0) (F.r 1 : Nat) (yK (F.r 0) (cutN (F.r 1) 8 56 + 1) : Nat) } t []).thr := by
  funext j
  show _ = (if j = t then ThrS.back (if t = t then _ else _) [] else (if j = t then _ else _))
  by_cases hj : j = t
  ·rw [if_pos hj, if_pos hj, if_pos rfl]; rfl
  rw [if_neg hj, if_neg hj, if_neg hj]; rfl
 rw [e] at this
 exact this
theorem does_g9b {σ : World} {p t q l n B S : Nat} {c : Nat → Int} {tp : List Nat} {g : GM} {fs : List Fr} {F : Fr} (hn : n < 100000) (ht : (t : Int) < c 1) (hq : tp[t]? = some q) (hl : zT c t = (l : Nat)) (hlc : (l : Int) < c 0) (hthr : g.thr t = fs ++ [F]) (hfs : fs.length < 100000) (hB' : c 11 = (B : Nat)) (hS' : c 10 = (S : Nat)) (h1 : F.fn = 2) (hp : F.pc = 9) (x1 : 1 ≤ F.r 0) (x2 : F.r 0 ≤ S) (hr : F.r 1 < 18446744073709551616) (hs : g.w l 0 ≠ F.r 1) : zG 105 σ p t c tp n l g (g.top t fs (F.goto 7)) := by
 intro K s M lab w h hM hB hA
 obtain ⟨b, hT⟩ := hA.atTop hM hB ht hq hthr
 obtain rfl := hA.cc
 have hmay := hA.may
 have b1 : (s.tick l).mem.acc < 1000000000 := by show s.mem.acc < _; have := hA.acc; omega
 have b2 : (s.tick l).mem.wr < 1000000000 := by show s.mem.wr < _; have := hA.wr; omega
 have hl' : zT (s.tick l).c (t : Nat) = (l : Nat) := hl
 have hlc' : (l : Int) < (s.tick l).c 0 := hlc
 have hfs' : (fs.map Fr.enc).length < 1000000 := by rw [List.length_map]; omega
 have gl : s.given.length ≤ n + 1 := Nat.le_succ_of_le hA.given
 have bk : (s.thr t).frames.dropLast = fs.map Fr.enc ∧ (s.thr t).st = (s.thr t).st ∧ (s.thr t).ki = (s.thr t).ki := ⟨by rw [hA.thr.fr t ht, hthr]; simp, rfl, rfl⟩
 have S256 := hmay.2.2.2.2.1
 have hk := wE s.c
 have hit := yS hmay hA.memN hlc hk
 have hv : s.mem.load (atK s.c (l : Nat) 0 0 0) = (g.w l 0 : Int) := yL hit (by rw [hA.words.at hmay hlc hk, xE])
 have hf0 : s.mem.f (atK s.c (l : Nat) 0 0 0).toNat = (g.w l 0 : Int) := by rw [hA.words.at hmay hlc hk, xE]
 have hsw : (s.tick l).mem.swaps (atK (s.tick l).c (l : Nat) 0 0 0) (F.r 1 : Nat) = false := by show s.mem.swaps _ _ = false; unfold MemS.swaps; rw [show (s.tick l).c = s.c from rfl, hit, hf0]; simp; omega
 refine (wT h hT (by show (F.fn : Int) = 2; omega) hfs' (R := fun s' => Did s.c n l s s' (g.top t fs (F.goto 7))) fun K1 M1 lab1 w1 h1' hT1 => ?_).mono fun r w' ⟨e, M', lab', s', a1, a2, a3, a4⟩ => ⟨e, M', lab', s', a1, a3, a2, a4⟩
 refine (give_9no h1' hT1 (by show (F.pc : Int) = 9; omega) (sl := F.r 0) (x := F.r 1) rfl (by omega) rfl hr hl' hlc' b1 b2 hsw).mono (fun r w' ⟨e, M', lab', h', hT'⟩ => ⟨e, M', lab', _, h', hT'.mach, hT'.base, ?_⟩)
 exact Did.one hA hk (Nat.zero_le _) ⟨rfl, rfl, rfl, rfl, rfl⟩ (oP hit hsw) hA.words (hA.ward.mono (Nat.le_succ _)) (hA.thr.top (t := t) (fs := fs) (F := F.goto 7)) gl
end
end Go.Proofs.YtjeeldacnllipaaGreat
