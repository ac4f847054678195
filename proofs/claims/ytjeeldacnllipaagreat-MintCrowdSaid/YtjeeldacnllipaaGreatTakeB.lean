/- Walks of layer 22 (stock): a bit of Take: another slot becomes the first one. -/
import Derived.Test.YtjeeldacnllipaaGreatTakeA
namespace Go.Proofs.YtjeeldacnllipaaGreat
open Go.RowKit
set_option linter.unusedVariables false
set_option linter.unusedSimpArgs false
set_option linter.unnecessarySimpa false
theorem IsWard.taken {M : Mm} {p : Nat} {s : WardS} (h : IsWard M p s) (l t : Int) : IsWard (M.upd s.hb (mapRow (s.take l t).held (s.take l t).hclk)) p (s.take l t) :=
  ⟨(Mm.upd_ne h.neh).trans h.obj, Mm.upd_same _ _ _, (Mm.upd_ne h.ne.symm).trans h.gens, h.ne⟩
theorem AtTop.took {K M : Mm} {lab : Nat → Nat} {p t q b : Nat} {s : MachS} {fs : List FrameS} {f : FrameS} (h : AtTop K M lab p s t q b fs f) (l u : Int) : AtTop K (M.upd s.ward.hb (mapRow (s.ward.take l u).held (s.ward.take l u).hclk)) lab p { s with ward := s.ward.take l u } t q b fs f := by
  have hk : Kp (fun j => j = 3) M lab (M.upd s.ward.hb (mapRow (s.ward.take l u).held (s.ward.take l u).hclk)) lab := Kp.upd h.mach.wlab.2.1 _
  obtain ⟨h1, h2⟩ := h.mach.wardTo h.base hk (h.mach.ward.taken l u) rfl rfl rfl rfl
  exact h.keep hk (fun k hk e => by have := hk.1; omega) h1 h2 rfl rfl
theorem spotAt_of {σ : World} {M : Mm} {lab : Nat → Nat} {p t lv : Nat} {s : MachS} (hM : Mach M lab p s) (hlv : levelOf s.c (t : Nat) = (lv : Nat)) (hlc : (lv : Int) < s.c 0) {k : Nat} {i j : Int} (hk : InK s.c k i j) : SpotAt σ M p t k i j (atK s.c lv k i j) := fun M' w hle h =>
  mSpot_yes h (hM.keep (Kp.le hle fun _ => 0) fun _ _ h => h) t lv hlv (Int.natCast_nonneg _) hlc k 0 i j hk
theorem inK_free (c : Nat → Int) : InK c 0 0 0 := ⟨by omega, by unfold baseK; simp, by omega, by omega, fun _ => rfl, by unfold numK many baseK; simp⟩
set_option maxHeartbeats 4000000 in
set_option maxRecDepth 20000 in
/-- The top was changed meanwhile. -/
theorem take_2no {σ w : World} {K M : Mm} {lab : Nat → Nat} {p t q b lv : Nat} {s : MachS} {fs : List FrameS} {f : FrameS} (h : Has σ M w) (hT : AtTop K M lab p s t q b fs f) (hat : f.at_ = 2) {x y : Nat} (hx : f.r 1 = (x : Int)) (hx64 : x < 18446744073709551616) (hy : f.r 2 = (y : Int)) (hy63 : y < 9223372036854775808) (hlv : levelOf s.c (t : Nat) = (lv : Nat)) (hlc : (lv : Int) < s.c 0) (hb1 : s.mem.acc < 1000000000) (hb2 : s.mem.wr < 1000000000) (hsw : s.mem.swaps (atK s.c lv 0 0 0) x = false) :
    Calls Tryz.prog 132 #[.agg (runC p t q b)] w fun r w' => r = .returned (.tuple #[]) ∧ ∃ M' lab', Has σ M' w' ∧ AtTop K M' lab' p { s.top t fs (f.goto 0) with mem := s.mem.cas (atK s.c lv 0 0 0) x (mkTop y (cutN x 8 56 + 1) : Nat) } t q b fs (f.goto 0) := by
  have hx64' := hx64
  have d0 : (runC p t q b)[0]? = some (.pointer (some ⟨p, 0, none⟩)) := rfl
  have d1 : (runC p t q b)[1]? = some (.int .i64 (t : Nat)) := rfl
  have d2 : (runC p t q b)[2]? = some (.pointer (some ⟨q, 0, none⟩)) := rfl
  have d3 : (runC p t q b)[3]? = some (.pointer (some ⟨b, 0, none⟩)) := rfl
  have dx : (runC p t q b).extract 0 (0 + 4) = runC p t q b := rfl
  have dz : (runC p t q b).size = 4 := rfl
  have f1 : f.row[1]? = some (.int .i64 2) := by rw [← hat]; rfl
  have f3 : f.row[3]? = some (.int .u64 (x : Nat)) := by rw [← hx]; rfl
  have UN := Lib.hid (linkUnder_any x hx64)
  have hsl : cutN x 0 8 < 256 := cutN_lt x 0 8
  clear hx64 hat
  go_enter Tryz.func132, Tryz.ntmps132
  go_upto_region 1 with (fail)
  obtain ⟨M1, hbx, hle, hb4, hn⟩ := h.box (.cells (runC p t q b) 192)
  generalize w.alloc _ = wx at hbx ⊢
  generalize w.heap.size = b4 at hb4 hn ⊢
  clear h
  try clear w
  have h := hbx
  clear hbx
  obtain ⟨w, rfl⟩ : ∃ x : World, x = wx := ⟨_, rfl⟩
  obtain ⟨lab1, hT1⟩ := hT.more1 hle hn hb4
  have hnK : K b4 = none := by
    cases e : K b4 with
    | none => rfl
    | some o => have := (hT.base _ _ e).1; rw [hn] at this; cases this
  have hKK : K.le (K.upd b4 (.cells (runC p t q b) 192)) := Mm.le_upd' hnK _
  have hbK : (K.upd b4 (.cells (runC p t q b) 192)) b4 = some (.cells (runC p t q b) 192) := Mm.upd_same _ _ _
  have hfb := hT1.obj
  have hbT := hb4
  have hsz : 1 < f.row.size := show 1 < 18 by omega
  have R0 := Lib.hid (row_goto f 0)
  obtain ⟨_, hT2⟩ := hT1.frame (f.goto 0)
  have SW := Lib.hid (fun (w : World) (h : Has σ (M1.upd b (.cells (f.goto 0).row 69)) w) => runSwing_eq h hT2 (spotAt_of hT2.mach hlv hlc (inK_free _)) hb1 hb2 (x := x) (slot := y) hx hx64' hy63)
  have hne : b4 ≠ b := fun e => by
    subst e
    rw [hb4] at hfb
    simp only [Option.some.injEq, Obj.cells.injEq] at hfb
    exact absurd hfb.2.1 (by decide)
  have KL := Mm.upd_le2 hT2.base.le hT2.obj
  have hbK : ((K.upd b4 (.cells (runC p t q b) 192)).upd b (.cells (f.goto 0).row 69)) b4 = some (.cells (runC p t q b) 192) := (Mm.upd_ne hne).trans (Mm.upd_same _ _ _)
  have hfK : ((K.upd b4 (.cells (runC p t q b) 192)).upd b (.cells (f.goto 0).row 69)) b = some (.cells (f.goto 0).row 69) := Mm.upd_same _ _ _
  have f4 : (f.goto 0).row[4]? = some (.int .u64 (y : Nat)) := by rw [← hy]; rfl
  have uy : IntKind.i64.wrap ((y : Nat) : Int) = ((y : Nat) : Int) := IntWalk.i64_in _ (by omega)
  rw [show (s.top t fs (f.goto 0)).mem = s.mem from rfl, show (s.top t fs (f.goto 0)).c = s.c from rfl, hsw] at SW
  have HK := Lib.hid hKK
  clear hsw hx hy hKK hlv hlc hx64' hy63
  clear hT hT1 hT2 hb1 hb2 hn hle hnK hne hb4
  generalize hr0 : f.row = fr0 at *
  generalize hr1 : (f.goto 0).row = fr1 at *
  have HR1 := Lib.hid hr1
  clear hr0 hr1
  generalize runC p t q b = rc at *
  have KW0 : ∀ M9 : Mm, (K.upd b4 (.cells rc 192)).le M9 → M9 b = some (.cells fr1 69) → ((K.upd b4 (.cells rc 192)).upd b (.cells fr1 69)).le M9 := fun M9 h1 h2 => Mm.upd_le2 h1 h2
  have KX := Lib.hid KW0
  clear KW0
  have KW0 := KX.out
  clear KX
  generalize (K.upd b4 _).upd b _ = K1 at KL hbK hfK KW0
  go_upto_region 14 with (first
    | (with_reducible show wpList _ _ _ ({ dst := _, op := Op.load 70 _, type := _, pos := _, after := _, guard := _ } :: _) _ _; refine wpList_load1_has h rfl 70 _ rfl rfl hbT d3 Tryz.underlying70 rfl ?_)
    | (with_reducible show wpList _ _ _ ({ dst := _, op := Op.load 42 _, type := _, pos := _, after := _, guard := _ } :: _) _ _; refine wpList_load1_has h rfl 42 _ rfl rfl hfb f3 Tryz.underlying42 rfl ?_)
    | (with_reducible show wpList _ _ _ ({ dst := _, op := Op.load 3 _, type := _, pos := _, after := _, guard := _ } :: _) _ _; refine wpList_load1_has h rfl 3 _ rfl rfl hfb f1 Tryz.underlying3 rfl ?_)
    | ((go_at_call 138; refine (UN.out _).mono ?_; rintro r w' ⟨rfl, rfl⟩)))
  go_upto_region 15 with (first
    | (with_reducible show wpList _ _ _ ({ dst := _, op := Op.store 3 _ _, type := _, pos := _, after := _, guard := _ } :: _) _ _; refine wpList_store1_has h rfl 3 _ _ rfl rfl rfl hfb hsz rfl (by kernel_rfl) ?_; clear h; intro w h))
  have h0 : Has σ (M1.upd b (.cells (fr0.setIfInBounds 1 (.int .i64 0)) 69)) w := h
  rw [R0.out] at h0
  clear h
  have h := h0
  clear h0 hfb hsz R0 UN hbT
  generalize M1.upd b _ = M2 at h KL SW
  refine wp_region_held_drew (S := Has σ (K1)) (by kernel_rfl) (h.drew.le KL) (fun hHeld => ?_)
  refine wpAnyH_take (i := 0) (v := ?_) rfl (by kernel_rfl) (by kernel_rfl) (by kernel_rfl) (fun _ _ _ h => h) (Or.inl ⟨by rfl, ?_⟩) hHeld ?_
  rotate_left
  · (intro wz _; go_simp; try with_reducible rfl)
  try simp only [List.getElem_toArray, List.getElem_cons_succ, List.getElem_cons_zero, Act.put, List.setIfInBounds_toArray, List.set_cons_zero, List.set_cons_succ]
  refine wpAnyH_take (i := 1) (v := _) rfl (by kernel_rfl) (by kernel_rfl) (by kernel_rfl) (fun _ _ _ h => h) (yields_agg rfl 190 _ rfl rfl hbK dx dz Tryz.underlying190 rfl (by kernel_rfl)) hHeld ?_
  try simp only [List.getElem_toArray, List.getElem_cons_succ, List.getElem_cons_zero, Act.put, List.setIfInBounds_toArray, List.set_cons_zero, List.set_cons_succ]
  refine wpAnyH_take (i := 2) (v := ?_) rfl (by kernel_rfl) (by kernel_rfl) (by kernel_rfl) (fun _ _ _ h => h) (Or.inl ⟨by rfl, ?_⟩) hHeld ?_
  rotate_left
  · (intro wz _; go_simp; try with_reducible rfl)
  try simp only [List.getElem_toArray, List.getElem_cons_succ, List.getElem_cons_zero, Act.put, List.setIfInBounds_toArray, List.set_cons_zero, List.set_cons_succ]
  refine wpAnyH_take (i := 3) (v := ?_) rfl (by kernel_rfl) (by kernel_rfl) (by kernel_rfl) (fun _ _ _ h => h) (Or.inl ⟨by rfl, ?_⟩) hHeld ?_
  rotate_left
  · (intro wz _; go_simp; try with_reducible rfl)
  try simp only [List.getElem_toArray, List.getElem_cons_succ, List.getElem_cons_zero, Act.put, List.setIfInBounds_toArray, List.set_cons_zero, List.set_cons_succ]
  refine wpAnyH_take (i := 4) (v := ?_) rfl (by kernel_rfl) (by kernel_rfl) (by kernel_rfl) (fun _ _ _ h => h) (Or.inl ⟨by rfl, ?_⟩) hHeld ?_
  rotate_left
  · (intro wz _; go_simp; try with_reducible rfl)
  try simp only [List.getElem_toArray, List.getElem_cons_succ, List.getElem_cons_zero, Act.put, List.setIfInBounds_toArray, List.set_cons_zero, List.set_cons_succ]
  refine wpAnyH_take (i := 5) (v := ?_) rfl (by kernel_rfl) (by kernel_rfl) (by kernel_rfl) (fun _ _ _ h => h) (Or.inl ⟨by rfl, ?_⟩) hHeld ?_
  rotate_left
  · (intro wz _; go_simp; try with_reducible rfl)
  try simp only [List.getElem_toArray, List.getElem_cons_succ, List.getElem_cons_zero, Act.put, List.setIfInBounds_toArray, List.set_cons_zero, List.set_cons_succ]
  refine wpAnyH_take (i := 6) (v := _) rfl (by kernel_rfl) (by kernel_rfl) (by kernel_rfl) (fun _ _ _ h => h) (yields_load1 rfl 42 _ rfl rfl hfK f4 Tryz.underlying42 rfl) hHeld ?_
  try simp only [List.getElem_toArray, List.getElem_cons_succ, List.getElem_cons_zero, Act.put, List.setIfInBounds_toArray, List.set_cons_zero, List.set_cons_succ]
  refine wpAnyH_take (i := 7) (v := ?_) rfl (by kernel_rfl) (by kernel_rfl) (by kernel_rfl) (fun _ _ _ h => h) (Or.inl ⟨by rfl, ?_⟩) hHeld ?_
  rotate_left
  · (intro wz _; go_simp; try with_reducible rfl)
  try simp only [List.getElem_toArray, List.getElem_cons_succ, List.getElem_cons_zero, Act.put, List.setIfInBounds_toArray, List.set_cons_zero, List.set_cons_succ]
  replace h := h.drew
  generalize w.drew = w1 at h hHeld ⊢
  clear w
  obtain ⟨w, rfl⟩ : ∃ q : World, q = w1 := ⟨_, rfl⟩
  refine wpAnyH_ready (rs := [8]) (by kernel_rfl) (by simp) ?_
  refine AllReadyH.cons rfl (fun K hK => ?_) AllReadyH.nil
  (go_simp; go_wp2_with (go_at_call 141; refine (SW.out _ h).mono ?_; clear h; rintro _ w ⟨rfl, M3, lab3, h, hT3⟩; have KE := KW0 _ hT3.base.le (by rw [← HR1.out]; exact hT3.obj)))
  refine hK.out _ _ (h.le KE) (fun hHeld => ?_)
  clear hK K
  try simp only [Act.put, List.setIfInBounds_toArray, List.set_cons_zero, List.set_cons_succ]
  refine wpAnyH_done (by kernel_rfl) ?_ _
  clear hHeld
  go_wp2
  go_end0
  exact ⟨rfl, M3, lab3, h, hT3.less HK.out⟩
set_option maxHeartbeats 4000000 in
set_option maxRecDepth 20000 in
/-- Another slot is the first one: what was the first one is held. -/
theorem take_2yes {σ w : World} {K M : Mm} {lab : Nat → Nat} {p t q b lv : Nat} {s : MachS} {fs : List FrameS} {f : FrameS} (h : Has σ M w) (hT : AtTop K M lab p s t q b fs f) (hat : f.at_ = 2) {x y : Nat} (hx : f.r 1 = (x : Int)) (hx64 : x < 18446744073709551616) (hy : f.r 2 = (y : Int)) (hy63 : y < 9223372036854775808) (hlv : levelOf s.c (t : Nat) = (lv : Nat)) (hlc : (lv : Int) < s.c 0) (hb1 : s.mem.acc < 1000000000) (hb2 : s.mem.wr < 1000000000) (hsw : s.mem.swaps (atK s.c lv 0 0 0) x = true)
    (hth : s.ward.there lv (cutN x 0 8 : Nat) = true) (hv0 : valE lv (cutN x 0 8 : Nat) s.ward.held = 0) :
    Calls Tryz.prog 132 #[.agg (runC p t q b)] w fun r w' => r = .returned (.tuple #[]) ∧ ∃ M' lab', Has σ M' w' ∧ AtTop K M' lab' p (MachS.top { s with mem := s.mem.cas (atK s.c lv 0 0 0) x (mkTop y (cutN x 8 56 + 1) : Nat), ward := s.ward.take lv (cutN x 0 8 : Nat) } t fs (f.goto 3)) t q b fs (f.goto 3) := by
  have hx64' := hx64
  have d0 : (runC p t q b)[0]? = some (.pointer (some ⟨p, 0, none⟩)) := rfl
  have d1 : (runC p t q b)[1]? = some (.int .i64 (t : Nat)) := rfl
  have d2 : (runC p t q b)[2]? = some (.pointer (some ⟨q, 0, none⟩)) := rfl
  have d3 : (runC p t q b)[3]? = some (.pointer (some ⟨b, 0, none⟩)) := rfl
  have dx : (runC p t q b).extract 0 (0 + 4) = runC p t q b := rfl
  have dz : (runC p t q b).size = 4 := rfl
  have f1 : f.row[1]? = some (.int .i64 2) := by rw [← hat]; rfl
  have f3 : f.row[3]? = some (.int .u64 (x : Nat)) := by rw [← hx]; rfl
  have UN := Lib.hid (linkUnder_any x hx64)
  have hsl : cutN x 0 8 < 256 := cutN_lt x 0 8
  clear hx64 hat
  have TT : Hid (MachS.top { s with mem := s.mem.cas (atK s.c lv 0 0 0) x (mkTop y (cutN x 8 56 + 1) : Nat), ward := s.ward.take lv (cutN x 0 8 : Nat) } t fs (f.goto 3) = MachS.top { s.top t fs (f.goto 0) with mem := s.mem.cas (atK s.c lv 0 0 0) x (mkTop y (cutN x 8 56 + 1) : Nat), ward := s.ward.take lv (cutN x 0 8 : Nat) } t fs (f.goto 3)) := Lib.hid (by
    unfold MachS.top
    congr 1
    funext j
    by_cases e : j = t
    · simp [e]
    · simp [e])
  rw [TT.out]
  clear TT
  obtain ⟨nv, hnv⟩ : ∃ nv, mkTop y (cutN x 8 56 + 1) = nv := ⟨_, rfl⟩
  rw [hnv]
  obtain ⟨sl, hsl0⟩ : ∃ sl, cutN x 0 8 = sl := ⟨_, rfl⟩
  rw [hsl0] at UN hsl hth hv0 ⊢
  clear hsl0
  go_enter Tryz.func132, Tryz.ntmps132
  go_upto_region 1 with (fail)
  obtain ⟨M1, hbx, hle, hb4, hn⟩ := h.box (.cells (runC p t q b) 192)
  generalize w.alloc _ = wx at hbx ⊢
  generalize w.heap.size = b4 at hb4 hn ⊢
  clear h
  try clear w
  have h := hbx
  clear hbx
  obtain ⟨w, rfl⟩ : ∃ x : World, x = wx := ⟨_, rfl⟩
  obtain ⟨lab1, hT1⟩ := hT.more1 hle hn hb4
  have hnK : K b4 = none := by
    cases e : K b4 with
    | none => rfl
    | some o => have := (hT.base _ _ e).1; rw [hn] at this; cases this
  have hKK : K.le (K.upd b4 (.cells (runC p t q b) 192)) := Mm.le_upd' hnK _
  have hbK : (K.upd b4 (.cells (runC p t q b) 192)) b4 = some (.cells (runC p t q b) 192) := Mm.upd_same _ _ _
  have hfb := hT1.obj
  have hbT := hb4
  have hsz : 1 < f.row.size := show 1 < 18 by omega
  have R0 := Lib.hid (row_goto f 0)
  obtain ⟨_, hT2⟩ := hT1.frame (f.goto 0)
  have SW := Lib.hid (fun (w : World) (h : Has σ (M1.upd b (.cells (f.goto 0).row 69)) w) => runSwing_eq h hT2 (spotAt_of hT2.mach hlv hlc (inK_free _)) hb1 hb2 (x := x) (slot := y) hx hx64' hy63)
  have hne : b4 ≠ b := fun e => by
    subst e
    rw [hb4] at hfb
    simp only [Option.some.injEq, Obj.cells.injEq] at hfb
    exact absurd hfb.2.1 (by decide)
  have KL := Mm.upd_le2 hT2.base.le hT2.obj
  have hbK : ((K.upd b4 (.cells (runC p t q b) 192)).upd b (.cells (f.goto 0).row 69)) b4 = some (.cells (runC p t q b) 192) := (Mm.upd_ne hne).trans (Mm.upd_same _ _ _)
  have hfK : ((K.upd b4 (.cells (runC p t q b) 192)).upd b (.cells (f.goto 0).row 69)) b = some (.cells (f.goto 0).row 69) := Mm.upd_same _ _ _
  have f4 : (f.goto 0).row[4]? = some (.int .u64 (y : Nat)) := by rw [← hy]; rfl
  have uy : IntKind.i64.wrap ((y : Nat) : Int) = ((y : Nat) : Int) := IntWalk.i64_in _ (by omega)
  rw [show (s.top t fs (f.goto 0)).mem = s.mem from rfl, show (s.top t fs (f.goto 0)).c = s.c from rfl, hsw, hnv] at SW
  have HK := Lib.hid hKK
  have HLV := Lib.hid hlv
  have HTH := Lib.hid hth
  have HV0 := Lib.hid hv0
  clear hsw hx hy hKK hlv hlc hx64' hy63 hth hv0 hnv
  clear hT hT1 hT2 hb1 hb2 hn hle hnK hne hb4
  generalize hr0 : f.row = fr0 at *
  generalize hr1 : (f.goto 0).row = fr1 at *
  have HR1 := Lib.hid hr1
  clear hr0 hr1
  generalize runC p t q b = rc at *
  have KW0 : ∀ M9 : Mm, (K.upd b4 (.cells rc 192)).le M9 → M9 b = some (.cells fr1 69) → ((K.upd b4 (.cells rc 192)).upd b (.cells fr1 69)).le M9 := fun M9 h1 h2 => Mm.upd_le2 h1 h2
  have KX := Lib.hid KW0
  clear KW0
  have KW0 := KX.out
  clear KX
  generalize (K.upd b4 _).upd b _ = K1 at KL hbK hfK KW0
  go_upto_region 14 with (first
    | (with_reducible show wpList _ _ _ ({ dst := _, op := Op.load 70 _, type := _, pos := _, after := _, guard := _ } :: _) _ _; refine wpList_load1_has h rfl 70 _ rfl rfl hbT d3 Tryz.underlying70 rfl ?_)
    | (with_reducible show wpList _ _ _ ({ dst := _, op := Op.load 42 _, type := _, pos := _, after := _, guard := _ } :: _) _ _; refine wpList_load1_has h rfl 42 _ rfl rfl hfb f3 Tryz.underlying42 rfl ?_)
    | (with_reducible show wpList _ _ _ ({ dst := _, op := Op.load 3 _, type := _, pos := _, after := _, guard := _ } :: _) _ _; refine wpList_load1_has h rfl 3 _ rfl rfl hfb f1 Tryz.underlying3 rfl ?_)
    | ((go_at_call 138; refine (UN.out _).mono ?_; rintro r w' ⟨rfl, rfl⟩)))
  go_upto_region 15 with (first
    | (with_reducible show wpList _ _ _ ({ dst := _, op := Op.store 3 _ _, type := _, pos := _, after := _, guard := _ } :: _) _ _; refine wpList_store1_has h rfl 3 _ _ rfl rfl rfl hfb hsz rfl (by kernel_rfl) ?_; clear h; intro w h))
  have h0 : Has σ (M1.upd b (.cells (fr0.setIfInBounds 1 (.int .i64 0)) 69)) w := h
  rw [R0.out] at h0
  clear h
  have h := h0
  clear h0 hfb hsz R0 UN hbT
  generalize M1.upd b _ = M2 at h KL SW
  refine wp_region_held_drew (S := Has σ (K1)) (by kernel_rfl) (h.drew.le KL) (fun hHeld => ?_)
  refine wpAnyH_take (i := 0) (v := ?_) rfl (by kernel_rfl) (by kernel_rfl) (by kernel_rfl) (fun _ _ _ h => h) (Or.inl ⟨by rfl, ?_⟩) hHeld ?_
  rotate_left
  · (intro wz _; go_simp; try with_reducible rfl)
  try simp only [List.getElem_toArray, List.getElem_cons_succ, List.getElem_cons_zero, Act.put, List.setIfInBounds_toArray, List.set_cons_zero, List.set_cons_succ]
  refine wpAnyH_take (i := 1) (v := _) rfl (by kernel_rfl) (by kernel_rfl) (by kernel_rfl) (fun _ _ _ h => h) (yields_agg rfl 190 _ rfl rfl hbK dx dz Tryz.underlying190 rfl (by kernel_rfl)) hHeld ?_
  try simp only [List.getElem_toArray, List.getElem_cons_succ, List.getElem_cons_zero, Act.put, List.setIfInBounds_toArray, List.set_cons_zero, List.set_cons_succ]
  refine wpAnyH_take (i := 2) (v := ?_) rfl (by kernel_rfl) (by kernel_rfl) (by kernel_rfl) (fun _ _ _ h => h) (Or.inl ⟨by rfl, ?_⟩) hHeld ?_
  rotate_left
  · (intro wz _; go_simp; try with_reducible rfl)
  try simp only [List.getElem_toArray, List.getElem_cons_succ, List.getElem_cons_zero, Act.put, List.setIfInBounds_toArray, List.set_cons_zero, List.set_cons_succ]
  refine wpAnyH_take (i := 3) (v := ?_) rfl (by kernel_rfl) (by kernel_rfl) (by kernel_rfl) (fun _ _ _ h => h) (Or.inl ⟨by rfl, ?_⟩) hHeld ?_
  rotate_left
  · (intro wz _; go_simp; try with_reducible rfl)
  try simp only [List.getElem_toArray, List.getElem_cons_succ, List.getElem_cons_zero, Act.put, List.setIfInBounds_toArray, List.set_cons_zero, List.set_cons_succ]
  refine wpAnyH_take (i := 4) (v := ?_) rfl (by kernel_rfl) (by kernel_rfl) (by kernel_rfl) (fun _ _ _ h => h) (Or.inl ⟨by rfl, ?_⟩) hHeld ?_
  rotate_left
  · (intro wz _; go_simp; try with_reducible rfl)
  try simp only [List.getElem_toArray, List.getElem_cons_succ, List.getElem_cons_zero, Act.put, List.setIfInBounds_toArray, List.set_cons_zero, List.set_cons_succ]
  refine wpAnyH_take (i := 5) (v := ?_) rfl (by kernel_rfl) (by kernel_rfl) (by kernel_rfl) (fun _ _ _ h => h) (Or.inl ⟨by rfl, ?_⟩) hHeld ?_
  rotate_left
  · (intro wz _; go_simp; try with_reducible rfl)
  try simp only [List.getElem_toArray, List.getElem_cons_succ, List.getElem_cons_zero, Act.put, List.setIfInBounds_toArray, List.set_cons_zero, List.set_cons_succ]
  refine wpAnyH_take (i := 6) (v := _) rfl (by kernel_rfl) (by kernel_rfl) (by kernel_rfl) (fun _ _ _ h => h) (yields_load1 rfl 42 _ rfl rfl hfK f4 Tryz.underlying42 rfl) hHeld ?_
  try simp only [List.getElem_toArray, List.getElem_cons_succ, List.getElem_cons_zero, Act.put, List.setIfInBounds_toArray, List.set_cons_zero, List.set_cons_succ]
  refine wpAnyH_take (i := 7) (v := ?_) rfl (by kernel_rfl) (by kernel_rfl) (by kernel_rfl) (fun _ _ _ h => h) (Or.inl ⟨by rfl, ?_⟩) hHeld ?_
  rotate_left
  · (intro wz _; go_simp; try with_reducible rfl)
  try simp only [List.getElem_toArray, List.getElem_cons_succ, List.getElem_cons_zero, Act.put, List.setIfInBounds_toArray, List.set_cons_zero, List.set_cons_succ]
  replace h := h.drew
  generalize w.drew = w1 at h hHeld ⊢
  clear w
  obtain ⟨w, rfl⟩ : ∃ q : World, q = w1 := ⟨_, rfl⟩
  refine wpAnyH_ready (rs := [8]) (by kernel_rfl) (by simp) ?_
  refine AllReadyH.cons rfl (fun K hK => ?_) AllReadyH.nil
  (go_simp; go_wp2_with (go_at_call 141; refine (SW.out _ h).mono ?_; clear h; rintro _ w ⟨rfl, M3, lab3, h, hT3⟩; have KE := KW0 _ hT3.base.le (by rw [← HR1.out]; exact hT3.obj)))
  refine hK.out _ _ (h.le KE) (fun hHeld => ?_)
  clear hK K
  try simp only [Act.put, List.setIfInBounds_toArray, List.set_cons_zero, List.set_cons_succ]
  refine wpAnyH_done (by kernel_rfl) ?_ _
  clear hHeld
  have WA := Lib.hid (fun (w : World) (h : Has σ M3 w) => mWarden_eq h hT3.mach)
  have LV : Hid (∀ w : World, Has σ M3 w → Calls Tryz.prog 12 #[.pointer (some ⟨p, 0, none⟩), .int .i64 (t : Nat)] w fun r w' => r = .returned (.int .i64 (lv : Nat)) ∧ Has σ M3 w') := Lib.hid fun w h => (mLevel_eq h hT3.mach t).mono fun r w' ⟨e, h'⟩ => ⟨e.trans (congrArg (fun z => Ending.returned (Value.int .i64 z)) HLV.out), h'⟩
  have TKE := Lib.hid (fun (w : World) (h : Has σ M3 w) => take_yes h hT3.mach.ward lv (sl : Nat) HTH.out HV0.out)
  have hT4 := hT3.took lv (sl : Nat)
  have hfb4 := hT4.obj
  rw [HR1.out] at hfb4
  have KW : K1.le (M3.upd s.ward.hb (mapRow (s.ward.take lv (sl : Nat)).held (s.ward.take lv (sl : Nat)).hclk)) := KW0 _ hT4.base.le hfb4
  obtain ⟨_, hT5⟩ := hT4.frame ((f.goto 0).goto 3)
  have HT := Lib.hid (hT5.less HK.out)
  have R3 := Lib.hid (row_goto (f.goto 0) 3)
  rw [HR1.out] at R3
  have hsz4 : 1 < fr1.size := by rw [← HR1.out]; show 1 < 18; omega
  replace TKE : Hid (∀ w : World, Has σ M3 w → Calls Tryz.prog 54 #[.pointer (some ⟨s.wp, 0, none⟩), .int .i64 (lv : Nat), .int .i64 (sl : Nat)] w fun r w' => r = .returned (.bool true) ∧ Has σ (M3.upd s.ward.hb (mapRow (s.ward.take lv (sl : Nat)).held (s.ward.take lv (sl : Nat)).hclk)) w') := TKE
  replace WA : Hid (∀ w : World, Has σ M3 w → Calls Tryz.prog 17 #[.pointer (some ⟨p, 0, none⟩)] w fun r w' => r = .returned (.pointer (some ⟨s.wp, 0, none⟩)) ∧ Has σ M3 w') := WA
  replace hfb4 : (M3.upd s.ward.hb (mapRow (s.ward.take lv (sl : Nat)).held (s.ward.take lv (sl : Nat)).hclk)) b = some (.cells fr1 69) := hfb4
  replace HT : Hid (AtTop K ((M3.upd s.ward.hb (mapRow (s.ward.take lv (sl : Nat)).held (s.ward.take lv (sl : Nat)).hclk)).upd b (.cells ((f.goto 0).goto 3).row 69)) lab3 p _ t q b fs (f.goto 3)) := HT
  clear hT3 hT4 hT5 HK HR1 HTH HV0 HLV KW0
  generalize M3.upd s.ward.hb _ = M4 at *
  generalize ((f.goto 0).goto 3).row = fr3 at *
  go_upto_region 16 with (fail)
  refine wp_region_held_drew (S := Has σ (K1)) (by kernel_rfl) (h.drew.le KE) (fun hHeld => ?_)
  refine wpAnyH_take (i := 0) (v := ?_) rfl (by kernel_rfl) (by kernel_rfl) (by kernel_rfl) (fun _ _ _ h => h) (Or.inl ⟨by rfl, ?_⟩) hHeld ?_
  rotate_left
  · (intro wz _; go_simp; try with_reducible rfl)
  try simp only [List.getElem_toArray, List.getElem_cons_succ, List.getElem_cons_zero, Act.put, List.setIfInBounds_toArray, List.set_cons_zero, List.set_cons_succ]
  refine wpAnyH_take (i := 1) (v := ?_) rfl (by kernel_rfl) (by kernel_rfl) (by kernel_rfl) (fun _ _ _ h => h) (Or.inl ⟨by rfl, ?_⟩) hHeld ?_
  rotate_left
  · (intro wz _; go_simp; try with_reducible rfl)
  try simp only [List.getElem_toArray, List.getElem_cons_succ, List.getElem_cons_zero, Act.put, List.setIfInBounds_toArray, List.set_cons_zero, List.set_cons_succ]
  refine wpAnyH_take (i := 2) (v := _) rfl (by kernel_rfl) (by kernel_rfl) (by kernel_rfl) (fun _ _ _ h => h) (yields_load1 rfl 26 _ rfl rfl hbK d0 Tryz.underlying26 rfl) hHeld ?_
  try simp only [List.getElem_toArray, List.getElem_cons_succ, List.getElem_cons_zero, Act.put, List.setIfInBounds_toArray, List.set_cons_zero, List.set_cons_succ]
  refine wpAnyH_take (i := 4) (v := ?_) rfl (by kernel_rfl) (by kernel_rfl) (by kernel_rfl) (fun _ _ _ h => h) (Or.inl ⟨by rfl, ?_⟩) hHeld ?_
  rotate_left
  · (intro wz _; go_simp; try with_reducible rfl)
  try simp only [List.getElem_toArray, List.getElem_cons_succ, List.getElem_cons_zero, Act.put, List.setIfInBounds_toArray, List.set_cons_zero, List.set_cons_succ]
  refine wpAnyH_take (i := 5) (v := ?_) rfl (by kernel_rfl) (by kernel_rfl) (by kernel_rfl) (fun _ _ _ h => h) (Or.inl ⟨by rfl, ?_⟩) hHeld ?_
  rotate_left
  · (intro wz _; go_simp; try with_reducible rfl)
  try simp only [List.getElem_toArray, List.getElem_cons_succ, List.getElem_cons_zero, Act.put, List.setIfInBounds_toArray, List.set_cons_zero, List.set_cons_succ]
  refine wpAnyH_take (i := 6) (v := _) rfl (by kernel_rfl) (by kernel_rfl) (by kernel_rfl) (fun _ _ _ h => h) (yields_load1 rfl 26 _ rfl rfl hbK d0 Tryz.underlying26 rfl) hHeld ?_
  try simp only [List.getElem_toArray, List.getElem_cons_succ, List.getElem_cons_zero, Act.put, List.setIfInBounds_toArray, List.set_cons_zero, List.set_cons_succ]
  refine wpAnyH_take (i := 7) (v := ?_) rfl (by kernel_rfl) (by kernel_rfl) (by kernel_rfl) (fun _ _ _ h => h) (Or.inl ⟨by rfl, ?_⟩) hHeld ?_
  rotate_left
  · (intro wz _; go_simp; try with_reducible rfl)
  try simp only [List.getElem_toArray, List.getElem_cons_succ, List.getElem_cons_zero, Act.put, List.setIfInBounds_toArray, List.set_cons_zero, List.set_cons_succ]
  refine wpAnyH_take (i := 8) (v := ?_) rfl (by kernel_rfl) (by kernel_rfl) (by kernel_rfl) (fun _ _ _ h => h) (Or.inl ⟨by rfl, ?_⟩) hHeld ?_
  rotate_left
  · (intro wz _; go_simp; try with_reducible rfl)
  try simp only [List.getElem_toArray, List.getElem_cons_succ, List.getElem_cons_zero, Act.put, List.setIfInBounds_toArray, List.set_cons_zero, List.set_cons_succ]
  refine wpAnyH_take (i := 9) (v := _) rfl (by kernel_rfl) (by kernel_rfl) (by kernel_rfl) (fun _ _ _ h => h) (yields_load1 rfl 3 _ rfl rfl hbK d1 Tryz.underlying3 rfl) hHeld ?_
  try simp only [List.getElem_toArray, List.getElem_cons_succ, List.getElem_cons_zero, Act.put, List.setIfInBounds_toArray, List.set_cons_zero, List.set_cons_succ]
  refine wpAnyH_take (i := 11) (v := ?_) rfl (by kernel_rfl) (by kernel_rfl) (by kernel_rfl) (fun _ _ _ h => h) (Or.inl ⟨by rfl, ?_⟩) hHeld ?_
  rotate_left
  · (intro wz _; go_simp; try with_reducible rfl)
  try simp only [List.getElem_toArray, List.getElem_cons_succ, List.getElem_cons_zero, Act.put, List.setIfInBounds_toArray, List.set_cons_zero, List.set_cons_succ]
  replace h := h.drew
  generalize w.drew = w1 at h hHeld ⊢
  clear w
  obtain ⟨w, rfl⟩ : ∃ q : World, q = w1 := ⟨_, rfl⟩
  refine wpAnyH_ready (rs := [3]) (by kernel_rfl) (by simp) ?_
  refine AllReadyH.cons rfl (fun K hK => ?_) AllReadyH.nil
  (go_simp; go_wp2_with (go_at_call 17; refine (WA.out _ h).mono ?_; clear h; rintro _ w ⟨rfl, h⟩))
  refine hK.out _ _ (h.le KE) (fun hHeld => ?_)
  clear hK K
  try simp only [Act.put, List.setIfInBounds_toArray, List.set_cons_zero, List.set_cons_succ]
  refine wpAnyH_ready (rs := [10]) (by kernel_rfl) (by simp) ?_
  refine AllReadyH.cons rfl (fun K hK => ?_) AllReadyH.nil
  (go_simp; go_wp2_with (go_at_call 12; refine (LV.out _ h).mono ?_; clear h; rintro _ w ⟨rfl, h⟩))
  refine hK.out _ _ (h.le KE) (fun hHeld => ?_)
  clear hK K
  try simp only [Act.put, List.setIfInBounds_toArray, List.set_cons_zero, List.set_cons_succ]
  refine wpAnyH_ready (rs := [12]) (by kernel_rfl) (by simp) ?_
  refine AllReadyH.cons rfl (fun K hK => ?_) AllReadyH.nil
  (go_simp; go_wp2_with (go_at_call 54; refine (TKE.out _ h).mono ?_; clear h; rintro _ w ⟨rfl, h⟩))
  refine hK.out _ _ (h.le KW) (fun hHeld => ?_)
  clear hK K
  try simp only [Act.put, List.setIfInBounds_toArray, List.set_cons_zero, List.set_cons_succ]
  refine wpAnyH_done (by kernel_rfl) ?_ _
  clear hHeld
  go_wp2_with (first
    | (with_reducible show wpList _ _ _ ({ dst := _, op := Op.store 3 _ _, type := _, pos := _, after := _, guard := _ } :: _) _ _; refine wpList_store1_has h rfl 3 _ _ rfl rfl rfl hfb4 hsz4 rfl (by kernel_rfl) ?_; clear h; intro w h))
  go_end0
  refine ⟨rfl, _, _, ?_, HT.out⟩
  have h0 : Has σ (M4.upd b (.cells (fr1.setIfInBounds 1 (.int .i64 3)) 69)) w := h
  rw [R3.out] at h0
  exact h0
end Go.Proofs.YtjeeldacnllipaaGreat
