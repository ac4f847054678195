/- Walks of layer 22 (stock): a thread's top frame on a machine: top. -/
import Derived.Test.YtjeeldacnllipaaGreatRunA
import Derived.Test.YtjeeldacnllipaaGreatCas
import Derived.Test.YtjeeldacnllipaaGreatLinksB
import Derived.Test.YtjeeldacnllipaaGreatHeldB
namespace Go.Proofs.YtjeeldacnllipaaGreat
open Go.RowKit
set_option linter.unusedVariables false
set_option linter.unusedSimpArgs false
set_option linter.unnecessarySimpa false
def FrameS.reg (f : FrameS) (k : Nat) (v : Int) : FrameS := { f with r := upd f.r k v }
def FrameS.goto (f : FrameS) (n : Int) : FrameS := { f with at_ := n }
theorem row_reg1 (f : FrameS) (v : Int) : f.row.setIfInBounds 3 (.int .u64 v) = (f.reg 1 v).row := rfl
theorem row_reg2 (f : FrameS) (v : Int) : f.row.setIfInBounds 4 (.int .u64 v) = (f.reg 2 v).row := rfl
theorem row_goto (f : FrameS) (n : Int) : f.row.setIfInBounds 1 (.int .i64 n) = (f.goto n).row := rfl
def MachS.top (s : MachS) (t : Nat) (fs : List FrameS) (f : FrameS) : MachS := { s with thr := fun j => if j = t then { s.thr t with frames := fs ++ [f] } else s.thr j }
/-- A machine, and what else is known; thread t's top frame is in block b. -/
structure AtTop (K M : Mm) (lab : Nat → Nat) (p : Nat) (s : MachS) (t q b : Nat) (fs : List FrameS) (f : FrameS) : Prop where
  mach : Mach M lab p s
  base : Base K M lab
  tp : s.tp[t]? = some q
  thr : ∃ fv hv fbs, Thr M lab t q (s.thr t) fv hv (fbs ++ [b])
  fr : (s.thr t).frames = fs ++ [f]
section
variable {K K' M M' : Mm} {lab lab' : Nat → Nat} {p t q b : Nat} {s : MachS} {fs : List FrameS} {f : FrameS}
theorem AtTop.keep (h : AtTop K M lab p s t q b fs f) {A : Nat → Prop} (hK : Kp A M lab M' lab') (hA : ∀ k, OfThr t k → ¬ A k) {s' : MachS} (hM : Mach M' lab' p s') (hB : Base K' M' lab') (e1 : s'.tp = s.tp) (e2 : s'.thr t = s.thr t) : AtTop K' M' lab' p s' t q b fs f := by
  obtain ⟨fv, hv, fbs, hT⟩ := h.thr
  exact ⟨hM, hB, by rw [e1]; exact h.tp, ⟨fv, hv, fbs, by rw [e2]; exact hT.keep hK hA⟩, by rw [e2]; exact h.fr⟩
theorem AtTop.less (h : AtTop K M lab p s t q b fs f) (hK : K'.le K) : AtTop K' M lab p s t q b fs f := ⟨h.mach, fun c o hc => h.base c o (hK _ _ hc), h.tp, h.thr, h.fr⟩
theorem AtTop.more1 (h : AtTop K M lab p s t q b fs f) (hle : M.le M') {c : Nat} {o : Obj} (hn : M c = none) (hb : M' c = some o) : ∃ lab', AtTop (K.upd c o) M' lab' p s t q b fs f := by
  refine ⟨_, h.keep (Kp.le hle fun _ => 0) (fun _ _ h => h) (h.mach.keep (Kp.le hle fun _ => 0) fun _ _ h => h) (fun c' o' hc => ?_) rfl rfl⟩
  by_cases e : c' = c
  · subst e
    rw [Mm.upd_same] at hc
    cases hc
    exact ⟨hb, relab_new hn _⟩
  · rw [Mm.upd_ne e] at hc
    obtain ⟨h1, h2⟩ := h.base c' o' hc
    exact ⟨hle _ _ h1, by unfold relab; rw [h1]; exact h2⟩
theorem AtTop.load (h : AtTop K M lab p s t q b fs f) (a : Int) : AtTop K (M.upd s.mp (.cells (s.mem.at_ a).cells 146)) lab p { s with mem := s.mem.at_ a } t q b fs f := by
  obtain ⟨h1, h2⟩ := h.mach.load h.base a rfl
  exact h.keep (A := fun k => k = 2) (Kp.upd h.mach.mlab.1 _) (fun k hk e => by have := hk.1; omega) h1 h2 rfl rfl
theorem AtTop.frame (h : AtTop K M lab p s t q b fs f) (f' : FrameS) : M b = some (.cells f.row 69) ∧ AtTop K (M.upd b (.cells f'.row 69)) lab p (s.top t fs f') t q b fs f' := by
  obtain ⟨fv, hv, fbs, hT⟩ := h.thr
  obtain ⟨h1, h2, h3⟩ := hT.topped h.fr f'
  obtain ⟨h4, h5⟩ := h.mach.thrTo h.base h.tp h2 ⟨fv, hv, fbs ++ [b], h3⟩
  refine ⟨h1, h4, h5, h.tp, ⟨fv, hv, fbs, ?_⟩, ?_⟩
  · show Thr _ _ _ _ (if t = t then { s.thr t with frames := fs ++ [f'] } else s.thr t) _ _ _
    rw [if_pos rfl]; exact h3
  · show (if t = t then { s.thr t with frames := fs ++ [f'] } else s.thr t).frames = _
    rw [if_pos rfl]
theorem MachS.top_top (s : MachS) (t : Nat) (fs : List FrameS) (f f' : FrameS) : (s.top t fs f).top t fs f' = s.top t fs f' := by
  unfold MachS.top
  congr 1
  funext j
  by_cases e : j = t
  · simp [e]
  · simp [e]
end
set_option maxHeartbeats 4000000 in
set_option maxRecDepth 20000 in
/-- top: the free list's top is read. -/
theorem runTop_eq {σ w : World} {K M : Mm} {lab : Nat → Nat} {p t q b : Nat} {s : MachS} {fs : List FrameS} {f : FrameS} (h : Has σ M w) (hT : AtTop K M lab p s t q b fs f) {a : Int} (SP : SpotAt σ M p t 0 0 0 a) (hb1 : s.mem.acc < 1000000000) (next : Int) :
    Calls Tryz.prog 139 #[.agg (runC p t q b), .int .i64 next] w fun r w' => r = .returned (.tuple #[]) ∧ ∃ M' lab', Has σ M' w' ∧ AtTop K M' lab' p (MachS.top { s with mem := s.mem.at_ a } t fs ((f.reg 1 (s.mem.load a)).goto next)) t q b fs ((f.reg 1 (s.mem.load a)).goto next) := by
  have d0 : (runC p t q b)[0]? = some (.pointer (some ⟨p, 0, none⟩)) := rfl
  have d3 : (runC p t q b)[3]? = some (.pointer (some ⟨b, 0, none⟩)) := rfl
  have dx : (runC p t q b).extract 0 (0 + 4) = runC p t q b := rfl
  have dz : (runC p t q b).size = 4 := rfl
  have AT := Lib.hid (fun (M' : Mm) (w : World) (h : Has σ M' w) (hle : M.le M') => runAt_eq (q := q) (b := b) h (SP.le hle))
  obtain ⟨v, hvv⟩ : ∃ v, s.mem.load a = v := ⟨_, rfl⟩
  rw [hvv]
  clear SP
  generalize runC p t q b = rc at *
  go_enter Tryz.func139, Tryz.ntmps139
  go_upto_region 1 with (fail)
  obtain ⟨M1, hbx, hle, hb4, hn⟩ := h.box (.cells rc 190)
  generalize w.alloc _ = wx at hbx ⊢
  generalize w.heap.size = b4 at hb4 hn ⊢
  clear h
  try clear w
  have h := hbx
  clear hbx
  obtain ⟨w, rfl⟩ : ∃ x : World, x = wx := ⟨_, rfl⟩
  obtain ⟨lab1, hT1⟩ := hT.more1 hle hn hb4
  have hnK : K b4 = none := by
    cases e : K b4 with
    | none => rfl
    | some o => have := (hT.base _ _ e).1; rw [hn] at this; cases this
  have hKK : K.le (K.upd b4 (.cells rc 190)) := Mm.le_upd' hnK _
  have hbK : (K.upd b4 (.cells rc 190)) b4 = some (.cells rc 190) := Mm.upd_same _ _ _
  have AT1 := Lib.hid (fun (w : World) (h : Has σ M1 w) => AT.out M1 w h hle)
  have ME := Lib.hid (fun (w : World) (h : Has σ M1 w) => mMem_eq h hT1.mach)
  have LD := Lib.hid (fun (w : World) (h : Has σ M1 w) => memLoad_eq h hT1.mach.mem hb1 a)
  rw [hvv] at LD
  have KL := hT1.base.le
  have hT2 := hT1.load a
  have KE := hT2.base.le
  obtain ⟨hfb, hT3⟩ := hT2.frame (f.reg 1 v)
  have KS := hT3.base.le
  obtain ⟨hfb3, hT4⟩ := hT3.frame ((f.reg 1 v).goto next)
  rw [MachS.top_top, Mm.upd_upd] at hT4
  have HT := Lib.hid (hT4.less hKK)
  have hsz : 3 < f.row.size := show 3 < 18 by omega
  have hsz3 : 1 < (f.reg 1 v).row.size := show 1 < 18 by omega
  have R1 := Lib.hid (row_reg1 f v)
  have R2 := Lib.hid (row_goto (f.reg 1 v) next)
  clear hvv hT hT1 hT2 hT3 hT4 AT hb1 hn hle hnK hKK
  generalize K.upd b4 _ = K1 at KL KE KS hbK
  generalize hr0 : f.row = fr0 at hfb hsz R1
  generalize hr1 : (f.reg 1 v).row = fr1 at *
  generalize hr2 : ((f.reg 1 v).goto next).row = fr2 at *
  clear hr0 hr1 hr2
  generalize M1.upd s.mp _ = M2 at *
  refine wp_region_held_drew (S := Has σ (K1)) (by kernel_rfl) (h.drew.le KL) (fun hHeld => ?_)
  refine wpAnyH_take (i := 0) (v := ?_) rfl (by kernel_rfl) (by kernel_rfl) (by kernel_rfl) (fun _ _ _ h => h) (Or.inl ⟨by rfl, ?_⟩) hHeld ?_
  rotate_left
  · (intro wz _; go_simp; try with_reducible rfl)
  try simp only [List.getElem_toArray, List.getElem_cons_succ, List.getElem_cons_zero, Act.put, List.setIfInBounds_toArray, List.set_cons_zero, List.set_cons_succ]
  refine wpAnyH_take (i := 1) (v := _) rfl (by kernel_rfl) (by kernel_rfl) (by kernel_rfl) (fun _ _ _ h => h) (yields_load1 rfl 70 _ rfl rfl hbK d3 Tryz.underlying70 rfl) hHeld ?_
  try simp only [List.getElem_toArray, List.getElem_cons_succ, List.getElem_cons_zero, Act.put, List.setIfInBounds_toArray, List.set_cons_zero, List.set_cons_succ]
  refine wpAnyH_take (i := 2) (v := ?_) rfl (by kernel_rfl) (by kernel_rfl) (by kernel_rfl) (fun _ _ _ h => h) (Or.inl ⟨by rfl, ?_⟩) hHeld ?_
  rotate_left
  · (intro wz _; go_simp; try with_reducible rfl)
  try simp only [List.getElem_toArray, List.getElem_cons_succ, List.getElem_cons_zero, Act.put, List.setIfInBounds_toArray, List.set_cons_zero, List.set_cons_succ]
  refine wpAnyH_take (i := 3) (v := _) rfl (by kernel_rfl) (by kernel_rfl) (by kernel_rfl) (fun _ _ _ h => h) (yields_load1 rfl 26 _ rfl rfl hbK d0 Tryz.underlying26 rfl) hHeld ?_
  try simp only [List.getElem_toArray, List.getElem_cons_succ, List.getElem_cons_zero, Act.put, List.setIfInBounds_toArray, List.set_cons_zero, List.set_cons_succ]
  refine wpAnyH_take (i := 5) (v := _) rfl (by kernel_rfl) (by kernel_rfl) (by kernel_rfl) (fun _ _ _ h => h) (yields_agg rfl 190 _ rfl rfl hbK dx dz Tryz.underlying190 rfl (by kernel_rfl)) hHeld ?_
  try simp only [List.getElem_toArray, List.getElem_cons_succ, List.getElem_cons_zero, Act.put, List.setIfInBounds_toArray, List.set_cons_zero, List.set_cons_succ]
  refine wpAnyH_take (i := 8) (v := ?_) rfl (by kernel_rfl) (by kernel_rfl) (by kernel_rfl) (fun _ _ _ h => h) (Or.inl ⟨by rfl, ?_⟩) hHeld ?_
  rotate_left
  · (intro wz _; go_simp; try with_reducible rfl)
  try simp only [List.getElem_toArray, List.getElem_cons_succ, List.getElem_cons_zero, Act.put, List.setIfInBounds_toArray, List.set_cons_zero, List.set_cons_succ]
  refine wpAnyH_take (i := 9) (v := ?_) rfl (by kernel_rfl) (by kernel_rfl) (by kernel_rfl) (fun _ _ _ h => h) (Or.inl ⟨by rfl, ?_⟩) hHeld ?_
  rotate_left
  · (intro wz _; go_simp; try with_reducible rfl)
  try simp only [List.getElem_toArray, List.getElem_cons_succ, List.getElem_cons_zero, Act.put, List.setIfInBounds_toArray, List.set_cons_zero, List.set_cons_succ]
  replace h := h.drew
  generalize w.drew = w1 at h hHeld ⊢
  clear w
  obtain ⟨w, rfl⟩ : ∃ q : World, q = w1 := ⟨_, rfl⟩
  refine wpAnyH_ready (rs := [4]) (by kernel_rfl) (by simp) ?_
  refine AllReadyH.cons rfl (fun K hK => ?_) AllReadyH.nil
  (go_simp; go_wp2_with (go_at_call 46; refine (ME.out _ h).mono ?_; clear h; rintro _ w ⟨rfl, h⟩))
  refine hK.out _ _ (h.le KL) (fun hHeld => ?_)
  clear hK K
  try simp only [Act.put, List.setIfInBounds_toArray, List.set_cons_zero, List.set_cons_succ]
  refine wpAnyH_ready (rs := [6]) (by kernel_rfl) (by simp) ?_
  refine AllReadyH.cons rfl (fun K hK => ?_) AllReadyH.nil
  (go_simp; go_wp2_with (go_at_call 140; refine (AT1.out _ h).mono ?_; clear h; rintro _ w ⟨rfl, h⟩))
  refine hK.out _ _ (h.le KL) (fun hHeld => ?_)
  clear hK K
  try simp only [Act.put, List.setIfInBounds_toArray, List.set_cons_zero, List.set_cons_succ]
  refine wpAnyH_ready (rs := [7]) (by kernel_rfl) (by simp) ?_
  refine AllReadyH.cons rfl (fun K hK => ?_) AllReadyH.nil
  (go_simp; go_wp2_with (go_at_call 94; refine (LD.out _ h).mono ?_; clear h; rintro _ w ⟨rfl, h⟩))
  refine hK.out _ _ (h.le KE) (fun hHeld => ?_)
  clear hK K
  try simp only [Act.put, List.setIfInBounds_toArray, List.set_cons_zero, List.set_cons_succ]
  refine wpAnyH_take (i := 10) (v := ?_) rfl (by kernel_rfl) (by kernel_rfl) (by kernel_rfl) (fun _ _ _ h => h) (Or.inl ⟨by rfl, ?_⟩) hHeld ?_
  rotate_left
  · (intro wz _; go_simp; try with_reducible rfl)
  try simp only [List.getElem_toArray, List.getElem_cons_succ, List.getElem_cons_zero, Act.put, List.setIfInBounds_toArray, List.set_cons_zero, List.set_cons_succ]
  refine wpAnyH_ready (rs := [11]) (by kernel_rfl) (by simp) ?_
  refine AllReadyH.cons rfl (fun K hK => ?_) AllReadyH.nil
  (refine step_store1 (v := .int .u64 v) h rfl 42 _ _ rfl rfl rfl hfb hsz rfl rfl (by kernel_rfl) ?_; clear h; intro w h; rw [R1.out] at h)
  refine hK.out _ _ (h.le KS) (fun hHeld => ?_)
  clear hK K
  try simp only [Act.put, List.setIfInBounds_toArray, List.set_cons_zero, List.set_cons_succ]
  refine wpAnyH_done (by kernel_rfl) ?_ _
  have hb4' := KS _ _ hbK
  clear hHeld
  generalize hM3 : M2.upd b (.cells fr1 69) = M3 at h hfb3 KS hb4'
  go_wp2_with (first
    | (with_reducible show wpList _ _ _ ({ dst := _, op := Op.load 70 _, type := _, pos := _, after := _, guard := _ } :: _) _ _; refine wpList_load1_has h rfl 70 _ rfl rfl hb4' d3 Tryz.underlying70 rfl ?_)
    | (with_reducible show wpList _ _ _ ({ dst := _, op := Op.store 3 _ _, type := _, pos := _, after := _, guard := _ } :: _) _ _; refine wpList_store1_has h rfl 3 _ _ rfl rfl rfl hfb3 hsz3 rfl (by kernel_rfl) ?_; clear h; intro w h))
  go_end0
  refine ⟨rfl, _, _, ?_, HT.out⟩
  have h0 : Has σ (M2.upd b (.cells (fr1.setIfInBounds 1 (.int .i64 next)) 69)) w := by rw [← hM3, Mm.upd_upd] at h; exact h
  rw [R2.out] at h0
  exact h0
end Go.Proofs.YtjeeldacnllipaaGreat
