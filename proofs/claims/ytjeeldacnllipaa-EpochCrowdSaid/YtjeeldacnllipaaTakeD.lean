/- Walks of layer 22 (stock): Do. -/
import Derived.Test.YtjeeldacnllipaaTakeC
namespace Go.Proofs.Ytjeeldacnllipaa
open Go.RowKit
set_option linter.unusedVariables false
set_option linter.unusedSimpArgs false
set_option linter.unnecessarySimpa false
theorem AtTop.of {K M : Mm} {lab : Nat → Nat} {p t q : Nat} {s : MachS} {fs : List FrameS} {f : FrameS} (hM : Mach M lab p s) (hB : Base K M lab) (hq : s.tp[t]? = some q) (hf : (s.thr t).frames = fs ++ [f]) : ∃ b, AtTop K M lab p s t q b fs f := by
  obtain ⟨fv, hv, fbs, hT⟩ := hM.each t q hq
  have hl := hT.flen
  rw [hf] at hl
  rcases List.eq_nil_or_concat fbs with he | ⟨l, b, he⟩
  · rw [he] at hl; simp at hl
  · rw [List.concat_eq_append] at he
    subst he
    exact ⟨b, hM, hB, hq, ⟨fv, hv, l, hT⟩, hf⟩
section
variable {σ w : World} {K M : Mm} {lab : Nat → Nat} {p t q : Nat} {s : MachS}
theorem nThread_eq (h : Has σ M w) (t : Int) : Calls Try.prog 15 #[.pointer none, .int .i64 t] w fun r w' => r = .returned (.pointer none) ∧ Has σ M w' := by
  go_enter Try.func15, Try.ntmps15
  go_wp2
  go_ret
  exact ⟨rfl, h⟩
/-- Do of no machine. -/
theorem do_nil (h : Has σ M w) (t : Int) : Calls Try.prog 38 #[.pointer none, .int .i64 t] w fun r w' => r = .returned (.tuple #[]) ∧ Has σ M w' := by
  have TH := Lib.hid (fun (w : World) (h : Has σ M w) => nThread_eq h t)
  have TP := Lib.hid (fun (w : World) (h : Has σ M w) => thrTop_none h)
  go_enter Try.func38, Try.ntmps38
  go_wp2_with (first
    | (go_at_call 15; refine (TH.out _ h).mono ?_; clear h; rintro _ w ⟨rfl, h⟩)
    | (go_at_call 20; refine (TP.out _ h).mono ?_; clear h; rintro _ w ⟨rfl, h⟩))
  exact bodyPost_ret (results_none rfl _ _ _) rfl ⟨rfl, h⟩
/-- Do of no thread. -/
theorem do_nothr (h : Has σ M w) (hM : Mach M lab p s) (t : Int) (ht : t < 0 ∨ s.tp.length ≤ t) : Calls Try.prog 38 #[.pointer (some ⟨p, 0, none⟩), .int .i64 t] w fun r w' => r = .returned (.tuple #[]) ∧ Has σ M w' := by
  have TH := Lib.hid (fun (w : World) (h : Has σ M w) => mThread_no h hM t ht)
  have TP := Lib.hid (fun (w : World) (h : Has σ M w) => thrTop_none h)
  clear hM ht
  go_enter Try.func38, Try.ntmps38
  go_wp2_with (first
    | (go_at_call 15; refine (TH.out _ h).mono ?_; clear h; rintro _ w ⟨rfl, h⟩)
    | (go_at_call 20; refine (TP.out _ h).mono ?_; clear h; rintro _ w ⟨rfl, h⟩))
  exact bodyPost_ret (results_none rfl _ _ _) rfl ⟨rfl, h⟩
/-- Do of a thread that is within nothing. -/
theorem do_idle (h : Has σ M w) (hM : Mach M lab p s) (hq : s.tp[t]? = some q) (hf : (s.thr t).frames = []) : Calls Try.prog 38 #[.pointer (some ⟨p, 0, none⟩), .int .i64 (t : Nat)] w fun r w' => r = .returned (.tuple #[]) ∧ Has σ M w' := by
  have TH := Lib.hid (fun (w : World) (h : Has σ M w) => mThread_yes h hM hq)
  obtain ⟨fv, hv, fbs, hT⟩ := hM.each t q hq
  have hl := hT.flen
  rw [hf] at hl
  obtain rfl := List.eq_nil_of_length_eq_zero hl
  have TP := Lib.hid (fun (w : World) (h : Has σ M w) => thrTop_nil h hT)
  clear hM hq hf hT hl
  go_enter Try.func38, Try.ntmps38
  go_wp2_with (first
    | (go_at_call 15; refine (TH.out _ h).mono ?_; clear h; rintro _ w ⟨rfl, h⟩)
    | (go_at_call 20; refine (TP.out _ h).mono ?_; clear h; rintro _ w ⟨rfl, h⟩))
  exact bodyPost_ret (results_none rfl _ _ _) rfl ⟨rfl, h⟩
theorem zrun : (Try.prog.info? 129).bind (·.zero) = some (.agg #[.pointer none, .int .i64 0, .pointer none, .pointer none]) := by kernel_rfl
set_option maxHeartbeats 2000000 in
set_option maxRecDepth 20000 in
/-- Do of another routine. -/
theorem do_other {b : Nat} {fs : List FrameS} {f : FrameS} (h : Has σ M w) (hT : AtTop K M lab p s t q b fs f) (h1 : f.fn ≠ 1) (h2 : f.fn ≠ 2) (hfs : fs.length < 1000000) : Calls Try.prog 38 #[.pointer (some ⟨p, 0, none⟩), .int .i64 (t : Nat)] w fun r w' => r = .returned (.tuple #[]) ∧ Has σ M w' := by
  obtain ⟨fv, hv, fbs, hTh⟩ := hT.thr
  have hlen : fbs.length = fs.length := by
    have h1 := hTh.flen
    rw [hT.fr] at h1
    simpa using h1
  have TH := Lib.hid (fun (w : World) (h : Has σ M w) => mThread_yes h hT.mach hT.tp)
  have TP := Lib.hid (fun (w : World) (h : Has σ M w) => thrTop_eq h hTh (by omega))
  have hfb := hT.obj
  have f0 : f.row[0]? = some (.int .i64 f.fn) := rfl
  have g1 : (f.fn == 1) = false := beq_eq_false_iff_ne.2 h1
  have g2 : (f.fn == 2) = false := beq_eq_false_iff_ne.2 h2
  clear hT hTh hlen hfs h1 h2
  generalize f.row = fr0 at *
  generalize f.fn = fn at *
  go_enter Try.func38, Try.ntmps38
  go_upto_region 3 with (first
    | (go_at_call 15; refine (TH.out _ h).mono ?_; clear h; rintro _ w ⟨rfl, h⟩)
    | (go_at_call 20; refine (TP.out _ h).mono ?_; clear h; rintro _ w ⟨rfl, h⟩)
    | ((with_reducible show wpList _ _ _ ({ dst := _, op := Op.alloc 129, type := _, pos := _, after := _, guard := _ } :: _) _ _); refine wpList_alloc_has h rfl 129 rfl _ zrun ?_; clear h; intro bx w h hnx; try simp only [Act.put, List.setIfInBounds_toArray, List.set_cons_zero, List.set_cons_succ])
    | ((with_reducible show wpList _ _ _ ({ dst := _, op := Op.store 129 _ _, type := _, pos := _, after := _, guard := _ } :: _) _ _); refine wpList_storeAll_has (cells := runC p t q b) h rfl 129 _ _ rfl rfl rfl (Mm.upd_same _ _ _) rfl rfl rfl (by kernel_rfl) rfl ?_; clear h; intro w h))
  rw [Mm.upd_upd] at h
  have hfb1 := Mm.upd_of (o := .cells (runC p t q b) 129) hnx hfb
  have hle := Mm.le_upd' hnx (.cells (runC p t q b) 129)
  generalize M.upd bx _ = M1 at h hfb1 hle
  go_wp2_with (first
    | (with_reducible show wpList _ _ _ ({ dst := _, op := Op.load 3 _, type := _, pos := _, after := _, guard := _ } :: _) _ _; refine wpList_load1_has h rfl 3 _ rfl rfl hfb1 f0 Try.underlying3 rfl ?_))
  go_end0
  exact ⟨rfl, h.le hle⟩
set_option maxHeartbeats 2000000 in
set_option maxRecDepth 20000 in
/-- Do of Take: what a bit of it does. -/
theorem do_take {b : Nat} {fs : List FrameS} {f : FrameS} (h : Has σ M w) (hT : AtTop K M lab p s t q b fs f) (hfn : f.fn = 1) (hfs : fs.length < 1000000) {s' : MachS}
    (hstep : ∀ (K1 M1 : Mm) (lab1 : Nat → Nat) (w1 : World), Has σ M1 w1 → AtTop K1 M1 lab1 p s t q b fs f → Calls Try.prog 68 #[.agg (runC p t q b)] w1 fun r w' => r = .returned (.tuple #[]) ∧ ∃ M' lab', Has σ M' w' ∧ Mach M' lab' p s' ∧ Base K1 M' lab') :
    Calls Try.prog 38 #[.pointer (some ⟨p, 0, none⟩), .int .i64 (t : Nat)] w fun r w' => r = .returned (.tuple #[]) ∧ ∃ M' lab', Has σ M' w' ∧ Base K M' lab' ∧ Mach M' lab' p s' := by
  obtain ⟨fv, hv, fbs, hTh⟩ := hT.thr
  have hlen : fbs.length = fs.length := by
    have h1 := hTh.flen
    rw [hT.fr] at h1
    simpa using h1
  have TH := Lib.hid (fun (w : World) (h : Has σ M w) => mThread_yes h hT.mach hT.tp)
  have TP := Lib.hid (fun (w : World) (h : Has σ M w) => thrTop_eq h hTh (by omega))
  have hfb := hT.obj
  have f0 : f.row[0]? = some (.int .i64 f.fn) := rfl
  have HT := Lib.hid hT
  have HS := Lib.hid hstep
  rw [hfn] at f0
  clear hT hTh hlen hfs hfn hstep
  generalize f.row = fr0 at *
  go_enter Try.func38, Try.ntmps38
  go_upto_region 3 with (first
    | (go_at_call 15; refine (TH.out _ h).mono ?_; clear h; rintro _ w ⟨rfl, h⟩)
    | (go_at_call 20; refine (TP.out _ h).mono ?_; clear h; rintro _ w ⟨rfl, h⟩)
    | ((with_reducible show wpList _ _ _ ({ dst := _, op := Op.alloc 129, type := _, pos := _, after := _, guard := _ } :: _) _ _); refine wpList_alloc_has h rfl 129 rfl _ zrun ?_; clear h; intro bx w h hnx; try simp only [Act.put, List.setIfInBounds_toArray, List.set_cons_zero, List.set_cons_succ])
    | ((with_reducible show wpList _ _ _ ({ dst := _, op := Op.store 129 _ _, type := _, pos := _, after := _, guard := _ } :: _) _ _); refine wpList_storeAll_has (cells := runC p t q b) h rfl 129 _ _ rfl rfl rfl (Mm.upd_same _ _ _) rfl rfl rfl (by kernel_rfl) rfl ?_; clear h; intro w h))
  rw [Mm.upd_upd] at h
  have hfb1 := Mm.upd_of (o := .cells (runC p t q b) 129) hnx hfb
  have hle := Mm.le_upd' hnx (.cells (runC p t q b) 129)
  have hbx := Mm.upd_same M bx (.cells (runC p t q b) 129)
  generalize M.upd bx _ = M1 at h hfb1 hle hbx
  obtain ⟨lab1, hT1⟩ := HT.out.more1 hle hnx hbx
  have hnK : K bx = none := by
    cases e : K bx with
    | none => rfl
    | some o => have := (HT.out.base _ _ e).1; rw [hnx] at this; cases this
  have HKK := Lib.hid (Mm.le_upd' hnK (.cells (runC p t q b) 129))
  have ST := Lib.hid (fun (w : World) (h : Has σ M1 w) => HS.out _ M1 lab1 w h hT1)
  clear hT1 hnK hnx hle TH TP
  unfold runC at ST hbx
  have dx : (#[.pointer (some ⟨p, 0, none⟩), .int .i64 (t : Nat), .pointer (some ⟨q, 0, none⟩), .pointer (some ⟨b, 0, none⟩)] : Array Value).extract 0 (0 + 4) = #[.pointer (some ⟨p, 0, none⟩), .int .i64 (t : Nat), .pointer (some ⟨q, 0, none⟩), .pointer (some ⟨b, 0, none⟩)] := rfl
  go_wp2_with (first
    | (with_reducible show wpList _ _ _ ({ dst := _, op := Op.load 3 _, type := _, pos := _, after := _, guard := _ } :: _) _ _; refine wpList_load1_has h rfl 3 _ rfl rfl hfb1 f0 Try.underlying3 rfl ?_)
    | ((with_reducible show wpList _ _ _ ({ dst := _, op := Op.load 129 _, type := _, pos := _, after := _, guard := _ } :: _) _ _); refine wpList_agg_has h rfl 129 _ rfl rfl hbx dx rfl Try.underlying129 rfl (by kernel_rfl) ?_; try simp only [Act.put, List.setIfInBounds_toArray, List.set_cons_zero, List.set_cons_succ])
    | (go_at_call 68; refine (ST.out _ h).mono ?_; clear h; rintro _ w ⟨rfl, M2, lab2, h, hM2, hB2⟩))
  go_end0
  exact ⟨rfl, M2, lab2, h, fun c o hc => hB2 c o (HKK.out _ _ hc), hM2⟩
end
end Go.Proofs.Ytjeeldacnllipaa
