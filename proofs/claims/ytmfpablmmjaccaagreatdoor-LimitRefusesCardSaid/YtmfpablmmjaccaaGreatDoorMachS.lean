/- Walks of layer 21 (machine): Step. -/
import Derived.Test.YtmfpablmmjaccaaGreatDoorMachW
namespace Go.Proofs.YtmfpablmmjaccaaGreatDoor
open Go.RowKit
set_option linter.unusedVariables false
set_option linter.unusedSimpArgs false
set_option linter.unnecessarySimpa false
def entB (P : Program) (f : FuncId) : Bool := match P.funcs[f]? with
  | some fn => !(fn.name == "runtime.NumGoroutine") && !fn.body.isNone
  | none => false
theorem run_callFunc {P : Program} {f : FuncId} (h : entB P f = true) (args : Array Value) (w : World) : (callFunc f args).run P w = .ok (.enter f args) w := by
  unfold entB at h
  unfold callFunc
  cases hf : P.funcs[f]? with
  | none => simp [hf] at h
  | some fn =>
    simp only [hf, Bool.and_eq_true, Bool.not_eq_true'] at h
    rw [Sem.run_bind, run_program]
    simp only [Result.andThen_ok, hf, h.1, h.2, if_false, Bool.false_eq_true, Sem.run_pure]
/-- Clocks of levels from lv on, below l, go on. -/
def MachS.tickTo (s : MachS) (lv l : Nat) : MachS := { s with clk := fun k => if lv ≤ k ∧ k < l then s.clk k + 1 else s.clk k }
def MachS.tick (s : MachS) (lv : Nat) : MachS := s.tickTo lv 4
theorem tickTo_self (s : MachS) (lv : Nat) : s.tickTo lv lv = s := by
  unfold MachS.tickTo
  have : (fun k => if lv ≤ k ∧ k < lv then s.clk k + 1 else s.clk k) = s.clk := by funext k; rw [if_neg (by omega)]
  rw [this]
theorem tickTo_row (s : MachS) (lv l : Nat) (hl : lv ≤ l) (h4 : l < 4) : (s.tickTo lv l).row.setIfInBounds (4 + l) (.int .i64 ((s.clk l : Int) + 1)) = (s.tickTo lv (l + 1)).row := by
  have e : ∀ k, (s.tickTo lv (l + 1)).clk k = if k = l then s.clk l + 1 else (s.tickTo lv l).clk k := fun k => by
    unfold MachS.tickTo
    simp only
    by_cases hk : k = l
    · subst hk; rw [if_pos (by omega), if_pos rfl]
    · rw [if_neg hk]
      by_cases h1 : lv ≤ k ∧ k < l
      · rw [if_pos h1, if_pos (by omega)]
      · rw [if_neg h1, if_neg (by omega)]
  have hr : (s.tickTo lv (l + 1)).row = MachS.row { s.tickTo lv l with clk := fun k => if k = l then s.clk l + 1 else (s.tickTo lv l).clk k } := by
    have : (s.tickTo lv (l + 1)).clk = fun k => if k = l then s.clk l + 1 else (s.tickTo lv l).clk k := funext e
    unfold MachS.row
    simp only [this]
    rfl
  rw [hr]
  generalize s.tickTo lv l = s1
  obtain rfl | rfl | rfl | rfl : l = 0 ∨ l = 1 ∨ l = 2 ∨ l = 3 := by omega
  all_goals rfl
theorem tickTo_get (s : MachS) (lv l : Nat) (h4 : l < 4) : (s.tickTo lv l).row[4 + l]? = some (.int .i64 (s.clk l : Nat)) := by
  have : (s.tickTo lv l).clk l = s.clk l := by unfold MachS.tickTo; simp only; rw [if_neg (by omega)]
  rw [← this]
  obtain rfl | rfl | rfl | rfl : l = 0 ∨ l = 1 ∨ l = 2 ∨ l = 3 := by omega
  all_goals rfl
theorem Mach.watched {M : Mm} {lab : Nat → Nat} {p : Nat} {s : MachS} (hM : Mach M lab p s) (lv : Int) (acc wr : Nat) : Mach (M.upd p (.cells (s.watch lv acc wr).row 68)) lab p (s.watch lv acc wr) := by
  have e : s.watch lv acc wr = s ∨ s.watch lv acc wr = { s with fault := true } := by
    unfold MachS.watch
    split
    · exact .inl rfl
    · split
      · exact .inr rfl
      · exact .inl rfl
  rcases e with e | e
  · rw [e, Mm.upd_self hM.obj]; exact hM
  · rw [e]; exact hM.set rfl rfl rfl rfl rfl rfl rfl rfl rfl rfl rfl
theorem watch_thr (s : MachS) (lv : Int) (acc wr : Nat) : (s.watch lv acc wr).thr = s.thr ∧ (s.watch lv acc wr).tp = s.tp := by
  unfold MachS.watch
  split
  · exact ⟨rfl, rfl⟩
  · split <;> exact ⟨rfl, rfl⟩
set_option maxHeartbeats 2000000 in
set_option maxRecDepth 20000 in
/-- A step of a thread that is there, is within something, and runs. -/
theorem step_eq {σ w : World} {K M : Mm} {lab : Nat → Nat} {p : Nat} {s : MachS} (h : Has σ M w) (hM : Mach M lab p s) (hB : Base K M lab) {t q lv : Nat} (hq : s.tp[t]? = some q) (hfr : (s.thr t).frames ≠ []) (hrun : ((s.thr t).st || (s.thr t).ki) = false) (hlv : levelOf s.c t = (lv : Nat))
    (hb1 : s.mem.acc < 1000000000) (hb2 : s.steps < 1000000000) (hb3 : ∀ k, s.clk k < 1000000000) (hb4 : (s.thr t).frames.length < 1000000000)
    {F : FuncId} {caps : Array Value} (hent : entB Tryz.prog F = true) {R : MachS → Prop}
    (hdo : ∀ M1 lab1 w1, Has σ M1 w1 → Mach M1 lab1 p (s.tick lv) → Base K M1 lab1 → Calls Tryz.prog F (#[.pointer (some ⟨p, 0, none⟩), .int .i64 (t : Nat)] ++ caps) w1 fun r w' => r = .returned (.tuple #[]) ∧ ∃ M2 lab2 s2, Has σ M2 w' ∧ Base K M2 lab2 ∧ Mach M2 lab2 p s2 ∧ R s2)
    (hR : ∀ s2, R s2 → s2.tp = s.tp ∧ s2.steps < 1000000000 ∧ (s2.thr t).frames.length < 1000000000) :
    Calls Tryz.prog 55 #[.pointer (some ⟨p, 0, none⟩), .int .i64 (t : Nat), .func (.func F) #[] caps] w fun r w' => ∃ M' lab' s2, R s2 ∧ r = .returned (.bool (!(s2.thr t).frames.isEmpty)) ∧ Has σ M' w' ∧ Base K M' lab' ∧ Mach M' lab' p (MachS.watch { s2 with steps := s2.steps + 1 } lv s.mem.acc s.mem.wr) := by
  obtain ⟨fv, hv, fbs, hT⟩ := hM.each t q hq
  have hfl : 0 < fbs.length := by rw [hT.flen]; exact List.length_pos_iff.2 hfr
  obtain ⟨fb, b, rfl⟩ : ∃ l b, fbs = l ++ [b] := ⟨fbs.dropLast, fbs.getLast (by intro e; rw [e] at hfl; simp at hfl), (List.dropLast_concat_getLast _).symm⟩
  have hfb : fb.length < 1000000000 := by have := hT.flen; simp at this; omega
  have TH := Lib.hid (fun (w : World) (h : Has σ M w) => mThread_yes h hM hq)
  have TP := Lib.hid (fun (w : World) (h : Has σ M w) => thrTop_eq h hT hfb)
  have RU := Lib.hid (fun (w : World) (h : Has σ M w) => thrRuns_eq h hT)
  have LV := Lib.hid (fun (w : World) (h : Has σ M w) => mLevel_eq h hM t)
  have AC := Lib.hid (fun (w : World) (h : Has σ M w) => memAcc_eq h hM.mem)
  have WR := Lib.hid (fun (w : World) (h : Has σ M w) => memWr_eq h hM.mem)
  have hru : (!(s.thr t).st && !(s.thr t).ki) = true := by rw [← Bool.not_or, hrun]; rfl
  rw [hru] at RU
  rw [hlv] at LV
  have hp := hM.obj
  have e1 : s.row[1]? = some (.pointer (some ⟨s.mp, 0, none⟩)) := rfl
  have hnf : ∀ w : World, (binOp .eql 130 (.func (.func F) #[] caps) .nilFunc).run Tryz.prog w = .ok (.bool false) w := fun w => rfl
  have hlv4 : lv < 4 := by
    have h1 := levelOf_may (c := s.c) (t := (t : Int)) (by rw [hlv]; omega)
    have h2 : levelOf s.c t = s.c (2 + t) := by
      unfold levelOf
      rw [if_pos ⟨decide_eq_true h1.1, h1.2⟩]
      simp
    obtain ⟨⟨a1, a2⟩, ⟨a3, a4⟩, _, a5, _⟩ := h1.1
    have := a5 t (by omega)
    omega
  have HT := Lib.hid hT
  have HMM := Lib.hid hM
  have HBB := Lib.hid hB
  have HDO := Lib.hid hdo
  have HRR := Lib.hid hR
  have HB2 := Lib.hid hb2
  have HB3 := Lib.hid hb3
  have HB1 := Lib.hid hb1
  have HENT := Lib.hid hent
  have HQ := Lib.hid hq
  clear hM hT hB hdo hR hfr hrun hlv hb1 hb2 hb3 hb4 hent hfl hfb hru hq
  go_enter Tryz.func55, Tryz.ntmps55
  go_upto_region 4 with (first
    | (go_at_call 8; refine (TH.out _ h).mono ?_; clear h; rintro _ w ⟨rfl, h⟩)
    | (go_at_call 67; refine (TP.out _ h).mono ?_; clear h; rintro _ w ⟨rfl, h⟩)
    | (go_at_call 54; refine (RU.out _ h).mono ?_; clear h; rintro _ w ⟨rfl, h⟩))
  refine wp_region_class (Has σ M) (by kernel_rfl) (by kernel_rfl) h.drew ?_
  clear h
  repeat (first
    | go_big_quiet_skip
    | (go_big_quiet_want; first
      | (refine quiet_load_has 48 _ rfl rfl hp e1 Tryz.underlying48 rfl ?_; simp only [Act.put, List.setIfInBounds_toArray, List.set_cons_zero, List.set_cons_succ]; go_big_quiet_on)
      | (go_big_quiet_op; first | go_big_quiet_on | go_big_quiet_call (first | with_reducible exact fun _ => rfl | with_reducible exact LV.out _ | with_reducible exact AC.out _ | with_reducible exact WR.out _))))
  refine wpQuiet_nil ?_
  try clear w
  intro w h
  clear TH LV AC WR RU TP hnf e1
  go_wp2
  go_loopw [11] (fun i wr => ∃ l : Nat, lv ≤ l ∧ l ≤ 4 ∧ i = .int .i64 (l : Nat) ∧ Has σ (M.upd p (.cells (s.tickTo lv l).row 68)) wr) (fun i _ => 4 - (intOf i).toNat)
  case atStart => exact ⟨lv, Nat.le_refl _, by omega, rfl, by rw [tickTo_self, Mm.upd_self hp]; exact h⟩
  case round =>
    clear h w
    obtain ⟨w, rfl⟩ : ∃ x : World, x = wr := ⟨_, rfl⟩
    obtain ⟨l, hl1, hl2, rfl, h⟩ := hrel
    by_cases hlt : l < 4
    · have hg := tickTo_get s lv l hlt
      have hrw := Lib.hid (tickTo_row s lv l hl1 hlt)
      have hsz : 4 + l < (s.tickTo lv l).row.size := show 4 + l < 11 by omega
      have hpm := Mm.upd_same M p (.cells (s.tickTo lv l).row 68)
      have EX := Lib.hid (fun o => Mm.upd_upd M p (.cells (s.tickTo lv l).row 68) o)
      generalize (s.tickTo lv l).row = row at h hg hrw hsz hpm EX
      have hdl : (M.drop p).le (M.upd p (.cells row 68)) := fun x o hx => by
        have hne : x ≠ p := fun e => by subst e; rw [Mm.drop_none] at hx; cases hx
        rw [Mm.upd_ne hne]; exact Mm.drop_le _ _ _ _ hx
      have hdn := Mm.drop_none M p
      have i1 : decide ((l : Int) < 4) = true := decide_eq_true (by omega)
      have w1 : IntKind.i64.wrap ((s.clk l : Int) + 1) = (s.clk l : Int) + 1 := by
        have := HB3.out l
        exact IntWalk.i64_in _ (by omega)
      generalize M.drop p = MD at hdl hdn
      generalize M.upd p (.cells row 68) = MP at h hpm EX hdl
      have hc5 : ∀ w : World, Has σ MP w → w.cell? ⟨p, 4 + l, none⟩ = some (.int .i64 (s.clk l : Nat)) := fun w h => (h.cell hpm _).trans hg
      have HC5 := Lib.hid hc5
      have hl4 : (l : Int) < 4 := by omega
      clear hc5 hg hlt hp
      go_upto_region 8 with (fail)
      refine wp_region_held_drew (S := Has σ (MD)) (by kernel_rfl) (h.drew.le hdl) (fun hHeld => ?_)
      refine wpAnyH_take (i := 0) (v := ?_) rfl (by kernel_rfl) (by kernel_rfl) (by kernel_rfl) (fun _ _ _ h => h) (Or.inl ⟨by rfl, ?_⟩) hHeld ?_
      rotate_left
      · (intro wz _; go_simp; try with_reducible rfl)
      try simp only [List.getElem_toArray, List.getElem_cons_succ, List.getElem_cons_zero, Act.put, List.setIfInBounds_toArray, List.set_cons_zero, List.set_cons_succ]
      refine wpAnyH_take (i := 1) (v := ?_) rfl (by kernel_rfl) (by kernel_rfl) (by kernel_rfl) (fun _ _ _ h => h) (Or.inl ⟨by rfl, ?_⟩) hHeld ?_
      rotate_left
      · (intro wz _; go_simp; try with_reducible rfl)
      try simp only [List.getElem_toArray, List.getElem_cons_succ, List.getElem_cons_zero, Act.put, List.setIfInBounds_toArray, List.set_cons_zero, List.set_cons_succ]
      refine wpAnyH_take (i := 2) (v := ?_) rfl (by kernel_rfl) (by kernel_rfl) (by kernel_rfl) (fun _ _ _ h => h) (Or.inl ⟨by rfl, ?_⟩) hHeld ?_
      rotate_left
      · (intro wz _; go_simp; try with_reducible rfl)
      try simp only [List.getElem_toArray, List.getElem_cons_succ, List.getElem_cons_zero, Act.put, List.setIfInBounds_toArray, List.set_cons_zero, List.set_cons_succ]
      refine wpAnyH_take (i := 3) (v := ?_) rfl (by kernel_rfl) (by kernel_rfl) (by kernel_rfl) (fun _ _ _ h => h) (Or.inl ⟨by rfl, ?_⟩) hHeld ?_
      rotate_left
      · (intro wz _; go_simp; try with_reducible rfl)
      try simp only [List.getElem_toArray, List.getElem_cons_succ, List.getElem_cons_zero, Act.put, List.setIfInBounds_toArray, List.set_cons_zero, List.set_cons_succ]
      refine wpAnyH_take (i := 4) (v := ?_) rfl (by kernel_rfl) (by kernel_rfl) (by kernel_rfl) (fun _ _ _ h => h) (Or.inl ⟨by rfl, ?_⟩) hHeld ?_
      rotate_left
      · (intro wz _; go_simp; try with_reducible rfl)
      try simp only [List.getElem_toArray, List.getElem_cons_succ, List.getElem_cons_zero, Act.put, List.setIfInBounds_toArray, List.set_cons_zero, List.set_cons_succ]
      refine wpAnyH_take (i := 7) (v := ?_) rfl (by kernel_rfl) (by kernel_rfl) (by kernel_rfl) (fun _ _ _ h => h) (Or.inl ⟨by rfl, ?_⟩) hHeld ?_
      rotate_left
      · (intro wz _; go_simp; try with_reducible rfl)
      try simp only [List.getElem_toArray, List.getElem_cons_succ, List.getElem_cons_zero, Act.put, List.setIfInBounds_toArray, List.set_cons_zero, List.set_cons_succ]
      refine wpAnyH_take (i := 8) (v := ?_) rfl (by kernel_rfl) (by kernel_rfl) (by kernel_rfl) (fun _ _ _ h => h) (Or.inl ⟨by rfl, ?_⟩) hHeld ?_
      rotate_left
      · (intro wz _; go_simp; try with_reducible rfl)
      try simp only [List.getElem_toArray, List.getElem_cons_succ, List.getElem_cons_zero, Act.put, List.setIfInBounds_toArray, List.set_cons_zero, List.set_cons_succ]
      replace h := h.drew
      generalize w.drew = w2 at h hHeld ⊢
      clear w
      obtain ⟨w, rfl⟩ : ∃ q : World, q = w2 := ⟨_, rfl⟩
      have c5 := HC5.out w h
      refine wpAnyH_ready (rs := [5]) (by kernel_rfl) (by simp) ?_
      refine AllReadyH.cons rfl (fun K hK => ?_) AllReadyH.nil
      go_simp
      refine hK.out _ _ (hHeld) (fun hHeld => ?_)
      clear hK K
      try simp only [Act.put, List.setIfInBounds_toArray, List.set_cons_zero, List.set_cons_succ]
      clear c5
      refine wpAnyH_take (i := 6) (v := ?_) rfl (by kernel_rfl) (by kernel_rfl) (by kernel_rfl) (fun _ _ _ h => h) (Or.inl ⟨by rfl, ?_⟩) hHeld ?_
      rotate_left
      · (intro wz _; go_simp; try with_reducible rfl)
      try simp only [List.getElem_toArray, List.getElem_cons_succ, List.getElem_cons_zero, Act.put, List.setIfInBounds_toArray, List.set_cons_zero, List.set_cons_succ]
      refine wpAnyH_take (i := 9) (v := ?_) rfl (by kernel_rfl) (by kernel_rfl) (by kernel_rfl) (fun _ _ _ h => h) (Or.inl ⟨by rfl, ?_⟩) hHeld ?_
      rotate_left
      · (intro wz _; go_simp; try with_reducible rfl)
      try simp only [List.getElem_toArray, List.getElem_cons_succ, List.getElem_cons_zero, Act.put, List.setIfInBounds_toArray, List.set_cons_zero, List.set_cons_succ]
      have hU : ∀ o, MD.le (MP.upd p o) := fun o => Mm.le_upd hdl hdn o
      refine wpAnyH_ready (rs := [10]) (by kernel_rfl) (by simp) ?_
      refine AllReadyH.cons rfl (fun K hK => ?_) AllReadyH.nil
      (refine step_store1 (v := .int .i64 ((s.clk l : Int) + 1)) h rfl 3 _ _ rfl rfl rfl hpm hsz rfl rfl (by kernel_rfl) ?_; clear h; intro w h)
      refine hK.out _ _ (h.le (hU _)) (fun hHeld => ?_)
      clear hK K
      try simp only [Act.put, List.setIfInBounds_toArray, List.set_cons_zero, List.set_cons_succ]
      refine wpAnyH_done (by kernel_rfl) ?_ _
      rw [EX.out, hrw.out] at h
      clear hHeld EX hrw HC5 hU hpm hdl hdn
      go_wp2
      go_roundw
      case rel => exact ⟨l + 1, by omega, by omega, by go_num, h⟩
      case measure => simp [intOf]; omega
    · obtain rfl : l = 4 := by omega
      have hM1 : Mach (M.upd p (.cells (s.tick lv).row 68)) lab p (s.tick lv) := HMM.out.set rfl rfl rfl rfl rfl rfl rfl rfl rfl rfl rfl
      have hB1 : Base K (M.upd p (.cells (s.tick lv).row 68)) lab := HBB.out.keep (Kp.upd HMM.out.mark _) (by omega)
      have DO := Lib.hid (HDO.out _ _ w h hM1 hB1)
      have cf := run_callFunc HENT.out (#[.pointer (some ⟨p, 0, none⟩), .int .i64 (t : Nat)] ++ caps)
      clear hM1 hB1 hl1 hl2 hlt hp h
      go_upto_region 10 with (first
        | ((refine DO.out.mono ?_; clear cf; rintro _ w ⟨rfl, M2, lab2, s2, h, hB2, hM2, hR2⟩)))
      obtain ⟨htp, hst, hfl⟩ := HRR.out s2 hR2
      have hp2 := hM2.obj
      have c9 : w.cell? ⟨p, 9, none⟩ = some (.int .i64 (s2.steps : Nat)) := h.cell hp2 9
      have f9 := h.free hp2 9
      have w1 : IntKind.i64.wrap ((s2.steps : Int) + 1) = (s2.steps : Int) + 1 := IntWalk.i64_in _ (by omega)
      have HS : Has σ (M2.upd p (.cells (MachS.row { s2 with steps := s2.steps + 1 }) 68)) (w.setCell ⟨p, 9, none⟩ (.int .i64 ((s2.steps : Int) + 1))) := h.setCell hp2 9 _
      have hM3 : Mach (M2.upd p (.cells (MachS.row { s2 with steps := s2.steps + 1 }) 68)) lab2 p { s2 with steps := s2.steps + 1 } := hM2.set rfl rfl rfl rfl rfl rfl rfl rfl rfl rfl rfl
      have hB3 : Base K (M2.upd p (.cells (MachS.row { s2 with steps := s2.steps + 1 }) 68)) lab2 := hB2.keep (Kp.upd hM2.mark _) (by omega)
      have hM4 := hM3.watched lv s.mem.acc s.mem.wr
      have hB4 := hB3.keep (Kp.upd hM3.mark (.cells (MachS.row (MachS.watch { s2 with steps := s2.steps + 1 } lv s.mem.acc s.mem.wr)) 68)) (by omega)
      replace HS := Lib.hid HS
      have HM4 := Lib.hid hM4
      have HB4 := Lib.hid hB4
      have WT := Lib.hid (fun (w : World) h => watch_eq (σ := σ) (w := w) h hM3 lv s.mem.acc s.mem.wr HB1.out)
      have HR2 := Lib.hid hR2
      have Q4 : Hid ((MachS.watch { s2 with steps := s2.steps + 1 } lv s.mem.acc s.mem.wr).tp[t]? = some q) := by
        show _ = _
        rw [(watch_thr _ _ _ _).2]
        show s2.tp[t]? = _
        rw [htp]; exact HQ.out
      have T4 : Hid ((MachS.watch { s2 with steps := s2.steps + 1 } lv s.mem.acc s.mem.wr).thr t = s2.thr t) := by
        show _ = _
        rw [(watch_thr _ _ _ _).1]
      clear hM2 hB2 hM3 hB3 hM4 hB4 hR2 hp2 h htp hst
      go_upto_region 11 with (fail)
      clear c9 f9 w1
      generalize w.setCell _ _ = w3 at HS ⊢
      clear w
      obtain ⟨w, rfl⟩ : ∃ q : World, q = w3 := ⟨_, rfl⟩
      have h := HS.out
      clear HS
      obtain ⟨s4, E4⟩ : ∃ s4, Hid (s4 = MachS.watch { s2 with steps := s2.steps + 1 } lv s.mem.acc s.mem.wr) := ⟨_, rfl⟩
      rw [← E4.out] at WT HM4 HB4 Q4 T4
      go_upto_region 12 with (first
        | (go_at_call 71; refine (WT.out _ h).mono ?_; clear h; rintro _ w ⟨rfl, h⟩))
      clear WT DO
      obtain ⟨fv', hv', fbs, hT4⟩ := HM4.out.each t q Q4.out
      rw [T4.out] at hT4
      have hlen := hT4.flen
      rcases List.eq_nil_or_concat fbs with he | ⟨fb', b', he⟩
      · rw [he] at hT4 hlen
        have TP := Lib.hid (thrTop_nil h hT4)
        have hfe : (s2.thr t).frames.isEmpty = true := by rw [List.isEmpty_iff_length_eq_zero, ← hlen]; rfl
        have HFE := Lib.hid hfe
        clear hT4 hlen he hfe hfl
        go_wp2_with (first
          | (go_at_call 67; refine (TP.out).mono ?_; clear h; rintro _ w ⟨rfl, h⟩))
        go_ret
        exact ⟨_, lab2, s2, HR2.out, by rw [HFE.out]; rfl, h, HB4.out, by rw [← E4.out]; exact HM4.out⟩
      · rw [List.concat_eq_append] at he
        rw [he] at hT4 hlen
        have hfb : fb'.length < 1000000000 := by simp at hlen; omega
        have TP := Lib.hid (thrTop_eq h hT4 hfb)
        have hfe : (s2.thr t).frames.isEmpty = false := by
          cases hq : (s2.thr t).frames with
          | nil => rw [hq] at hlen; simp at hlen
          | cons _ _ => rfl
        have HFE := Lib.hid hfe
        clear hT4 hlen he hfe hfl hfb
        go_wp2_with (first
          | (go_at_call 67; refine (TP.out).mono ?_; clear h; rintro _ w ⟨rfl, h⟩))
        go_ret
        exact ⟨_, lab2, s2, HR2.out, by rw [HFE.out]; rfl, h, HB4.out, by rw [← E4.out]; exact HM4.out⟩
end Go.Proofs.YtmfpablmmjaccaaGreatDoor
