/- Walks of layer 21 (machine): watch. -/
import Derived.Test.YtmfpablmmjaccaaGreatDoorMachN
namespace Go.Proofs.YtmfpablmmjaccaaGreatDoor
open Go.RowKit
set_option linter.unusedVariables false
set_option linter.unusedSimpArgs false
set_option linter.unnecessarySimpa false
section
variable {σ w : World} {M M' : Mm} {lab lab' : Nat → Nat} {A : Nat → Prop} {t p : Nat} {s s' : MachS}
theorem Mm.upd_self {M : Mm} {b : Nat} {o : Obj} (h : M b = some o) : M.upd b o = M := by
  funext c
  unfold Mm.upd
  split
  · subst_vars; exact h.symm
  · rfl
theorem IsMem.le {q : Nat} {m : MemS} (h : IsMem M q m) (hle : M.le M') : IsMem M' q m := ⟨hle _ _ h.obj, hle _ _ h.row⟩
/-- Another state of the machine's own block. -/
theorem Mach.set (hM : Mach M lab p s) (e1 : s'.c = s.c) (e2 : s'.pl = s.pl) (e3 : s'.mp = s.mp) (e4 : s'.wp = s.wp) (e5 : s'.gv = s.gv) (e6 : s'.given = s.given) (e7 : s'.mem = s.mem) (e8 : s'.ward = s.ward) (e9 : s'.tv = s.tv) (e10 : s'.tp = s.tp) (e11 : s'.thr = s.thr) :
    Mach (M.upd p (.cells s'.row 68)) lab p s' := by
  have hK : Kp (fun j => j = 4) M lab (M.upd p (.cells s'.row 68)) lab := Kp.upd hM.mark _
  refine ⟨hM.toMach0.own (hK.mono fun _ h => .inl h) e1 e2 e3 e4 e5 e6 e7 e8 (Mm.upd_same _ _ _) hM.mark ?_ ?_, ?_⟩
  · rw [e9, e10]; exact hM.trow.keep hK (by omega)
  · rw [e10, e11]; intro t q hq; exact (hM.each t q hq).keep hK fun k hk => by unfold OfThr at hk; omega
  · rw [e10, e1]; exact hM.tlen
theorem what_lv (h : Has σ M w) (c : Nat → Int) (hc : ConfMay c) {p : Nat} (hp : M p = some (planRow c)) (a : Int) :
    Calls Tryz.prog 80 #[.pointer (some ⟨p, 0, none⟩), .int .i64 a] w fun e w' => ∃ (lv k i j : Int) (ok : Bool), e = .returned (.tuple #[.agg #[.int .i64 lv, .int .i64 k, .int .i64 i, .int .i64 j], .bool ok]) ∧ Hid (ok = decide (0 ≤ a ∧ a < c 0 * firsts c 10)) ∧ Hid (ok = true → lv = a / firsts c 10) ∧ Has σ M w' := by
  by_cases ha : 0 ≤ a ∧ a < c 0 * firsts c 10
  · refine (what_in h c hc hp a _ _ ha.1 ha.2 rfl rfl).mono ?_
    rintro e w' ⟨k, _, _, _, rfl, h⟩
    exact ⟨_, _, _, _, _, rfl, (decide_eq_true ha).symm, fun _ => rfl, h⟩
  · refine (what_out h c hc hp a (by omega)).mono ?_
    rintro e w' ⟨rfl, h⟩
    exact ⟨_, _, _, _, _, rfl, (decide_eq_false ha).symm, fun h => (by cases h), h⟩
end
def MachS.inB (s : MachS) (a : Int) : Bool := decide (0 ≤ a ∧ a < s.c 0 * firsts s.c 10)
def MachS.lvOf (s : MachS) (a : Int) : Int := a / firsts s.c 10
def MachS.wrong (s : MachS) (lv : Int) (acc wr : Nat) : Bool := decide ((acc : Int) + 1 < (s.mem.acc : Int)) || (s.inB s.mem.last && (decide (lv < s.lvOf s.mem.last) || (decide (wr < s.mem.wr) && s.lvOf s.mem.last != lv)))
def MachS.watch (s : MachS) (lv : Int) (acc wr : Nat) : MachS := if s.mem.acc = acc then s else if s.wrong lv acc wr then { s with fault := true } else s
theorem zplc : (Tryz.prog.info? 102).bind (·.zero) = some (.agg #[.int .i64 0, .int .i64 0, .int .i64 0, .int .i64 0]) := by kernel_rfl
set_option maxHeartbeats 4000000 in
set_option maxRecDepth 20000 in
theorem watch_eq {σ w : World} {M : Mm} {lab : Nat → Nat} {p : Nat} {s : MachS} (h : Has σ M w) (hM : Mach M lab p s) (lv : Int) (acc wr : Nat) (hb : acc < 1000000000) :
    Calls Tryz.prog 71 #[.pointer (some ⟨p, 0, none⟩), .int .i64 lv, .int .i64 (acc : Nat), .int .i64 (wr : Nat)] w fun r w' => r = .returned (.tuple #[]) ∧ Has σ (M.upd p (.cells (s.watch lv acc wr).row 68)) w' := by
  have hp := hM.obj
  have AC := Lib.hid (fun (M' : Mm) (w : World) (h : Has σ M' w) (hle : M.le M') => memAcc_eq h (hM.mem.le hle))
  have WR := Lib.hid (fun (M' : Mm) (w : World) (h : Has σ M' w) (hle : M.le M') => memWr_eq h (hM.mem.le hle))
  have LA := Lib.hid (fun (M' : Mm) (w : World) (h : Has σ M' w) (hle : M.le M') => memLast_eq h (hM.mem.le hle))
  have WH := Lib.hid (fun (M' : Mm) (w : World) (h : Has σ M' w) (hle : M.le M') => what_lv h s.c hM.may (hle _ _ hM.plan) s.mem.last)
  have e0 : s.row[0]? = some (.pointer (some ⟨s.pl, 0, none⟩)) := rfl
  have e1 : s.row[1]? = some (.pointer (some ⟨s.mp, 0, none⟩)) := rfl
  by_cases ha : s.mem.acc = acc
  · have E : Hid (s.watch lv acc wr = s) := by show _ = _; unfold MachS.watch; rw [if_pos ha]
    rw [E.out, Mm.upd_self hp]
    rw [ha] at AC
    clear E ha hM
    generalize s.row = row at hp e0 e1
    go_enter Tryz.func71, Tryz.ntmps71
    go_wp2_with (first
      | (with_reducible show wpList _ _ _ ({ dst := _, op := Op.load 48 _, type := _, pos := _, after := _, guard := _ } :: _) _ _; refine wpList_load1_has h rfl 48 _ rfl rfl hp e1 Tryz.underlying48 rfl ?_)
      | (go_at_call 69; refine (AC.out _ _ h (Mm.le_refl _)).mono ?_; clear h; rintro _ w ⟨rfl, h⟩))
    exact bodyPost_ret (results_none (by rfl) _ _ _) rfl ⟨rfl, h⟩
  · have ha' : ((s.mem.acc : Int) == (acc : Int)) = false := beq_eq_false_iff_ne.2 (by omega)
    have E : Hid (s.watch lv acc wr = if s.wrong lv acc wr then { s with fault := true } else s) := by show _ = _; unfold MachS.watch; rw [if_neg ha]
    obtain ⟨res, HR⟩ : ∃ res : Array Value, Hid (res = MachS.row (s.watch lv acc wr)) := ⟨_, rfl⟩
    rw [← HR.out]
    rw [E.out] at HR
    have EW : Hid (s.wrong lv acc wr = (decide ((acc : Int) + 1 < (s.mem.acc : Int)) || (s.inB s.mem.last && (decide (lv < s.lvOf s.mem.last) || (decide (wr < s.mem.wr) && s.lvOf s.mem.last != lv))))) := rfl
    clear E hM
    go_enter Tryz.func71, Tryz.ntmps71
    go_upto_region 2 with (first
      | (with_reducible show wpList _ _ _ ({ dst := _, op := Op.load 48 _, type := _, pos := _, after := _, guard := _ } :: _) _ _; refine wpList_load1_has h rfl 48 _ rfl rfl hp e1 Tryz.underlying48 rfl ?_)
      | (go_at_call 69; refine (AC.out _ _ h (Mm.le_refl _)).mono ?_; clear h; rintro _ w ⟨rfl, h⟩)
      | (go_at_call 79; refine (LA.out _ _ h (Mm.le_refl _)).mono ?_; clear h; rintro _ w ⟨rfl, h⟩))
    have HB := Lib.hid hb
    clear hb
    go_upto_region 3 with (first
      | (with_reducible show wpList _ _ _ ({ dst := _, op := Op.load 55 _, type := _, pos := _, after := _, guard := _ } :: _) _ _; refine wpList_load1_has h rfl 55 _ rfl rfl hp e0 Tryz.underlying55 rfl ?_)
      | (go_at_call 80; refine (WH.out _ _ h (Mm.le_refl _)).mono ?_; clear h; rintro _ w ⟨xl, xk, xi, xj, ok, rfl, HOK, HXL, h⟩)
      | ((with_reducible show wpList _ _ _ ({ dst := _, op := Op.alloc 102, type := _, pos := _, after := _, guard := _ } :: _) _ _); refine wpList_alloc_has h rfl 102 rfl _ zplc ?_; clear h; intro bx w h hnx; try simp only [Act.put, List.setIfInBounds_toArray, List.set_cons_zero, List.set_cons_succ])
      | ((with_reducible show wpList _ _ _ ({ dst := _, op := Op.store 102 _ _, type := _, pos := _, after := _, guard := _ } :: _) _ _); refine wpList_storeAll_has (cells := #[.int .i64 xl, .int .i64 xk, .int .i64 xi, .int .i64 xj]) h rfl 102 _ _ rfl rfl rfl (Mm.upd_same _ _ _) rfl rfl rfl (by kernel_rfl) rfl ?_; clear h; intro w h))
    rw [Mm.upd_upd] at h
    have hp3 := Mm.upd_of (o := .cells #[.int .i64 xl, .int .i64 xk, .int .i64 xi, .int .i64 xj] 102) hnx hp
    have hbx3 := Mm.upd_same M bx (.cells #[.int .i64 xl, .int .i64 xk, .int .i64 xi, .int .i64 xj] 102)
    have hle3 := Mm.le_upd' hnx (.cells #[.int .i64 xl, .int .i64 xk, .int .i64 xi, .int .i64 xj] 102)
    have d0 : (#[.int .i64 xl, .int .i64 xk, .int .i64 xi, .int .i64 xj] : Array Value)[0]? = some (.int .i64 xl) := rfl
    have hMo := Lib.hid hp
    clear hp
    generalize hM3 : M.upd bx _ = M3 at h hp3 hbx3 hle3
    have HM3 := Lib.hid hM3
    clear hM3
    generalize (#[.int .i64 xl, .int .i64 xk, .int .i64 xi, .int .i64 xj] : Array Value) = xr at hbx3 d0 HM3
    go_upto_region 4 with (first
      | (with_reducible show wpList _ _ _ ({ dst := _, op := Op.load 48 _, type := _, pos := _, after := _, guard := _ } :: _) _ _; refine wpList_load1_has h rfl 48 _ rfl rfl hp3 e1 Tryz.underlying48 rfl ?_)
      | (go_at_call 70; refine (WR.out _ _ h hle3).mono ?_; clear h; rintro _ w ⟨rfl, h⟩))
    have WRG : Hid (s.wrong lv acc wr = (decide ((acc : Int) + 1 < (s.mem.acc : Int)) || (ok && (decide (lv < xl) || (decide (wr < s.mem.wr) && xl != lv))))) := by
      show _ = _
      rw [EW.out]
      cases hk : ok
      · have h1 : s.inB s.mem.last = false := by unfold MachS.inB; rw [← HOK.out, hk]
        rw [h1]
        simp
      · have h1 : s.inB s.mem.last = true := by unfold MachS.inB; rw [← HOK.out, hk]
        have h2 : s.lvOf s.mem.last = xl := (HXL.out hk).symm
        rw [h1, h2]
    have w1 : IntKind.i64.wrap ((acc : Int) + 1) = ((acc + 1 : Nat) : Int) := by rw [show (acc : Int) + 1 = ((acc + 1 : Nat) : Int) by omega]; exact IntWalk.i64_in _ (by have := HB.out; omega)
    have hsz : 10 < s.row.size := show 10 < 11 by omega
    have HSR : Hid (s.row.setIfInBounds 10 (.bool true) = MachS.row { s with fault := true }) := rfl
    clear EW HOK HXL ha'
    obtain ⟨srow, HSR0⟩ : ∃ srow, Hid (srow = s.row) := ⟨_, rfl⟩
    rw [← HSR0.out] at hp3 e0 e1 hsz HSR hMo
    cases hq1 : decide ((acc : Int) + 1 < (s.mem.acc : Int))
    · cases hok : ok
      · rw [hq1, hok] at WRG
        subst hok
        go_wp2_with (first
          | (with_reducible show wpList _ _ _ ({ dst := _, op := Op.load 48 _, type := _, pos := _, after := _, guard := _ } :: _) _ _; refine wpList_load1_has h rfl 48 _ rfl rfl hp3 e1 Tryz.underlying48 rfl ?_)
          | (go_at_call 69; refine (AC.out _ _ h hle3).mono ?_; clear h; rintro _ w ⟨rfl, h⟩)
          | (with_reducible show wpList _ _ _ ({ dst := _, op := Op.load 3 _, type := _, pos := _, after := _, guard := _ } :: _) _ _; refine wpList_load1_has h rfl 3 _ rfl rfl hbx3 d0 Tryz.underlying3 rfl ?_))
        go_end0
        refine ⟨rfl, ?_⟩
        rw [HR.out, WRG.out, if_neg (by simp), ← HSR0.out, Mm.upd_self hMo.out]
        exact h.le hle3
      · cases hq3 : decide (lv < xl)
        · cases hq4 : decide (wr < s.mem.wr)
          · rw [hq1, hok, hq3, hq4] at WRG
            subst hok
            go_wp2_with (first
              | (with_reducible show wpList _ _ _ ({ dst := _, op := Op.load 48 _, type := _, pos := _, after := _, guard := _ } :: _) _ _; refine wpList_load1_has h rfl 48 _ rfl rfl hp3 e1 Tryz.underlying48 rfl ?_)
              | (go_at_call 69; refine (AC.out _ _ h hle3).mono ?_; clear h; rintro _ w ⟨rfl, h⟩)
              | (with_reducible show wpList _ _ _ ({ dst := _, op := Op.load 3 _, type := _, pos := _, after := _, guard := _ } :: _) _ _; refine wpList_load1_has h rfl 3 _ rfl rfl hbx3 d0 Tryz.underlying3 rfl ?_))
            go_end0
            refine ⟨rfl, ?_⟩
            rw [HR.out, WRG.out, if_neg (by simp), ← HSR0.out, Mm.upd_self hMo.out]
            exact h.le hle3
          · cases hq5 : xl != lv
            · rw [hq1, hok, hq3, hq4, hq5] at WRG
              subst hok
              go_wp2_with (first
                | (with_reducible show wpList _ _ _ ({ dst := _, op := Op.load 48 _, type := _, pos := _, after := _, guard := _ } :: _) _ _; refine wpList_load1_has h rfl 48 _ rfl rfl hp3 e1 Tryz.underlying48 rfl ?_)
                | (go_at_call 69; refine (AC.out _ _ h hle3).mono ?_; clear h; rintro _ w ⟨rfl, h⟩)
                | (with_reducible show wpList _ _ _ ({ dst := _, op := Op.load 3 _, type := _, pos := _, after := _, guard := _ } :: _) _ _; refine wpList_load1_has h rfl 3 _ rfl rfl hbx3 d0 Tryz.underlying3 rfl ?_))
              go_end0
              refine ⟨rfl, ?_⟩
              rw [HR.out, WRG.out, if_neg (by simp), ← HSR0.out, Mm.upd_self hMo.out]
              exact h.le hle3
            · rw [hq1, hok, hq3, hq4, hq5] at WRG
              subst hok
              go_wp2_with (first
                | (with_reducible show wpList _ _ _ ({ dst := _, op := Op.load 48 _, type := _, pos := _, after := _, guard := _ } :: _) _ _; refine wpList_load1_has h rfl 48 _ rfl rfl hp3 e1 Tryz.underlying48 rfl ?_)
                | (go_at_call 69; refine (AC.out _ _ h hle3).mono ?_; clear h; rintro _ w ⟨rfl, h⟩)
                | (with_reducible show wpList _ _ _ ({ dst := _, op := Op.load 3 _, type := _, pos := _, after := _, guard := _ } :: _) _ _; refine wpList_load1_has h rfl 3 _ rfl rfl hbx3 d0 Tryz.underlying3 rfl ?_)
                | (with_reducible show wpList _ _ _ ({ dst := _, op := Op.store 4 _ _, type := _, pos := _, after := _, guard := _ } :: _) _ _; refine wpList_store1_has h rfl 4 _ _ rfl rfl rfl hp3 hsz rfl (by kernel_rfl) ?_; clear h; intro w h))
              go_end0
              refine ⟨rfl, ?_⟩
              rw [HR.out, WRG.out, if_pos (by simp), ← HSR.out]
              exact h.le (Mm.upd_mono hle3 _ _)
        · rw [hq1, hok, hq3] at WRG
          subst hok
          go_wp2_with (first
            | (with_reducible show wpList _ _ _ ({ dst := _, op := Op.load 48 _, type := _, pos := _, after := _, guard := _ } :: _) _ _; refine wpList_load1_has h rfl 48 _ rfl rfl hp3 e1 Tryz.underlying48 rfl ?_)
            | (go_at_call 69; refine (AC.out _ _ h hle3).mono ?_; clear h; rintro _ w ⟨rfl, h⟩)
            | (with_reducible show wpList _ _ _ ({ dst := _, op := Op.load 3 _, type := _, pos := _, after := _, guard := _ } :: _) _ _; refine wpList_load1_has h rfl 3 _ rfl rfl hbx3 d0 Tryz.underlying3 rfl ?_)
            | (with_reducible show wpList _ _ _ ({ dst := _, op := Op.store 4 _ _, type := _, pos := _, after := _, guard := _ } :: _) _ _; refine wpList_store1_has h rfl 4 _ _ rfl rfl rfl hp3 hsz rfl (by kernel_rfl) ?_; clear h; intro w h))
          go_end0
          refine ⟨rfl, ?_⟩
          rw [HR.out, WRG.out, if_pos (by simp), ← HSR.out]
          exact h.le (Mm.upd_mono hle3 _ _)
    · rw [hq1] at WRG
      go_wp2_with (first
        | (with_reducible show wpList _ _ _ ({ dst := _, op := Op.load 48 _, type := _, pos := _, after := _, guard := _ } :: _) _ _; refine wpList_load1_has h rfl 48 _ rfl rfl hp3 e1 Tryz.underlying48 rfl ?_)
        | (go_at_call 69; refine (AC.out _ _ h hle3).mono ?_; clear h; rintro _ w ⟨rfl, h⟩)
        | (with_reducible show wpList _ _ _ ({ dst := _, op := Op.load 3 _, type := _, pos := _, after := _, guard := _ } :: _) _ _; refine wpList_load1_has h rfl 3 _ rfl rfl hbx3 d0 Tryz.underlying3 rfl ?_)
        | (with_reducible show wpList _ _ _ ({ dst := _, op := Op.store 4 _ _, type := _, pos := _, after := _, guard := _ } :: _) _ _; refine wpList_store1_has h rfl 4 _ _ rfl rfl rfl hp3 hsz rfl (by kernel_rfl) ?_; clear h; intro w h))
      go_end0
      refine ⟨rfl, ?_⟩
      rw [HR.out, WRG.out, if_pos (by simp), ← HSR.out]
      exact h.le (Mm.upd_mono hle3 _ _)
end Go.Proofs.YtmfpablmmjaccaaGreatDoor
