/- Layer 39 (limit): a level's threads that are ready; Cells in which nothing is; Round that needs no step. -/
import Derived.Test.YtmfpablmmjaccaaGreatDoorLmB
import Derived.Test.YtmfpablmmjaccaaGreatDoorMachT
import Derived.Test.YtmfpablmmjaccaaGreatDoorMachN
import Derived.Test.YtmfpablmmjaccaaGreatDoorPlanD
import Derived.Test.YtmfpablmmjaccaaGreatDoorStepP
namespace Go.Proofs.YtmfpablmmjaccaaGreatDoor
open Go.RowKit
set_option linter.unusedVariables false
set_option linter.unusedSimpArgs false
set_option linter.unnecessarySimpa false
def idleT (s : MachS) (t : Nat) : Bool := decide ((s.thr t).frames.length = 0) && (!(s.thr t).st && !(s.thr t).ki)
def turnR (p : Nat) (lv : Int) (va vg vn : Value) : Array Value := #[.pointer (some ⟨p, 0, none⟩), .int .i64 lv, va, vg, vn]
set_option maxHeartbeats 2000000 in
set_option maxRecDepth 20000 in
theorem limitReady_eq {σ w : World} {M : Mm} {lab : Nat → Nat} {p : Nat} {s : MachS} (h : Has σ M w) (hM : Mach M lab p s) {bt n : Nat} {al : List Nat} {va vg vn : Value} {lv : Int} (hn : al.length = n) (hbt : M bt = some (.cells (turnR p lv va vg vn) 87)) (ha : Rd M 1 va n (natv al)) (hin : ∀ t ∈ al, t < s.tp.length) (hn8 : n ≤ 8) :
    Calls Tryz.prog 33 #[.pointer (some ⟨bt, 0, none⟩)] w fun r w' => r = .returned (.bool (al.all (idleT s) && decide (0 < n))) ∧ Has σ M w' := by
  have HA := Lib.hid ha
  obtain ⟨A, c, rfl⟩ := ha.form
  have e0 : (turnR p lv (.slice A n c) vg vn)[0]? = some (.pointer (some ⟨p, 0, none⟩)) := rfl
  have e2 : (turnR p lv (.slice A n c) vg vn)[2]? = some (.slice A n c) := rfl
  have TH := Lib.hid (fun (t q : Nat) (w : World) (h : Has σ M w) (ht : s.tp[t]? = some q) => mThread_yes h hM ht)
  have DP : Hid (∀ (t q : Nat) (w : World), Has σ M w → s.tp[t]? = some q → Calls Tryz.prog 24 #[.pointer (some ⟨q, 0, none⟩)] w fun r w' => r = .returned (.int .i64 ((s.thr t).frames.length : Nat)) ∧ Has σ M w') := Lib.hid fun t q w h ht => by
    obtain ⟨fv, hv, fbs, hT⟩ := hM.each t q ht
    rw [← hT.flen]
    exact thrDeep_eq h hT
  have RN : Hid (∀ (t q : Nat) (w : World), Has σ M w → s.tp[t]? = some q → Calls Tryz.prog 54 #[.pointer (some ⟨q, 0, none⟩)] w fun r w' => r = .returned (.bool (!(s.thr t).st && !(s.thr t).ki)) ∧ Has σ M w') := Lib.hid fun t q w h ht => by
    obtain ⟨fv, hv, fbs, hT⟩ := hM.each t q ht
    exact thrRuns_eq h hT
  have HIN := Lib.hid hin
  have HN := Lib.hid hn
  clear ha hM hin hn
  generalize turnR p lv (.slice A n c) vg vn = tr at *
  go_enter Tryz.func33, Tryz.ntmps33
  go_upto_region 2 with (first
    | (with_reducible show wpList _ _ _ ({ dst := _, op := Op.load 33 _, type := _, pos := _, after := _, guard := _ } :: _) _ _; go_loud (refine wpList_load1_has h rfl 33 _ rfl rfl hbt e2 Tryz.underlying33 rfl ?_)))
  go_loopw [4, 10] (fun _ u wr => ∃ k : Nat, k ≤ n ∧ u = .int .i64 (k : Nat) ∧ (al.take k).all (idleT s) = true ∧ Has σ M wr) (fun _ u _ => n - (intOf u).toNat)
  case atStart => exact ⟨0, Nat.zero_le _, rfl, rfl, h⟩
  case round =>
    clear h w
    obtain ⟨w, rfl⟩ : ∃ x : World, x = wr := ⟨_, rfl⟩
    obtain ⟨k, hk, rfl, hall, h⟩ := hrel
    have HALL := Lib.hid hall
    clear hall
    by_cases hlt : k < n
    · have hlt' : (k : Int) < (n : Int) := by omega
      have wk : IntKind.i64.wrap ((k : Int) + 1) = ((k + 1 : Nat) : Int) := by rw [show (k : Int) + 1 = ((k + 1 : Nat) : Int) by omega]; exact IntWalk.i64_in _ (by omega)
      obtain ⟨t, ht⟩ : ∃ t, al[k]? = some t := ⟨_, List.getElem?_eq_getElem (by have := HN.out; omega)⟩
      obtain ⟨q, hq⟩ : ∃ q, s.tp[t]? = some q := ⟨_, List.getElem?_eq_getElem (HIN.out t (List.mem_of_getElem? ht))⟩
      obtain ⟨_, B', d', e, hd, hB⟩ := HA.out
      cases e
      obtain ⟨b1, o1, cs1, t1, f1, rfl, hO1, hx1⟩ := hB (by omega)
      have e1 := hx1 k (.int .i64 (t : Nat)) (by simp [natv, ht])
      have TH1 := Lib.hid (fun (w : World) (h : Has σ M w) => TH.out t q w h hq)
      have DP1 := Lib.hid (fun (w : World) (h : Has σ M w) => DP.out t q w h hq)
      have RN1 := Lib.hid (fun (w : World) (h : Has σ M w) => RN.out t q w h hq)
      have ID : Hid (idleT s t = (decide ((s.thr t).frames.length = 0) && (!(s.thr t).st && !(s.thr t).ki))) := Lib.hid rfl
      have NO : Hid (idleT s t = false → (al.all (idleT s) && decide (0 < n)) = false) := Lib.hid fun e => by
        rw [List.all_eq_false.2 ⟨t, List.mem_of_getElem? ht, by rw [e]; decide⟩]; rfl
      have YES : Hid (idleT s t = true → (al.take (k + 1)).all (idleT s) = true) := Lib.hid fun e => by
        obtain ⟨hk', e'⟩ := List.getElem?_eq_some_iff.1 ht
        rw [List.take_succ_eq_append_getElem hk', List.all_append, HALL.out, e']
        simp [e]
      clear hB hx1 ht
      generalize (s.thr t).frames.length = fl at *
      generalize (s.thr t).st = b1 at *
      generalize (s.thr t).ki = b2 at *
      by_cases hf : fl = 0
      · subst hf
        by_cases hb : (!b1 && !b2) = true
        · rw [hb] at RN1 ID
          go_wp2_with (first
            | (with_reducible show wpList _ _ _ ({ dst := _, op := Op.load 3 _, type := _, pos := _, after := _, guard := _ } :: _) _ _; go_loud (refine wpList_load1_has h rfl 3 _ rfl rfl hO1 e1 Tryz.underlying3 rfl ?_))
            | (with_reducible show wpList _ _ _ ({ dst := _, op := Op.load 26 _, type := _, pos := _, after := _, guard := _ } :: _) _ _; go_loud (refine wpList_load1_has h rfl 26 _ rfl rfl hbt e0 Tryz.underlying26 rfl ?_))
            | (go_at_call 8; go_loud (refine (TH1.out _ h).mono ?_); clear h; rintro _ w ⟨rfl, h⟩)
            | (go_at_call 24; go_loud (refine (DP1.out _ h).mono ?_); clear h; rintro _ w ⟨rfl, h⟩)
            | (go_at_call 54; go_loud (refine (RN1.out _ h).mono ?_); clear h; rintro _ w ⟨rfl, h⟩))
          go_roundw
          case rel => exact ⟨k + 1, by omega, by first | rfl | go_num, YES.out (by rw [ID.out]; rfl), h⟩
          case measure => simp [intOf]; omega
        · have hb' : (!b1 && !b2) = false := by simpa using hb
          rw [hb'] at RN1 ID
          clear hb hb'
          go_wp2_with (first
            | (with_reducible show wpList _ _ _ ({ dst := _, op := Op.load 3 _, type := _, pos := _, after := _, guard := _ } :: _) _ _; go_loud (refine wpList_load1_has h rfl 3 _ rfl rfl hO1 e1 Tryz.underlying3 rfl ?_))
            | (with_reducible show wpList _ _ _ ({ dst := _, op := Op.load 26 _, type := _, pos := _, after := _, guard := _ } :: _) _ _; go_loud (refine wpList_load1_has h rfl 26 _ rfl rfl hbt e0 Tryz.underlying26 rfl ?_))
            | (go_at_call 8; go_loud (refine (TH1.out _ h).mono ?_); clear h; rintro _ w ⟨rfl, h⟩)
            | (go_at_call 24; go_loud (refine (DP1.out _ h).mono ?_); clear h; rintro _ w ⟨rfl, h⟩)
            | (go_at_call 54; go_loud (refine (RN1.out _ h).mono ?_); clear h; rintro _ w ⟨rfl, h⟩))
          go_ret
          exact ⟨by rw [NO.out (by rw [ID.out]; rfl)]; rfl, h⟩
      · have d1 : decide ((0 : Int) < (fl : Int)) = true := decide_eq_true (by omega)
        have d2 : decide (0 < fl) = true := decide_eq_true (by omega)
        have ID2 : Hid (idleT s t = false) := Lib.hid (by rw [ID.out, decide_eq_false hf]; rfl)
        clear hf
        go_wp2_with (first
          | (with_reducible show wpList _ _ _ ({ dst := _, op := Op.load 3 _, type := _, pos := _, after := _, guard := _ } :: _) _ _; go_loud (refine wpList_load1_has h rfl 3 _ rfl rfl hO1 e1 Tryz.underlying3 rfl ?_))
          | (with_reducible show wpList _ _ _ ({ dst := _, op := Op.load 26 _, type := _, pos := _, after := _, guard := _ } :: _) _ _; go_loud (refine wpList_load1_has h rfl 26 _ rfl rfl hbt e0 Tryz.underlying26 rfl ?_))
          | (go_at_call 8; go_loud (refine (TH1.out _ h).mono ?_); clear h; rintro _ w ⟨rfl, h⟩)
          | (go_at_call 24; go_loud (refine (DP1.out _ h).mono ?_); clear h; rintro _ w ⟨rfl, h⟩)
          | (go_at_call 54; go_loud (refine (RN1.out _ h).mono ?_); clear h; rintro _ w ⟨rfl, h⟩))
        go_ret
        exact ⟨by rw [NO.out ID2.out]; rfl, h⟩
    · obtain rfl : k = n := by omega
      have FIN : Hid ((al.all (idleT s) && decide (0 < k)) = decide (0 < k)) := Lib.hid (by
        have := HALL.out
        rw [List.take_of_length_le (by have := HN.out; omega)] at this
        rw [this]; rfl)
      by_cases hk0 : 0 < k
      · have d1 : decide ((0 : Int) < (k : Int)) = true := decide_eq_true (by omega)
        have d2 : decide (0 < k) = true := decide_eq_true hk0
        have FIN2 : Hid ((al.all (idleT s) && decide (0 < k)) = true) := Lib.hid (FIN.out.trans d2)
        go_wp2_with (first
          | (with_reducible show wpList _ _ _ ({ dst := _, op := Op.load 33 _, type := _, pos := _, after := _, guard := _ } :: _) _ _; go_loud (refine wpList_load1_has h rfl 33 _ rfl rfl hbt e2 Tryz.underlying33 rfl ?_)))
        go_ret
        exact ⟨by rw [FIN2.out]; rfl, h⟩
      · obtain rfl : k = 0 := by omega
        go_wp2_with (first
          | (with_reducible show wpList _ _ _ ({ dst := _, op := Op.load 33 _, type := _, pos := _, after := _, guard := _ } :: _) _ _; go_loud (refine wpList_load1_has h rfl 33 _ rfl rfl hbt e2 Tryz.underlying33 rfl ?_)))
        go_ret
        exact ⟨by rw [FIN.out]; rfl, h⟩
theorem conf_fld4 (c : Nat → Int) (w : World) : (Instr.field 24 (.agg #[.int .i64 (c 0), .int .i64 (c 1), .int .i64 (c 2), .int .i64 (c 3), .int .i64 (c 4), .int .i64 (c 5), .int .i64 (c 6), .int .i64 (c 7), .int .i64 (c 8), .int .i64 (c 9), .int .i64 (c 10), .int .i64 (c 11), .int .i64 (c 12), .int .i64 (c 13)]) 4).run Tryz.prog w = .ok (.int .i64 (c 11)) w := by kernel_rfl
set_option maxHeartbeats 2000000 in
set_option maxRecDepth 20000 in
theorem limitEmpty_eq {σ w : World} {M : Mm} {lab : Nat → Nat} {p : Nat} {s : MachS} (h : Has σ M w) (hM : Mach M lab p s) {bt B : Nat} {va vg vn : Value} {lv : Int} (hbt : M bt = some (.cells (turnR p lv va vg vn) 87)) (hB : s.c 11 = (B : Nat)) (hB40 : B ≤ 40) (hl0 : 0 ≤ lv) (hl1 : lv < s.c 0) (hN : s.mem.N ≤ 10000)
    (hz : ∀ i : Nat, i < B → ∃ j : Nat, atK s.c lv 7 (i : Nat) 0 = (j : Int) ∧ j < s.mem.N ∧ s.mem.f j = 0) :
    Calls Tryz.prog 34 #[.pointer (some ⟨bt, 0, none⟩)] w fun r w' => r = .returned (.bool true) ∧ Has σ M w' := by
  have e0 : (turnR p lv va vg vn)[0]? = some (.pointer (some ⟨p, 0, none⟩)) := rfl
  have e1 : (turnR p lv va vg vn)[1]? = some (.int .i64 lv) := rfl
  have ME := Lib.hid (fun (w : World) (h : Has σ M w) => mMem_eq h hM)
  have WO := Lib.hid (fun (w : World) (h : Has σ M w) => memWords_eq h hM.mem hN)
  have PL := Lib.hid (fun (M' : Mm) (hle : M.le M') (w : World) (h : Has σ M' w) => mPlan_eq h (hM.keep (Kp.le hle fun _ => 0) fun _ _ h => h))
  have CF := Lib.hid (fun (M' : Mm) (hle : M.le M') (w : World) (h : Has σ M' w) => conf_has h s.c (hM.keep (Kp.le hle fun _ => 0) fun _ _ h => h).plan)
  have AT : Hid (∀ (M' : Mm) (i : Nat) (w : World), i < B → M.le M' → Has σ M' w → Calls Tryz.prog 41 #[.pointer (some ⟨s.pl, 0, none⟩), .agg #[.int .i64 lv, .int .i64 7, .int .i64 (i : Nat), .int .i64 0]] w fun e w' => e = .returned (.int .i64 (atK s.c lv 7 (i : Nat) 0)) ∧ Has σ M' w') := Lib.hid fun M' i w hi hle h =>
    at_yes h s.c hM.may (hM.keep (Kp.le hle fun _ => 0) fun _ _ h => h).plan lv 7 (i : Nat) 0 hl0 hl1 ⟨by omega, by unfold baseK; simp <;> omega, by omega, by omega, fun _ => rfl, by unfold numK many baseK; simp <;> omega⟩
  have r11 : (ints .i64 14 s.c)[11]? = some (.int .i64 (B : Nat)) := by rw [← hB]; rfl
  have HZ := Lib.hid hz
  have eR : s.mem.row = .cells (ints .u64 s.mem.N s.mem.f) 37 := rfl
  rw [eR] at WO
  have FLD : ∀ w, (Instr.field 24 (.agg (ints .i64 14 s.c)) 4).run Tryz.prog w = .ok (.int .i64 (B : Nat)) w := fun w => by
    rw [← hB]
    exact conf_fld4 s.c w
  have WV : Hid (∀ j, j < s.mem.N → s.mem.f j = 0 → (ints .u64 s.mem.N s.mem.f)[j]? = some (.int .u64 0)) := Lib.hid fun j hj h0 => by rw [ints_get hj, h0]
  clear hM hB hl0 hl1 hz eR
  generalize s.pl = pl at *
  generalize s.mp = mp at *
  generalize hNN : s.mem.N = N at *
  clear hNN
  generalize ints .u64 N s.mem.f = wrow at *
  generalize ints .i64 14 s.c = crow at *
  generalize turnR p lv va vg vn = tr at *
  go_enter Tryz.func34, Tryz.ntmps34
  go_upto_region 2 with (first
    | (with_reducible show wpList _ _ _ ({ dst := _, op := Op.load 26 _, type := _, pos := _, after := _, guard := _ } :: _) _ _; go_loud (refine wpList_load1_has h rfl 26 _ rfl rfl hbt e0 Tryz.underlying26 rfl ?_))
    | (go_at_call 10; go_loud (refine (ME.out _ h).mono ?_); clear h; rintro _ w ⟨rfl, h⟩)
    | ((go_at_call 11; refine (WO.out _ h).mono ?_; clear h; rintro _ w ⟨bw, M3, rfl, h, hle, hnw, hbw⟩)))
  have hbt3 := hle _ _ hbt
  have PL1 := Lib.hid (PL.out M3 hle)
  have CF1 := Lib.hid (CF.out M3 hle)
  clear PL CF ME WO
  go_upto_region 3 with (first
    | (with_reducible show wpList _ _ _ ({ dst := _, op := Op.load 26 _, type := _, pos := _, after := _, guard := _ } :: _) _ _; go_loud (refine wpList_load1_has h rfl 26 _ rfl rfl hbt3 e0 Tryz.underlying26 rfl ?_))
    | (go_at_call 29; go_loud (refine (PL1.out _ h).mono ?_); clear h; rintro _ w ⟨rfl, h⟩)
    | (go_at_call 30; go_loud (refine (CF1.out _ h).mono ?_); clear h; rintro _ w ⟨rfl, h⟩))
  go_loopw [4, 18] (fun _ u wr => ∃ k : Nat, k ≤ B ∧ u = .int .i64 (k : Nat) ∧ Has σ M3 wr) (fun _ u _ => B - (intOf u).toNat)
  case atStart => exact ⟨0, Nat.zero_le _, rfl, h⟩
  case round =>
    clear h w
    obtain ⟨w, rfl⟩ : ∃ x : World, x = wr := ⟨_, rfl⟩
    obtain ⟨k, hk, rfl, h⟩ := hrel
    by_cases hlt : k < B
    · have hlt' : (k : Int) < (B : Int) := by omega
      have wk : IntKind.i64.wrap ((k : Int) + 1) = ((k + 1 : Nat) : Int) := by rw [show (k : Int) + 1 = ((k + 1 : Nat) : Int) by omega]; exact IntWalk.i64_in _ (by omega)
      have AT1 := Lib.hid (fun (w : World) (h : Has σ M3 w) => AT.out M3 k w hlt hle h)
      obtain ⟨j, ej, hj, h0⟩ := HZ.out k hlt
      rw [ej] at AT1
      have hwv := WV.out j hj h0
      have hj' : (j : Int) < (N : Int) := by omega
      clear ej h0
      go_upto_region 5 with (fail)
      refine wp_region_class (Has σ M3) (by kernel_rfl) (by kernel_rfl) h.drew ?_
      clear h
      repeat (first
        | go_big_quiet_skip
        | (go_big_quiet_want; first
          | (refine quiet_load_has 26 _ rfl rfl hbt3 e0 Tryz.underlying26 rfl ?_; simp only [Act.put, List.setIfInBounds_toArray, List.set_cons_zero, List.set_cons_succ]; go_big_quiet_on)
          | (refine quiet_load_has 3 _ rfl rfl hbt3 e1 Tryz.underlying3 rfl ?_; simp only [Act.put, List.setIfInBounds_toArray, List.set_cons_zero, List.set_cons_succ]; go_big_quiet_on)
          | (refine quiet_load_has 37 _ rfl rfl hbw hwv Tryz.underlying37 rfl ?_; simp only [Act.put, List.setIfInBounds_toArray, List.set_cons_zero, List.set_cons_succ]; go_big_quiet_on)
          | (go_big_quiet_op; first | go_big_quiet_on | go_big_quiet_call (first | with_reducible exact fun _ => rfl | with_reducible exact PL1.out _ | with_reducible exact AT1.out _))))
      refine wpQuiet_nil ?_
      try clear w
      intro w h
      go_wp2
      go_roundw
      case rel => exact ⟨k + 1, hlt, by first | rfl | go_num, h⟩
      case measure => simp [intOf]; omega
    · obtain rfl : k = B := by omega
      go_wp2
      go_ret
      exact ⟨rfl, h.le hle⟩
theorem zintL : (Tryz.prog.info? 3).bind (·.zero) = some (.int .i64 0) := by kernel_rfl
theorem limitTaken_eq {σ w : World} {M : Mm} (h : Has σ M w) (A : Option Addr) (n c : Nat) : Calls Tryz.prog 32 #[.slice A n c] w fun r w' => ∃ b1 b3 b4 : Nat, r = .returned (.func (.func 53) #[] #[.pointer (some ⟨b3, 0, none⟩), .pointer (some ⟨b1, 0, none⟩), .pointer (some ⟨b4, 0, none⟩)]) ∧ Has σ M w' := by
  have zi := zintL
  go_enter Tryz.func32, Tryz.ntmps32
  go_upto_region 1 with (first
    | ((with_reducible show wpList _ _ _ ({ dst := _, op := Op.box 33 _, type := _, pos := _, after := _, guard := _ } :: _) _ _); go_loud (refine wpList_box_has h rfl 33 _ rfl ?_); clear h; intro b1 w h hn1; try simp only [Act.put, List.setIfInBounds_toArray, List.set_cons_zero, List.set_cons_succ]))
  replace hn1 : M b1 = none := hn1
  replace h : Has σ (M.upd b1 (.cells #[.slice A n c] 33)) w := h
  have hle : M.le (M.upd b1 (.cells #[.slice A n c] 33)) := Mm.le_upd' hn1 _
  have hb1 : (M.upd b1 (.cells #[.slice A n c] 33)) b1 = some (.cells #[.slice A n c] 33) := (Mm.le_refl _) _ _ (Mm.upd_same _ _ _)
  replace hn1 : M b1 = none := Mm.none_of (Mm.le_refl _) hn1
  generalize (M.upd b1 (.cells #[.slice A n c] 33)) = M1 at h hle hb1
  have l1 : 0 < (#[.int .i64 0] : Array Value).size := by decide
  go_upto_region 2 with (first
    | ((with_reducible show wpList _ _ _ ({ dst := some 3, op := Op.alloc 3, type := _, pos := _, after := _, guard := _ } :: _) _ _); go_loud (refine wpList_alloc_has h rfl 3 rfl _ zi ?_); clear h; intro b3 w h hn3; try simp only [Act.put, List.setIfInBounds_toArray, List.set_cons_zero, List.set_cons_succ])
    | ((with_reducible show wpList _ _ _ ({ dst := some 4, op := Op.alloc 3, type := _, pos := _, after := _, guard := _ } :: _) _ _); go_loud (refine wpList_alloc_has h rfl 3 rfl _ zi ?_); clear h; intro b4 w h hn4; try simp only [Act.put, List.setIfInBounds_toArray, List.set_cons_zero, List.set_cons_succ])
    | ((with_reducible show wpList _ _ _ ({ dst := _, op := Op.store 3 (.tmp 3) _, type := _, pos := _, after := _, guard := _ } :: _) _ _); have hx3 := Mm.le_upd' hn4 (.cells #[.int .i64 0] 3) _ _ (Mm.upd_same M1 b3 (.cells #[.int .i64 0] 3)); refine wpList_store1_has h rfl 3 _ _ rfl rfl rfl hx3 l1 rfl (by kernel_rfl) ?_; clear h; intro w h)
    | ((with_reducible show wpList _ _ _ ({ dst := _, op := Op.store 3 (.tmp 4) _, type := _, pos := _, after := _, guard := _ } :: _) _ _); have n34 : b3 ≠ b4 := (fun e => by subst e; rw [Mm.upd_same] at hn4; cases hn4); have hx4 := (Mm.upd_ne (o := .cells #[.int .i64 0] 3) (Ne.symm n34)).trans (Mm.upd_same (M1.upd b3 (.cells #[.int .i64 0] 3)) b4 (.cells #[.int .i64 0] 3)); refine wpList_store1_has h rfl 3 _ _ rfl rfl rfl hx4 l1 rfl (by kernel_rfl) ?_; clear h; intro w h))
  replace h : Has σ ((((M1.upd b3 (.cells #[.int .i64 0] 3)).upd b4 (.cells #[.int .i64 0] 3)).upd b3 (.cells #[.int .i64 0] 3)).upd b4 (.cells #[.int .i64 (-1)] 3)) w := h
  replace hn4 : (M1.upd b3 (.cells #[.int .i64 0] 3)) b4 = none := hn4
  obtain ⟨hle5, _, _⟩ := Mm.again (o' := .cells #[.int .i64 0] 3) hn3 hn4 (.cells #[.int .i64 0] 3) (.cells #[.int .i64 (-1)] 3)
  go_wp2
  go_ret
  exact ⟨b1, b3, b4, rfl, h.le (Mm.le_trans hle hle5)⟩
end Go.Proofs.YtmfpablmmjaccaaGreatDoor
