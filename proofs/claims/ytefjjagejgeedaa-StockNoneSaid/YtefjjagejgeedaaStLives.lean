/- Law 22: the chapter's example: three Takes. -/
import Derived.Test.YtefjjagejgeedaaTooks
import Derived.Test.YtefjjagejgeedaaRefMay
namespace Go.Proofs.Ytefjjagejgeedaa
open Go.RowKit
set_option linter.unusedVariables false
set_option linter.unusedSimpArgs false
set_option linter.unnecessarySimpa false
def exS : Nat → Int := fun i => if i = 0 then 1 else if i = 1 then 1 else if i = 10 then 3 else if i = 11 then 1 else if i = 12 then 9 else 0
theorem exS_may : ConfMay exS := by decide
theorem exS_nums : Nums exS 1 1 3 := ⟨rfl, rfl, rfl, by omega, by omega, by omega⟩
theorem CanTake.again {s S : MachS} {t q lv : Nat} (h : CanTake s t q lv) (hc : S.c = s.c) (htp : S.tp = s.tp) (hN : S.mem.N = s.mem.N) (ht : ∃ f, S.thr t = { s.thr t with told := f }) (ha : S.mem.acc < 100000000) (hw : S.mem.wr < 100000000) (hs : S.steps < 100000) (hk : ∀ k, S.clk k < 100000000) : CanTake S t q lv := by
  obtain ⟨f, ht⟩ := ht
  exact ⟨by rw [hc]; exact h.may, by rw [hN, hc]; exact h.memN, by rw [htp]; exact h.tp, by rw [hc]; exact h.lvl, by rw [hc]; exact h.lvc, by rw [ht]; exact h.run, ha, hw, hs, hk, by rw [ht]; exact h.fr⟩
/-- One Take of the example: from S, in so many steps, to S', which tells v. -/
def Leg (σ : World) (K : Mm) (p q : Nat) (S S' : MachS) (v : Int) : Prop :=
  S.tp[0]? = some q ∧ S'.tp[0]? = some q ∧ (S.thr 0).frames.length < 1000000 ∧ (S'.thr 0).told 0 = v ∧ ∃ (St : Nat → MachS) (k : Nat), St 0 = S.begun 0 1 [] ∧ Trail σ K p 0 q (.func (.func 6) #[] #[]) (S.thr 0).frames.length St k ∧ 0 < k ∧ k ≤ 50 ∧ St k = S'
theorem three_legs {σ : World} (K : Mm) (p : Nat) {s : MachS} {q : Nat} (hN : s.New exS 1 1 3) (hw : s.ward.lv = s.c 0 ∧ s.ward.sl = s.c 10) (hq : s.tp[0]? = some q) : ∃ S1 S2 S3, Leg σ K p q s S1 2 ∧ Leg σ K p q S1 S2 3 ∧ Leg σ K p q S2 S3 0 := by
  obtain ⟨wb, hmem⟩ := hN.mem
  have hc := hN.c
  have c0 : CanTake s 0 q 0 := by
    refine ⟨by rw [hc]; exact exS_may, by rw [hmem, hc]; rfl, hq, by rw [hc]; decide, by rw [hc]; decide, by rw [hN.thr]; rfl, ?_, ?_, by rw [hN.steps]; decide, fun k => by rw [hN.clk]; show 0 < 100000000; omega, by rw [hN.thr]; decide⟩
    · rw [hmem]; show 0 < 100000000; decide
    · rw [hmem]; show 0 < 100000000; decide
  have A0 : (atK exS ((0 : Nat) : Int) 0 0 0).toNat = 0 := by decide
  have A12 : (atK exS ((0 : Nat) : Int) 8 ((2 : Nat) : Int) 0).toNat = 20 := by decide
  have A13 : (atK exS ((0 : Nat) : Int) 8 ((3 : Nat) : Int) 0).toNat = 21 := by decide
  have A32 : (atK exS ((0 : Nat) : Int) 9 ((2 : Nat) : Int) 0).toNat = 27 := by decide
  have A33 : (atK exS ((0 : Nat) : Int) 9 ((3 : Nat) : Int) 0).toNat = 32 := by decide
  have F : s.mem.f = wl 1 3 1 := by rw [hmem]; rfl
  have W : s.ward.lv = 1 ∧ s.ward.sl = 3 := by rw [hw.1, hw.2, hc]; exact ⟨rfl, rfl⟩
  obtain ⟨T1, t10, t11, K1⟩ := took_trail (σ := σ) K p c0 (X := 2) (Y := 3) (Z := 0) (sl := 2) (by rw [hc, A0, F]; decide) (by omega) (by decide) (by omega) (by rw [hc]; decide) (by rw [hc, A12, F]; decide) (by omega) (by rw [hc, A32, F]; decide) (by omega) (WardS.there_iff.2 ⟨by omega, by rw [W.1]; decide, by omega, by rw [W.2]; decide⟩) (by rw [hN.held.1]; decide)
  rw [hc, A0, show mkTop 3 (cutN 2 8 56 + 1) = 259 by decide] at K1
  obtain ⟨S1, hS1⟩ : ∃ S1, T1 4 = S1 := ⟨_, rfl⟩
  rw [hS1] at K1
  have ck1 : ∀ k, S1.clk k < 100000000 := fun k => by
    have := K1.clk k
    have h9 : s.clk k = 0 := by rw [hN.clk]
    omega
  have c1 : CanTake S1 0 q 0 := c0.again K1.c K1.tp K1.N ⟨_, K1.thr⟩ (by rw [K1.acc, hmem]; show 0 + 4 < 100000000; decide) (by have := K1.wr; rw [hmem] at this; have h2 : S1.mem.wr ≤ 0 + 1 := this; omega) (by rw [K1.steps, hN.steps]; decide) (fun k => ck1 k)
  have F1 : S1.mem.f = upd (wl 1 3 1) 0 259 := by rw [K1.f, F]; rfl
  have D1 : S1.ward = s.ward.take ((0 : Nat) : Int) ((2 : Nat) : Int) := K1.ward
  have cS1 : S1.c = exS := K1.c.trans hc
  obtain ⟨T2, t20, t21, K2⟩ := took_trail (σ := σ) K p c1 (X := 259) (Y := 0) (Z := 0) (sl := 3) (by rw [cS1, A0, F1]; decide) (by omega) (by decide) (by omega) (by rw [cS1]; decide) (by rw [cS1, A13, F1]; decide) (by omega) (by rw [cS1, A33, F1]; decide) (by omega) (by rw [D1]; exact WardS.there_iff.2 ⟨by omega, by show _ < s.ward.lv; rw [W.1]; decide, by omega, by show _ ≤ s.ward.sl; rw [W.2]; decide⟩) (by rw [D1]; show valE _ _ (putE _ _ 1 s.ward.hclk s.ward.held) = 0; rw [hN.held.1, hN.held.2]; decide)
  rw [cS1, A0, show mkTop 0 (cutN 259 8 56 + 1) = 512 by decide] at K2
  obtain ⟨S2, hS2⟩ : ∃ S2, T2 4 = S2 := ⟨_, rfl⟩
  rw [hS2] at K2
  have ck2 : ∀ k, S2.clk k < 100000000 := fun k => by
    have h7 := K1.clk k
    have h8 := K2.clk k
    have h9 : s.clk k = 0 := by rw [hN.clk]
    omega
  have c2 : CanTake S2 0 q 0 := c1.again K2.c K2.tp K2.N ⟨_, K2.thr⟩ (by rw [K2.acc, K1.acc, hmem]; show 0 + 4 + 4 < 100000000; decide) (by have := K1.wr; have h3 := K2.wr; rw [hmem] at this; have h2 : S1.mem.wr ≤ 0 + 1 := this; omega) (by rw [K2.steps, K1.steps, hN.steps]; decide) (fun k => ck2 k)
  have F2 : S2.mem.f 0 = 512 := by rw [K2.f]; rfl
  have cS2 : S2.c = exS := K2.c.trans cS1
  obtain ⟨T3, t30, t31, K3⟩ := none_trail (σ := σ) K p c2 (X := 512) (by rw [cS2, A0, F2]; rfl) (by omega) (by decide)
  refine ⟨S1, S2, T3 2, ⟨hq, c1.tp, by have := c0.fr; omega, by rw [K1.thr]; rfl, T1, 4, t10, t11, by omega, by omega, hS1⟩, ⟨c1.tp, c2.tp, by have := c1.fr; omega, by rw [K2.thr]; rfl, T2, 4, t20, t21, by omega, by omega, hS2⟩, ⟨c2.tp, by rw [K3.tp]; exact c2.tp, by have := c2.fr; omega, by rw [K3.thr]; rfl, T3, 2, t30, t31, by omega, by omega, rfl⟩⟩
set_option maxHeartbeats 4000000 in
set_option maxRecDepth 20000 in
theorem lives_eq {σ w : World} {M : Mm} (h : Has σ M w) : Calls Try.prog 9 #[] w fun r w' => r = .returned (.bool true) ∧ Has σ M w' := by
  have NW := Lib.hid (fun (w : World) (h : Has σ M w) => mNew_yes h exS exS_may exS_nums)
  have EC : confV exS = .agg #[.int .i64 1, .int .i64 1, .int .i64 0, .int .i64 0, .int .i64 0, .int .i64 0, .int .i64 0, .int .i64 0, .int .i64 0, .int .i64 0, .int .i64 3, .int .i64 1, .int .i64 9, .int .i64 0] := rfl
  rw [EC] at NW
  clear EC
  go_enter Try.func9, Try.ntmps9
  go_upto_region 2 with (first
    | (go_at_call 7; refine (NW.out _ h).mono ?_; clear h; rintro _ w ⟨p, M1, lab, s, rfl, h, hB, hM, hN⟩))
  clear NW
  have hq0 : ∃ q, s.tp[0]? = some q := ⟨_, List.getElem?_eq_getElem (by have := hM.tlen; rw [hN.c] at this; have h2 : exS 1 = 1 := rfl; omega)⟩
  obtain ⟨q, hq⟩ := hq0
  obtain ⟨S1, S2, S3, G1, G2, G3⟩ := three_legs (σ := σ) M p hN hM.wsz hq
  have LG1 := Lib.hid G1
  have LG2 := Lib.hid G2
  have LG3 := Lib.hid G3
  have HM := Lib.hid hM
  have HB := Lib.hid hB
  clear G1 G2 G3 hM hB hN hq
  go_upto_region 5 with (fail)
  go_loopw [3] (fun u wr => ∃ (M5 : Mm) (lab5 : Nat → Nat), Has σ M5 wr ∧ Base M M5 lab5 ∧ ((u = .int .i64 2 ∧ Mach M5 lab5 p s) ∨ (u = .int .i64 3 ∧ Mach M5 lab5 p S1) ∨ (u = .int .i64 4 ∧ Mach M5 lab5 p S2) ∨ (u = .int .i64 5 ∧ Mach M5 lab5 p S3))) (fun u _ => 5 - (intOf u).toNat)
  case atStart => exact ⟨M1, lab, h, HB.out, .inl ⟨rfl, HM.out⟩⟩
  case round =>
    clear h w HM HB M1 lab
    obtain ⟨w, rfl⟩ : ∃ x : World, x = wr := ⟨_, rfl⟩
    obtain ⟨M5, lab5, h, hB5, ⟨rfl, hM5⟩ | ⟨rfl, hM5⟩ | ⟨rfl, hM5⟩ | ⟨rfl, hM5⟩⟩ := hrel
    · skip
      obtain ⟨l1, l2, l3, l4, St, k, l5, l6, l7, l8, l9⟩ := LG1.out
      have AL : Hid (∀ w : World, Has σ M5 w → Calls Try.prog 18 #[.pointer (some ⟨p, 0, none⟩), .int .i64 0, (.func (.func 6) #[] #[]), .int .i64 50, .int .i64 1, .slice none 0 0] w fun r w' => r = .returned (.int .i64 (k : Nat)) ∧ ∃ M' lab', Has σ M' w' ∧ Mach M' lab' p (St k) ∧ Base M M' lab') := Lib.hid fun w h => alone_eq (t := 0) (us := []) (most := 50) h hM5 hB5 l1 (Rd.nil _ _ _) (by simp) l3 1 l5 l7 l8 (by omega) l6
      rw [l9] at AL
      have L2 := Lib.hid l2
      have L4 := Lib.hid l4
      have gk : decide ((k : Int) < 0) = false := decide_eq_false (by omega)
      clear l1 l2 l3 l4 l5 l6 l7 l8 l9 hM5 hB5
      go_wp2_with (fail)
      go_at_call 18
      refine (AL.out _ h).mono ?_
      clear h
      rintro _ w ⟨rfl, M6, lab6, h, hM6, hB6⟩
      have HM6 := Lib.hid hM6
      have HB6 := Lib.hid hB6
      obtain ⟨fv, hv, fbs, hTh⟩ := hM6.each 0 q L2.out
      have htq := hTh.obj
      have TH : Hid (∀ w : World, Has σ M6 w → Calls Try.prog 12 #[.pointer (some ⟨p, 0, none⟩), .int .i64 0] w fun r w' => r = .returned (.pointer (some ⟨q, 0, none⟩)) ∧ Has σ M6 w') := Lib.hid fun w h => mThread_yes (t := 0) h HM6.out L2.out
      have d0 : (ThrS.row (MachS.thr S1 0) fv hv)[0]? = some (.int .u64 2) := by rw [← L4.out]; rfl
      generalize ThrS.row _ fv hv = trow at htq d0
      clear hM6 hB6 hTh
      go_wp2_with (first
        | (with_reducible show wpList _ _ _ ({ dst := _, op := Op.load 40 _, type := _, pos := _, after := _, guard := _ } :: _) _ _; refine wpList_load1_has h rfl 40 _ rfl rfl htq d0 Try.underlying40 rfl ?_)
        | ((go_at_call 12; refine (TH.out _ h).mono ?_; clear h; rintro _ w ⟨rfl, h⟩)))
      go_roundw
      case rel => exact ⟨M6, lab6, h, HB6.out, .inr (.inl ⟨rfl, HM6.out⟩)⟩
      case measure => simp [intOf]
    · skip
      obtain ⟨l1, l2, l3, l4, St, k, l5, l6, l7, l8, l9⟩ := LG2.out
      have AL : Hid (∀ w : World, Has σ M5 w → Calls Try.prog 18 #[.pointer (some ⟨p, 0, none⟩), .int .i64 0, (.func (.func 6) #[] #[]), .int .i64 50, .int .i64 1, .slice none 0 0] w fun r w' => r = .returned (.int .i64 (k : Nat)) ∧ ∃ M' lab', Has σ M' w' ∧ Mach M' lab' p (St k) ∧ Base M M' lab') := Lib.hid fun w h => alone_eq (t := 0) (us := []) (most := 50) h hM5 hB5 l1 (Rd.nil _ _ _) (by simp) l3 1 l5 l7 l8 (by omega) l6
      rw [l9] at AL
      have L2 := Lib.hid l2
      have L4 := Lib.hid l4
      have gk : decide ((k : Int) < 0) = false := decide_eq_false (by omega)
      clear l1 l2 l3 l4 l5 l6 l7 l8 l9 hM5 hB5
      go_wp2_with (fail)
      go_at_call 18
      refine (AL.out _ h).mono ?_
      clear h
      rintro _ w ⟨rfl, M6, lab6, h, hM6, hB6⟩
      have HM6 := Lib.hid hM6
      have HB6 := Lib.hid hB6
      obtain ⟨fv, hv, fbs, hTh⟩ := hM6.each 0 q L2.out
      have htq := hTh.obj
      have TH : Hid (∀ w : World, Has σ M6 w → Calls Try.prog 12 #[.pointer (some ⟨p, 0, none⟩), .int .i64 0] w fun r w' => r = .returned (.pointer (some ⟨q, 0, none⟩)) ∧ Has σ M6 w') := Lib.hid fun w h => mThread_yes (t := 0) h HM6.out L2.out
      have d0 : (ThrS.row (MachS.thr S2 0) fv hv)[0]? = some (.int .u64 3) := by rw [← L4.out]; rfl
      generalize ThrS.row _ fv hv = trow at htq d0
      clear hM6 hB6 hTh
      go_wp2_with (first
        | (with_reducible show wpList _ _ _ ({ dst := _, op := Op.load 40 _, type := _, pos := _, after := _, guard := _ } :: _) _ _; refine wpList_load1_has h rfl 40 _ rfl rfl htq d0 Try.underlying40 rfl ?_)
        | ((go_at_call 12; refine (TH.out _ h).mono ?_; clear h; rintro _ w ⟨rfl, h⟩)))
      go_roundw
      case rel => exact ⟨M6, lab6, h, HB6.out, .inr (.inr (.inl ⟨rfl, HM6.out⟩))⟩
      case measure => simp [intOf]
    · skip
      obtain ⟨l1, l2, l3, l4, St, k, l5, l6, l7, l8, l9⟩ := LG3.out
      have AL : Hid (∀ w : World, Has σ M5 w → Calls Try.prog 18 #[.pointer (some ⟨p, 0, none⟩), .int .i64 0, (.func (.func 6) #[] #[]), .int .i64 50, .int .i64 1, .slice none 0 0] w fun r w' => r = .returned (.int .i64 (k : Nat)) ∧ ∃ M' lab', Has σ M' w' ∧ Mach M' lab' p (St k) ∧ Base M M' lab') := Lib.hid fun w h => alone_eq (t := 0) (us := []) (most := 50) h hM5 hB5 l1 (Rd.nil _ _ _) (by simp) l3 1 l5 l7 l8 (by omega) l6
      rw [l9] at AL
      have L2 := Lib.hid l2
      have L4 := Lib.hid l4
      have gk : decide ((k : Int) < 0) = false := decide_eq_false (by omega)
      clear l1 l2 l3 l4 l5 l6 l7 l8 l9 hM5 hB5
      go_wp2_with (fail)
      go_at_call 18
      refine (AL.out _ h).mono ?_
      clear h
      rintro _ w ⟨rfl, M6, lab6, h, hM6, hB6⟩
      have HM6 := Lib.hid hM6
      have HB6 := Lib.hid hB6
      obtain ⟨fv, hv, fbs, hTh⟩ := hM6.each 0 q L2.out
      have htq := hTh.obj
      have TH : Hid (∀ w : World, Has σ M6 w → Calls Try.prog 12 #[.pointer (some ⟨p, 0, none⟩), .int .i64 0] w fun r w' => r = .returned (.pointer (some ⟨q, 0, none⟩)) ∧ Has σ M6 w') := Lib.hid fun w h => mThread_yes (t := 0) h HM6.out L2.out
      have d0 : (ThrS.row (MachS.thr S3 0) fv hv)[0]? = some (.int .u64 0) := by rw [← L4.out]; rfl
      generalize ThrS.row _ fv hv = trow at htq d0
      clear hM6 hB6 hTh
      go_wp2_with (first
        | (with_reducible show wpList _ _ _ ({ dst := _, op := Op.load 40 _, type := _, pos := _, after := _, guard := _ } :: _) _ _; refine wpList_load1_has h rfl 40 _ rfl rfl htq d0 Try.underlying40 rfl ?_)
        | ((go_at_call 12; refine (TH.out _ h).mono ?_; clear h; rintro _ w ⟨rfl, h⟩)))
      go_roundw
      case rel => exact ⟨M6, lab6, h, HB6.out, .inr (.inr (.inr ⟨rfl, HM6.out⟩))⟩
      case measure => simp [intOf]
    · have hle := hB5.le
      go_wp2
      go_ret
      exact ⟨rfl, h.le hle⟩
end Go.Proofs.Ytefjjagejgeedaa
