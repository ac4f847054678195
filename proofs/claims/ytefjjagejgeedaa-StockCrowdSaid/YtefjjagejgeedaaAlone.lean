/- Law 22: Alone: a thread does a routine alone, to its end. -/
import Derived.Test.YtefjjagejgeedaaTakeD
namespace Go.Proofs.Ytefjjagejgeedaa
open Go.RowKit
set_option linter.unusedVariables false
set_option linter.unusedSimpArgs false
set_option linter.unnecessarySimpa false
def MachS.begun (s : MachS) (t : Nat) (fn : Int) (us : List Int) : MachS := { s with thr := fun j => if j = t then (s.thr t).call fn us else s.thr j }
/-- From state to state, step by step: what Alone tells, and where the machine is. -/
structure Trail (σ : World) (K : Mm) (p t q : Nat) (dv : Value) (n : Nat) (St : Nat → MachS) (k : Nat) : Prop where
  step : ∀ i, i < k → ∀ (M : Mm) (lab : Nat → Nat) (w : World), Has σ M w → Mach M lab p (St i) → Base K M lab → Calls Try.prog 26 #[.pointer (some ⟨p, 0, none⟩), .int .i64 (t : Nat), dv] w fun r w' => ∃ M' lab' b, r = .returned (.bool b) ∧ Has σ M' w' ∧ Mach M' lab' p (St (i + 1)) ∧ Base K M' lab'
  tp : ∀ i, i ≤ k → (St i).tp[t]? = some q
  deep : ∀ i, 0 < i → i < k → n < ((St i).thr t).frames.length
  done : ((St k).thr t).frames.length ≤ n
set_option maxHeartbeats 4000000 in
set_option maxRecDepth 20000 in
theorem alone_eq {σ w : World} {K M : Mm} {lab : Nat → Nat} {p t q : Nat} {s : MachS} (h : Has σ M w) (hM : Mach M lab p s) (hB : Base K M lab) (hq : s.tp[t]? = some q) {dv rv : Value} {us : List Int} (hr : Rd M 1 rv us.length (u64s us)) (hu : us.length ≤ 16) (hfr : (s.thr t).frames.length < 1000000) (fn : Int) {St : Nat → MachS} {k most : Nat} (h0 : St 0 = s.begun t fn us) (hk : 0 < k) (hkm : k ≤ most) (hmost : most < 1000000) (hT : Trail σ K p t q dv (s.thr t).frames.length St k) :
    Calls Try.prog 18 #[.pointer (some ⟨p, 0, none⟩), .int .i64 (t : Nat), dv, .int .i64 (most : Nat), .int .i64 fn, rv] w fun r w' => r = .returned (.int .i64 (k : Nat)) ∧ ∃ M' lab', Has σ M' w' ∧ Mach M' lab' p (St k) ∧ Base K M' lab' := by
  have TH := Lib.hid (fun (w : World) (h : Has σ M w) => mThread_yes h hM hq)
  obtain ⟨fv, hv, fbs, hTh⟩ := hM.each t q hq
  have hl := hTh.flen
  have DP := Lib.hid (fun (w : World) (h : Has σ M w) => thrDeep_eq h hTh)
  rw [hl] at DP
  have CA := Lib.hid (fun (w : World) (h : Has σ M w) => thrCall_eq h hTh fn (rv := rv) (us := us) hr hu (by omega))
  have HM := Lib.hid hM
  have HB := Lib.hid hB
  have HQ := Lib.hid hq
  have H0 := Lib.hid h0
  have TR := Lib.hid hT
  clear hM hB hq hTh h0 hT hr hu hl
  generalize hn : (s.thr t).frames.length = n at *
  clear hn
  go_enter Try.func18, Try.ntmps18
  go_upto_region 6 with (first
    | (go_at_call 12; refine (TH.out _ h).mono ?_; clear h; rintro _ w ⟨rfl, h⟩)
    | (go_at_call 15; refine (DP.out _ h).mono ?_; clear h; rintro _ w ⟨rfl, h⟩)
    | (go_at_call 13; refine (CA.out _ h).mono ?_; clear h; rintro _ w ⟨rfl, M3, lab3, h, hK3, hT3⟩))
  obtain ⟨hM3, hB3⟩ := HM.out.thrTo HB.out HQ.out hK3 hT3
  have hM4 : Mach M3 lab3 p (St 0) := by rw [H0.out]; exact hM3
  have HM4 := Lib.hid hM4
  have HB4 := Lib.hid hB3
  clear hM3 hB3 hM4 hK3 hT3 TH DP CA HM HB HQ H0
  go_upto_region 7 with (fail)
  go_loopw [15] (fun u wr => ∃ j : Nat, j < k ∧ u = .int .i64 (j : Nat) ∧ ∃ M5 lab5, Has σ M5 wr ∧ Mach M5 lab5 p (St j) ∧ Base K M5 lab5) (fun u _ => most - (intOf u).toNat)
  case atStart => exact ⟨0, hk, rfl, M3, lab3, h, HM4.out, HB4.out⟩
  case round =>
    clear h w HM4 HB4 M3 lab3
    obtain ⟨w, rfl⟩ : ∃ x : World, x = wr := ⟨_, rfl⟩
    obtain ⟨j, hj, rfl, M5, lab5, h, hM5, hB5⟩ := hrel
    have hjm : (j : Int) < (most : Int) := by omega
    have SP := Lib.hid (fun (w : World) (h : Has σ M5 w) => TR.out.step j hj M5 lab5 w h hM5 hB5)
    clear hM5 hB5
    go_upto_region 10 with (first
      | (go_at_call 26; refine (SP.out _ h).mono ?_; clear h; rintro _ w ⟨M6, lab6, b6, rfl, h, hM6, hB6⟩))
    obtain ⟨fv6, hv6, fbs6, hT6⟩ := hM6.each t q (TR.out.tp (j + 1) (by omega))
    have hl6 := hT6.flen
    have DP6 := Lib.hid (fun (w : World) (h : Has σ M6 w) => thrDeep_eq h hT6)
    rw [hl6] at DP6
    have HM6 := Lib.hid hM6
    have HB6 := Lib.hid hB6
    clear SP hT6 hl6 hM6 hB6
    by_cases e : j + 1 = k
    · have hle : ((St (j + 1)).thr t).frames.length ≤ n := by rw [e]; exact TR.out.done
      have hle2 : decide ((((St (j + 1)).thr t).frames.length : Int) ≤ (n : Int)) = true := decide_eq_true (by omega)
      have HE := Lib.hid e
      clear e
      generalize ((St (j + 1)).thr t).frames.length = n6 at *
      go_wp2_with (first
        | (go_at_call 15; refine (DP6.out _ h).mono ?_; clear h; rintro _ w ⟨rfl, h⟩))
      go_ret
      exact ⟨by rw [← HE.out]; exact congrArg (fun z => Ending.returned (Value.int .i64 z)) (by omega), M6, lab6, h, by rw [← HE.out]; exact HM6.out, HB6.out⟩
    · have hgt : n < ((St (j + 1)).thr t).frames.length := TR.out.deep (j + 1) (by omega) (by omega)
      have hgt2 : decide ((((St (j + 1)).thr t).frames.length : Int) ≤ (n : Int)) = false := decide_eq_false (by omega)
      have hgt3 : ¬ ((St (j + 1)).thr t).frames.length ≤ n := by omega
      clear hgt
      generalize ((St (j + 1)).thr t).frames.length = n6 at *
      go_wp2_with (first
        | (go_at_call 15; refine (DP6.out _ h).mono ?_; clear h; rintro _ w ⟨rfl, h⟩))
      go_roundw
      case rel => exact ⟨j + 1, by omega, by go_num, M6, lab6, h, HM6.out, HB6.out⟩
      case measure => simp [intOf]; omega
end Go.Proofs.Ytefjjagejgeedaa
