/- Layer 23 (epoch): a step of Pin, Unpin, Advance, on numbers; a routine alone. -/
import Derived.Test.YtjeeldacnllipaaTakeD
import Derived.Test.YtjeeldacnllipaaMachD
import Derived.Test.YtjeeldacnllipaaEcgA
import Derived.Test.YtjeeldacnllipaaEcgB
namespace Go.Proofs.Ytjeeldacnllipaa
section
open Go.RowKit
set_option linter.unusedVariables false
set_option linter.unusedSimpArgs false
set_option linter.unnecessarySimpa false
def MachS.begun (s : MachS) (t : Nat) (fn : Int) (us : List Int) : MachS := { s with thr := fun j => if j = t then (s.thr t).call fn us else s.thr j }
/-- From state to state, step by step: what Alone tells, and where the machine is. -/
structure Trail (σ : World) (K : Mm) (p t q : Nat) (dv : Value) (n : Nat) (St : Nat → MachS) (k : Nat) : Prop where
  step : ∀ i, i < k → ∀ (M : Mm) (lab : Nat → Nat) (w : World), Has σ M w → Mach M lab p (St i) → Base K M lab → Calls Try.prog 21 #[.pointer (some ⟨p, 0, none⟩), .int .i64 (t : Nat), dv] w fun r w' => ∃ M' lab' b, r = .returned (.bool b) ∧ Has σ M' w' ∧ Mach M' lab' p (St (i + 1)) ∧ Base K M' lab'
  tp : ∀ i, i ≤ k → (St i).tp[t]? = some q
  deep : ∀ i, 0 < i → i < k → n < ((St i).thr t).frames.length
  done : ((St k).thr t).frames.length ≤ n
set_option maxHeartbeats 4000000 in
set_option maxRecDepth 20000 in
theorem alone_eq {σ w : World} {K M : Mm} {lab : Nat → Nat} {p t q : Nat} {s : MachS} (h : Has σ M w) (hM : Mach M lab p s) (hB : Base K M lab) (hq : s.tp[t]? = some q) {dv rv : Value} {us : List Int} (hr : Rd M 1 rv us.length (u64s us)) (hu : us.length ≤ 16) (hfr : (s.thr t).frames.length < 1000000) (fn : Int) {St : Nat → MachS} {k most : Nat} (h0 : St 0 = s.begun t fn us) (hk : 0 < k) (hkm : k ≤ most) (hmost : most < 1000000) (hT : Trail σ K p t q dv (s.thr t).frames.length St k) :
    Calls Try.prog 13 #[.pointer (some ⟨p, 0, none⟩), .int .i64 (t : Nat), dv, .int .i64 (most : Nat), .int .i64 fn, rv] w fun r w' => r = .returned (.int .i64 (k : Nat)) ∧ ∃ M' lab', Has σ M' w' ∧ Mach M' lab' p (St k) ∧ Base K M' lab' := by
  have TH := Lib.hid (fun (w : World) (h : Has σ M w) => mThread_yes h hM hq)
  obtain ⟨fv, hv, fbs, hTh⟩ := hM.each t q hq
  have hl := hTh.flen
  have DP := Lib.hid (fun (w : World) (h : Has σ M w) => thrDeep_eq h hTh)
  rw [hl] at DP
  have CA := Lib.hid (fun (w : World) (h : Has σ M w) => thrCall_eq h hTh fn (rv := rv) (us := us) hr hu (by omega))
  have HM := Lib.hid hM
  have HB := Lib.hid hB
  have HQ := Lib.hid hq
  have H0 := Lib.hid h0
  have TR := Lib.hid hT
  clear hM hB hq hTh h0 hT hr hu hl
  generalize hn : (s.thr t).frames.length = n at *
  clear hn
  go_enter Try.func13, Try.ntmps13
  go_upto_region 6 with (first
    | (go_at_call 15; refine (TH.out _ h).mono ?_; clear h; rintro _ w ⟨rfl, h⟩)
    | (go_at_call 18; refine (DP.out _ h).mono ?_; clear h; rintro _ w ⟨rfl, h⟩)
    | (go_at_call 19; refine (CA.out _ h).mono ?_; clear h; rintro _ w ⟨rfl, M3, lab3, h, hK3, hT3⟩))
  obtain ⟨hM3, hB3⟩ := HM.out.thrTo HB.out HQ.out hK3 hT3
  have hM4 : Mach M3 lab3 p (St 0) := by rw [H0.out]; exact hM3
  have HM4 := Lib.hid hM4
  have HB4 := Lib.hid hB3
  clear hM3 hB3 hM4 hK3 hT3 TH DP CA HM HB HQ H0
  go_upto_region 7 with (fail)
  go_loopw [15] (fun u wr => ∃ j : Nat, j < k ∧ u = .int .i64 (j : Nat) ∧ ∃ M5 lab5, Has σ M5 wr ∧ Mach M5 lab5 p (St j) ∧ Base K M5 lab5) (fun u _ => most - (intOf u).toNat)
  case atStart => exact ⟨0, hk, rfl, M3, lab3, h, HM4.out, HB4.out⟩
  case round =>
    clear h w HM4 HB4 M3 lab3
    obtain ⟨w, rfl⟩ : ∃ x : World, x = wr := ⟨_, rfl⟩
    obtain ⟨j, hj, rfl, M5, lab5, h, hM5, hB5⟩ := hrel
    have hjm : (j : Int) < (most : Int) := by omega
    have SP := Lib.hid (fun (w : World) (h : Has σ M5 w) => TR.out.step j hj M5 lab5 w h hM5 hB5)
    clear hM5 hB5
    go_upto_region 10 with (first
      | (go_at_call 21; refine (SP.out _ h).mono ?_; clear h; rintro _ w ⟨M6, lab6, b6, rfl, h, hM6, hB6⟩))
    obtain ⟨fv6, hv6, fbs6, hT6⟩ := hM6.each t q (TR.out.tp (j + 1) (by omega))
    have hl6 := hT6.flen
    have DP6 := Lib.hid (fun (w : World) (h : Has σ M6 w) => thrDeep_eq h hT6)
    rw [hl6] at DP6
    have HM6 := Lib.hid hM6
    have HB6 := Lib.hid hB6
    clear SP hT6 hl6 hM6 hB6
    by_cases e : j + 1 = k
    · have hle : ((St (j + 1)).thr t).frames.length ≤ n := by rw [e]; exact TR.out.done
      have hle2 : decide ((((St (j + 1)).thr t).frames.length : Int) ≤ (n : Int)) = true := decide_eq_true (by omega)
      have HE := Lib.hid e
      clear e
      generalize ((St (j + 1)).thr t).frames.length = n6 at *
      go_wp2_with (first
        | (go_at_call 18; refine (DP6.out _ h).mono ?_; clear h; rintro _ w ⟨rfl, h⟩))
      go_ret
      exact ⟨by rw [← HE.out]; exact congrArg (fun z => Ending.returned (Value.int .i64 z)) (by omega), M6, lab6, h, by rw [← HE.out]; exact HM6.out, HB6.out⟩
    · have hgt : n < ((St (j + 1)).thr t).frames.length := TR.out.deep (j + 1) (by omega) (by omega)
      have hgt2 : decide ((((St (j + 1)).thr t).frames.length : Int) ≤ (n : Int)) = false := decide_eq_false (by omega)
      have hgt3 : ¬ ((St (j + 1)).thr t).frames.length ≤ n := by omega
      clear hgt
      generalize ((St (j + 1)).thr t).frames.length = n6 at *
      go_wp2_with (first
        | (go_at_call 18; refine (DP6.out _ h).mono ?_; clear h; rintro _ w ⟨rfl, h⟩))
      go_roundw
      case rel => exact ⟨j + 1, by omega, by go_num, M6, lab6, h, HM6.out, HB6.out⟩
      case measure => simp [intOf]; omega
end
section
open Go.RowKit
set_option linter.unusedVariables false
set_option linter.unusedSimpArgs false
set_option linter.unnecessarySimpa false
/-- The machine behind a step that brought it to s2. -/
def MachS.after (s2 s : MachS) (lv : Nat) : MachS := MachS.watch { s2 with steps := s2.steps + 1 } lv s.mem.acc s.mem.wr
theorem after_same (s2 s : MachS) (lv : Nat) : (s2.after s lv).c = s2.c ∧ (s2.after s lv).tp = s2.tp ∧ (s2.after s lv).mem = s2.mem ∧ (s2.after s lv).ward = s2.ward ∧ (s2.after s lv).thr = s2.thr ∧ (s2.after s lv).clk = s2.clk ∧ (s2.after s lv).steps = s2.steps + 1 ∧ (s2.after s lv).given = s2.given := by
  unfold MachS.after MachS.watch
  repeat' split
  all_goals exact ⟨rfl, rfl, rfl, rfl, rfl, rfl, rfl, rfl⟩
theorem step_take {σ w : World} {K M : Mm} {lab : Nat → Nat} {p t q lv : Nat} {s : MachS} {fs : List FrameS} {f : FrameS} (h : Has σ M w) (hM : Mach M lab p s) (hB : Base K M lab) (hq : s.tp[t]? = some q) (hf : (s.thr t).frames = fs ++ [f]) (hfn : f.fn = 1) (hrun : ((s.thr t).st || (s.thr t).ki) = false) (hlv : levelOf s.c t = (lv : Nat))
    (hb1 : s.mem.acc < 1000000000) (hb2 : s.steps < 1000000) (hb3 : ∀ k, s.clk k < 1000000000) (hfs : fs.length < 1000000) {s2 : MachS} (e1 : s2.tp = s.tp) (e2 : s2.steps = s.steps) (e3 : (s2.thr t).frames.length ≤ fs.length + 1)
    (hstep : ∀ (b : Nat) (K1 M1 : Mm) (lab1 : Nat → Nat) (w1 : World), Has σ M1 w1 → AtTop K1 M1 lab1 p (s.tick lv) t q b fs f → Calls Try.prog 68 #[.agg (runC p t q b)] w1 fun r w' => r = .returned (.tuple #[]) ∧ ∃ M' lab', Has σ M' w' ∧ Mach M' lab' p s2 ∧ Base K1 M' lab') :
    Calls Try.prog 21 #[.pointer (some ⟨p, 0, none⟩), .int .i64 (t : Nat), .func (.func 38) #[] #[]] w fun r w' => ∃ M' lab' b, r = .returned (.bool b) ∧ Has σ M' w' ∧ Mach M' lab' p (s2.after s lv) ∧ Base K M' lab' := by
  have STP := step_eq (R := fun x => x = s2) (F := 38) (caps := #[]) h hM hB hq (by rw [hf]; simp) hrun hlv hb1 (by omega) hb3 (by rw [hf]; simp; omega) (by kernel_rfl)
    (fun M1 lab1 w1 h1 hM1 hB1 => by
      obtain ⟨b, hT⟩ := AtTop.of (f := f) (fs := fs) hM1 hB1 hq hf
      refine (do_take h1 hT hfn hfs (s' := s2) (fun K1 M2 lab2 w2 h2 hT2 => hstep b K1 M2 lab2 w2 h2 hT2)).mono fun r w' ⟨e, M', lab', h', hB', hM'⟩ => ⟨e, M', lab', s2, h', hB', hM', rfl⟩)
    (fun x hx => by subst hx; exact ⟨e1, by rw [e2]; omega, by omega⟩)
  refine STP.mono fun r w' hr => ?_
  obtain ⟨M', lab', x, rfl, hr, h', hB', hM'⟩ := hr
  exact ⟨M', lab', _, hr, h', hM', hB'⟩
end
section
section
open Go.RowKit
set_option linter.unusedVariables false
set_option linter.unusedSimpArgs false
set_option linter.unnecessarySimpa false
/-- n steps behind s, thread t alone having stepped: it is within frame f. -/
structure At (s S : MachS) (t n : Nat) (fs : List FrameS) (f : FrameS) : Prop where
  c : S.c = s.c
  tp : S.tp = s.tp
  acc : S.mem.acc = s.mem.acc + n
  wr : S.mem.wr ≤ s.mem.wr + 1
  N : S.mem.N = s.mem.N
  steps : S.steps = s.steps + n
  clk : ∀ k, S.clk k ≤ s.clk k + n
  th : S.thr t = { s.thr t with frames := fs ++ [f] }
  oth : ∀ j, j ≠ t → S.thr j = s.thr j
theorem At.st {s S : MachS} {t n : Nat} {fs : List FrameS} {f : FrameS} (h : At s S t n fs f) : (S.thr t).st = (s.thr t).st := by rw [h.th]
theorem At.ki {s S : MachS} {t n : Nat} {fs : List FrameS} {f : FrameS} (h : At s S t n fs f) : (S.thr t).ki = (s.thr t).ki := by rw [h.th]
theorem At.fr {s S : MachS} {t n : Nat} {fs : List FrameS} {f : FrameS} (h : At s S t n fs f) : (S.thr t).frames = fs ++ [f] := by rw [h.th]
def takeF (us : List Int) : FrameS := ⟨1, 0, fun i => us.getD i 0⟩
theorem At.first (s : MachS) (t : Nat) (us : List Int) : At s (s.begun t 1 us) t 0 (s.thr t).frames (takeF us) := by
  have e : (s.begun t 1 us).thr t = (s.thr t).call 1 us := if_pos rfl
  refine ⟨rfl, rfl, rfl, Nat.le_succ _, rfl, rfl, fun k => Nat.le_refl _, by rw [e]; rfl, fun j hj => if_neg hj⟩
theorem At.next {s S : MachS} {t n lv : Nat} {fs : List FrameS} {f f' : FrameS} (h : At s S t n fs f) {m : MemS} {wd : WardS} (h1 : m.acc = S.mem.acc + 1) (h2 : m.wr ≤ s.mem.wr + 1) (h3 : m.N = S.mem.N) : At s ((MachS.top { S.tick lv with mem := m, ward := wd } t fs f').after S lv) t (n + 1) fs f' := by
  obtain ⟨a1, a2, a3, a4, a5, a6, a7, a8⟩ := after_same (MachS.top { S.tick lv with mem := m, ward := wd } t fs f') S lv
  have e : (MachS.top { S.tick lv with mem := m, ward := wd } t fs f').thr t = { S.thr t with frames := fs ++ [f'] } := if_pos rfl
  refine ⟨a1.trans h.c, a2.trans h.tp, ?_, ?_, ?_, ?_, fun k => ?_, ?_, fun j hj => ?_⟩
  · rw [a3]; show m.acc = _; rw [h1, h.acc]; omega
  · rw [a3]; exact h2
  · rw [a3]; exact h3.trans h.N
  · rw [a7]; show S.steps + 1 = _; rw [h.steps]; omega
  · rw [a6]
    show (if lv ≤ k ∧ k < 4 then S.clk k + 1 else S.clk k) ≤ _
    have := h.clk k
    split <;> omega
  · rw [a5, e, h.th]
  · rw [a5]; exact (if_neg hj).trans (h.oth j hj)
theorem atK_hit {c : Nat → Int} (hc : ConfMay c) {m : MemS} (hN : (m.N : Int) = c 0 * firsts c 10) {lv : Nat} (hl : (lv : Int) < c 0) {k : Nat} {i j : Int} (hk : InK c k i j) : m.hit (atK c lv k i j) = true := by
  have hs := firsts_succ c (k := k) hk.kind
  have hnn := numK_nn hk
  have hhi := hk.high
  have hf0 := (firsts_bd hc k).1
  have hkk := hk.kind
  have hle : firsts c (k + 1) ≤ firsts c 10 := by
    obtain ⟨_, _, _, _, ⟨g2, g3⟩, ⟨g4, g5⟩, _⟩ := hc
    unfold firsts
    rcases k with _ | _ | _ | _ | _ | _ | _ | _ | _ | _ | k <;> simp <;> omega
  obtain ⟨L, B, S, hn⟩ := Nums.of hc
  rw [hn.sz] at hle hN
  obtain ⟨T, hT⟩ : ∃ T : Nat, 18 + B + 6 * S = T := ⟨_, rfl⟩
  rw [hT] at hle hN
  rw [hn.lev] at hN hl
  unfold MemS.hit atK
  rw [hn.sz, hT, Bool.and_eq_true, decide_eq_true_eq, decide_eq_true_eq]
  have h1 : 0 ≤ (lv : Int) * (T : Int) := Int.mul_nonneg (by omega) (by omega)
  have h2 : ((lv + 1 : Nat) : Int) * (T : Int) ≤ (L : Int) * (T : Int) := Int.mul_le_mul_of_nonneg_right (by omega) (by omega)
  have h3 : ((lv + 1 : Nat) : Int) * (T : Int) = (lv : Int) * (T : Int) + T := by rw [Int.natCast_add, Int.add_mul]; simp
  exact ⟨by omega, by rw [hN]; omega⟩
theorem load_hit {m : MemS} {a : Int} (h : m.hit a = true) : m.load a = m.f a.toNat := by unfold MemS.load; rw [h]; rfl
theorem at_hit {m : MemS} {a : Int} (h : m.hit a = true) : m.at_ a = { m with acc := m.acc + 1, last := a, named := true } := by unfold MemS.at_; rw [h]; rfl
theorem store_hit {m : MemS} {a v : Int} (h : m.hit a = true) : m.store a v = { m with acc := m.acc + 1, last := a, named := true, f := upd m.f a.toNat v, wr := m.wr + 1 } := by unfold MemS.store; rw [h, if_pos rfl, at_hit h]
theorem inK_link {c : Nat → Int} {i : Nat} (h1 : 1 ≤ i) (h2 : (i : Int) ≤ c 10) : InK c 8 (i : Nat) 0 := ⟨by omega, by unfold baseK; simp; omega, by omega, by omega, fun _ => rfl, by unfold numK many baseK; simp; omega⟩
theorem inK_head {c : Nat → Int} {i : Nat} (h1 : 1 ≤ i) (h2 : (i : Int) ≤ c 10) : InK c 9 (i : Nat) 0 := ⟨by omega, by unfold baseK; simp; omega, by omega, by omega, fun h => absurd rfl h, by unfold numK many; simp; omega⟩
end
section
open Go.RowKit
set_option linter.unusedVariables false
set_option linter.unusedSimpArgs false
set_option linter.unnecessarySimpa false
/-- What Take needs of a machine. -/
structure CanTake (s : MachS) (t q lv : Nat) : Prop where
  may : ConfMay s.c
  memN : (s.mem.N : Int) = s.c 0 * firsts s.c 10
  tp : s.tp[t]? = some q
  lvl : levelOf s.c t = (lv : Nat)
  lvc : (lv : Int) < s.c 0
  run : ((s.thr t).st || (s.thr t).ki) = false
  acc : s.mem.acc < 100000000
  wr : s.mem.wr < 100000000
  steps : s.steps < 100000
  clk : ∀ k, s.clk k < 100000000
  fr : (s.thr t).frames.length < 100000
def St5 (S0 S1 S2 S3 S4 : MachS) : Nat → MachS
  | 0 => S0
  | 1 => S1
  | 2 => S2
  | 3 => S3
  | _ => S4
/-- What is behind a Take that told a slot. -/
structure Took (s S : MachS) (t lv : Nat) (sl gen : Nat) (a : Nat) (v : Int) : Prop where
  c : S.c = s.c
  tp : S.tp = s.tp
  f : S.mem.f = upd s.mem.f a v
  N : S.mem.N = s.mem.N
  acc : S.mem.acc = s.mem.acc + 4
  wr : S.mem.wr ≤ s.mem.wr + 1
  steps : S.steps = s.steps + 4
  clk : ∀ k, S.clk k ≤ s.clk k + 4
  ward : S.ward = s.ward.take lv (sl : Nat)
  thr : S.thr t = { s.thr t with told := fun i => ([(sl : Int), (gen : Int)] : List Int).getD i 0 }
  oth : ∀ j, j ≠ t → S.thr j = s.thr j
set_option maxHeartbeats 4000000 in
theorem took_trail {σ : World} (K : Mm) (p : Nat) {s : MachS} {t q lv : Nat} (hs : CanTake s t q lv) {X Y Z sl : Nat} (hX : s.mem.f (atK s.c lv 0 0 0).toNat = (X : Int)) (hX64 : X < 18446744073709551616) (hsl : cutN X 0 8 = sl) (hp1 : 1 ≤ sl) (h10 : (sl : Int) ≤ s.c 10) (hY : s.mem.f (atK s.c lv 8 (sl : Nat) 0).toNat = (Y : Int)) (hY63 : Y < 9223372036854775808) (hZ : s.mem.f (atK s.c lv 9 (sl : Nat) 0).toNat = (Z : Int)) (hZ64 : Z < 18446744073709551616) (hth : s.ward.there lv (sl : Nat) = true) (hv0 : valE lv (sl : Nat) s.ward.held = 0) :
    ∃ St : Nat → MachS, St 0 = s.begun t 1 [] ∧ Trail σ K p t q (.func (.func 38) #[] #[]) (s.thr t).frames.length St 4 ∧ Took s (St 4) t lv sl (cutN Z 2 32) (atK s.c lv 0 0 0).toNat (mkTop Y (cutN X 8 56 + 1) : Nat) := by
  have hA0 := atK_hit hs.may hs.memN hs.lvc (inK_free s.c)
  have hA1 := atK_hit hs.may hs.memN hs.lvc (inK_link (c := s.c) hp1 h10)
  have hA3 := atK_hit hs.may hs.memN hs.lvc (inK_head (c := s.c) hp1 h10)
  have hne : (atK s.c lv 9 (sl : Nat) 0).toNat ≠ (atK s.c lv 0 0 0).toNat := by
    have g0 := MemS.hit_iff.1 hA0
    have g3 := MemS.hit_iff.1 hA3
    have e0 : atK s.c lv 0 0 0 = (lv : Int) * firsts s.c 10 + firsts s.c 0 + numK 0 0 0 := rfl
    have e3 : atK s.c lv 9 (sl : Nat) 0 = (lv : Int) * firsts s.c 10 + firsts s.c 9 + numK 9 (sl : Nat) 0 := rfl
    have hn0 : numK 0 0 0 = 0 := by unfold numK baseK; simp
    have hn9 : numK 9 (sl : Nat) 0 = ((sl : Int) - 1) * 5 := by unfold numK; simp
    have hf0 : firsts s.c 0 = 0 := rfl
    have hf9 : firsts s.c 9 = 18 + s.c 11 + s.c 10 := rfl
    have hb := hs.may.2.2.2.2.2.1.1
    have hS := hs.may.2.2.2.2.1.1
    rw [hn0, hf0] at e0
    rw [hn9, hf9] at e3
    omega
  generalize hA0d : atK s.c lv 0 0 0 = A0 at *
  generalize hA1d : atK s.c lv 8 (sl : Nat) 0 = A1 at *
  generalize hA3d : atK s.c lv 9 (sl : Nat) 0 = A3 at *
  obtain ⟨nv, hnv⟩ : ∃ nv, mkTop Y (cutN X 8 56 + 1) = nv := ⟨_, rfl⟩
  rw [hnv]
  -- the states
  obtain ⟨m1, hm1⟩ : ∃ m1, m1 = s.mem.at_ A0 := ⟨_, rfl⟩
  have em1 := at_hit hA0
  rw [← hm1] at em1
  have hA1' : m1.hit A1 = true := by rw [em1]; exact hA1
  obtain ⟨m2, hm2⟩ : ∃ m2, m2 = m1.at_ A1 := ⟨_, rfl⟩
  have em2 := at_hit hA1'
  rw [← hm2] at em2
  have hA0' : m2.hit A0 = true := by rw [em2, em1]; exact hA0
  have hsw : m2.swaps A0 X = true := by
    unfold MemS.swaps
    rw [hA0', em2, em1]
    show (true && (s.mem.f A0.toNat == (X : Int))) = true
    rw [hX]; simp
  obtain ⟨m3, hm3⟩ : ∃ m3, m3 = m2.cas A0 X nv := ⟨_, rfl⟩
  have em3 : m3 = { m2 with acc := m2.acc + 1, last := A0, named := true, f := upd m2.f A0.toNat nv, wr := m2.wr + 1 } := by
    rw [hm3]; unfold MemS.cas; rw [hsw, if_pos rfl, store_hit hA0']
  have hA3' : m3.hit A3 = true := by rw [em3, em2, em1]; exact hA3
  obtain ⟨m4, hm4⟩ : ∃ m4, m4 = m3.at_ A3 := ⟨_, rfl⟩
  have em4 := at_hit hA3'
  rw [← hm4] at em4
  have l0 : s.mem.load A0 = (X : Int) := (load_hit hA0).trans hX
  have l1 : m1.load A1 = (Y : Int) := by rw [load_hit hA1', em1]; exact hY
  have l3 : m3.load A3 = (Z : Int) := by
    rw [load_hit hA3', em3]
    show upd m2.f A0.toNat nv A3.toNat = _
    unfold upd
    rw [if_neg hne, em2, em1]
    exact hZ
  have a1 : m1.acc = s.mem.acc + 1 := by rw [em1]
  have a2 : m2.acc = m1.acc + 1 := by rw [em2]
  have a3 : m3.acc = m2.acc + 1 := by rw [em3]
  have a4 : m4.acc = m3.acc + 1 := by rw [em4]
  have w1 : m1.wr = s.mem.wr := by rw [em1]
  have w2 : m2.wr = s.mem.wr := by rw [em2]; exact w1
  have w3 : m3.wr = s.mem.wr + 1 := by rw [em3]; show m2.wr + 1 = _; rw [w2]
  have w4 : m4.wr = s.mem.wr + 1 := by rw [em4]; exact w3
  have n1 : m1.N = s.mem.N := by rw [em1]
  have n2 : m2.N = m1.N := by rw [em2]
  have n3 : m3.N = m2.N := by rw [em3]
  have n4 : m4.N = m3.N := by rw [em4]
  have f4 : m4.f = upd s.mem.f A0.toNat nv := by rw [em4, em3]; show upd m2.f _ _ = _; rw [em2, em1]
  clear em1 em2 em3 em4
  obtain ⟨S0, hS0⟩ : ∃ S0, S0 = s.begun t 1 [] := ⟨_, rfl⟩
  have H0 : At s S0 t 0 (s.thr t).frames (takeF []) := by rw [hS0]; exact At.first s t []
  have q0 : S0.mem = s.mem := by rw [hS0]; rfl
  have d0 : S0.ward = s.ward := by rw [hS0]; rfl
  generalize hfs : (s.thr t).frames = fs at *
  have hfl : fs.length < 100000 := by rw [← hfs]; exact hs.fr
  obtain ⟨S1, hS1⟩ : ∃ S1, S1 = (MachS.top { S0.tick lv with mem := m1, ward := S0.ward } t fs (((takeF []).reg 1 X).goto 1)).after S0 lv := ⟨_, rfl⟩
  have H1 : At s S1 t 1 fs (((takeF []).reg 1 X).goto 1) := by rw [hS1]; exact H0.next (by rw [a1, q0]) (by rw [w1]; omega) (by rw [n1, q0])
  have q1 : S1.mem = m1 ∧ S1.ward = s.ward := by rw [hS1]; exact ⟨(after_same _ _ _).2.2.1, (after_same _ _ _).2.2.2.1.trans d0⟩
  obtain ⟨S2, hS2⟩ : ∃ S2, S2 = (MachS.top { S1.tick lv with mem := m2, ward := S1.ward } t fs (((((takeF []).reg 1 X).goto 1).reg 2 Y).goto 2)).after S1 lv := ⟨_, rfl⟩
  have H2 : At s S2 t 2 fs (((((takeF []).reg 1 X).goto 1).reg 2 Y).goto 2) := by rw [hS2]; exact H1.next (by rw [a2, q1.1]) (by rw [w2]; omega) (by rw [n2, q1.1])
  have q2 : S2.mem = m2 ∧ S2.ward = s.ward := by rw [hS2]; exact ⟨(after_same _ _ _).2.2.1, (after_same _ _ _).2.2.2.1.trans q1.2⟩
  obtain ⟨S3, hS3⟩ : ∃ S3, S3 = (MachS.top { S2.tick lv with mem := m3, ward := S2.ward.take lv (sl : Nat) } t fs ((((((takeF []).reg 1 X).goto 1).reg 2 Y).goto 2).goto 3)).after S2 lv := ⟨_, rfl⟩
  have H3 : At s S3 t 3 fs ((((((takeF []).reg 1 X).goto 1).reg 2 Y).goto 2).goto 3) := by rw [hS3]; exact H2.next (by rw [a3, q2.1]) (by rw [w3]; omega) (by rw [n3, q2.1])
  have q3 : S3.mem = m3 ∧ S3.ward = s.ward.take lv (sl : Nat) := by rw [hS3]; exact ⟨(after_same _ _ _).2.2.1, (after_same _ _ _).2.2.2.1.trans (by show S2.ward.take _ _ = _; rw [q2.2])⟩
  obtain ⟨S4, hS4⟩ : ∃ S4, S4 = (MachS.backed { S3.tick lv with mem := m4 } t [(sl : Nat), (cutN Z 2 32 : Nat)]).after S3 lv := ⟨_, rfl⟩
  have q4 := after_same (MachS.backed { S3.tick lv with mem := m4 } t [(sl : Nat), (cutN Z 2 32 : Nat)]) S3 lv
  rw [← hS4] at q4
  have t4 : S4.thr t = (S3.thr t).back [(sl : Nat), (cutN Z 2 32 : Nat)] := by rw [q4.2.2.2.2.1]; exact if_pos rfl
  refine ⟨St5 S0 S1 S2 S3 S4, hS0, ⟨?_, ?_, ?_, ?_⟩, ?_⟩
  · intro i hi M lab w h hM hB
    rcases i with _ | _ | _ | _ | i
    · have ec : (S0.tick lv).c = s.c := H0.c
      have em : (S0.tick lv).mem = s.mem := q0
      show Calls _ _ _ _ fun r w' => ∃ M' lab' b, r = .returned (.bool b) ∧ Has σ M' w' ∧ Mach M' lab' p S1 ∧ Base K M' lab'
      rw [hS1]
      replace hM : Mach M lab p S0 := hM
      refine step_take h hM hB (q := q) (by rw [H0.tp]; exact hs.tp) H0.fr rfl (by rw [H0.st, H0.ki]; exact hs.run) (by rw [H0.c]; exact hs.lvl) (by rw [H0.acc]; have := hs.acc; omega) (by rw [H0.steps]; have := hs.steps; omega) (fun k => by have := H0.clk k; have := hs.clk k; omega) (by omega) rfl rfl ?_ ?_
      · show (if t = t then _ else _ : ThrS).frames.length ≤ _
        rw [if_pos rfl]; simp
      · intro b K1 M1 lab1 w1 h1 hT
        have SPx := spotAt_of (σ := σ) hT.mach (lv := lv) (by rw [ec]; exact hs.lvl) (by rw [ec]; exact hs.lvc) (inK_free _)
        rw [ec, hA0d] at SPx
        have tk := take_0 h1 hT rfl (x := 0) rfl (by omega) SPx (by rw [em]; have := hs.acc; omega)
        rw [em, l0, ← hm1] at tk
        exact tk.mono fun r w' ⟨e, M', lab', h', hT'⟩ => ⟨e, M', lab', h', hT'.mach, hT'.base⟩
    · have ec : (S1.tick lv).c = s.c := H1.c
      have em : (S1.tick lv).mem = m1 := q1.1
      show Calls _ _ _ _ fun r w' => ∃ M' lab' b, r = .returned (.bool b) ∧ Has σ M' w' ∧ Mach M' lab' p S2 ∧ Base K M' lab'
      rw [hS2]
      replace hM : Mach M lab p S1 := hM
      refine step_take h hM hB (q := q) (by rw [H1.tp]; exact hs.tp) H1.fr rfl (by rw [H1.st, H1.ki]; exact hs.run) (by rw [H1.c]; exact hs.lvl) (by rw [H1.acc]; have := hs.acc; omega) (by rw [H1.steps]; have := hs.steps; omega) (fun k => by have := H1.clk k; have := hs.clk k; omega) (by omega) rfl rfl ?_ ?_
      · show (if t = t then _ else _ : ThrS).frames.length ≤ _
        rw [if_pos rfl]; simp
      · intro b K1 M1 lab1 w1 h1 hT
        have SPx := spotAt_of (σ := σ) hT.mach (lv := lv) (by rw [ec]; exact hs.lvl) (by rw [ec]; exact hs.lvc) (inK_link (i := sl) hp1 (by rw [ec]; exact h10))
        rw [ec, hA1d, ← hsl] at SPx
        have tk := take_1 h1 hT rfl (x := X) rfl hX64 (by rw [hsl]; omega) SPx (by rw [em, a1]; have := hs.acc; omega)
        rw [em, l1, ← hm2] at tk
        exact tk.mono fun r w' ⟨e, M', lab', h', hT'⟩ => ⟨e, M', lab', h', hT'.mach, hT'.base⟩
    · have ec : (S2.tick lv).c = s.c := H2.c
      have em : (S2.tick lv).mem = m2 := q2.1
      have ew : (S2.tick lv).ward = s.ward := q2.2
      show Calls _ _ _ _ fun r w' => ∃ M' lab' b, r = .returned (.bool b) ∧ Has σ M' w' ∧ Mach M' lab' p S3 ∧ Base K M' lab'
      rw [hS3]
      replace hM : Mach M lab p S2 := hM
      refine step_take h hM hB (q := q) (by rw [H2.tp]; exact hs.tp) H2.fr rfl (by rw [H2.st, H2.ki]; exact hs.run) (by rw [H2.c]; exact hs.lvl) (by rw [H2.acc]; have := hs.acc; omega) (by rw [H2.steps]; have := hs.steps; omega) (fun k => by have := H2.clk k; have := hs.clk k; omega) (by omega) rfl rfl ?_ ?_
      · show (if t = t then _ else _ : ThrS).frames.length ≤ _
        rw [if_pos rfl]; simp
      · intro b K1 M1 lab1 w1 h1 hT
        have tk := take_2yes (lv := lv) h1 hT rfl (x := X) (y := Y) rfl hX64 rfl hY63 (by rw [ec]; exact hs.lvl) (by rw [ec]; exact hs.lvc) (by rw [em, a2, a1]; have := hs.acc; omega) (by rw [em, w2]; have := hs.wr; omega) (by rw [em, ec, hA0d]; exact hsw) (by rw [ew, hsl]; exact hth) (by rw [ew, hsl]; exact hv0)
        rw [em, show atK (S2.tick lv).c lv 0 0 0 = A0 by rw [ec]; exact hA0d, hsl, hnv, ← hm3] at tk
        exact tk.mono fun r w' ⟨e, M', lab', h', hT'⟩ => ⟨e, M', lab', h', hT'.mach, hT'.base⟩
    · have ec : (S3.tick lv).c = s.c := H3.c
      have em : (S3.tick lv).mem = m3 := q3.1
      show Calls _ _ _ _ fun r w' => ∃ M' lab' b, r = .returned (.bool b) ∧ Has σ M' w' ∧ Mach M' lab' p S4 ∧ Base K M' lab'
      rw [hS4]
      replace hM : Mach M lab p S3 := hM
      refine step_take h hM hB (q := q) (by rw [H3.tp]; exact hs.tp) H3.fr rfl (by rw [H3.st, H3.ki]; exact hs.run) (by rw [H3.c]; exact hs.lvl) (by rw [H3.acc]; have := hs.acc; omega) (by rw [H3.steps]; have := hs.steps; omega) (fun k => by have := H3.clk k; have := hs.clk k; omega) (by omega) rfl rfl ?_ ?_
      · show (if t = t then _ else _ : ThrS).frames.length ≤ _
        rw [if_pos rfl]
        show ((S3.thr t).back _).frames.length ≤ _
        unfold ThrS.back
        rw [H3.fr]; simp
      · intro b K1 M1 lab1 w1 h1 hT
        have tk := take_3 (lv := lv) (z := Z) h1 hT rfl (x := X) rfl hX64 (by rw [ec]; exact hs.lvl) (by rw [ec]; exact hs.lvc) (by rw [ec, hsl]; exact inK_head hp1 h10) (by rw [em, ec, hsl, hA3d]; exact l3) hZ64 (by rw [em, a3, a2, a1]; have := hs.acc; omega) (by omega)
        rw [em, hsl, show atK (S3.tick lv).c lv 9 (sl : Nat) 0 = A3 by rw [ec]; exact hA3d, ← hm4] at tk
        exact tk
    · omega
  · intro i hi
    rcases i with _ | _ | _ | _ | _ | i
    · rw [show St5 S0 S1 S2 S3 S4 0 = S0 from rfl, H0.tp]; exact hs.tp
    · show S1.tp[t]? = _; rw [H1.tp]; exact hs.tp
    · show S2.tp[t]? = _; rw [H2.tp]; exact hs.tp
    · show S3.tp[t]? = _; rw [H3.tp]; exact hs.tp
    · show S4.tp[t]? = _; rw [q4.2.1]; show S3.tp[t]? = _; rw [H3.tp]; exact hs.tp
    · omega
  · intro i h0 hi
    rcases i with _ | _ | _ | _ | i
    · omega
    · show _ < (S1.thr t).frames.length; rw [H1.fr]; simp
    · show _ < (S2.thr t).frames.length; rw [H2.fr]; simp
    · show _ < (S3.thr t).frames.length; rw [H3.fr]; simp
    · omega
  · show (S4.thr t).frames.length ≤ _
    rw [t4]
    unfold ThrS.back
    rw [H3.fr]
    simp
  · refine ⟨q4.1.trans H3.c, q4.2.1.trans H3.tp, ?_, ?_, ?_, ?_, ?_, fun k => ?_, ?_, ?_, fun j hj => ?_⟩
    · show S4.mem.f = _; rw [q4.2.2.1]; exact f4
    · show S4.mem.N = _; rw [q4.2.2.1]; show m4.N = _; rw [n4, n3, n2, n1]
    · show S4.mem.acc = _; rw [q4.2.2.1]; show m4.acc = _; rw [a4, a3, a2, a1]
    · show S4.mem.wr ≤ _; rw [q4.2.2.1]; show m4.wr ≤ _; rw [w4]; exact Nat.le_refl _
    · show S4.steps = _; rw [q4.2.2.2.2.2.2.1]; show S3.steps + 1 = _; rw [H3.steps]
    · show S4.clk k ≤ _
      rw [q4.2.2.2.2.2.1]
      show (if lv ≤ k ∧ k < 4 then S3.clk k + 1 else S3.clk k) ≤ _
      have := H3.clk k
      split <;> omega
    · show S4.ward = _; rw [q4.2.2.2.1]; exact q3.2
    · show S4.thr t = _
      rw [t4]
      unfold ThrS.back
      rw [H3.th]
      simp [hfs]
    · show S4.thr j = _
      rw [q4.2.2.2.2.1]
      exact (if_neg hj).trans (H3.oth j hj)
end
section
open Go.RowKit
set_option linter.unusedVariables false
set_option linter.unusedSimpArgs false
set_option linter.unnecessarySimpa false
/-- What is behind a Take that told none. -/
structure Took0 (s S : MachS) (t : Nat) : Prop where
  c : S.c = s.c
  tp : S.tp = s.tp
  f : S.mem.f = s.mem.f
  N : S.mem.N = s.mem.N
  acc : S.mem.acc = s.mem.acc + 1
  wr : S.mem.wr = s.mem.wr
  steps : S.steps = s.steps + 2
  clk : ∀ k, S.clk k ≤ s.clk k + 2
  ward : S.ward = s.ward
  thr : S.thr t = { s.thr t with told := fun i => ([0, 0] : List Int).getD i 0 }
  oth : ∀ j, j ≠ t → S.thr j = s.thr j
def St3 (S0 S1 S2 : MachS) : Nat → MachS
  | 0 => S0
  | 1 => S1
  | _ => S2
set_option maxHeartbeats 4000000 in
theorem none_trail {σ : World} (K : Mm) (p : Nat) {s : MachS} {t q lv : Nat} (hs : CanTake s t q lv) {X : Nat} (hX : s.mem.f (atK s.c lv 0 0 0).toNat = (X : Int)) (hX64 : X < 18446744073709551616) (hsl : cutN X 0 8 = 0) :
    ∃ St : Nat → MachS, St 0 = s.begun t 1 [] ∧ Trail σ K p t q (.func (.func 38) #[] #[]) (s.thr t).frames.length St 2 ∧ Took0 s (St 2) t := by
  have hA0 := atK_hit hs.may hs.memN hs.lvc (inK_free s.c)
  generalize hA0d : atK s.c lv 0 0 0 = A0 at *
  obtain ⟨m1, hm1⟩ : ∃ m1, m1 = s.mem.at_ A0 := ⟨_, rfl⟩
  have em1 := at_hit hA0
  rw [← hm1] at em1
  have l0 : s.mem.load A0 = (X : Int) := (load_hit hA0).trans hX
  have a1 : m1.acc = s.mem.acc + 1 := by rw [em1]
  have w1 : m1.wr = s.mem.wr := by rw [em1]
  have n1 : m1.N = s.mem.N := by rw [em1]
  have f1 : m1.f = s.mem.f := by rw [em1]
  clear em1
  obtain ⟨S0, hS0⟩ : ∃ S0, S0 = s.begun t 1 [] := ⟨_, rfl⟩
  have H0 : At s S0 t 0 (s.thr t).frames (takeF []) := by rw [hS0]; exact At.first s t []
  have q0 : S0.mem = s.mem := by rw [hS0]; rfl
  have d0 : S0.ward = s.ward := by rw [hS0]; rfl
  generalize hfs : (s.thr t).frames = fs at *
  have hfl : fs.length < 100000 := by rw [← hfs]; exact hs.fr
  obtain ⟨S1, hS1⟩ : ∃ S1, S1 = (MachS.top { S0.tick lv with mem := m1, ward := S0.ward } t fs (((takeF []).reg 1 X).goto 1)).after S0 lv := ⟨_, rfl⟩
  have H1 : At s S1 t 1 fs (((takeF []).reg 1 X).goto 1) := by rw [hS1]; exact H0.next (by rw [a1, q0]) (by rw [w1]; omega) (by rw [n1, q0])
  have q1 : S1.mem = m1 ∧ S1.ward = s.ward := by rw [hS1]; exact ⟨(after_same _ _ _).2.2.1, (after_same _ _ _).2.2.2.1.trans d0⟩
  obtain ⟨S2, hS2⟩ : ∃ S2, S2 = (MachS.backed (S1.tick lv) t [0, 0]).after S1 lv := ⟨_, rfl⟩
  have q4 := after_same (MachS.backed (S1.tick lv) t [0, 0]) S1 lv
  rw [← hS2] at q4
  have t4 : S2.thr t = (S1.thr t).back [0, 0] := by rw [q4.2.2.2.2.1]; exact if_pos rfl
  refine ⟨St3 S0 S1 S2, hS0, ⟨?_, ?_, ?_, ?_⟩, ?_⟩
  · intro i hi M lab w h hM hB
    rcases i with _ | _ | i
    · have ec : (S0.tick lv).c = s.c := H0.c
      have em : (S0.tick lv).mem = s.mem := q0
      show Calls _ _ _ _ fun r w' => ∃ M' lab' b, r = .returned (.bool b) ∧ Has σ M' w' ∧ Mach M' lab' p S1 ∧ Base K M' lab'
      rw [hS1]
      replace hM : Mach M lab p S0 := hM
      refine step_take h hM hB (q := q) (by rw [H0.tp]; exact hs.tp) H0.fr rfl (by rw [H0.st, H0.ki]; exact hs.run) (by rw [H0.c]; exact hs.lvl) (by rw [H0.acc]; have := hs.acc; omega) (by rw [H0.steps]; have := hs.steps; omega) (fun k => by have := H0.clk k; have := hs.clk k; omega) (by omega) rfl rfl ?_ ?_
      · show (if t = t then _ else _ : ThrS).frames.length ≤ _
        rw [if_pos rfl]; simp
      · intro b K1 M1 lab1 w1 h1 hT
        have SPx := spotAt_of (σ := σ) hT.mach (lv := lv) (by rw [ec]; exact hs.lvl) (by rw [ec]; exact hs.lvc) (inK_free _)
        rw [ec, hA0d] at SPx
        have tk := take_0 h1 hT rfl (x := 0) rfl (by omega) SPx (by rw [em]; have := hs.acc; omega)
        rw [em, l0, ← hm1] at tk
        exact tk.mono fun r w' ⟨e, M', lab', h', hT'⟩ => ⟨e, M', lab', h', hT'.mach, hT'.base⟩
    · show Calls _ _ _ _ fun r w' => ∃ M' lab' b, r = .returned (.bool b) ∧ Has σ M' w' ∧ Mach M' lab' p S2 ∧ Base K M' lab'
      rw [hS2]
      replace hM : Mach M lab p S1 := hM
      refine step_take h hM hB (q := q) (by rw [H1.tp]; exact hs.tp) H1.fr rfl (by rw [H1.st, H1.ki]; exact hs.run) (by rw [H1.c]; exact hs.lvl) (by rw [H1.acc]; have := hs.acc; omega) (by rw [H1.steps]; have := hs.steps; omega) (fun k => by have := H1.clk k; have := hs.clk k; omega) (by omega) rfl rfl ?_ ?_
      · show (if t = t then _ else _ : ThrS).frames.length ≤ _
        rw [if_pos rfl]
        show ((S1.thr t).back _).frames.length ≤ _
        unfold ThrS.back
        rw [H1.fr]; simp
      · intro b K1 M1 lab1 w1 h1 hT
        exact take_1end h1 hT rfl (x := X) rfl hX64 hsl (by omega)
    · omega
  · intro i hi
    rcases i with _ | _ | _ | i
    · show S0.tp[t]? = _; rw [H0.tp]; exact hs.tp
    · show S1.tp[t]? = _; rw [H1.tp]; exact hs.tp
    · show S2.tp[t]? = _; rw [q4.2.1]; show S1.tp[t]? = _; rw [H1.tp]; exact hs.tp
    · omega
  · intro i h0 hi
    rcases i with _ | _ | i
    · omega
    · show _ < (S1.thr t).frames.length; rw [H1.fr]; simp
    · omega
  · show (S2.thr t).frames.length ≤ _
    rw [t4]
    unfold ThrS.back
    rw [H1.fr]
    simp
  · refine ⟨q4.1.trans H1.c, q4.2.1.trans H1.tp, ?_, ?_, ?_, ?_, ?_, fun k => ?_, ?_, ?_, fun j hj => ?_⟩
    · show S2.mem.f = _; rw [q4.2.2.1]; show S1.mem.f = _; rw [q1.1]; exact f1
    · show S2.mem.N = _; rw [q4.2.2.1]; show S1.mem.N = _; rw [q1.1]; exact n1
    · show S2.mem.acc = _; rw [q4.2.2.1]; show S1.mem.acc = _; rw [q1.1]; exact a1
    · show S2.mem.wr = _; rw [q4.2.2.1]; show S1.mem.wr = _; rw [q1.1]; exact w1
    · show S2.steps = _; rw [q4.2.2.2.2.2.2.1]; show S1.steps + 1 = _; rw [H1.steps]
    · show S2.clk k ≤ _
      rw [q4.2.2.2.2.2.1]
      show (if lv ≤ k ∧ k < 4 then S1.clk k + 1 else S1.clk k) ≤ _
      have := H1.clk k
      split <;> omega
    · show S2.ward = _; rw [q4.2.2.2.1]; exact q1.2
    · show S2.thr t = _
      rw [t4]
      unfold ThrS.back
      rw [H1.th]
      simp [hfs]
    · show S2.thr j = _
      rw [q4.2.2.2.2.1]
      exact (if_neg hj).trans (H1.oth j hj)
end
end
section
open Go.RowKit
set_option linter.unusedVariables false
set_option linter.unusedSimpArgs false
set_option linter.unnecessarySimpa false
def Dropped3 : Nat → Prop := fun k => k = 3 ∨ (k = 4 ∨ k = 6)
section
variable {σ w : World} {K M M' : Mm} {lab lab' : Nat → Nat} {p : Nat} {s : MachS}
theorem gone_kp (hM : Mach M lab p s) (l t : Int) : Kp Dropped3 M lab ((M.upd s.ward.hb (mapRow (s.ward.gone l t).held (s.ward.gone l t).hclk)).upd s.ward.gb (mapRow (s.ward.gone l t).gens (s.ward.gone l t).gclk)) lab := by
  have k1 : Kp (fun j => j = 3) M lab (M.upd s.ward.hb (mapRow (s.ward.gone l t).held (s.ward.gone l t).hclk)) lab := Kp.upd hM.wlab.2.1 _
  exact (k1.trans (Kp.upd hM.wlab.2.2 _)).mono fun _ h => .inl h
theorem Mach.gaveK (hM : Mach M lab p s) (hB : Base K M lab) {g : GivenS} {v : Value} {M3 : Mm} (hle : (M.out lab 6).le M3) (ho : Own (M.out lab 6) M3 155 6 v (s.given.length + 1) ((s.given ++ [g]).flatMap encG)) {s' : MachS} (hs : s' = { s with gv := v, given := s.given ++ [g] }) :
    ∃ lab', Base K (M3.upd p (.cells s'.row 83)) lab' ∧ Mach (M3.upd p (.cells s'.row 83)) lab' p s' ∧ Kp (fun k => k = 4 ∨ k = 6) M lab (M3.upd p (.cells s'.row 83)) lab' := by
  subst hs
  obtain ⟨lab', hK, hR⟩ := Row.grow hle ho
  obtain ⟨p1, p2⟩ := hK.get hM.obj hM.mark (by omega)
  have k3 : Kp (fun j => j = 4) M3 lab' (M3.upd p (.cells (MachS.row { s with gv := v, given := s.given ++ [g] }) 83)) lab' := Kp.upd p2 _
  have k4 : Kp (fun k => k = 4 ∨ k = 6) M lab (M3.upd p (.cells (MachS.row { s with gv := v, given := s.given ++ [g] }) 83)) lab' := (hK.mono fun _ h => .inr h).trans (k3.mono fun _ h => .inl h)
  obtain ⟨⟨o1, o2, h1, h2, h3, h4, h5, h6, h7, h8, h9, h10, h11, h12⟩, h13⟩ := hM
  obtain ⟨m1, m2⟩ := h4.keep h5 k4 (by omega)
  obtain ⟨w1, w2⟩ := h7.keep h8 k4 (by omega)
  obtain ⟨q1, q2⟩ := k4.get h2 h3 (by omega)
  refine ⟨lab', hB.keep k4 (by omega), ⟨⟨Mm.upd_same _ _ _, p2, h1, q1, q2, m1, m2, h6, w1, w2, h9, h10.keep k4 (by omega), fun t p' hp => (h11 t p' hp).keep k4 fun k hk => by have := hk.1; omega, ?_⟩, h13⟩, k4⟩
  have := hR.keep k3 (by omega)
  rw [List.length_append]
  exact this
/-- Behind Drop of what is held. -/
def MachS.gaveS (s : MachS) (lv t : Int) (gv : Value) : MachS := { s with ward := s.ward.gone lv t, gv := gv, given := s.given ++ [⟨lv, s.ward.link lv t, s.clk⟩] }
set_option maxHeartbeats 4000000 in
set_option maxRecDepth 20000 in
theorem mDrop_kp (h : Has σ M w) (hM : Mach M lab p s) (hB : Base K M lab) (t slot : Int) {lv : Int} (hlv : levelOf s.c t = lv) (hst : StampE s.ward.gens s.ward.gclk) (hg : 0 ≤ valE lv slot s.ward.gens ∧ valE lv slot s.ward.gens < 1000000000) (hsl : s.ward.slips < 1000000000) (hn : s.given.length < 1000000) (hh : s.ward.has lv slot = true) :
    Calls Try.prog 95 #[.pointer (some ⟨p, 0, none⟩), .int .i64 t, .int .i64 slot] w fun r w' => r = .returned (.tuple #[]) ∧ ∃ M' lab' gv, Has σ M' w' ∧ Base K M' lab' ∧ Mach M' lab' p (s.gaveS lv slot gv) ∧ Kp Dropped3 M lab M' lab' := by
  have LV := Lib.hid (fun (w : World) (h : Has σ M w) => mLevel_eq h hM t)
  rw [hlv] at LV
  have WD := Lib.hid (fun (w : World) (h : Has σ M w) => mWarden_eq h hM)
  have hs60 : s.ward.sl ≤ 1000000 := by rw [hM.wsz.2]; have := (Nums.of hM.may); obtain ⟨L, B, S, hn⟩ := this; have := hn.slo; have := hn.s0; omega
  have LK := Lib.hid (fun (w : World) (h : Has σ M w) => wardLink_eq h hM.ward lv slot hs60 hg)
  have DR := Lib.hid (fun (w : World) (h : Has σ M w) => drop_yes h hM.ward lv slot hh hst (by omega))
  obtain ⟨hM2, hB2⟩ := hM.gone hB lv slot rfl
  have KPA := Lib.hid (gone_kp hM lv slot)
  obtain ⟨g, G⟩ : ∃ g : GivenS, Hid (g = GivenS.mk lv (s.ward.link lv slot) s.clk) := ⟨_, rfl⟩
  have E : ∀ gv, MachS.gaveS s lv slot gv = { { s with ward := s.ward.gone lv slot } with gv := gv, given := s.given ++ [g] } := fun gv => by unfold MachS.gaveS; rw [G.out]
  replace E := Lib.hid E
  have EG : Hid (encG g = [.int .i64 lv, .int .u64 (s.ward.link lv slot), .int .i64 (s.clk 0 : Nat), .int .i64 (s.clk 1 : Nat), .int .i64 (s.clk 2 : Nat), .int .i64 (s.clk 3 : Nat)]) := by show _ = _; rw [G.out]; rfl
  clear hM hB hlv hst hg hsl hs60 hh
  generalize (M.upd s.ward.hb _).upd s.ward.gb _ = M2 at DR hM2 hB2 KPA
  obtain ⟨s2, E2⟩ : ∃ s2 : MachS, Hid (s2 = { s with ward := s.ward.gone lv slot }) := ⟨_, rfl⟩
  rw [← E2.out] at hM2 E
  have hp := hM2.obj
  have e8 : s2.row[8]? = some s2.gv := rfl
  have eg : Hid (s2.given = s.given) := by show _ = _; rw [E2.out]
  have e4 : s2.row.extract 4 (4 + 4) = #[.int .i64 (s.clk 0 : Nat), .int .i64 (s.clk 1 : Nat), .int .i64 (s.clk 2 : Nat), .int .i64 (s.clk 3 : Nat)] := by rw [E2.out]; rfl
  have l8 : 8 < s2.row.size := show 8 < 11 by omega
  have hown := hM2.grow
  have hpo := Mm.out_of (lab := lab) (k := 6) hp (by rw [hM2.mark]; omega)
  have hle := Mm.out_le M2 lab 6
  unfold Row at hown
  rw [eg.out] at hown
  have GAVE := Lib.hid (fun (M3 : Mm) (v : Value) hl ho => hM2.gaveK hB2 (g := g) (v := v) (M3 := M3) hl ho (s' := { s2 with gv := v, given := s2.given ++ [g] }) rfl)
  rw [eg.out] at GAVE
  have EQ : Hid (∀ v, s2.row.setIfInBounds 8 v = MachS.row { s2 with gv := v, given := s.given ++ [g] }) := Lib.hid fun v => rfl
  have FA : Hid (∀ g : GivenS, (s.given ++ [g]).flatMap encG = s.given.flatMap encG ++ encG g) := Lib.hid fun g => by simp
  replace FA := Lib.hid (FA.out g)
  clear hM2 hB2
  generalize s2.row = row at hp e8 e4 l8 EQ hpo
  generalize s2.gv = gv at e8 hown
  generalize s.given.flatMap encG = xs at hown FA
  generalize hnn : s.given.length = n at hown hn GAVE
  generalize s.ward.link lv slot = lk at LK EG
  generalize s.clk 0 = k0 at e4 EG
  generalize s.clk 1 = k1 at e4 EG
  generalize s.clk 2 = k2 at e4 EG
  generalize s.clk 3 = k3 at e4 EG
  go_enter Try.func95, Try.ntmps95
  go_upto_region 3 with (first
    | (go_at_call 9; refine (LV.out _ h).mono ?_; clear h; rintro _ w ⟨rfl, h⟩)
    | (go_at_call 86; refine (WD.out _ h).mono ?_; clear h; rintro _ w ⟨rfl, h⟩)
    | (go_at_call 96; refine (LK.out _ h).mono ?_; clear h; rintro _ w ⟨rfl, h⟩)
    | (go_at_call 97; refine (DR.out _ h).mono ?_; clear h; rintro _ w ⟨rfl, h⟩))
  clear LV WD LK DR
  have hpN := Mm.drop_none (M2.out lab 6) p
  have hdl : ((M2.out lab 6).drop p).le M2 := Mm.le_trans (Mm.drop_le _ _) hle
  have hd6 := Mm.drop_le (M2.out lab 6) p
  generalize (M2.out lab 6).drop p = MD at hpN hdl hd6
  generalize M2.out lab 6 = MR at hle hpo hown GAVE hd6
  refine wp_region_held_drew (S := Has σ (MD)) (by kernel_rfl) (h.drew.le hdl) (fun hHeld => ?_)
  refine wpAnyH_take (i := 0) (v := ?_) rfl (by kernel_rfl) (by kernel_rfl) (by kernel_rfl) (fun _ _ _ h => h) (Or.inl ⟨by rfl, ?_⟩) hHeld ?_
  rotate_left
  · (intro wz _; go_simp; try with_reducible rfl)
  try simp only [List.getElem_toArray, List.getElem_cons_succ, List.getElem_cons_zero, Act.put, List.setIfInBounds_toArray, List.set_cons_zero, List.set_cons_succ]
  refine wpAnyH_take (i := 1) (v := ?_) rfl (by kernel_rfl) (by kernel_rfl) (by kernel_rfl) (fun _ _ _ h => h) (Or.inl ⟨by rfl, ?_⟩) hHeld ?_
  rotate_left
  · (intro wz _; go_simp; try with_reducible rfl)
  try simp only [List.getElem_toArray, List.getElem_cons_succ, List.getElem_cons_zero, Act.put, List.setIfInBounds_toArray, List.set_cons_zero, List.set_cons_succ]
  refine wpAnyH_take (i := 2) (v := ?_) rfl (by kernel_rfl) (by kernel_rfl) (by kernel_rfl) (fun _ _ _ h => h) (Or.inl ⟨by rfl, ?_⟩) hHeld ?_
  rotate_left
  · (intro wz _; go_simp; try with_reducible rfl)
  try simp only [List.getElem_toArray, List.getElem_cons_succ, List.getElem_cons_zero, Act.put, List.setIfInBounds_toArray, List.set_cons_zero, List.set_cons_succ]
  refine wpAnyH_take (i := 3) (v := ?_) rfl (by kernel_rfl) (by kernel_rfl) (by kernel_rfl) (fun _ _ _ h => h) (Or.inl ⟨by rfl, ?_⟩) hHeld ?_
  rotate_left
  · (intro wz _; go_simp; try with_reducible rfl)
  try simp only [List.getElem_toArray, List.getElem_cons_succ, List.getElem_cons_zero, Act.put, List.setIfInBounds_toArray, List.set_cons_zero, List.set_cons_succ]
  refine wpAnyH_take (i := 5) (v := ?_) rfl (by kernel_rfl) (by kernel_rfl) (by kernel_rfl) (fun _ _ _ h => h) (Or.inl ⟨by rfl, ?_⟩) hHeld ?_
  rotate_left
  · (intro wz _; go_simp; try with_reducible rfl)
  try simp only [List.getElem_toArray, List.getElem_cons_succ, List.getElem_cons_zero, Act.put, List.setIfInBounds_toArray, List.set_cons_zero, List.set_cons_succ]
  refine wpAnyH_take (i := 6) (v := ?_) rfl (by kernel_rfl) (by kernel_rfl) (by kernel_rfl) (fun _ _ _ h => h) (Or.inl ⟨by rfl, ?_⟩) hHeld ?_
  rotate_left
  · (intro wz _; go_simp; try with_reducible rfl)
  try simp only [List.getElem_toArray, List.getElem_cons_succ, List.getElem_cons_zero, Act.put, List.setIfInBounds_toArray, List.set_cons_zero, List.set_cons_succ]
  refine wpAnyH_take (i := 7) (v := ?_) rfl (by kernel_rfl) (by kernel_rfl) (by kernel_rfl) (fun _ _ _ h => h) (Or.inl ⟨by rfl, ?_⟩) hHeld ?_
  rotate_left
  · (intro wz _; go_simp; try with_reducible rfl)
  try simp only [List.getElem_toArray, List.getElem_cons_succ, List.getElem_cons_zero, Act.put, List.setIfInBounds_toArray, List.set_cons_zero, List.set_cons_succ]
  refine wpAnyH_take (i := 8) (v := ?_) rfl (by kernel_rfl) (by kernel_rfl) (by kernel_rfl) (fun _ _ _ h => h) (Or.inl ⟨by rfl, ?_⟩) hHeld ?_
  rotate_left
  · (intro wz _; go_simp; try with_reducible rfl)
  try simp only [List.getElem_toArray, List.getElem_cons_succ, List.getElem_cons_zero, Act.put, List.setIfInBounds_toArray, List.set_cons_zero, List.set_cons_succ]
  refine wpAnyH_take (i := 9) (v := ?_) rfl (by kernel_rfl) (by kernel_rfl) (by kernel_rfl) (fun _ _ _ h => h) (Or.inl ⟨by rfl, ?_⟩) hHeld ?_
  rotate_left
  · (intro wz _; go_simp; try with_reducible rfl)
  try simp only [List.getElem_toArray, List.getElem_cons_succ, List.getElem_cons_zero, Act.put, List.setIfInBounds_toArray, List.set_cons_zero, List.set_cons_succ]
  replace h := h.drew
  generalize w.drew = w1 at h hHeld ⊢
  clear w
  obtain ⟨w, rfl⟩ : ∃ q : World, q = w1 := ⟨_, rfl⟩
  refine wpAnyH_ready (rs := [4, 10]) (by kernel_rfl) (by simp) ?_
  refine AllReadyH.cons rfl (fun K hK => ?_) (AllReadyH.cons rfl (fun K hK => ?_) AllReadyH.nil)
  · refine step_yields rfl (yields_load1 rfl 81 _ rfl rfl hp e8 Try.underlying81 rfl) h ?_
    refine hK.out _ _ hHeld (fun hHeld => ?_)
    clear hK K
    simp only [Act.put, List.setIfInBounds_toArray, List.set_cons_zero, List.set_cons_succ]
    refine wpAnyH_ready (rs := [10]) (by kernel_rfl) (by simp) ?_
    refine AllReadyH.cons rfl (fun K hK => ?_) AllReadyH.nil
    (refine step_yields rfl (yields_agg rfl 80 _ rfl rfl hp e4 rfl Try.underlying80 rfl (by kernel_rfl)) h ?_)
    refine hK.out _ _ (hHeld) (fun hHeld => ?_)
    clear hK K
    try simp only [Act.put, List.setIfInBounds_toArray, List.set_cons_zero, List.set_cons_succ]
    refine wpAnyH_take (i := 11) (v := ?_) rfl (by kernel_rfl) (by kernel_rfl) (by kernel_rfl) (fun _ _ _ h => h) (Or.inl ⟨by rfl, ?_⟩) hHeld ?_
    rotate_left
    · (intro wz _; go_simp; try with_reducible rfl)
    try simp only [List.getElem_toArray, List.getElem_cons_succ, List.getElem_cons_zero, Act.put, List.setIfInBounds_toArray, List.set_cons_zero, List.set_cons_succ]
    refine wpAnyH_ready (rs := [12]) (by kernel_rfl) (by simp) ?_
    refine AllReadyH.cons rfl (fun K hK => ?_) AllReadyH.nil
    go_simp
    refine hK.out _ _ ((h.quietAlloc _).le hdl) (fun hHeld => ?_)
    clear hK K
    try simp only [Act.put, List.setIfInBounds_toArray, List.set_cons_zero, List.set_cons_succ]
    clear hHeld
    obtain ⟨M3, hbx, hle2, hbl, hnl⟩ := h.box (.cells #[.int .i64 lv, .int .u64 lk, .int .i64 (k0 : Nat), .int .i64 (k1 : Nat), .int .i64 (k2 : Nat), .int .i64 (k3 : Nat)] 155)
    generalize w.alloc _ = wx at hbx ⊢
    generalize w.heap.size = bl at hbl hnl ⊢
    clear h
    try clear w
    have h := hbx
    clear hbx
    obtain ⟨w, rfl⟩ : ∃ x : World, x = wx := ⟨_, rfl⟩
    have hHeld : Has σ MD w := h.le (Mm.le_trans hdl hle2)
    have hrl : Rd M3 6 (.slice (some ⟨bl, 0, none⟩) 1 1) 1 [.int .i64 lv, .int .u64 lk, .int .i64 (k0 : Nat), .int .i64 (k1 : Nat), .int .i64 (k2 : Nat), .int .i64 (k3 : Nat)] := ⟨rfl, _, _, rfl, Nat.le_refl _, fun _ => ⟨bl, 0, _, _, _, rfl, hbl, fun j u hu => by simpa using hu⟩⟩
    have hleR := Mm.le_trans hle hle2
    have hownR := hown.le hle2
    refine wpAnyH_ready (rs := [13]) (by kernel_rfl) (by simp) ?_
    refine AllReadyH.cons rfl (fun K hK => ?_) AllReadyH.nil
    (refine step_append_rd h hleR rfl _ _ 81 rfl Try.underlying81 info_gv rfl (by omega) rfl hownR rfl hrl (by intro y hy; simp at hy; rcases hy with rfl | rfl | rfl | rfl | rfl | rfl <;> rfl) (by omega) (by omega) ?_; clear h; intro v w hacc; obtain ⟨M4, h, hl3, ho3⟩ := hacc)
    refine hK.out _ _ (h.le (Mm.le_trans hd6 hl3)) (fun hHeld => ?_)
    clear hK K
    try simp only [Act.put, List.setIfInBounds_toArray, List.set_cons_zero, List.set_cons_succ]
    obtain ⟨A, cc, rfl⟩ := ho3.form
    refine wpAnyH_take (i := 14) (v := ?_) rfl (by kernel_rfl) (by kernel_rfl) (by kernel_rfl) (fun _ _ _ h => h) (Or.inl ⟨by rfl, ?_⟩) hHeld ?_
    rotate_left
    · (intro wz _; go_simp; try with_reducible rfl)
    try simp only [List.getElem_toArray, List.getElem_cons_succ, List.getElem_cons_zero, Act.put, List.setIfInBounds_toArray, List.set_cons_zero, List.set_cons_succ]
    refine wpAnyH_take (i := 15) (v := ?_) rfl (by kernel_rfl) (by kernel_rfl) (by kernel_rfl) (fun _ _ _ h => h) (Or.inl ⟨by rfl, ?_⟩) hHeld ?_
    rotate_left
    · (intro wz _; go_simp; try with_reducible rfl)
    try simp only [List.getElem_toArray, List.getElem_cons_succ, List.getElem_cons_zero, Act.put, List.setIfInBounds_toArray, List.set_cons_zero, List.set_cons_succ]
    have hdo : ∀ o, MD.le (M4.upd p o) := fun o => Mm.le_upd (Mm.le_trans hd6 hl3) hpN o
    refine wpAnyH_ready (rs := [16]) (by kernel_rfl) (by simp) ?_
    refine AllReadyH.cons rfl (fun K hK => ?_) AllReadyH.nil
    (refine step_store1 (v := .slice A (n + 1) cc) h rfl 81 _ _ rfl rfl rfl (hl3 _ _ hpo) l8 rfl rfl (by kernel_rfl) ?_; clear h; intro w h)
    refine hK.out _ _ (h.le (hdo _)) (fun hHeld => ?_)
    clear hK K
    try simp only [Act.put, List.setIfInBounds_toArray, List.set_cons_zero, List.set_cons_succ]
    refine wpAnyH_done (by kernel_rfl) ?_ _
    rw [EQ.out] at h
    have ho4 : Own MR M4 155 6 (.slice A (n + 1) cc) (n + 1) ((s.given ++ [g]).flatMap encG) := by
      rw [FA.out, EG.out]
      exact ho3
    obtain ⟨lab', hB3, hM3, hK3⟩ := GAVE.out M4 _ hl3 ho4
    clear hdo ho4 ho3 hHeld hrl hleR hownR hl3 hle2
    go_wp2
    go_end0
    exact ⟨rfl, _, lab', _, h, hB3, by rw [E.out]; exact hM3, KPA.out.trans (hK3.mono fun _ h => .inr h)⟩
  · refine step_yields rfl (yields_agg rfl 80 _ rfl rfl hp e4 rfl Try.underlying80 rfl (by kernel_rfl)) h ?_
    refine hK.out _ _ hHeld (fun hHeld => ?_)
    clear hK K
    simp only [Act.put, List.setIfInBounds_toArray, List.set_cons_zero, List.set_cons_succ]
    refine wpAnyH_take (i := 11) (v := ?_) rfl (by kernel_rfl) (by kernel_rfl) (by kernel_rfl) (fun _ _ _ h => h) (Or.inl ⟨by rfl, ?_⟩) hHeld ?_
    rotate_left
    · (intro wz _; go_simp; try with_reducible rfl)
    try simp only [List.getElem_toArray, List.getElem_cons_succ, List.getElem_cons_zero, Act.put, List.setIfInBounds_toArray, List.set_cons_zero, List.set_cons_succ]
    refine wpAnyH_ready (rs := [4, 12]) (by kernel_rfl) (by simp) ?_
    refine AllReadyH.cons rfl (fun K hK => ?_) (AllReadyH.cons rfl (fun K hK => ?_) AllReadyH.nil)
    · refine step_yields rfl (yields_load1 rfl 81 _ rfl rfl hp e8 Try.underlying81 rfl) h ?_
      refine hK.out _ _ hHeld (fun hHeld => ?_)
      clear hK K
      simp only [Act.put, List.setIfInBounds_toArray, List.set_cons_zero, List.set_cons_succ]
      refine wpAnyH_ready (rs := [12]) (by kernel_rfl) (by simp) ?_
      refine AllReadyH.cons rfl (fun K hK => ?_) AllReadyH.nil
      go_simp
      refine hK.out _ _ ((h.quietAlloc _).le hdl) (fun hHeld => ?_)
      clear hK K
      try simp only [Act.put, List.setIfInBounds_toArray, List.set_cons_zero, List.set_cons_succ]
      clear hHeld
      obtain ⟨M3, hbx, hle2, hbl, hnl⟩ := h.box (.cells #[.int .i64 lv, .int .u64 lk, .int .i64 (k0 : Nat), .int .i64 (k1 : Nat), .int .i64 (k2 : Nat), .int .i64 (k3 : Nat)] 155)
      generalize w.alloc _ = wx at hbx ⊢
      generalize w.heap.size = bl at hbl hnl ⊢
      clear h
      try clear w
      have h := hbx
      clear hbx
      obtain ⟨w, rfl⟩ : ∃ x : World, x = wx := ⟨_, rfl⟩
      have hHeld : Has σ MD w := h.le (Mm.le_trans hdl hle2)
      have hrl : Rd M3 6 (.slice (some ⟨bl, 0, none⟩) 1 1) 1 [.int .i64 lv, .int .u64 lk, .int .i64 (k0 : Nat), .int .i64 (k1 : Nat), .int .i64 (k2 : Nat), .int .i64 (k3 : Nat)] := ⟨rfl, _, _, rfl, Nat.le_refl _, fun _ => ⟨bl, 0, _, _, _, rfl, hbl, fun j u hu => by simpa using hu⟩⟩
      have hleR := Mm.le_trans hle hle2
      have hownR := hown.le hle2
      refine wpAnyH_ready (rs := [13]) (by kernel_rfl) (by simp) ?_
      refine AllReadyH.cons rfl (fun K hK => ?_) AllReadyH.nil
      (refine step_append_rd h hleR rfl _ _ 81 rfl Try.underlying81 info_gv rfl (by omega) rfl hownR rfl hrl (by intro y hy; simp at hy; rcases hy with rfl | rfl | rfl | rfl | rfl | rfl <;> rfl) (by omega) (by omega) ?_; clear h; intro v w hacc; obtain ⟨M4, h, hl3, ho3⟩ := hacc)
      refine hK.out _ _ (h.le (Mm.le_trans hd6 hl3)) (fun hHeld => ?_)
      clear hK K
      try simp only [Act.put, List.setIfInBounds_toArray, List.set_cons_zero, List.set_cons_succ]
      obtain ⟨A, cc, rfl⟩ := ho3.form
      refine wpAnyH_take (i := 14) (v := ?_) rfl (by kernel_rfl) (by kernel_rfl) (by kernel_rfl) (fun _ _ _ h => h) (Or.inl ⟨by rfl, ?_⟩) hHeld ?_
      rotate_left
      · (intro wz _; go_simp; try with_reducible rfl)
      try simp only [List.getElem_toArray, List.getElem_cons_succ, List.getElem_cons_zero, Act.put, List.setIfInBounds_toArray, List.set_cons_zero, List.set_cons_succ]
      refine wpAnyH_take (i := 15) (v := ?_) rfl (by kernel_rfl) (by kernel_rfl) (by kernel_rfl) (fun _ _ _ h => h) (Or.inl ⟨by rfl, ?_⟩) hHeld ?_
      rotate_left
      · (intro wz _; go_simp; try with_reducible rfl)
      try simp only [List.getElem_toArray, List.getElem_cons_succ, List.getElem_cons_zero, Act.put, List.setIfInBounds_toArray, List.set_cons_zero, List.set_cons_succ]
      have hdo : ∀ o, MD.le (M4.upd p o) := fun o => Mm.le_upd (Mm.le_trans hd6 hl3) hpN o
      refine wpAnyH_ready (rs := [16]) (by kernel_rfl) (by simp) ?_
      refine AllReadyH.cons rfl (fun K hK => ?_) AllReadyH.nil
      (refine step_store1 (v := .slice A (n + 1) cc) h rfl 81 _ _ rfl rfl rfl (hl3 _ _ hpo) l8 rfl rfl (by kernel_rfl) ?_; clear h; intro w h)
      refine hK.out _ _ (h.le (hdo _)) (fun hHeld => ?_)
      clear hK K
      try simp only [Act.put, List.setIfInBounds_toArray, List.set_cons_zero, List.set_cons_succ]
      refine wpAnyH_done (by kernel_rfl) ?_ _
      rw [EQ.out] at h
      have ho4 : Own MR M4 155 6 (.slice A (n + 1) cc) (n + 1) ((s.given ++ [g]).flatMap encG) := by
        rw [FA.out, EG.out]
        exact ho3
      obtain ⟨lab', hB3, hM3, hK3⟩ := GAVE.out M4 _ hl3 ho4
      clear hdo ho4 ho3 hHeld hrl hleR hownR hl3 hle2
      go_wp2
      go_end0
      exact ⟨rfl, _, lab', _, h, hB3, by rw [E.out]; exact hM3, KPA.out.trans (hK3.mono fun _ h => .inr h)⟩
    · go_simp
      refine hK.out _ _ ((h.quietAlloc _).le hdl) (fun hHeld => ?_)
      clear hK K
      try simp only [Act.put, List.setIfInBounds_toArray, List.set_cons_zero, List.set_cons_succ]
      clear hHeld
      obtain ⟨M3, hbx, hle2, hbl, hnl⟩ := h.box (.cells #[.int .i64 lv, .int .u64 lk, .int .i64 (k0 : Nat), .int .i64 (k1 : Nat), .int .i64 (k2 : Nat), .int .i64 (k3 : Nat)] 155)
      generalize w.alloc _ = wx at hbx ⊢
      generalize w.heap.size = bl at hbl hnl ⊢
      clear h
      try clear w
      have h := hbx
      clear hbx
      obtain ⟨w, rfl⟩ : ∃ x : World, x = wx := ⟨_, rfl⟩
      have hHeld : Has σ MD w := h.le (Mm.le_trans hdl hle2)
      have hrl : Rd M3 6 (.slice (some ⟨bl, 0, none⟩) 1 1) 1 [.int .i64 lv, .int .u64 lk, .int .i64 (k0 : Nat), .int .i64 (k1 : Nat), .int .i64 (k2 : Nat), .int .i64 (k3 : Nat)] := ⟨rfl, _, _, rfl, Nat.le_refl _, fun _ => ⟨bl, 0, _, _, _, rfl, hbl, fun j u hu => by simpa using hu⟩⟩
      have hleR := Mm.le_trans hle hle2
      have hownR := hown.le hle2
      refine wpAnyH_ready (rs := [4]) (by kernel_rfl) (by simp) ?_
      refine AllReadyH.cons rfl (fun K hK => ?_) AllReadyH.nil
      (refine step_yields rfl (yields_load1 rfl 81 _ rfl rfl (hle2 _ _ hp) e8 Try.underlying81 rfl) h ?_)
      refine hK.out _ _ (hHeld) (fun hHeld => ?_)
      clear hK K
      try simp only [Act.put, List.setIfInBounds_toArray, List.set_cons_zero, List.set_cons_succ]
      refine wpAnyH_ready (rs := [13]) (by kernel_rfl) (by simp) ?_
      refine AllReadyH.cons rfl (fun K hK => ?_) AllReadyH.nil
      (refine step_append_rd h hleR rfl _ _ 81 rfl Try.underlying81 info_gv rfl (by omega) rfl hownR rfl hrl (by intro y hy; simp at hy; rcases hy with rfl | rfl | rfl | rfl | rfl | rfl <;> rfl) (by omega) (by omega) ?_; clear h; intro v w hacc; obtain ⟨M4, h, hl3, ho3⟩ := hacc)
      refine hK.out _ _ (h.le (Mm.le_trans hd6 hl3)) (fun hHeld => ?_)
      clear hK K
      try simp only [Act.put, List.setIfInBounds_toArray, List.set_cons_zero, List.set_cons_succ]
      obtain ⟨A, cc, rfl⟩ := ho3.form
      refine wpAnyH_take (i := 14) (v := ?_) rfl (by kernel_rfl) (by kernel_rfl) (by kernel_rfl) (fun _ _ _ h => h) (Or.inl ⟨by rfl, ?_⟩) hHeld ?_
      rotate_left
      · (intro wz _; go_simp; try with_reducible rfl)
      try simp only [List.getElem_toArray, List.getElem_cons_succ, List.getElem_cons_zero, Act.put, List.setIfInBounds_toArray, List.set_cons_zero, List.set_cons_succ]
      refine wpAnyH_take (i := 15) (v := ?_) rfl (by kernel_rfl) (by kernel_rfl) (by kernel_rfl) (fun _ _ _ h => h) (Or.inl ⟨by rfl, ?_⟩) hHeld ?_
      rotate_left
      · (intro wz _; go_simp; try with_reducible rfl)
      try simp only [List.getElem_toArray, List.getElem_cons_succ, List.getElem_cons_zero, Act.put, List.setIfInBounds_toArray, List.set_cons_zero, List.set_cons_succ]
      have hdo : ∀ o, MD.le (M4.upd p o) := fun o => Mm.le_upd (Mm.le_trans hd6 hl3) hpN o
      refine wpAnyH_ready (rs := [16]) (by kernel_rfl) (by simp) ?_
      refine AllReadyH.cons rfl (fun K hK => ?_) AllReadyH.nil
      (refine step_store1 (v := .slice A (n + 1) cc) h rfl 81 _ _ rfl rfl rfl (hl3 _ _ hpo) l8 rfl rfl (by kernel_rfl) ?_; clear h; intro w h)
      refine hK.out _ _ (h.le (hdo _)) (fun hHeld => ?_)
      clear hK K
      try simp only [Act.put, List.setIfInBounds_toArray, List.set_cons_zero, List.set_cons_succ]
      refine wpAnyH_done (by kernel_rfl) ?_ _
      rw [EQ.out] at h
      have ho4 : Own MR M4 155 6 (.slice A (n + 1) cc) (n + 1) ((s.given ++ [g]).flatMap encG) := by
        rw [FA.out, EG.out]
        exact ho3
      obtain ⟨lab', hB3, hM3, hK3⟩ := GAVE.out M4 _ hl3 ho4
      clear hdo ho4 ho3 hHeld hrl hleR hownR hl3 hle2
      go_wp2
      go_end0
      exact ⟨rfl, _, lab', _, h, hB3, by rw [E.out]; exact hM3, KPA.out.trans (hK3.mono fun _ h => .inr h)⟩
end
end
section
open Go.RowKit
set_option linter.unusedVariables false
set_option linter.unusedSimpArgs false
set_option linter.unnecessarySimpa false
/-- A spot is in a map once. -/
def OnceE (es : List Ent) : Prop := (es.map fun x => (x.l, x.s)).Nodup
theorem firstHeld_val (n : Nat) : ∀ l t : Int, valE l t (firstHeld n) = if t = 1 ∧ 0 ≤ l ∧ l < n then 1 else 0 := by
  intro l t
  induction n with
  | zero => simp [firstHeld, valE]
  | succ n ih =>
    have e : ∀ (a b : List Ent), valE l t (a ++ b) = if hasE l t a then valE l t a else valE l t b := fun a b => by
      induction a with
      | nil => simp [hasE]
      | cons x r ih2 =>
        simp only [List.cons_append, valE, hasE]
        by_cases h : (l == x.l && t == x.s) = true
        · simp only [h, if_true, Bool.true_or]
        · simp only [Bool.not_eq_true] at h
          simp only [h, Bool.false_eq_true, if_false, Bool.false_or, ih2]
    have hv : hasE l t (firstHeld n) = true → valE l t (firstHeld n) = 1 := by
      have : ∀ (ls : List Nat), hasE l t (ls.map fun (l : Nat) => (⟨l, 1, 1, l⟩ : Ent)) = true → valE l t (ls.map fun (l : Nat) => (⟨l, 1, 1, l⟩ : Ent)) = 1 := fun ls => by
        induction ls with
        | nil => intro h; cases h
        | cons x r ih2 =>
          intro h
          simp only [List.map_cons, hasE, valE] at h ⊢
          cases h3 : (l == (x : Int) && t == 1)
          · rw [h3] at h; simp only [Bool.false_or] at h; simpa using ih2 h
          · simp
      exact this _
    rw [← firstHeld_put, putE_none _ _ _ _ _ (firstHeld_has n), e]
    cases hh : hasE l t (firstHeld n)
    · have := hasE_val hh
      rw [this] at ih
      simp only [Bool.false_eq_true, if_false, valE]
      split
      · rename_i h
        simp only [Bool.and_eq_true, beq_iff_eq] at h
        rw [if_pos (by omega)]
      · rename_i h
        simp only [Bool.and_eq_true, beq_iff_eq] at h
        split at ih
        · cases ih
        · rw [if_neg (by omega)]
    · have h1 := hv hh
      rw [h1] at ih
      simp only [if_true]
      rw [h1]
      split at ih
      · rw [if_pos (by omega)]
      · cases ih
theorem valE_put (l t v : Int) (clk : Nat) (l' t' : Int) : ∀ es : List Ent, valE l' t' (putE l t v clk es) = if l' = l ∧ t' = t then v else valE l' t' es
  | [] => by
    simp only [putE, valE]
    by_cases h : l' = l ∧ t' = t
    · rw [if_pos h, if_pos (by simpa using h)]
    · rw [if_neg h, if_neg (by simpa using h)]
  | x :: r => by
    have ih := valE_put l t v clk l' t' r
    unfold putE
    cases hx : (l == x.l && t == x.s)
    · simp only [Bool.false_eq_true, if_false, valE, ih]
      by_cases h : l' = l ∧ t' = t
      · obtain ⟨rfl, rfl⟩ := h
        rw [hx]
        simp
      · simp only [if_neg h]
    · simp only [Bool.and_eq_true, beq_iff_eq] at hx
      obtain ⟨rfl, rfl⟩ := hx
      simp only [if_true, valE]
      by_cases h : l' = x.l ∧ t' = x.s
      · rw [if_pos h]
        simp [h.1, h.2]
      · rw [if_neg h]
        have : (l' == x.l && t' == x.s) = false := by simpa using h
        simp only [this, Bool.false_eq_true, if_false]
theorem StampE.put {es : List Ent} {clk : Nat} (h : StampE es clk) (l t v : Int) : StampE (putE l t v clk es) (if hasE l t es then clk else clk + 1) := by
  have hb : ∀ es : List Ent, hasE l t es = true → (putE l t v clk es).map (·.born) = es.map (·.born) := by
    intro es
    induction es with
    | nil => intro h; cases h
    | cons x r ih =>
      intro h
      unfold hasE at h
      unfold putE
      cases hx : (l == x.l && t == x.s)
      · rw [hx, Bool.false_or] at h
        simp [ih h]
      · simp
  cases hh : hasE l t es
  · rw [putE_none _ _ _ _ _ hh]
    simp only [Bool.false_eq_true, if_false]
    refine ⟨fun y hy => ?_, ?_⟩
    · rcases List.mem_append.1 hy with hy | hy
      · exact Nat.lt_succ_of_lt (h.1 y hy)
      · simp at hy; subst hy; exact Nat.lt_succ_self _
    · rw [List.map_append, List.nodup_append]
      refine ⟨h.2, by simp, fun a ha b hb => ?_⟩
      simp at hb
      subst hb
      obtain ⟨y, hy, rfl⟩ := List.mem_map.1 ha
      have := h.1 y hy
      omega
  · simp only [if_true]
    have e := hb es hh
    refine ⟨fun y hy => ?_, by rw [e]; exact h.2⟩
    have : y.born ∈ es.map (·.born) := by rw [← e]; exact List.mem_map_of_mem hy
    obtain ⟨z, hz, e2⟩ := List.mem_map.1 this
    have := h.1 z hz
    omega
theorem valE_del_ne (l t l' t' : Int) (hne : ¬ (l' = l ∧ t' = t)) : ∀ es : List Ent, valE l' t' (delE l t es) = valE l' t' es
  | [] => rfl
  | x :: r => by
    have ih := valE_del_ne l t l' t' hne r
    unfold delE
    cases hx : (l == x.l && t == x.s)
    · simp only [Bool.false_eq_true, if_false, valE, ih]
    · simp only [Bool.and_eq_true, beq_iff_eq] at hx
      obtain ⟨rfl, rfl⟩ := hx
      have : (l' == x.l && t' == x.s) = false := by simpa using hne
      simp only [if_true, valE, this, Bool.false_eq_true, if_false]
theorem valE_del (l t : Int) : ∀ es : List Ent, OnceE es → valE l t (delE l t es) = 0
  | [], _ => rfl
  | x :: r, h => by
    unfold OnceE at h
    simp only [List.map_cons, List.nodup_cons] at h
    unfold delE
    cases hx : (l == x.l && t == x.s)
    · simp only [Bool.false_eq_true, if_false, valE, hx]
      exact valE_del l t r h.2
    · simp only [Bool.and_eq_true, beq_iff_eq] at hx
      obtain ⟨rfl, rfl⟩ := hx
      simp only [if_true]
      apply hasE_val
      have h1 := h.1
      have : ∀ r : List Ent, (x.l, x.s) ∉ r.map (fun x => (x.l, x.s)) → hasE x.l x.s r = false := by
        intro r
        induction r with
        | nil => intro _; rfl
        | cons y r ih =>
          intro h
          simp only [List.map_cons, List.mem_cons, not_or] at h
          unfold hasE
          rw [ih h.2, Bool.or_false]
          have := h.1
          simp only [Prod.mk.injEq] at this
          simpa using this
      exact this r h1
theorem OnceE.del {es : List Ent} (h : OnceE es) (l t : Int) : OnceE (delE l t es) := by
  induction es with
  | nil => exact h
  | cons x r ih =>
    unfold OnceE at h ih ⊢
    simp only [List.map_cons, List.nodup_cons] at h
    unfold delE
    split
    · exact h.2
    · simp only [List.map_cons, List.nodup_cons]
      refine ⟨fun hm => h.1 ?_, ih h.2⟩
      obtain ⟨y, hy, e⟩ := List.mem_map.1 hm
      have : ∀ r : List Ent, y ∈ delE l t r → y ∈ r := fun r => by
        induction r with
        | nil => intro h; exact h
        | cons z r ih =>
          intro h
          unfold delE at h
          split at h
          · exact List.mem_cons_of_mem _ h
          · rcases List.mem_cons.1 h with rfl | h
            · exact List.mem_cons_self
            · exact List.mem_cons_of_mem _ (ih h)
      exact List.mem_map.2 ⟨y, this r hy, e⟩
theorem watch_given (s : MachS) (lv : Int) (acc wr : Nat) : (s.watch lv acc wr).given = s.given ∧ ((s.watch lv acc wr).fault = (s.fault || (decide (s.mem.acc ≠ acc) && s.wrong lv acc wr))) := by
  unfold MachS.watch
  split
  · rename_i h; simp [h]
  · rename_i h
    split
    · rename_i h2; simp [h, h2]
    · rename_i h2; simp [h, h2]
theorem at_acc (m : MemS) (x : Int) : (m.at_ x).acc = m.acc + 1 ∧ (m.at_ x).wr = m.wr ∧ (m.at_ x).N = m.N := by
  unfold MemS.at_
  split <;> exact ⟨rfl, rfl, rfl⟩
theorem store_acc (m : MemS) (x v : Int) : (m.store x v).acc = m.acc + 1 ∧ (m.store x v).wr ≤ m.wr + 1 ∧ (m.store x v).N = m.N := by
  unfold MemS.store
  split
  · exact ⟨(at_acc m x).1, Nat.le_refl _, (at_acc m x).2.2⟩
  · exact ⟨(at_acc m x).1, by rw [(at_acc m x).2.1]; exact Nat.le_succ _, (at_acc m x).2.2⟩
theorem watch_same (s : MachS) (lv : Int) (acc wr : Nat) : (s.watch lv acc wr).c = s.c ∧ (s.watch lv acc wr).tp = s.tp ∧ (s.watch lv acc wr).mem = s.mem ∧ (s.watch lv acc wr).clk = s.clk ∧ (s.watch lv acc wr).steps = s.steps ∧ (s.watch lv acc wr).thr = s.thr ∧ (s.watch lv acc wr).ward = s.ward := by
  unfold MachS.watch
  split
  · exact ⟨rfl, rfl, rfl, rfl, rfl, rfl, rfl⟩
  · split <;> exact ⟨rfl, rfl, rfl, rfl, rfl, rfl, rfl⟩
theorem OnceE.put {es : List Ent} (h : OnceE es) (l t v : Int) (clk : Nat) : OnceE (putE l t v clk es) := by
  have hm : ∀ (es : List Ent) (y : Int × Int), y ∈ (putE l t v clk es).map (fun x => (x.l, x.s)) → y = (l, t) ∨ y ∈ es.map (fun x => (x.l, x.s)) := by
    intro es
    induction es with
    | nil => intro y hy; simp [putE] at hy; exact .inl hy
    | cons x r ih =>
      intro y hy
      unfold putE at hy
      split at hy
      · exact .inr (by simpa using hy)
      · simp only [List.map_cons, List.mem_cons] at hy ⊢
        rcases hy with hy | hy
        · exact .inr (.inl hy)
        · rcases ih y hy with h | h
          · exact .inl h
          · exact .inr (.inr h)
  induction es with
  | nil => unfold OnceE; simp [putE]
  | cons x r ih =>
    unfold OnceE at h ih ⊢
    simp only [List.map_cons, List.nodup_cons] at h
    unfold putE
    split
    · simpa using h
    · rename_i hne
      simp only [List.map_cons, List.nodup_cons]
      refine ⟨fun hx => ?_, ih h.2⟩
      rcases hm r _ hx with e | e
      · apply hne
        simp only [Prod.mk.injEq] at e
        simp [e.1, e.2]
      · exact h.1 e
end
section
open Go.RowKit
set_option linter.unusedVariables false
set_option linter.unusedSimpArgs false
set_option linter.unnecessarySimpa false
/-- A frame. -/
structure Fr where
  fn : Nat
  pc : Nat
  r : Nat → Nat
def Fr.enc (F : Fr) : FrameS := ⟨F.fn, F.pc, fun i => F.r i⟩
def Fr.goto (F : Fr) (k : Nat) : Fr := { F with pc := k }
def Fr.reg (F : Fr) (i v : Nat) : Fr := { F with r := put1 F.r i v }
theorem fr_goto (F : Fr) (k : Nat) : F.enc.goto (k : Nat) = (F.goto k).enc := rfl
theorem fr_reg (F : Fr) (i v : Nat) : F.enc.reg i (v : Nat) = (F.reg i v).enc := by
  unfold FrameS.reg Fr.reg Fr.enc
  congr 1
  funext j
  unfold upd put1
  by_cases h : j = i <;> simp [h]
structure GM where
  w : Nat → Nat → Nat
  held : Nat → Nat → Bool
  wg : Nat → Nat → Nat
  thr : Nat → List Fr
  told : Nat → Nat → Nat
def GM.set (g : GM) (l o v : Nat) : GM := { g with w := put1 g.w l (put1 (g.w l) o v) }
def GM.top (g : GM) (t : Nat) (fs : List Fr) (F : Fr) : GM := { g with thr := put1 g.thr t (fs ++ [F]) }
def GM.back (g : GM) (t : Nat) (fs : List Fr) (us : List Nat) : GM := { g with thr := put1 g.thr t fs, told := put1 g.told t fun i => us.getD i 0 }
def GM.hold (g : GM) (l i : Nat) : GM := { g with held := put1 g.held l (put1 (g.held l) i true) }
def GM.drop (g : GM) (l i : Nat) : GM := { g with held := put1 g.held l (put1 (g.held l) i false), wg := put1 g.wg l (put1 (g.wg l) i (g.wg l i + 1)) }
/-- Which word of its level a place is. -/
def offK (c : Nat → Int) (k : Nat) (i j : Int) : Nat := (firsts c k + numK k i j).toNat
theorem off_lt {c : Nat → Int} (hc : ConfMay c) {k : Nat} {i j : Int} (hk : InK c k i j) : 0 ≤ firsts c k + numK k i j ∧ (offK c k i j : Int) < firsts c 10 := by
  have hs := firsts_succ c (k := k) hk.kind
  have hnn := numK_nn hk
  have hhi := hk.high
  have hf0 := (firsts_bd hc k).1
  have hkk := hk.kind
  have hle : firsts c (k + 1) ≤ firsts c 10 := by
    obtain ⟨_, _, _, _, ⟨g2, g3⟩, ⟨g4, g5⟩, _⟩ := hc
    unfold firsts
    rcases k with _ | _ | _ | _ | _ | _ | _ | _ | _ | _ | k <;> simp <;> omega
  unfold offK
  omega
theorem atK_off {c : Nat → Int} (hc : ConfMay c) {k l : Nat} {i j : Int} (hk : InK c k i j) : (atK c (l : Nat) k i j).toNat = l * (firsts c 10).toNat + offK c k i j := by
  have h1 := (off_lt hc hk).1
  have h2 := (firsts_bd hc 10).1
  have e : atK c (l : Nat) k i j = ((l * (firsts c 10).toNat + offK c k i j : Nat) : Int) := by
    unfold atK offK
    rw [Int.natCast_add, Int.natCast_mul, Int.toNat_of_nonneg h2, Int.toNat_of_nonneg h1]
    omega
  rw [e, Int.toNat_natCast]
theorem place_ne {Z l l' o o' : Nat} (h : o < Z) (h' : o' < Z) (e : l * Z + o = l' * Z + o') : l = l' ∧ o = o' := by
  have a1 : (l * Z + o) / Z = l := by rw [Nat.add_comm, Nat.add_mul_div_right _ _ (by omega), Nat.div_eq_of_lt h, Nat.zero_add]
  have a2 : (l' * Z + o') / Z = l' := by rw [Nat.add_comm, Nat.add_mul_div_right _ _ (by omega), Nat.div_eq_of_lt h', Nat.zero_add]
  have : l = l' := by rw [← a1, ← a2, e]
  subst this
  exact ⟨rfl, by omega⟩
/-- Words, by level and offset. -/
def WordsM (c : Nat → Int) (f : Nat → Int) (w : Nat → Nat → Nat) : Prop := ∀ l o : Nat, (l : Int) < c 0 → (o : Int) < firsts c 10 → f (l * (firsts c 10).toNat + o) = (w l o : Int)
theorem WordsM.at {c f : Nat → Int} {w : Nat → Nat → Nat} (h : WordsM c f w) (hc : ConfMay c) {l k : Nat} {i j : Int} (hl : (l : Int) < c 0) (hk : InK c k i j) : f (atK c (l : Nat) k i j).toNat = (w l (offK c k i j) : Int) := by
  rw [atK_off hc hk]
  exact h l _ hl (off_lt hc hk).2
theorem WordsM.set {c f : Nat → Int} {w : Nat → Nat → Nat} (h : WordsM c f w) (hc : ConfMay c) {l k : Nat} {i j : Int} (hk : InK c k i j) (v : Nat) : WordsM c (upd f (atK c (l : Nat) k i j).toNat v) (put1 w l (put1 (w l) (offK c k i j) v)) := fun l' o hl ho => by
  rw [atK_off hc hk]
  have hb := (off_lt hc hk).2
  have h2 := (firsts_bd hc 10).1
  unfold upd
  by_cases e : l' * (firsts c 10).toNat + o = l * (firsts c 10).toNat + offK c k i j
  · obtain ⟨e1, e2⟩ := place_ne (by omega) (by omega) e
    subst e1
    subst e2
    rw [if_pos rfl, put1_same, put1_same]
  · rw [if_neg e, h l' o hl ho]
    by_cases e1 : l' = l
    · subst e1
      rw [put1_same, put1_ne fun e2 => e (by rw [e2])]
    · rw [put1_ne e1]
/-- What the warden knows. -/
structure WardM (c : Nat → Int) (n : Nat) (wd : WardS) (held : Nat → Nat → Bool) (wg : Nat → Nat → Nat) : Prop where
  lv : wd.lv = c 0
  sl : wd.sl = c 10
  held : ∀ l i : Nat, (l : Int) < c 0 → 1 ≤ i → (i : Int) ≤ c 10 → valE (l : Nat) (i : Nat) wd.held = if held l i then 1 else 0
  gen : ∀ l i : Nat, (l : Int) < c 0 → 1 ≤ i → (i : Int) ≤ c 10 → valE (l : Nat) (i : Nat) wd.gens = (wg l i : Int)
  once : OnceE wd.held
  stamp : StampE wd.gens wd.gclk
  gens : ∀ l i : Int, 0 ≤ valE l i wd.gens ∧ valE l i wd.gens ≤ n
  slips : wd.slips = 0
theorem WardM.mono {c : Nat → Int} {n m : Nat} {wd : WardS} {held : Nat → Nat → Bool} {wg : Nat → Nat → Nat} (h : WardM c n wd held wg) (hm : n ≤ m) : WardM c m wd held wg := ⟨h.lv, h.sl, h.held, h.gen, h.once, h.stamp, fun l i => by have := h.gens l i; omega, h.slips⟩
theorem WardM.take {c : Nat → Int} {n l i : Nat} {wd : WardS} {held : Nat → Nat → Bool} {wg : Nat → Nat → Nat} (h : WardM c n wd held wg) : WardM c n (wd.take (l : Nat) (i : Nat)) (put1 held l (put1 (held l) i true)) wg := by
  refine ⟨h.lv, h.sl, fun l' j h1 h2 h3 => ?_, h.gen, h.once.put _ _ _ _, h.stamp, h.gens, h.slips⟩
  show valE _ _ (putE _ _ _ _ _) = _
  rw [valE_put]
  by_cases hl : l' = l
  · subst hl
    rw [put1_same]
    by_cases hj : j = i
    · subst hj; rw [put1_same, if_pos ⟨rfl, rfl⟩]; rfl
    · rw [put1_ne hj, if_neg (by omega), h.held l' j h1 h2 h3]
  · rw [put1_ne hl, if_neg (by omega), h.held l' j h1 h2 h3]
theorem WardM.gone {c : Nat → Int} {n l i : Nat} {wd : WardS} {held : Nat → Nat → Bool} {wg : Nat → Nat → Nat} (h : WardM c n wd held wg) (hl : (l : Int) < c 0) (h1 : 1 ≤ i) (h2 : (i : Int) ≤ c 10) : WardM c (n + 1) (wd.gone (l : Nat) (i : Nat)) (put1 held l (put1 (held l) i false)) (put1 wg l (put1 (wg l) i (wg l i + 1))) := by
  refine ⟨h.lv, h.sl, fun l' j h1 h2 h3 => ?_, fun l' j a1 a2 a3 => ?_, h.once.del _ _, h.stamp.put _ _ _, fun l' j => ?_, h.slips⟩
  · show valE _ _ (delE _ _ _) = _
    by_cases hl : l' = l
    · subst hl
      rw [put1_same]
      by_cases hj : j = i
      · subst hj; rw [put1_same, valE_del _ _ _ h.once]; rfl
      · rw [put1_ne hj, valE_del_ne _ _ _ _ (by omega), h.held l' j h1 h2 h3]
    · rw [put1_ne hl, valE_del_ne _ _ _ _ (by omega), h.held l' j h1 h2 h3]
  · show valE _ _ (putE _ _ _ _ _) = _
    rw [valE_put]
    by_cases hl' : l' = l
    · subst hl'
      rw [put1_same]
      by_cases hj : j = i
      · subst hj; rw [put1_same, if_pos ⟨rfl, rfl⟩, h.gen l' j a1 a2 a3]; omega
      · rw [put1_ne hj, if_neg (by omega), h.gen l' j a1 a2 a3]
    · rw [put1_ne hl', if_neg (by omega), h.gen l' j a1 a2 a3]
  · show 0 ≤ valE _ _ (putE _ _ _ _ _) ∧ valE _ _ (putE _ _ _ _ _) ≤ _
    rw [valE_put]
    have a := h.gens l i
    have b := h.gens l' j
    split <;> omega
/-- What threads are within, and were told. -/
structure ThrM (c : Nat → Int) (thr : Nat → ThrS) (g : GM) : Prop where
  fr : ∀ t : Nat, (t : Int) < c 1 → (thr t).frames = (g.thr t).map Fr.enc
  run : ∀ t : Nat, ((thr t).st || (thr t).ki) = false
  told : ∀ t j : Nat, (thr t).told j = (g.told t j : Int)
/-- The machine is so, behind n steps. -/
structure AbsM (c : Nat → Int) (tp : List Nat) (n : Nat) (s : MachS) (g : GM) : Prop where
  cc : s.c = c
  may : ConfMay c
  ttp : s.tp = tp
  memN : (s.mem.N : Int) = c 0 * firsts c 10
  words : WordsM c s.mem.f g.w
  ward : WardM c n s.ward g.held g.wg
  thr : ThrM c s.thr g
  flt : s.mem.flt = false
  fault : s.fault = false
  acc : s.mem.acc ≤ n
  wr : s.mem.wr ≤ n
  steps : s.steps ≤ n
  clk : ∀ k, s.clk k ≤ n
  given : s.given.length ≤ n
theorem AbsM.good {c : Nat → Int} {tp : List Nat} {n : Nat} {s : MachS} {g : GM} (h : AbsM c tp n s g) : s.bad = false := by
  unfold MachS.bad
  rw [h.fault, h.flt, h.ward.slips]
  rfl
/-- What a bit of a routine makes of a machine. -/
structure Did (c : Nat → Int) (n l : Nat) (s s2 : MachS) (g2 : GM) : Prop where
  e : s2.c = s.c ∧ s2.tp = s.tp ∧ s2.steps = s.steps ∧ s2.clk = (s.tick l).clk ∧ s2.fault = s.fault
  N : s2.mem.N = s.mem.N
  flt : s2.mem.flt = s.mem.flt
  acc : s2.mem.acc = s.mem.acc ∨ (s2.mem.acc = s.mem.acc + 1 ∧ s2.mem.last / firsts c 10 = (l : Int))
  wr : s2.mem.wr ≤ s.mem.wr + 1
  words : WordsM c s2.mem.f g2.w
  ward : WardM c (n + 1) s2.ward g2.held g2.wg
  thr : ThrM c s2.thr g2
  given : s2.given.length ≤ n + 1
section
variable {c : Nat → Int} {tp : List Nat} {n t l : Nat} {s s2 : MachS} {g g2 : GM} {thr : Nat → ThrS}
theorem AbsM.next (hA : AbsM c tp n s g) (h : Did c n l s s2 g2) : AbsM c tp (n + 1) (s2.after s l) g2 := by
  obtain ⟨a1, a2, a3, a4, a5, a6, a7, a8⟩ := after_same s2 s l
  obtain ⟨e1, e2, e3, e4, e5⟩ := h.e
  have hf : (s2.after s l).fault = false := by
    unfold MachS.after
    rw [(watch_given _ _ _ _).2]
    show (s2.fault || _) = false
    rw [e5, hA.fault, Bool.false_or]
    rcases h.acc with ea | ⟨ea, el⟩
    · show (decide (s2.mem.acc ≠ s.mem.acc) && _) = false
      rw [ea]; simp
    · unfold MachS.wrong MachS.lvOf
      show (_ && (decide ((s.mem.acc : Int) + 1 < (s2.mem.acc : Int)) || (_ && (decide ((l : Int) < s2.mem.last / firsts s2.c 10) || (_ && s2.mem.last / firsts s2.c 10 != (l : Int)))))) = false
      rw [ea, e1, hA.cc, el]
      simp
  refine ⟨a1.trans (e1.trans hA.cc), hA.may, a2.trans (e2.trans hA.ttp), by rw [a3, h.N]; exact hA.memN, by rw [a3]; exact h.words, by rw [a4]; exact h.ward, by rw [a5]; exact h.thr, by rw [a3, h.flt]; exact hA.flt, hf, ?_, ?_, ?_, fun k => ?_, by rw [a8]; exact h.given⟩
  · rw [a3]; have := hA.acc; rcases h.acc with ea | ⟨ea, _⟩ <;> omega
  · rw [a3]; have := hA.wr; have := h.wr; omega
  · rw [a7, e3]; have := hA.steps; omega
  · rw [a6, e4]
    show (if l ≤ k ∧ k < 4 then s.clk k + 1 else s.clk k) ≤ _
    have := hA.clk k
    split <;> omega
/-- A thread's top frame is another one. -/
theorem ThrM.top (h : ThrM c thr g) {fs : List Fr} {F : Fr} : ThrM c (fun j => if j = t then { thr t with frames := fs.map Fr.enc ++ [F.enc] } else thr j) (g.top t fs F) := by
  refine ⟨fun t' ht' => ?_, fun t' => ?_, fun t' j => ?_⟩
  · show _ = List.map Fr.enc (put1 g.thr t (fs ++ [F]) t')
    by_cases h1 : t' = t
    · subst h1; rw [put1_same, if_pos rfl]; simp
    · rw [put1_ne h1, if_neg h1]; exact h.fr t' ht'
  · by_cases h1 : t' = t
    · subst h1; rw [if_pos rfl]; exact h.run t'
    · rw [if_neg h1]; exact h.run t'
  · by_cases h1 : t' = t
    · subst h1; rw [if_pos rfl]; exact h.told t' j
    · rw [if_neg h1]; exact h.told t' j
/-- A thread's top frame is over. -/
theorem ThrM.back (h : ThrM c thr g) {fs : List Fr} {us : List Nat} {x : ThrS} (hx : x.frames.dropLast = fs.map Fr.enc ∧ x.st = (thr t).st ∧ x.ki = (thr t).ki) : ThrM c (fun j => if j = t then x.back (us.map fun u : Nat => (u : Int)) else thr j) (g.back t fs us) := by
  refine ⟨fun t' ht' => ?_, fun t' => ?_, fun t' j => ?_⟩
  · show _ = List.map Fr.enc (put1 g.thr t fs t')
    by_cases h1 : t' = t
    · subst h1; rw [put1_same, if_pos rfl]; exact hx.1
    · rw [put1_ne h1, if_neg h1]; exact h.fr t' ht'
  · by_cases h1 : t' = t
    · subst h1; rw [if_pos rfl]; show (x.st || x.ki) = false; rw [hx.2.1, hx.2.2]; exact h.run t'
    · rw [if_neg h1]; exact h.run t'
  · show _ = ((put1 g.told t (fun i => us.getD i 0) t' j : Nat) : Int)
    by_cases h1 : t' = t
    · subst h1
      rw [put1_same, if_pos rfl]
      show (us.map fun u : Nat => (u : Int)).getD j 0 = _
      rw [List.getD_eq_getElem?_getD, List.getD_eq_getElem?_getD, List.getElem?_map]
      cases us[j]? <;> rfl
    · rw [put1_ne h1, if_neg h1]; exact h.told t' j
/-- The memory behind one access. -/
def memTo' (m : MemS) (a : Int) (f : Nat → Int) (d : Nat) : MemS := { m with acc := m.acc + 1, last := a, named := true, f := f, wr := m.wr + d }
theorem at_to' {m : MemS} {a : Int} (h : m.hit a = true) : m.at_ a = memTo' m a m.f 0 := at_hit h
theorem store_to' {m : MemS} {a v : Int} (h : m.hit a = true) : m.store a v = memTo' m a (upd m.f a.toNat v) 1 := store_hit h
theorem cas_yes' {m : MemS} {a x v : Int} (h : m.hit a = true) (hs : m.swaps a x = true) : m.cas a x v = memTo' m a (upd m.f a.toNat v) 1 := by unfold MemS.cas; rw [if_pos hs]; exact store_hit h
theorem cas_no' {m : MemS} {a x v : Int} (h : m.hit a = true) (hs : m.swaps a x = false) : m.cas a x v = memTo' m a m.f 0 := by unfold MemS.cas; rw [hs]; exact at_hit h
theorem load_at' {m : MemS} {a : Int} {v : Int} (h : m.hit a = true) (hv : m.f a.toNat = v) : m.load a = v := (load_hit h).trans hv
/-- A bit of one access. -/
theorem Did.one {k d : Nat} {i j : Int} {f : Nat → Int} (hA : AbsM c tp n s g) (hk : InK c k i j) (hd : d ≤ 1) (e : s2.c = s.c ∧ s2.tp = s.tp ∧ s2.steps = s.steps ∧ s2.clk = (s.tick l).clk ∧ s2.fault = s.fault) (hm : s2.mem = memTo' s.mem (atK c (l : Nat) k i j) f d) (hW : WordsM c f g2.w) (hD : WardM c (n + 1) s2.ward g2.held g2.wg) (hT : ThrM c s2.thr g2) (hG : s2.given.length ≤ n + 1) : Did c n l s s2 g2 := by
  refine ⟨e, by rw [hm]; rfl, by rw [hm]; rfl, .inr ⟨by rw [hm]; rfl, ?_⟩, by rw [hm]; show s.mem.wr + d ≤ _; omega, by rw [hm]; exact hW, hD, hT, hG⟩
  rw [hm]
  have hs := firsts_succ c (k := k) hk.kind
  have h1 := off_lt hA.may hk
  have h31 := firsts_ten hA.may
  show atK c (l : Nat) k i j / firsts c 10 = _
  unfold offK at h1
  unfold atK
  generalize firsts c 10 = T at *
  rw [show (l : Int) * T + firsts c k + numK k i j = (firsts c k + numK k i j) + (l : Int) * T by omega, Int.add_mul_ediv_right _ _ (by omega), Int.ediv_eq_zero_of_lt h1.1 (by omega)]
  omega
/-- A bit of no access. -/
theorem Did.none (hA : AbsM c tp n s g) (e : s2.c = s.c ∧ s2.tp = s.tp ∧ s2.steps = s.steps ∧ s2.clk = (s.tick l).clk ∧ s2.fault = s.fault) (hm : s2.mem = s.mem) (hW : WordsM c s.mem.f g2.w) (hD : WardM c (n + 1) s2.ward g2.held g2.wg) (hT : ThrM c s2.thr g2) (hG : s2.given.length ≤ n + 1) : Did c n l s s2 g2 :=
  ⟨e, by rw [hm], by rw [hm], .inl (by rw [hm]), by rw [hm]; omega, by rw [hm]; exact hW, hD, hT, hG⟩
end
/-- What a function that does a bit of a thread's top frame makes of a machine. -/
def DoesTo (f : FuncId) (σ : World) (p t : Nat) (c : Nat → Int) (tp : List Nat) (n l : Nat) (g g2 : GM) : Prop := ∀ (K : Mm) (s : MachS) (M : Mm) (lab : Nat → Nat) (w : World), Has σ M w → Mach M lab p (s.tick l) → Base K M lab → AbsM c tp n s g → Calls Try.prog f #[.pointer (some ⟨p, 0, none⟩), .int .i64 (t : Nat)] w fun r w' => r = .returned (.tuple #[]) ∧ ∃ M' lab' s2, Has σ M' w' ∧ Mach M' lab' p s2 ∧ Base K M' lab' ∧ Did c n l s s2 g2
theorem frames_nil {l : List Fr} : (l.map Fr.enc).isEmpty = l.isEmpty := by cases l <;> rfl
/-- A step of a thread that is within something. -/
theorem step_does {σ w : World} {K M : Mm} {lab : Nat → Nat} {p t q l n : Nat} {s : MachS} {c : Nat → Int} {tp : List Nat} {g g2 : GM} {f : FuncId} (h : Has σ M w) (hM : Mach M lab p s) (hB : Base K M lab) (hA : AbsM c tp n s g) (hn : n < 100000) (ht : (t : Int) < c 1) (hq : tp[t]? = some q) (hl : levelOf c t = (l : Nat)) (hfr : g.thr t ≠ []) (hfl : (g.thr t).length < 100000) (hfl2 : (g2.thr t).length < 100000) (hent : entB Try.prog f = true) (hD : DoesTo f σ p t c tp n l g g2) :
    Calls Try.prog 21 #[.pointer (some ⟨p, 0, none⟩), .int .i64 (t : Nat), .func (.func f) #[] #[]] w fun r w' => ∃ M' lab' s', r = .returned (.bool (!(g2.thr t).isEmpty)) ∧ Has σ M' w' ∧ Mach M' lab' p s' ∧ Base K M' lab' ∧ AbsM c tp (n + 1) s' g2 := by
  have hfs := hA.thr.fr t ht
  have STP := step_eq (R := fun x => Did c n l s x g2) (F := f) (caps := #[]) h hM hB (t := t) (q := q) (lv := l) (by rw [hA.ttp]; exact hq) (by rw [hfs]; simpa using hfr) (hA.thr.run t) (by rw [hA.cc]; exact hl) (by have := hA.acc; omega) (by have := hA.steps; omega) (fun k => by have := hA.clk k; omega) (by rw [hfs, List.length_map]; omega) hent
    (fun M1 lab1 w1 h1 hM1 hB1 => by
      refine (hD K s M1 lab1 w1 h1 hM1 hB1 hA).mono fun r w' ⟨e, M', lab', s2, h', hM', hB', hd⟩ => ⟨e, M', lab', s2, h', hB', hM', hd⟩)
    (fun x hx => ⟨hx.e.2.1, by rw [hx.e.2.2.1]; have := hA.steps; omega, by rw [hx.thr.fr t ht, List.length_map]; omega⟩)
  refine STP.mono fun r w' hr => ?_
  obtain ⟨M', lab', x, hx, hr, h', hB', hM'⟩ := hr
  refine ⟨M', lab', x.after s l, by rw [hr, hx.thr.fr t ht, frames_nil], h', hM', hB', hA.next hx⟩
end
section
open Go.RowKit
set_option linter.unusedVariables false
set_option linter.unusedSimpArgs false
set_option linter.unnecessarySimpa false

theorem ep_zrun : (Try.prog.info? 92).bind (·.zero) = some (.agg #[.pointer none, .int .i64 0, .pointer none, .pointer none]) := by kernel_rfl
set_option maxHeartbeats 2000000 in
set_option maxRecDepth 20000 in
theorem ep_doPin {σ w : World} {K M : Mm} {lab : Nat → Nat} {p t q b : Nat} {s : MachS} {fs : List FrameS} {f : FrameS} (h : Has σ M w) (hT : AtTop K M lab p s t q b fs f) (hfn : f.fn = 10) (hfs : fs.length < 1000000) {R : MachS → Prop} (hstep : ∀ (K1 M1 : Mm) (lab1 : Nat → Nat) (w1 : World), Has σ M1 w1 → AtTop K1 M1 lab1 p s t q b fs f → Calls Try.prog 35 #[.agg (runC p t q b)] w1 fun r w' => r = .returned (.tuple #[]) ∧ ∃ M' lab' s', Has σ M' w' ∧ Mach M' lab' p s' ∧ Base K1 M' lab' ∧ R s') : Calls Try.prog 14 #[.pointer (some ⟨p, 0, none⟩), .int .i64 (t : Nat)] w fun r w' => r = .returned (.tuple #[]) ∧ ∃ M' lab' s', Has σ M' w' ∧ Base K M' lab' ∧ Mach M' lab' p s' ∧ R s' := by
  obtain ⟨fv, hv, fbs, hTh⟩ := hT.thr
  have hlen : fbs.length = fs.length := by
    have h1 := hTh.flen
    rw [hT.fr] at h1
    simpa using h1
  have TH := Lib.hid (fun (w : World) (h : Has σ M w) => mThread_yes h hT.mach hT.tp)
  have TP := Lib.hid (fun (w : World) (h : Has σ M w) => thrTop_eq h hTh (by omega))
  have hfb := hT.obj
  have f0 : f.row[0]? = some (.int .i64 f.fn) := rfl
  have HT := Lib.hid hT
  have HS := Lib.hid hstep
  rw [hfn] at f0
  clear hT hTh hlen hfs hfn hstep
  generalize f.row = fr0 at *
  go_enter Try.func14, Try.ntmps14
  go_upto_region 3 with (first
    | (go_at_call 15; refine (TH.out _ h).mono ?_; clear h; rintro _ w ⟨rfl, h⟩)
    | (go_at_call 20; refine (TP.out _ h).mono ?_; clear h; rintro _ w ⟨rfl, h⟩)
    | ((with_reducible show wpList _ _ _ ({ dst := _, op := Op.alloc 92, type := _, pos := _, after := _, guard := _ } :: _) _ _); refine wpList_alloc_has h rfl 92 rfl _ ep_zrun ?_; clear h; intro bx w h hnx; try simp only [Act.put, List.setIfInBounds_toArray, List.set_cons_zero, List.set_cons_succ])
    | ((with_reducible show wpList _ _ _ ({ dst := _, op := Op.store 92 _ _, type := _, pos := _, after := _, guard := _ } :: _) _ _); refine wpList_storeAll_has (cells := runC p t q b) h rfl 92 _ _ rfl rfl rfl (Mm.upd_same _ _ _) rfl rfl rfl (by kernel_rfl) rfl ?_; clear h; intro w h))
  rw [Mm.upd_upd] at h
  have hfb1 := Mm.upd_of (o := .cells (runC p t q b) 92) hnx hfb
  have hle := Mm.le_upd' hnx (.cells (runC p t q b) 92)
  have hbx := Mm.upd_same M bx (.cells (runC p t q b) 92)
  generalize M.upd bx _ = M1 at h hfb1 hle hbx
  obtain ⟨lab1, hT1⟩ := HT.out.more1 hle hnx hbx
  have hnK : K bx = none := by
    cases e : K bx with
    | none => rfl
    | some o => have := (HT.out.base _ _ e).1; rw [hnx] at this; cases this
  have HKK := Lib.hid (Mm.le_upd' hnK (.cells (runC p t q b) 92))
  have ST := Lib.hid (fun (w : World) (h : Has σ M1 w) => HS.out _ M1 lab1 w h hT1)
  clear hT1 hnK hnx hle TH TP
  unfold runC at ST hbx
  have dx : (#[.pointer (some ⟨p, 0, none⟩), .int .i64 (t : Nat), .pointer (some ⟨q, 0, none⟩), .pointer (some ⟨b, 0, none⟩)] : Array Value).extract 0 (0 + 4) = #[.pointer (some ⟨p, 0, none⟩), .int .i64 (t : Nat), .pointer (some ⟨q, 0, none⟩), .pointer (some ⟨b, 0, none⟩)] := rfl
  go_wp2_with (first
    | (with_reducible show wpList _ _ _ ({ dst := _, op := Op.load 3 _, type := _, pos := _, after := _, guard := _ } :: _) _ _; refine wpList_load1_has h rfl 3 _ rfl rfl hfb1 f0 Try.underlying3 rfl ?_)
    | ((with_reducible show wpList _ _ _ ({ dst := _, op := Op.load 92 _, type := _, pos := _, after := _, guard := _ } :: _) _ _); refine wpList_agg_has h rfl 92 _ rfl rfl hbx dx rfl Try.underlying92 rfl (by kernel_rfl) ?_; try simp only [Act.put, List.setIfInBounds_toArray, List.set_cons_zero, List.set_cons_succ])
    | (go_at_call 35; refine (ST.out _ h).mono ?_; clear h; rintro _ w ⟨rfl, M2, lab2, s2, h, hM2, hB2, hR2⟩))
  go_end0
  exact ⟨rfl, M2, lab2, s2, h, fun c o hc => hB2 c o (HKK.out _ _ hc), hM2, hR2⟩
set_option maxHeartbeats 2000000 in
set_option maxRecDepth 20000 in
theorem ep_doUnpin {σ w : World} {K M : Mm} {lab : Nat → Nat} {p t q b : Nat} {s : MachS} {fs : List FrameS} {f : FrameS} (h : Has σ M w) (hT : AtTop K M lab p s t q b fs f) (hfn : f.fn = 11) (hfs : fs.length < 1000000) {R : MachS → Prop} (hstep : ∀ (K1 M1 : Mm) (lab1 : Nat → Nat) (w1 : World), Has σ M1 w1 → AtTop K1 M1 lab1 p s t q b fs f → Calls Try.prog 36 #[.agg (runC p t q b)] w1 fun r w' => r = .returned (.tuple #[]) ∧ ∃ M' lab' s', Has σ M' w' ∧ Mach M' lab' p s' ∧ Base K1 M' lab' ∧ R s') : Calls Try.prog 14 #[.pointer (some ⟨p, 0, none⟩), .int .i64 (t : Nat)] w fun r w' => r = .returned (.tuple #[]) ∧ ∃ M' lab' s', Has σ M' w' ∧ Base K M' lab' ∧ Mach M' lab' p s' ∧ R s' := by
  obtain ⟨fv, hv, fbs, hTh⟩ := hT.thr
  have hlen : fbs.length = fs.length := by
    have h1 := hTh.flen
    rw [hT.fr] at h1
    simpa using h1
  have TH := Lib.hid (fun (w : World) (h : Has σ M w) => mThread_yes h hT.mach hT.tp)
  have TP := Lib.hid (fun (w : World) (h : Has σ M w) => thrTop_eq h hTh (by omega))
  have hfb := hT.obj
  have f0 : f.row[0]? = some (.int .i64 f.fn) := rfl
  have HT := Lib.hid hT
  have HS := Lib.hid hstep
  rw [hfn] at f0
  clear hT hTh hlen hfs hfn hstep
  generalize f.row = fr0 at *
  go_enter Try.func14, Try.ntmps14
  go_upto_region 3 with (first
    | (go_at_call 15; refine (TH.out _ h).mono ?_; clear h; rintro _ w ⟨rfl, h⟩)
    | (go_at_call 20; refine (TP.out _ h).mono ?_; clear h; rintro _ w ⟨rfl, h⟩)
    | ((with_reducible show wpList _ _ _ ({ dst := _, op := Op.alloc 92, type := _, pos := _, after := _, guard := _ } :: _) _ _); refine wpList_alloc_has h rfl 92 rfl _ ep_zrun ?_; clear h; intro bx w h hnx; try simp only [Act.put, List.setIfInBounds_toArray, List.set_cons_zero, List.set_cons_succ])
    | ((with_reducible show wpList _ _ _ ({ dst := _, op := Op.store 92 _ _, type := _, pos := _, after := _, guard := _ } :: _) _ _); refine wpList_storeAll_has (cells := runC p t q b) h rfl 92 _ _ rfl rfl rfl (Mm.upd_same _ _ _) rfl rfl rfl (by kernel_rfl) rfl ?_; clear h; intro w h))
  rw [Mm.upd_upd] at h
  have hfb1 := Mm.upd_of (o := .cells (runC p t q b) 92) hnx hfb
  have hle := Mm.le_upd' hnx (.cells (runC p t q b) 92)
  have hbx := Mm.upd_same M bx (.cells (runC p t q b) 92)
  generalize M.upd bx _ = M1 at h hfb1 hle hbx
  obtain ⟨lab1, hT1⟩ := HT.out.more1 hle hnx hbx
  have hnK : K bx = none := by
    cases e : K bx with
    | none => rfl
    | some o => have := (HT.out.base _ _ e).1; rw [hnx] at this; cases this
  have HKK := Lib.hid (Mm.le_upd' hnK (.cells (runC p t q b) 92))
  have ST := Lib.hid (fun (w : World) (h : Has σ M1 w) => HS.out _ M1 lab1 w h hT1)
  clear hT1 hnK hnx hle TH TP
  unfold runC at ST hbx
  have dx : (#[.pointer (some ⟨p, 0, none⟩), .int .i64 (t : Nat), .pointer (some ⟨q, 0, none⟩), .pointer (some ⟨b, 0, none⟩)] : Array Value).extract 0 (0 + 4) = #[.pointer (some ⟨p, 0, none⟩), .int .i64 (t : Nat), .pointer (some ⟨q, 0, none⟩), .pointer (some ⟨b, 0, none⟩)] := rfl
  go_wp2_with (first
    | (with_reducible show wpList _ _ _ ({ dst := _, op := Op.load 3 _, type := _, pos := _, after := _, guard := _ } :: _) _ _; refine wpList_load1_has h rfl 3 _ rfl rfl hfb1 f0 Try.underlying3 rfl ?_)
    | ((with_reducible show wpList _ _ _ ({ dst := _, op := Op.load 92 _, type := _, pos := _, after := _, guard := _ } :: _) _ _); refine wpList_agg_has h rfl 92 _ rfl rfl hbx dx rfl Try.underlying92 rfl (by kernel_rfl) ?_; try simp only [Act.put, List.setIfInBounds_toArray, List.set_cons_zero, List.set_cons_succ])
    | (go_at_call 36; refine (ST.out _ h).mono ?_; clear h; rintro _ w ⟨rfl, M2, lab2, s2, h, hM2, hB2, hR2⟩))
  go_end0
  exact ⟨rfl, M2, lab2, s2, h, fun c o hc => hB2 c o (HKK.out _ _ hc), hM2, hR2⟩
set_option maxHeartbeats 2000000 in
set_option maxRecDepth 20000 in
theorem ep_doAdv {σ w : World} {K M : Mm} {lab : Nat → Nat} {p t q b : Nat} {s : MachS} {fs : List FrameS} {f : FrameS} (h : Has σ M w) (hT : AtTop K M lab p s t q b fs f) (hfn : f.fn = 12) (hfs : fs.length < 1000000) {R : MachS → Prop} (hstep : ∀ (K1 M1 : Mm) (lab1 : Nat → Nat) (w1 : World), Has σ M1 w1 → AtTop K1 M1 lab1 p s t q b fs f → Calls Try.prog 37 #[.agg (runC p t q b)] w1 fun r w' => r = .returned (.tuple #[]) ∧ ∃ M' lab' s', Has σ M' w' ∧ Mach M' lab' p s' ∧ Base K1 M' lab' ∧ R s') : Calls Try.prog 14 #[.pointer (some ⟨p, 0, none⟩), .int .i64 (t : Nat)] w fun r w' => r = .returned (.tuple #[]) ∧ ∃ M' lab' s', Has σ M' w' ∧ Base K M' lab' ∧ Mach M' lab' p s' ∧ R s' := by
  obtain ⟨fv, hv, fbs, hTh⟩ := hT.thr
  have hlen : fbs.length = fs.length := by
    have h1 := hTh.flen
    rw [hT.fr] at h1
    simpa using h1
  have TH := Lib.hid (fun (w : World) (h : Has σ M w) => mThread_yes h hT.mach hT.tp)
  have TP := Lib.hid (fun (w : World) (h : Has σ M w) => thrTop_eq h hTh (by omega))
  have hfb := hT.obj
  have f0 : f.row[0]? = some (.int .i64 f.fn) := rfl
  have HT := Lib.hid hT
  have HS := Lib.hid hstep
  rw [hfn] at f0
  clear hT hTh hlen hfs hfn hstep
  generalize f.row = fr0 at *
  go_enter Try.func14, Try.ntmps14
  go_upto_region 3 with (first
    | (go_at_call 15; refine (TH.out _ h).mono ?_; clear h; rintro _ w ⟨rfl, h⟩)
    | (go_at_call 20; refine (TP.out _ h).mono ?_; clear h; rintro _ w ⟨rfl, h⟩)
    | ((with_reducible show wpList _ _ _ ({ dst := _, op := Op.alloc 92, type := _, pos := _, after := _, guard := _ } :: _) _ _); refine wpList_alloc_has h rfl 92 rfl _ ep_zrun ?_; clear h; intro bx w h hnx; try simp only [Act.put, List.setIfInBounds_toArray, List.set_cons_zero, List.set_cons_succ])
    | ((with_reducible show wpList _ _ _ ({ dst := _, op := Op.store 92 _ _, type := _, pos := _, after := _, guard := _ } :: _) _ _); refine wpList_storeAll_has (cells := runC p t q b) h rfl 92 _ _ rfl rfl rfl (Mm.upd_same _ _ _) rfl rfl rfl (by kernel_rfl) rfl ?_; clear h; intro w h))
  rw [Mm.upd_upd] at h
  have hfb1 := Mm.upd_of (o := .cells (runC p t q b) 92) hnx hfb
  have hle := Mm.le_upd' hnx (.cells (runC p t q b) 92)
  have hbx := Mm.upd_same M bx (.cells (runC p t q b) 92)
  generalize M.upd bx _ = M1 at h hfb1 hle hbx
  obtain ⟨lab1, hT1⟩ := HT.out.more1 hle hnx hbx
  have hnK : K bx = none := by
    cases e : K bx with
    | none => rfl
    | some o => have := (HT.out.base _ _ e).1; rw [hnx] at this; cases this
  have HKK := Lib.hid (Mm.le_upd' hnK (.cells (runC p t q b) 92))
  have ST := Lib.hid (fun (w : World) (h : Has σ M1 w) => HS.out _ M1 lab1 w h hT1)
  clear hT1 hnK hnx hle TH TP
  unfold runC at ST hbx
  have dx : (#[.pointer (some ⟨p, 0, none⟩), .int .i64 (t : Nat), .pointer (some ⟨q, 0, none⟩), .pointer (some ⟨b, 0, none⟩)] : Array Value).extract 0 (0 + 4) = #[.pointer (some ⟨p, 0, none⟩), .int .i64 (t : Nat), .pointer (some ⟨q, 0, none⟩), .pointer (some ⟨b, 0, none⟩)] := rfl
  go_wp2_with (first
    | (with_reducible show wpList _ _ _ ({ dst := _, op := Op.load 3 _, type := _, pos := _, after := _, guard := _ } :: _) _ _; refine wpList_load1_has h rfl 3 _ rfl rfl hfb1 f0 Try.underlying3 rfl ?_)
    | ((with_reducible show wpList _ _ _ ({ dst := _, op := Op.load 92 _, type := _, pos := _, after := _, guard := _ } :: _) _ _); refine wpList_agg_has h rfl 92 _ rfl rfl hbx dx rfl Try.underlying92 rfl (by kernel_rfl) ?_; try simp only [Act.put, List.setIfInBounds_toArray, List.set_cons_zero, List.set_cons_succ])
    | (go_at_call 37; refine (ST.out _ h).mono ?_; clear h; rintro _ w ⟨rfl, M2, lab2, s2, h, hM2, hB2, hR2⟩))
  go_end0
  exact ⟨rfl, M2, lab2, s2, h, fun c o hc => hB2 c o (HKK.out _ _ hc), hM2, hR2⟩
set_option maxHeartbeats 2000000 in
set_option maxRecDepth 20000 in
/-- Do of another routine. -/
theorem ep_doOther {σ w : World} {K M : Mm} {lab : Nat → Nat} {p t q b : Nat} {s : MachS} {fs : List FrameS} {f : FrameS} (h : Has σ M w) (hT : AtTop K M lab p s t q b fs f) (h10 : f.fn ≠ 10) (h11 : f.fn ≠ 11) (h12 : f.fn ≠ 12) (hfs : fs.length < 1000000) {R : MachS → Prop} (hstep : ∀ (K1 M1 : Mm) (lab1 : Nat → Nat) (w1 : World), Has σ M1 w1 → AtTop K1 M1 lab1 p s t q b fs f → Calls Try.prog 38 #[.pointer (some ⟨p, 0, none⟩), .int .i64 (t : Nat)] w1 fun r w' => r = .returned (.tuple #[]) ∧ ∃ M' lab' s', Has σ M' w' ∧ Mach M' lab' p s' ∧ Base K1 M' lab' ∧ R s') : Calls Try.prog 14 #[.pointer (some ⟨p, 0, none⟩), .int .i64 (t : Nat)] w fun r w' => r = .returned (.tuple #[]) ∧ ∃ M' lab' s', Has σ M' w' ∧ Base K M' lab' ∧ Mach M' lab' p s' ∧ R s' := by
  obtain ⟨fv, hv, fbs, hTh⟩ := hT.thr
  have hlen : fbs.length = fs.length := by
    have h1 := hTh.flen
    rw [hT.fr] at h1
    simpa using h1
  have TH := Lib.hid (fun (w : World) (h : Has σ M w) => mThread_yes h hT.mach hT.tp)
  have TP := Lib.hid (fun (w : World) (h : Has σ M w) => thrTop_eq h hTh (by omega))
  have hfb := hT.obj
  have f0 : f.row[0]? = some (.int .i64 f.fn) := rfl
  have HT := Lib.hid hT
  have HS := Lib.hid hstep
  have g1 : (f.fn == 10) = false := beq_eq_false_iff_ne.2 h10
  have g2 : (f.fn == 11) = false := beq_eq_false_iff_ne.2 h11
  have g3 : (f.fn == 12) = false := beq_eq_false_iff_ne.2 h12
  clear hT hTh hlen hfs hstep h10 h11 h12
  generalize f.row = fr0 at *
  generalize hfnn : f.fn = fnn at *
  clear hfnn
  go_enter Try.func14, Try.ntmps14
  go_upto_region 3 with (first
    | (go_at_call 15; refine (TH.out _ h).mono ?_; clear h; rintro _ w ⟨rfl, h⟩)
    | (go_at_call 20; refine (TP.out _ h).mono ?_; clear h; rintro _ w ⟨rfl, h⟩)
    | ((with_reducible show wpList _ _ _ ({ dst := _, op := Op.alloc 92, type := _, pos := _, after := _, guard := _ } :: _) _ _); refine wpList_alloc_has h rfl 92 rfl _ ep_zrun ?_; clear h; intro bx w h hnx; try simp only [Act.put, List.setIfInBounds_toArray, List.set_cons_zero, List.set_cons_succ])
    | ((with_reducible show wpList _ _ _ ({ dst := _, op := Op.store 92 _ _, type := _, pos := _, after := _, guard := _ } :: _) _ _); refine wpList_storeAll_has (cells := runC p t q b) h rfl 92 _ _ rfl rfl rfl (Mm.upd_same _ _ _) rfl rfl rfl (by kernel_rfl) rfl ?_; clear h; intro w h))
  rw [Mm.upd_upd] at h
  have hfb1 := Mm.upd_of (o := .cells (runC p t q b) 92) hnx hfb
  have hle := Mm.le_upd' hnx (.cells (runC p t q b) 92)
  have hbx := Mm.upd_same M bx (.cells (runC p t q b) 92)
  generalize M.upd bx _ = M1 at h hfb1 hle hbx
  obtain ⟨lab1, hT1⟩ := HT.out.more1 hle hnx hbx
  have hnK : K bx = none := by
    cases e : K bx with
    | none => rfl
    | some o => have := (HT.out.base _ _ e).1; rw [hnx] at this; cases this
  have HKK := Lib.hid (Mm.le_upd' hnK (.cells (runC p t q b) 92))
  have ST := Lib.hid (fun (w : World) (h : Has σ M1 w) => HS.out _ M1 lab1 w h hT1)
  clear hT1 hnK hnx hle TH TP
  go_wp2_with (first
    | (with_reducible show wpList _ _ _ ({ dst := _, op := Op.load 3 _, type := _, pos := _, after := _, guard := _ } :: _) _ _; refine wpList_load1_has h rfl 3 _ rfl rfl hfb1 f0 Try.underlying3 rfl ?_)
    | (go_at_call 38; refine (ST.out _ h).mono ?_; clear h; rintro _ w ⟨rfl, M2, lab2, s2, h, hM2, hB2, hR2⟩))
  go_end0
  exact ⟨rfl, M2, lab2, s2, h, fun c o hc => hB2 c o (HKK.out _ _ hc), hM2, hR2⟩
theorem inK_epoch (c : Nat → Int) : InK c 1 0 0 := ⟨by omega, by unfold baseK; simp, by omega, by omega, fun _ => rfl, by unfold numK many baseK; simp⟩
theorem inK_active (c : Nat → Int) {t : Nat} (h : t < 8) : InK c 6 (t : Nat) 0 := ⟨by omega, by unfold baseK; simp, by omega, by omega, fun _ => rfl, by unfold numK many baseK; simp; omega⟩
theorem off_epoch (c : Nat → Int) : offK c 1 0 0 = 1 := by unfold offK firsts numK baseK; simp
theorem off_active (c : Nat → Int) (t : Nat) : offK c 6 (t : Nat) 0 = 10 + t := by unfold offK firsts numK baseK; simp; omega
theorem ThrM.set {c : Nat → Int} {thr : Nat → ThrS} {g : GM} (h : ThrM c thr g) (l o v : Nat) : ThrM c thr (g.set l o v) := ⟨h.fr, h.run, h.told⟩
/-- From a machine as numbers to a thread's top frame. -/
theorem AbsM.atTop {K M : Mm} {lab : Nat → Nat} {p t q l n : Nat} {c : Nat → Int} {tp : List Nat} {s : MachS} {g : GM} {fs : List Fr} {F : Fr} (hA : AbsM c tp n s g) (hM : Mach M lab p (s.tick l)) (hB : Base K M lab) (ht : (t : Int) < c 1) (hq : tp[t]? = some q) (hthr : g.thr t = fs ++ [F]) : ∃ b, AtTop K M lab p (s.tick l) t q b (fs.map Fr.enc) F.enc := by
  refine AtTop.of hM hB (by show s.tp[t]? = _; rw [hA.ttp]; exact hq) ?_
  show (s.thr t).frames = _
  rw [hA.thr.fr t ht, hthr, List.map_append]
  rfl
theorem does_pin0 {σ : World} {p t q l n : Nat} {c : Nat → Int} {tp : List Nat} {g : GM} {fs : List Fr} {F : Fr} (hn : n < 100000) (ht : (t : Int) < c 1) (hq : tp[t]? = some q) (hl : levelOf c t = (l : Nat)) (hlc : (l : Int) < c 0) (hthr : g.thr t = fs ++ [F]) (hfs : fs.length < 100000) (h1 : F.fn = 10) (hp : F.pc = 0) : DoesTo 14 σ p t c tp n l g (g.top t fs ((F.reg 0 (g.w l 1)).goto 1)) := by
  intro K s M lab w h hM hB hA
  obtain ⟨b, hT⟩ := hA.atTop hM hB ht hq hthr
  obtain rfl := hA.cc
  have hmay := hA.may
  have b1 : (s.tick l).mem.acc < 1000000000 := by show s.mem.acc < _; have := hA.acc; omega
  have b2 : (s.tick l).mem.wr < 1000000000 := by show s.mem.wr < _; have := hA.wr; omega
  have hl' : levelOf (s.tick l).c (t : Nat) = (l : Nat) := hl
  have hlc' : (l : Int) < (s.tick l).c 0 := hlc
  have hfs' : (fs.map Fr.enc).length < 1000000 := by rw [List.length_map]; omega
  have gl : s.given.length ≤ n + 1 := Nat.le_succ_of_le hA.given
  have hk := inK_epoch s.c
  have hit := atK_hit hmay hA.memN hlc hk
  have hv : s.mem.load (atK s.c (l : Nat) 1 0 0) = (g.w l 1 : Int) := load_at' hit (by rw [hA.words.at hmay hlc hk, off_epoch])
  refine (ep_doPin h hT (by show (F.fn : Int) = 10; omega) hfs' (R := fun s' => Did s.c n l s s' (g.top t fs ((F.reg 0 (g.w l 1)).goto 1))) fun K1 M1 lab1 w1 h1' hT1 => ?_).mono fun r w' ⟨e, M', lab', s', a1, a2, a3, a4⟩ => ⟨e, M', lab', s', a1, a3, a2, a4⟩
  refine (pin_0 h1' hT1 (by show (F.pc : Int) = 0; omega) (spotAt_of hT1.mach hl' hlc' hk) b1).mono fun r w' ⟨e, M', lab', h', hT'⟩ => ⟨e, M', lab', _, h', hT'.mach, hT'.base, ?_⟩
  refine Did.one hA hk (Nat.zero_le _) ⟨rfl, rfl, rfl, rfl, rfl⟩ (at_to' hit) hA.words (hA.ward.mono (Nat.le_succ _)) ?_ gl
  have := hA.thr.top (t := t) (fs := fs) (F := (F.reg 0 (g.w l 1)).goto 1)
  rw [← fr_goto, ← fr_reg, ← hv] at this
  exact this
theorem does_pin1 {σ : World} {p t q l n : Nat} {c : Nat → Int} {tp : List Nat} {g : GM} {fs : List Fr} {F : Fr} (hn : n < 100000) (ht : (t : Int) < c 1) (hq : tp[t]? = some q) (hl : levelOf c t = (l : Nat)) (hlc : (l : Int) < c 0) (hthr : g.thr t = fs ++ [F]) (hfs : fs.length < 100000) (h8 : t < 8) (h1 : F.fn = 10) (hp : F.pc = 1) (hr : F.r 0 < 4611686018427387904) : DoesTo 14 σ p t c tp n l g ((g.set l (10 + t) (2 * F.r 0 + 1)).top t fs (F.goto 2)) := by
  intro K s M lab w h hM hB hA
  obtain ⟨b, hT⟩ := hA.atTop hM hB ht hq hthr
  obtain rfl := hA.cc
  have hmay := hA.may
  have b1 : (s.tick l).mem.acc < 1000000000 := by show s.mem.acc < _; have := hA.acc; omega
  have b2 : (s.tick l).mem.wr < 1000000000 := by show s.mem.wr < _; have := hA.wr; omega
  have hl' : levelOf (s.tick l).c (t : Nat) = (l : Nat) := hl
  have hlc' : (l : Int) < (s.tick l).c 0 := hlc
  have hfs' : (fs.map Fr.enc).length < 1000000 := by rw [List.length_map]; omega
  have gl : s.given.length ≤ n + 1 := Nat.le_succ_of_le hA.given
  have hk := inK_active s.c h8
  have hit := atK_hit hmay hA.memN hlc hk
  refine (ep_doPin h hT (by show (F.fn : Int) = 10; omega) hfs' (R := fun s' => Did s.c n l s s' ((g.set l (10 + t) (2 * F.r 0 + 1)).top t fs (F.goto 2))) fun K1 M1 lab1 w1 h1' hT1 => ?_).mono fun r w' ⟨e, M', lab', s', a1, a2, a3, a4⟩ => ⟨e, M', lab', s', a1, a3, a2, a4⟩
  refine (pin_1 h1' hT1 (by show (F.pc : Int) = 1; omega) (x := F.r 0) rfl hr (spotAt_of hT1.mach hl' hlc' hk) b1 b2).mono fun r w' ⟨e, M', lab', h', hT'⟩ => ⟨e, M', lab', _, h', hT'.mach, hT'.base, ?_⟩
  refine Did.one hA hk (Nat.le_refl _) ⟨rfl, rfl, rfl, rfl, rfl⟩ (store_to' hit) ?_ (hA.ward.mono (Nat.le_succ _)) ((hA.thr.set l (10 + t) (2 * F.r 0 + 1)).top (t := t) (fs := fs) (F := F.goto 2)) gl
  have := hA.words.set hmay (l := l) hk (2 * F.r 0 + 1)
  rw [off_active] at this
  exact this
theorem does_pin2 {σ : World} {p t q l n : Nat} {c : Nat → Int} {tp : List Nat} {g : GM} {fs : List Fr} {F : Fr} (hn : n < 100000) (ht : (t : Int) < c 1) (hq : tp[t]? = some q) (hl : levelOf c t = (l : Nat)) (hlc : (l : Int) < c 0) (hthr : g.thr t = fs ++ [F]) (hfs : fs.length < 100000) (h1 : F.fn = 10) (hp : F.pc = 2) : DoesTo 14 σ p t c tp n l g (g.back t fs [g.w l 1]) := by
  intro K s M lab w h hM hB hA
  obtain ⟨b, hT⟩ := hA.atTop hM hB ht hq hthr
  obtain rfl := hA.cc
  have hmay := hA.may
  have b1 : (s.tick l).mem.acc < 1000000000 := by show s.mem.acc < _; have := hA.acc; omega
  have b2 : (s.tick l).mem.wr < 1000000000 := by show s.mem.wr < _; have := hA.wr; omega
  have hl' : levelOf (s.tick l).c (t : Nat) = (l : Nat) := hl
  have hlc' : (l : Int) < (s.tick l).c 0 := hlc
  have hfs' : (fs.map Fr.enc).length < 1000000 := by rw [List.length_map]; omega
  have gl : s.given.length ≤ n + 1 := Nat.le_succ_of_le hA.given
  have hk := inK_epoch s.c
  have hit := atK_hit hmay hA.memN hlc hk
  have hv : s.mem.load (atK s.c (l : Nat) 1 0 0) = (g.w l 1 : Int) := load_at' hit (by rw [hA.words.at hmay hlc hk, off_epoch])
  refine (ep_doPin h hT (by show (F.fn : Int) = 10; omega) hfs' (R := fun s' => Did s.c n l s s' (g.back t fs [g.w l 1])) fun K1 M1 lab1 w1 h1' hT1 => ?_).mono fun r w' ⟨e, M', lab', s', a1, a2, a3, a4⟩ => ⟨e, M', lab', s', a1, a3, a2, a4⟩
  refine (pin_2 h1' hT1 (by show (F.pc : Int) = 2; omega) (spotAt_of hT1.mach hl' hlc' hk) b1 hfs').mono fun r w' ⟨e, M', lab', h', hM', hB'⟩ => ⟨e, M', lab', _, h', hM', hB', ?_⟩
  refine Did.one hA hk (Nat.zero_le _) ⟨rfl, rfl, rfl, rfl, rfl⟩ (at_to' hit) hA.words (hA.ward.mono (Nat.le_succ _)) ?_ gl
  have := hA.thr.back (t := t) (fs := fs) (us := [g.w l 1]) (x := s.thr t) ⟨by rw [hA.thr.fr t ht, hthr]; simp, rfl, rfl⟩
  rw [List.map_cons, List.map_nil, ← hv] at this
  exact this
theorem does_unpin {σ : World} {p t q l n : Nat} {c : Nat → Int} {tp : List Nat} {g : GM} {fs : List Fr} {F : Fr} (hn : n < 100000) (ht : (t : Int) < c 1) (hq : tp[t]? = some q) (hl : levelOf c t = (l : Nat)) (hlc : (l : Int) < c 0) (hthr : g.thr t = fs ++ [F]) (hfs : fs.length < 100000) (h8 : t < 8) (h1 : F.fn = 11) : DoesTo 14 σ p t c tp n l g ((g.set l (10 + t) 0).back t fs []) := by
  intro K s M lab w h hM hB hA
  obtain ⟨b, hT⟩ := hA.atTop hM hB ht hq hthr
  obtain rfl := hA.cc
  have hmay := hA.may
  have b1 : (s.tick l).mem.acc < 1000000000 := by show s.mem.acc < _; have := hA.acc; omega
  have b2 : (s.tick l).mem.wr < 1000000000 := by show s.mem.wr < _; have := hA.wr; omega
  have hl' : levelOf (s.tick l).c (t : Nat) = (l : Nat) := hl
  have hlc' : (l : Int) < (s.tick l).c 0 := hlc
  have hfs' : (fs.map Fr.enc).length < 1000000 := by rw [List.length_map]; omega
  have gl : s.given.length ≤ n + 1 := Nat.le_succ_of_le hA.given
  have hk := inK_active s.c h8
  have hit := atK_hit hmay hA.memN hlc hk
  refine (ep_doUnpin h hT (by show (F.fn : Int) = 11; omega) hfs' (R := fun s' => Did s.c n l s s' ((g.set l (10 + t) 0).back t fs [])) fun K1 M1 lab1 w1 h1' hT1 => ?_).mono fun r w' ⟨e, M', lab', s', a1, a2, a3, a4⟩ => ⟨e, M', lab', s', a1, a3, a2, a4⟩
  refine (unpin_0 h1' hT1 (spotAt_of hT1.mach hl' hlc' hk) b1 b2 hfs').mono fun r w' ⟨e, M', lab', h', hM', hB'⟩ => ⟨e, M', lab', _, h', hM', hB', ?_⟩
  refine Did.one hA hk (Nat.le_refl _) ⟨rfl, rfl, rfl, rfl, rfl⟩ (store_to' hit) ?_ (hA.ward.mono (Nat.le_succ _)) ((hA.thr.set l (10 + t) 0).back (t := t) (fs := fs) (us := []) (x := s.thr t) ⟨by rw [hA.thr.fr t ht, hthr]; simp, rfl, rfl⟩) gl
  have := hA.words.set hmay (l := l) hk 0
  rw [off_active] at this
  exact this
theorem does_adv0 {σ : World} {p t q l n : Nat} {c : Nat → Int} {tp : List Nat} {g : GM} {fs : List Fr} {F : Fr} (hn : n < 100000) (ht : (t : Int) < c 1) (hq : tp[t]? = some q) (hl : levelOf c t = (l : Nat)) (hlc : (l : Int) < c 0) (hthr : g.thr t = fs ++ [F]) (hfs : fs.length < 100000) {T : Nat} (hT1c : c 1 = (T : Nat)) (h1 : F.fn = 12) (hp : F.pc = 0) : DoesTo 14 σ p t c tp n l g (g.top t fs ((F.reg 0 (g.w l 1)).goto 1)) := by
  intro K s M lab w h hM hB hA
  obtain ⟨b, hT⟩ := hA.atTop hM hB ht hq hthr
  obtain rfl := hA.cc
  have hmay := hA.may
  have b1 : (s.tick l).mem.acc < 1000000000 := by show s.mem.acc < _; have := hA.acc; omega
  have b2 : (s.tick l).mem.wr < 1000000000 := by show s.mem.wr < _; have := hA.wr; omega
  have hl' : levelOf (s.tick l).c (t : Nat) = (l : Nat) := hl
  have hlc' : (l : Int) < (s.tick l).c 0 := hlc
  have hfs' : (fs.map Fr.enc).length < 1000000 := by rw [List.length_map]; omega
  have gl : s.given.length ≤ n + 1 := Nat.le_succ_of_le hA.given
  have hk := inK_epoch s.c
  have hit := atK_hit hmay hA.memN hlc hk
  have hv : s.mem.load (atK s.c (l : Nat) 1 0 0) = (g.w l 1 : Int) := load_at' hit (by rw [hA.words.at hmay hlc hk, off_epoch])
  refine (ep_doAdv h hT (by show (F.fn : Int) = 12; omega) hfs' (R := fun s' => Did s.c n l s s' (g.top t fs ((F.reg 0 (g.w l 1)).goto 1))) fun K1 M1 lab1 w1 h1' hT1 => ?_).mono fun r w' ⟨e, M', lab', s', a1, a2, a3, a4⟩ => ⟨e, M', lab', s', a1, a3, a2, a4⟩
  refine (adv_0 h1' hT1 (by show (F.pc : Int) = 0; omega) hl' hT1c (spotAt_of hT1.mach hl' hlc' hk) b1).mono fun r w' ⟨e, M', lab', h', hT'⟩ => ⟨e, M', lab', _, h', hT'.mach, hT'.base, ?_⟩
  refine Did.one hA hk (Nat.zero_le _) ⟨rfl, rfl, rfl, rfl, rfl⟩ (at_to' hit) hA.words (hA.ward.mono (Nat.le_succ _)) ?_ gl
  have := hA.thr.top (t := t) (fs := fs) (F := (F.reg 0 (g.w l 1)).goto 1)
  rw [← fr_goto, ← fr_reg, ← hv] at this
  exact this
theorem does_lag {σ : World} {p t q l n : Nat} {c : Nat → Int} {tp : List Nat} {g : GM} {fs : List Fr} {F : Fr} (hn : n < 100000) (ht : (t : Int) < c 1) (hq : tp[t]? = some q) (hl : levelOf c t = (l : Nat)) (hlc : (l : Int) < c 0) (hthr : g.thr t = fs ++ [F]) (hfs : fs.length < 100000) {T : Nat} (hT1c : c 1 = (T : Nat)) (h1 : F.fn = 12) (hp : F.pc = 1) {y : Nat} (hy : (atC c T l)[F.r 1]? = some y) (hr8 : F.r 1 < 8) (hr : F.r 0 < 4611686018427387904) (hz : g.w l (10 + y) < 18446744073709551616) (hlag : lagsN (g.w l (10 + y)) (F.r 0) = true) : DoesTo 14 σ p t c tp n l g (g.back t fs [0]) := by
  intro K s M lab w h hM hB hA
  obtain ⟨b, hT⟩ := hA.atTop hM hB ht hq hthr
  obtain rfl := hA.cc
  have hmay := hA.may
  have b1 : (s.tick l).mem.acc < 1000000000 := by show s.mem.acc < _; have := hA.acc; omega
  have b2 : (s.tick l).mem.wr < 1000000000 := by show s.mem.wr < _; have := hA.wr; omega
  have hl' : levelOf (s.tick l).c (t : Nat) = (l : Nat) := hl
  have hlc' : (l : Int) < (s.tick l).c 0 := hlc
  have hfs' : (fs.map Fr.enc).length < 1000000 := by rw [List.length_map]; omega
  have gl : s.given.length ≤ n + 1 := Nat.le_succ_of_le hA.given
  have y8 : y < 8 := by
    have hm := List.mem_of_getElem? hy
    have := List.mem_range.1 (List.mem_filter.1 hm).1
    have := hmay.2.1
    omega
  have hk := inK_active s.c y8
  have hit := atK_hit hmay hA.memN hlc hk
  have hv : s.mem.load (atK s.c (l : Nat) 6 (y : Nat) 0) = (g.w l (10 + y) : Int) := load_at' hit (by rw [hA.words.at hmay hlc hk, off_active])
  refine (ep_doAdv h hT (by show (F.fn : Int) = 12; omega) hfs' (R := fun s' => Did s.c n l s s' (g.back t fs [0])) fun K1 M1 lab1 w1 h1' hT1 => ?_).mono fun r w' ⟨e, M', lab', s', a1, a2, a3, a4⟩ => ⟨e, M', lab', s', a1, a3, a2, a4⟩
  refine (adv_1lag h1' hT1 (by show (F.pc : Int) = 1; omega) hl' hT1c rfl (x := F.r 0) (r := F.r 1) (y := y) rfl hr rfl hr8 hy (spotAt_of hT1.mach hl' hlc' hk) hv hz b1 hlag hfs').mono fun r w' ⟨e, M', lab', h', hM', hB'⟩ => ⟨e, M', lab', _, h', hM', hB', ?_⟩
  exact Did.one hA hk (Nat.zero_le _) ⟨rfl, rfl, rfl, rfl, rfl⟩ (at_to' hit) hA.words (hA.ward.mono (Nat.le_succ _)) (hA.thr.back (t := t) (fs := fs) (us := [0]) (x := s.thr t) ⟨by rw [hA.thr.fr t ht, hthr]; simp, rfl, rfl⟩) gl
theorem does_on {σ : World} {p t q l n : Nat} {c : Nat → Int} {tp : List Nat} {g : GM} {fs : List Fr} {F : Fr} (hn : n < 100000) (ht : (t : Int) < c 1) (hq : tp[t]? = some q) (hl : levelOf c t = (l : Nat)) (hlc : (l : Int) < c 0) (hthr : g.thr t = fs ++ [F]) (hfs : fs.length < 100000) {T : Nat} (hT1c : c 1 = (T : Nat)) (h1 : F.fn = 12) (hp : F.pc = 1) {y : Nat} (hy : (atC c T l)[F.r 1]? = some y) (hr8 : F.r 1 < 8) (hr : F.r 0 < 4611686018427387904) (hz : g.w l (10 + y) < 18446744073709551616) (hlag : lagsN (g.w l (10 + y)) (F.r 0) = false) (hne : F.r 1 + 1 ≠ (atC c T l).length) : DoesTo 14 σ p t c tp n l g (g.top t fs (F.reg 1 (F.r 1 + 1))) := by
  intro K s M lab w h hM hB hA
  obtain ⟨b, hT⟩ := hA.atTop hM hB ht hq hthr
  obtain rfl := hA.cc
  have hmay := hA.may
  have b1 : (s.tick l).mem.acc < 1000000000 := by show s.mem.acc < _; have := hA.acc; omega
  have b2 : (s.tick l).mem.wr < 1000000000 := by show s.mem.wr < _; have := hA.wr; omega
  have hl' : levelOf (s.tick l).c (t : Nat) = (l : Nat) := hl
  have hlc' : (l : Int) < (s.tick l).c 0 := hlc
  have hfs' : (fs.map Fr.enc).length < 1000000 := by rw [List.length_map]; omega
  have gl : s.given.length ≤ n + 1 := Nat.le_succ_of_le hA.given
  have y8 : y < 8 := by
    have hm := List.mem_of_getElem? hy
    have := List.mem_range.1 (List.mem_filter.1 hm).1
    have := hmay.2.1
    omega
  have hk := inK_active s.c y8
  have hit := atK_hit hmay hA.memN hlc hk
  have hv : s.mem.load (atK s.c (l : Nat) 6 (y : Nat) 0) = (g.w l (10 + y) : Int) := load_at' hit (by rw [hA.words.at hmay hlc hk, off_active])
  refine (ep_doAdv h hT (by show (F.fn : Int) = 12; omega) hfs' (R := fun s' => Did s.c n l s s' (g.top t fs (F.reg 1 (F.r 1 + 1)))) fun K1 M1 lab1 w1 h1' hT1 => ?_).mono fun r w' ⟨e, M', lab', s', a1, a2, a3, a4⟩ => ⟨e, M', lab', s', a1, a3, a2, a4⟩
  refine (adv_1on h1' hT1 (by show (F.pc : Int) = 1; omega) hl' hT1c rfl (x := F.r 0) (r := F.r 1) (y := y) rfl hr rfl hr8 hy (spotAt_of hT1.mach hl' hlc' hk) hv hz b1 hlag hne).mono fun r w' ⟨e, M', lab', h', hT'⟩ => ⟨e, M', lab', _, h', hT'.mach, hT'.base, ?_⟩
  refine Did.one hA hk (Nat.zero_le _) ⟨rfl, rfl, rfl, rfl, rfl⟩ (at_to' hit) hA.words (hA.ward.mono (Nat.le_succ _)) ?_ gl
  have := hA.thr.top (t := t) (fs := fs) (F := F.reg 1 (F.r 1 + 1))
  rw [← fr_reg] at this
  exact this
theorem does_last {σ : World} {p t q l n : Nat} {c : Nat → Int} {tp : List Nat} {g : GM} {fs : List Fr} {F : Fr} (hn : n < 100000) (ht : (t : Int) < c 1) (hq : tp[t]? = some q) (hl : levelOf c t = (l : Nat)) (hlc : (l : Int) < c 0) (hthr : g.thr t = fs ++ [F]) (hfs : fs.length < 100000) {T : Nat} (hT1c : c 1 = (T : Nat)) (h1 : F.fn = 12) (hp : F.pc = 1) {y : Nat} (hy : (atC c T l)[F.r 1]? = some y) (hr8 : F.r 1 < 8) (hr : F.r 0 < 4611686018427387904) (hz : g.w l (10 + y) < 18446744073709551616) (hlag : lagsN (g.w l (10 + y)) (F.r 0) = false) (hne : F.r 1 + 1 = (atC c T l).length) : DoesTo 14 σ p t c tp n l g (g.top t fs ((F.reg 1 (F.r 1 + 1)).goto 2)) := by
  intro K s M lab w h hM hB hA
  obtain ⟨b, hT⟩ := hA.atTop hM hB ht hq hthr
  obtain rfl := hA.cc
  have hmay := hA.may
  have b1 : (s.tick l).mem.acc < 1000000000 := by show s.mem.acc < _; have := hA.acc; omega
  have b2 : (s.tick l).mem.wr < 1000000000 := by show s.mem.wr < _; have := hA.wr; omega
  have hl' : levelOf (s.tick l).c (t : Nat) = (l : Nat) := hl
  have hlc' : (l : Int) < (s.tick l).c 0 := hlc
  have hfs' : (fs.map Fr.enc).length < 1000000 := by rw [List.length_map]; omega
  have gl : s.given.length ≤ n + 1 := Nat.le_succ_of_le hA.given
  have y8 : y < 8 := by
    have hm := List.mem_of_getElem? hy
    have := List.mem_range.1 (List.mem_filter.1 hm).1
    have := hmay.2.1
    omega
  have hk := inK_active s.c y8
  have hit := atK_hit hmay hA.memN hlc hk
  have hv : s.mem.load (atK s.c (l : Nat) 6 (y : Nat) 0) = (g.w l (10 + y) : Int) := load_at' hit (by rw [hA.words.at hmay hlc hk, off_active])
  refine (ep_doAdv h hT (by show (F.fn : Int) = 12; omega) hfs' (R := fun s' => Did s.c n l s s' (g.top t fs ((F.reg 1 (F.r 1 + 1)).goto 2))) fun K1 M1 lab1 w1 h1' hT1 => ?_).mono fun r w' ⟨e, M', lab', s', a1, a2, a3, a4⟩ => ⟨e, M', lab', s', a1, a3, a2, a4⟩
  refine (adv_1last h1' hT1 (by show (F.pc : Int) = 1; omega) hl' hT1c rfl (x := F.r 0) (r := F.r 1) (y := y) rfl hr rfl hr8 hy (spotAt_of hT1.mach hl' hlc' hk) hv hz b1 hlag hne).mono fun r w' ⟨e, M', lab', h', hT'⟩ => ⟨e, M', lab', _, h', hT'.mach, hT'.base, ?_⟩
  refine Did.one hA hk (Nat.zero_le _) ⟨rfl, rfl, rfl, rfl, rfl⟩ (at_to' hit) hA.words (hA.ward.mono (Nat.le_succ _)) ?_ gl
  have := hA.thr.top (t := t) (fs := fs) (F := (F.reg 1 (F.r 1 + 1)).goto 2)
  rw [← fr_goto, ← fr_reg] at this
  exact this
theorem does_goes {σ : World} {p t q l n : Nat} {c : Nat → Int} {tp : List Nat} {g : GM} {fs : List Fr} {F : Fr} (hn : n < 100000) (ht : (t : Int) < c 1) (hq : tp[t]? = some q) (hl : levelOf c t = (l : Nat)) (hlc : (l : Int) < c 0) (hthr : g.thr t = fs ++ [F]) (hfs : fs.length < 100000) {T : Nat} (hT1c : c 1 = (T : Nat)) (h1 : F.fn = 12) (hp : F.pc = 2) (hr : F.r 0 < 4611686018427387904) (he : g.w l 1 = F.r 0) : DoesTo 14 σ p t c tp n l g ((g.set l 1 (F.r 0 + 1)).back t fs [1]) := by
  intro K s M lab w h hM hB hA
  obtain ⟨b, hT⟩ := hA.atTop hM hB ht hq hthr
  obtain rfl := hA.cc
  have hmay := hA.may
  have b1 : (s.tick l).mem.acc < 1000000000 := by show s.mem.acc < _; have := hA.acc; omega
  have b2 : (s.tick l).mem.wr < 1000000000 := by show s.mem.wr < _; have := hA.wr; omega
  have hl' : levelOf (s.tick l).c (t : Nat) = (l : Nat) := hl
  have hlc' : (l : Int) < (s.tick l).c 0 := hlc
  have hfs' : (fs.map Fr.enc).length < 1000000 := by rw [List.length_map]; omega
  have gl : s.given.length ≤ n + 1 := Nat.le_succ_of_le hA.given
  have hk := inK_epoch s.c
  have hit := atK_hit hmay hA.memN hlc hk
  have hf0 : s.mem.f (atK s.c (l : Nat) 1 0 0).toNat = (g.w l 1 : Int) := by rw [hA.words.at hmay hlc hk, off_epoch]
  have hsw : s.mem.swaps (atK s.c (l : Nat) 1 0 0) (F.r 0 : Nat) = true := by unfold MemS.swaps; rw [hit, hf0, he]; simp
  refine (ep_doAdv h hT (by show (F.fn : Int) = 12; omega) hfs' (R := fun s' => Did s.c n l s s' ((g.set l 1 (F.r 0 + 1)).back t fs [1])) fun K1 M1 lab1 w1 h1' hT1 => ?_).mono fun r w' ⟨e, M', lab', s', a1, a2, a3, a4⟩ => ⟨e, M', lab', s', a1, a3, a2, a4⟩
  refine (adv_2 h1' hT1 (by show (F.pc : Int) = 2; omega) hl' hT1c (x := F.r 0) rfl hr (spotAt_of hT1.mach hl' hlc' hk) b1 b2 hfs').mono fun r w' ⟨e, M', lab', h', hM', hB'⟩ => ⟨e, M', lab', _, h', hM', hB', ?_⟩
  have hsw' : (s.tick l).mem.swaps (atK (s.tick l).c (l : Nat) 1 0 0) (F.r 0 : Nat) = true := hsw
  rw [hsw', if_pos rfl]
  refine Did.one hA hk (Nat.le_refl _) ⟨rfl, rfl, rfl, rfl, rfl⟩ (cas_yes' hit hsw) ?_ (hA.ward.mono (Nat.le_succ _)) ((hA.thr.set l 1 (F.r 0 + 1)).back (t := t) (fs := fs) (us := [1]) (x := s.thr t) ⟨by rw [hA.thr.fr t ht, hthr]; simp, rfl, rfl⟩) gl
  have := hA.words.set hmay (l := l) hk (F.r 0 + 1)
  rw [off_epoch] at this
  exact this
theorem does_not {σ : World} {p t q l n : Nat} {c : Nat → Int} {tp : List Nat} {g : GM} {fs : List Fr} {F : Fr} (hn : n < 100000) (ht : (t : Int) < c 1) (hq : tp[t]? = some q) (hl : levelOf c t = (l : Nat)) (hlc : (l : Int) < c 0) (hthr : g.thr t = fs ++ [F]) (hfs : fs.length < 100000) {T : Nat} (hT1c : c 1 = (T : Nat)) (h1 : F.fn = 12) (hp : F.pc = 2) (hr : F.r 0 < 4611686018427387904) (he : g.w l 1 ≠ F.r 0) : DoesTo 14 σ p t c tp n l g (g.back t fs [0]) := by
  intro K s M lab w h hM hB hA
  obtain ⟨b, hT⟩ := hA.atTop hM hB ht hq hthr
  obtain rfl := hA.cc
  have hmay := hA.may
  have b1 : (s.tick l).mem.acc < 1000000000 := by show s.mem.acc < _; have := hA.acc; omega
  have b2 : (s.tick l).mem.wr < 1000000000 := by show s.mem.wr < _; have := hA.wr; omega
  have hl' : levelOf (s.tick l).c (t : Nat) = (l : Nat) := hl
  have hlc' : (l : Int) < (s.tick l).c 0 := hlc
  have hfs' : (fs.map Fr.enc).length < 1000000 := by rw [List.length_map]; omega
  have gl : s.given.length ≤ n + 1 := Nat.le_succ_of_le hA.given
  have hk := inK_epoch s.c
  have hit := atK_hit hmay hA.memN hlc hk
  have hf0 : s.mem.f (atK s.c (l : Nat) 1 0 0).toNat = (g.w l 1 : Int) := by rw [hA.words.at hmay hlc hk, off_epoch]
  have hsw : s.mem.swaps (atK s.c (l : Nat) 1 0 0) (F.r 0 : Nat) = false := by unfold MemS.swaps; rw [hit, hf0]; simp; omega
  refine (ep_doAdv h hT (by show (F.fn : Int) = 12; omega) hfs' (R := fun s' => Did s.c n l s s' (g.back t fs [0])) fun K1 M1 lab1 w1 h1' hT1 => ?_).mono fun r w' ⟨e, M', lab', s', a1, a2, a3, a4⟩ => ⟨e, M', lab', s', a1, a3, a2, a4⟩
  refine (adv_2 h1' hT1 (by show (F.pc : Int) = 2; omega) hl' hT1c (x := F.r 0) rfl hr (spotAt_of hT1.mach hl' hlc' hk) b1 b2 hfs').mono fun r w' ⟨e, M', lab', h', hM', hB'⟩ => ⟨e, M', lab', _, h', hM', hB', ?_⟩
  have hsw' : (s.tick l).mem.swaps (atK (s.tick l).c (l : Nat) 1 0 0) (F.r 0 : Nat) = false := hsw
  rw [hsw', if_neg (by decide)]
  exact Did.one hA hk (Nat.zero_le _) ⟨rfl, rfl, rfl, rfl, rfl⟩ (cas_no' hit hsw) hA.words (hA.ward.mono (Nat.le_succ _)) (hA.thr.back (t := t) (fs := fs) (us := [0]) (x := s.thr t) ⟨by rw [hA.thr.fr t ht, hthr]; simp, rfl, rfl⟩) gl
end
section
set_option linter.unusedVariables false
set_option linter.unusedSimpArgs false
/-- What a bit of a thread's frame asks for: e bounds the epochs. -/
structure OkE (al : List Nat) (F : EpF) : Prop where
  fn : F.fn = 10 ∨ F.fn = 11 ∨ F.fn = 12
  pin : F.fn = 10 → F.pc ≤ 2
  unpin : F.fn = 11 → F.pc = 0
  adv : F.fn = 12 → F.pc ≤ 2 ∧ (F.pc ≤ 1 → F.r1 < al.length)
  r0 : F.r0 < 1000000000
  r1 : F.r1 ≤ 8
/-- A row of states, each a step of thread t behind the other. -/
structure RowE (al : List Nat) (t l k : Nat) (es : Nat → EpG) : Prop where
  step : ∀ i, i < k → ∃ F, (es i).thr t = some F ∧ OkE al F ∧ es (i + 1) = (es i).next al t l F
  done : (es k).thr t = none
section
variable {al : List Nat} {t l : Nat} {e : EpG}
theorem go_go (F F2 : EpF) : (e.go t F).go t F2 = e.go t F2 := by unfold EpG.go; simp only [put1_put1]
theorem go_back (F : EpF) (a : Nat) : (e.go t F).back t a = e.back t a := by unfold EpG.go EpG.back; simp only [put1_put1]
theorem go_thr (F : EpF) : (e.go t F).thr t = some F := put1_same _ _ _
theorem back_thr (a : Nat) : (e.back t a).thr t = none := put1_same _ _ _
theorem back_t0 (a : Nat) : (e.back t a).t0 t = a := put1_same _ _ _
theorem setA_go (a : Nat) (F : EpF) : (e.go t F).setA l t a = (e.setA l t a).go t F := rfl
theorem setE_go (a : Nat) (F : EpF) : (e.go t F).setE l a = (e.setE l a).go t F := rfl
def row3 (a b c d : EpG) : Nat → EpG
  | 0 => a
  | 1 => b
  | 2 => c
  | _ => d
/-- Pin, alone. -/
theorem pin_row (hb : e.ep l < 1000000000) : ∃ es, es 0 = e.go t ⟨10, 0, 0, 0⟩ ∧ RowE al t l 3 es ∧ es 3 = (e.setA l t (2 * e.ep l + 1)).back t (e.ep l) := by
  refine ⟨row3 (e.go t ⟨10, 0, 0, 0⟩) (e.go t ⟨10, 1, e.ep l, 0⟩) ((e.setA l t (2 * e.ep l + 1)).go t ⟨10, 2, e.ep l, 0⟩) ((e.setA l t (2 * e.ep l + 1)).back t (e.ep l)), rfl, ⟨fun i hi => ?_, back_thr _⟩, rfl⟩
  obtain rfl | rfl | rfl : i = 0 ∨ i = 1 ∨ i = 2 := by omega
  · refine ⟨_, go_thr _, ⟨.inl rfl, fun _ => Nat.zero_le _, fun h => (nomatch h), fun h => (nomatch h), Nat.zero_lt_succ _, Nat.zero_le _⟩, ?_⟩
    exact (go_go (e := e) (t := t) ⟨10, 0, 0, 0⟩ ⟨10, 1, e.ep l, 0⟩).symm
  · refine ⟨_, go_thr _, ⟨.inl rfl, fun _ => by show 1 ≤ 2; omega, fun h => (nomatch h), fun h => (nomatch h), hb, Nat.zero_le _⟩, ?_⟩
    exact (go_go (e := e.setA l t (2 * e.ep l + 1)) (t := t) ⟨10, 1, e.ep l, 0⟩ ⟨10, 2, e.ep l, 0⟩).symm
  · refine ⟨_, go_thr _, ⟨.inl rfl, fun _ => Nat.le_refl _, fun h => (nomatch h), fun h => (nomatch h), hb, Nat.zero_le _⟩, ?_⟩
    exact (go_back (e := e.setA l t (2 * e.ep l + 1)) (t := t) ⟨10, 2, e.ep l, 0⟩ (e.ep l)).symm
/-- Unpin, alone. -/
theorem unpin_row : ∃ es, es 0 = e.go t ⟨11, 0, 0, 0⟩ ∧ RowE al t l 1 es ∧ es 1 = (e.setA l t 0).back t 0 := by
  refine ⟨row3 (e.go t ⟨11, 0, 0, 0⟩) ((e.setA l t 0).back t 0) e e, rfl, ⟨fun i hi => ?_, back_thr _⟩, rfl⟩
  obtain rfl : i = 0 := by omega
  refine ⟨_, go_thr _, ⟨.inr (.inl rfl), fun h => (nomatch h), fun _ => rfl, fun h => (nomatch h), Nat.zero_lt_succ _, Nat.zero_le _⟩, ?_⟩
  exact (go_back (e := e.setA l t 0) (t := t) ⟨11, 0, 0, 0⟩ 0).symm
/-- Does a thread of the level lag? -/
def lateN (al : List Nat) (l : Nat) (e : EpG) : Bool := al.any fun y => lagsN (e.act l y) (e.ep l)
/-- Behind Advance, alone. -/
def advE (al : List Nat) (t l : Nat) (e : EpG) : EpG := if lateN al l e then e.back t 0 else (e.setE l (e.ep l + 1)).back t 1
/-- A row, one step longer in front. -/
theorem RowE.cons {k : Nat} {es : Nat → EpG} {a : EpG} {F : EpF} (h : RowE al t l k es) (hF : a.thr t = some F) (hO : OkE al F) (he : es 0 = a.next al t l F) : RowE al t l (k + 1) (fun i => match i with | 0 => a | i + 1 => es i) := by
  refine ⟨fun i hi => ?_, h.done⟩
  cases i with
  | zero => exact ⟨F, hF, hO, he⟩
  | succ i => exact h.step i (by omega)
theorem adv_row1 (hb : e.ep l < 1000000000) (h8 : al.length ≤ 8) : ∀ m r, r + m = al.length → 0 < m → ∃ k es, k ≤ m + 1 ∧ 0 < k ∧ es 0 = e.go t ⟨12, 1, e.ep l, r⟩ ∧ RowE al t l k es ∧ es k = if (al.drop r).any (fun y => lagsN (e.act l y) (e.ep l)) then e.back t 0 else (e.setE l (e.ep l + 1)).back t 1
  | 0, r, h, h0 => absurd h0 (Nat.lt_irrefl _)
  | m + 1, r, h, _ => by
    have hr : r < al.length := by omega
    have hd : al.drop r = al[r] :: al.drop (r + 1) := List.drop_eq_getElem_cons hr
    have hg : al.getD r 0 = al[r] := by rw [List.getD_eq_getElem?_getD, List.getElem?_eq_getElem hr]; rfl
    have ok1 : OkE al ⟨12, 1, e.ep l, r⟩ := ⟨.inr (.inr rfl), fun h => (nomatch h), fun h => (nomatch h), fun _ => ⟨by show 1 ≤ 2; omega, fun _ => hr⟩, hb, by show r ≤ 8; omega⟩
    rw [hd, List.any_cons]
    by_cases hl : lagsN (e.act l al[r]) (e.ep l) = true
    · refine ⟨1, row3 (e.go t ⟨12, 1, e.ep l, r⟩) (e.back t 0) e e, by omega, by omega, rfl, ⟨fun i hi => ?_, back_thr _⟩, by rw [hl]; rfl⟩
      obtain rfl : i = 0 := by omega
      refine ⟨_, go_thr _, ok1, ?_⟩
      show e.back t 0 = (e.go t ⟨12, 1, e.ep l, r⟩).adv al t l ⟨12, 1, e.ep l, r⟩
      unfold EpG.adv
      rw [if_neg (show ¬ (1 : Nat) = 0 by decide), if_pos rfl]
      exact (go_back _ _).symm.trans (if_pos (show lagsN (e.act l (al.getD r 0)) (e.ep l) = true by rw [hg]; exact hl)).symm
    · have hl : lagsN (e.act l al[r]) (e.ep l) = false := by simpa using hl
      rw [hl, Bool.false_or]
      have hnext : (e.go t ⟨12, 1, e.ep l, r⟩).next al t l ⟨12, 1, e.ep l, r⟩ = if r + 1 = al.length then e.go t ⟨12, 2, e.ep l, r + 1⟩ else e.go t ⟨12, 1, e.ep l, r + 1⟩ := by
        show (e.go t ⟨12, 1, e.ep l, r⟩).adv al t l ⟨12, 1, e.ep l, r⟩ = _
        unfold EpG.adv
        rw [if_neg (show ¬ (1 : Nat) = 0 by decide), if_pos rfl]
        refine (if_neg (show ¬ lagsN (e.act l (al.getD r 0)) (e.ep l) = true by rw [hg, hl]; decide)).trans ?_
        split
        · exact go_go _ _
        · exact go_go _ _
      by_cases hm : m = 0
      · subst hm
        have hr1 : r + 1 = al.length := by omega
        rw [if_pos hr1] at hnext
        rw [hr1, List.drop_length]
        refine ⟨2, row3 (e.go t ⟨12, 1, e.ep l, r⟩) (e.go t ⟨12, 2, e.ep l, r + 1⟩) ((e.setE l (e.ep l + 1)).back t 1) e, by omega, by omega, rfl, ⟨fun i hi => ?_, back_thr _⟩, rfl⟩
        obtain rfl | rfl : i = 0 ∨ i = 1 := by omega
        · exact ⟨_, go_thr _, ok1, hnext.symm⟩
        · refine ⟨_, go_thr _, ⟨.inr (.inr rfl), fun h => (nomatch h), fun h => (nomatch h), fun _ => ⟨Nat.le_refl _, fun h => absurd (show 2 ≤ 1 from h) (by decide)⟩, hb, by show r + 1 ≤ 8; omega⟩, ?_⟩
          show _ = (e.go t ⟨12, 2, e.ep l, r + 1⟩).adv al t l ⟨12, 2, e.ep l, r + 1⟩
          unfold EpG.adv
          rw [if_neg (show ¬ (2 : Nat) = 0 by decide), if_neg (show ¬ (2 : Nat) = 1 by decide)]
          refine Eq.trans ?_ (if_pos (show e.ep l = e.ep l from rfl)).symm
          exact (go_back (e := e.setE l (e.ep l + 1)) (t := t) ⟨12, 2, e.ep l, r + 1⟩ 1).symm
      · rw [if_neg (by omega)] at hnext
        obtain ⟨k, es, k1, k2, e0, hR, ek⟩ := adv_row1 hb h8 m (r + 1) (by omega) (by omega)
        exact ⟨k + 1, _, by omega, by omega, rfl, hR.cons (go_thr _) ok1 (by rw [e0, hnext]), ek⟩
/-- Advance, alone. -/
theorem adv_row (hb : e.ep l < 1000000000) (h8 : al.length ≤ 8) (h0 : 0 < al.length) : ∃ k es, k ≤ al.length + 2 ∧ 0 < k ∧ es 0 = e.go t ⟨12, 0, 0, 0⟩ ∧ RowE al t l k es ∧ es k = advE al t l e := by
  obtain ⟨k, es, k1, k2, e0, hR, ek⟩ := adv_row1 (t := t) hb h8 al.length 0 (by omega) h0
  refine ⟨k + 1, _, by omega, by omega, rfl, hR.cons (a := e.go t ⟨12, 0, 0, 0⟩) (go_thr _) ⟨.inr (.inr rfl), fun h => (nomatch h), fun h => (nomatch h), fun _ => ⟨Nat.zero_le _, fun _ => h0⟩, Nat.zero_lt_succ _, Nat.zero_le _⟩ ?_, ek⟩
  rw [e0]
  exact (go_go (e := e) (t := t) ⟨12, 0, 0, 0⟩ ⟨12, 1, e.ep l, 0⟩).symm
end
end
section
open Go.RowKit
set_option linter.unusedVariables false
set_option linter.unusedSimpArgs false
set_option linter.unnecessarySimpa false
/-- All numbers at first. -/
def gm0 (B S : Nat) : GM := ⟨fun _ o => (w0 B S S o).toNat, fun _ i => i == 1, fun _ _ => 0, fun _ => [], fun _ _ => 0⟩
theorem w0_nn (B S s r : Nat) : 0 ≤ w0 B S s r := by
  unfold w0
  repeat' split
  all_goals omega
theorem absM_first {c : Nat → Int} {L B S : Nat} {s : MachS} (hn : Nums c L B S) (hc : ConfMay c) (h : s.New c L B S) (hw : s.ward.lv = s.c 0 ∧ s.ward.sl = s.c 10) : AbsM c s.tp 0 s (gm0 B S) := by
  obtain ⟨wb, hm⟩ := h.mem
  have hb0 := hn.b0
  have hs0 := hn.s0
  have hl0 := hn.l0
  have hf : s.mem.f = wl B S L := by rw [hm]; rfl
  refine ⟨h.c, hc, rfl, ?_, ?_, ?_, ?_, by rw [hm]; rfl, h.fault, by rw [hm]; exact Nat.le_refl _, by rw [hm]; exact Nat.le_refl _, by rw [h.steps]; exact Nat.le_refl _, fun k => by rw [h.clk]; exact Nat.le_refl _, by rw [h.given]; exact Nat.le_refl _⟩
  · rw [hm, hn.sz, hn.lev]; show ((L * (18 + B + 6 * S) : Nat) : Int) = _; push_cast; rfl
  · intro l o hl ho
    rw [hn.lev] at hl
    rw [hn.sz] at ho ⊢
    rw [Int.toNat_natCast, hf]
    have e := (idx_iff (l := l) (sz := 18 + B + 6 * S) (r := o) (by omega)).1 rfl
    unfold wl
    rw [e.1, e.2, if_pos (by omega)]
    show _ = (((w0 B S S o).toNat : Nat) : Int)
    rw [Int.toNat_of_nonneg (w0_nn _ _ _ _)]
  · refine ⟨by rw [hw.1, h.c], by rw [hw.2, h.c], fun l i h1 h2 h3 => ?_, fun l i h1 h2 h3 => by rw [h.gens.1]; rfl, ?_, ?_, fun l i => by rw [h.gens.1]; exact ⟨Int.le_refl _, Int.le_refl _⟩, h.slips⟩
    · rw [h.held.1, firstHeld_val]
      show _ = if (i == 1) = true then 1 else 0
      rw [hn.lev] at h1
      by_cases hi : i = 1
      · subst hi; rw [if_pos ⟨rfl, by omega, by omega⟩]; rfl
      · rw [if_neg (by omega), if_neg (by simpa using hi)]
    · rw [h.held.1]
      unfold OnceE firstHeld
      rw [List.map_map]
      have : ((fun x : Ent => (x.l, x.s)) ∘ fun (l : Nat) => (⟨l, 1, 1, l⟩ : Ent)) = fun l : Nat => ((l : Int), (1 : Int)) := rfl
      rw [this]
      exact List.Pairwise.map _ (fun a b hab e => hab (by have := congrArg Prod.fst e; exact Int.ofNat_inj.1 this)) (List.nodup_range (n := L))
    · rw [h.gens.1]; exact ⟨fun x hx => by simp at hx, by simp⟩
  · refine ⟨fun t _ => by rw [h.thr]; rfl, fun t => by rw [h.thr]; rfl, fun t j => by rw [h.thr]; rfl⟩
/-- A thread begins a routine. -/
theorem AbsM.begun {c : Nat → Int} {tp : List Nat} {n : Nat} {s : MachS} {g : GM} (h : AbsM c tp n s g) {t : Nat} (ht : (t : Int) < c 1) (fn : Nat) (us : List Nat) : AbsM c tp n (s.begun t fn (us.map fun u : Nat => (u : Int))) (g.top t (g.thr t) ⟨fn, 0, fun i => us.getD i 0⟩) := by
  refine ⟨h.cc, h.may, h.ttp, h.memN, h.words, h.ward, ?_, h.flt, h.fault, h.acc, h.wr, h.steps, h.clk, h.given⟩
  have := h.thr.top (t := t) (fs := g.thr t) (F := ⟨fn, 0, fun i => us.getD i 0⟩)
  have e : (fun j => if j = t then { s.thr t with frames := (g.thr t).map Fr.enc ++ [Fr.enc ⟨fn, 0, fun i => us.getD i 0⟩] } else s.thr j) = (s.begun t fn (us.map fun u : Nat => (u : Int))).thr := by
    funext j
    show _ = if j = t then (s.thr t).call fn _ else s.thr j
    by_cases e : j = t
    · rw [if_pos e, if_pos e]
      have er : (fun i => ((us.getD i 0 : Nat) : Int)) = fun i => (us.map fun u : Nat => (u : Int)).getD i 0 := by
        funext i
        rw [List.getD_eq_getElem?_getD, List.getD_eq_getElem?_getD, List.getElem?_map]
        cases us[i]? <;> rfl
      show ({ s.thr t with frames := (g.thr t).map Fr.enc ++ [⟨fn, 0, fun i => ((us.getD i 0 : Nat) : Int)⟩] } : ThrS) = { s.thr t with frames := (s.thr t).frames ++ [⟨fn, 0, fun i => (us.map fun u : Nat => (u : Int)).getD i 0⟩] }
      rw [er, h.thr.fr t ht]
    · rw [if_neg e, if_neg e]
  rw [e] at this
  exact this
end
section
open Go.RowKit
set_option linter.unusedVariables false
set_option linter.unusedSimpArgs false
set_option linter.unnecessarySimpa false
/-- From step to step: what is known of each state. -/
structure TrailP (σ : World) (K : Mm) (p t q : Nat) (dv : Value) (n : Nat) (P : Nat → MachS → Prop) (k : Nat) : Prop where
  step : ∀ i, i < k → ∀ (M : Mm) (lab : Nat → Nat) (s : MachS) (w : World), Has σ M w → Mach M lab p s → Base K M lab → P i s → Calls Try.prog 21 #[.pointer (some ⟨p, 0, none⟩), .int .i64 (t : Nat), dv] w fun r w' => ∃ M' lab' b s', r = .returned (.bool b) ∧ Has σ M' w' ∧ Mach M' lab' p s' ∧ Base K M' lab' ∧ P (i + 1) s'
  tp : ∀ i, i ≤ k → ∀ s, P i s → s.tp[t]? = some q
  deep : ∀ i, 0 < i → i < k → ∀ s, P i s → n < (s.thr t).frames.length
  done : ∀ s, P k s → (s.thr t).frames.length ≤ n
set_option maxHeartbeats 4000000 in
set_option maxRecDepth 20000 in
theorem alone_rel {σ w : World} {K M : Mm} {lab : Nat → Nat} {p t q : Nat} {s : MachS} (h : Has σ M w) (hM : Mach M lab p s) (hB : Base K M lab) (hq : s.tp[t]? = some q) {dv rv : Value} {us : List Int} (hr : Rd M 1 rv us.length (u64s us)) (hu : us.length ≤ 16) (hfr : (s.thr t).frames.length < 1000000) (fn : Int) {k most : Nat} {P : Nat → MachS → Prop} (h0 : P 0 (s.begun t fn us)) (hk : 0 < k) (hkm : k ≤ most) (hmost : most < 1000000) (hT : TrailP σ K p t q dv (s.thr t).frames.length P k) :
    Calls Try.prog 13 #[.pointer (some ⟨p, 0, none⟩), .int .i64 (t : Nat), dv, .int .i64 (most : Nat), .int .i64 fn, rv] w fun r w' => r = .returned (.int .i64 (k : Nat)) ∧ ∃ M' lab' s', Has σ M' w' ∧ Mach M' lab' p s' ∧ Base K M' lab' ∧ P k s' := by
  have TH := Lib.hid (fun (w : World) (h : Has σ M w) => mThread_yes h hM hq)
  obtain ⟨fv, hv, fbs, hTh⟩ := hM.each t q hq
  have hl := hTh.flen
  have DP := Lib.hid (fun (w : World) (h : Has σ M w) => thrDeep_eq h hTh)
  rw [hl] at DP
  have CA := Lib.hid (fun (w : World) (h : Has σ M w) => thrCall_eq h hTh fn (rv := rv) (us := us) hr hu (by omega))
  have HM := Lib.hid hM
  have HB := Lib.hid hB
  have HQ := Lib.hid hq
  have H0 := Lib.hid h0
  have TR := Lib.hid hT
  clear hM hB hq hTh h0 hT hr hu hl
  generalize hn : (s.thr t).frames.length = n at *
  clear hn
  go_enter Try.func13, Try.ntmps13
  go_upto_region 6 with (first
    | (go_at_call 15; refine (TH.out _ h).mono ?_; clear h; rintro _ w ⟨rfl, h⟩)
    | (go_at_call 18; refine (DP.out _ h).mono ?_; clear h; rintro _ w ⟨rfl, h⟩)
    | (go_at_call 19; refine (CA.out _ h).mono ?_; clear h; rintro _ w ⟨rfl, M3, lab3, h, hK3, hT3⟩))
  obtain ⟨hM3, hB3⟩ := HM.out.thrTo HB.out HQ.out hK3 hT3
  have HM4 := Lib.hid hM3
  have HB4 := Lib.hid hB3
  clear hM3 hB3 hK3 hT3 TH DP CA HM HB HQ
  go_upto_region 7 with (fail)
  go_loopw [15] (fun u wr => ∃ j : Nat, j < k ∧ u = .int .i64 (j : Nat) ∧ ∃ M5 lab5 s5, Has σ M5 wr ∧ Mach M5 lab5 p s5 ∧ Base K M5 lab5 ∧ P j s5) (fun u _ => most - (intOf u).toNat)
  case atStart => exact ⟨0, hk, rfl, M3, lab3, _, h, HM4.out, HB4.out, H0.out⟩
  case round =>
    clear h w HM4 HB4 M3 lab3
    obtain ⟨w, rfl⟩ : ∃ x : World, x = wr := ⟨_, rfl⟩
    obtain ⟨j, hj, rfl, M5, lab5, s5, h, hM5, hB5, hP5⟩ := hrel
    have hjm : (j : Int) < (most : Int) := by omega
    have SP := Lib.hid (fun (w : World) (h : Has σ M5 w) => TR.out.step j hj M5 lab5 s5 w h hM5 hB5 hP5)
    clear hM5 hB5 hP5
    go_upto_region 10 with (first
      | (go_at_call 21; refine (SP.out _ h).mono ?_; clear h; rintro _ w ⟨M6, lab6, b6, s6, rfl, h, hM6, hB6, hP6⟩))
    obtain ⟨fv6, hv6, fbs6, hT6⟩ := hM6.each t q (TR.out.tp (j + 1) (by omega) s6 hP6)
    have hl6 := hT6.flen
    have DP6 := Lib.hid (fun (w : World) (h : Has σ M6 w) => thrDeep_eq h hT6)
    rw [hl6] at DP6
    have HM6 := Lib.hid hM6
    have HB6 := Lib.hid hB6
    have HP6 := Lib.hid hP6
    clear SP hT6 hl6 hM6 hB6
    by_cases e : j + 1 = k
    · have hle : (s6.thr t).frames.length ≤ n := TR.out.done s6 (by rw [← e]; exact hP6)
      have hle2 : decide (((s6.thr t).frames.length : Int) ≤ (n : Int)) = true := decide_eq_true (by omega)
      have HE := Lib.hid e
      clear e hP6
      generalize (s6.thr t).frames.length = n6 at *
      go_wp2_with (first
        | (go_at_call 18; refine (DP6.out _ h).mono ?_; clear h; rintro _ w ⟨rfl, h⟩))
      go_ret
      exact ⟨by rw [← HE.out]; exact congrArg (fun z => Ending.returned (Value.int .i64 z)) (by omega), M6, lab6, s6, h, HM6.out, HB6.out, by rw [← HE.out]; exact HP6.out⟩
    · have hgt : n < (s6.thr t).frames.length := TR.out.deep (j + 1) (by omega) (by omega) s6 hP6
      have hgt2 : decide (((s6.thr t).frames.length : Int) ≤ (n : Int)) = false := decide_eq_false (by omega)
      have hgt3 : ¬ (s6.thr t).frames.length ≤ n := by omega
      clear hgt hP6
      generalize (s6.thr t).frames.length = n6 at *
      go_wp2_with (first
        | (go_at_call 18; refine (DP6.out _ h).mono ?_; clear h; rintro _ w ⟨rfl, h⟩))
      go_roundw
      case rel => exact ⟨j + 1, by omega, by go_num, M6, lab6, s6, h, HM6.out, HB6.out, HP6.out⟩
      case measure => simp [intOf]; omega
end
section
open Go.RowKit
set_option linter.unusedVariables false
set_option linter.unusedSimpArgs false
set_option linter.unnecessarySimpa false
def frE (F : Fr) : EpF := ⟨F.fn, F.pc, F.r 0, F.r 1⟩
def eOf (g : GM) : EpG := ⟨fun l => g.w l 1, fun l t => g.w l (10 + t), fun t => match g.thr t with | [F] => some (frE F) | _ => none, fun t => g.told t 0⟩
theorem EpG.ext' {a b : EpG} (h1 : a.ep = b.ep) (h2 : a.act = b.act) (h3 : a.thr = b.thr) (h4 : a.t0 = b.t0) : a = b := by
  cases a; cases b; cases h1; cases h2; cases h3; cases h4; rfl
section
variable {g : GM} {t l v : Nat}
theorem eOf_top (F : Fr) : eOf (g.top t [] F) = (eOf g).go t (frE F) := by
  refine EpG.ext' rfl rfl ?_ rfl
  funext u
  show (match put1 g.thr t ([] ++ [F]) u with | [F] => some (frE F) | _ => none) = put1 (eOf g).thr t (some (frE F)) u
  by_cases e : u = t
  · subst e; rw [put1_same, put1_same]; rfl
  · rw [put1_ne e, put1_ne e]; rfl
theorem eOf_back (us : List Nat) : eOf (g.back t [] us) = (eOf g).back t (us.getD 0 0) := by
  refine EpG.ext' rfl rfl ?_ ?_
  · funext u
    show (match put1 g.thr t [] u with | [F] => some (frE F) | _ => none) = put1 (eOf g).thr t none u
    by_cases e : u = t
    · subst e; rw [put1_same, put1_same]
    · rw [put1_ne e, put1_ne e]; rfl
  · funext u
    show put1 g.told t (fun i => us.getD i 0) u 0 = put1 (fun t => g.told t 0) t (us.getD 0 0) u
    by_cases e : u = t
    · subst e; rw [put1_same, put1_same]
    · rw [put1_ne e, put1_ne e]
theorem eOf_setE : eOf (g.set l 1 v) = (eOf g).setE l v := by
  refine EpG.ext' ?_ ?_ rfl rfl
  · funext l'
    show put1 g.w l (put1 (g.w l) 1 v) l' 1 = put1 (fun l => g.w l 1) l v l'
    by_cases e : l' = l
    · subst e; rw [put1_same, put1_same, put1_same]
    · rw [put1_ne e, put1_ne e]
  · funext l' u
    show put1 g.w l (put1 (g.w l) 1 v) l' (10 + u) = g.w l' (10 + u)
    by_cases e : l' = l
    · subst e; rw [put1_same, put1_ne (by omega)]
    · rw [put1_ne e]
theorem eOf_setA : eOf (g.set l (10 + t) v) = (eOf g).setA l t v := by
  refine EpG.ext' ?_ ?_ rfl rfl
  · funext l'
    show put1 g.w l (put1 (g.w l) (10 + t) v) l' 1 = g.w l' 1
    by_cases e : l' = l
    · subst e; rw [put1_same, put1_ne (by omega)]
    · rw [put1_ne e]
  · funext l' u
    show put1 g.w l (put1 (g.w l) (10 + t) v) l' (10 + u) = put1 (fun l t => g.w l (10 + t)) l (put1 (fun t => g.w l (10 + t)) t v) l' u
    by_cases e : l' = l
    · subst e
      rw [put1_same, put1_same]
      by_cases e2 : u = t
      · subst e2; rw [put1_same, put1_same]
      · rw [put1_ne (by omega), put1_ne e2]
    · rw [put1_ne e, put1_ne e]
end
/-- A machine whose threads are within epoch's routines at most. -/
def AbsE (c : Nat → Int) (tp : List Nat) (n : Nat) (s : MachS) (e : EpG) : Prop := ∃ g, AbsM c tp n s g ∧ eOf g = e ∧ (∀ t, (g.thr t).length ≤ 1) ∧ ∀ l y, e.act l y < 4611686018427387904
section
variable {c : Nat → Int} {tp : List Nat} {n : Nat} {s : MachS} {e : EpG}
theorem AbsE.frames (h : AbsE c tp n s e) {t : Nat} (ht : (t : Int) < c 1) : (s.thr t).frames.length = if (e.thr t).isSome then 1 else 0 := by
  obtain ⟨g, hA, rfl, hl, _⟩ := h
  rw [hA.thr.fr t ht, List.length_map]
  have h1 := hl t
  show _ = if (match g.thr t with | [F] => some (frE F) | _ => none).isSome then 1 else 0
  match hg : g.thr t with
  | [] => rfl
  | [F] => rfl
  | a :: b :: r => rw [hg] at h1; simp at h1
theorem AbsE.good (h : AbsE c tp n s e) : s.bad = false := by obtain ⟨g, hA, _⟩ := h; exact hA.good
theorem AbsE.cc (h : AbsE c tp n s e) : s.c = c := by obtain ⟨g, hA, _⟩ := h; exact hA.cc
theorem AbsE.ttp (h : AbsE c tp n s e) : s.tp = tp := by obtain ⟨g, hA, _⟩ := h; exact hA.ttp
theorem AbsE.told (h : AbsE c tp n s e) (t : Nat) : (s.thr t).told 0 = (e.t0 t : Int) := by obtain ⟨g, hA, rfl, _⟩ := h; exact hA.thr.told t 0
theorem AbsE.begun (h : AbsE c tp n s e) {t : Nat} (ht : (t : Int) < c 1) (hi : e.thr t = none) (fn : Nat) : AbsE c tp n (s.begun t fn []) (e.go t ⟨fn, 0, 0, 0⟩) := by
  obtain ⟨g, hA, rfl, hl, hb⟩ := h
  have h1 := hl t
  have hn : g.thr t = [] := by
    have hi : (match g.thr t with | [F] => some (frE F) | _ => none) = none := hi
    match hg : g.thr t with
    | [] => rfl
    | [F] => rw [hg] at hi; cases hi
    | a :: b :: r => rw [hg] at h1; simp at h1
  have hB := hA.begun ht fn []
  rw [hn] at hB
  refine ⟨_, hB, eOf_top _, fun u => ?_, hb⟩
  show (put1 g.thr t ([] ++ [_]) u).length ≤ 1
  by_cases e : u = t
  · subst e; rw [put1_same]; exact Nat.le_refl _
  · rw [put1_ne e]; exact hl u
end
/-- A step of a thread that is within Pin, Unpin or Advance. -/
theorem ep_step {σ w : World} {K M : Mm} {lab : Nat → Nat} {p t q l n : Nat} {s : MachS} {c : Nat → Int} {tp : List Nat} {e : EpG} (h : Has σ M w) (hM : Mach M lab p s) (hB : Base K M lab) (hA : AbsE c tp n s e) (hn : n < 100000) (ht : (t : Int) < c 1) (hq : tp[t]? = some q) (hl : levelOf c t = (l : Nat)) (hlc : (l : Int) < c 0) {T : Nat} (hT : c 1 = (T : Nat)) {F : EpF} (hF : e.thr t = some F) (ok : OkE (atC c T l) F) : Calls Try.prog 21 #[.pointer (some ⟨p, 0, none⟩), .int .i64 (t : Nat), .func (.func 14) #[] #[]] w fun r w' => ∃ M' lab' s', r = .returned (.bool ((e.next (atC c T l) t l F).thr t).isSome) ∧ Has σ M' w' ∧ Mach M' lab' p s' ∧ Base K M' lab' ∧ AbsE c tp (n + 1) s' (e.next (atC c T l) t l F) := by
  obtain ⟨g, hA, rfl, hlen, hb⟩ := hA
  have hmay := hA.may
  have h8 : t < 8 := by have := hmay.2.1; omega
  have h1 := hlen t
  obtain ⟨F0, hthr, hF0⟩ : ∃ F0, g.thr t = [] ++ [F0] ∧ frE F0 = F := by
    have hF : (match g.thr t with | [F] => some (frE F) | _ => none) = some F := hF
    match hg : g.thr t with
    | [] => rw [hg] at hF; cases hF
    | [F0] => rw [hg] at hF; cases hF; exact ⟨F0, rfl, rfl⟩
    | a :: b :: r => rw [hg] at h1; simp at h1
  subst hF0
  have hne : g.thr t ≠ [] := by rw [hthr]; simp
  have r0 : F0.r 0 < 4611686018427387904 := by have : (frE F0).r0 < 1000000000 := ok.r0; have h2 : (frE F0).r0 = F0.r 0 := rfl; omega
  have fin : ∀ g2 : GM, DoesTo 14 σ p t c tp n l g g2 → eOf g2 = (eOf g).next (atC c T l) t l (frE F0) → (∀ u, (g2.thr u).length ≤ 1) → (∀ l y, (eOf g2).act l y < 4611686018427387904) → Calls Try.prog 21 #[.pointer (some ⟨p, 0, none⟩), .int .i64 (t : Nat), .func (.func 14) #[] #[]] w fun r w' => ∃ M' lab' s', r = .returned (.bool (((eOf g).next (atC c T l) t l (frE F0)).thr t).isSome) ∧ Has σ M' w' ∧ Mach M' lab' p s' ∧ Base K M' lab' ∧ AbsE c tp (n + 1) s' ((eOf g).next (atC c T l) t l (frE F0)) := fun g2 hD he hl2 hb2 => by
    refine (step_does h hM hB hA hn ht hq hl hne (by omega) (by have := hl2 t; omega) (by kernel_rfl) hD).mono fun r w' ⟨M', lab', s', hr, h', hM', hB', hA'⟩ => ?_
    refine ⟨M', lab', s', ?_, h', hM', hB', g2, hA', he, hl2, by rw [← he]; exact hb2⟩
    rw [hr, ← he]
    show _ = Ending.returned (Value.bool (match g2.thr t with | [F] => some (frE F) | _ => none).isSome)
    have h2 := hl2 t
    match hg : g2.thr t with
    | [] => rfl
    | [F] => rfl
    | a :: b :: r => rw [hg] at h2; simp at h2
  have len : ∀ (g' : GM) (fs : List Fr), g'.thr = g.thr → fs.length ≤ 1 → ∀ u, (put1 g'.thr t fs u).length ≤ 1 := fun g' fs e hf u => by
    by_cases e2 : u = t
    · subst e2; rw [put1_same]; exact hf
    · rw [put1_ne e2, e]; exact hlen u
  have setb : ∀ (l' t' v : Nat), v < 4611686018427387904 → ∀ l y, ((eOf g).setA l' t' v).act l y < 4611686018427387904 := fun l' t' v hv l y => by
    show put1 (eOf g).act l' (put1 ((eOf g).act l') t' v) l y < _
    by_cases e1 : l = l'
    · subst e1
      rw [put1_same]
      by_cases e2 : y = t'
      · subst e2; rw [put1_same]; exact hv
      · rw [put1_ne e2]; exact hb _ _
    · rw [put1_ne e1]; exact hb _ _
  have hfn := ok.fn
  rcases hfn with f10 | f11 | f12
  · have hp := ok.pin f10
    have f10' : F0.fn = 10 := f10
    have hp' : F0.pc ≤ 2 := hp
    have en : ∀ x, (eOf g).pin t l (frE F0) = x → x = (eOf g).next (atC c T l) t l (frE F0) := fun x hx => by unfold EpG.next; rw [if_pos f10, hx]
    rcases (show F0.pc = 0 ∨ F0.pc = 1 ∨ F0.pc = 2 by omega) with p0 | p1 | p2
    · refine fin _ (does_pin0 hn ht hq hl hlc hthr (by simp) f10' p0) ?_ (len g _ rfl (by simp)) (by rw [eOf_top]; exact hb)
      rw [eOf_top]
      refine en _ ?_
      unfold EpG.pin
      rw [if_pos (show (frE F0).pc = 0 from p0)]; rfl
    · refine fin _ (does_pin1 hn ht hq hl hlc hthr (by simp) h8 f10' p1 r0) ?_ (len _ _ rfl (by simp)) (by rw [eOf_top, eOf_setA]; exact setb _ _ _ (by have : (frE F0).r0 < 1000000000 := ok.r0; have h2 : (frE F0).r0 = F0.r 0 := rfl; omega))
      rw [eOf_top, eOf_setA]
      refine en _ ?_
      unfold EpG.pin
      rw [if_neg (show ¬ (frE F0).pc = 0 by show ¬ F0.pc = 0; omega), if_pos (show (frE F0).pc = 1 from p1)]; rfl
    · refine fin _ (does_pin2 hn ht hq hl hlc hthr (by simp) f10' p2) ?_ (len g _ rfl (by simp)) (by rw [eOf_back]; exact hb)
      rw [eOf_back]
      refine en _ ?_
      unfold EpG.pin
      rw [if_neg (show ¬ (frE F0).pc = 0 by show ¬ F0.pc = 0; omega), if_neg (show ¬ (frE F0).pc = 1 by show ¬ F0.pc = 1; omega)]; rfl
  · refine fin _ (does_unpin hn ht hq hl hlc hthr (by simp) h8 f11) ?_ (len _ _ rfl (by simp)) (by rw [eOf_back, eOf_setA]; exact setb _ _ _ (by decide))
    rw [eOf_back, eOf_setA]
    unfold EpG.next
    rw [if_neg (show ¬ (frE F0).fn = 10 by rw [f11]; decide), if_pos f11]; rfl
  · obtain ⟨hp, hr1⟩ := ok.adv f12
    have f12' : F0.fn = 12 := f12
    have hp' : F0.pc ≤ 2 := hp
    have en : ∀ x, (eOf g).adv (atC c T l) t l (frE F0) = x → x = (eOf g).next (atC c T l) t l (frE F0) := fun x hx => by unfold EpG.next; rw [if_neg (show ¬ (frE F0).fn = 10 by rw [f12]; decide), if_neg (show ¬ (frE F0).fn = 11 by rw [f12]; decide), hx]
    rcases (show F0.pc = 0 ∨ F0.pc = 1 ∨ F0.pc = 2 by omega) with p0 | p1 | p2
    · refine fin _ (does_adv0 hn ht hq hl hlc hthr (by simp) hT f12' p0) ?_ (len g _ rfl (by simp)) (by rw [eOf_top]; exact hb)
      rw [eOf_top]
      refine en _ ?_
      unfold EpG.adv
      rw [if_pos (show (frE F0).pc = 0 from p0)]; rfl
    · have hlt : F0.r 1 < (atC c T l).length := hr1 (by show F0.pc ≤ 1; omega)
      have hle8 : (atC c T l).length ≤ 8 := Nat.le_trans (atC_le c T l) (by have := hmay.2.1; omega)
      obtain ⟨y, hy⟩ : ∃ y, (atC c T l)[F0.r 1]? = some y := ⟨_, List.getElem?_eq_getElem hlt⟩
      have hgd : (atC c T l).getD (frE F0).r1 0 = y := by
        show (atC c T l).getD (F0.r 1) 0 = y
        rw [List.getD_eq_getElem?_getD, hy]; rfl
      have hz : g.w l (10 + y) < 18446744073709551616 := by have : (eOf g).act l y < 4611686018427387904 := hb l y; have h2 : (eOf g).act l y = g.w l (10 + y) := rfl; omega
      by_cases hlag : lagsN (g.w l (10 + y)) (F0.r 0) = true
      · refine fin _ (does_lag hn ht hq hl hlc hthr (by simp) hT f12' p1 hy (by omega) r0 hz hlag) ?_ (len g _ rfl (by simp)) (by rw [eOf_back]; exact hb)
        rw [eOf_back]
        refine en _ ?_
        unfold EpG.adv
        rw [if_neg (show ¬ (frE F0).pc = 0 by show ¬ F0.pc = 0; omega), if_pos (show (frE F0).pc = 1 from p1), hgd]
        exact if_pos (show lagsN (g.w l (10 + y)) (F0.r 0) = true from hlag)
      · have hlag' : lagsN (g.w l (10 + y)) (F0.r 0) = false := by simpa using hlag
        by_cases hr : F0.r 1 + 1 = (atC c T l).length
        · refine fin _ (does_last hn ht hq hl hlc hthr (by simp) hT f12' p1 hy (by omega) r0 hz hlag' hr) ?_ (len g _ rfl (by simp)) (by rw [eOf_top]; exact hb)
          rw [eOf_top]
          refine en _ ?_
          unfold EpG.adv
          rw [if_neg (show ¬ (frE F0).pc = 0 by show ¬ F0.pc = 0; omega), if_pos (show (frE F0).pc = 1 from p1), hgd]
          exact (if_neg (show ¬ lagsN (g.w l (10 + y)) (F0.r 0) = true from hlag)).trans (if_pos hr)
        · refine fin _ (does_on hn ht hq hl hlc hthr (by simp) hT f12' p1 hy (by omega) r0 hz hlag' hr) ?_ (len g _ rfl (by simp)) (by rw [eOf_top]; exact hb)
          rw [eOf_top]
          refine en _ ?_
          unfold EpG.adv
          rw [if_neg (show ¬ (frE F0).pc = 0 by show ¬ F0.pc = 0; omega), if_pos (show (frE F0).pc = 1 from p1), hgd]
          exact (if_neg (show ¬ lagsN (g.w l (10 + y)) (F0.r 0) = true from hlag)).trans (if_neg hr)
    · by_cases he : g.w l 1 = F0.r 0
      · refine fin _ (does_goes hn ht hq hl hlc hthr (by simp) hT f12' p2 r0 he) ?_ (len _ _ rfl (by simp)) (by rw [eOf_back, eOf_setE]; exact hb)
        rw [eOf_back, eOf_setE]
        refine en _ ?_
        unfold EpG.adv
        rw [if_neg (show ¬ (frE F0).pc = 0 by show ¬ F0.pc = 0; omega), if_neg (show ¬ (frE F0).pc = 1 by show ¬ F0.pc = 1; omega)]
        exact if_pos he
      · refine fin _ (does_not hn ht hq hl hlc hthr (by simp) hT f12' p2 r0 he) ?_ (len g _ rfl (by simp)) (by rw [eOf_back]; exact hb)
        rw [eOf_back]
        refine en _ ?_
        unfold EpG.adv
        rw [if_neg (show ¬ (frE F0).pc = 0 by show ¬ F0.pc = 0; omega), if_neg (show ¬ (frE F0).pc = 1 by show ¬ F0.pc = 1; omega)]
        exact if_neg he
/-- A row of states leads Alone. -/
theorem RowE.trail {σ : World} {K : Mm} {p t q l n k T : Nat} {c : Nat → Int} {tp : List Nat} {es : Nat → EpG} (h : RowE (atC c T l) t l k es) (hk : k < 100) (hn : n < 99000) (ht : (t : Int) < c 1) (hq : tp[t]? = some q) (hl : levelOf c t = (l : Nat)) (hlc : (l : Int) < c 0) (hT : c 1 = (T : Nat)) :
    TrailP σ K p t q (.func (.func 14) #[] #[]) 0 (fun i s => AbsE c tp (n + i) s (es i)) k := by
  refine ⟨fun i hi M lab s w hw hM hB hP => ?_, fun i hi s hP => by rw [hP.ttp]; exact hq, fun i h0 hi s hP => ?_, fun s hP => ?_⟩
  · obtain ⟨F, hF, ok, e⟩ := h.step i hi
    refine (ep_step hw hM hB hP (by omega) ht hq hl hlc hT hF ok).mono fun r w' ⟨M', lab', s', hr, hw', hM', hB', hP'⟩ => ?_
    exact ⟨M', lab', _, s', hr, hw', hM', hB', by rw [e]; exact hP'⟩
  · obtain ⟨F, hF, _⟩ := h.step i hi
    rw [hP.frames ht, hF]
    exact Nat.one_pos
  · rw [hP.frames ht, h.done]
    exact Nat.le_refl _
end
end Go.Proofs.Ytjeeldacnllipaa
