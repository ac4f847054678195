/- Layer 22 (stock): the idle bit as a step of Give; Do and Step of both routines, the state behind told by R. -/
import Derived.Test.YtefjjagejgeedaaAlone
import Derived.Test.YtefjjagejgeedaaMachD
import Derived.Test.YtefjjagejgeedaaTakeD
import Derived.Test.YtefjjagejgeedaaWords
namespace Go.Proofs.Ytefjjagejgeedaa
section
open Go.RowKit
set_option linter.unusedVariables false
set_option linter.unusedSimpArgs false
set_option linter.unnecessarySimpa false
/-- The machine behind a step that brought it to s2. -/
def MachS.after (s2 s : MachS) (lv : Nat) : MachS := MachS.watch { s2 with steps := s2.steps + 1 } lv s.mem.acc s.mem.wr
theorem after_same (s2 s : MachS) (lv : Nat) : (s2.after s lv).c = s2.c ∧ (s2.after s lv).tp = s2.tp ∧ (s2.after s lv).mem = s2.mem ∧ (s2.after s lv).ward = s2.ward ∧ (s2.after s lv).thr = s2.thr ∧ (s2.after s lv).clk = s2.clk ∧ (s2.after s lv).steps = s2.steps + 1 ∧ (s2.after s lv).given = s2.given := by
  unfold MachS.after MachS.watch
  repeat' split
  all_goals exact ⟨rfl, rfl, rfl, rfl, rfl, rfl, rfl, rfl⟩
theorem step_take {σ w : World} {K M : Mm} {lab : Nat → Nat} {p t q lv : Nat} {s : MachS} {fs : List FrameS} {f : FrameS} (h : Has σ M w) (hM : Mach M lab p s) (hB : Base K M lab) (hq : s.tp[t]? = some q) (hf : (s.thr t).frames = fs ++ [f]) (hfn : f.fn = 1) (hrun : ((s.thr t).st || (s.thr t).ki) = false) (hlv : levelOf s.c t = (lv : Nat))
    (hb1 : s.mem.acc < 1000000000) (hb2 : s.steps < 1000000) (hb3 : ∀ k, s.clk k < 1000000000) (hfs : fs.length < 1000000) {s2 : MachS} (e1 : s2.tp = s.tp) (e2 : s2.steps = s.steps) (e3 : (s2.thr t).frames.length ≤ fs.length + 1)
    (hstep : ∀ (b : Nat) (K1 M1 : Mm) (lab1 : Nat → Nat) (w1 : World), Has σ M1 w1 → AtTop K1 M1 lab1 p (s.tick lv) t q b fs f → Calls Try.prog 31 #[.agg (runC p t q b)] w1 fun r w' => r = .returned (.tuple #[]) ∧ ∃ M' lab', Has σ M' w' ∧ Mach M' lab' p s2 ∧ Base K1 M' lab') :
    Calls Try.prog 26 #[.pointer (some ⟨p, 0, none⟩), .int .i64 (t : Nat), .func (.func 6) #[] #[]] w fun r w' => ∃ M' lab' b, r = .returned (.bool b) ∧ Has σ M' w' ∧ Mach M' lab' p (s2.after s lv) ∧ Base K M' lab' := by
  have STP := step_eq (R := fun x => x = s2) (F := 6) (caps := #[]) h hM hB hq (by rw [hf]; simp) hrun hlv hb1 (by omega) hb3 (by rw [hf]; simp; omega) (by kernel_rfl)
    (fun M1 lab1 w1 h1 hM1 hB1 => by
      obtain ⟨b, hT⟩ := AtTop.of (f := f) (fs := fs) hM1 hB1 hq hf
      refine (do_take h1 hT hfn hfs (s' := s2) (fun K1 M2 lab2 w2 h2 hT2 => hstep b K1 M2 lab2 w2 h2 hT2)).mono fun r w' ⟨e, M', lab', h', hB', hM'⟩ => ⟨e, M', lab', s2, h', hB', hM', rfl⟩)
    (fun x hx => by subst hx; exact ⟨e1, by rw [e2]; omega, by omega⟩)
  refine STP.mono fun r w' hr => ?_
  obtain ⟨M', lab', x, rfl, hr, h', hB', hM'⟩ := hr
  exact ⟨M', lab', _, hr, h', hM', hB'⟩
end
section
section
open Go.RowKit
set_option linter.unusedVariables false
set_option linter.unusedSimpArgs false
set_option linter.unnecessarySimpa false
/-- n steps behind s, thread t alone having stepped: it is within frame f. -/
structure At (s S : MachS) (t n : Nat) (fs : List FrameS) (f : FrameS) : Prop where
  c : S.c = s.c
  tp : S.tp = s.tp
  acc : S.mem.acc = s.mem.acc + n
  wr : S.mem.wr ≤ s.mem.wr + 1
  N : S.mem.N = s.mem.N
  steps : S.steps = s.steps + n
  clk : ∀ k, S.clk k ≤ s.clk k + n
  th : S.thr t = { s.thr t with frames := fs ++ [f] }
  oth : ∀ j, j ≠ t → S.thr j = s.thr j
theorem At.st {s S : MachS} {t n : Nat} {fs : List FrameS} {f : FrameS} (h : At s S t n fs f) : (S.thr t).st = (s.thr t).st := by rw [h.th]
theorem At.ki {s S : MachS} {t n : Nat} {fs : List FrameS} {f : FrameS} (h : At s S t n fs f) : (S.thr t).ki = (s.thr t).ki := by rw [h.th]
theorem At.fr {s S : MachS} {t n : Nat} {fs : List FrameS} {f : FrameS} (h : At s S t n fs f) : (S.thr t).frames = fs ++ [f] := by rw [h.th]
def takeF (us : List Int) : FrameS := ⟨1, 0, fun i => us.getD i 0⟩
theorem At.first (s : MachS) (t : Nat) (us : List Int) : At s (s.begun t 1 us) t 0 (s.thr t).frames (takeF us) := by
  have e : (s.begun t 1 us).thr t = (s.thr t).call 1 us := if_pos rfl
  refine ⟨rfl, rfl, rfl, Nat.le_succ _, rfl, rfl, fun k => Nat.le_refl _, by rw [e]; rfl, fun j hj => if_neg hj⟩
theorem At.next {s S : MachS} {t n lv : Nat} {fs : List FrameS} {f f' : FrameS} (h : At s S t n fs f) {m : MemS} {wd : WardS} (h1 : m.acc = S.mem.acc + 1) (h2 : m.wr ≤ s.mem.wr + 1) (h3 : m.N = S.mem.N) : At s ((MachS.top { S.tick lv with mem := m, ward := wd } t fs f').after S lv) t (n + 1) fs f' := by
  obtain ⟨a1, a2, a3, a4, a5, a6, a7, a8⟩ := after_same (MachS.top { S.tick lv with mem := m, ward := wd } t fs f') S lv
  have e : (MachS.top { S.tick lv with mem := m, ward := wd } t fs f').thr t = { S.thr t with frames := fs ++ [f'] } := if_pos rfl
  refine ⟨a1.trans h.c, a2.trans h.tp, ?_, ?_, ?_, ?_, fun k => ?_, ?_, fun j hj => ?_⟩
  · rw [a3]; show m.acc = _; rw [h1, h.acc]; omega
  · rw [a3]; exact h2
  · rw [a3]; exact h3.trans h.N
  · rw [a7]; show S.steps + 1 = _; rw [h.steps]; omega
  · rw [a6]
    show (if lv ≤ k ∧ k < 4 then S.clk k + 1 else S.clk k) ≤ _
    have := h.clk k
    split <;> omega
  · rw [a5, e, h.th]
  · rw [a5]; exact (if_neg hj).trans (h.oth j hj)
theorem atK_hit {c : Nat → Int} (hc : ConfMay c) {m : MemS} (hN : (m.N : Int) = c 0 * firsts c 10) {lv : Nat} (hl : (lv : Int) < c 0) {k : Nat} {i j : Int} (hk : InK c k i j) : m.hit (atK c lv k i j) = true := by
  have hs := firsts_succ c (k := k) hk.kind
  have hnn := numK_nn hk
  have hhi := hk.high
  have hf0 := (firsts_bd hc k).1
  have hkk := hk.kind
  have hle : firsts c (k + 1) ≤ firsts c 10 := by
    obtain ⟨_, _, _, _, ⟨g2, g3⟩, ⟨g4, g5⟩, _⟩ := hc
    unfold firsts
    rcases k with _ | _ | _ | _ | _ | _ | _ | _ | _ | _ | k <;> simp <;> omega
  obtain ⟨L, B, S, hn⟩ := Nums.of hc
  rw [hn.sz] at hle hN
  obtain ⟨T, hT⟩ : ∃ T : Nat, 18 + B + 6 * S = T := ⟨_, rfl⟩
  rw [hT] at hle hN
  rw [hn.lev] at hN hl
  unfold MemS.hit atK
  rw [hn.sz, hT, Bool.and_eq_true, decide_eq_true_eq, decide_eq_true_eq]
  have h1 : 0 ≤ (lv : Int) * (T : Int) := Int.mul_nonneg (by omega) (by omega)
  have h2 : ((lv + 1 : Nat) : Int) * (T : Int) ≤ (L : Int) * (T : Int) := Int.mul_le_mul_of_nonneg_right (by omega) (by omega)
  have h3 : ((lv + 1 : Nat) : Int) * (T : Int) = (lv : Int) * (T : Int) + T := by rw [Int.natCast_add, Int.add_mul]; simp
  exact ⟨by omega, by rw [hN]; omega⟩
theorem load_hit {m : MemS} {a : Int} (h : m.hit a = true) : m.load a = m.f a.toNat := by unfold MemS.load; rw [h]; rfl
theorem at_hit {m : MemS} {a : Int} (h : m.hit a = true) : m.at_ a = { m with acc := m.acc + 1, last := a, named := true } := by unfold MemS.at_; rw [h]; rfl
theorem store_hit {m : MemS} {a v : Int} (h : m.hit a = true) : m.store a v = { m with acc := m.acc + 1, last := a, named := true, f := upd m.f a.toNat v, wr := m.wr + 1 } := by unfold MemS.store; rw [h, if_pos rfl, at_hit h]
theorem inK_link {c : Nat → Int} {i : Nat} (h1 : 1 ≤ i) (h2 : (i : Int) ≤ c 10) : InK c 8 (i : Nat) 0 := ⟨by omega, by unfold baseK; simp; omega, by omega, by omega, fun _ => rfl, by unfold numK many baseK; simp; omega⟩
theorem inK_head {c : Nat → Int} {i : Nat} (h1 : 1 ≤ i) (h2 : (i : Int) ≤ c 10) : InK c 9 (i : Nat) 0 := ⟨by omega, by unfold baseK; simp; omega, by omega, by omega, fun h => absurd rfl h, by unfold numK many; simp; omega⟩
end
section
open Go.RowKit
set_option linter.unusedVariables false
set_option linter.unusedSimpArgs false
set_option linter.unnecessarySimpa false
/-- What Take needs of a machine. -/
structure CanTake (s : MachS) (t q lv : Nat) : Prop where
  may : ConfMay s.c
  memN : (s.mem.N : Int) = s.c 0 * firsts s.c 10
  tp : s.tp[t]? = some q
  lvl : levelOf s.c t = (lv : Nat)
  lvc : (lv : Int) < s.c 0
  run : ((s.thr t).st || (s.thr t).ki) = false
  acc : s.mem.acc < 100000000
  wr : s.mem.wr < 100000000
  steps : s.steps < 100000
  clk : ∀ k, s.clk k < 100000000
  fr : (s.thr t).frames.length < 100000
def St5 (S0 S1 S2 S3 S4 : MachS) : Nat → MachS
  | 0 => S0
  | 1 => S1
  | 2 => S2
  | 3 => S3
  | _ => S4
/-- What is behind a Take that told a slot. -/
structure Took (s S : MachS) (t lv : Nat) (sl gen : Nat) (a : Nat) (v : Int) : Prop where
  c : S.c = s.c
  tp : S.tp = s.tp
  f : S.mem.f = upd s.mem.f a v
  N : S.mem.N = s.mem.N
  acc : S.mem.acc = s.mem.acc + 4
  wr : S.mem.wr ≤ s.mem.wr + 1
  steps : S.steps = s.steps + 4
  clk : ∀ k, S.clk k ≤ s.clk k + 4
  ward : S.ward = s.ward.take lv (sl : Nat)
  thr : S.thr t = { s.thr t with told := fun i => ([(sl : Int), (gen : Int)] : List Int).getD i 0 }
  oth : ∀ j, j ≠ t → S.thr j = s.thr j
set_option maxHeartbeats 4000000 in
theorem took_trail {σ : World} (K : Mm) (p : Nat) {s : MachS} {t q lv : Nat} (hs : CanTake s t q lv) {X Y Z sl : Nat} (hX : s.mem.f (atK s.c lv 0 0 0).toNat = (X : Int)) (hX64 : X < 18446744073709551616) (hsl : cutN X 0 8 = sl) (hp1 : 1 ≤ sl) (h10 : (sl : Int) ≤ s.c 10) (hY : s.mem.f (atK s.c lv 8 (sl : Nat) 0).toNat = (Y : Int)) (hY63 : Y < 9223372036854775808) (hZ : s.mem.f (atK s.c lv 9 (sl : Nat) 0).toNat = (Z : Int)) (hZ64 : Z < 18446744073709551616) (hth : s.ward.there lv (sl : Nat) = true) (hv0 : valE lv (sl : Nat) s.ward.held = 0) :
    ∃ St : Nat → MachS, St 0 = s.begun t 1 [] ∧ Trail σ K p t q (.func (.func 6) #[] #[]) (s.thr t).frames.length St 4 ∧ Took s (St 4) t lv sl (cutN Z 2 32) (atK s.c lv 0 0 0).toNat (mkTop Y (cutN X 8 56 + 1) : Nat) := by
  have hA0 := atK_hit hs.may hs.memN hs.lvc (inK_free s.c)
  have hA1 := atK_hit hs.may hs.memN hs.lvc (inK_link (c := s.c) hp1 h10)
  have hA3 := atK_hit hs.may hs.memN hs.lvc (inK_head (c := s.c) hp1 h10)
  have hne : (atK s.c lv 9 (sl : Nat) 0).toNat ≠ (atK s.c lv 0 0 0).toNat := by
    have g0 := MemS.hit_iff.1 hA0
    have g3 := MemS.hit_iff.1 hA3
    have e0 : atK s.c lv 0 0 0 = (lv : Int) * firsts s.c 10 + firsts s.c 0 + numK 0 0 0 := rfl
    have e3 : atK s.c lv 9 (sl : Nat) 0 = (lv : Int) * firsts s.c 10 + firsts s.c 9 + numK 9 (sl : Nat) 0 := rfl
    have hn0 : numK 0 0 0 = 0 := by unfold numK baseK; simp
    have hn9 : numK 9 (sl : Nat) 0 = ((sl : Int) - 1) * 5 := by unfold numK; simp
    have hf0 : firsts s.c 0 = 0 := rfl
    have hf9 : firsts s.c 9 = 18 + s.c 11 + s.c 10 := rfl
    have hb := hs.may.2.2.2.2.2.1.1
    have hS := hs.may.2.2.2.2.1.1
    rw [hn0, hf0] at e0
    rw [hn9, hf9] at e3
    omega
  generalize hA0d : atK s.c lv 0 0 0 = A0 at *
  generalize hA1d : atK s.c lv 8 (sl : Nat) 0 = A1 at *
  generalize hA3d : atK s.c lv 9 (sl : Nat) 0 = A3 at *
  obtain ⟨nv, hnv⟩ : ∃ nv, mkTop Y (cutN X 8 56 + 1) = nv := ⟨_, rfl⟩
  rw [hnv]
  -- the states
  obtain ⟨m1, hm1⟩ : ∃ m1, m1 = s.mem.at_ A0 := ⟨_, rfl⟩
  have em1 := at_hit hA0
  rw [← hm1] at em1
  have hA1' : m1.hit A1 = true := by rw [em1]; exact hA1
  obtain ⟨m2, hm2⟩ : ∃ m2, m2 = m1.at_ A1 := ⟨_, rfl⟩
  have em2 := at_hit hA1'
  rw [← hm2] at em2
  have hA0' : m2.hit A0 = true := by rw [em2, em1]; exact hA0
  have hsw : m2.swaps A0 X = true := by
    unfold MemS.swaps
    rw [hA0', em2, em1]
    show (true && (s.mem.f A0.toNat == (X : Int))) = true
    rw [hX]; simp
  obtain ⟨m3, hm3⟩ : ∃ m3, m3 = m2.cas A0 X nv := ⟨_, rfl⟩
  have em3 : m3 = { m2 with acc := m2.acc + 1, last := A0, named := true, f := upd m2.f A0.toNat nv, wr := m2.wr + 1 } := by
    rw [hm3]; unfold MemS.cas; rw [hsw, if_pos rfl, store_hit hA0']
  have hA3' : m3.hit A3 = true := by rw [em3, em2, em1]; exact hA3
  obtain ⟨m4, hm4⟩ : ∃ m4, m4 = m3.at_ A3 := ⟨_, rfl⟩
  have em4 := at_hit hA3'
  rw [← hm4] at em4
  have l0 : s.mem.load A0 = (X : Int) := (load_hit hA0).trans hX
  have l1 : m1.load A1 = (Y : Int) := by rw [load_hit hA1', em1]; exact hY
  have l3 : m3.load A3 = (Z : Int) := by
    rw [load_hit hA3', em3]
    show upd m2.f A0.toNat nv A3.toNat = _
    unfold upd
    rw [if_neg hne, em2, em1]
    exact hZ
  have a1 : m1.acc = s.mem.acc + 1 := by rw [em1]
  have a2 : m2.acc = m1.acc + 1 := by rw [em2]
  have a3 : m3.acc = m2.acc + 1 := by rw [em3]
  have a4 : m4.acc = m3.acc + 1 := by rw [em4]
  have w1 : m1.wr = s.mem.wr := by rw [em1]
  have w2 : m2.wr = s.mem.wr := by rw [em2]; exact w1
  have w3 : m3.wr = s.mem.wr + 1 := by rw [em3]; show m2.wr + 1 = _; rw [w2]
  have w4 : m4.wr = s.mem.wr + 1 := by rw [em4]; exact w3
  have n1 : m1.N = s.mem.N := by rw [em1]
  have n2 : m2.N = m1.N := by rw [em2]
  have n3 : m3.N = m2.N := by rw [em3]
  have n4 : m4.N = m3.N := by rw [em4]
  have f4 : m4.f = upd s.mem.f A0.toNat nv := by rw [em4, em3]; show upd m2.f _ _ = _; rw [em2, em1]
  clear em1 em2 em3 em4
  obtain ⟨S0, hS0⟩ : ∃ S0, S0 = s.begun t 1 [] := ⟨_, rfl⟩
  have H0 : At s S0 t 0 (s.thr t).frames (takeF []) := by rw [hS0]; exact At.first s t []
  have q0 : S0.mem = s.mem := by rw [hS0]; rfl
  have d0 : S0.ward = s.ward := by rw [hS0]; rfl
  generalize hfs : (s.thr t).frames = fs at *
  have hfl : fs.length < 100000 := by rw [← hfs]; exact hs.fr
  obtain ⟨S1, hS1⟩ : ∃ S1, S1 = (MachS.top { S0.tick lv with mem := m1, ward := S0.ward } t fs (((takeF []).reg 1 X).goto 1)).after S0 lv := ⟨_, rfl⟩
  have H1 : At s S1 t 1 fs (((takeF []).reg 1 X).goto 1) := by rw [hS1]; exact H0.next (by rw [a1, q0]) (by rw [w1]; omega) (by rw [n1, q0])
  have q1 : S1.mem = m1 ∧ S1.ward = s.ward := by rw [hS1]; exact ⟨(after_same _ _ _).2.2.1, (after_same _ _ _).2.2.2.1.trans d0⟩
  obtain ⟨S2, hS2⟩ : ∃ S2, S2 = (MachS.top { S1.tick lv with mem := m2, ward := S1.ward } t fs (((((takeF []).reg 1 X).goto 1).reg 2 Y).goto 2)).after S1 lv := ⟨_, rfl⟩
  have H2 : At s S2 t 2 fs (((((takeF []).reg 1 X).goto 1).reg 2 Y).goto 2) := by rw [hS2]; exact H1.next (by rw [a2, q1.1]) (by rw [w2]; omega) (by rw [n2, q1.1])
  have q2 : S2.mem = m2 ∧ S2.ward = s.ward := by rw [hS2]; exact ⟨(after_same _ _ _).2.2.1, (after_same _ _ _).2.2.2.1.trans q1.2⟩
  obtain ⟨S3, hS3⟩ : ∃ S3, S3 = (MachS.top { S2.tick lv with mem := m3, ward := S2.ward.take lv (sl : Nat) } t fs ((((((takeF []).reg 1 X).goto 1).reg 2 Y).goto 2).goto 3)).after S2 lv := ⟨_, rfl⟩
  have H3 : At s S3 t 3 fs ((((((takeF []).reg 1 X).goto 1).reg 2 Y).goto 2).goto 3) := by rw [hS3]; exact H2.next (by rw [a3, q2.1]) (by rw [w3]; omega) (by rw [n3, q2.1])
  have q3 : S3.mem = m3 ∧ S3.ward = s.ward.take lv (sl : Nat) := by rw [hS3]; exact ⟨(after_same _ _ _).2.2.1, (after_same _ _ _).2.2.2.1.trans (by show S2.ward.take _ _ = _; rw [q2.2])⟩
  obtain ⟨S4, hS4⟩ : ∃ S4, S4 = (MachS.backed { S3.tick lv with mem := m4 } t [(sl : Nat), (cutN Z 2 32 : Nat)]).after S3 lv := ⟨_, rfl⟩
  have q4 := after_same (MachS.backed { S3.tick lv with mem := m4 } t [(sl : Nat), (cutN Z 2 32 : Nat)]) S3 lv
  rw [← hS4] at q4
  have t4 : S4.thr t = (S3.thr t).back [(sl : Nat), (cutN Z 2 32 : Nat)] := by rw [q4.2.2.2.2.1]; exact if_pos rfl
  refine ⟨St5 S0 S1 S2 S3 S4, hS0, ⟨?_, ?_, ?_, ?_⟩, ?_⟩
  · intro i hi M lab w h hM hB
    rcases i with _ | _ | _ | _ | i
    · have ec : (S0.tick lv).c = s.c := H0.c
      have em : (S0.tick lv).mem = s.mem := q0
      show Calls _ _ _ _ fun r w' => ∃ M' lab' b, r = .returned (.bool b) ∧ Has σ M' w' ∧ Mach M' lab' p S1 ∧ Base K M' lab'
      rw [hS1]
      replace hM : Mach M lab p S0 := hM
      refine step_take h hM hB (q := q) (by rw [H0.tp]; exact hs.tp) H0.fr rfl (by rw [H0.st, H0.ki]; exact hs.run) (by rw [H0.c]; exact hs.lvl) (by rw [H0.acc]; have := hs.acc; omega) (by rw [H0.steps]; have := hs.steps; omega) (fun k => by have := H0.clk k; have := hs.clk k; omega) (by omega) rfl rfl ?_ ?_
      · show (if t = t then _ else _ : ThrS).frames.length ≤ _
        rw [if_pos rfl]; simp
      · intro b K1 M1 lab1 w1 h1 hT
        have SPx := spotAt_of (σ := σ) hT.mach (lv := lv) (by rw [ec]; exact hs.lvl) (by rw [ec]; exact hs.lvc) (inK_free _)
        rw [ec, hA0d] at SPx
        have tk := take_0 h1 hT rfl (x := 0) rfl (by omega) SPx (by rw [em]; have := hs.acc; omega)
        rw [em, l0, ← hm1] at tk
        exact tk.mono fun r w' ⟨e, M', lab', h', hT'⟩ => ⟨e, M', lab', h', hT'.mach, hT'.base⟩
    · have ec : (S1.tick lv).c = s.c := H1.c
      have em : (S1.tick lv).mem = m1 := q1.1
      show Calls _ _ _ _ fun r w' => ∃ M' lab' b, r = .returned (.bool b) ∧ Has σ M' w' ∧ Mach M' lab' p S2 ∧ Base K M' lab'
      rw [hS2]
      replace hM : Mach M lab p S1 := hM
      refine step_take h hM hB (q := q) (by rw [H1.tp]; exact hs.tp) H1.fr rfl (by rw [H1.st, H1.ki]; exact hs.run) (by rw [H1.c]; exact hs.lvl) (by rw [H1.acc]; have := hs.acc; omega) (by rw [H1.steps]; have := hs.steps; omega) (fun k => by have := H1.clk k; have := hs.clk k; omega) (by omega) rfl rfl ?_ ?_
      · show (if t = t then _ else _ : ThrS).frames.length ≤ _
        rw [if_pos rfl]; simp
      · intro b K1 M1 lab1 w1 h1 hT
        have SPx := spotAt_of (σ := σ) hT.mach (lv := lv) (by rw [ec]; exact hs.lvl) (by rw [ec]; exact hs.lvc) (inK_link (i := sl) hp1 (by rw [ec]; exact h10))
        rw [ec, hA1d, ← hsl] at SPx
        have tk := take_1 h1 hT rfl (x := X) rfl hX64 (by rw [hsl]; omega) SPx (by rw [em, a1]; have := hs.acc; omega)
        rw [em, l1, ← hm2] at tk
        exact tk.mono fun r w' ⟨e, M', lab', h', hT'⟩ => ⟨e, M', lab', h', hT'.mach, hT'.base⟩
    · have ec : (S2.tick lv).c = s.c := H2.c
      have em : (S2.tick lv).mem = m2 := q2.1
      have ew : (S2.tick lv).ward = s.ward := q2.2
      show Calls _ _ _ _ fun r w' => ∃ M' lab' b, r = .returned (.bool b) ∧ Has σ M' w' ∧ Mach M' lab' p S3 ∧ Base K M' lab'
      rw [hS3]
      replace hM : Mach M lab p S2 := hM
      refine step_take h hM hB (q := q) (by rw [H2.tp]; exact hs.tp) H2.fr rfl (by rw [H2.st, H2.ki]; exact hs.run) (by rw [H2.c]; exact hs.lvl) (by rw [H2.acc]; have := hs.acc; omega) (by rw [H2.steps]; have := hs.steps; omega) (fun k => by have := H2.clk k; have := hs.clk k; omega) (by omega) rfl rfl ?_ ?_
      · show (if t = t then _ else _ : ThrS).frames.length ≤ _
        rw [if_pos rfl]; simp
      · intro b K1 M1 lab1 w1 h1 hT
        have tk := take_2yes (lv := lv) h1 hT rfl (x := X) (y := Y) rfl hX64 rfl hY63 (by rw [ec]; exact hs.lvl) (by rw [ec]; exact hs.lvc) (by rw [em, a2, a1]; have := hs.acc; omega) (by rw [em, w2]; have := hs.wr; omega) (by rw [em, ec, hA0d]; exact hsw) (by rw [ew, hsl]; exact hth) (by rw [ew, hsl]; exact hv0)
        rw [em, show atK (S2.tick lv).c lv 0 0 0 = A0 by rw [ec]; exact hA0d, hsl, hnv, ← hm3] at tk
        exact tk.mono fun r w' ⟨e, M', lab', h', hT'⟩ => ⟨e, M', lab', h', hT'.mach, hT'.base⟩
    · have ec : (S3.tick lv).c = s.c := H3.c
      have em : (S3.tick lv).mem = m3 := q3.1
      show Calls _ _ _ _ fun r w' => ∃ M' lab' b, r = .returned (.bool b) ∧ Has σ M' w' ∧ Mach M' lab' p S4 ∧ Base K M' lab'
      rw [hS4]
      replace hM : Mach M lab p S3 := hM
      refine step_take h hM hB (q := q) (by rw [H3.tp]; exact hs.tp) H3.fr rfl (by rw [H3.st, H3.ki]; exact hs.run) (by rw [H3.c]; exact hs.lvl) (by rw [H3.acc]; have := hs.acc; omega) (by rw [H3.steps]; have := hs.steps; omega) (fun k => by have := H3.clk k; have := hs.clk k; omega) (by omega) rfl rfl ?_ ?_
      · show (if t = t then _ else _ : ThrS).frames.length ≤ _
        rw [if_pos rfl]
        show ((S3.thr t).back _).frames.length ≤ _
        unfold ThrS.back
        rw [H3.fr]; simp
      · intro b K1 M1 lab1 w1 h1 hT
        have tk := take_3 (lv := lv) (z := Z) h1 hT rfl (x := X) rfl hX64 (by rw [ec]; exact hs.lvl) (by rw [ec]; exact hs.lvc) (by rw [ec, hsl]; exact inK_head hp1 h10) (by rw [em, ec, hsl, hA3d]; exact l3) hZ64 (by rw [em, a3, a2, a1]; have := hs.acc; omega) (by omega)
        rw [em, hsl, show atK (S3.tick lv).c lv 9 (sl : Nat) 0 = A3 by rw [ec]; exact hA3d, ← hm4] at tk
        exact tk
    · omega
  · intro i hi
    rcases i with _ | _ | _ | _ | _ | i
    · rw [show St5 S0 S1 S2 S3 S4 0 = S0 from rfl, H0.tp]; exact hs.tp
    · show S1.tp[t]? = _; rw [H1.tp]; exact hs.tp
    · show S2.tp[t]? = _; rw [H2.tp]; exact hs.tp
    · show S3.tp[t]? = _; rw [H3.tp]; exact hs.tp
    · show S4.tp[t]? = _; rw [q4.2.1]; show S3.tp[t]? = _; rw [H3.tp]; exact hs.tp
    · omega
  · intro i h0 hi
    rcases i with _ | _ | _ | _ | i
    · omega
    · show _ < (S1.thr t).frames.length; rw [H1.fr]; simp
    · show _ < (S2.thr t).frames.length; rw [H2.fr]; simp
    · show _ < (S3.thr t).frames.length; rw [H3.fr]; simp
    · omega
  · show (S4.thr t).frames.length ≤ _
    rw [t4]
    unfold ThrS.back
    rw [H3.fr]
    simp
  · refine ⟨q4.1.trans H3.c, q4.2.1.trans H3.tp, ?_, ?_, ?_, ?_, ?_, fun k => ?_, ?_, ?_, fun j hj => ?_⟩
    · show S4.mem.f = _; rw [q4.2.2.1]; exact f4
    · show S4.mem.N = _; rw [q4.2.2.1]; show m4.N = _; rw [n4, n3, n2, n1]
    · show S4.mem.acc = _; rw [q4.2.2.1]; show m4.acc = _; rw [a4, a3, a2, a1]
    · show S4.mem.wr ≤ _; rw [q4.2.2.1]; show m4.wr ≤ _; rw [w4]; exact Nat.le_refl _
    · show S4.steps = _; rw [q4.2.2.2.2.2.2.1]; show S3.steps + 1 = _; rw [H3.steps]
    · show S4.clk k ≤ _
      rw [q4.2.2.2.2.2.1]
      show (if lv ≤ k ∧ k < 4 then S3.clk k + 1 else S3.clk k) ≤ _
      have := H3.clk k
      split <;> omega
    · show S4.ward = _; rw [q4.2.2.2.1]; exact q3.2
    · show S4.thr t = _
      rw [t4]
      unfold ThrS.back
      rw [H3.th]
      simp [hfs]
    · show S4.thr j = _
      rw [q4.2.2.2.2.1]
      exact (if_neg hj).trans (H3.oth j hj)
end
section
open Go.RowKit
set_option linter.unusedVariables false
set_option linter.unusedSimpArgs false
set_option linter.unnecessarySimpa false
/-- What is behind a Take that told none. -/
structure Took0 (s S : MachS) (t : Nat) : Prop where
  c : S.c = s.c
  tp : S.tp = s.tp
  f : S.mem.f = s.mem.f
  N : S.mem.N = s.mem.N
  acc : S.mem.acc = s.mem.acc + 1
  wr : S.mem.wr = s.mem.wr
  steps : S.steps = s.steps + 2
  clk : ∀ k, S.clk k ≤ s.clk k + 2
  ward : S.ward = s.ward
  thr : S.thr t = { s.thr t with told := fun i => ([0, 0] : List Int).getD i 0 }
  oth : ∀ j, j ≠ t → S.thr j = s.thr j
def St3 (S0 S1 S2 : MachS) : Nat → MachS
  | 0 => S0
  | 1 => S1
  | _ => S2
set_option maxHeartbeats 4000000 in
theorem none_trail {σ : World} (K : Mm) (p : Nat) {s : MachS} {t q lv : Nat} (hs : CanTake s t q lv) {X : Nat} (hX : s.mem.f (atK s.c lv 0 0 0).toNat = (X : Int)) (hX64 : X < 18446744073709551616) (hsl : cutN X 0 8 = 0) :
    ∃ St : Nat → MachS, St 0 = s.begun t 1 [] ∧ Trail σ K p t q (.func (.func 6) #[] #[]) (s.thr t).frames.length St 2 ∧ Took0 s (St 2) t := by
  have hA0 := atK_hit hs.may hs.memN hs.lvc (inK_free s.c)
  generalize hA0d : atK s.c lv 0 0 0 = A0 at *
  obtain ⟨m1, hm1⟩ : ∃ m1, m1 = s.mem.at_ A0 := ⟨_, rfl⟩
  have em1 := at_hit hA0
  rw [← hm1] at em1
  have l0 : s.mem.load A0 = (X : Int) := (load_hit hA0).trans hX
  have a1 : m1.acc = s.mem.acc + 1 := by rw [em1]
  have w1 : m1.wr = s.mem.wr := by rw [em1]
  have n1 : m1.N = s.mem.N := by rw [em1]
  have f1 : m1.f = s.mem.f := by rw [em1]
  clear em1
  obtain ⟨S0, hS0⟩ : ∃ S0, S0 = s.begun t 1 [] := ⟨_, rfl⟩
  have H0 : At s S0 t 0 (s.thr t).frames (takeF []) := by rw [hS0]; exact At.first s t []
  have q0 : S0.mem = s.mem := by rw [hS0]; rfl
  have d0 : S0.ward = s.ward := by rw [hS0]; rfl
  generalize hfs : (s.thr t).frames = fs at *
  have hfl : fs.length < 100000 := by rw [← hfs]; exact hs.fr
  obtain ⟨S1, hS1⟩ : ∃ S1, S1 = (MachS.top { S0.tick lv with mem := m1, ward := S0.ward } t fs (((takeF []).reg 1 X).goto 1)).after S0 lv := ⟨_, rfl⟩
  have H1 : At s S1 t 1 fs (((takeF []).reg 1 X).goto 1) := by rw [hS1]; exact H0.next (by rw [a1, q0]) (by rw [w1]; omega) (by rw [n1, q0])
  have q1 : S1.mem = m1 ∧ S1.ward = s.ward := by rw [hS1]; exact ⟨(after_same _ _ _).2.2.1, (after_same _ _ _).2.2.2.1.trans d0⟩
  obtain ⟨S2, hS2⟩ : ∃ S2, S2 = (MachS.backed (S1.tick lv) t [0, 0]).after S1 lv := ⟨_, rfl⟩
  have q4 := after_same (MachS.backed (S1.tick lv) t [0, 0]) S1 lv
  rw [← hS2] at q4
  have t4 : S2.thr t = (S1.thr t).back [0, 0] := by rw [q4.2.2.2.2.1]; exact if_pos rfl
  refine ⟨St3 S0 S1 S2, hS0, ⟨?_, ?_, ?_, ?_⟩, ?_⟩
  · intro i hi M lab w h hM hB
    rcases i with _ | _ | i
    · have ec : (S0.tick lv).c = s.c := H0.c
      have em : (S0.tick lv).mem = s.mem := q0
      show Calls _ _ _ _ fun r w' => ∃ M' lab' b, r = .returned (.bool b) ∧ Has σ M' w' ∧ Mach M' lab' p S1 ∧ Base K M' lab'
      rw [hS1]
      replace hM : Mach M lab p S0 := hM
      refine step_take h hM hB (q := q) (by rw [H0.tp]; exact hs.tp) H0.fr rfl (by rw [H0.st, H0.ki]; exact hs.run) (by rw [H0.c]; exact hs.lvl) (by rw [H0.acc]; have := hs.acc; omega) (by rw [H0.steps]; have := hs.steps; omega) (fun k => by have := H0.clk k; have := hs.clk k; omega) (by omega) rfl rfl ?_ ?_
      · show (if t = t then _ else _ : ThrS).frames.length ≤ _
        rw [if_pos rfl]; simp
      · intro b K1 M1 lab1 w1 h1 hT
        have SPx := spotAt_of (σ := σ) hT.mach (lv := lv) (by rw [ec]; exact hs.lvl) (by rw [ec]; exact hs.lvc) (inK_free _)
        rw [ec, hA0d] at SPx
        have tk := take_0 h1 hT rfl (x := 0) rfl (by omega) SPx (by rw [em]; have := hs.acc; omega)
        rw [em, l0, ← hm1] at tk
        exact tk.mono fun r w' ⟨e, M', lab', h', hT'⟩ => ⟨e, M', lab', h', hT'.mach, hT'.base⟩
    · show Calls _ _ _ _ fun r w' => ∃ M' lab' b, r = .returned (.bool b) ∧ Has σ M' w' ∧ Mach M' lab' p S2 ∧ Base K M' lab'
      rw [hS2]
      replace hM : Mach M lab p S1 := hM
      refine step_take h hM hB (q := q) (by rw [H1.tp]; exact hs.tp) H1.fr rfl (by rw [H1.st, H1.ki]; exact hs.run) (by rw [H1.c]; exact hs.lvl) (by rw [H1.acc]; have := hs.acc; omega) (by rw [H1.steps]; have := hs.steps; omega) (fun k => by have := H1.clk k; have := hs.clk k; omega) (by omega) rfl rfl ?_ ?_
      · show (if t = t then _ else _ : ThrS).frames.length ≤ _
        rw [if_pos rfl]
        show ((S1.thr t).back _).frames.length ≤ _
        unfold ThrS.back
        rw [H1.fr]; simp
      · intro b K1 M1 lab1 w1 h1 hT
        exact take_1end h1 hT rfl (x := X) rfl hX64 hsl (by omega)
    · omega
  · intro i hi
    rcases i with _ | _ | _ | i
    · show S0.tp[t]? = _; rw [H0.tp]; exact hs.tp
    · show S1.tp[t]? = _; rw [H1.tp]; exact hs.tp
    · show S2.tp[t]? = _; rw [q4.2.1]; show S1.tp[t]? = _; rw [H1.tp]; exact hs.tp
    · omega
  · intro i h0 hi
    rcases i with _ | _ | i
    · omega
    · show _ < (S1.thr t).frames.length; rw [H1.fr]; simp
    · omega
  · show (S2.thr t).frames.length ≤ _
    rw [t4]
    unfold ThrS.back
    rw [H1.fr]
    simp
  · refine ⟨q4.1.trans H1.c, q4.2.1.trans H1.tp, ?_, ?_, ?_, ?_, ?_, fun k => ?_, ?_, ?_, fun j hj => ?_⟩
    · show S2.mem.f = _; rw [q4.2.2.1]; show S1.mem.f = _; rw [q1.1]; exact f1
    · show S2.mem.N = _; rw [q4.2.2.1]; show S1.mem.N = _; rw [q1.1]; exact n1
    · show S2.mem.acc = _; rw [q4.2.2.1]; show S1.mem.acc = _; rw [q1.1]; exact a1
    · show S2.mem.wr = _; rw [q4.2.2.1]; show S1.mem.wr = _; rw [q1.1]; exact w1
    · show S2.steps = _; rw [q4.2.2.2.2.2.2.1]; show S1.steps + 1 = _; rw [H1.steps]
    · show S2.clk k ≤ _
      rw [q4.2.2.2.2.2.1]
      show (if lv ≤ k ∧ k < 4 then S1.clk k + 1 else S1.clk k) ≤ _
      have := H1.clk k
      split <;> omega
    · show S2.ward = _; rw [q4.2.2.2.1]; exact q1.2
    · show S2.thr t = _
      rw [t4]
      unfold ThrS.back
      rw [H1.th]
      simp [hfs]
    · show S2.thr j = _
      rw [q4.2.2.2.2.1]
      exact (if_neg hj).trans (H1.oth j hj)
end
end
section
open Go.RowKit
set_option linter.unusedVariables false
set_option linter.unusedSimpArgs false
set_option linter.unnecessarySimpa false
def Dropped3 : Nat → Prop := fun k => k = 3 ∨ (k = 4 ∨ k = 6)
section
variable {σ w : World} {K M M' : Mm} {lab lab' : Nat → Nat} {p : Nat} {s : MachS}
theorem gone_kp (hM : Mach M lab p s) (l t : Int) : Kp Dropped3 M lab ((M.upd s.ward.hb (mapRow (s.ward.gone l t).held (s.ward.gone l t).hclk)).upd s.ward.gb (mapRow (s.ward.gone l t).gens (s.ward.gone l t).gclk)) lab := by
  have k1 : Kp (fun j => j = 3) M lab (M.upd s.ward.hb (mapRow (s.ward.gone l t).held (s.ward.gone l t).hclk)) lab := Kp.upd hM.wlab.2.1 _
  exact (k1.trans (Kp.upd hM.wlab.2.2 _)).mono fun _ h => .inl h
theorem Mach.gaveK (hM : Mach M lab p s) (hB : Base K M lab) {g : GivenS} {v : Value} {M3 : Mm} (hle : (M.out lab 6).le M3) (ho : Own (M.out lab 6) M3 158 6 v (s.given.length + 1) ((s.given ++ [g]).flatMap encG)) {s' : MachS} (hs : s' = { s with gv := v, given := s.given ++ [g] }) :
    ∃ lab', Base K (M3.upd p (.cells s'.row 100)) lab' ∧ Mach (M3.upd p (.cells s'.row 100)) lab' p s' ∧ Kp (fun k => k = 4 ∨ k = 6) M lab (M3.upd p (.cells s'.row 100)) lab' := by
  subst hs
  obtain ⟨lab', hK, hR⟩ := Row.grow hle ho
  obtain ⟨p1, p2⟩ := hK.get hM.obj hM.mark (by omega)
  have k3 : Kp (fun j => j = 4) M3 lab' (M3.upd p (.cells (MachS.row { s with gv := v, given := s.given ++ [g] }) 100)) lab' := Kp.upd p2 _
  have k4 : Kp (fun k => k = 4 ∨ k = 6) M lab (M3.upd p (.cells (MachS.row { s with gv := v, given := s.given ++ [g] }) 100)) lab' := (hK.mono fun _ h => .inr h).trans (k3.mono fun _ h => .inl h)
  obtain ⟨⟨o1, o2, h1, h2, h3, h4, h5, h6, h7, h8, h9, h10, h11, h12⟩, h13⟩ := hM
  obtain ⟨m1, m2⟩ := h4.keep h5 k4 (by omega)
  obtain ⟨w1, w2⟩ := h7.keep h8 k4 (by omega)
  obtain ⟨q1, q2⟩ := k4.get h2 h3 (by omega)
  refine ⟨lab', hB.keep k4 (by omega), ⟨⟨Mm.upd_same _ _ _, p2, h1, q1, q2, m1, m2, h6, w1, w2, h9, h10.keep k4 (by omega), fun t p' hp => (h11 t p' hp).keep k4 fun k hk => by have := hk.1; omega, ?_⟩, h13⟩, k4⟩
  have := hR.keep k3 (by omega)
  rw [List.length_append]
  exact this
/-- Behind Drop of what is held. -/
def MachS.gaveS (s : MachS) (lv t : Int) (gv : Value) : MachS := { s with ward := s.ward.gone lv t, gv := gv, given := s.given ++ [⟨lv, s.ward.link lv t, s.clk⟩] }
set_option maxHeartbeats 4000000 in
set_option maxRecDepth 20000 in
theorem mDrop_kp (h : Has σ M w) (hM : Mach M lab p s) (hB : Base K M lab) (t slot : Int) {lv : Int} (hlv : levelOf s.c t = lv) (hst : StampE s.ward.gens s.ward.gclk) (hg : 0 ≤ valE lv slot s.ward.gens ∧ valE lv slot s.ward.gens < 1000000000) (hsl : s.ward.slips < 1000000000) (hn : s.given.length < 1000000) (hh : s.ward.has lv slot = true) :
    Calls Try.prog 85 #[.pointer (some ⟨p, 0, none⟩), .int .i64 t, .int .i64 slot] w fun r w' => r = .returned (.tuple #[]) ∧ ∃ M' lab' gv, Has σ M' w' ∧ Base K M' lab' ∧ Mach M' lab' p (s.gaveS lv slot gv) ∧ Kp Dropped3 M lab M' lab' := by
  have LV := Lib.hid (fun (w : World) (h : Has σ M w) => mLevel_eq h hM t)
  rw [hlv] at LV
  have WD := Lib.hid (fun (w : World) (h : Has σ M w) => mWarden_eq h hM)
  have hs60 : s.ward.sl ≤ 1000000 := by rw [hM.wsz.2]; have := (Nums.of hM.may); obtain ⟨L, B, S, hn⟩ := this; have := hn.slo; have := hn.s0; omega
  have LK := Lib.hid (fun (w : World) (h : Has σ M w) => wardLink_eq h hM.ward lv slot hs60 hg)
  have DR := Lib.hid (fun (w : World) (h : Has σ M w) => drop_yes h hM.ward lv slot hh hst (by omega))
  obtain ⟨hM2, hB2⟩ := hM.gone hB lv slot rfl
  have KPA := Lib.hid (gone_kp hM lv slot)
  obtain ⟨g, G⟩ : ∃ g : GivenS, Hid (g = GivenS.mk lv (s.ward.link lv slot) s.clk) := ⟨_, rfl⟩
  have E : ∀ gv, MachS.gaveS s lv slot gv = { { s with ward := s.ward.gone lv slot } with gv := gv, given := s.given ++ [g] } := fun gv => by unfold MachS.gaveS; rw [G.out]
  replace E := Lib.hid E
  have EG : Hid (encG g = [.int .i64 lv, .int .u64 (s.ward.link lv slot), .int .i64 (s.clk 0 : Nat), .int .i64 (s.clk 1 : Nat), .int .i64 (s.clk 2 : Nat), .int .i64 (s.clk 3 : Nat)]) := by show _ = _; rw [G.out]; rfl
  clear hM hB hlv hst hg hsl hs60 hh
  generalize (M.upd s.ward.hb _).upd s.ward.gb _ = M2 at DR hM2 hB2 KPA
  obtain ⟨s2, E2⟩ : ∃ s2 : MachS, Hid (s2 = { s with ward := s.ward.gone lv slot }) := ⟨_, rfl⟩
  rw [← E2.out] at hM2 E
  have hp := hM2.obj
  have e8 : s2.row[8]? = some s2.gv := rfl
  have eg : Hid (s2.given = s.given) := by show _ = _; rw [E2.out]
  have e4 : s2.row.extract 4 (4 + 4) = #[.int .i64 (s.clk 0 : Nat), .int .i64 (s.clk 1 : Nat), .int .i64 (s.clk 2 : Nat), .int .i64 (s.clk 3 : Nat)] := by rw [E2.out]; rfl
  have l8 : 8 < s2.row.size := show 8 < 11 by omega
  have hown := hM2.grow
  have hpo := Mm.out_of (lab := lab) (k := 6) hp (by rw [hM2.mark]; omega)
  have hle := Mm.out_le M2 lab 6
  unfold Row at hown
  rw [eg.out] at hown
  have GAVE := Lib.hid (fun (M3 : Mm) (v : Value) hl ho => hM2.gaveK hB2 (g := g) (v := v) (M3 := M3) hl ho (s' := { s2 with gv := v, given := s2.given ++ [g] }) rfl)
  rw [eg.out] at GAVE
  have EQ : Hid (∀ v, s2.row.setIfInBounds 8 v = MachS.row { s2 with gv := v, given := s.given ++ [g] }) := Lib.hid fun v => rfl
  have FA : Hid (∀ g : GivenS, (s.given ++ [g]).flatMap encG = s.given.flatMap encG ++ encG g) := Lib.hid fun g => by simp
  replace FA := Lib.hid (FA.out g)
  clear hM2 hB2
  generalize s2.row = row at hp e8 e4 l8 EQ hpo
  generalize s2.gv = gv at e8 hown
  generalize s.given.flatMap encG = xs at hown FA
  generalize hnn : s.given.length = n at hown hn GAVE
  generalize s.ward.link lv slot = lk at LK EG
  generalize s.clk 0 = k0 at e4 EG
  generalize s.clk 1 = k1 at e4 EG
  generalize s.clk 2 = k2 at e4 EG
  generalize s.clk 3 = k3 at e4 EG
  go_enter Try.func85, Try.ntmps85
  go_upto_region 3 with (first
    | (go_at_call 14; refine (LV.out _ h).mono ?_; clear h; rintro _ w ⟨rfl, h⟩)
    | (go_at_call 27; refine (WD.out _ h).mono ?_; clear h; rintro _ w ⟨rfl, h⟩)
    | (go_at_call 29; refine (LK.out _ h).mono ?_; clear h; rintro _ w ⟨rfl, h⟩)
    | (go_at_call 93; refine (DR.out _ h).mono ?_; clear h; rintro _ w ⟨rfl, h⟩))
  clear LV WD LK DR
  have hpN := Mm.drop_none (M2.out lab 6) p
  have hdl : ((M2.out lab 6).drop p).le M2 := Mm.le_trans (Mm.drop_le _ _) hle
  have hd6 := Mm.drop_le (M2.out lab 6) p
  generalize (M2.out lab 6).drop p = MD at hpN hdl hd6
  generalize M2.out lab 6 = MR at hle hpo hown GAVE hd6
  refine wp_region_held_drew (S := Has σ (MD)) (by kernel_rfl) (h.drew.le hdl) (fun hHeld => ?_)
  refine wpAnyH_take (i := 0) (v := ?_) rfl (by kernel_rfl) (by kernel_rfl) (by kernel_rfl) (fun _ _ _ h => h) (Or.inl ⟨by rfl, ?_⟩) hHeld ?_
  rotate_left
  · (intro wz _; go_simp; try with_reducible rfl)
  try simp only [List.getElem_toArray, List.getElem_cons_succ, List.getElem_cons_zero, Act.put, List.setIfInBounds_toArray, List.set_cons_zero, List.set_cons_succ]
  refine wpAnyH_take (i := 1) (v := ?_) rfl (by kernel_rfl) (by kernel_rfl) (by kernel_rfl) (fun _ _ _ h => h) (Or.inl ⟨by rfl, ?_⟩) hHeld ?_
  rotate_left
  · (intro wz _; go_simp; try with_reducible rfl)
  try simp only [List.getElem_toArray, List.getElem_cons_succ, List.getElem_cons_zero, Act.put, List.setIfInBounds_toArray, List.set_cons_zero, List.set_cons_succ]
  refine wpAnyH_take (i := 2) (v := ?_) rfl (by kernel_rfl) (by kernel_rfl) (by kernel_rfl) (fun _ _ _ h => h) (Or.inl ⟨by rfl, ?_⟩) hHeld ?_
  rotate_left
  · (intro wz _; go_simp; try with_reducible rfl)
  try simp only [List.getElem_toArray, List.getElem_cons_succ, List.getElem_cons_zero, Act.put, List.setIfInBounds_toArray, List.set_cons_zero, List.set_cons_succ]
  refine wpAnyH_take (i := 3) (v := ?_) rfl (by kernel_rfl) (by kernel_rfl) (by kernel_rfl) (fun _ _ _ h => h) (Or.inl ⟨by rfl, ?_⟩) hHeld ?_
  rotate_left
  · (intro wz _; go_simp; try with_reducible rfl)
  try simp only [List.getElem_toArray, List.getElem_cons_succ, List.getElem_cons_zero, Act.put, List.setIfInBounds_toArray, List.set_cons_zero, List.set_cons_succ]
  refine wpAnyH_take (i := 5) (v := ?_) rfl (by kernel_rfl) (by kernel_rfl) (by kernel_rfl) (fun _ _ _ h => h) (Or.inl ⟨by rfl, ?_⟩) hHeld ?_
  rotate_left
  · (intro wz _; go_simp; try with_reducible rfl)
  try simp only [List.getElem_toArray, List.getElem_cons_succ, List.getElem_cons_zero, Act.put, List.setIfInBounds_toArray, List.set_cons_zero, List.set_cons_succ]
  refine wpAnyH_take (i := 6) (v := ?_) rfl (by kernel_rfl) (by kernel_rfl) (by kernel_rfl) (fun _ _ _ h => h) (Or.inl ⟨by rfl, ?_⟩) hHeld ?_
  rotate_left
  · (intro wz _; go_simp; try with_reducible rfl)
  try simp only [List.getElem_toArray, List.getElem_cons_succ, List.getElem_cons_zero, Act.put, List.setIfInBounds_toArray, List.set_cons_zero, List.set_cons_succ]
  refine wpAnyH_take (i := 7) (v := ?_) rfl (by kernel_rfl) (by kernel_rfl) (by kernel_rfl) (fun _ _ _ h => h) (Or.inl ⟨by rfl, ?_⟩) hHeld ?_
  rotate_left
  · (intro wz _; go_simp; try with_reducible rfl)
  try simp only [List.getElem_toArray, List.getElem_cons_succ, List.getElem_cons_zero, Act.put, List.setIfInBounds_toArray, List.set_cons_zero, List.set_cons_succ]
  refine wpAnyH_take (i := 8) (v := ?_) rfl (by kernel_rfl) (by kernel_rfl) (by kernel_rfl) (fun _ _ _ h => h) (Or.inl ⟨by rfl, ?_⟩) hHeld ?_
  rotate_left
  · (intro wz _; go_simp; try with_reducible rfl)
  try simp only [List.getElem_toArray, List.getElem_cons_succ, List.getElem_cons_zero, Act.put, List.setIfInBounds_toArray, List.set_cons_zero, List.set_cons_succ]
  refine wpAnyH_take (i := 9) (v := ?_) rfl (by kernel_rfl) (by kernel_rfl) (by kernel_rfl) (fun _ _ _ h => h) (Or.inl ⟨by rfl, ?_⟩) hHeld ?_
  rotate_left
  · (intro wz _; go_simp; try with_reducible rfl)
  try simp only [List.getElem_toArray, List.getElem_cons_succ, List.getElem_cons_zero, Act.put, List.setIfInBounds_toArray, List.set_cons_zero, List.set_cons_succ]
  replace h := h.drew
  generalize w.drew = w1 at h hHeld ⊢
  clear w
  obtain ⟨w, rfl⟩ : ∃ q : World, q = w1 := ⟨_, rfl⟩
  refine wpAnyH_ready (rs := [4, 10]) (by kernel_rfl) (by simp) ?_
  refine AllReadyH.cons rfl (fun K hK => ?_) (AllReadyH.cons rfl (fun K hK => ?_) AllReadyH.nil)
  · refine step_yields rfl (yields_load1 rfl 98 _ rfl rfl hp e8 Try.underlying98 rfl) h ?_
    refine hK.out _ _ hHeld (fun hHeld => ?_)
    clear hK K
    simp only [Act.put, List.setIfInBounds_toArray, List.set_cons_zero, List.set_cons_succ]
    refine wpAnyH_ready (rs := [10]) (by kernel_rfl) (by simp) ?_
    refine AllReadyH.cons rfl (fun K hK => ?_) AllReadyH.nil
    (refine step_yields rfl (yields_agg rfl 97 _ rfl rfl hp e4 rfl Try.underlying97 rfl (by kernel_rfl)) h ?_)
    refine hK.out _ _ (hHeld) (fun hHeld => ?_)
    clear hK K
    try simp only [Act.put, List.setIfInBounds_toArray, List.set_cons_zero, List.set_cons_succ]
    refine wpAnyH_take (i := 11) (v := ?_) rfl (by kernel_rfl) (by kernel_rfl) (by kernel_rfl) (fun _ _ _ h => h) (Or.inl ⟨by rfl, ?_⟩) hHeld ?_
    rotate_left
    · (intro wz _; go_simp; try with_reducible rfl)
    try simp only [List.getElem_toArray, List.getElem_cons_succ, List.getElem_cons_zero, Act.put, List.setIfInBounds_toArray, List.set_cons_zero, List.set_cons_succ]
    refine wpAnyH_ready (rs := [12]) (by kernel_rfl) (by simp) ?_
    refine AllReadyH.cons rfl (fun K hK => ?_) AllReadyH.nil
    go_simp
    refine hK.out _ _ ((h.quietAlloc _).le hdl) (fun hHeld => ?_)
    clear hK K
    try simp only [Act.put, List.setIfInBounds_toArray, List.set_cons_zero, List.set_cons_succ]
    clear hHeld
    obtain ⟨M3, hbx, hle2, hbl, hnl⟩ := h.box (.cells #[.int .i64 lv, .int .u64 lk, .int .i64 (k0 : Nat), .int .i64 (k1 : Nat), .int .i64 (k2 : Nat), .int .i64 (k3 : Nat)] 158)
    generalize w.alloc _ = wx at hbx ⊢
    generalize w.heap.size = bl at hbl hnl ⊢
    clear h
    try clear w
    have h := hbx
    clear hbx
    obtain ⟨w, rfl⟩ : ∃ x : World, x = wx := ⟨_, rfl⟩
    have hHeld : Has σ MD w := h.le (Mm.le_trans hdl hle2)
    have hrl : Rd M3 6 (.slice (some ⟨bl, 0, none⟩) 1 1) 1 [.int .i64 lv, .int .u64 lk, .int .i64 (k0 : Nat), .int .i64 (k1 : Nat), .int .i64 (k2 : Nat), .int .i64 (k3 : Nat)] := ⟨rfl, _, _, rfl, Nat.le_refl _, fun _ => ⟨bl, 0, _, _, _, rfl, hbl, fun j u hu => by simpa using hu⟩⟩
    have hleR := Mm.le_trans hle hle2
    have hownR := hown.le hle2
    refine wpAnyH_ready (rs := [13]) (by kernel_rfl) (by simp) ?_
    refine AllReadyH.cons rfl (fun K hK => ?_) AllReadyH.nil
    (refine step_append_rd h hleR rfl _ _ 98 rfl Try.underlying98 info_gv rfl (by omega) rfl hownR rfl hrl (by intro y hy; simp at hy; rcases hy with rfl | rfl | rfl | rfl | rfl | rfl <;> rfl) (by omega) (by omega) ?_; clear h; intro v w hacc; obtain ⟨M4, h, hl3, ho3⟩ := hacc)
    refine hK.out _ _ (h.le (Mm.le_trans hd6 hl3)) (fun hHeld => ?_)
    clear hK K
    try simp only [Act.put, List.setIfInBounds_toArray, List.set_cons_zero, List.set_cons_succ]
    obtain ⟨A, cc, rfl⟩ := ho3.form
    refine wpAnyH_take (i := 14) (v := ?_) rfl (by kernel_rfl) (by kernel_rfl) (by kernel_rfl) (fun _ _ _ h => h) (Or.inl ⟨by rfl, ?_⟩) hHeld ?_
    rotate_left
    · (intro wz _; go_simp; try with_reducible rfl)
    try simp only [List.getElem_toArray, List.getElem_cons_succ, List.getElem_cons_zero, Act.put, List.setIfInBounds_toArray, List.set_cons_zero, List.set_cons_succ]
    refine wpAnyH_take (i := 15) (v := ?_) rfl (by kernel_rfl) (by kernel_rfl) (by kernel_rfl) (fun _ _ _ h => h) (Or.inl ⟨by rfl, ?_⟩) hHeld ?_
    rotate_left
    · (intro wz _; go_simp; try with_reducible rfl)
    try simp only [List.getElem_toArray, List.getElem_cons_succ, List.getElem_cons_zero, Act.put, List.setIfInBounds_toArray, List.set_cons_zero, List.set_cons_succ]
    have hdo : ∀ o, MD.le (M4.upd p o) := fun o => Mm.le_upd (Mm.le_trans hd6 hl3) hpN o
    refine wpAnyH_ready (rs := [16]) (by kernel_rfl) (by simp) ?_
    refine AllReadyH.cons rfl (fun K hK => ?_) AllReadyH.nil
    (refine step_store1 (v := .slice A (n + 1) cc) h rfl 98 _ _ rfl rfl rfl (hl3 _ _ hpo) l8 rfl rfl (by kernel_rfl) ?_; clear h; intro w h)
    refine hK.out _ _ (h.le (hdo _)) (fun hHeld => ?_)
    clear hK K
    try simp only [Act.put, List.setIfInBounds_toArray, List.set_cons_zero, List.set_cons_succ]
    refine wpAnyH_done (by kernel_rfl) ?_ _
    rw [EQ.out] at h
    have ho4 : Own MR M4 158 6 (.slice A (n + 1) cc) (n + 1) ((s.given ++ [g]).flatMap encG) := by
      rw [FA.out, EG.out]
      exact ho3
    obtain ⟨lab', hB3, hM3, hK3⟩ := GAVE.out M4 _ hl3 ho4
    clear hdo ho4 ho3 hHeld hrl hleR hownR hl3 hle2
    go_wp2
    go_end0
    exact ⟨rfl, _, lab', _, h, hB3, by rw [E.out]; exact hM3, KPA.out.trans (hK3.mono fun _ h => .inr h)⟩
  · refine step_yields rfl (yields_agg rfl 97 _ rfl rfl hp e4 rfl Try.underlying97 rfl (by kernel_rfl)) h ?_
    refine hK.out _ _ hHeld (fun hHeld => ?_)
    clear hK K
    simp only [Act.put, List.setIfInBounds_toArray, List.set_cons_zero, List.set_cons_succ]
    refine wpAnyH_take (i := 11) (v := ?_) rfl (by kernel_rfl) (by kernel_rfl) (by kernel_rfl) (fun _ _ _ h => h) (Or.inl ⟨by rfl, ?_⟩) hHeld ?_
    rotate_left
    · (intro wz _; go_simp; try with_reducible rfl)
    try simp only [List.getElem_toArray, List.getElem_cons_succ, List.getElem_cons_zero, Act.put, List.setIfInBounds_toArray, List.set_cons_zero, List.set_cons_succ]
    refine wpAnyH_ready (rs := [4, 12]) (by kernel_rfl) (by simp) ?_
    refine AllReadyH.cons rfl (fun K hK => ?_) (AllReadyH.cons rfl (fun K hK => ?_) AllReadyH.nil)
    · refine step_yields rfl (yields_load1 rfl 98 _ rfl rfl hp e8 Try.underlying98 rfl) h ?_
      refine hK.out _ _ hHeld (fun hHeld => ?_)
      clear hK K
      simp only [Act.put, List.setIfInBounds_toArray, List.set_cons_zero, List.set_cons_succ]
      refine wpAnyH_ready (rs := [12]) (by kernel_rfl) (by simp) ?_
      refine AllReadyH.cons rfl (fun K hK => ?_) AllReadyH.nil
      go_simp
      refine hK.out _ _ ((h.quietAlloc _).le hdl) (fun hHeld => ?_)
      clear hK K
      try simp only [Act.put, List.setIfInBounds_toArray, List.set_cons_zero, List.set_cons_succ]
      clear hHeld
      obtain ⟨M3, hbx, hle2, hbl, hnl⟩ := h.box (.cells #[.int .i64 lv, .int .u64 lk, .int .i64 (k0 : Nat), .int .i64 (k1 : Nat), .int .i64 (k2 : Nat), .int .i64 (k3 : Nat)] 158)
      generalize w.alloc _ = wx at hbx ⊢
      generalize w.heap.size = bl at hbl hnl ⊢
      clear h
      try clear w
      have h := hbx
      clear hbx
      obtain ⟨w, rfl⟩ : ∃ x : World, x = wx := ⟨_, rfl⟩
      have hHeld : Has σ MD w := h.le (Mm.le_trans hdl hle2)
      have hrl : Rd M3 6 (.slice (some ⟨bl, 0, none⟩) 1 1) 1 [.int .i64 lv, .int .u64 lk, .int .i64 (k0 : Nat), .int .i64 (k1 : Nat), .int .i64 (k2 : Nat), .int .i64 (k3 : Nat)] := ⟨rfl, _, _, rfl, Nat.le_refl _, fun _ => ⟨bl, 0, _, _, _, rfl, hbl, fun j u hu => by simpa using hu⟩⟩
      have hleR := Mm.le_trans hle hle2
      have hownR := hown.le hle2
      refine wpAnyH_ready (rs := [13]) (by kernel_rfl) (by simp) ?_
      refine AllReadyH.cons rfl (fun K hK => ?_) AllReadyH.nil
      (refine step_append_rd h hleR rfl _ _ 98 rfl Try.underlying98 info_gv rfl (by omega) rfl hownR rfl hrl (by intro y hy; simp at hy; rcases hy with rfl | rfl | rfl | rfl | rfl | rfl <;> rfl) (by omega) (by omega) ?_; clear h; intro v w hacc; obtain ⟨M4, h, hl3, ho3⟩ := hacc)
      refine hK.out _ _ (h.le (Mm.le_trans hd6 hl3)) (fun hHeld => ?_)
      clear hK K
      try simp only [Act.put, List.setIfInBounds_toArray, List.set_cons_zero, List.set_cons_succ]
      obtain ⟨A, cc, rfl⟩ := ho3.form
      refine wpAnyH_take (i := 14) (v := ?_) rfl (by kernel_rfl) (by kernel_rfl) (by kernel_rfl) (fun _ _ _ h => h) (Or.inl ⟨by rfl, ?_⟩) hHeld ?_
      rotate_left
      · (intro wz _; go_simp; try with_reducible rfl)
      try simp only [List.getElem_toArray, List.getElem_cons_succ, List.getElem_cons_zero, Act.put, List.setIfInBounds_toArray, List.set_cons_zero, List.set_cons_succ]
      refine wpAnyH_take (i := 15) (v := ?_) rfl (by kernel_rfl) (by kernel_rfl) (by kernel_rfl) (fun _ _ _ h => h) (Or.inl ⟨by rfl, ?_⟩) hHeld ?_
      rotate_left
      · (intro wz _; go_simp; try with_reducible rfl)
      try simp only [List.getElem_toArray, List.getElem_cons_succ, List.getElem_cons_zero, Act.put, List.setIfInBounds_toArray, List.set_cons_zero, List.set_cons_succ]
      have hdo : ∀ o, MD.le (M4.upd p o) := fun o => Mm.le_upd (Mm.le_trans hd6 hl3) hpN o
      refine wpAnyH_ready (rs := [16]) (by kernel_rfl) (by simp) ?_
      refine AllReadyH.cons rfl (fun K hK => ?_) AllReadyH.nil
      (refine step_store1 (v := .slice A (n + 1) cc) h rfl 98 _ _ rfl rfl rfl (hl3 _ _ hpo) l8 rfl rfl (by kernel_rfl) ?_; clear h; intro w h)
      refine hK.out _ _ (h.le (hdo _)) (fun hHeld => ?_)
      clear hK K
      try simp only [Act.put, List.setIfInBounds_toArray, List.set_cons_zero, List.set_cons_succ]
      refine wpAnyH_done (by kernel_rfl) ?_ _
      rw [EQ.out] at h
      have ho4 : Own MR M4 158 6 (.slice A (n + 1) cc) (n + 1) ((s.given ++ [g]).flatMap encG) := by
        rw [FA.out, EG.out]
        exact ho3
      obtain ⟨lab', hB3, hM3, hK3⟩ := GAVE.out M4 _ hl3 ho4
      clear hdo ho4 ho3 hHeld hrl hleR hownR hl3 hle2
      go_wp2
      go_end0
      exact ⟨rfl, _, lab', _, h, hB3, by rw [E.out]; exact hM3, KPA.out.trans (hK3.mono fun _ h => .inr h)⟩
    · go_simp
      refine hK.out _ _ ((h.quietAlloc _).le hdl) (fun hHeld => ?_)
      clear hK K
      try simp only [Act.put, List.setIfInBounds_toArray, List.set_cons_zero, List.set_cons_succ]
      clear hHeld
      obtain ⟨M3, hbx, hle2, hbl, hnl⟩ := h.box (.cells #[.int .i64 lv, .int .u64 lk, .int .i64 (k0 : Nat), .int .i64 (k1 : Nat), .int .i64 (k2 : Nat), .int .i64 (k3 : Nat)] 158)
      generalize w.alloc _ = wx at hbx ⊢
      generalize w.heap.size = bl at hbl hnl ⊢
      clear h
      try clear w
      have h := hbx
      clear hbx
      obtain ⟨w, rfl⟩ : ∃ x : World, x = wx := ⟨_, rfl⟩
      have hHeld : Has σ MD w := h.le (Mm.le_trans hdl hle2)
      have hrl : Rd M3 6 (.slice (some ⟨bl, 0, none⟩) 1 1) 1 [.int .i64 lv, .int .u64 lk, .int .i64 (k0 : Nat), .int .i64 (k1 : Nat), .int .i64 (k2 : Nat), .int .i64 (k3 : Nat)] := ⟨rfl, _, _, rfl, Nat.le_refl _, fun _ => ⟨bl, 0, _, _, _, rfl, hbl, fun j u hu => by simpa using hu⟩⟩
      have hleR := Mm.le_trans hle hle2
      have hownR := hown.le hle2
      refine wpAnyH_ready (rs := [4]) (by kernel_rfl) (by simp) ?_
      refine AllReadyH.cons rfl (fun K hK => ?_) AllReadyH.nil
      (refine step_yields rfl (yields_load1 rfl 98 _ rfl rfl (hle2 _ _ hp) e8 Try.underlying98 rfl) h ?_)
      refine hK.out _ _ (hHeld) (fun hHeld => ?_)
      clear hK K
      try simp only [Act.put, List.setIfInBounds_toArray, List.set_cons_zero, List.set_cons_succ]
      refine wpAnyH_ready (rs := [13]) (by kernel_rfl) (by simp) ?_
      refine AllReadyH.cons rfl (fun K hK => ?_) AllReadyH.nil
      (refine step_append_rd h hleR rfl _ _ 98 rfl Try.underlying98 info_gv rfl (by omega) rfl hownR rfl hrl (by intro y hy; simp at hy; rcases hy with rfl | rfl | rfl | rfl | rfl | rfl <;> rfl) (by omega) (by omega) ?_; clear h; intro v w hacc; obtain ⟨M4, h, hl3, ho3⟩ := hacc)
      refine hK.out _ _ (h.le (Mm.le_trans hd6 hl3)) (fun hHeld => ?_)
      clear hK K
      try simp only [Act.put, List.setIfInBounds_toArray, List.set_cons_zero, List.set_cons_succ]
      obtain ⟨A, cc, rfl⟩ := ho3.form
      refine wpAnyH_take (i := 14) (v := ?_) rfl (by kernel_rfl) (by kernel_rfl) (by kernel_rfl) (fun _ _ _ h => h) (Or.inl ⟨by rfl, ?_⟩) hHeld ?_
      rotate_left
      · (intro wz _; go_simp; try with_reducible rfl)
      try simp only [List.getElem_toArray, List.getElem_cons_succ, List.getElem_cons_zero, Act.put, List.setIfInBounds_toArray, List.set_cons_zero, List.set_cons_succ]
      refine wpAnyH_take (i := 15) (v := ?_) rfl (by kernel_rfl) (by kernel_rfl) (by kernel_rfl) (fun _ _ _ h => h) (Or.inl ⟨by rfl, ?_⟩) hHeld ?_
      rotate_left
      · (intro wz _; go_simp; try with_reducible rfl)
      try simp only [List.getElem_toArray, List.getElem_cons_succ, List.getElem_cons_zero, Act.put, List.setIfInBounds_toArray, List.set_cons_zero, List.set_cons_succ]
      have hdo : ∀ o, MD.le (M4.upd p o) := fun o => Mm.le_upd (Mm.le_trans hd6 hl3) hpN o
      refine wpAnyH_ready (rs := [16]) (by kernel_rfl) (by simp) ?_
      refine AllReadyH.cons rfl (fun K hK => ?_) AllReadyH.nil
      (refine step_store1 (v := .slice A (n + 1) cc) h rfl 98 _ _ rfl rfl rfl (hl3 _ _ hpo) l8 rfl rfl (by kernel_rfl) ?_; clear h; intro w h)
      refine hK.out _ _ (h.le (hdo _)) (fun hHeld => ?_)
      clear hK K
      try simp only [Act.put, List.setIfInBounds_toArray, List.set_cons_zero, List.set_cons_succ]
      refine wpAnyH_done (by kernel_rfl) ?_ _
      rw [EQ.out] at h
      have ho4 : Own MR M4 158 6 (.slice A (n + 1) cc) (n + 1) ((s.given ++ [g]).flatMap encG) := by
        rw [FA.out, EG.out]
        exact ho3
      obtain ⟨lab', hB3, hM3, hK3⟩ := GAVE.out M4 _ hl3 ho4
      clear hdo ho4 ho3 hHeld hrl hleR hownR hl3 hle2
      go_wp2
      go_end0
      exact ⟨rfl, _, lab', _, h, hB3, by rw [E.out]; exact hM3, KPA.out.trans (hK3.mono fun _ h => .inr h)⟩
end
end
section
open Go.RowKit
set_option linter.unusedVariables false
set_option linter.unusedSimpArgs false
set_option linter.unnecessarySimpa false
/-- A spot is in a map once. -/
def OnceE (es : List Ent) : Prop := (es.map fun x => (x.l, x.s)).Nodup
theorem firstHeld_val (n : Nat) : ∀ l t : Int, valE l t (firstHeld n) = if t = 1 ∧ 0 ≤ l ∧ l < n then 1 else 0 := by
  intro l t
  induction n with
  | zero => simp [firstHeld, valE]
  | succ n ih =>
    have e : ∀ (a b : List Ent), valE l t (a ++ b) = if hasE l t a then valE l t a else valE l t b := fun a b => by
      induction a with
      | nil => simp [hasE]
      | cons x r ih2 =>
        simp only [List.cons_append, valE, hasE]
        by_cases h : (l == x.l && t == x.s) = true
        · simp only [h, if_true, Bool.true_or]
        · simp only [Bool.not_eq_true] at h
          simp only [h, Bool.false_eq_true, if_false, Bool.false_or, ih2]
    have hv : hasE l t (firstHeld n) = true → valE l t (firstHeld n) = 1 := by
      have : ∀ (ls : List Nat), hasE l t (ls.map fun (l : Nat) => (⟨l, 1, 1, l⟩ : Ent)) = true → valE l t (ls.map fun (l : Nat) => (⟨l, 1, 1, l⟩ : Ent)) = 1 := fun ls => by
        induction ls with
        | nil => intro h; cases h
        | cons x r ih2 =>
          intro h
          simp only [List.map_cons, hasE, valE] at h ⊢
          cases h3 : (l == (x : Int) && t == 1)
          · rw [h3] at h; simp only [Bool.false_or] at h; simpa using ih2 h
          · simp
      exact this _
    rw [← firstHeld_put, putE_none _ _ _ _ _ (firstHeld_has n), e]
    cases hh : hasE l t (firstHeld n)
    · have := hasE_val hh
      rw [this] at ih
      simp only [Bool.false_eq_true, if_false, valE]
      split
      · rename_i h
        simp only [Bool.and_eq_true, beq_iff_eq] at h
        rw [if_pos (by omega)]
      · rename_i h
        simp only [Bool.and_eq_true, beq_iff_eq] at h
        split at ih
        · cases ih
        · rw [if_neg (by omega)]
    · have h1 := hv hh
      rw [h1] at ih
      simp only [if_true]
      rw [h1]
      split at ih
      · rw [if_pos (by omega)]
      · cases ih
theorem valE_put (l t v : Int) (clk : Nat) (l' t' : Int) : ∀ es : List Ent, valE l' t' (putE l t v clk es) = if l' = l ∧ t' = t then v else valE l' t' es
  | [] => by
    simp only [putE, valE]
    by_cases h : l' = l ∧ t' = t
    · rw [if_pos h, if_pos (by simpa using h)]
    · rw [if_neg h, if_neg (by simpa using h)]
  | x :: r => by
    have ih := valE_put l t v clk l' t' r
    unfold putE
    cases hx : (l == x.l && t == x.s)
    · simp only [Bool.false_eq_true, if_false, valE, ih]
      by_cases h : l' = l ∧ t' = t
      · obtain ⟨rfl, rfl⟩ := h
        rw [hx]
        simp
      · simp only [if_neg h]
    · simp only [Bool.and_eq_true, beq_iff_eq] at hx
      obtain ⟨rfl, rfl⟩ := hx
      simp only [if_true, valE]
      by_cases h : l' = x.l ∧ t' = x.s
      · rw [if_pos h]
        simp [h.1, h.2]
      · rw [if_neg h]
        have : (l' == x.l && t' == x.s) = false := by simpa using h
        simp only [this, Bool.false_eq_true, if_false]
theorem StampE.put {es : List Ent} {clk : Nat} (h : StampE es clk) (l t v : Int) : StampE (putE l t v clk es) (if hasE l t es then clk else clk + 1) := by
  have hb : ∀ es : List Ent, hasE l t es = true → (putE l t v clk es).map (·.born) = es.map (·.born) := by
    intro es
    induction es with
    | nil => intro h; cases h
    | cons x r ih =>
      intro h
      unfold hasE at h
      unfold putE
      cases hx : (l == x.l && t == x.s)
      · rw [hx, Bool.false_or] at h
        simp [ih h]
      · simp
  cases hh : hasE l t es
  · rw [putE_none _ _ _ _ _ hh]
    simp only [Bool.false_eq_true, if_false]
    refine ⟨fun y hy => ?_, ?_⟩
    · rcases List.mem_append.1 hy with hy | hy
      · exact Nat.lt_succ_of_lt (h.1 y hy)
      · simp at hy; subst hy; exact Nat.lt_succ_self _
    · rw [List.map_append, List.nodup_append]
      refine ⟨h.2, by simp, fun a ha b hb => ?_⟩
      simp at hb
      subst hb
      obtain ⟨y, hy, rfl⟩ := List.mem_map.1 ha
      have := h.1 y hy
      omega
  · simp only [if_true]
    have e := hb es hh
    refine ⟨fun y hy => ?_, by rw [e]; exact h.2⟩
    have : y.born ∈ es.map (·.born) := by rw [← e]; exact List.mem_map_of_mem hy
    obtain ⟨z, hz, e2⟩ := List.mem_map.1 this
    have := h.1 z hz
    omega
theorem valE_del_ne (l t l' t' : Int) (hne : ¬ (l' = l ∧ t' = t)) : ∀ es : List Ent, valE l' t' (delE l t es) = valE l' t' es
  | [] => rfl
  | x :: r => by
    have ih := valE_del_ne l t l' t' hne r
    unfold delE
    cases hx : (l == x.l && t == x.s)
    · simp only [Bool.false_eq_true, if_false, valE, ih]
    · simp only [Bool.and_eq_true, beq_iff_eq] at hx
      obtain ⟨rfl, rfl⟩ := hx
      have : (l' == x.l && t' == x.s) = false := by simpa using hne
      simp only [if_true, valE, this, Bool.false_eq_true, if_false]
theorem valE_del (l t : Int) : ∀ es : List Ent, OnceE es → valE l t (delE l t es) = 0
  | [], _ => rfl
  | x :: r, h => by
    unfold OnceE at h
    simp only [List.map_cons, List.nodup_cons] at h
    unfold delE
    cases hx : (l == x.l && t == x.s)
    · simp only [Bool.false_eq_true, if_false, valE, hx]
      exact valE_del l t r h.2
    · simp only [Bool.and_eq_true, beq_iff_eq] at hx
      obtain ⟨rfl, rfl⟩ := hx
      simp only [if_true]
      apply hasE_val
      have h1 := h.1
      have : ∀ r : List Ent, (x.l, x.s) ∉ r.map (fun x => (x.l, x.s)) → hasE x.l x.s r = false := by
        intro r
        induction r with
        | nil => intro _; rfl
        | cons y r ih =>
          intro h
          simp only [List.map_cons, List.mem_cons, not_or] at h
          unfold hasE
          rw [ih h.2, Bool.or_false]
          have := h.1
          simp only [Prod.mk.injEq] at this
          simpa using this
      exact this r h1
theorem OnceE.del {es : List Ent} (h : OnceE es) (l t : Int) : OnceE (delE l t es) := by
  induction es with
  | nil => exact h
  | cons x r ih =>
    unfold OnceE at h ih ⊢
    simp only [List.map_cons, List.nodup_cons] at h
    unfold delE
    split
    · exact h.2
    · simp only [List.map_cons, List.nodup_cons]
      refine ⟨fun hm => h.1 ?_, ih h.2⟩
      obtain ⟨y, hy, e⟩ := List.mem_map.1 hm
      have : ∀ r : List Ent, y ∈ delE l t r → y ∈ r := fun r => by
        induction r with
        | nil => intro h; exact h
        | cons z r ih =>
          intro h
          unfold delE at h
          split at h
          · exact List.mem_cons_of_mem _ h
          · rcases List.mem_cons.1 h with rfl | h
            · exact List.mem_cons_self
            · exact List.mem_cons_of_mem _ (ih h)
      exact List.mem_map.2 ⟨y, this r hy, e⟩
theorem watch_given (s : MachS) (lv : Int) (acc wr : Nat) : (s.watch lv acc wr).given = s.given ∧ ((s.watch lv acc wr).fault = (s.fault || (decide (s.mem.acc ≠ acc) && s.wrong lv acc wr))) := by
  unfold MachS.watch
  split
  · rename_i h; simp [h]
  · rename_i h
    split
    · rename_i h2; simp [h, h2]
    · rename_i h2; simp [h, h2]
theorem at_acc (m : MemS) (x : Int) : (m.at_ x).acc = m.acc + 1 ∧ (m.at_ x).wr = m.wr ∧ (m.at_ x).N = m.N := by
  unfold MemS.at_
  split <;> exact ⟨rfl, rfl, rfl⟩
theorem store_acc (m : MemS) (x v : Int) : (m.store x v).acc = m.acc + 1 ∧ (m.store x v).wr ≤ m.wr + 1 ∧ (m.store x v).N = m.N := by
  unfold MemS.store
  split
  · exact ⟨(at_acc m x).1, Nat.le_refl _, (at_acc m x).2.2⟩
  · exact ⟨(at_acc m x).1, by rw [(at_acc m x).2.1]; exact Nat.le_succ _, (at_acc m x).2.2⟩
theorem watch_same (s : MachS) (lv : Int) (acc wr : Nat) : (s.watch lv acc wr).c = s.c ∧ (s.watch lv acc wr).tp = s.tp ∧ (s.watch lv acc wr).mem = s.mem ∧ (s.watch lv acc wr).clk = s.clk ∧ (s.watch lv acc wr).steps = s.steps ∧ (s.watch lv acc wr).thr = s.thr ∧ (s.watch lv acc wr).ward = s.ward := by
  unfold MachS.watch
  split
  · exact ⟨rfl, rfl, rfl, rfl, rfl, rfl, rfl⟩
  · split <;> exact ⟨rfl, rfl, rfl, rfl, rfl, rfl, rfl⟩
theorem OnceE.put {es : List Ent} (h : OnceE es) (l t v : Int) (clk : Nat) : OnceE (putE l t v clk es) := by
  have hm : ∀ (es : List Ent) (y : Int × Int), y ∈ (putE l t v clk es).map (fun x => (x.l, x.s)) → y = (l, t) ∨ y ∈ es.map (fun x => (x.l, x.s)) := by
    intro es
    induction es with
    | nil => intro y hy; simp [putE] at hy; exact .inl hy
    | cons x r ih =>
      intro y hy
      unfold putE at hy
      split at hy
      · exact .inr (by simpa using hy)
      · simp only [List.map_cons, List.mem_cons] at hy ⊢
        rcases hy with hy | hy
        · exact .inr (.inl hy)
        · rcases ih y hy with h | h
          · exact .inl h
          · exact .inr (.inr h)
  induction es with
  | nil => unfold OnceE; simp [putE]
  | cons x r ih =>
    unfold OnceE at h ih ⊢
    simp only [List.map_cons, List.nodup_cons] at h
    unfold putE
    split
    · simpa using h
    · rename_i hne
      simp only [List.map_cons, List.nodup_cons]
      refine ⟨fun hx => ?_, ih h.2⟩
      rcases hm r _ hx with e | e
      · apply hne
        simp only [Prod.mk.injEq] at e
        simp [e.1, e.2]
      · exact h.1 e
end
section
open Go.RowKit
set_option linter.unusedVariables false
set_option linter.unusedSimpArgs false
set_option linter.unnecessarySimpa false
def put1 {α : Type} (f : Nat → α) (k : Nat) (v : α) : Nat → α := fun j => if j = k then v else f j
theorem put1_same {α : Type} (f : Nat → α) (k : Nat) (v : α) : put1 f k v k = v := if_pos rfl
theorem put1_ne {α : Type} {f : Nat → α} {k j : Nat} {v : α} (h : j ≠ k) : put1 f k v j = f j := if_neg h
/-- A level: the top, links, heads, which slots are held. -/
structure LvG where
  top : Nat
  lk : Nat → Nat
  hd : Nat → Nat
  held : Nat → Bool
/-- A frame. -/
structure StF where
  fn : Nat
  pc : Nat
  r0 : Nat
  r1 : Nat
  r2 : Nat
structure StG where
  lv : Nat → LvG
  thr : Nat → Option StF
  t0 : Nat → Nat
  t1 : Nat → Nat
def StF.enc (F : StF) : FrameS := ⟨F.fn, F.pc, fun i => if i = 0 then F.r0 else if i = 1 then F.r1 else if i = 2 then F.r2 else 0⟩
def slOf (x : Nat) : Nat := cutN x 0 8
def cnt (x : Nat) : Nat := cutN x 8 56
def genOf (x : Nat) : Nat := cutN x 2 32
def StG.go (g : StG) (t : Nat) (F : StF) : StG := { g with thr := put1 g.thr t (some F) }
def StG.back (g : StG) (t a b : Nat) : StG := { g with thr := put1 g.thr t none, t0 := put1 g.t0 t a, t1 := put1 g.t1 t b }
def StG.lev (g : StG) (l : Nat) (L : LvG) : StG := { g with lv := put1 g.lv l L }
def StG.take (g : StG) (t l : Nat) (F : StF) : StG :=
  if F.pc = 0 then g.go t { F with r1 := (g.lv l).top, pc := 1 }
  else if F.pc = 1 then (if slOf F.r1 = 0 then g.back t 0 0 else g.go t { F with r2 := (g.lv l).lk (slOf F.r1), pc := 2 })
  else if F.pc = 2 then (if (g.lv l).top = F.r1 then (g.lev l { g.lv l with top := mkTop F.r2 (cnt F.r1 + 1), held := put1 (g.lv l).held (slOf F.r1) true }).go t { F with pc := 3 } else g.go t { F with pc := 0 })
  else g.back t (slOf F.r1) (genOf ((g.lv l).hd (slOf F.r1)))
def StG.give (gens : Nat) (g : StG) (t l : Nat) (F : StF) : StG :=
  if F.pc = 0 then g.go t { F with r2 := genOf ((g.lv l).hd F.r0) + 1, pc := 1 }
  else if F.pc = 1 then (g.lev l { g.lv l with hd := put1 (g.lv l).hd F.r0 (mkHead (F.r2 - 1) 3) }).go t { F with pc := 2 }
  else if F.pc = 2 then g.go t { F with pc := 3 }
  else if F.pc = 3 then g.go t { F with pc := 4 }
  else if F.pc = 4 then g.go t { F with pc := 5 }
  else if F.pc = 5 then g.go t { F with pc := 6 }
  else if F.pc = 6 then (if F.r2 < gens then (g.lev l { g.lv l with hd := put1 (g.lv l).hd F.r0 (mkHead F.r2 0), held := put1 (g.lv l).held F.r0 false }).go t { F with pc := 7 } else (g.lev l { g.lv l with hd := put1 (g.lv l).hd F.r0 (mkHead F.r2 0), held := put1 (g.lv l).held F.r0 false }).back t 0 0)
  else if F.pc = 7 then g.go t { F with r1 := (g.lv l).top, pc := 8 }
  else if F.pc = 8 then (g.lev l { g.lv l with lk := put1 (g.lv l).lk F.r0 (slOf F.r1) }).go t { F with pc := 9 }
  else (if (g.lv l).top = F.r1 then (g.lev l { g.lv l with top := mkTop F.r0 (cnt F.r1 + 1) }).back t 0 0 else g.go t { F with pc := 7 })
def StG.next (gens : Nat) (g : StG) (t l : Nat) (F : StF) : StG := if F.fn = 1 then g.take t l F else g.give gens t l F
theorem enc_goto (F : StF) (k : Nat) : F.enc.goto (k : Nat) = { F with pc := k }.enc := rfl
theorem enc_reg1 (F : StF) (v : Nat) : F.enc.reg 1 (v : Nat) = { F with r1 := v }.enc := by
  unfold FrameS.reg StF.enc
  congr 1
  funext i
  unfold upd
  by_cases h : i = 1
  · subst h; rfl
  · simp [h]
theorem enc_reg2 (F : StF) (v : Nat) : F.enc.reg 2 (v : Nat) = { F with r2 := v }.enc := by
  unfold FrameS.reg StF.enc
  congr 1
  funext i
  unfold upd
  by_cases h : i = 2
  · subst h; rfl
  · simp [h]
theorem enc_call (fn : Nat) (us : List Int) (u : Nat) (h : us = [] ∧ u = 0 ∨ us = [(u : Int)]) : (⟨fn, 0, fun i => us.getD i 0⟩ : FrameS) = (⟨fn, 0, u, 0, 0⟩ : StF).enc := by
  unfold StF.enc
  congr 1
  funext i
  rcases h with ⟨rfl, rfl⟩ | rfl
  · simp
  · by_cases h : i = 0
    · subst h; rfl
    · obtain ⟨k, rfl⟩ : ∃ k, i = k + 1 := ⟨i - 1, by omega⟩
      simp
/-- Where a level's words are. -/
structure Words (c : Nat → Int) (f : Nat → Int) (G : Nat → LvG) : Prop where
  top : ∀ l : Nat, (l : Int) < c 0 → f (atK c (l : Nat) 0 0 0).toNat = ((G l).top : Int)
  lk : ∀ l i : Nat, (l : Int) < c 0 → 1 ≤ i → (i : Int) ≤ c 10 → f (atK c (l : Nat) 8 (i : Nat) 0).toNat = ((G l).lk i : Int)
  hd : ∀ l i : Nat, (l : Int) < c 0 → 1 ≤ i → (i : Int) ≤ c 10 → f (atK c (l : Nat) 9 (i : Nat) 0).toNat = ((G l).hd i : Int)
  fld : ∀ l i j : Nat, (l : Int) < c 0 → 1 ≤ i → (i : Int) ≤ c 10 → 1 ≤ j → j < 5 → f (atK c (l : Nat) 9 (i : Nat) (j : Nat)).toNat = 0
theorem inK_node {c : Nat → Int} {i j : Nat} (h1 : 1 ≤ i) (h2 : (i : Int) ≤ c 10) (hj : j < 5) : InK c 9 (i : Nat) (j : Nat) := ⟨by omega, by unfold baseK; simp; omega, by omega, by omega, fun h => absurd rfl h, by unfold numK many; simp; omega⟩
/-- Places are told apart. -/
theorem atK_inj {c : Nat → Int} (hc : ConfMay c) {l l' k k' : Nat} {i j i' j' : Int} (hk : InK c k i j) (hk' : InK c k' i' j') (e : (atK c (l : Nat) k i j).toNat = (atK c (l' : Nat) k' i' j').toNat) : l = l' ∧ firsts c k + numK k i j = firsts c k' + numK k' i' j' := by
  have low : ∀ {k : Nat} {i j : Int}, InK c k i j → 0 ≤ firsts c k + numK k i j ∧ firsts c k + numK k i j < firsts c 10 := fun {k i j} hk => by
    have hs := firsts_succ c (k := k) hk.kind
    have hnn := numK_nn hk
    have hhi := hk.high
    have hf0 := (firsts_bd hc k).1
    have hkk := hk.kind
    have hle : firsts c (k + 1) ≤ firsts c 10 := by
      obtain ⟨_, _, _, _, ⟨g2, g3⟩, ⟨g4, g5⟩, _⟩ := hc
      unfold firsts
      rcases k with _ | _ | _ | _ | _ | _ | _ | _ | _ | _ | k <;> simp <;> omega
    omega
  have a := low hk
  have b := low hk'
  have h31 := firsts_ten hc
  unfold atK at e
  generalize firsts c 10 = T at *
  have n1 : 0 ≤ (l : Int) * T := Int.mul_nonneg (by omega) (by omega)
  have n2 : 0 ≤ (l' : Int) * T := Int.mul_nonneg (by omega) (by omega)
  have q1 : ((firsts c k + numK k i j) + (l : Int) * T) / T = l := by rw [Int.add_mul_ediv_right _ _ (by omega), Int.ediv_eq_zero_of_lt a.1 a.2]; omega
  have q2 : ((firsts c k' + numK k' i' j') + (l' : Int) * T) / T = l' := by rw [Int.add_mul_ediv_right _ _ (by omega), Int.ediv_eq_zero_of_lt b.1 b.2]; omega
  have e2 : (firsts c k + numK k i j) + (l : Int) * T = (firsts c k' + numK k' i' j') + (l' : Int) * T := by omega
  have e3 : (l : Int) = (l' : Int) := by rw [← q1, ← q2, e2]
  have e4 : l = l' := by omega
  subst e4
  exact ⟨rfl, by omega⟩
theorem atK_lv {c : Nat → Int} (hc : ConfMay c) {l k : Nat} {i j : Int} (hk : InK c k i j) : atK c (l : Nat) k i j / firsts c 10 = (l : Int) := by
  have hs := firsts_succ c (k := k) hk.kind
  have hnn := numK_nn hk
  have hhi := hk.high
  have hf0 := (firsts_bd hc k).1
  have hkk := hk.kind
  have hle : firsts c (k + 1) ≤ firsts c 10 := by
    obtain ⟨_, _, _, _, ⟨g2, g3⟩, ⟨g4, g5⟩, _⟩ := hc
    unfold firsts
    rcases k with _ | _ | _ | _ | _ | _ | _ | _ | _ | _ | k <;> simp <;> omega
  have h31 := firsts_ten hc
  unfold atK
  generalize firsts c 10 = T at *
  rw [show (l : Int) * T + firsts c k + numK k i j = (firsts c k + numK k i j) + (l : Int) * T by omega, Int.add_mul_ediv_right _ _ (by omega), Int.ediv_eq_zero_of_lt (by omega) (by omega)]
  omega
theorem num_0 (c : Nat → Int) : firsts c 0 + numK 0 0 0 = 0 := by unfold firsts numK baseK; simp
theorem num_8 (c : Nat → Int) (i : Nat) : firsts c 8 + numK 8 (i : Nat) 0 = 18 + c 11 + ((i : Int) - 1) := by unfold firsts numK baseK; simp
theorem num_9 (c : Nat → Int) (i j : Nat) : firsts c 9 + numK 9 (i : Nat) (j : Nat) = 18 + c 11 + c 10 + ((i : Int) - 1) * 5 + j := by unfold firsts numK; simp; omega
theorem num_9' (c : Nat → Int) (i : Nat) : firsts c 9 + numK 9 (i : Nat) 0 = 18 + c 11 + c 10 + ((i : Int) - 1) * 5 := by have := num_9 c i 0; simpa using this
section
variable {c f : Nat → Int} {G : Nat → LvG} {l : Nat}
theorem upd_far {f : Nat → Int} {a b : Nat} {v : Int} (h : b ≠ a) : upd f a v b = f b := if_neg h
theorem upd_here (f : Nat → Int) (a : Nat) (v : Int) : upd f a v a = v := if_pos rfl
/-- The top is another one. -/
theorem Words.setTop (hc : ConfMay c) (h : Words c f G) (hl : (l : Int) < c 0) (v : Nat) : Words c (upd f (atK c (l : Nat) 0 0 0).toNat v) (put1 G l { G l with top := v }) := by
  refine ⟨fun l' hl' => ?_, fun l' i hl' h1 h2 => ?_, fun l' i hl' h1 h2 => ?_, fun l' i j hl' h1 h2 h3 h4 => ?_⟩
  · by_cases e : l' = l
    · subst e; rw [upd_here, put1_same]
    · rw [put1_ne e, upd_far]
      · exact h.top l' hl'
      · exact fun e2 => e (atK_inj hc (inK_free c) (inK_free c) e2).1
  · rw [upd_far]
    · rw [h.lk l' i hl' h1 h2]
      by_cases e : l' = l
      · subst e; rw [put1_same]
      · rw [put1_ne e]
    · skip
      refine fun e => ?_
      have h := atK_inj hc (inK_link h1 h2) (inK_free c) e
      simp only [num_0, num_8, num_9, num_9'] at h
      obtain ⟨_, _, _, _, ⟨_, _⟩, ⟨_, _⟩, _⟩ := hc
      omega
  · rw [upd_far]
    · rw [h.hd l' i hl' h1 h2]
      by_cases e : l' = l
      · subst e; rw [put1_same]
      · rw [put1_ne e]
    · skip
      refine fun e => ?_
      have h := atK_inj hc (inK_head h1 h2) (inK_free c) e
      simp only [num_0, num_8, num_9, num_9'] at h
      obtain ⟨_, _, _, _, ⟨_, _⟩, ⟨_, _⟩, _⟩ := hc
      omega
  · rw [upd_far]
    · exact h.fld l' i j hl' h1 h2 h3 h4
    · skip
      refine fun e => ?_
      have h := atK_inj hc (inK_node h1 h2 h4) (inK_free c) e
      simp only [num_0, num_8, num_9, num_9'] at h
      obtain ⟨_, _, _, _, ⟨_, _⟩, ⟨_, _⟩, _⟩ := hc
      omega
/-- A link is another one. -/
theorem Words.setLk (hc : ConfMay c) (h : Words c f G) (hl : (l : Int) < c 0) {k : Nat} (k1 : 1 ≤ k) (k2 : (k : Int) ≤ c 10) (v : Nat) : Words c (upd f (atK c (l : Nat) 8 (k : Nat) 0).toNat v) (put1 G l { G l with lk := put1 (G l).lk k v }) := by
  refine ⟨fun l' hl' => ?_, fun l' i hl' h1 h2 => ?_, fun l' i hl' h1 h2 => ?_, fun l' i j hl' h1 h2 h3 h4 => ?_⟩
  · rw [upd_far]
    · rw [h.top l' hl']
      by_cases e : l' = l
      · subst e; rw [put1_same]
      · rw [put1_ne e]
    · skip
      refine fun e => ?_
      have h := atK_inj hc (inK_free c) (inK_link k1 k2) e
      simp only [num_0, num_8, num_9, num_9'] at h
      obtain ⟨_, _, _, _, ⟨_, _⟩, ⟨_, _⟩, _⟩ := hc
      omega
  · by_cases e : l' = l
    · subst e
      rw [put1_same]
      by_cases e : i = k
      · subst e; rw [upd_here]; show _ = ((put1 _ i v i : Nat) : Int); rw [put1_same]
      · rw [upd_far]
        · rw [h.lk l' i hl' h1 h2]; show _ = ((put1 _ k v i : Nat) : Int); rw [put1_ne e]
        · skip
          refine fun e => ?_
          have h := atK_inj hc (inK_link h1 h2) (inK_link k1 k2) e
          simp only [num_0, num_8, num_9, num_9'] at h
          obtain ⟨_, _, _, _, ⟨_, _⟩, ⟨_, _⟩, _⟩ := hc
          omega
    · rw [put1_ne e, upd_far]
      · exact h.lk l' i hl' h1 h2
      · exact fun e2 => e (atK_inj hc (inK_link h1 h2) (inK_link k1 k2) e2).1
  · rw [upd_far]
    · rw [h.hd l' i hl' h1 h2]
      by_cases e : l' = l
      · subst e; rw [put1_same]
      · rw [put1_ne e]
    · skip
      refine fun e => ?_
      have h := atK_inj hc (inK_head h1 h2) (inK_link k1 k2) e
      simp only [num_0, num_8, num_9, num_9'] at h
      obtain ⟨_, _, _, _, ⟨_, _⟩, ⟨_, _⟩, _⟩ := hc
      omega
  · rw [upd_far]
    · exact h.fld l' i j hl' h1 h2 h3 h4
    · skip
      refine fun e => ?_
      have h := atK_inj hc (inK_node h1 h2 h4) (inK_link k1 k2) e
      simp only [num_0, num_8, num_9, num_9'] at h
      obtain ⟨_, _, _, _, ⟨_, _⟩, ⟨_, _⟩, _⟩ := hc
      omega
/-- A head is another one. -/
theorem Words.setHd (hc : ConfMay c) (h : Words c f G) (hl : (l : Int) < c 0) {k : Nat} (k1 : 1 ≤ k) (k2 : (k : Int) ≤ c 10) (v : Nat) : Words c (upd f (atK c (l : Nat) 9 (k : Nat) 0).toNat v) (put1 G l { G l with hd := put1 (G l).hd k v }) := by
  refine ⟨fun l' hl' => ?_, fun l' i hl' h1 h2 => ?_, fun l' i hl' h1 h2 => ?_, fun l' i j hl' h1 h2 h3 h4 => ?_⟩
  · rw [upd_far]
    · rw [h.top l' hl']
      by_cases e : l' = l
      · subst e; rw [put1_same]
      · rw [put1_ne e]
    · skip
      refine fun e => ?_
      have h := atK_inj hc (inK_free c) (inK_head k1 k2) e
      simp only [num_0, num_8, num_9, num_9'] at h
      obtain ⟨_, _, _, _, ⟨_, _⟩, ⟨_, _⟩, _⟩ := hc
      omega
  · rw [upd_far]
    · rw [h.lk l' i hl' h1 h2]
      by_cases e : l' = l
      · subst e; rw [put1_same]
      · rw [put1_ne e]
    · skip
      refine fun e => ?_
      have h := atK_inj hc (inK_link h1 h2) (inK_head k1 k2) e
      simp only [num_0, num_8, num_9, num_9'] at h
      obtain ⟨_, _, _, _, ⟨_, _⟩, ⟨_, _⟩, _⟩ := hc
      omega
  · by_cases e : l' = l
    · subst e
      rw [put1_same]
      by_cases e : i = k
      · subst e; rw [upd_here]; show _ = ((put1 _ i v i : Nat) : Int); rw [put1_same]
      · rw [upd_far]
        · rw [h.hd l' i hl' h1 h2]; show _ = ((put1 _ k v i : Nat) : Int); rw [put1_ne e]
        · skip
          refine fun e => ?_
          have h := atK_inj hc (inK_head h1 h2) (inK_head k1 k2) e
          simp only [num_0, num_8, num_9, num_9'] at h
          obtain ⟨_, _, _, _, ⟨_, _⟩, ⟨_, _⟩, _⟩ := hc
          omega
    · rw [put1_ne e, upd_far]
      · exact h.hd l' i hl' h1 h2
      · exact fun e2 => e (atK_inj hc (inK_head h1 h2) (inK_head k1 k2) e2).1
  · rw [upd_far]
    · exact h.fld l' i j hl' h1 h2 h3 h4
    · skip
      refine fun e => ?_
      have h := atK_inj hc (inK_node h1 h2 h4) (inK_head k1 k2) e
      simp only [num_0, num_8, num_9, num_9'] at h
      obtain ⟨_, _, _, _, ⟨_, _⟩, ⟨_, _⟩, _⟩ := hc
      omega
/-- A field is 0 still. -/
theorem Words.setFld (hc : ConfMay c) (h : Words c f G) {k m : Nat} (k1 : 1 ≤ k) (k2 : (k : Int) ≤ c 10) (m1 : 1 ≤ m) (m2 : m < 5) : Words c (upd f (atK c (l : Nat) 9 (k : Nat) (m : Nat)).toNat 0) G := by
  refine ⟨fun l' hl' => ?_, fun l' i hl' h1 h2 => ?_, fun l' i hl' h1 h2 => ?_, fun l' i j hl' h1 h2 h3 h4 => ?_⟩
  · rw [upd_far]
    · exact h.top l' hl'
    · skip
      refine fun e => ?_
      have h := atK_inj hc (inK_free c) (inK_node k1 k2 m2) e
      simp only [num_0, num_8, num_9, num_9'] at h
      obtain ⟨_, _, _, _, ⟨_, _⟩, ⟨_, _⟩, _⟩ := hc
      omega
  · rw [upd_far]
    · exact h.lk l' i hl' h1 h2
    · skip
      refine fun e => ?_
      have h := atK_inj hc (inK_link h1 h2) (inK_node k1 k2 m2) e
      simp only [num_0, num_8, num_9, num_9'] at h
      obtain ⟨_, _, _, _, ⟨_, _⟩, ⟨_, _⟩, _⟩ := hc
      omega
  · rw [upd_far]
    · exact h.hd l' i hl' h1 h2
    · skip
      refine fun e => ?_
      have h := atK_inj hc (inK_head h1 h2) (inK_node k1 k2 m2) e
      simp only [num_0, num_8, num_9, num_9'] at h
      obtain ⟨_, _, _, _, ⟨_, _⟩, ⟨_, _⟩, _⟩ := hc
      omega
  · by_cases e : (atK c (l' : Nat) 9 (i : Nat) (j : Nat)).toNat = (atK c (l : Nat) 9 (k : Nat) (m : Nat)).toNat
    · rw [e, upd_here]
    · rw [upd_far e]; exact h.fld l' i j hl' h1 h2 h3 h4
/-- What only the warden or nothing changes. -/
theorem Words.same (h : Words c f G) {L : LvG} (e : L.top = (G l).top ∧ L.lk = (G l).lk ∧ L.hd = (G l).hd) : Words c f (put1 G l L) := by
  have hh : ∀ l', (put1 G l L l').top = (G l').top ∧ (put1 G l L l').lk = (G l').lk ∧ (put1 G l L l').hd = (G l').hd := fun l' => by
    by_cases h : l' = l
    · subst h; rw [put1_same]; exact e
    · rw [put1_ne h]; exact ⟨rfl, rfl, rfl⟩
  refine ⟨fun l' hl' => ?_, fun l' i hl' h1 h2 => ?_, fun l' i hl' h1 h2 => ?_, h.fld⟩
  · rw [(hh l').1]; exact h.top l' hl'
  · rw [(hh l').2.1]; exact h.lk l' i hl' h1 h2
  · rw [(hh l').2.2]; exact h.hd l' i hl' h1 h2
end
end
section
open Go.RowKit
set_option linter.unusedVariables false
set_option linter.unusedSimpArgs false
set_option linter.unnecessarySimpa false
set_option maxHeartbeats 4000000 in
set_option maxRecDepth 20000 in
/-- The top is read. -/
theorem give_7 {σ w : World} {K M : Mm} {lab : Nat → Nat} {p t q b : Nat} {s : MachS} {fs : List FrameS} {f : FrameS} (h : Has σ M w) (hT : AtTop K M lab p s t q b fs f) (hat : f.at_ = 7) {sl : Nat} (h0 : f.r 0 = (sl : Int)) (hsl : sl < 256) {a : Int} (SP : SpotAt σ M p t 0 0 0 a) (hb1 : s.mem.acc < 1000000000) :
    Calls Try.prog 32 #[.agg (runC p t q b)] w fun r w' => r = .returned (.tuple #[]) ∧ ∃ M' lab', Has σ M' w' ∧ AtTop K M' lab' p (MachS.top { s with mem := s.mem.at_ a } t fs ((f.reg 1 (s.mem.load a)).goto 8)) t q b fs ((f.reg 1 (s.mem.load a)).goto 8) := by
  have d0 : (runC p t q b)[0]? = some (.pointer (some ⟨p, 0, none⟩)) := rfl
  have d1 : (runC p t q b)[1]? = some (.int .i64 (t : Nat)) := rfl
  have d2 : (runC p t q b)[2]? = some (.pointer (some ⟨q, 0, none⟩)) := rfl
  have d3 : (runC p t q b)[3]? = some (.pointer (some ⟨b, 0, none⟩)) := rfl
  have dx : (runC p t q b).extract 0 (0 + 4) = runC p t q b := rfl
  have dz : (runC p t q b).size = 4 := rfl
  have f1 : f.row[1]? = some (.int .i64 7) := by rw [← hat]; rfl
  have f2 : f.row[2]? = some (.int .u64 (sl : Nat)) := by rw [← h0]; rfl
  have us : IntKind.i64.wrap ((sl : Nat) : Int) = ((sl : Nat) : Int) := IntWalk.i64_in _ (by omega)
  clear hat
  go_enter Try.func32, Try.ntmps32
  go_upto_region 1 with (fail)
  obtain ⟨M1, hbx, hle, hb4, hn⟩ := h.box (.cells (runC p t q b) 87)
  generalize w.alloc _ = wx at hbx ⊢
  generalize w.heap.size = b4 at hb4 hn ⊢
  clear h
  try clear w
  have h := hbx
  clear hbx
  obtain ⟨w, rfl⟩ : ∃ x : World, x = wx := ⟨_, rfl⟩
  obtain ⟨lab1, hT1⟩ := hT.more1 hle hn hb4
  have hnK : K b4 = none := by
    cases e : K b4 with
    | none => rfl
    | some o => have := (hT.base _ _ e).1; rw [hn] at this; cases this
  have hKK : K.le (K.upd b4 (.cells (runC p t q b) 87)) := Mm.le_upd' hnK _
  have hbK : (K.upd b4 (.cells (runC p t q b) 87)) b4 = some (.cells (runC p t q b) 87) := Mm.upd_same _ _ _
  have hfb := hT1.obj
  have TP := Lib.hid (fun (w : World) (h : Has σ M1 w) => runTop_eq h hT1 (SP.le hle) hb1 8)
  have HK := Lib.hid hKK
  clear hT hT1 SP hb1 hn hnK hKK h0
  generalize runC p t q b = rc at *
  generalize f.row = fr0 at *
  go_wp2_with (first
    | (with_reducible show wpList _ _ _ ({ dst := _, op := Op.load 67 _, type := _, pos := _, after := _, guard := _ } :: _) _ _; refine wpList_load1_has h rfl 67 _ rfl rfl hb4 d3 Try.underlying67 rfl ?_)
    | (with_reducible show wpList _ _ _ ({ dst := _, op := Op.load 40 _, type := _, pos := _, after := _, guard := _ } :: _) _ _; refine wpList_load1_has h rfl 40 _ rfl rfl hfb f2 Try.underlying40 rfl ?_)
    | (with_reducible show wpList _ _ _ ({ dst := _, op := Op.load 3 _, type := _, pos := _, after := _, guard := _ } :: _) _ _; refine wpList_load1_has h rfl 3 _ rfl rfl hfb f1 Try.underlying3 rfl ?_)
    | ((with_reducible show wpList _ _ _ ({ dst := _, op := Op.load 84 _, type := _, pos := _, after := _, guard := _ } :: _) _ _); refine wpList_agg_has h rfl 84 _ rfl rfl hb4 dx dz Try.underlying84 rfl (by kernel_rfl) ?_; try simp only [Act.put, List.setIfInBounds_toArray, List.set_cons_zero, List.set_cons_succ])
    | (go_at_call 57; refine (TP.out _ h).mono ?_; clear h; rintro _ w ⟨rfl, M2, lab2, h, hT2⟩))
  go_end0
  exact ⟨rfl, M2, lab2, h, hT2.less HK.out⟩
set_option maxHeartbeats 4000000 in
set_option maxRecDepth 20000 in
/-- The head is read: the slot's generation, and one more. -/
theorem give_0 {σ w : World} {K M : Mm} {lab : Nat → Nat} {p t q b lv : Nat} {s : MachS} {fs : List FrameS} {f : FrameS} (h : Has σ M w) (hT : AtTop K M lab p s t q b fs f) (hat : f.at_ = 0) {sl z : Nat} (h0 : f.r 0 = (sl : Int)) (hsl : sl < 256) (hlv : levelOf s.c (t : Nat) = (lv : Nat)) (hlc : (lv : Int) < s.c 0) (hin : InK s.c 9 (sl : Nat) 0) (hz : s.mem.load (atK s.c lv 9 (sl : Nat) 0) = (z : Int)) (hz64 : z < 18446744073709551616) (hb1 : s.mem.acc < 1000000000) :
    Calls Try.prog 32 #[.agg (runC p t q b)] w fun r w' => r = .returned (.tuple #[]) ∧ ∃ M' lab', Has σ M' w' ∧ AtTop K M' lab' p (MachS.top { s with mem := s.mem.at_ (atK s.c lv 9 (sl : Nat) 0) } t fs ((f.reg 2 ((cutN z 2 32 : Nat) + 1)).goto 1)) t q b fs ((f.reg 2 ((cutN z 2 32 : Nat) + 1)).goto 1) := by
  have d0 : (runC p t q b)[0]? = some (.pointer (some ⟨p, 0, none⟩)) := rfl
  have d1 : (runC p t q b)[1]? = some (.int .i64 (t : Nat)) := rfl
  have d2 : (runC p t q b)[2]? = some (.pointer (some ⟨q, 0, none⟩)) := rfl
  have d3 : (runC p t q b)[3]? = some (.pointer (some ⟨b, 0, none⟩)) := rfl
  have dx : (runC p t q b).extract 0 (0 + 4) = runC p t q b := rfl
  have dz : (runC p t q b).size = 4 := rfl
  have f1 : f.row[1]? = some (.int .i64 0) := by rw [← hat]; rfl
  have f2 : f.row[2]? = some (.int .u64 (sl : Nat)) := by rw [← h0]; rfl
  have us : IntKind.i64.wrap ((sl : Nat) : Int) = ((sl : Nat) : Int) := IntWalk.i64_in _ (by omega)
  clear hat
  have HS := Lib.hid (handleState_any z hz64)
  have lz : cutN z 2 32 < 4294967296 := cutN_lt z 2 32
  have SPA := spotAt_of (σ := σ) hT.mach hlv hlc hin
  obtain ⟨a, ha⟩ : ∃ a, atK s.c lv 9 (sl : Nat) 0 = a := ⟨_, rfl⟩
  rw [ha] at hz SPA ⊢
  obtain ⟨g1, hg1⟩ : ∃ g, cutN z 2 32 = g := ⟨_, rfl⟩
  rw [hg1] at HS lz ⊢
  generalize cutN z 0 2 = g2 at HS
  have ug : IntKind.i64.wrap ((g1 : Int) + 1) = (g1 : Int) + 1 := IntWalk.i64_in _ (by omega)
  have ug2 : IntKind.u64.wrap ((g1 : Int) + 1) = (g1 : Int) + 1 := IntWalk.u64_in _ (by omega)
  have ND := Lib.hid (fun (M' : Mm) (w : World) (h : Has σ M' w) (hle : M.le M') => runNode_eq (q := q) (b := b) h (SPA.le hle))
  clear h0 ha hg1 hlv hlc hin SPA hz64
  go_enter Try.func32, Try.ntmps32
  go_upto_region 1 with (fail)
  obtain ⟨M1, hbx, hle, hb4, hn⟩ := h.box (.cells (runC p t q b) 87)
  generalize w.alloc _ = wx at hbx ⊢
  generalize w.heap.size = b4 at hb4 hn ⊢
  clear h
  try clear w
  have h := hbx
  clear hbx
  obtain ⟨w, rfl⟩ : ∃ x : World, x = wx := ⟨_, rfl⟩
  obtain ⟨lab1, hT1⟩ := hT.more1 hle hn hb4
  have hnK : K b4 = none := by
    cases e : K b4 with
    | none => rfl
    | some o => have := (hT.base _ _ e).1; rw [hn] at this; cases this
  have hKK : K.le (K.upd b4 (.cells (runC p t q b) 87)) := Mm.le_upd' hnK _
  have hbK : (K.upd b4 (.cells (runC p t q b) 87)) b4 = some (.cells (runC p t q b) 87) := Mm.upd_same _ _ _
  have hfb := hT1.obj
  have ND1 := Lib.hid (fun (w : World) (h : Has σ M1 w) => ND.out M1 w h hle)
  have ME := Lib.hid (fun (w : World) (h : Has σ M1 w) => mMem_eq h hT1.mach)
  have LD := Lib.hid (fun (w : World) (h : Has σ M1 w) => memLoad_eq h hT1.mach.mem hb1 a)
  rw [hz] at LD
  have KL := hT1.base.le
  have hT2 := hT1.load a
  have KE := hT2.base.le
  obtain ⟨hfb2, hT3⟩ := hT2.frame (f.reg 2 ((g1 : Int) + 1))
  obtain ⟨hfb3, hT4⟩ := hT3.frame ((f.reg 2 ((g1 : Int) + 1)).goto 1)
  rw [MachS.top_top, Mm.upd_upd] at hT4
  have HT := Lib.hid (hT4.less hKK)
  have hsz : 4 < f.row.size := show 4 < 18 by omega
  have hsz3 : 1 < (f.reg 2 ((g1 : Int) + 1)).row.size := show 1 < 18 by omega
  have R1 := Lib.hid (row_reg2 f ((g1 : Int) + 1))
  have R2 := Lib.hid (row_goto (f.reg 2 ((g1 : Int) + 1)) 1)
  clear hT hT1 hT2 hT3 hT4 hn hle hnK hKK hb1 hz ND
  generalize runC p t q b = rc at *
  generalize K.upd b4 _ = K1 at *
  generalize hr0 : f.row = fr0 at *
  generalize hr1 : (f.reg 2 ((g1 : Int) + 1)).row = fr1 at *
  generalize hr2 : ((f.reg 2 ((g1 : Int) + 1)).goto 1).row = fr2 at *
  clear hr0 hr1 hr2
  generalize M1.upd s.mp _ = M2 at *
  go_upto_region 8 with (first
    | (with_reducible show wpList _ _ _ ({ dst := _, op := Op.load 67 _, type := _, pos := _, after := _, guard := _ } :: _) _ _; refine wpList_load1_has h rfl 67 _ rfl rfl hb4 d3 Try.underlying67 rfl ?_)
    | (with_reducible show wpList _ _ _ ({ dst := _, op := Op.load 40 _, type := _, pos := _, after := _, guard := _ } :: _) _ _; refine wpList_load1_has h rfl 40 _ rfl rfl hfb f2 Try.underlying40 rfl ?_)
    | (with_reducible show wpList _ _ _ ({ dst := _, op := Op.load 3 _, type := _, pos := _, after := _, guard := _ } :: _) _ _; refine wpList_load1_has h rfl 3 _ rfl rfl hfb f1 Try.underlying3 rfl ?_))
  clear hfb hb4
  refine wp_region_held_drew (S := Has σ (K1)) (by kernel_rfl) (h.drew.le KL) (fun hHeld => ?_)
  refine wpAnyH_take (i := 0) (v := ?_) rfl (by kernel_rfl) (by kernel_rfl) (by kernel_rfl) (fun _ _ _ h => h) (Or.inl ⟨by rfl, ?_⟩) hHeld ?_
  rotate_left
  · (intro wz _; go_simp; try with_reducible rfl)
  try simp only [List.getElem_toArray, List.getElem_cons_succ, List.getElem_cons_zero, Act.put, List.setIfInBounds_toArray, List.set_cons_zero, List.set_cons_succ]
  refine wpAnyH_take (i := 1) (v := ?_) rfl (by kernel_rfl) (by kernel_rfl) (by kernel_rfl) (fun _ _ _ h => h) (Or.inl ⟨by rfl, ?_⟩) hHeld ?_
  rotate_left
  · (intro wz _; go_simp; try with_reducible rfl)
  try simp only [List.getElem_toArray, List.getElem_cons_succ, List.getElem_cons_zero, Act.put, List.setIfInBounds_toArray, List.set_cons_zero, List.set_cons_succ]
  refine wpAnyH_take (i := 2) (v := _) rfl (by kernel_rfl) (by kernel_rfl) (by kernel_rfl) (fun _ _ _ h => h) (yields_load1 rfl 26 _ rfl rfl hbK d0 Try.underlying26 rfl) hHeld ?_
  try simp only [List.getElem_toArray, List.getElem_cons_succ, List.getElem_cons_zero, Act.put, List.setIfInBounds_toArray, List.set_cons_zero, List.set_cons_succ]
  refine wpAnyH_take (i := 4) (v := ?_) rfl (by kernel_rfl) (by kernel_rfl) (by kernel_rfl) (fun _ _ _ h => h) (Or.inl ⟨by rfl, ?_⟩) hHeld ?_
  rotate_left
  · (intro wz _; go_simp; try with_reducible rfl)
  try simp only [List.getElem_toArray, List.getElem_cons_succ, List.getElem_cons_zero, Act.put, List.setIfInBounds_toArray, List.set_cons_zero, List.set_cons_succ]
  refine wpAnyH_take (i := 5) (v := _) rfl (by kernel_rfl) (by kernel_rfl) (by kernel_rfl) (fun _ _ _ h => h) (yields_agg rfl 84 _ rfl rfl hbK dx dz Try.underlying84 rfl (by kernel_rfl)) hHeld ?_
  try simp only [List.getElem_toArray, List.getElem_cons_succ, List.getElem_cons_zero, Act.put, List.setIfInBounds_toArray, List.set_cons_zero, List.set_cons_succ]
  refine wpAnyH_take (i := 6) (v := ?_) rfl (by kernel_rfl) (by kernel_rfl) (by kernel_rfl) (fun _ _ _ h => h) (Or.inl ⟨by rfl, ?_⟩) hHeld ?_
  rotate_left
  · (intro wz _; go_simp; try with_reducible rfl)
  try simp only [List.getElem_toArray, List.getElem_cons_succ, List.getElem_cons_zero, Act.put, List.setIfInBounds_toArray, List.set_cons_zero, List.set_cons_succ]
  replace h := h.drew
  generalize w.drew = w1 at h hHeld ⊢
  clear w
  obtain ⟨w, rfl⟩ : ∃ q : World, q = w1 := ⟨_, rfl⟩
  refine wpAnyH_ready (rs := [3]) (by kernel_rfl) (by simp) ?_
  refine AllReadyH.cons rfl (fun K hK => ?_) AllReadyH.nil
  (go_simp; go_wp2_with (go_at_call 10; refine (ME.out _ h).mono ?_; clear h; rintro _ w ⟨rfl, h⟩))
  refine hK.out _ _ (h.le KL) (fun hHeld => ?_)
  clear hK K
  try simp only [Act.put, List.setIfInBounds_toArray, List.set_cons_zero, List.set_cons_succ]
  refine wpAnyH_ready (rs := [7]) (by kernel_rfl) (by simp) ?_
  refine AllReadyH.cons rfl (fun K hK => ?_) AllReadyH.nil
  (go_simp; go_wp2_with (go_at_call 63; refine (ND1.out _ h).mono ?_; clear h; rintro _ w ⟨rfl, h⟩))
  refine hK.out _ _ (h.le KL) (fun hHeld => ?_)
  clear hK K
  try simp only [Act.put, List.setIfInBounds_toArray, List.set_cons_zero, List.set_cons_succ]
  refine wpAnyH_ready (rs := [8]) (by kernel_rfl) (by simp) ?_
  refine AllReadyH.cons rfl (fun K hK => ?_) AllReadyH.nil
  (go_simp; go_wp2_with (go_at_call 59; refine (LD.out _ h).mono ?_; clear h; rintro _ w ⟨rfl, h⟩))
  refine hK.out _ _ (h.le KE) (fun hHeld => ?_)
  clear hK K
  try simp only [Act.put, List.setIfInBounds_toArray, List.set_cons_zero, List.set_cons_succ]
  refine wpAnyH_ready (rs := [9]) (by kernel_rfl) (by simp) ?_
  refine AllReadyH.cons rfl (fun K hK => ?_) AllReadyH.nil
  (go_simp; go_wp2_with (go_at_call 62; refine (HS.out _).mono ?_; rintro _ w' ⟨rfl, rfl⟩))
  refine hK.out _ _ (h.le KE) (fun hHeld => ?_)
  clear hK K
  try simp only [Act.put, List.setIfInBounds_toArray, List.set_cons_zero, List.set_cons_succ]
  refine wpAnyH_take (i := 10) (v := ?_) rfl (by kernel_rfl) (by kernel_rfl) (by kernel_rfl) (fun _ _ _ h => h) (Or.inl ⟨by rfl, ?_⟩) hHeld ?_
  rotate_left
  · (intro wz _; go_simp; try with_reducible rfl)
  try simp only [List.getElem_toArray, List.getElem_cons_succ, List.getElem_cons_zero, Act.put, List.setIfInBounds_toArray, List.set_cons_zero, List.set_cons_succ]
  refine wpAnyH_take (i := 11) (v := ?_) rfl (by kernel_rfl) (by kernel_rfl) (by kernel_rfl) (fun _ _ _ h => h) (Or.inl ⟨by rfl, ?_⟩) hHeld ?_
  rotate_left
  · (intro wz _; go_simp; try with_reducible rfl)
  try simp only [List.getElem_toArray, List.getElem_cons_succ, List.getElem_cons_zero, Act.put, List.setIfInBounds_toArray, List.set_cons_zero, List.set_cons_succ]
  refine wpAnyH_take (i := 12) (v := ?_) rfl (by kernel_rfl) (by kernel_rfl) (by kernel_rfl) (fun _ _ _ h => h) (Or.inl ⟨by rfl, ?_⟩) hHeld ?_
  rotate_left
  · (intro wz _; go_simp; try with_reducible rfl)
  try simp only [List.getElem_toArray, List.getElem_cons_succ, List.getElem_cons_zero, Act.put, List.setIfInBounds_toArray, List.set_cons_zero, List.set_cons_succ]
  refine wpAnyH_take (i := 13) (v := ?_) rfl (by kernel_rfl) (by kernel_rfl) (by kernel_rfl) (fun _ _ _ h => h) (Or.inl ⟨by rfl, ?_⟩) hHeld ?_
  rotate_left
  · (intro wz _; go_simp; try with_reducible rfl)
  try simp only [List.getElem_toArray, List.getElem_cons_succ, List.getElem_cons_zero, Act.put, List.setIfInBounds_toArray, List.set_cons_zero, List.set_cons_succ]
  refine wpAnyH_take (i := 14) (v := ?_) rfl (by kernel_rfl) (by kernel_rfl) (by kernel_rfl) (fun _ _ _ h => h) (Or.inl ⟨by rfl, ?_⟩) hHeld ?_
  rotate_left
  · (intro wz _; go_simp; try with_reducible rfl)
  try simp only [List.getElem_toArray, List.getElem_cons_succ, List.getElem_cons_zero, Act.put, List.setIfInBounds_toArray, List.set_cons_zero, List.set_cons_succ]
  refine wpAnyH_done (by kernel_rfl) ?_ _
  clear hHeld
  go_upto_region 10 with (first
    | (with_reducible show wpList _ _ _ ({ dst := _, op := Op.store 40 _ _, type := _, pos := _, after := _, guard := _ } :: _) _ _; refine wpList_store1_has h rfl 40 _ _ rfl rfl rfl hfb2 hsz rfl (by kernel_rfl) ?_; clear h; intro w h))
  have h0 : Has σ (M2.upd b (.cells (fr0.setIfInBounds 4 (.int .u64 ((g1 : Int) + 1))) 71)) w := h
  rw [R1.out] at h0
  clear h
  have h := h0
  clear h0
  generalize hM3 : M2.upd b (.cells fr1 71) = M3 at h hfb3
  go_wp2_with (first
    | (with_reducible show wpList _ _ _ ({ dst := _, op := Op.store 3 _ _, type := _, pos := _, after := _, guard := _ } :: _) _ _; refine wpList_store1_has h rfl 3 _ _ rfl rfl rfl hfb3 hsz3 rfl (by kernel_rfl) ?_; clear h; intro w h))
  go_end0
  refine ⟨rfl, _, _, ?_, HT.out⟩
  have h0 : Has σ (M2.upd b (.cells (fr1.setIfInBounds 1 (.int .i64 1)) 71)) w := by rw [← hM3, Mm.upd_upd] at h; exact h
  rw [R2.out] at h0
  exact h0
end
section
open Go.RowKit
set_option linter.unusedVariables false
set_option linter.unusedSimpArgs false
set_option linter.unnecessarySimpa false
set_option maxHeartbeats 4000000 in
set_option maxRecDepth 20000 in
/-- The slot is away. -/
theorem give_1 {σ w : World} {K M : Mm} {lab : Nat → Nat} {p t q b lv : Nat} {s : MachS} {fs : List FrameS} {f : FrameS} (h : Has σ M w) (hT : AtTop K M lab p s t q b fs f) (hat : f.at_ = 1) {sl g : Nat} (h0 : f.r 0 = (sl : Int)) (hsl : sl < 256) (hg : f.r 2 = (g : Int) + 1) (hg32 : g < 4294967296) (hlv : levelOf s.c (t : Nat) = (lv : Nat)) (hlc : (lv : Int) < s.c 0) (hin : InK s.c 9 (sl : Nat) 0) (hb1 : s.mem.acc < 1000000000) (hb2 : s.mem.wr < 1000000000) :
    Calls Try.prog 32 #[.agg (runC p t q b)] w fun r w' => r = .returned (.tuple #[]) ∧ ∃ M' lab', Has σ M' w' ∧ AtTop K M' lab' p (MachS.top { s with mem := s.mem.store (atK s.c lv 9 (sl : Nat) 0) (mkHead g 3 : Nat) } t fs (f.goto 2)) t q b fs (f.goto 2) := by
  have d0 : (runC p t q b)[0]? = some (.pointer (some ⟨p, 0, none⟩)) := rfl
  have d1 : (runC p t q b)[1]? = some (.int .i64 (t : Nat)) := rfl
  have d2 : (runC p t q b)[2]? = some (.pointer (some ⟨q, 0, none⟩)) := rfl
  have d3 : (runC p t q b)[3]? = some (.pointer (some ⟨b, 0, none⟩)) := rfl
  have dx : (runC p t q b).extract 0 (0 + 4) = runC p t q b := rfl
  have dz : (runC p t q b).size = 4 := rfl
  have f1 : f.row[1]? = some (.int .i64 1) := by rw [← hat]; rfl
  have f2 : f.row[2]? = some (.int .u64 (sl : Nat)) := by rw [← h0]; rfl
  have us : IntKind.i64.wrap ((sl : Nat) : Int) = ((sl : Nat) : Int) := IntWalk.i64_in _ (by omega)
  clear hat
  have f4 : f.row[4]? = some (.int .u64 ((g : Int) + 1)) := by rw [← hg]; rfl
  have HH : Hid (∀ w, Calls Try.prog 65 #[.int .i64 (g : Nat), .int .i64 3] w fun r w' => r = .returned (.int .u64 (mkHead g 3 : Nat)) ∧ w = w') := Lib.hid fun w => handleHead_any g 3 (by omega) (by omega) w
  have SPA := spotAt_of (σ := σ) hT.mach hlv hlc hin
  obtain ⟨a, ha⟩ : ∃ a, atK s.c lv 9 (sl : Nat) 0 = a := ⟨_, rfl⟩
  rw [ha] at SPA ⊢
  obtain ⟨v, hv⟩ : ∃ v : Int, ((mkHead g 3 : Nat) : Int) = v := ⟨_, rfl⟩
  rw [hv] at HH ⊢
  have ug : IntKind.i64.wrap ((g : Int) + 1) = (g : Int) + 1 := IntWalk.i64_in _ (by omega)
  have ug2 : IntKind.i64.wrap (g : Int) = (g : Int) := IntWalk.i64_in _ (by omega)
  have ug3 : IntKind.i64.wrap ((g : Int) + 1 - 1) = (g : Int) := by rw [show (g : Int) + 1 - 1 = g by omega]; exact ug2
  have ND := Lib.hid (fun (M' : Mm) (w : World) (h : Has σ M' w) (hle : M.le M') => runNode_eq (q := q) (b := b) h (SPA.le hle))
  clear h0 ha hv hlv hlc hin SPA hg
  go_enter Try.func32, Try.ntmps32
  go_upto_region 1 with (fail)
  obtain ⟨M1, hbx, hle, hb4, hn⟩ := h.box (.cells (runC p t q b) 87)
  generalize w.alloc _ = wx at hbx ⊢
  generalize w.heap.size = b4 at hb4 hn ⊢
  clear h
  try clear w
  have h := hbx
  clear hbx
  obtain ⟨w, rfl⟩ : ∃ x : World, x = wx := ⟨_, rfl⟩
  obtain ⟨lab1, hT1⟩ := hT.more1 hle hn hb4
  have hnK : K b4 = none := by
    cases e : K b4 with
    | none => rfl
    | some o => have := (hT.base _ _ e).1; rw [hn] at this; cases this
  have hKK : K.le (K.upd b4 (.cells (runC p t q b) 87)) := Mm.le_upd' hnK _
  have hbK : (K.upd b4 (.cells (runC p t q b) 87)) b4 = some (.cells (runC p t q b) 87) := Mm.upd_same _ _ _
  have hfb := hT1.obj
  have ND1 := Lib.hid (fun (w : World) (h : Has σ M1 w) => ND.out M1 w h hle)
  clear ND
  -- behind the entrance: the store of v at a, then the frame goes on at 2
  have ME := Lib.hid (fun (w : World) (h : Has σ M1 w) => mMem_eq h hT1.mach)
  have SE := Lib.hid (fun (w : World) (h : Has σ M1 w) => memStore_eq h hT1.mach.mem hb1 hb2 a v)
  have hne : b4 ≠ b := fun e => by
    subst e
    rw [hb4] at hfb
    simp only [Option.some.injEq, Obj.cells.injEq] at hfb
    exact absurd hfb.2.1 (by decide)
  have hT2 := hT1.store a v
  have KL := Mm.upd_le2 hT1.base.le hT1.obj
  have KE := Mm.upd_le2 hT2.base.le hT2.obj
  have hbK2 : ((K.upd b4 (.cells (runC p t q b) 87)).upd b (.cells f.row 71)) b4 = some (.cells (runC p t q b) 87) := (Mm.upd_ne hne).trans (Mm.upd_same _ _ _)
  have hfK : ((K.upd b4 (.cells (runC p t q b) 87)).upd b (.cells f.row 71)) b = some (.cells f.row 71) := Mm.upd_same _ _ _
  obtain ⟨hfb2, hT3⟩ := hT2.frame (f.goto 2)
  have HT := Lib.hid (hT3.less hKK)
  have hsz : 1 < f.row.size := show 1 < 18 by omega
  have R1 := Lib.hid (row_goto f 2)
  clear hT hT1 hT2 hT3 hb1 hb2 hn hle hnK hKK hne hbK
  generalize runC p t q b = rc at *
  generalize hr0 : f.row = fr0 at *
  generalize hr1 : (f.goto 2).row = fr1 at *
  clear hr0 hr1
  generalize (K.upd b4 _).upd b _ = K1 at KL KE hbK2 hfK
  generalize storeM M1 s.mp s.mem a v = M2 at *
  go_upto_region 12 with (first
    | (with_reducible show wpList _ _ _ ({ dst := _, op := Op.load 67 _, type := _, pos := _, after := _, guard := _ } :: _) _ _; refine wpList_load1_has h rfl 67 _ rfl rfl hb4 d3 Try.underlying67 rfl ?_)
    | (with_reducible show wpList _ _ _ ({ dst := _, op := Op.load 40 _, type := _, pos := _, after := _, guard := _ } :: _) _ _; refine wpList_load1_has h rfl 40 _ rfl rfl hfb f2 Try.underlying40 rfl ?_)
    | (with_reducible show wpList _ _ _ ({ dst := _, op := Op.load 3 _, type := _, pos := _, after := _, guard := _ } :: _) _ _; refine wpList_load1_has h rfl 3 _ rfl rfl hfb f1 Try.underlying3 rfl ?_))
  clear hfb hb4
  refine wp_region_held_drew (S := Has σ (K1)) (by kernel_rfl) (h.drew.le KL) (fun hHeld => ?_)
  refine wpAnyH_take (i := 0) (v := ?_) rfl (by kernel_rfl) (by kernel_rfl) (by kernel_rfl) (fun _ _ _ h => h) (Or.inl ⟨by rfl, ?_⟩) hHeld ?_
  rotate_left
  · (intro wz _; go_simp; try with_reducible rfl)
  try simp only [List.getElem_toArray, List.getElem_cons_succ, List.getElem_cons_zero, Act.put, List.setIfInBounds_toArray, List.set_cons_zero, List.set_cons_succ]
  refine wpAnyH_take (i := 1) (v := ?_) rfl (by kernel_rfl) (by kernel_rfl) (by kernel_rfl) (fun _ _ _ h => h) (Or.inl ⟨by rfl, ?_⟩) hHeld ?_
  rotate_left
  · (intro wz _; go_simp; try with_reducible rfl)
  try simp only [List.getElem_toArray, List.getElem_cons_succ, List.getElem_cons_zero, Act.put, List.setIfInBounds_toArray, List.set_cons_zero, List.set_cons_succ]
  refine wpAnyH_take (i := 2) (v := _) rfl (by kernel_rfl) (by kernel_rfl) (by kernel_rfl) (fun _ _ _ h => h) (yields_load1 rfl 26 _ rfl rfl hbK2 d0 Try.underlying26 rfl) hHeld ?_
  try simp only [List.getElem_toArray, List.getElem_cons_succ, List.getElem_cons_zero, Act.put, List.setIfInBounds_toArray, List.set_cons_zero, List.set_cons_succ]
  refine wpAnyH_take (i := 4) (v := ?_) rfl (by kernel_rfl) (by kernel_rfl) (by kernel_rfl) (fun _ _ _ h => h) (Or.inl ⟨by rfl, ?_⟩) hHeld ?_
  rotate_left
  · (intro wz _; go_simp; try with_reducible rfl)
  try simp only [List.getElem_toArray, List.getElem_cons_succ, List.getElem_cons_zero, Act.put, List.setIfInBounds_toArray, List.set_cons_zero, List.set_cons_succ]
  refine wpAnyH_take (i := 5) (v := _) rfl (by kernel_rfl) (by kernel_rfl) (by kernel_rfl) (fun _ _ _ h => h) (yields_agg rfl 84 _ rfl rfl hbK2 dx dz Try.underlying84 rfl (by kernel_rfl)) hHeld ?_
  try simp only [List.getElem_toArray, List.getElem_cons_succ, List.getElem_cons_zero, Act.put, List.setIfInBounds_toArray, List.set_cons_zero, List.set_cons_succ]
  refine wpAnyH_take (i := 6) (v := ?_) rfl (by kernel_rfl) (by kernel_rfl) (by kernel_rfl) (fun _ _ _ h => h) (Or.inl ⟨by rfl, ?_⟩) hHeld ?_
  rotate_left
  · (intro wz _; go_simp; try with_reducible rfl)
  try simp only [List.getElem_toArray, List.getElem_cons_succ, List.getElem_cons_zero, Act.put, List.setIfInBounds_toArray, List.set_cons_zero, List.set_cons_succ]
  refine wpAnyH_take (i := 8) (v := ?_) rfl (by kernel_rfl) (by kernel_rfl) (by kernel_rfl) (fun _ _ _ h => h) (Or.inl ⟨by rfl, ?_⟩) hHeld ?_
  rotate_left
  · (intro wz _; go_simp; try with_reducible rfl)
  try simp only [List.getElem_toArray, List.getElem_cons_succ, List.getElem_cons_zero, Act.put, List.setIfInBounds_toArray, List.set_cons_zero, List.set_cons_succ]
  refine wpAnyH_take (i := 9) (v := ?_) rfl (by kernel_rfl) (by kernel_rfl) (by kernel_rfl) (fun _ _ _ h => h) (Or.inl ⟨by rfl, ?_⟩) hHeld ?_
  rotate_left
  · (intro wz _; go_simp; try with_reducible rfl)
  try simp only [List.getElem_toArray, List.getElem_cons_succ, List.getElem_cons_zero, Act.put, List.setIfInBounds_toArray, List.set_cons_zero, List.set_cons_succ]
  refine wpAnyH_take (i := 10) (v := ?_) rfl (by kernel_rfl) (by kernel_rfl) (by kernel_rfl) (fun _ _ _ h => h) (Or.inl ⟨by rfl, ?_⟩) hHeld ?_
  rotate_left
  · (intro wz _; go_simp; try with_reducible rfl)
  try simp only [List.getElem_toArray, List.getElem_cons_succ, List.getElem_cons_zero, Act.put, List.setIfInBounds_toArray, List.set_cons_zero, List.set_cons_succ]
  refine wpAnyH_take (i := 11) (v := ?_) rfl (by kernel_rfl) (by kernel_rfl) (by kernel_rfl) (fun _ _ _ h => h) (Or.inl ⟨by rfl, ?_⟩) hHeld ?_
  rotate_left
  · (intro wz _; go_simp; try with_reducible rfl)
  try simp only [List.getElem_toArray, List.getElem_cons_succ, List.getElem_cons_zero, Act.put, List.setIfInBounds_toArray, List.set_cons_zero, List.set_cons_succ]
  refine wpAnyH_take (i := 12) (v := _) rfl (by kernel_rfl) (by kernel_rfl) (by kernel_rfl) (fun _ _ _ h => h) (yields_load1 rfl 40 _ rfl rfl hfK f4 Try.underlying40 rfl) hHeld ?_
  try simp only [List.getElem_toArray, List.getElem_cons_succ, List.getElem_cons_zero, Act.put, List.setIfInBounds_toArray, List.set_cons_zero, List.set_cons_succ]
  refine wpAnyH_take (i := 13) (v := ?_) rfl (by kernel_rfl) (by kernel_rfl) (by kernel_rfl) (fun _ _ _ h => h) (Or.inl ⟨by rfl, ?_⟩) hHeld ?_
  rotate_left
  · (intro wz _; go_simp; try with_reducible rfl)
  try simp only [List.getElem_toArray, List.getElem_cons_succ, List.getElem_cons_zero, Act.put, List.setIfInBounds_toArray, List.set_cons_zero, List.set_cons_succ]
  refine wpAnyH_take (i := 14) (v := ?_) rfl (by kernel_rfl) (by kernel_rfl) (by kernel_rfl) (fun _ _ _ h => h) (Or.inl ⟨by rfl, ?_⟩) hHeld ?_
  rotate_left
  · (intro wz _; go_simp; try with_reducible rfl)
  try simp only [List.getElem_toArray, List.getElem_cons_succ, List.getElem_cons_zero, Act.put, List.setIfInBounds_toArray, List.set_cons_zero, List.set_cons_succ]
  replace h := h.drew
  generalize w.drew = w1 at h hHeld ⊢
  clear w
  obtain ⟨w, rfl⟩ : ∃ q : World, q = w1 := ⟨_, rfl⟩
  refine wpAnyH_ready (rs := [3]) (by kernel_rfl) (by simp) ?_
  refine AllReadyH.cons rfl (fun K hK => ?_) AllReadyH.nil
  (go_simp; go_wp2_with (go_at_call 10; refine (ME.out _ h).mono ?_; clear h; rintro _ w ⟨rfl, h⟩))
  refine hK.out _ _ (h.le KL) (fun hHeld => ?_)
  clear hK K
  try simp only [Act.put, List.setIfInBounds_toArray, List.set_cons_zero, List.set_cons_succ]
  refine wpAnyH_ready (rs := [7]) (by kernel_rfl) (by simp) ?_
  refine AllReadyH.cons rfl (fun K hK => ?_) AllReadyH.nil
  (go_simp; go_wp2_with (go_at_call 63; refine (ND1.out _ h).mono ?_; clear h; rintro _ w ⟨rfl, h⟩))
  refine hK.out _ _ (h.le KL) (fun hHeld => ?_)
  clear hK K
  try simp only [Act.put, List.setIfInBounds_toArray, List.set_cons_zero, List.set_cons_succ]
  refine wpAnyH_ready (rs := [15]) (by kernel_rfl) (by simp) ?_
  refine AllReadyH.cons rfl (fun K hK => ?_) AllReadyH.nil
  (go_simp; go_wp2_with (go_at_call 65; refine (HH.out _).mono ?_; rintro _ w' ⟨rfl, rfl⟩))
  refine hK.out _ _ (h.le KL) (fun hHeld => ?_)
  clear hK K
  try simp only [Act.put, List.setIfInBounds_toArray, List.set_cons_zero, List.set_cons_succ]
  refine wpAnyH_ready (rs := [16]) (by kernel_rfl) (by simp) ?_
  refine AllReadyH.cons rfl (fun K hK => ?_) AllReadyH.nil
  (go_simp; go_wp2_with (go_at_call 64; refine (SE.out _ h).mono ?_; clear h; rintro _ w ⟨rfl, h⟩))
  refine hK.out _ _ (h.le KE) (fun hHeld => ?_)
  clear hK K
  try simp only [Act.put, List.setIfInBounds_toArray, List.set_cons_zero, List.set_cons_succ]
  refine wpAnyH_done (by kernel_rfl) ?_ _
  clear hHeld
  go_wp2_with (first
    | (with_reducible show wpList _ _ _ ({ dst := _, op := Op.store 3 _ _, type := _, pos := _, after := _, guard := _ } :: _) _ _; refine wpList_store1_has h rfl 3 _ _ rfl rfl rfl hfb2 hsz rfl (by kernel_rfl) ?_; clear h; intro w h))
  go_end0
  refine ⟨rfl, _, _, ?_, HT.out⟩
  have h0 : Has σ (M2.upd b (.cells (fr0.setIfInBounds 1 (.int .i64 2)) 71)) w := h
  rw [R1.out] at h0
  exact h0
set_option maxHeartbeats 4000000 in
set_option maxRecDepth 20000 in
/-- The first slot becomes what is behind this one. -/
theorem give_8 {σ w : World} {K M : Mm} {lab : Nat → Nat} {p t q b lv : Nat} {s : MachS} {fs : List FrameS} {f : FrameS} (h : Has σ M w) (hT : AtTop K M lab p s t q b fs f) (hat : f.at_ = 8) {sl x : Nat} (h0 : f.r 0 = (sl : Int)) (hsl : sl < 256) (hx : f.r 1 = (x : Int)) (hx64 : x < 18446744073709551616) (hlv : levelOf s.c (t : Nat) = (lv : Nat)) (hlc : (lv : Int) < s.c 0) (hin : InK s.c 8 (sl : Nat) 0) (hb1 : s.mem.acc < 1000000000) (hb2 : s.mem.wr < 1000000000) :
    Calls Try.prog 32 #[.agg (runC p t q b)] w fun r w' => r = .returned (.tuple #[]) ∧ ∃ M' lab', Has σ M' w' ∧ AtTop K M' lab' p (MachS.top { s with mem := s.mem.store (atK s.c lv 8 (sl : Nat) 0) (cutN x 0 8 : Nat) } t fs (f.goto 9)) t q b fs (f.goto 9) := by
  have d0 : (runC p t q b)[0]? = some (.pointer (some ⟨p, 0, none⟩)) := rfl
  have d1 : (runC p t q b)[1]? = some (.int .i64 (t : Nat)) := rfl
  have d2 : (runC p t q b)[2]? = some (.pointer (some ⟨q, 0, none⟩)) := rfl
  have d3 : (runC p t q b)[3]? = some (.pointer (some ⟨b, 0, none⟩)) := rfl
  have dx : (runC p t q b).extract 0 (0 + 4) = runC p t q b := rfl
  have dz : (runC p t q b).size = 4 := rfl
  have f1 : f.row[1]? = some (.int .i64 8) := by rw [← hat]; rfl
  have f2 : f.row[2]? = some (.int .u64 (sl : Nat)) := by rw [← h0]; rfl
  have us : IntKind.i64.wrap ((sl : Nat) : Int) = ((sl : Nat) : Int) := IntWalk.i64_in _ (by omega)
  clear hat
  have f3 : f.row[3]? = some (.int .u64 (x : Nat)) := by rw [← hx]; rfl
  have UN := Lib.hid (linkUnder_any x hx64)
  have lu : cutN x 0 8 < 256 := cutN_lt x 0 8
  have SPA := spotAt_of (σ := σ) hT.mach hlv hlc hin
  obtain ⟨a, ha⟩ : ∃ a, atK s.c lv 8 (sl : Nat) 0 = a := ⟨_, rfl⟩
  rw [ha] at SPA ⊢
  obtain ⟨u, hu⟩ : ∃ u, cutN x 0 8 = u := ⟨_, rfl⟩
  rw [hu] at UN lu ⊢
  have uu : IntKind.u64.wrap ((u : Nat) : Int) = ((u : Nat) : Int) := IntWalk.u64_in _ (by omega)
  obtain ⟨v, hv⟩ : ∃ v : Int, v = ((u : Nat) : Int) := ⟨_, rfl⟩
  rw [← hv]
  have AN := Lib.hid (fun (M' : Mm) (w : World) (h : Has σ M' w) (hle : M.le M') => runAt_eq (q := q) (b := b) h (SPA.le hle))
  clear h0 ha hu hlv hlc hin SPA hx hx64
  go_enter Try.func32, Try.ntmps32
  go_upto_region 1 with (fail)
  obtain ⟨M1, hbx, hle, hb4, hn⟩ := h.box (.cells (runC p t q b) 87)
  generalize w.alloc _ = wx at hbx ⊢
  generalize w.heap.size = b4 at hb4 hn ⊢
  clear h
  try clear w
  have h := hbx
  clear hbx
  obtain ⟨w, rfl⟩ : ∃ x : World, x = wx := ⟨_, rfl⟩
  obtain ⟨lab1, hT1⟩ := hT.more1 hle hn hb4
  have hnK : K b4 = none := by
    cases e : K b4 with
    | none => rfl
    | some o => have := (hT.base _ _ e).1; rw [hn] at this; cases this
  have hKK : K.le (K.upd b4 (.cells (runC p t q b) 87)) := Mm.le_upd' hnK _
  have hbK : (K.upd b4 (.cells (runC p t q b) 87)) b4 = some (.cells (runC p t q b) 87) := Mm.upd_same _ _ _
  have hfb := hT1.obj
  have AN1 := Lib.hid (fun (w : World) (h : Has σ M1 w) => AN.out M1 w h hle)
  clear AN
  -- behind the entrance: the store of v at a, then the frame goes on at 9
  have ME := Lib.hid (fun (w : World) (h : Has σ M1 w) => mMem_eq h hT1.mach)
  have SE := Lib.hid (fun (w : World) (h : Has σ M1 w) => memStore_eq h hT1.mach.mem hb1 hb2 a v)
  have hne : b4 ≠ b := fun e => by
    subst e
    rw [hb4] at hfb
    simp only [Option.some.injEq, Obj.cells.injEq] at hfb
    exact absurd hfb.2.1 (by decide)
  have hT2 := hT1.store a v
  have KL := Mm.upd_le2 hT1.base.le hT1.obj
  have KE := Mm.upd_le2 hT2.base.le hT2.obj
  have hbK2 : ((K.upd b4 (.cells (runC p t q b) 87)).upd b (.cells f.row 71)) b4 = some (.cells (runC p t q b) 87) := (Mm.upd_ne hne).trans (Mm.upd_same _ _ _)
  have hfK : ((K.upd b4 (.cells (runC p t q b) 87)).upd b (.cells f.row 71)) b = some (.cells f.row 71) := Mm.upd_same _ _ _
  obtain ⟨hfb2, hT3⟩ := hT2.frame (f.goto 9)
  have HT := Lib.hid (hT3.less hKK)
  have hsz : 1 < f.row.size := show 1 < 18 by omega
  have R1 := Lib.hid (row_goto f 9)
  clear hT hT1 hT2 hT3 hb1 hb2 hn hle hnK hKK hne hbK
  generalize runC p t q b = rc at *
  generalize hr0 : f.row = fr0 at *
  generalize hr1 : (f.goto 9).row = fr1 at *
  clear hr0 hr1
  generalize (K.upd b4 _).upd b _ = K1 at KL KE hbK2 hfK
  generalize storeM M1 s.mp s.mem a v = M2 at *
  subst hv
  go_upto_region 25 with (first
    | (with_reducible show wpList _ _ _ ({ dst := _, op := Op.load 67 _, type := _, pos := _, after := _, guard := _ } :: _) _ _; refine wpList_load1_has h rfl 67 _ rfl rfl hb4 d3 Try.underlying67 rfl ?_)
    | (with_reducible show wpList _ _ _ ({ dst := _, op := Op.load 40 _, type := _, pos := _, after := _, guard := _ } :: _) _ _; refine wpList_load1_has h rfl 40 _ rfl rfl hfb f2 Try.underlying40 rfl ?_)
    | (with_reducible show wpList _ _ _ ({ dst := _, op := Op.load 3 _, type := _, pos := _, after := _, guard := _ } :: _) _ _; refine wpList_load1_has h rfl 3 _ rfl rfl hfb f1 Try.underlying3 rfl ?_))
  clear hfb hb4
  refine wp_region_held_drew (S := Has σ (K1)) (by kernel_rfl) (h.drew.le KL) (fun hHeld => ?_)
  refine wpAnyH_take (i := 0) (v := ?_) rfl (by kernel_rfl) (by kernel_rfl) (by kernel_rfl) (fun _ _ _ h => h) (Or.inl ⟨by rfl, ?_⟩) hHeld ?_
  rotate_left
  · (intro wz _; go_simp; try with_reducible rfl)
  try simp only [List.getElem_toArray, List.getElem_cons_succ, List.getElem_cons_zero, Act.put, List.setIfInBounds_toArray, List.set_cons_zero, List.set_cons_succ]
  refine wpAnyH_take (i := 1) (v := ?_) rfl (by kernel_rfl) (by kernel_rfl) (by kernel_rfl) (fun _ _ _ h => h) (Or.inl ⟨by rfl, ?_⟩) hHeld ?_
  rotate_left
  · (intro wz _; go_simp; try with_reducible rfl)
  try simp only [List.getElem_toArray, List.getElem_cons_succ, List.getElem_cons_zero, Act.put, List.setIfInBounds_toArray, List.set_cons_zero, List.set_cons_succ]
  refine wpAnyH_take (i := 2) (v := _) rfl (by kernel_rfl) (by kernel_rfl) (by kernel_rfl) (fun _ _ _ h => h) (yields_load1 rfl 26 _ rfl rfl hbK2 d0 Try.underlying26 rfl) hHeld ?_
  try simp only [List.getElem_toArray, List.getElem_cons_succ, List.getElem_cons_zero, Act.put, List.setIfInBounds_toArray, List.set_cons_zero, List.set_cons_succ]
  refine wpAnyH_take (i := 4) (v := ?_) rfl (by kernel_rfl) (by kernel_rfl) (by kernel_rfl) (fun _ _ _ h => h) (Or.inl ⟨by rfl, ?_⟩) hHeld ?_
  rotate_left
  · (intro wz _; go_simp; try with_reducible rfl)
  try simp only [List.getElem_toArray, List.getElem_cons_succ, List.getElem_cons_zero, Act.put, List.setIfInBounds_toArray, List.set_cons_zero, List.set_cons_succ]
  refine wpAnyH_take (i := 5) (v := _) rfl (by kernel_rfl) (by kernel_rfl) (by kernel_rfl) (fun _ _ _ h => h) (yields_agg rfl 84 _ rfl rfl hbK2 dx dz Try.underlying84 rfl (by kernel_rfl)) hHeld ?_
  try simp only [List.getElem_toArray, List.getElem_cons_succ, List.getElem_cons_zero, Act.put, List.setIfInBounds_toArray, List.set_cons_zero, List.set_cons_succ]
  refine wpAnyH_take (i := 6) (v := ?_) rfl (by kernel_rfl) (by kernel_rfl) (by kernel_rfl) (fun _ _ _ h => h) (Or.inl ⟨by rfl, ?_⟩) hHeld ?_
  rotate_left
  · (intro wz _; go_simp; try with_reducible rfl)
  try simp only [List.getElem_toArray, List.getElem_cons_succ, List.getElem_cons_zero, Act.put, List.setIfInBounds_toArray, List.set_cons_zero, List.set_cons_succ]
  refine wpAnyH_take (i := 8) (v := ?_) rfl (by kernel_rfl) (by kernel_rfl) (by kernel_rfl) (fun _ _ _ h => h) (Or.inl ⟨by rfl, ?_⟩) hHeld ?_
  rotate_left
  · (intro wz _; go_simp; try with_reducible rfl)
  try simp only [List.getElem_toArray, List.getElem_cons_succ, List.getElem_cons_zero, Act.put, List.setIfInBounds_toArray, List.set_cons_zero, List.set_cons_succ]
  refine wpAnyH_take (i := 9) (v := ?_) rfl (by kernel_rfl) (by kernel_rfl) (by kernel_rfl) (fun _ _ _ h => h) (Or.inl ⟨by rfl, ?_⟩) hHeld ?_
  rotate_left
  · (intro wz _; go_simp; try with_reducible rfl)
  try simp only [List.getElem_toArray, List.getElem_cons_succ, List.getElem_cons_zero, Act.put, List.setIfInBounds_toArray, List.set_cons_zero, List.set_cons_succ]
  refine wpAnyH_take (i := 10) (v := ?_) rfl (by kernel_rfl) (by kernel_rfl) (by kernel_rfl) (fun _ _ _ h => h) (Or.inl ⟨by rfl, ?_⟩) hHeld ?_
  rotate_left
  · (intro wz _; go_simp; try with_reducible rfl)
  try simp only [List.getElem_toArray, List.getElem_cons_succ, List.getElem_cons_zero, Act.put, List.setIfInBounds_toArray, List.set_cons_zero, List.set_cons_succ]
  refine wpAnyH_take (i := 11) (v := ?_) rfl (by kernel_rfl) (by kernel_rfl) (by kernel_rfl) (fun _ _ _ h => h) (Or.inl ⟨by rfl, ?_⟩) hHeld ?_
  rotate_left
  · (intro wz _; go_simp; try with_reducible rfl)
  try simp only [List.getElem_toArray, List.getElem_cons_succ, List.getElem_cons_zero, Act.put, List.setIfInBounds_toArray, List.set_cons_zero, List.set_cons_succ]
  refine wpAnyH_take (i := 12) (v := _) rfl (by kernel_rfl) (by kernel_rfl) (by kernel_rfl) (fun _ _ _ h => h) (yields_load1 rfl 40 _ rfl rfl hfK f3 Try.underlying40 rfl) hHeld ?_
  try simp only [List.getElem_toArray, List.getElem_cons_succ, List.getElem_cons_zero, Act.put, List.setIfInBounds_toArray, List.set_cons_zero, List.set_cons_succ]
  replace h := h.drew
  generalize w.drew = w1 at h hHeld ⊢
  clear w
  obtain ⟨w, rfl⟩ : ∃ q : World, q = w1 := ⟨_, rfl⟩
  refine wpAnyH_ready (rs := [3]) (by kernel_rfl) (by simp) ?_
  refine AllReadyH.cons rfl (fun K hK => ?_) AllReadyH.nil
  (go_simp; go_wp2_with (go_at_call 10; refine (ME.out _ h).mono ?_; clear h; rintro _ w ⟨rfl, h⟩))
  refine hK.out _ _ (h.le KL) (fun hHeld => ?_)
  clear hK K
  try simp only [Act.put, List.setIfInBounds_toArray, List.set_cons_zero, List.set_cons_succ]
  refine wpAnyH_ready (rs := [7]) (by kernel_rfl) (by simp) ?_
  refine AllReadyH.cons rfl (fun K hK => ?_) AllReadyH.nil
  (go_simp; go_wp2_with (go_at_call 60; refine (AN1.out _ h).mono ?_; clear h; rintro _ w ⟨rfl, h⟩))
  refine hK.out _ _ (h.le KL) (fun hHeld => ?_)
  clear hK K
  try simp only [Act.put, List.setIfInBounds_toArray, List.set_cons_zero, List.set_cons_succ]
  refine wpAnyH_ready (rs := [13]) (by kernel_rfl) (by simp) ?_
  refine AllReadyH.cons rfl (fun K hK => ?_) AllReadyH.nil
  (go_simp; go_wp2_with (go_at_call 56; refine (UN.out _).mono ?_; rintro _ w' ⟨rfl, rfl⟩))
  refine hK.out _ _ (h.le KL) (fun hHeld => ?_)
  clear hK K
  try simp only [Act.put, List.setIfInBounds_toArray, List.set_cons_zero, List.set_cons_succ]
  refine wpAnyH_take (i := 14) (v := ?_) rfl (by kernel_rfl) (by kernel_rfl) (by kernel_rfl) (fun _ _ _ h => h) (Or.inl ⟨by rfl, ?_⟩) hHeld ?_
  rotate_left
  · (intro wz _; go_simp; try with_reducible rfl)
  try simp only [List.getElem_toArray, List.getElem_cons_succ, List.getElem_cons_zero, Act.put, List.setIfInBounds_toArray, List.set_cons_zero, List.set_cons_succ]
  refine wpAnyH_ready (rs := [15]) (by kernel_rfl) (by simp) ?_
  refine AllReadyH.cons rfl (fun K hK => ?_) AllReadyH.nil
  (go_simp; go_wp2_with (go_at_call 64; refine (SE.out _ h).mono ?_; clear h; rintro _ w ⟨rfl, h⟩))
  refine hK.out _ _ (h.le KE) (fun hHeld => ?_)
  clear hK K
  try simp only [Act.put, List.setIfInBounds_toArray, List.set_cons_zero, List.set_cons_succ]
  refine wpAnyH_done (by kernel_rfl) ?_ _
  clear hHeld
  go_wp2_with (first
    | (with_reducible show wpList _ _ _ ({ dst := _, op := Op.store 3 _ _, type := _, pos := _, after := _, guard := _ } :: _) _ _; refine wpList_store1_has h rfl 3 _ _ rfl rfl rfl hfb2 hsz rfl (by kernel_rfl) ?_; clear h; intro w h))
  go_end0
  refine ⟨rfl, _, _, ?_, HT.out⟩
  have h0 : Has σ (M2.upd b (.cells (fr0.setIfInBounds 1 (.int .i64 9)) 71)) w := h
  rw [R1.out] at h0
  exact h0
end
section
open Go.RowKit
set_option linter.unusedVariables false
set_option linter.unusedSimpArgs false
set_option maxRecDepth 20000 in
theorem scrubbed_2 (w : World) : Calls Try.prog 66 #[.int .i64 2] w fun r w' => r = .returned (.int .i64 3) ∧ w = w' := by
  have IX : ∀ w : World, (Instr.index 97 (.agg #[.int .i64 3, .int .i64 4, .int .i64 2, .int .i64 1]) (.int .i64 0)).run Try.prog w = .ok (.int .i64 3) w := fun w => run_index_one w Try.underlying97 Try.underlying3 rfl (by kernel_rfl) _ .i64 0 (by omega) (by omega) rfl
  go_enter Try.func66, Try.ntmps66
  go_wp2
  go_ret
  exact ⟨rfl, rfl⟩
set_option maxRecDepth 20000 in
theorem scrubbed_3 (w : World) : Calls Try.prog 66 #[.int .i64 3] w fun r w' => r = .returned (.int .i64 4) ∧ w = w' := by
  have IX : ∀ w : World, (Instr.index 97 (.agg #[.int .i64 3, .int .i64 4, .int .i64 2, .int .i64 1]) (.int .i64 1)).run Try.prog w = .ok (.int .i64 4) w := fun w => run_index_one w Try.underlying97 Try.underlying3 rfl (by kernel_rfl) _ .i64 1 (by omega) (by omega) rfl
  go_enter Try.func66, Try.ntmps66
  go_wp2
  go_ret
  exact ⟨rfl, rfl⟩
set_option maxRecDepth 20000 in
theorem scrubbed_4 (w : World) : Calls Try.prog 66 #[.int .i64 4] w fun r w' => r = .returned (.int .i64 2) ∧ w = w' := by
  have IX : ∀ w : World, (Instr.index 97 (.agg #[.int .i64 3, .int .i64 4, .int .i64 2, .int .i64 1]) (.int .i64 2)).run Try.prog w = .ok (.int .i64 2) w := fun w => run_index_one w Try.underlying97 Try.underlying3 rfl (by kernel_rfl) _ .i64 2 (by omega) (by omega) rfl
  go_enter Try.func66, Try.ntmps66
  go_wp2
  go_ret
  exact ⟨rfl, rfl⟩
set_option maxRecDepth 20000 in
theorem scrubbed_5 (w : World) : Calls Try.prog 66 #[.int .i64 5] w fun r w' => r = .returned (.int .i64 1) ∧ w = w' := by
  have IX : ∀ w : World, (Instr.index 97 (.agg #[.int .i64 3, .int .i64 4, .int .i64 2, .int .i64 1]) (.int .i64 3)).run Try.prog w = .ok (.int .i64 1) w := fun w => run_index_one w Try.underlying97 Try.underlying3 rfl (by kernel_rfl) _ .i64 3 (by omega) (by omega) rfl
  go_enter Try.func66, Try.ntmps66
  go_wp2
  go_ret
  exact ⟨rfl, rfl⟩
end
section
open Go.RowKit
set_option linter.unusedVariables false
set_option linter.unusedSimpArgs false
set_option linter.unnecessarySimpa false
set_option maxHeartbeats 4000000 in
set_option maxRecDepth 20000 in
theorem give_2 {σ w : World} {K M : Mm} {lab : Nat → Nat} {p t q b lv : Nat} {s : MachS} {fs : List FrameS} {f : FrameS} (h : Has σ M w) (hT : AtTop K M lab p s t q b fs f) (hat : f.at_ = 2) {sl : Nat} (h0 : f.r 0 = (sl : Int)) (hsl : sl < 256) (hlv : levelOf s.c (t : Nat) = (lv : Nat)) (hlc : (lv : Int) < s.c 0) (hin : InK s.c 9 (sl : Nat) 3) (hb1 : s.mem.acc < 1000000000) (hb2 : s.mem.wr < 1000000000) :
    Calls Try.prog 32 #[.agg (runC p t q b)] w fun r w' => r = .returned (.tuple #[]) ∧ ∃ M' lab', Has σ M' w' ∧ AtTop K M' lab' p (MachS.top { s with mem := s.mem.store (atK s.c lv 9 (sl : Nat) 3) 0 } t fs (f.goto 3)) t q b fs (f.goto 3) := by
  have d0 : (runC p t q b)[0]? = some (.pointer (some ⟨p, 0, none⟩)) := rfl
  have d1 : (runC p t q b)[1]? = some (.int .i64 (t : Nat)) := rfl
  have d2 : (runC p t q b)[2]? = some (.pointer (some ⟨q, 0, none⟩)) := rfl
  have d3 : (runC p t q b)[3]? = some (.pointer (some ⟨b, 0, none⟩)) := rfl
  have dx : (runC p t q b).extract 0 (0 + 4) = runC p t q b := rfl
  have dz : (runC p t q b).size = 4 := rfl
  have f1 : f.row[1]? = some (.int .i64 2) := by rw [← hat]; rfl
  have f2 : f.row[2]? = some (.int .u64 (sl : Nat)) := by rw [← h0]; rfl
  have us : IntKind.i64.wrap ((sl : Nat) : Int) = ((sl : Nat) : Int) := IntWalk.i64_in _ (by omega)
  clear hat
  have SC := Lib.hid scrubbed_2
  have SPA := spotAt_of (σ := σ) hT.mach hlv hlc hin
  obtain ⟨a, ha⟩ : ∃ a, atK s.c lv 9 (sl : Nat) 3 = a := ⟨_, rfl⟩
  rw [ha] at SPA ⊢
  obtain ⟨v, hv⟩ : ∃ v : Int, v = 0 := ⟨_, rfl⟩
  rw [← hv]
  have ND := Lib.hid (fun (M' : Mm) (w : World) (h : Has σ M' w) (hle : M.le M') => runNode_eq (q := q) (b := b) h (SPA.le hle))
  clear h0 ha hlv hlc hin SPA
  go_enter Try.func32, Try.ntmps32
  go_upto_region 1 with (fail)
  obtain ⟨M1, hbx, hle, hb4, hn⟩ := h.box (.cells (runC p t q b) 87)
  generalize w.alloc _ = wx at hbx ⊢
  generalize w.heap.size = b4 at hb4 hn ⊢
  clear h
  try clear w
  have h := hbx
  clear hbx
  obtain ⟨w, rfl⟩ : ∃ x : World, x = wx := ⟨_, rfl⟩
  obtain ⟨lab1, hT1⟩ := hT.more1 hle hn hb4
  have hnK : K b4 = none := by
    cases e : K b4 with
    | none => rfl
    | some o => have := (hT.base _ _ e).1; rw [hn] at this; cases this
  have hKK : K.le (K.upd b4 (.cells (runC p t q b) 87)) := Mm.le_upd' hnK _
  have hbK : (K.upd b4 (.cells (runC p t q b) 87)) b4 = some (.cells (runC p t q b) 87) := Mm.upd_same _ _ _
  have hfb := hT1.obj
  have ND1 := Lib.hid (fun (w : World) (h : Has σ M1 w) => ND.out M1 w h hle)
  clear ND
  -- behind the entrance: the store of v at a, then the frame goes on at 3
  have ME := Lib.hid (fun (w : World) (h : Has σ M1 w) => mMem_eq h hT1.mach)
  have SE := Lib.hid (fun (w : World) (h : Has σ M1 w) => memStore_eq h hT1.mach.mem hb1 hb2 a v)
  have hne : b4 ≠ b := fun e => by
    subst e
    rw [hb4] at hfb
    simp only [Option.some.injEq, Obj.cells.injEq] at hfb
    exact absurd hfb.2.1 (by decide)
  have hT2 := hT1.store a v
  have KL := Mm.upd_le2 hT1.base.le hT1.obj
  have KE := Mm.upd_le2 hT2.base.le hT2.obj
  have hbK2 : ((K.upd b4 (.cells (runC p t q b) 87)).upd b (.cells f.row 71)) b4 = some (.cells (runC p t q b) 87) := (Mm.upd_ne hne).trans (Mm.upd_same _ _ _)
  have hfK : ((K.upd b4 (.cells (runC p t q b) 87)).upd b (.cells f.row 71)) b = some (.cells f.row 71) := Mm.upd_same _ _ _
  obtain ⟨hfb2, hT3⟩ := hT2.frame (f.goto 3)
  have HT := Lib.hid (hT3.less hKK)
  have hsz : 1 < f.row.size := show 1 < 18 by omega
  have R1 := Lib.hid (row_goto f 3)
  clear hT hT1 hT2 hT3 hb1 hb2 hn hle hnK hKK hne hbK
  generalize runC p t q b = rc at *
  generalize hr0 : f.row = fr0 at *
  generalize hr1 : (f.goto 3).row = fr1 at *
  clear hr0 hr1
  generalize (K.upd b4 _).upd b _ = K1 at KL KE hbK2 hfK
  generalize storeM M1 s.mp s.mem a v = M2 at *
  subst hv
  go_upto_region 18 with (first
    | (with_reducible show wpList _ _ _ ({ dst := _, op := Op.load 67 _, type := _, pos := _, after := _, guard := _ } :: _) _ _; refine wpList_load1_has h rfl 67 _ rfl rfl hb4 d3 Try.underlying67 rfl ?_)
    | (with_reducible show wpList _ _ _ ({ dst := _, op := Op.load 40 _, type := _, pos := _, after := _, guard := _ } :: _) _ _; refine wpList_load1_has h rfl 40 _ rfl rfl hfb f2 Try.underlying40 rfl ?_)
    | (with_reducible show wpList _ _ _ ({ dst := _, op := Op.load 3 _, type := _, pos := _, after := _, guard := _ } :: _) _ _; refine wpList_load1_has h rfl 3 _ rfl rfl hfb f1 Try.underlying3 rfl ?_))
  clear hfb hb4
  refine wp_region_held_drew (S := Has σ (K1)) (by kernel_rfl) (h.drew.le KL) (fun hHeld => ?_)
  refine wpAnyH_take (i := 0) (v := ?_) rfl (by kernel_rfl) (by kernel_rfl) (by kernel_rfl) (fun _ _ _ h => h) (Or.inl ⟨by rfl, ?_⟩) hHeld ?_
  rotate_left
  · (intro wz _; go_simp; try with_reducible rfl)
  try simp only [List.getElem_toArray, List.getElem_cons_succ, List.getElem_cons_zero, Act.put, List.setIfInBounds_toArray, List.set_cons_zero, List.set_cons_succ]
  refine wpAnyH_take (i := 1) (v := ?_) rfl (by kernel_rfl) (by kernel_rfl) (by kernel_rfl) (fun _ _ _ h => h) (Or.inl ⟨by rfl, ?_⟩) hHeld ?_
  rotate_left
  · (intro wz _; go_simp; try with_reducible rfl)
  try simp only [List.getElem_toArray, List.getElem_cons_succ, List.getElem_cons_zero, Act.put, List.setIfInBounds_toArray, List.set_cons_zero, List.set_cons_succ]
  refine wpAnyH_take (i := 2) (v := _) rfl (by kernel_rfl) (by kernel_rfl) (by kernel_rfl) (fun _ _ _ h => h) (yields_load1 rfl 26 _ rfl rfl hbK2 d0 Try.underlying26 rfl) hHeld ?_
  try simp only [List.getElem_toArray, List.getElem_cons_succ, List.getElem_cons_zero, Act.put, List.setIfInBounds_toArray, List.set_cons_zero, List.set_cons_succ]
  refine wpAnyH_take (i := 4) (v := ?_) rfl (by kernel_rfl) (by kernel_rfl) (by kernel_rfl) (fun _ _ _ h => h) (Or.inl ⟨by rfl, ?_⟩) hHeld ?_
  rotate_left
  · (intro wz _; go_simp; try with_reducible rfl)
  try simp only [List.getElem_toArray, List.getElem_cons_succ, List.getElem_cons_zero, Act.put, List.setIfInBounds_toArray, List.set_cons_zero, List.set_cons_succ]
  refine wpAnyH_take (i := 5) (v := _) rfl (by kernel_rfl) (by kernel_rfl) (by kernel_rfl) (fun _ _ _ h => h) (yields_agg rfl 84 _ rfl rfl hbK2 dx dz Try.underlying84 rfl (by kernel_rfl)) hHeld ?_
  try simp only [List.getElem_toArray, List.getElem_cons_succ, List.getElem_cons_zero, Act.put, List.setIfInBounds_toArray, List.set_cons_zero, List.set_cons_succ]
  refine wpAnyH_take (i := 6) (v := ?_) rfl (by kernel_rfl) (by kernel_rfl) (by kernel_rfl) (fun _ _ _ h => h) (Or.inl ⟨by rfl, ?_⟩) hHeld ?_
  rotate_left
  · (intro wz _; go_simp; try with_reducible rfl)
  try simp only [List.getElem_toArray, List.getElem_cons_succ, List.getElem_cons_zero, Act.put, List.setIfInBounds_toArray, List.set_cons_zero, List.set_cons_succ]
  refine wpAnyH_take (i := 7) (v := ?_) rfl (by kernel_rfl) (by kernel_rfl) (by kernel_rfl) (fun _ _ _ h => h) (Or.inl ⟨by rfl, ?_⟩) hHeld ?_
  rotate_left
  · (intro wz _; go_simp; try with_reducible rfl)
  try simp only [List.getElem_toArray, List.getElem_cons_succ, List.getElem_cons_zero, Act.put, List.setIfInBounds_toArray, List.set_cons_zero, List.set_cons_succ]
  refine wpAnyH_take (i := 8) (v := ?_) rfl (by kernel_rfl) (by kernel_rfl) (by kernel_rfl) (fun _ _ _ h => h) (Or.inl ⟨by rfl, ?_⟩) hHeld ?_
  rotate_left
  · (intro wz _; go_simp; try with_reducible rfl)
  try simp only [List.getElem_toArray, List.getElem_cons_succ, List.getElem_cons_zero, Act.put, List.setIfInBounds_toArray, List.set_cons_zero, List.set_cons_succ]
  refine wpAnyH_take (i := 9) (v := ?_) rfl (by kernel_rfl) (by kernel_rfl) (by kernel_rfl) (fun _ _ _ h => h) (Or.inl ⟨by rfl, ?_⟩) hHeld ?_
  rotate_left
  · (intro wz _; go_simp; try with_reducible rfl)
  try simp only [List.getElem_toArray, List.getElem_cons_succ, List.getElem_cons_zero, Act.put, List.setIfInBounds_toArray, List.set_cons_zero, List.set_cons_succ]
  refine wpAnyH_take (i := 10) (v := _) rfl (by kernel_rfl) (by kernel_rfl) (by kernel_rfl) (fun _ _ _ h => h) (yields_load1 rfl 3 _ rfl rfl hfK f1 Try.underlying3 rfl) hHeld ?_
  try simp only [List.getElem_toArray, List.getElem_cons_succ, List.getElem_cons_zero, Act.put, List.setIfInBounds_toArray, List.set_cons_zero, List.set_cons_succ]
  replace h := h.drew
  generalize w.drew = w1 at h hHeld ⊢
  clear w
  obtain ⟨w, rfl⟩ : ∃ q : World, q = w1 := ⟨_, rfl⟩
  refine wpAnyH_ready (rs := [3]) (by kernel_rfl) (by simp) ?_
  refine AllReadyH.cons rfl (fun K hK => ?_) AllReadyH.nil
  (go_simp; go_wp2_with (go_at_call 10; refine (ME.out _ h).mono ?_; clear h; rintro _ w ⟨rfl, h⟩))
  refine hK.out _ _ (h.le KL) (fun hHeld => ?_)
  clear hK K
  try simp only [Act.put, List.setIfInBounds_toArray, List.set_cons_zero, List.set_cons_succ]
  refine wpAnyH_ready (rs := [11]) (by kernel_rfl) (by simp) ?_
  refine AllReadyH.cons rfl (fun K hK => ?_) AllReadyH.nil
  (go_simp; go_wp2_with (go_at_call 66; refine (SC.out _).mono ?_; rintro _ w' ⟨rfl, rfl⟩))
  refine hK.out _ _ (h.le KL) (fun hHeld => ?_)
  clear hK K
  try simp only [Act.put, List.setIfInBounds_toArray, List.set_cons_zero, List.set_cons_succ]
  refine wpAnyH_ready (rs := [12]) (by kernel_rfl) (by simp) ?_
  refine AllReadyH.cons rfl (fun K hK => ?_) AllReadyH.nil
  (go_simp; go_wp2_with (go_at_call 63; refine (ND1.out _ h).mono ?_; clear h; rintro _ w ⟨rfl, h⟩))
  refine hK.out _ _ (h.le KL) (fun hHeld => ?_)
  clear hK K
  try simp only [Act.put, List.setIfInBounds_toArray, List.set_cons_zero, List.set_cons_succ]
  refine wpAnyH_ready (rs := [13]) (by kernel_rfl) (by simp) ?_
  refine AllReadyH.cons rfl (fun K hK => ?_) AllReadyH.nil
  (go_simp; go_wp2_with (go_at_call 64; refine (SE.out _ h).mono ?_; clear h; rintro _ w ⟨rfl, h⟩))
  refine hK.out _ _ (h.le KE) (fun hHeld => ?_)
  clear hK K
  try simp only [Act.put, List.setIfInBounds_toArray, List.set_cons_zero, List.set_cons_succ]
  refine wpAnyH_done (by kernel_rfl) ?_ _
  clear hHeld
  go_wp2_with (first
    | (with_reducible show wpList _ _ _ ({ dst := _, op := Op.load 3 _, type := _, pos := _, after := _, guard := _ } :: _) _ _; refine wpList_load1_has h rfl 3 _ rfl rfl hfb2 f1 Try.underlying3 rfl ?_)
    | (with_reducible show wpList _ _ _ ({ dst := _, op := Op.store 3 _ _, type := _, pos := _, after := _, guard := _ } :: _) _ _; refine wpList_store1_has h rfl 3 _ _ rfl rfl rfl hfb2 hsz rfl (by kernel_rfl) ?_; clear h; intro w h))
  go_end0
  refine ⟨rfl, _, _, ?_, HT.out⟩
  have h0 : Has σ (M2.upd b (.cells (fr0.setIfInBounds 1 (.int .i64 3)) 71)) w := h
  rw [R1.out] at h0
  exact h0
set_option maxHeartbeats 4000000 in
set_option maxRecDepth 20000 in
theorem give_3 {σ w : World} {K M : Mm} {lab : Nat → Nat} {p t q b lv : Nat} {s : MachS} {fs : List FrameS} {f : FrameS} (h : Has σ M w) (hT : AtTop K M lab p s t q b fs f) (hat : f.at_ = 3) {sl : Nat} (h0 : f.r 0 = (sl : Int)) (hsl : sl < 256) (hlv : levelOf s.c (t : Nat) = (lv : Nat)) (hlc : (lv : Int) < s.c 0) (hin : InK s.c 9 (sl : Nat) 4) (hb1 : s.mem.acc < 1000000000) (hb2 : s.mem.wr < 1000000000) :
    Calls Try.prog 32 #[.agg (runC p t q b)] w fun r w' => r = .returned (.tuple #[]) ∧ ∃ M' lab', Has σ M' w' ∧ AtTop K M' lab' p (MachS.top { s with mem := s.mem.store (atK s.c lv 9 (sl : Nat) 4) 0 } t fs (f.goto 4)) t q b fs (f.goto 4) := by
  have d0 : (runC p t q b)[0]? = some (.pointer (some ⟨p, 0, none⟩)) := rfl
  have d1 : (runC p t q b)[1]? = some (.int .i64 (t : Nat)) := rfl
  have d2 : (runC p t q b)[2]? = some (.pointer (some ⟨q, 0, none⟩)) := rfl
  have d3 : (runC p t q b)[3]? = some (.pointer (some ⟨b, 0, none⟩)) := rfl
  have dx : (runC p t q b).extract 0 (0 + 4) = runC p t q b := rfl
  have dz : (runC p t q b).size = 4 := rfl
  have f1 : f.row[1]? = some (.int .i64 3) := by rw [← hat]; rfl
  have f2 : f.row[2]? = some (.int .u64 (sl : Nat)) := by rw [← h0]; rfl
  have us : IntKind.i64.wrap ((sl : Nat) : Int) = ((sl : Nat) : Int) := IntWalk.i64_in _ (by omega)
  clear hat
  have SC := Lib.hid scrubbed_3
  have SPA := spotAt_of (σ := σ) hT.mach hlv hlc hin
  obtain ⟨a, ha⟩ : ∃ a, atK s.c lv 9 (sl : Nat) 4 = a := ⟨_, rfl⟩
  rw [ha] at SPA ⊢
  obtain ⟨v, hv⟩ : ∃ v : Int, v = 0 := ⟨_, rfl⟩
  rw [← hv]
  have ND := Lib.hid (fun (M' : Mm) (w : World) (h : Has σ M' w) (hle : M.le M') => runNode_eq (q := q) (b := b) h (SPA.le hle))
  clear h0 ha hlv hlc hin SPA
  go_enter Try.func32, Try.ntmps32
  go_upto_region 1 with (fail)
  obtain ⟨M1, hbx, hle, hb4, hn⟩ := h.box (.cells (runC p t q b) 87)
  generalize w.alloc _ = wx at hbx ⊢
  generalize w.heap.size = b4 at hb4 hn ⊢
  clear h
  try clear w
  have h := hbx
  clear hbx
  obtain ⟨w, rfl⟩ : ∃ x : World, x = wx := ⟨_, rfl⟩
  obtain ⟨lab1, hT1⟩ := hT.more1 hle hn hb4
  have hnK : K b4 = none := by
    cases e : K b4 with
    | none => rfl
    | some o => have := (hT.base _ _ e).1; rw [hn] at this; cases this
  have hKK : K.le (K.upd b4 (.cells (runC p t q b) 87)) := Mm.le_upd' hnK _
  have hbK : (K.upd b4 (.cells (runC p t q b) 87)) b4 = some (.cells (runC p t q b) 87) := Mm.upd_same _ _ _
  have hfb := hT1.obj
  have ND1 := Lib.hid (fun (w : World) (h : Has σ M1 w) => ND.out M1 w h hle)
  clear ND
  -- behind the entrance: the store of v at a, then the frame goes on at 4
  have ME := Lib.hid (fun (w : World) (h : Has σ M1 w) => mMem_eq h hT1.mach)
  have SE := Lib.hid (fun (w : World) (h : Has σ M1 w) => memStore_eq h hT1.mach.mem hb1 hb2 a v)
  have hne : b4 ≠ b := fun e => by
    subst e
    rw [hb4] at hfb
    simp only [Option.some.injEq, Obj.cells.injEq] at hfb
    exact absurd hfb.2.1 (by decide)
  have hT2 := hT1.store a v
  have KL := Mm.upd_le2 hT1.base.le hT1.obj
  have KE := Mm.upd_le2 hT2.base.le hT2.obj
  have hbK2 : ((K.upd b4 (.cells (runC p t q b) 87)).upd b (.cells f.row 71)) b4 = some (.cells (runC p t q b) 87) := (Mm.upd_ne hne).trans (Mm.upd_same _ _ _)
  have hfK : ((K.upd b4 (.cells (runC p t q b) 87)).upd b (.cells f.row 71)) b = some (.cells f.row 71) := Mm.upd_same _ _ _
  obtain ⟨hfb2, hT3⟩ := hT2.frame (f.goto 4)
  have HT := Lib.hid (hT3.less hKK)
  have hsz : 1 < f.row.size := show 1 < 18 by omega
  have R1 := Lib.hid (row_goto f 4)
  clear hT hT1 hT2 hT3 hb1 hb2 hn hle hnK hKK hne hbK
  generalize runC p t q b = rc at *
  generalize hr0 : f.row = fr0 at *
  generalize hr1 : (f.goto 4).row = fr1 at *
  clear hr0 hr1
  generalize (K.upd b4 _).upd b _ = K1 at KL KE hbK2 hfK
  generalize storeM M1 s.mp s.mem a v = M2 at *
  subst hv
  go_upto_region 18 with (first
    | (with_reducible show wpList _ _ _ ({ dst := _, op := Op.load 67 _, type := _, pos := _, after := _, guard := _ } :: _) _ _; refine wpList_load1_has h rfl 67 _ rfl rfl hb4 d3 Try.underlying67 rfl ?_)
    | (with_reducible show wpList _ _ _ ({ dst := _, op := Op.load 40 _, type := _, pos := _, after := _, guard := _ } :: _) _ _; refine wpList_load1_has h rfl 40 _ rfl rfl hfb f2 Try.underlying40 rfl ?_)
    | (with_reducible show wpList _ _ _ ({ dst := _, op := Op.load 3 _, type := _, pos := _, after := _, guard := _ } :: _) _ _; refine wpList_load1_has h rfl 3 _ rfl rfl hfb f1 Try.underlying3 rfl ?_))
  clear hfb hb4
  refine wp_region_held_drew (S := Has σ (K1)) (by kernel_rfl) (h.drew.le KL) (fun hHeld => ?_)
  refine wpAnyH_take (i := 0) (v := ?_) rfl (by kernel_rfl) (by kernel_rfl) (by kernel_rfl) (fun _ _ _ h => h) (Or.inl ⟨by rfl, ?_⟩) hHeld ?_
  rotate_left
  · (intro wz _; go_simp; try with_reducible rfl)
  try simp only [List.getElem_toArray, List.getElem_cons_succ, List.getElem_cons_zero, Act.put, List.setIfInBounds_toArray, List.set_cons_zero, List.set_cons_succ]
  refine wpAnyH_take (i := 1) (v := ?_) rfl (by kernel_rfl) (by kernel_rfl) (by kernel_rfl) (fun _ _ _ h => h) (Or.inl ⟨by rfl, ?_⟩) hHeld ?_
  rotate_left
  · (intro wz _; go_simp; try with_reducible rfl)
  try simp only [List.getElem_toArray, List.getElem_cons_succ, List.getElem_cons_zero, Act.put, List.setIfInBounds_toArray, List.set_cons_zero, List.set_cons_succ]
  refine wpAnyH_take (i := 2) (v := _) rfl (by kernel_rfl) (by kernel_rfl) (by kernel_rfl) (fun _ _ _ h => h) (yields_load1 rfl 26 _ rfl rfl hbK2 d0 Try.underlying26 rfl) hHeld ?_
  try simp only [List.getElem_toArray, List.getElem_cons_succ, List.getElem_cons_zero, Act.put, List.setIfInBounds_toArray, List.set_cons_zero, List.set_cons_succ]
  refine wpAnyH_take (i := 4) (v := ?_) rfl (by kernel_rfl) (by kernel_rfl) (by kernel_rfl) (fun _ _ _ h => h) (Or.inl ⟨by rfl, ?_⟩) hHeld ?_
  rotate_left
  · (intro wz _; go_simp; try with_reducible rfl)
  try simp only [List.getElem_toArray, List.getElem_cons_succ, List.getElem_cons_zero, Act.put, List.setIfInBounds_toArray, List.set_cons_zero, List.set_cons_succ]
  refine wpAnyH_take (i := 5) (v := _) rfl (by kernel_rfl) (by kernel_rfl) (by kernel_rfl) (fun _ _ _ h => h) (yields_agg rfl 84 _ rfl rfl hbK2 dx dz Try.underlying84 rfl (by kernel_rfl)) hHeld ?_
  try simp only [List.getElem_toArray, List.getElem_cons_succ, List.getElem_cons_zero, Act.put, List.setIfInBounds_toArray, List.set_cons_zero, List.set_cons_succ]
  refine wpAnyH_take (i := 6) (v := ?_) rfl (by kernel_rfl) (by kernel_rfl) (by kernel_rfl) (fun _ _ _ h => h) (Or.inl ⟨by rfl, ?_⟩) hHeld ?_
  rotate_left
  · (intro wz _; go_simp; try with_reducible rfl)
  try simp only [List.getElem_toArray, List.getElem_cons_succ, List.getElem_cons_zero, Act.put, List.setIfInBounds_toArray, List.set_cons_zero, List.set_cons_succ]
  refine wpAnyH_take (i := 7) (v := ?_) rfl (by kernel_rfl) (by kernel_rfl) (by kernel_rfl) (fun _ _ _ h => h) (Or.inl ⟨by rfl, ?_⟩) hHeld ?_
  rotate_left
  · (intro wz _; go_simp; try with_reducible rfl)
  try simp only [List.getElem_toArray, List.getElem_cons_succ, List.getElem_cons_zero, Act.put, List.setIfInBounds_toArray, List.set_cons_zero, List.set_cons_succ]
  refine wpAnyH_take (i := 8) (v := ?_) rfl (by kernel_rfl) (by kernel_rfl) (by kernel_rfl) (fun _ _ _ h => h) (Or.inl ⟨by rfl, ?_⟩) hHeld ?_
  rotate_left
  · (intro wz _; go_simp; try with_reducible rfl)
  try simp only [List.getElem_toArray, List.getElem_cons_succ, List.getElem_cons_zero, Act.put, List.setIfInBounds_toArray, List.set_cons_zero, List.set_cons_succ]
  refine wpAnyH_take (i := 9) (v := ?_) rfl (by kernel_rfl) (by kernel_rfl) (by kernel_rfl) (fun _ _ _ h => h) (Or.inl ⟨by rfl, ?_⟩) hHeld ?_
  rotate_left
  · (intro wz _; go_simp; try with_reducible rfl)
  try simp only [List.getElem_toArray, List.getElem_cons_succ, List.getElem_cons_zero, Act.put, List.setIfInBounds_toArray, List.set_cons_zero, List.set_cons_succ]
  refine wpAnyH_take (i := 10) (v := _) rfl (by kernel_rfl) (by kernel_rfl) (by kernel_rfl) (fun _ _ _ h => h) (yields_load1 rfl 3 _ rfl rfl hfK f1 Try.underlying3 rfl) hHeld ?_
  try simp only [List.getElem_toArray, List.getElem_cons_succ, List.getElem_cons_zero, Act.put, List.setIfInBounds_toArray, List.set_cons_zero, List.set_cons_succ]
  replace h := h.drew
  generalize w.drew = w1 at h hHeld ⊢
  clear w
  obtain ⟨w, rfl⟩ : ∃ q : World, q = w1 := ⟨_, rfl⟩
  refine wpAnyH_ready (rs := [3]) (by kernel_rfl) (by simp) ?_
  refine AllReadyH.cons rfl (fun K hK => ?_) AllReadyH.nil
  (go_simp; go_wp2_with (go_at_call 10; refine (ME.out _ h).mono ?_; clear h; rintro _ w ⟨rfl, h⟩))
  refine hK.out _ _ (h.le KL) (fun hHeld => ?_)
  clear hK K
  try simp only [Act.put, List.setIfInBounds_toArray, List.set_cons_zero, List.set_cons_succ]
  refine wpAnyH_ready (rs := [11]) (by kernel_rfl) (by simp) ?_
  refine AllReadyH.cons rfl (fun K hK => ?_) AllReadyH.nil
  (go_simp; go_wp2_with (go_at_call 66; refine (SC.out _).mono ?_; rintro _ w' ⟨rfl, rfl⟩))
  refine hK.out _ _ (h.le KL) (fun hHeld => ?_)
  clear hK K
  try simp only [Act.put, List.setIfInBounds_toArray, List.set_cons_zero, List.set_cons_succ]
  refine wpAnyH_ready (rs := [12]) (by kernel_rfl) (by simp) ?_
  refine AllReadyH.cons rfl (fun K hK => ?_) AllReadyH.nil
  (go_simp; go_wp2_with (go_at_call 63; refine (ND1.out _ h).mono ?_; clear h; rintro _ w ⟨rfl, h⟩))
  refine hK.out _ _ (h.le KL) (fun hHeld => ?_)
  clear hK K
  try simp only [Act.put, List.setIfInBounds_toArray, List.set_cons_zero, List.set_cons_succ]
  refine wpAnyH_ready (rs := [13]) (by kernel_rfl) (by simp) ?_
  refine AllReadyH.cons rfl (fun K hK => ?_) AllReadyH.nil
  (go_simp; go_wp2_with (go_at_call 64; refine (SE.out _ h).mono ?_; clear h; rintro _ w ⟨rfl, h⟩))
  refine hK.out _ _ (h.le KE) (fun hHeld => ?_)
  clear hK K
  try simp only [Act.put, List.setIfInBounds_toArray, List.set_cons_zero, List.set_cons_succ]
  refine wpAnyH_done (by kernel_rfl) ?_ _
  clear hHeld
  go_wp2_with (first
    | (with_reducible show wpList _ _ _ ({ dst := _, op := Op.load 3 _, type := _, pos := _, after := _, guard := _ } :: _) _ _; refine wpList_load1_has h rfl 3 _ rfl rfl hfb2 f1 Try.underlying3 rfl ?_)
    | (with_reducible show wpList _ _ _ ({ dst := _, op := Op.store 3 _ _, type := _, pos := _, after := _, guard := _ } :: _) _ _; refine wpList_store1_has h rfl 3 _ _ rfl rfl rfl hfb2 hsz rfl (by kernel_rfl) ?_; clear h; intro w h))
  go_end0
  refine ⟨rfl, _, _, ?_, HT.out⟩
  have h0 : Has σ (M2.upd b (.cells (fr0.setIfInBounds 1 (.int .i64 4)) 71)) w := h
  rw [R1.out] at h0
  exact h0
set_option maxHeartbeats 4000000 in
set_option maxRecDepth 20000 in
theorem give_4 {σ w : World} {K M : Mm} {lab : Nat → Nat} {p t q b lv : Nat} {s : MachS} {fs : List FrameS} {f : FrameS} (h : Has σ M w) (hT : AtTop K M lab p s t q b fs f) (hat : f.at_ = 4) {sl : Nat} (h0 : f.r 0 = (sl : Int)) (hsl : sl < 256) (hlv : levelOf s.c (t : Nat) = (lv : Nat)) (hlc : (lv : Int) < s.c 0) (hin : InK s.c 9 (sl : Nat) 2) (hb1 : s.mem.acc < 1000000000) (hb2 : s.mem.wr < 1000000000) :
    Calls Try.prog 32 #[.agg (runC p t q b)] w fun r w' => r = .returned (.tuple #[]) ∧ ∃ M' lab', Has σ M' w' ∧ AtTop K M' lab' p (MachS.top { s with mem := s.mem.store (atK s.c lv 9 (sl : Nat) 2) 0 } t fs (f.goto 5)) t q b fs (f.goto 5) := by
  have d0 : (runC p t q b)[0]? = some (.pointer (some ⟨p, 0, none⟩)) := rfl
  have d1 : (runC p t q b)[1]? = some (.int .i64 (t : Nat)) := rfl
  have d2 : (runC p t q b)[2]? = some (.pointer (some ⟨q, 0, none⟩)) := rfl
  have d3 : (runC p t q b)[3]? = some (.pointer (some ⟨b, 0, none⟩)) := rfl
  have dx : (runC p t q b).extract 0 (0 + 4) = runC p t q b := rfl
  have dz : (runC p t q b).size = 4 := rfl
  have f1 : f.row[1]? = some (.int .i64 4) := by rw [← hat]; rfl
  have f2 : f.row[2]? = some (.int .u64 (sl : Nat)) := by rw [← h0]; rfl
  have us : IntKind.i64.wrap ((sl : Nat) : Int) = ((sl : Nat) : Int) := IntWalk.i64_in _ (by omega)
  clear hat
  have SC := Lib.hid scrubbed_4
  have SPA := spotAt_of (σ := σ) hT.mach hlv hlc hin
  obtain ⟨a, ha⟩ : ∃ a, atK s.c lv 9 (sl : Nat) 2 = a := ⟨_, rfl⟩
  rw [ha] at SPA ⊢
  obtain ⟨v, hv⟩ : ∃ v : Int, v = 0 := ⟨_, rfl⟩
  rw [← hv]
  have ND := Lib.hid (fun (M' : Mm) (w : World) (h : Has σ M' w) (hle : M.le M') => runNode_eq (q := q) (b := b) h (SPA.le hle))
  clear h0 ha hlv hlc hin SPA
  go_enter Try.func32, Try.ntmps32
  go_upto_region 1 with (fail)
  obtain ⟨M1, hbx, hle, hb4, hn⟩ := h.box (.cells (runC p t q b) 87)
  generalize w.alloc _ = wx at hbx ⊢
  generalize w.heap.size = b4 at hb4 hn ⊢
  clear h
  try clear w
  have h := hbx
  clear hbx
  obtain ⟨w, rfl⟩ : ∃ x : World, x = wx := ⟨_, rfl⟩
  obtain ⟨lab1, hT1⟩ := hT.more1 hle hn hb4
  have hnK : K b4 = none := by
    cases e : K b4 with
    | none => rfl
    | some o => have := (hT.base _ _ e).1; rw [hn] at this; cases this
  have hKK : K.le (K.upd b4 (.cells (runC p t q b) 87)) := Mm.le_upd' hnK _
  have hbK : (K.upd b4 (.cells (runC p t q b) 87)) b4 = some (.cells (runC p t q b) 87) := Mm.upd_same _ _ _
  have hfb := hT1.obj
  have ND1 := Lib.hid (fun (w : World) (h : Has σ M1 w) => ND.out M1 w h hle)
  clear ND
  -- behind the entrance: the store of v at a, then the frame goes on at 5
  have ME := Lib.hid (fun (w : World) (h : Has σ M1 w) => mMem_eq h hT1.mach)
  have SE := Lib.hid (fun (w : World) (h : Has σ M1 w) => memStore_eq h hT1.mach.mem hb1 hb2 a v)
  have hne : b4 ≠ b := fun e => by
    subst e
    rw [hb4] at hfb
    simp only [Option.some.injEq, Obj.cells.injEq] at hfb
    exact absurd hfb.2.1 (by decide)
  have hT2 := hT1.store a v
  have KL := Mm.upd_le2 hT1.base.le hT1.obj
  have KE := Mm.upd_le2 hT2.base.le hT2.obj
  have hbK2 : ((K.upd b4 (.cells (runC p t q b) 87)).upd b (.cells f.row 71)) b4 = some (.cells (runC p t q b) 87) := (Mm.upd_ne hne).trans (Mm.upd_same _ _ _)
  have hfK : ((K.upd b4 (.cells (runC p t q b) 87)).upd b (.cells f.row 71)) b = some (.cells f.row 71) := Mm.upd_same _ _ _
  obtain ⟨hfb2, hT3⟩ := hT2.frame (f.goto 5)
  have HT := Lib.hid (hT3.less hKK)
  have hsz : 1 < f.row.size := show 1 < 18 by omega
  have R1 := Lib.hid (row_goto f 5)
  clear hT hT1 hT2 hT3 hb1 hb2 hn hle hnK hKK hne hbK
  generalize runC p t q b = rc at *
  generalize hr0 : f.row = fr0 at *
  generalize hr1 : (f.goto 5).row = fr1 at *
  clear hr0 hr1
  generalize (K.upd b4 _).upd b _ = K1 at KL KE hbK2 hfK
  generalize storeM M1 s.mp s.mem a v = M2 at *
  subst hv
  go_upto_region 18 with (first
    | (with_reducible show wpList _ _ _ ({ dst := _, op := Op.load 67 _, type := _, pos := _, after := _, guard := _ } :: _) _ _; refine wpList_load1_has h rfl 67 _ rfl rfl hb4 d3 Try.underlying67 rfl ?_)
    | (with_reducible show wpList _ _ _ ({ dst := _, op := Op.load 40 _, type := _, pos := _, after := _, guard := _ } :: _) _ _; refine wpList_load1_has h rfl 40 _ rfl rfl hfb f2 Try.underlying40 rfl ?_)
    | (with_reducible show wpList _ _ _ ({ dst := _, op := Op.load 3 _, type := _, pos := _, after := _, guard := _ } :: _) _ _; refine wpList_load1_has h rfl 3 _ rfl rfl hfb f1 Try.underlying3 rfl ?_))
  clear hfb hb4
  refine wp_region_held_drew (S := Has σ (K1)) (by kernel_rfl) (h.drew.le KL) (fun hHeld => ?_)
  refine wpAnyH_take (i := 0) (v := ?_) rfl (by kernel_rfl) (by kernel_rfl) (by kernel_rfl) (fun _ _ _ h => h) (Or.inl ⟨by rfl, ?_⟩) hHeld ?_
  rotate_left
  · (intro wz _; go_simp; try with_reducible rfl)
  try simp only [List.getElem_toArray, List.getElem_cons_succ, List.getElem_cons_zero, Act.put, List.setIfInBounds_toArray, List.set_cons_zero, List.set_cons_succ]
  refine wpAnyH_take (i := 1) (v := ?_) rfl (by kernel_rfl) (by kernel_rfl) (by kernel_rfl) (fun _ _ _ h => h) (Or.inl ⟨by rfl, ?_⟩) hHeld ?_
  rotate_left
  · (intro wz _; go_simp; try with_reducible rfl)
  try simp only [List.getElem_toArray, List.getElem_cons_succ, List.getElem_cons_zero, Act.put, List.setIfInBounds_toArray, List.set_cons_zero, List.set_cons_succ]
  refine wpAnyH_take (i := 2) (v := _) rfl (by kernel_rfl) (by kernel_rfl) (by kernel_rfl) (fun _ _ _ h => h) (yields_load1 rfl 26 _ rfl rfl hbK2 d0 Try.underlying26 rfl) hHeld ?_
  try simp only [List.getElem_toArray, List.getElem_cons_succ, List.getElem_cons_zero, Act.put, List.setIfInBounds_toArray, List.set_cons_zero, List.set_cons_succ]
  refine wpAnyH_take (i := 4) (v := ?_) rfl (by kernel_rfl) (by kernel_rfl) (by kernel_rfl) (fun _ _ _ h => h) (Or.inl ⟨by rfl, ?_⟩) hHeld ?_
  rotate_left
  · (intro wz _; go_simp; try with_reducible rfl)
  try simp only [List.getElem_toArray, List.getElem_cons_succ, List.getElem_cons_zero, Act.put, List.setIfInBounds_toArray, List.set_cons_zero, List.set_cons_succ]
  refine wpAnyH_take (i := 5) (v := _) rfl (by kernel_rfl) (by kernel_rfl) (by kernel_rfl) (fun _ _ _ h => h) (yields_agg rfl 84 _ rfl rfl hbK2 dx dz Try.underlying84 rfl (by kernel_rfl)) hHeld ?_
  try simp only [List.getElem_toArray, List.getElem_cons_succ, List.getElem_cons_zero, Act.put, List.setIfInBounds_toArray, List.set_cons_zero, List.set_cons_succ]
  refine wpAnyH_take (i := 6) (v := ?_) rfl (by kernel_rfl) (by kernel_rfl) (by kernel_rfl) (fun _ _ _ h => h) (Or.inl ⟨by rfl, ?_⟩) hHeld ?_
  rotate_left
  · (intro wz _; go_simp; try with_reducible rfl)
  try simp only [List.getElem_toArray, List.getElem_cons_succ, List.getElem_cons_zero, Act.put, List.setIfInBounds_toArray, List.set_cons_zero, List.set_cons_succ]
  refine wpAnyH_take (i := 7) (v := ?_) rfl (by kernel_rfl) (by kernel_rfl) (by kernel_rfl) (fun _ _ _ h => h) (Or.inl ⟨by rfl, ?_⟩) hHeld ?_
  rotate_left
  · (intro wz _; go_simp; try with_reducible rfl)
  try simp only [List.getElem_toArray, List.getElem_cons_succ, List.getElem_cons_zero, Act.put, List.setIfInBounds_toArray, List.set_cons_zero, List.set_cons_succ]
  refine wpAnyH_take (i := 8) (v := ?_) rfl (by kernel_rfl) (by kernel_rfl) (by kernel_rfl) (fun _ _ _ h => h) (Or.inl ⟨by rfl, ?_⟩) hHeld ?_
  rotate_left
  · (intro wz _; go_simp; try with_reducible rfl)
  try simp only [List.getElem_toArray, List.getElem_cons_succ, List.getElem_cons_zero, Act.put, List.setIfInBounds_toArray, List.set_cons_zero, List.set_cons_succ]
  refine wpAnyH_take (i := 9) (v := ?_) rfl (by kernel_rfl) (by kernel_rfl) (by kernel_rfl) (fun _ _ _ h => h) (Or.inl ⟨by rfl, ?_⟩) hHeld ?_
  rotate_left
  · (intro wz _; go_simp; try with_reducible rfl)
  try simp only [List.getElem_toArray, List.getElem_cons_succ, List.getElem_cons_zero, Act.put, List.setIfInBounds_toArray, List.set_cons_zero, List.set_cons_succ]
  refine wpAnyH_take (i := 10) (v := _) rfl (by kernel_rfl) (by kernel_rfl) (by kernel_rfl) (fun _ _ _ h => h) (yields_load1 rfl 3 _ rfl rfl hfK f1 Try.underlying3 rfl) hHeld ?_
  try simp only [List.getElem_toArray, List.getElem_cons_succ, List.getElem_cons_zero, Act.put, List.setIfInBounds_toArray, List.set_cons_zero, List.set_cons_succ]
  replace h := h.drew
  generalize w.drew = w1 at h hHeld ⊢
  clear w
  obtain ⟨w, rfl⟩ : ∃ q : World, q = w1 := ⟨_, rfl⟩
  refine wpAnyH_ready (rs := [3]) (by kernel_rfl) (by simp) ?_
  refine AllReadyH.cons rfl (fun K hK => ?_) AllReadyH.nil
  (go_simp; go_wp2_with (go_at_call 10; refine (ME.out _ h).mono ?_; clear h; rintro _ w ⟨rfl, h⟩))
  refine hK.out _ _ (h.le KL) (fun hHeld => ?_)
  clear hK K
  try simp only [Act.put, List.setIfInBounds_toArray, List.set_cons_zero, List.set_cons_succ]
  refine wpAnyH_ready (rs := [11]) (by kernel_rfl) (by simp) ?_
  refine AllReadyH.cons rfl (fun K hK => ?_) AllReadyH.nil
  (go_simp; go_wp2_with (go_at_call 66; refine (SC.out _).mono ?_; rintro _ w' ⟨rfl, rfl⟩))
  refine hK.out _ _ (h.le KL) (fun hHeld => ?_)
  clear hK K
  try simp only [Act.put, List.setIfInBounds_toArray, List.set_cons_zero, List.set_cons_succ]
  refine wpAnyH_ready (rs := [12]) (by kernel_rfl) (by simp) ?_
  refine AllReadyH.cons rfl (fun K hK => ?_) AllReadyH.nil
  (go_simp; go_wp2_with (go_at_call 63; refine (ND1.out _ h).mono ?_; clear h; rintro _ w ⟨rfl, h⟩))
  refine hK.out _ _ (h.le KL) (fun hHeld => ?_)
  clear hK K
  try simp only [Act.put, List.setIfInBounds_toArray, List.set_cons_zero, List.set_cons_succ]
  refine wpAnyH_ready (rs := [13]) (by kernel_rfl) (by simp) ?_
  refine AllReadyH.cons rfl (fun K hK => ?_) AllReadyH.nil
  (go_simp; go_wp2_with (go_at_call 64; refine (SE.out _ h).mono ?_; clear h; rintro _ w ⟨rfl, h⟩))
  refine hK.out _ _ (h.le KE) (fun hHeld => ?_)
  clear hK K
  try simp only [Act.put, List.setIfInBounds_toArray, List.set_cons_zero, List.set_cons_succ]
  refine wpAnyH_done (by kernel_rfl) ?_ _
  clear hHeld
  go_wp2_with (first
    | (with_reducible show wpList _ _ _ ({ dst := _, op := Op.load 3 _, type := _, pos := _, after := _, guard := _ } :: _) _ _; refine wpList_load1_has h rfl 3 _ rfl rfl hfb2 f1 Try.underlying3 rfl ?_)
    | (with_reducible show wpList _ _ _ ({ dst := _, op := Op.store 3 _ _, type := _, pos := _, after := _, guard := _ } :: _) _ _; refine wpList_store1_has h rfl 3 _ _ rfl rfl rfl hfb2 hsz rfl (by kernel_rfl) ?_; clear h; intro w h))
  go_end0
  refine ⟨rfl, _, _, ?_, HT.out⟩
  have h0 : Has σ (M2.upd b (.cells (fr0.setIfInBounds 1 (.int .i64 5)) 71)) w := h
  rw [R1.out] at h0
  exact h0
set_option maxHeartbeats 4000000 in
set_option maxRecDepth 20000 in
theorem give_5 {σ w : World} {K M : Mm} {lab : Nat → Nat} {p t q b lv : Nat} {s : MachS} {fs : List FrameS} {f : FrameS} (h : Has σ M w) (hT : AtTop K M lab p s t q b fs f) (hat : f.at_ = 5) {sl : Nat} (h0 : f.r 0 = (sl : Int)) (hsl : sl < 256) (hlv : levelOf s.c (t : Nat) = (lv : Nat)) (hlc : (lv : Int) < s.c 0) (hin : InK s.c 9 (sl : Nat) 1) (hb1 : s.mem.acc < 1000000000) (hb2 : s.mem.wr < 1000000000) :
    Calls Try.prog 32 #[.agg (runC p t q b)] w fun r w' => r = .returned (.tuple #[]) ∧ ∃ M' lab', Has σ M' w' ∧ AtTop K M' lab' p (MachS.top { s with mem := s.mem.store (atK s.c lv 9 (sl : Nat) 1) 0 } t fs (f.goto 6)) t q b fs (f.goto 6) := by
  have d0 : (runC p t q b)[0]? = some (.pointer (some ⟨p, 0, none⟩)) := rfl
  have d1 : (runC p t q b)[1]? = some (.int .i64 (t : Nat)) := rfl
  have d2 : (runC p t q b)[2]? = some (.pointer (some ⟨q, 0, none⟩)) := rfl
  have d3 : (runC p t q b)[3]? = some (.pointer (some ⟨b, 0, none⟩)) := rfl
  have dx : (runC p t q b).extract 0 (0 + 4) = runC p t q b := rfl
  have dz : (runC p t q b).size = 4 := rfl
  have f1 : f.row[1]? = some (.int .i64 5) := by rw [← hat]; rfl
  have f2 : f.row[2]? = some (.int .u64 (sl : Nat)) := by rw [← h0]; rfl
  have us : IntKind.i64.wrap ((sl : Nat) : Int) = ((sl : Nat) : Int) := IntWalk.i64_in _ (by omega)
  clear hat
  have SC := Lib.hid scrubbed_5
  have SPA := spotAt_of (σ := σ) hT.mach hlv hlc hin
  obtain ⟨a, ha⟩ : ∃ a, atK s.c lv 9 (sl : Nat) 1 = a := ⟨_, rfl⟩
  rw [ha] at SPA ⊢
  obtain ⟨v, hv⟩ : ∃ v : Int, v = 0 := ⟨_, rfl⟩
  rw [← hv]
  have ND := Lib.hid (fun (M' : Mm) (w : World) (h : Has σ M' w) (hle : M.le M') => runNode_eq (q := q) (b := b) h (SPA.le hle))
  clear h0 ha hlv hlc hin SPA
  go_enter Try.func32, Try.ntmps32
  go_upto_region 1 with (fail)
  obtain ⟨M1, hbx, hle, hb4, hn⟩ := h.box (.cells (runC p t q b) 87)
  generalize w.alloc _ = wx at hbx ⊢
  generalize w.heap.size = b4 at hb4 hn ⊢
  clear h
  try clear w
  have h := hbx
  clear hbx
  obtain ⟨w, rfl⟩ : ∃ x : World, x = wx := ⟨_, rfl⟩
  obtain ⟨lab1, hT1⟩ := hT.more1 hle hn hb4
  have hnK : K b4 = none := by
    cases e : K b4 with
    | none => rfl
    | some o => have := (hT.base _ _ e).1; rw [hn] at this; cases this
  have hKK : K.le (K.upd b4 (.cells (runC p t q b) 87)) := Mm.le_upd' hnK _
  have hbK : (K.upd b4 (.cells (runC p t q b) 87)) b4 = some (.cells (runC p t q b) 87) := Mm.upd_same _ _ _
  have hfb := hT1.obj
  have ND1 := Lib.hid (fun (w : World) (h : Has σ M1 w) => ND.out M1 w h hle)
  clear ND
  -- behind the entrance: the store of v at a, then the frame goes on at 6
  have ME := Lib.hid (fun (w : World) (h : Has σ M1 w) => mMem_eq h hT1.mach)
  have SE := Lib.hid (fun (w : World) (h : Has σ M1 w) => memStore_eq h hT1.mach.mem hb1 hb2 a v)
  have hne : b4 ≠ b := fun e => by
    subst e
    rw [hb4] at hfb
    simp only [Option.some.injEq, Obj.cells.injEq] at hfb
    exact absurd hfb.2.1 (by decide)
  have hT2 := hT1.store a v
  have KL := Mm.upd_le2 hT1.base.le hT1.obj
  have KE := Mm.upd_le2 hT2.base.le hT2.obj
  have hbK2 : ((K.upd b4 (.cells (runC p t q b) 87)).upd b (.cells f.row 71)) b4 = some (.cells (runC p t q b) 87) := (Mm.upd_ne hne).trans (Mm.upd_same _ _ _)
  have hfK : ((K.upd b4 (.cells (runC p t q b) 87)).upd b (.cells f.row 71)) b = some (.cells f.row 71) := Mm.upd_same _ _ _
  obtain ⟨hfb2, hT3⟩ := hT2.frame (f.goto 6)
  have HT := Lib.hid (hT3.less hKK)
  have hsz : 1 < f.row.size := show 1 < 18 by omega
  have R1 := Lib.hid (row_goto f 6)
  clear hT hT1 hT2 hT3 hb1 hb2 hn hle hnK hKK hne hbK
  generalize runC p t q b = rc at *
  generalize hr0 : f.row = fr0 at *
  generalize hr1 : (f.goto 6).row = fr1 at *
  clear hr0 hr1
  generalize (K.upd b4 _).upd b _ = K1 at KL KE hbK2 hfK
  generalize storeM M1 s.mp s.mem a v = M2 at *
  subst hv
  go_upto_region 18 with (first
    | (with_reducible show wpList _ _ _ ({ dst := _, op := Op.load 67 _, type := _, pos := _, after := _, guard := _ } :: _) _ _; refine wpList_load1_has h rfl 67 _ rfl rfl hb4 d3 Try.underlying67 rfl ?_)
    | (with_reducible show wpList _ _ _ ({ dst := _, op := Op.load 40 _, type := _, pos := _, after := _, guard := _ } :: _) _ _; refine wpList_load1_has h rfl 40 _ rfl rfl hfb f2 Try.underlying40 rfl ?_)
    | (with_reducible show wpList _ _ _ ({ dst := _, op := Op.load 3 _, type := _, pos := _, after := _, guard := _ } :: _) _ _; refine wpList_load1_has h rfl 3 _ rfl rfl hfb f1 Try.underlying3 rfl ?_))
  clear hfb hb4
  refine wp_region_held_drew (S := Has σ (K1)) (by kernel_rfl) (h.drew.le KL) (fun hHeld => ?_)
  refine wpAnyH_take (i := 0) (v := ?_) rfl (by kernel_rfl) (by kernel_rfl) (by kernel_rfl) (fun _ _ _ h => h) (Or.inl ⟨by rfl, ?_⟩) hHeld ?_
  rotate_left
  · (intro wz _; go_simp; try with_reducible rfl)
  try simp only [List.getElem_toArray, List.getElem_cons_succ, List.getElem_cons_zero, Act.put, List.setIfInBounds_toArray, List.set_cons_zero, List.set_cons_succ]
  refine wpAnyH_take (i := 1) (v := ?_) rfl (by kernel_rfl) (by kernel_rfl) (by kernel_rfl) (fun _ _ _ h => h) (Or.inl ⟨by rfl, ?_⟩) hHeld ?_
  rotate_left
  · (intro wz _; go_simp; try with_reducible rfl)
  try simp only [List.getElem_toArray, List.getElem_cons_succ, List.getElem_cons_zero, Act.put, List.setIfInBounds_toArray, List.set_cons_zero, List.set_cons_succ]
  refine wpAnyH_take (i := 2) (v := _) rfl (by kernel_rfl) (by kernel_rfl) (by kernel_rfl) (fun _ _ _ h => h) (yields_load1 rfl 26 _ rfl rfl hbK2 d0 Try.underlying26 rfl) hHeld ?_
  try simp only [List.getElem_toArray, List.getElem_cons_succ, List.getElem_cons_zero, Act.put, List.setIfInBounds_toArray, List.set_cons_zero, List.set_cons_succ]
  refine wpAnyH_take (i := 4) (v := ?_) rfl (by kernel_rfl) (by kernel_rfl) (by kernel_rfl) (fun _ _ _ h => h) (Or.inl ⟨by rfl, ?_⟩) hHeld ?_
  rotate_left
  · (intro wz _; go_simp; try with_reducible rfl)
  try simp only [List.getElem_toArray, List.getElem_cons_succ, List.getElem_cons_zero, Act.put, List.setIfInBounds_toArray, List.set_cons_zero, List.set_cons_succ]
  refine wpAnyH_take (i := 5) (v := _) rfl (by kernel_rfl) (by kernel_rfl) (by kernel_rfl) (fun _ _ _ h => h) (yields_agg rfl 84 _ rfl rfl hbK2 dx dz Try.underlying84 rfl (by kernel_rfl)) hHeld ?_
  try simp only [List.getElem_toArray, List.getElem_cons_succ, List.getElem_cons_zero, Act.put, List.setIfInBounds_toArray, List.set_cons_zero, List.set_cons_succ]
  refine wpAnyH_take (i := 6) (v := ?_) rfl (by kernel_rfl) (by kernel_rfl) (by kernel_rfl) (fun _ _ _ h => h) (Or.inl ⟨by rfl, ?_⟩) hHeld ?_
  rotate_left
  · (intro wz _; go_simp; try with_reducible rfl)
  try simp only [List.getElem_toArray, List.getElem_cons_succ, List.getElem_cons_zero, Act.put, List.setIfInBounds_toArray, List.set_cons_zero, List.set_cons_succ]
  refine wpAnyH_take (i := 7) (v := ?_) rfl (by kernel_rfl) (by kernel_rfl) (by kernel_rfl) (fun _ _ _ h => h) (Or.inl ⟨by rfl, ?_⟩) hHeld ?_
  rotate_left
  · (intro wz _; go_simp; try with_reducible rfl)
  try simp only [List.getElem_toArray, List.getElem_cons_succ, List.getElem_cons_zero, Act.put, List.setIfInBounds_toArray, List.set_cons_zero, List.set_cons_succ]
  refine wpAnyH_take (i := 8) (v := ?_) rfl (by kernel_rfl) (by kernel_rfl) (by kernel_rfl) (fun _ _ _ h => h) (Or.inl ⟨by rfl, ?_⟩) hHeld ?_
  rotate_left
  · (intro wz _; go_simp; try with_reducible rfl)
  try simp only [List.getElem_toArray, List.getElem_cons_succ, List.getElem_cons_zero, Act.put, List.setIfInBounds_toArray, List.set_cons_zero, List.set_cons_succ]
  refine wpAnyH_take (i := 9) (v := ?_) rfl (by kernel_rfl) (by kernel_rfl) (by kernel_rfl) (fun _ _ _ h => h) (Or.inl ⟨by rfl, ?_⟩) hHeld ?_
  rotate_left
  · (intro wz _; go_simp; try with_reducible rfl)
  try simp only [List.getElem_toArray, List.getElem_cons_succ, List.getElem_cons_zero, Act.put, List.setIfInBounds_toArray, List.set_cons_zero, List.set_cons_succ]
  refine wpAnyH_take (i := 10) (v := _) rfl (by kernel_rfl) (by kernel_rfl) (by kernel_rfl) (fun _ _ _ h => h) (yields_load1 rfl 3 _ rfl rfl hfK f1 Try.underlying3 rfl) hHeld ?_
  try simp only [List.getElem_toArray, List.getElem_cons_succ, List.getElem_cons_zero, Act.put, List.setIfInBounds_toArray, List.set_cons_zero, List.set_cons_succ]
  replace h := h.drew
  generalize w.drew = w1 at h hHeld ⊢
  clear w
  obtain ⟨w, rfl⟩ : ∃ q : World, q = w1 := ⟨_, rfl⟩
  refine wpAnyH_ready (rs := [3]) (by kernel_rfl) (by simp) ?_
  refine AllReadyH.cons rfl (fun K hK => ?_) AllReadyH.nil
  (go_simp; go_wp2_with (go_at_call 10; refine (ME.out _ h).mono ?_; clear h; rintro _ w ⟨rfl, h⟩))
  refine hK.out _ _ (h.le KL) (fun hHeld => ?_)
  clear hK K
  try simp only [Act.put, List.setIfInBounds_toArray, List.set_cons_zero, List.set_cons_succ]
  refine wpAnyH_ready (rs := [11]) (by kernel_rfl) (by simp) ?_
  refine AllReadyH.cons rfl (fun K hK => ?_) AllReadyH.nil
  (go_simp; go_wp2_with (go_at_call 66; refine (SC.out _).mono ?_; rintro _ w' ⟨rfl, rfl⟩))
  refine hK.out _ _ (h.le KL) (fun hHeld => ?_)
  clear hK K
  try simp only [Act.put, List.setIfInBounds_toArray, List.set_cons_zero, List.set_cons_succ]
  refine wpAnyH_ready (rs := [12]) (by kernel_rfl) (by simp) ?_
  refine AllReadyH.cons rfl (fun K hK => ?_) AllReadyH.nil
  (go_simp; go_wp2_with (go_at_call 63; refine (ND1.out _ h).mono ?_; clear h; rintro _ w ⟨rfl, h⟩))
  refine hK.out _ _ (h.le KL) (fun hHeld => ?_)
  clear hK K
  try simp only [Act.put, List.setIfInBounds_toArray, List.set_cons_zero, List.set_cons_succ]
  refine wpAnyH_ready (rs := [13]) (by kernel_rfl) (by simp) ?_
  refine AllReadyH.cons rfl (fun K hK => ?_) AllReadyH.nil
  (go_simp; go_wp2_with (go_at_call 64; refine (SE.out _ h).mono ?_; clear h; rintro _ w ⟨rfl, h⟩))
  refine hK.out _ _ (h.le KE) (fun hHeld => ?_)
  clear hK K
  try simp only [Act.put, List.setIfInBounds_toArray, List.set_cons_zero, List.set_cons_succ]
  refine wpAnyH_done (by kernel_rfl) ?_ _
  clear hHeld
  go_wp2_with (first
    | (with_reducible show wpList _ _ _ ({ dst := _, op := Op.load 3 _, type := _, pos := _, after := _, guard := _ } :: _) _ _; refine wpList_load1_has h rfl 3 _ rfl rfl hfb2 f1 Try.underlying3 rfl ?_)
    | (with_reducible show wpList _ _ _ ({ dst := _, op := Op.store 3 _ _, type := _, pos := _, after := _, guard := _ } :: _) _ _; refine wpList_store1_has h rfl 3 _ _ rfl rfl rfl hfb2 hsz rfl (by kernel_rfl) ?_; clear h; intro w h))
  go_end0
  refine ⟨rfl, _, _, ?_, HT.out⟩
  have h0 : Has σ (M2.upd b (.cells (fr0.setIfInBounds 1 (.int .i64 6)) 71)) w := h
  rw [R1.out] at h0
  exact h0
end
section
open Go.RowKit
set_option linter.unusedVariables false
set_option linter.unusedSimpArgs false
set_option linter.unnecessarySimpa false
theorem back0_eq {σ w : World} {K M : Mm} {lab : Nat → Nat} {p t q b : Nat} {s : MachS} {fs : List FrameS} {f : FrameS} (h : Has σ M w) (hT : AtTop K M lab p s t q b fs f) (hfs : fs.length < 1000000) :
    Calls Try.prog 58 #[.pointer (some ⟨q, 0, none⟩), .slice none 0 0] w fun r w' => r = .returned (.tuple #[]) ∧ ∃ M' lab', Has σ M' w' ∧ Mach M' lab' p (s.backed t []) ∧ Base K M' lab' := by
  obtain ⟨fv, hv, fbs, hTh⟩ := hT.thr
  have hlen : fbs.length = fs.length := by
    have h1 := hTh.flen
    rw [hT.fr] at h1
    simpa using h1
  refine (thrBack_eq h hTh (rv := .slice none 0 0) (us := []) (Rd.nil _ _ _) (by simp) (by omega)).mono fun r w' ⟨e, M', h', hK, hI⟩ => ?_
  obtain ⟨h4, h5⟩ := hT.mach.thrTo hT.base hT.tp hK hI
  exact ⟨e, M', lab, h', h4, h5⟩
set_option maxHeartbeats 4000000 in
set_option maxRecDepth 20000 in
theorem give_9no {σ w : World} {K M : Mm} {lab : Nat → Nat} {p t q b lv : Nat} {s : MachS} {fs : List FrameS} {f : FrameS} (h : Has σ M w) (hT : AtTop K M lab p s t q b fs f) (hat : f.at_ = 9) {sl x : Nat} (h0 : f.r 0 = (sl : Int)) (hsl : sl < 256) (hx : f.r 1 = (x : Int)) (hx64 : x < 18446744073709551616) (hlv : levelOf s.c (t : Nat) = (lv : Nat)) (hlc : (lv : Int) < s.c 0) (hb1 : s.mem.acc < 1000000000) (hb2 : s.mem.wr < 1000000000) (hsw : s.mem.swaps (atK s.c lv 0 0 0) x = false) :
    Calls Try.prog 32 #[.agg (runC p t q b)] w fun r w' => r = .returned (.tuple #[]) ∧ ∃ M' lab', Has σ M' w' ∧ AtTop K M' lab' p { s.top t fs (f.goto 7) with mem := s.mem.cas (atK s.c lv 0 0 0) x (mkTop sl (cutN x 8 56 + 1) : Nat) } t q b fs (f.goto 7) := by
  have d0 : (runC p t q b)[0]? = some (.pointer (some ⟨p, 0, none⟩)) := rfl
  have d1 : (runC p t q b)[1]? = some (.int .i64 (t : Nat)) := rfl
  have d2 : (runC p t q b)[2]? = some (.pointer (some ⟨q, 0, none⟩)) := rfl
  have d3 : (runC p t q b)[3]? = some (.pointer (some ⟨b, 0, none⟩)) := rfl
  have dx : (runC p t q b).extract 0 (0 + 4) = runC p t q b := rfl
  have dz : (runC p t q b).size = 4 := rfl
  have f1 : f.row[1]? = some (.int .i64 9) := by rw [← hat]; rfl
  have f2 : f.row[2]? = some (.int .u64 (sl : Nat)) := by rw [← h0]; rfl
  have us : IntKind.i64.wrap ((sl : Nat) : Int) = ((sl : Nat) : Int) := IntWalk.i64_in _ (by omega)
  clear hat
  go_enter Try.func32, Try.ntmps32
  go_upto_region 1 with (fail)
  obtain ⟨M1, hbx, hle, hb4, hn⟩ := h.box (.cells (runC p t q b) 87)
  generalize w.alloc _ = wx at hbx ⊢
  generalize w.heap.size = b4 at hb4 hn ⊢
  clear h
  try clear w
  have h := hbx
  clear hbx
  obtain ⟨w, rfl⟩ : ∃ x : World, x = wx := ⟨_, rfl⟩
  obtain ⟨lab1, hT1⟩ := hT.more1 hle hn hb4
  have hnK : K b4 = none := by
    cases e : K b4 with
    | none => rfl
    | some o => have := (hT.base _ _ e).1; rw [hn] at this; cases this
  have hKK : K.le (K.upd b4 (.cells (runC p t q b) 87)) := Mm.le_upd' hnK _
  have hbK : (K.upd b4 (.cells (runC p t q b) 87)) b4 = some (.cells (runC p t q b) 87) := Mm.upd_same _ _ _
  have hfb := hT1.obj
  have hsz : 1 < f.row.size := show 1 < 18 by omega
  have R0 := Lib.hid (row_goto f 7)
  obtain ⟨_, hT2⟩ := hT1.frame (f.goto 7)
  have SW := Lib.hid (fun (w : World) (h : Has σ (M1.upd b (.cells (f.goto 7).row 71)) w) => runSwing_eq h hT2 (spotAt_of hT2.mach hlv hlc (inK_free _)) hb1 hb2 (x := x) (slot := sl) hx hx64 (by omega))
  rw [show (s.top t fs (f.goto 7)).mem = s.mem from rfl, show (s.top t fs (f.goto 7)).c = s.c from rfl, hsw] at SW
  have hbK2 := hT2.base.le _ _ hbK
  have HK := Lib.hid hKK
  have HBK := Lib.hid hbK
  clear hT hT1 hT2 hb1 hb2 hn hle hnK hKK hx hx64 hlv hlc hsw hbK h0
  generalize f.row = fr0 at *
  generalize hr1 : (f.goto 7).row = fr1 at *
  generalize runC p t q b = rc at *
  clear hr1
  go_upto_region 5 with (first
    | (with_reducible show wpList _ _ _ ({ dst := _, op := Op.load 67 _, type := _, pos := _, after := _, guard := _ } :: _) _ _; refine wpList_load1_has h rfl 67 _ rfl rfl hb4 d3 Try.underlying67 rfl ?_)
    | (with_reducible show wpList _ _ _ ({ dst := _, op := Op.load 40 _, type := _, pos := _, after := _, guard := _ } :: _) _ _; refine wpList_load1_has h rfl 40 _ rfl rfl hfb f2 Try.underlying40 rfl ?_)
    | (with_reducible show wpList _ _ _ ({ dst := _, op := Op.load 3 _, type := _, pos := _, after := _, guard := _ } :: _) _ _; refine wpList_load1_has h rfl 3 _ rfl rfl hfb f1 Try.underlying3 rfl ?_)
    | (with_reducible show wpList _ _ _ ({ dst := _, op := Op.store 3 _ _, type := _, pos := _, after := _, guard := _ } :: _) _ _; refine wpList_store1_has h rfl 3 _ _ rfl rfl rfl hfb hsz rfl (by kernel_rfl) ?_; clear h; intro w h))
  have h9 : Has σ (M1.upd b (.cells (fr0.setIfInBounds 1 (.int .i64 7)) 71)) w := h
  rw [R0.out] at h9
  clear h hfb hsz R0 hb4
  have h := h9
  clear h9
  generalize M1.upd b _ = M2 at h hbK2 SW
  go_wp2_with (first
    | ((with_reducible show wpList _ _ _ ({ dst := _, op := Op.load 84 _, type := _, pos := _, after := _, guard := _ } :: _) _ _); refine wpList_agg_has h rfl 84 _ rfl rfl hbK2 dx dz Try.underlying84 rfl (by kernel_rfl) ?_; try simp only [Act.put, List.setIfInBounds_toArray, List.set_cons_zero, List.set_cons_succ])
    | (go_at_call 61; refine (SW.out _ h).mono ?_; clear h; rintro _ w ⟨rfl, M3, lab3, h, hT3⟩))
  go_end0
  exact ⟨rfl, M3, lab3, h, hT3.less HK.out⟩
set_option maxHeartbeats 4000000 in
set_option maxRecDepth 20000 in
theorem give_9yes {σ w : World} {K M : Mm} {lab : Nat → Nat} {p t q b lv : Nat} {s : MachS} {fs : List FrameS} {f : FrameS} (h : Has σ M w) (hT : AtTop K M lab p s t q b fs f) (hat : f.at_ = 9) {sl x : Nat} (h0 : f.r 0 = (sl : Int)) (hsl : sl < 256) (hx : f.r 1 = (x : Int)) (hx64 : x < 18446744073709551616) (hlv : levelOf s.c (t : Nat) = (lv : Nat)) (hlc : (lv : Int) < s.c 0) (hb1 : s.mem.acc < 1000000000) (hb2 : s.mem.wr < 1000000000) (hsw : s.mem.swaps (atK s.c lv 0 0 0) x = true) (hfs : fs.length < 1000000) :
    Calls Try.prog 32 #[.agg (runC p t q b)] w fun r w' => r = .returned (.tuple #[]) ∧ ∃ M' lab', Has σ M' w' ∧ Mach M' lab' p (MachS.backed { s.top t fs (f.goto 7) with mem := s.mem.cas (atK s.c lv 0 0 0) x (mkTop sl (cutN x 8 56 + 1) : Nat) } t []) ∧ Base K M' lab' := by
  have d0 : (runC p t q b)[0]? = some (.pointer (some ⟨p, 0, none⟩)) := rfl
  have d1 : (runC p t q b)[1]? = some (.int .i64 (t : Nat)) := rfl
  have d2 : (runC p t q b)[2]? = some (.pointer (some ⟨q, 0, none⟩)) := rfl
  have d3 : (runC p t q b)[3]? = some (.pointer (some ⟨b, 0, none⟩)) := rfl
  have dx : (runC p t q b).extract 0 (0 + 4) = runC p t q b := rfl
  have dz : (runC p t q b).size = 4 := rfl
  have f1 : f.row[1]? = some (.int .i64 9) := by rw [← hat]; rfl
  have f2 : f.row[2]? = some (.int .u64 (sl : Nat)) := by rw [← h0]; rfl
  have us : IntKind.i64.wrap ((sl : Nat) : Int) = ((sl : Nat) : Int) := IntWalk.i64_in _ (by omega)
  clear hat
  have HF := Lib.hid hfs
  clear hfs
  go_enter Try.func32, Try.ntmps32
  go_upto_region 1 with (fail)
  obtain ⟨M1, hbx, hle, hb4, hn⟩ := h.box (.cells (runC p t q b) 87)
  generalize w.alloc _ = wx at hbx ⊢
  generalize w.heap.size = b4 at hb4 hn ⊢
  clear h
  try clear w
  have h := hbx
  clear hbx
  obtain ⟨w, rfl⟩ : ∃ x : World, x = wx := ⟨_, rfl⟩
  obtain ⟨lab1, hT1⟩ := hT.more1 hle hn hb4
  have hnK : K b4 = none := by
    cases e : K b4 with
    | none => rfl
    | some o => have := (hT.base _ _ e).1; rw [hn] at this; cases this
  have hKK : K.le (K.upd b4 (.cells (runC p t q b) 87)) := Mm.le_upd' hnK _
  have hbK : (K.upd b4 (.cells (runC p t q b) 87)) b4 = some (.cells (runC p t q b) 87) := Mm.upd_same _ _ _
  have hfb := hT1.obj
  have hsz : 1 < f.row.size := show 1 < 18 by omega
  have R0 := Lib.hid (row_goto f 7)
  obtain ⟨_, hT2⟩ := hT1.frame (f.goto 7)
  have SW := Lib.hid (fun (w : World) (h : Has σ (M1.upd b (.cells (f.goto 7).row 71)) w) => runSwing_eq h hT2 (spotAt_of hT2.mach hlv hlc (inK_free _)) hb1 hb2 (x := x) (slot := sl) hx hx64 (by omega))
  rw [show (s.top t fs (f.goto 7)).mem = s.mem from rfl, show (s.top t fs (f.goto 7)).c = s.c from rfl, hsw] at SW
  have hbK2 := hT2.base.le _ _ hbK
  have HK := Lib.hid hKK
  have HBK := Lib.hid hbK
  clear hT hT1 hT2 hb1 hb2 hn hle hnK hKK hx hx64 hlv hlc hsw hbK h0
  generalize f.row = fr0 at *
  generalize hr1 : (f.goto 7).row = fr1 at *
  generalize runC p t q b = rc at *
  clear hr1
  go_upto_region 5 with (first
    | (with_reducible show wpList _ _ _ ({ dst := _, op := Op.load 67 _, type := _, pos := _, after := _, guard := _ } :: _) _ _; refine wpList_load1_has h rfl 67 _ rfl rfl hb4 d3 Try.underlying67 rfl ?_)
    | (with_reducible show wpList _ _ _ ({ dst := _, op := Op.load 40 _, type := _, pos := _, after := _, guard := _ } :: _) _ _; refine wpList_load1_has h rfl 40 _ rfl rfl hfb f2 Try.underlying40 rfl ?_)
    | (with_reducible show wpList _ _ _ ({ dst := _, op := Op.load 3 _, type := _, pos := _, after := _, guard := _ } :: _) _ _; refine wpList_load1_has h rfl 3 _ rfl rfl hfb f1 Try.underlying3 rfl ?_)
    | (with_reducible show wpList _ _ _ ({ dst := _, op := Op.store 3 _ _, type := _, pos := _, after := _, guard := _ } :: _) _ _; refine wpList_store1_has h rfl 3 _ _ rfl rfl rfl hfb hsz rfl (by kernel_rfl) ?_; clear h; intro w h))
  have h9 : Has σ (M1.upd b (.cells (fr0.setIfInBounds 1 (.int .i64 7)) 71)) w := h
  rw [R0.out] at h9
  clear h hfb hsz R0 hb4
  have h := h9
  clear h9
  generalize M1.upd b _ = M2 at h hbK2 SW
  go_wp2_with (first | ((with_reducible show wpList _ _ _ ({ dst := _, op := Op.load 84 _, type := _, pos := _, after := _, guard := _ } :: _) _ _); refine wpList_agg_has h rfl 84 _ rfl rfl hbK2 dx dz Try.underlying84 rfl (by kernel_rfl) ?_; try simp only [Act.put, List.setIfInBounds_toArray, List.set_cons_zero, List.set_cons_succ]))
  go_at_call 61
  refine (SW.out _ h).mono ?_
  clear h
  rintro _ w ⟨rfl, M3, lab3, h, hT3⟩
  have hb4' := hT3.base.le _ _ HBK.out
  have BK := Lib.hid (fun (w : World) (h : Has σ M3 w) => back0_eq h hT3 HF.out)
  clear hT3 SW hbK2
  go_wp2_with (first
    | (with_reducible show wpList _ _ _ ({ dst := _, op := Op.load 37 _, type := _, pos := _, after := _, guard := _ } :: _) _ _; refine wpList_load1_has h rfl 37 _ rfl rfl hb4' d2 Try.underlying37 rfl ?_)
    | (go_at_call 58; refine (BK.out _ h).mono ?_; clear h; rintro _ w ⟨rfl, M4, lab4, h, hM4, hB4⟩))
  go_end0
  exact ⟨rfl, M4, lab4, h, hM4, fun c o hc => hB4 c o (HK.out _ _ hc)⟩
end
section
open Go.RowKit
set_option linter.unusedVariables false
set_option linter.unusedSimpArgs false
set_option linter.unnecessarySimpa false
section
variable {σ w : World} {K M : Mm} {lab : Nat → Nat} {p t q : Nat} {s : MachS}
set_option maxHeartbeats 2000000 in
set_option maxRecDepth 20000 in
/-- Do of Give: what a bit of it does. -/
theorem do_give {b : Nat} {fs : List FrameS} {f : FrameS} (h : Has σ M w) (hT : AtTop K M lab p s t q b fs f) (hfn : f.fn = 2) (hfs : fs.length < 1000000) {s' : MachS}
    (hstep : ∀ (K1 M1 : Mm) (lab1 : Nat → Nat) (w1 : World), Has σ M1 w1 → AtTop K1 M1 lab1 p s t q b fs f → Calls Try.prog 32 #[.agg (runC p t q b)] w1 fun r w' => r = .returned (.tuple #[]) ∧ ∃ M' lab', Has σ M' w' ∧ Mach M' lab' p s' ∧ Base K1 M' lab') :
    Calls Try.prog 6 #[.pointer (some ⟨p, 0, none⟩), .int .i64 (t : Nat)] w fun r w' => r = .returned (.tuple #[]) ∧ ∃ M' lab', Has σ M' w' ∧ Base K M' lab' ∧ Mach M' lab' p s' := by
  obtain ⟨fv, hv, fbs, hTh⟩ := hT.thr
  have hlen : fbs.length = fs.length := by
    have h1 := hTh.flen
    rw [hT.fr] at h1
    simpa using h1
  have TH := Lib.hid (fun (w : World) (h : Has σ M w) => mThread_yes h hT.mach hT.tp)
  have TP := Lib.hid (fun (w : World) (h : Has σ M w) => thrTop_eq h hTh (by omega))
  have hfb := hT.obj
  have f0 : f.row[0]? = some (.int .i64 f.fn) := rfl
  have HT := Lib.hid hT
  have HS := Lib.hid hstep
  rw [hfn] at f0
  clear hT hTh hlen hfs hfn hstep
  generalize f.row = fr0 at *
  go_enter Try.func6, Try.ntmps6
  go_upto_region 3 with (first
    | (go_at_call 12; refine (TH.out _ h).mono ?_; clear h; rintro _ w ⟨rfl, h⟩)
    | (go_at_call 24; refine (TP.out _ h).mono ?_; clear h; rintro _ w ⟨rfl, h⟩)
    | ((with_reducible show wpList _ _ _ ({ dst := _, op := Op.alloc 84, type := _, pos := _, after := _, guard := _ } :: _) _ _); refine wpList_alloc_has h rfl 84 rfl _ zrun ?_; clear h; intro bx w h hnx; try simp only [Act.put, List.setIfInBounds_toArray, List.set_cons_zero, List.set_cons_succ])
    | ((with_reducible show wpList _ _ _ ({ dst := _, op := Op.store 84 _ _, type := _, pos := _, after := _, guard := _ } :: _) _ _); refine wpList_storeAll_has (cells := runC p t q b) h rfl 84 _ _ rfl rfl rfl (Mm.upd_same _ _ _) rfl rfl rfl (by kernel_rfl) rfl ?_; clear h; intro w h))
  rw [Mm.upd_upd] at h
  have hfb1 := Mm.upd_of (o := .cells (runC p t q b) 84) hnx hfb
  have hle := Mm.le_upd' hnx (.cells (runC p t q b) 84)
  have hbx := Mm.upd_same M bx (.cells (runC p t q b) 84)
  generalize M.upd bx _ = M1 at h hfb1 hle hbx
  obtain ⟨lab1, hT1⟩ := HT.out.more1 hle hnx hbx
  have hnK : K bx = none := by
    cases e : K bx with
    | none => rfl
    | some o => have := (HT.out.base _ _ e).1; rw [hnx] at this; cases this
  have HKK := Lib.hid (Mm.le_upd' hnK (.cells (runC p t q b) 84))
  have ST := Lib.hid (fun (w : World) (h : Has σ M1 w) => HS.out _ M1 lab1 w h hT1)
  clear hT1 hnK hnx hle TH TP
  unfold runC at ST hbx
  have dx : (#[.pointer (some ⟨p, 0, none⟩), .int .i64 (t : Nat), .pointer (some ⟨q, 0, none⟩), .pointer (some ⟨b, 0, none⟩)] : Array Value).extract 0 (0 + 4) = #[.pointer (some ⟨p, 0, none⟩), .int .i64 (t : Nat), .pointer (some ⟨q, 0, none⟩), .pointer (some ⟨b, 0, none⟩)] := rfl
  go_wp2_with (first
    | (with_reducible show wpList _ _ _ ({ dst := _, op := Op.load 3 _, type := _, pos := _, after := _, guard := _ } :: _) _ _; refine wpList_load1_has h rfl 3 _ rfl rfl hfb1 f0 Try.underlying3 rfl ?_)
    | ((with_reducible show wpList _ _ _ ({ dst := _, op := Op.load 84 _, type := _, pos := _, after := _, guard := _ } :: _) _ _); refine wpList_agg_has h rfl 84 _ rfl rfl hbx dx rfl Try.underlying84 rfl (by kernel_rfl) ?_; try simp only [Act.put, List.setIfInBounds_toArray, List.set_cons_zero, List.set_cons_succ])
    | (go_at_call 32; refine (ST.out _ h).mono ?_; clear h; rintro _ w ⟨rfl, M2, lab2, h, hM2, hB2⟩))
  go_end0
  exact ⟨rfl, M2, lab2, h, fun c o hc => hB2 c o (HKK.out _ _ hc), hM2⟩
end
theorem step_give {σ w : World} {K M : Mm} {lab : Nat → Nat} {p t q lv : Nat} {s : MachS} {fs : List FrameS} {f : FrameS} (h : Has σ M w) (hM : Mach M lab p s) (hB : Base K M lab) (hq : s.tp[t]? = some q) (hf : (s.thr t).frames = fs ++ [f]) (hfn : f.fn = 2) (hrun : ((s.thr t).st || (s.thr t).ki) = false) (hlv : levelOf s.c t = (lv : Nat))
    (hb1 : s.mem.acc < 1000000000) (hb2 : s.steps < 1000000) (hb3 : ∀ k, s.clk k < 1000000000) (hfs : fs.length < 1000000) {s2 : MachS} (e1 : s2.tp = s.tp) (e2 : s2.steps = s.steps) (e3 : (s2.thr t).frames.length ≤ fs.length + 1)
    (hstep : ∀ (b : Nat) (K1 M1 : Mm) (lab1 : Nat → Nat) (w1 : World), Has σ M1 w1 → AtTop K1 M1 lab1 p (s.tick lv) t q b fs f → Calls Try.prog 32 #[.agg (runC p t q b)] w1 fun r w' => r = .returned (.tuple #[]) ∧ ∃ M' lab', Has σ M' w' ∧ Mach M' lab' p s2 ∧ Base K1 M' lab') :
    Calls Try.prog 26 #[.pointer (some ⟨p, 0, none⟩), .int .i64 (t : Nat), .func (.func 6) #[] #[]] w fun r w' => ∃ M' lab' b, r = .returned (.bool b) ∧ Has σ M' w' ∧ Mach M' lab' p (s2.after s lv) ∧ Base K M' lab' := by
  have STP := step_eq (R := fun x => x = s2) (F := 6) (caps := #[]) h hM hB hq (by rw [hf]; simp) hrun hlv hb1 (by omega) hb3 (by rw [hf]; simp; omega) (by kernel_rfl)
    (fun M1 lab1 w1 h1 hM1 hB1 => by
      obtain ⟨b, hT⟩ := AtTop.of (f := f) (fs := fs) hM1 hB1 hq hf
      refine (do_give h1 hT hfn hfs (s' := s2) (fun K1 M2 lab2 w2 h2 hT2 => hstep b K1 M2 lab2 w2 h2 hT2)).mono fun r w' ⟨e, M', lab', h', hB', hM'⟩ => ⟨e, M', lab', s2, h', hB', hM', rfl⟩)
    (fun x hx => by subst hx; exact ⟨e1, by rw [e2]; omega, by omega⟩)
  refine STP.mono fun r w' hr => ?_
  obtain ⟨M', lab', x, rfl, hr, h', hB', hM'⟩ := hr
  exact ⟨M', lab', _, hr, h', hM', hB'⟩
end
section
open Go.RowKit
set_option linter.unusedVariables false
set_option linter.unusedSimpArgs false
set_option linter.unnecessarySimpa false
/-- Behind the idle bit: the head is stored, the slot is given back. -/
def MachS.idled (s : MachS) (lv sl g : Nat) (gv : Value) : MachS := MachS.gaveS { s with mem := s.mem.store (atK s.c lv 9 (sl : Nat) 0) (mkHead g 0 : Nat) } lv (sl : Nat) gv
section
variable {σ w : World} {K M : Mm} {lab : Nat → Nat} {p t q b lv : Nat} {s : MachS} {fs : List FrameS} {f : FrameS}
set_option maxHeartbeats 4000000 in
set_option maxRecDepth 20000 in
/-- It isn't worn: Give goes on. -/
theorem idle_on (h : Has σ M w) (hT : AtTop K M lab p s t q b fs f) {sl g : Nat} (h0 : f.r 0 = (sl : Int)) (hsl : sl < 256) (hg : f.r 2 = (g : Int)) (hg32 : g < 4294967296) (hlv : levelOf s.c (t : Nat) = (lv : Nat)) (hlc : (lv : Int) < s.c 0) (hin : InK s.c 9 (sl : Nat) 0) (hb1 : s.mem.acc < 1000000000) (hb2 : s.mem.wr < 1000000000) (hst : StampE s.ward.gens s.ward.gclk) (hgg : 0 ≤ valE lv (sl : Nat) s.ward.gens ∧ valE lv (sl : Nat) s.ward.gens < 1000000000) (hsp : s.ward.slips < 1000000000) (hgn : s.given.length < 1000000) (hhas : s.ward.has lv (sl : Nat) = true) (hfs : fs.length < 1000000) (hgo : (g : Int) < s.c 12) :
    Calls Try.prog 67 #[.agg (runC p t q b)] w fun r w' => r = .returned (.tuple #[]) ∧ ∃ M' lab' gv, Has σ M' w' ∧ AtTop K M' lab' p ((s.idled lv sl g gv).top t fs (f.goto 7)) t q b fs (f.goto 7) := by
  have hw7 : decide (s.c 12 ≤ (g : Int)) = false := decide_eq_false (by omega)
  clear hgo
  have d0 : (runC p t q b)[0]? = some (.pointer (some ⟨p, 0, none⟩)) := rfl
  have d1 : (runC p t q b)[1]? = some (.int .i64 (t : Nat)) := rfl
  have d2 : (runC p t q b)[2]? = some (.pointer (some ⟨q, 0, none⟩)) := rfl
  have d3 : (runC p t q b)[3]? = some (.pointer (some ⟨b, 0, none⟩)) := rfl
  have dx : (runC p t q b).extract 0 (0 + 4) = runC p t q b := rfl
  have dz : (runC p t q b).size = 4 := rfl
  have f2 : f.row[2]? = some (.int .u64 (sl : Nat)) := by rw [← h0]; rfl
  have f4 : f.row[4]? = some (.int .u64 (g : Nat)) := by rw [← hg]; rfl
  have g4 : (f.goto 7).row[4]? = some (.int .u64 (g : Nat)) := by rw [← hg]; rfl
  have us : IntKind.i64.wrap ((sl : Nat) : Int) = ((sl : Nat) : Int) := IntWalk.i64_in _ (by omega)
  have ug : IntKind.i64.wrap ((g : Nat) : Int) = ((g : Nat) : Int) := IntWalk.i64_in _ (by omega)
  have HH : Hid (∀ w, Calls Try.prog 65 #[.int .i64 (g : Nat), .int .i64 0] w fun r w' => r = .returned (.int .u64 (mkHead g 0 : Nat)) ∧ w = w') := Lib.hid fun w => handleHead_any g 0 (by omega) (by omega) w
  have SPA := spotAt_of (σ := σ) hT.mach hlv hlc hin
  have hfd : ∀ w : World, (Instr.field 24 (.agg #[.int .i64 (s.c 0), .int .i64 (s.c 1), .int .i64 (s.c 2), .int .i64 (s.c 3), .int .i64 (s.c 4), .int .i64 (s.c 5), .int .i64 (s.c 6), .int .i64 (s.c 7), .int .i64 (s.c 8), .int .i64 (s.c 9), .int .i64 (s.c 10), .int .i64 (s.c 11), .int .i64 (s.c 12), .int .i64 (s.c 13)]) 5).run Try.prog w = .ok (.int .i64 (s.c 12)) w := fun w => by kernel_rfl
  have CFQ := Lib.hid (fun (M' : Mm) (w : World) (h : Has σ M' w) (p' : Nat) (hp : M' p' = some (planRow s.c)) => conf_has h s.c hp)
  rw [ints14_lit] at CFQ
  obtain ⟨a, ha⟩ : ∃ a, atK s.c lv 9 (sl : Nat) 0 = a := ⟨_, rfl⟩
  unfold MachS.idled
  rw [ha] at SPA ⊢
  obtain ⟨v, hv⟩ : ∃ v : Int, ((mkHead g 0 : Nat) : Int) = v := ⟨_, rfl⟩
  rw [hv] at HH ⊢
  have ND := Lib.hid (fun (M' : Mm) (w : World) (h : Has σ M' w) (hle : M.le M') => runNode_eq (q := q) (b := b) h (SPA.le hle))
  have DRQ := Lib.hid (fun (K' M' : Mm) (w : World) (lab' : Nat → Nat) (h : Has σ M' w) (hT' : AtTop K' M' lab' p { s with mem := s.mem.store a v } t q b fs f) => mDrop_kp h hT'.mach hT'.base (t : Nat) (sl : Nat) (lv := ((lv : Nat) : Int)) hlv hst hgg hsp hgn hhas)
  have HFS := Lib.hid hfs
  clear h0 ha hv hin SPA hg hlv hlc hst hgg hsp hgn hhas hfs
  go_enter Try.func67, Try.ntmps67
  go_upto_region 1 with (fail)
  obtain ⟨M1, hbx, hle, hb4, hn⟩ := h.box (.cells (runC p t q b) 87)
  generalize w.alloc _ = wx at hbx ⊢
  generalize w.heap.size = b4 at hb4 hn ⊢
  clear h
  try clear w
  have h := hbx
  clear hbx
  obtain ⟨w, rfl⟩ : ∃ x : World, x = wx := ⟨_, rfl⟩
  obtain ⟨lab1, hT1⟩ := hT.more1 hle hn hb4
  have hnK : K b4 = none := by
    cases e : K b4 with
    | none => rfl
    | some o => have := (hT.base _ _ e).1; rw [hn] at this; cases this
  have hKK : K.le (K.upd b4 (.cells (runC p t q b) 87)) := Mm.le_upd' hnK _
  have hbK : (K.upd b4 (.cells (runC p t q b) 87)) b4 = some (.cells (runC p t q b) 87) := Mm.upd_same _ _ _
  have hfb := hT1.obj
  have ND1 := Lib.hid (fun (w : World) (h : Has σ M1 w) => ND.out M1 w h hle)
  have ME := Lib.hid (fun (w : World) (h : Has σ M1 w) => mMem_eq h hT1.mach)
  have SE := Lib.hid (fun (w : World) (h : Has σ M1 w) => memStore_eq h hT1.mach.mem hb1 hb2 a v)
  have hne : b4 ≠ b := fun e => by
    subst e
    rw [hb4] at hfb
    simp only [Option.some.injEq, Obj.cells.injEq] at hfb
    exact absurd hfb.2.1 (by decide)
  have hT2 := hT1.store a v
  have KL := Mm.upd_le2 hT1.base.le hT1.obj
  have KE := Mm.upd_le2 hT2.base.le hT2.obj
  have hbK2 : ((K.upd b4 (.cells (runC p t q b) 87)).upd b (.cells f.row 71)) b4 = some (.cells (runC p t q b) 87) := (Mm.upd_ne hne).trans (Mm.upd_same _ _ _)
  have hfK : ((K.upd b4 (.cells (runC p t q b) 87)).upd b (.cells f.row 71)) b = some (.cells f.row 71) := Mm.upd_same _ _ _
  have HT2 := Lib.hid hT2
  have HNE := Lib.hid hne
  have HKK := Lib.hid hKK
  have HBK := Lib.hid hbK
  clear hT hT1 hT2 hb1 hb2 hn hle hnK hKK hne hbK ND
  generalize K.upd b4 _ = K0 at HT2 KL KE hbK2 hfK HKK HBK
  have hsz : 1 < f.row.size := show 1 < 18 by omega
  have R1 := Lib.hid (row_goto f 7)
  generalize runC p t q b = rc at *
  generalize hr0 : f.row = fr0 at *
  generalize hKD : K0.upd b (.cells fr0 71) = K1 at KL KE hbK2 hfK
  generalize hM2 : storeM M1 s.mp s.mem a v = M2 at *
  clear hM2
  go_upto_region 3 with (first
    | (with_reducible show wpList _ _ _ ({ dst := _, op := Op.load 67 _, type := _, pos := _, after := _, guard := _ } :: _) _ _; refine wpList_load1_has h rfl 67 _ rfl rfl hb4 d3 Try.underlying67 rfl ?_)
    | (with_reducible show wpList _ _ _ ({ dst := _, op := Op.load 40 _, type := _, pos := _, after := _, guard := _ } :: _) _ _; refine wpList_load1_has h rfl 40 _ rfl rfl hfb f2 Try.underlying40 rfl ?_))
  clear hfb hb4
  refine wp_region_held_drew (S := Has σ (K1)) (by kernel_rfl) (h.drew.le KL) (fun hHeld => ?_)
  refine wpAnyH_take (i := 0) (v := ?_) rfl (by kernel_rfl) (by kernel_rfl) (by kernel_rfl) (fun _ _ _ h => h) (Or.inl ⟨by rfl, ?_⟩) hHeld ?_
  rotate_left
  · (intro wz _; go_simp; try with_reducible rfl)
  try simp only [List.getElem_toArray, List.getElem_cons_succ, List.getElem_cons_zero, Act.put, List.setIfInBounds_toArray, List.set_cons_zero, List.set_cons_succ]
  refine wpAnyH_take (i := 1) (v := ?_) rfl (by kernel_rfl) (by kernel_rfl) (by kernel_rfl) (fun _ _ _ h => h) (Or.inl ⟨by rfl, ?_⟩) hHeld ?_
  rotate_left
  · (intro wz _; go_simp; try with_reducible rfl)
  try simp only [List.getElem_toArray, List.getElem_cons_succ, List.getElem_cons_zero, Act.put, List.setIfInBounds_toArray, List.set_cons_zero, List.set_cons_succ]
  refine wpAnyH_take (i := 2) (v := _) rfl (by kernel_rfl) (by kernel_rfl) (by kernel_rfl) (fun _ _ _ h => h) (yields_load1 rfl 26 _ rfl rfl hbK2 d0 Try.underlying26 rfl) hHeld ?_
  try simp only [List.getElem_toArray, List.getElem_cons_succ, List.getElem_cons_zero, Act.put, List.setIfInBounds_toArray, List.set_cons_zero, List.set_cons_succ]
  refine wpAnyH_take (i := 4) (v := ?_) rfl (by kernel_rfl) (by kernel_rfl) (by kernel_rfl) (fun _ _ _ h => h) (Or.inl ⟨by rfl, ?_⟩) hHeld ?_
  rotate_left
  · (intro wz _; go_simp; try with_reducible rfl)
  try simp only [List.getElem_toArray, List.getElem_cons_succ, List.getElem_cons_zero, Act.put, List.setIfInBounds_toArray, List.set_cons_zero, List.set_cons_succ]
  refine wpAnyH_take (i := 5) (v := _) rfl (by kernel_rfl) (by kernel_rfl) (by kernel_rfl) (fun _ _ _ h => h) (yields_agg rfl 84 _ rfl rfl hbK2 dx dz Try.underlying84 rfl (by kernel_rfl)) hHeld ?_
  try simp only [List.getElem_toArray, List.getElem_cons_succ, List.getElem_cons_zero, Act.put, List.setIfInBounds_toArray, List.set_cons_zero, List.set_cons_succ]
  refine wpAnyH_take (i := 6) (v := ?_) rfl (by kernel_rfl) (by kernel_rfl) (by kernel_rfl) (fun _ _ _ h => h) (Or.inl ⟨by rfl, ?_⟩) hHeld ?_
  rotate_left
  · (intro wz _; go_simp; try with_reducible rfl)
  try simp only [List.getElem_toArray, List.getElem_cons_succ, List.getElem_cons_zero, Act.put, List.setIfInBounds_toArray, List.set_cons_zero, List.set_cons_succ]
  refine wpAnyH_take (i := 8) (v := ?_) rfl (by kernel_rfl) (by kernel_rfl) (by kernel_rfl) (fun _ _ _ h => h) (Or.inl ⟨by rfl, ?_⟩) hHeld ?_
  rotate_left
  · (intro wz _; go_simp; try with_reducible rfl)
  try simp only [List.getElem_toArray, List.getElem_cons_succ, List.getElem_cons_zero, Act.put, List.setIfInBounds_toArray, List.set_cons_zero, List.set_cons_succ]
  refine wpAnyH_take (i := 9) (v := ?_) rfl (by kernel_rfl) (by kernel_rfl) (by kernel_rfl) (fun _ _ _ h => h) (Or.inl ⟨by rfl, ?_⟩) hHeld ?_
  rotate_left
  · (intro wz _; go_simp; try with_reducible rfl)
  try simp only [List.getElem_toArray, List.getElem_cons_succ, List.getElem_cons_zero, Act.put, List.setIfInBounds_toArray, List.set_cons_zero, List.set_cons_succ]
  refine wpAnyH_take (i := 10) (v := ?_) rfl (by kernel_rfl) (by kernel_rfl) (by kernel_rfl) (fun _ _ _ h => h) (Or.inl ⟨by rfl, ?_⟩) hHeld ?_
  rotate_left
  · (intro wz _; go_simp; try with_reducible rfl)
  try simp only [List.getElem_toArray, List.getElem_cons_succ, List.getElem_cons_zero, Act.put, List.setIfInBounds_toArray, List.set_cons_zero, List.set_cons_succ]
  refine wpAnyH_take (i := 11) (v := ?_) rfl (by kernel_rfl) (by kernel_rfl) (by kernel_rfl) (fun _ _ _ h => h) (Or.inl ⟨by rfl, ?_⟩) hHeld ?_
  rotate_left
  · (intro wz _; go_simp; try with_reducible rfl)
  try simp only [List.getElem_toArray, List.getElem_cons_succ, List.getElem_cons_zero, Act.put, List.setIfInBounds_toArray, List.set_cons_zero, List.set_cons_succ]
  refine wpAnyH_take (i := 12) (v := _) rfl (by kernel_rfl) (by kernel_rfl) (by kernel_rfl) (fun _ _ _ h => h) (yields_load1 rfl 40 _ rfl rfl hfK f4 Try.underlying40 rfl) hHeld ?_
  try simp only [List.getElem_toArray, List.getElem_cons_succ, List.getElem_cons_zero, Act.put, List.setIfInBounds_toArray, List.set_cons_zero, List.set_cons_succ]
  refine wpAnyH_take (i := 13) (v := ?_) rfl (by kernel_rfl) (by kernel_rfl) (by kernel_rfl) (fun _ _ _ h => h) (Or.inl ⟨by rfl, ?_⟩) hHeld ?_
  rotate_left
  · (intro wz _; go_simp; try with_reducible rfl)
  try simp only [List.getElem_toArray, List.getElem_cons_succ, List.getElem_cons_zero, Act.put, List.setIfInBounds_toArray, List.set_cons_zero, List.set_cons_succ]
  replace h := h.drew
  generalize w.drew = w1 at h hHeld ⊢
  clear w
  obtain ⟨w, rfl⟩ : ∃ q : World, q = w1 := ⟨_, rfl⟩
  refine wpAnyH_ready (rs := [3]) (by kernel_rfl) (by simp) ?_
  refine AllReadyH.cons rfl (fun K hK => ?_) AllReadyH.nil
  (go_simp; go_wp2_with (go_at_call 10; refine (ME.out _ h).mono ?_; clear h; rintro _ w ⟨rfl, h⟩))
  refine hK.out _ _ (h.le KL) (fun hHeld => ?_)
  clear hK K
  try simp only [Act.put, List.setIfInBounds_toArray, List.set_cons_zero, List.set_cons_succ]
  refine wpAnyH_ready (rs := [7]) (by kernel_rfl) (by simp) ?_
  refine AllReadyH.cons rfl (fun K hK => ?_) AllReadyH.nil
  (go_simp; go_wp2_with (go_at_call 63; refine (ND1.out _ h).mono ?_; clear h; rintro _ w ⟨rfl, h⟩))
  refine hK.out _ _ (h.le KL) (fun hHeld => ?_)
  clear hK K
  try simp only [Act.put, List.setIfInBounds_toArray, List.set_cons_zero, List.set_cons_succ]
  refine wpAnyH_ready (rs := [14]) (by kernel_rfl) (by simp) ?_
  refine AllReadyH.cons rfl (fun K hK => ?_) AllReadyH.nil
  (go_simp; go_wp2_with (go_at_call 65; refine (HH.out _).mono ?_; rintro _ w' ⟨rfl, rfl⟩))
  refine hK.out _ _ (h.le KL) (fun hHeld => ?_)
  clear hK K
  try simp only [Act.put, List.setIfInBounds_toArray, List.set_cons_zero, List.set_cons_succ]
  refine wpAnyH_ready (rs := [15]) (by kernel_rfl) (by simp) ?_
  refine AllReadyH.cons rfl (fun K hK => ?_) AllReadyH.nil
  (go_simp; go_wp2_with (go_at_call 64; refine (SE.out _ h).mono ?_; clear h; rintro _ w ⟨rfl, h⟩))
  refine hK.out _ _ (h.le KE) (fun hHeld => ?_)
  clear hK K
  try simp only [Act.put, List.setIfInBounds_toArray, List.set_cons_zero, List.set_cons_succ]
  refine wpAnyH_done (by kernel_rfl) ?_ _
  clear hHeld ME SE HH ND1 KL
  have hb4' := KE _ _ hbK2
  have DR := Lib.hid (fun (w : World) (h : Has σ M2 w) => DRQ.out K0 M2 w _ h HT2.out)
  clear KE hbK2 hfK hKD DRQ
  go_upto_region 5 with (first
    | (with_reducible show wpList _ _ _ ({ dst := _, op := Op.load 26 _, type := _, pos := _, after := _, guard := _ } :: _) _ _; refine wpList_load1_has h rfl 26 _ rfl rfl hb4' d0 Try.underlying26 rfl ?_)
    | (with_reducible show wpList _ _ _ ({ dst := _, op := Op.load 3 _, type := _, pos := _, after := _, guard := _ } :: _) _ _; refine wpList_load1_has h rfl 3 _ rfl rfl hb4' d1 Try.underlying3 rfl ?_)
    | ((go_at_call 85; refine (DR.out _ h).mono ?_; clear h; rintro _ w ⟨rfl, M3, lab3, gv, h, hB3, hM3, hK3⟩)))
  have hT3 := HT2.out.keep hK3 (fun k hk e => by have h1 := hk.1; rcases e with e | e | e <;> omega) hM3 hB3 rfl rfl
  obtain ⟨hfb3, hT4⟩ := hT3.frame (f.goto 7)
  rw [hr0] at hfb3
  have HT4 := Lib.hid (hT4.less HKK.out)
  have PL := Lib.hid (fun (w : World) (h : Has σ (M3.upd b (.cells (f.goto 7).row 71)) w) => mPlan_eq h hT4.mach)
  have CF := Lib.hid (fun (w : World) (h : Has σ (M3.upd b (.cells (f.goto 7).row 71)) w) => CFQ.out _ w h _ hT4.mach.plan)
  have BK0 := Lib.hid (fun (w : World) (h : Has σ (M3.upd b (.cells (f.goto 7).row 71)) w) => back0_eq h hT4 HFS.out)
  have KP := Mm.upd_le2 hT4.base.le hT4.obj
  have hb5 := hT4.base.le _ _ HBK.out
  have hbK5 : (K0.upd b (.cells (f.goto 7).row 71)) b4 = some (.cells rc 87) := (Mm.upd_ne HNE.out).trans HBK.out
  have hfK5 : (K0.upd b (.cells (f.goto 7).row 71)) b = some (.cells (f.goto 7).row 71) := Mm.upd_same _ _ _
  clear hT3 hT4 hK3 hM3 hB3 hb4' HT2 DR CFQ hr0
  generalize (f.goto 7).row = fr1 at *
  go_upto_region 6 with (first
    | (with_reducible show wpList _ _ _ ({ dst := _, op := Op.store 3 _ _, type := _, pos := _, after := _, guard := _ } :: _) _ _; refine wpList_store1_has h rfl 3 _ _ rfl rfl rfl hfb3 hsz rfl (by kernel_rfl) ?_; clear h; intro w h))
  have h9 : Has σ (M3.upd b (.cells (fr0.setIfInBounds 1 (.int .i64 7)) 71)) w := h
  rw [R1.out] at h9
  clear h hfb3 hsz R1
  have h := h9
  clear h9
  generalize M3.upd b (.cells fr1 71) = M4 at *
  generalize K0.upd b (.cells fr1 71) = K5 at *
  refine wp_region_held_drew (S := Has σ (K5)) (by kernel_rfl) (h.drew.le KP) (fun hHeld => ?_)
  refine wpAnyH_take (i := 0) (v := ?_) rfl (by kernel_rfl) (by kernel_rfl) (by kernel_rfl) (fun _ _ _ h => h) (Or.inl ⟨by rfl, ?_⟩) hHeld ?_
  rotate_left
  · (intro wz _; go_simp; try with_reducible rfl)
  try simp only [List.getElem_toArray, List.getElem_cons_succ, List.getElem_cons_zero, Act.put, List.setIfInBounds_toArray, List.set_cons_zero, List.set_cons_succ]
  refine wpAnyH_take (i := 1) (v := ?_) rfl (by kernel_rfl) (by kernel_rfl) (by kernel_rfl) (fun _ _ _ h => h) (Or.inl ⟨by rfl, ?_⟩) hHeld ?_
  rotate_left
  · (intro wz _; go_simp; try with_reducible rfl)
  try simp only [List.getElem_toArray, List.getElem_cons_succ, List.getElem_cons_zero, Act.put, List.setIfInBounds_toArray, List.set_cons_zero, List.set_cons_succ]
  refine wpAnyH_take (i := 2) (v := ?_) rfl (by kernel_rfl) (by kernel_rfl) (by kernel_rfl) (fun _ _ _ h => h) (Or.inl ⟨by rfl, ?_⟩) hHeld ?_
  rotate_left
  · (intro wz _; go_simp; try with_reducible rfl)
  try simp only [List.getElem_toArray, List.getElem_cons_succ, List.getElem_cons_zero, Act.put, List.setIfInBounds_toArray, List.set_cons_zero, List.set_cons_succ]
  refine wpAnyH_take (i := 3) (v := ?_) rfl (by kernel_rfl) (by kernel_rfl) (by kernel_rfl) (fun _ _ _ h => h) (Or.inl ⟨by rfl, ?_⟩) hHeld ?_
  rotate_left
  · (intro wz _; go_simp; try with_reducible rfl)
  try simp only [List.getElem_toArray, List.getElem_cons_succ, List.getElem_cons_zero, Act.put, List.setIfInBounds_toArray, List.set_cons_zero, List.set_cons_succ]
  refine wpAnyH_take (i := 4) (v := _) rfl (by kernel_rfl) (by kernel_rfl) (by kernel_rfl) (fun _ _ _ h => h) (yields_load1 rfl 40 _ rfl rfl hfK5 g4 Try.underlying40 rfl) hHeld ?_
  try simp only [List.getElem_toArray, List.getElem_cons_succ, List.getElem_cons_zero, Act.put, List.setIfInBounds_toArray, List.set_cons_zero, List.set_cons_succ]
  refine wpAnyH_take (i := 5) (v := ?_) rfl (by kernel_rfl) (by kernel_rfl) (by kernel_rfl) (fun _ _ _ h => h) (Or.inl ⟨by rfl, ?_⟩) hHeld ?_
  rotate_left
  · (intro wz _; go_simp; try with_reducible rfl)
  try simp only [List.getElem_toArray, List.getElem_cons_succ, List.getElem_cons_zero, Act.put, List.setIfInBounds_toArray, List.set_cons_zero, List.set_cons_succ]
  refine wpAnyH_take (i := 6) (v := ?_) rfl (by kernel_rfl) (by kernel_rfl) (by kernel_rfl) (fun _ _ _ h => h) (Or.inl ⟨by rfl, ?_⟩) hHeld ?_
  rotate_left
  · (intro wz _; go_simp; try with_reducible rfl)
  try simp only [List.getElem_toArray, List.getElem_cons_succ, List.getElem_cons_zero, Act.put, List.setIfInBounds_toArray, List.set_cons_zero, List.set_cons_succ]
  refine wpAnyH_take (i := 7) (v := ?_) rfl (by kernel_rfl) (by kernel_rfl) (by kernel_rfl) (fun _ _ _ h => h) (Or.inl ⟨by rfl, ?_⟩) hHeld ?_
  rotate_left
  · (intro wz _; go_simp; try with_reducible rfl)
  try simp only [List.getElem_toArray, List.getElem_cons_succ, List.getElem_cons_zero, Act.put, List.setIfInBounds_toArray, List.set_cons_zero, List.set_cons_succ]
  refine wpAnyH_take (i := 8) (v := _) rfl (by kernel_rfl) (by kernel_rfl) (by kernel_rfl) (fun _ _ _ h => h) (yields_load1 rfl 26 _ rfl rfl hbK5 d0 Try.underlying26 rfl) hHeld ?_
  try simp only [List.getElem_toArray, List.getElem_cons_succ, List.getElem_cons_zero, Act.put, List.setIfInBounds_toArray, List.set_cons_zero, List.set_cons_succ]
  replace h := h.drew
  generalize w.drew = w1 at h hHeld ⊢
  clear w
  obtain ⟨w, rfl⟩ : ∃ q : World, q = w1 := ⟨_, rfl⟩
  refine wpAnyH_ready (rs := [9]) (by kernel_rfl) (by simp) ?_
  refine AllReadyH.cons rfl (fun K hK => ?_) AllReadyH.nil
  (go_simp; go_wp2_with (go_at_call 41; refine (PL.out _ h).mono ?_; clear h; rintro _ w ⟨rfl, h⟩))
  refine hK.out _ _ (h.le KP) (fun hHeld => ?_)
  clear hK K
  try simp only [Act.put, List.setIfInBounds_toArray, List.set_cons_zero, List.set_cons_succ]
  refine wpAnyH_ready (rs := [10]) (by kernel_rfl) (by simp) ?_
  refine AllReadyH.cons rfl (fun K hK => ?_) AllReadyH.nil
  (go_simp; go_wp2_with (go_at_call 42; refine (CF.out _ h).mono ?_; clear h; rintro _ w ⟨rfl, h⟩))
  refine hK.out _ _ (h.le KP) (fun hHeld => ?_)
  clear hK K
  try simp only [Act.put, List.setIfInBounds_toArray, List.set_cons_zero, List.set_cons_succ]
  refine wpAnyH_take (i := 11) (v := ?_) rfl (by kernel_rfl) (by kernel_rfl) (by kernel_rfl) (fun _ _ _ h => h) (Or.inl ⟨by rfl, ?_⟩) hHeld ?_
  rotate_left
  · (intro wz _; go_simp; try with_reducible rfl)
  try simp only [List.getElem_toArray, List.getElem_cons_succ, List.getElem_cons_zero, Act.put, List.setIfInBounds_toArray, List.set_cons_zero, List.set_cons_succ]
  refine wpAnyH_take (i := 12) (v := ?_) rfl (by kernel_rfl) (by kernel_rfl) (by kernel_rfl) (fun _ _ _ h => h) (Or.inl ⟨by rfl, ?_⟩) hHeld ?_
  rotate_left
  · (intro wz _; go_simp; try with_reducible rfl)
  try simp only [List.getElem_toArray, List.getElem_cons_succ, List.getElem_cons_zero, Act.put, List.setIfInBounds_toArray, List.set_cons_zero, List.set_cons_succ]
  refine wpAnyH_done (by kernel_rfl) ?_ _
  clear hHeld PL CF hfd
  go_wp2
  go_end0
  exact ⟨rfl, M4, lab3, gv, h, HT4.out⟩
set_option maxHeartbeats 4000000 in
set_option maxRecDepth 20000 in
/-- It is worn: Give ends. -/
theorem idle_end (h : Has σ M w) (hT : AtTop K M lab p s t q b fs f) {sl g : Nat} (h0 : f.r 0 = (sl : Int)) (hsl : sl < 256) (hg : f.r 2 = (g : Int)) (hg32 : g < 4294967296) (hlv : levelOf s.c (t : Nat) = (lv : Nat)) (hlc : (lv : Int) < s.c 0) (hin : InK s.c 9 (sl : Nat) 0) (hb1 : s.mem.acc < 1000000000) (hb2 : s.mem.wr < 1000000000) (hst : StampE s.ward.gens s.ward.gclk) (hgg : 0 ≤ valE lv (sl : Nat) s.ward.gens ∧ valE lv (sl : Nat) s.ward.gens < 1000000000) (hsp : s.ward.slips < 1000000000) (hgn : s.given.length < 1000000) (hhas : s.ward.has lv (sl : Nat) = true) (hfs : fs.length < 1000000) (hgo : s.c 12 ≤ (g : Int)) :
    Calls Try.prog 67 #[.agg (runC p t q b)] w fun r w' => r = .returned (.tuple #[]) ∧ ∃ M' lab' gv, Has σ M' w' ∧ Mach M' lab' p (MachS.backed ((s.idled lv sl g gv).top t fs (f.goto 7)) t []) ∧ Base K M' lab' := by
  have hw7 : decide (s.c 12 ≤ (g : Int)) = true := decide_eq_true (by omega)
  clear hgo
  have d0 : (runC p t q b)[0]? = some (.pointer (some ⟨p, 0, none⟩)) := rfl
  have d1 : (runC p t q b)[1]? = some (.int .i64 (t : Nat)) := rfl
  have d2 : (runC p t q b)[2]? = some (.pointer (some ⟨q, 0, none⟩)) := rfl
  have d3 : (runC p t q b)[3]? = some (.pointer (some ⟨b, 0, none⟩)) := rfl
  have dx : (runC p t q b).extract 0 (0 + 4) = runC p t q b := rfl
  have dz : (runC p t q b).size = 4 := rfl
  have f2 : f.row[2]? = some (.int .u64 (sl : Nat)) := by rw [← h0]; rfl
  have f4 : f.row[4]? = some (.int .u64 (g : Nat)) := by rw [← hg]; rfl
  have g4 : (f.goto 7).row[4]? = some (.int .u64 (g : Nat)) := by rw [← hg]; rfl
  have us : IntKind.i64.wrap ((sl : Nat) : Int) = ((sl : Nat) : Int) := IntWalk.i64_in _ (by omega)
  have ug : IntKind.i64.wrap ((g : Nat) : Int) = ((g : Nat) : Int) := IntWalk.i64_in _ (by omega)
  have HH : Hid (∀ w, Calls Try.prog 65 #[.int .i64 (g : Nat), .int .i64 0] w fun r w' => r = .returned (.int .u64 (mkHead g 0 : Nat)) ∧ w = w') := Lib.hid fun w => handleHead_any g 0 (by omega) (by omega) w
  have SPA := spotAt_of (σ := σ) hT.mach hlv hlc hin
  have hfd : ∀ w : World, (Instr.field 24 (.agg #[.int .i64 (s.c 0), .int .i64 (s.c 1), .int .i64 (s.c 2), .int .i64 (s.c 3), .int .i64 (s.c 4), .int .i64 (s.c 5), .int .i64 (s.c 6), .int .i64 (s.c 7), .int .i64 (s.c 8), .int .i64 (s.c 9), .int .i64 (s.c 10), .int .i64 (s.c 11), .int .i64 (s.c 12), .int .i64 (s.c 13)]) 5).run Try.prog w = .ok (.int .i64 (s.c 12)) w := fun w => by kernel_rfl
  have CFQ := Lib.hid (fun (M' : Mm) (w : World) (h : Has σ M' w) (p' : Nat) (hp : M' p' = some (planRow s.c)) => conf_has h s.c hp)
  rw [ints14_lit] at CFQ
  obtain ⟨a, ha⟩ : ∃ a, atK s.c lv 9 (sl : Nat) 0 = a := ⟨_, rfl⟩
  unfold MachS.idled
  rw [ha] at SPA ⊢
  obtain ⟨v, hv⟩ : ∃ v : Int, ((mkHead g 0 : Nat) : Int) = v := ⟨_, rfl⟩
  rw [hv] at HH ⊢
  have ND := Lib.hid (fun (M' : Mm) (w : World) (h : Has σ M' w) (hle : M.le M') => runNode_eq (q := q) (b := b) h (SPA.le hle))
  have DRQ := Lib.hid (fun (K' M' : Mm) (w : World) (lab' : Nat → Nat) (h : Has σ M' w) (hT' : AtTop K' M' lab' p { s with mem := s.mem.store a v } t q b fs f) => mDrop_kp h hT'.mach hT'.base (t : Nat) (sl : Nat) (lv := ((lv : Nat) : Int)) hlv hst hgg hsp hgn hhas)
  have HFS := Lib.hid hfs
  clear h0 ha hv hin SPA hg hlv hlc hst hgg hsp hgn hhas hfs
  go_enter Try.func67, Try.ntmps67
  go_upto_region 1 with (fail)
  obtain ⟨M1, hbx, hle, hb4, hn⟩ := h.box (.cells (runC p t q b) 87)
  generalize w.alloc _ = wx at hbx ⊢
  generalize w.heap.size = b4 at hb4 hn ⊢
  clear h
  try clear w
  have h := hbx
  clear hbx
  obtain ⟨w, rfl⟩ : ∃ x : World, x = wx := ⟨_, rfl⟩
  obtain ⟨lab1, hT1⟩ := hT.more1 hle hn hb4
  have hnK : K b4 = none := by
    cases e : K b4 with
    | none => rfl
    | some o => have := (hT.base _ _ e).1; rw [hn] at this; cases this
  have hKK : K.le (K.upd b4 (.cells (runC p t q b) 87)) := Mm.le_upd' hnK _
  have hbK : (K.upd b4 (.cells (runC p t q b) 87)) b4 = some (.cells (runC p t q b) 87) := Mm.upd_same _ _ _
  have hfb := hT1.obj
  have ND1 := Lib.hid (fun (w : World) (h : Has σ M1 w) => ND.out M1 w h hle)
  have ME := Lib.hid (fun (w : World) (h : Has σ M1 w) => mMem_eq h hT1.mach)
  have SE := Lib.hid (fun (w : World) (h : Has σ M1 w) => memStore_eq h hT1.mach.mem hb1 hb2 a v)
  have hne : b4 ≠ b := fun e => by
    subst e
    rw [hb4] at hfb
    simp only [Option.some.injEq, Obj.cells.injEq] at hfb
    exact absurd hfb.2.1 (by decide)
  have hT2 := hT1.store a v
  have KL := Mm.upd_le2 hT1.base.le hT1.obj
  have KE := Mm.upd_le2 hT2.base.le hT2.obj
  have hbK2 : ((K.upd b4 (.cells (runC p t q b) 87)).upd b (.cells f.row 71)) b4 = some (.cells (runC p t q b) 87) := (Mm.upd_ne hne).trans (Mm.upd_same _ _ _)
  have hfK : ((K.upd b4 (.cells (runC p t q b) 87)).upd b (.cells f.row 71)) b = some (.cells f.row 71) := Mm.upd_same _ _ _
  have HT2 := Lib.hid hT2
  have HNE := Lib.hid hne
  have HKK := Lib.hid hKK
  have HBK := Lib.hid hbK
  clear hT hT1 hT2 hb1 hb2 hn hle hnK hKK hne hbK ND
  generalize K.upd b4 _ = K0 at HT2 KL KE hbK2 hfK HKK HBK
  have hsz : 1 < f.row.size := show 1 < 18 by omega
  have R1 := Lib.hid (row_goto f 7)
  generalize runC p t q b = rc at *
  generalize hr0 : f.row = fr0 at *
  generalize hKD : K0.upd b (.cells fr0 71) = K1 at KL KE hbK2 hfK
  generalize hM2 : storeM M1 s.mp s.mem a v = M2 at *
  clear hM2
  go_upto_region 3 with (first
    | (with_reducible show wpList _ _ _ ({ dst := _, op := Op.load 67 _, type := _, pos := _, after := _, guard := _ } :: _) _ _; refine wpList_load1_has h rfl 67 _ rfl rfl hb4 d3 Try.underlying67 rfl ?_)
    | (with_reducible show wpList _ _ _ ({ dst := _, op := Op.load 40 _, type := _, pos := _, after := _, guard := _ } :: _) _ _; refine wpList_load1_has h rfl 40 _ rfl rfl hfb f2 Try.underlying40 rfl ?_))
  clear hfb hb4
  refine wp_region_held_drew (S := Has σ (K1)) (by kernel_rfl) (h.drew.le KL) (fun hHeld => ?_)
  refine wpAnyH_take (i := 0) (v := ?_) rfl (by kernel_rfl) (by kernel_rfl) (by kernel_rfl) (fun _ _ _ h => h) (Or.inl ⟨by rfl, ?_⟩) hHeld ?_
  rotate_left
  · (intro wz _; go_simp; try with_reducible rfl)
  try simp only [List.getElem_toArray, List.getElem_cons_succ, List.getElem_cons_zero, Act.put, List.setIfInBounds_toArray, List.set_cons_zero, List.set_cons_succ]
  refine wpAnyH_take (i := 1) (v := ?_) rfl (by kernel_rfl) (by kernel_rfl) (by kernel_rfl) (fun _ _ _ h => h) (Or.inl ⟨by rfl, ?_⟩) hHeld ?_
  rotate_left
  · (intro wz _; go_simp; try with_reducible rfl)
  try simp only [List.getElem_toArray, List.getElem_cons_succ, List.getElem_cons_zero, Act.put, List.setIfInBounds_toArray, List.set_cons_zero, List.set_cons_succ]
  refine wpAnyH_take (i := 2) (v := _) rfl (by kernel_rfl) (by kernel_rfl) (by kernel_rfl) (fun _ _ _ h => h) (yields_load1 rfl 26 _ rfl rfl hbK2 d0 Try.underlying26 rfl) hHeld ?_
  try simp only [List.getElem_toArray, List.getElem_cons_succ, List.getElem_cons_zero, Act.put, List.setIfInBounds_toArray, List.set_cons_zero, List.set_cons_succ]
  refine wpAnyH_take (i := 4) (v := ?_) rfl (by kernel_rfl) (by kernel_rfl) (by kernel_rfl) (fun _ _ _ h => h) (Or.inl ⟨by rfl, ?_⟩) hHeld ?_
  rotate_left
  · (intro wz _; go_simp; try with_reducible rfl)
  try simp only [List.getElem_toArray, List.getElem_cons_succ, List.getElem_cons_zero, Act.put, List.setIfInBounds_toArray, List.set_cons_zero, List.set_cons_succ]
  refine wpAnyH_take (i := 5) (v := _) rfl (by kernel_rfl) (by kernel_rfl) (by kernel_rfl) (fun _ _ _ h => h) (yields_agg rfl 84 _ rfl rfl hbK2 dx dz Try.underlying84 rfl (by kernel_rfl)) hHeld ?_
  try simp only [List.getElem_toArray, List.getElem_cons_succ, List.getElem_cons_zero, Act.put, List.setIfInBounds_toArray, List.set_cons_zero, List.set_cons_succ]
  refine wpAnyH_take (i := 6) (v := ?_) rfl (by kernel_rfl) (by kernel_rfl) (by kernel_rfl) (fun _ _ _ h => h) (Or.inl ⟨by rfl, ?_⟩) hHeld ?_
  rotate_left
  · (intro wz _; go_simp; try with_reducible rfl)
  try simp only [List.getElem_toArray, List.getElem_cons_succ, List.getElem_cons_zero, Act.put, List.setIfInBounds_toArray, List.set_cons_zero, List.set_cons_succ]
  refine wpAnyH_take (i := 8) (v := ?_) rfl (by kernel_rfl) (by kernel_rfl) (by kernel_rfl) (fun _ _ _ h => h) (Or.inl ⟨by rfl, ?_⟩) hHeld ?_
  rotate_left
  · (intro wz _; go_simp; try with_reducible rfl)
  try simp only [List.getElem_toArray, List.getElem_cons_succ, List.getElem_cons_zero, Act.put, List.setIfInBounds_toArray, List.set_cons_zero, List.set_cons_succ]
  refine wpAnyH_take (i := 9) (v := ?_) rfl (by kernel_rfl) (by kernel_rfl) (by kernel_rfl) (fun _ _ _ h => h) (Or.inl ⟨by rfl, ?_⟩) hHeld ?_
  rotate_left
  · (intro wz _; go_simp; try with_reducible rfl)
  try simp only [List.getElem_toArray, List.getElem_cons_succ, List.getElem_cons_zero, Act.put, List.setIfInBounds_toArray, List.set_cons_zero, List.set_cons_succ]
  refine wpAnyH_take (i := 10) (v := ?_) rfl (by kernel_rfl) (by kernel_rfl) (by kernel_rfl) (fun _ _ _ h => h) (Or.inl ⟨by rfl, ?_⟩) hHeld ?_
  rotate_left
  · (intro wz _; go_simp; try with_reducible rfl)
  try simp only [List.getElem_toArray, List.getElem_cons_succ, List.getElem_cons_zero, Act.put, List.setIfInBounds_toArray, List.set_cons_zero, List.set_cons_succ]
  refine wpAnyH_take (i := 11) (v := ?_) rfl (by kernel_rfl) (by kernel_rfl) (by kernel_rfl) (fun _ _ _ h => h) (Or.inl ⟨by rfl, ?_⟩) hHeld ?_
  rotate_left
  · (intro wz _; go_simp; try with_reducible rfl)
  try simp only [List.getElem_toArray, List.getElem_cons_succ, List.getElem_cons_zero, Act.put, List.setIfInBounds_toArray, List.set_cons_zero, List.set_cons_succ]
  refine wpAnyH_take (i := 12) (v := _) rfl (by kernel_rfl) (by kernel_rfl) (by kernel_rfl) (fun _ _ _ h => h) (yields_load1 rfl 40 _ rfl rfl hfK f4 Try.underlying40 rfl) hHeld ?_
  try simp only [List.getElem_toArray, List.getElem_cons_succ, List.getElem_cons_zero, Act.put, List.setIfInBounds_toArray, List.set_cons_zero, List.set_cons_succ]
  refine wpAnyH_take (i := 13) (v := ?_) rfl (by kernel_rfl) (by kernel_rfl) (by kernel_rfl) (fun _ _ _ h => h) (Or.inl ⟨by rfl, ?_⟩) hHeld ?_
  rotate_left
  · (intro wz _; go_simp; try with_reducible rfl)
  try simp only [List.getElem_toArray, List.getElem_cons_succ, List.getElem_cons_zero, Act.put, List.setIfInBounds_toArray, List.set_cons_zero, List.set_cons_succ]
  replace h := h.drew
  generalize w.drew = w1 at h hHeld ⊢
  clear w
  obtain ⟨w, rfl⟩ : ∃ q : World, q = w1 := ⟨_, rfl⟩
  refine wpAnyH_ready (rs := [3]) (by kernel_rfl) (by simp) ?_
  refine AllReadyH.cons rfl (fun K hK => ?_) AllReadyH.nil
  (go_simp; go_wp2_with (go_at_call 10; refine (ME.out _ h).mono ?_; clear h; rintro _ w ⟨rfl, h⟩))
  refine hK.out _ _ (h.le KL) (fun hHeld => ?_)
  clear hK K
  try simp only [Act.put, List.setIfInBounds_toArray, List.set_cons_zero, List.set_cons_succ]
  refine wpAnyH_ready (rs := [7]) (by kernel_rfl) (by simp) ?_
  refine AllReadyH.cons rfl (fun K hK => ?_) AllReadyH.nil
  (go_simp; go_wp2_with (go_at_call 63; refine (ND1.out _ h).mono ?_; clear h; rintro _ w ⟨rfl, h⟩))
  refine hK.out _ _ (h.le KL) (fun hHeld => ?_)
  clear hK K
  try simp only [Act.put, List.setIfInBounds_toArray, List.set_cons_zero, List.set_cons_succ]
  refine wpAnyH_ready (rs := [14]) (by kernel_rfl) (by simp) ?_
  refine AllReadyH.cons rfl (fun K hK => ?_) AllReadyH.nil
  (go_simp; go_wp2_with (go_at_call 65; refine (HH.out _).mono ?_; rintro _ w' ⟨rfl, rfl⟩))
  refine hK.out _ _ (h.le KL) (fun hHeld => ?_)
  clear hK K
  try simp only [Act.put, List.setIfInBounds_toArray, List.set_cons_zero, List.set_cons_succ]
  refine wpAnyH_ready (rs := [15]) (by kernel_rfl) (by simp) ?_
  refine AllReadyH.cons rfl (fun K hK => ?_) AllReadyH.nil
  (go_simp; go_wp2_with (go_at_call 64; refine (SE.out _ h).mono ?_; clear h; rintro _ w ⟨rfl, h⟩))
  refine hK.out _ _ (h.le KE) (fun hHeld => ?_)
  clear hK K
  try simp only [Act.put, List.setIfInBounds_toArray, List.set_cons_zero, List.set_cons_succ]
  refine wpAnyH_done (by kernel_rfl) ?_ _
  clear hHeld ME SE HH ND1 KL
  have hb4' := KE _ _ hbK2
  have DR := Lib.hid (fun (w : World) (h : Has σ M2 w) => DRQ.out K0 M2 w _ h HT2.out)
  clear KE hbK2 hfK hKD DRQ
  go_upto_region 5 with (first
    | (with_reducible show wpList _ _ _ ({ dst := _, op := Op.load 26 _, type := _, pos := _, after := _, guard := _ } :: _) _ _; refine wpList_load1_has h rfl 26 _ rfl rfl hb4' d0 Try.underlying26 rfl ?_)
    | (with_reducible show wpList _ _ _ ({ dst := _, op := Op.load 3 _, type := _, pos := _, after := _, guard := _ } :: _) _ _; refine wpList_load1_has h rfl 3 _ rfl rfl hb4' d1 Try.underlying3 rfl ?_)
    | ((go_at_call 85; refine (DR.out _ h).mono ?_; clear h; rintro _ w ⟨rfl, M3, lab3, gv, h, hB3, hM3, hK3⟩)))
  have hT3 := HT2.out.keep hK3 (fun k hk e => by have h1 := hk.1; rcases e with e | e | e <;> omega) hM3 hB3 rfl rfl
  obtain ⟨hfb3, hT4⟩ := hT3.frame (f.goto 7)
  rw [hr0] at hfb3
  have HT4 := Lib.hid (hT4.less HKK.out)
  have PL := Lib.hid (fun (w : World) (h : Has σ (M3.upd b (.cells (f.goto 7).row 71)) w) => mPlan_eq h hT4.mach)
  have CF := Lib.hid (fun (w : World) (h : Has σ (M3.upd b (.cells (f.goto 7).row 71)) w) => CFQ.out _ w h _ hT4.mach.plan)
  have BK0 := Lib.hid (fun (w : World) (h : Has σ (M3.upd b (.cells (f.goto 7).row 71)) w) => back0_eq h hT4 HFS.out)
  have KP := Mm.upd_le2 hT4.base.le hT4.obj
  have hb5 := hT4.base.le _ _ HBK.out
  have hbK5 : (K0.upd b (.cells (f.goto 7).row 71)) b4 = some (.cells rc 87) := (Mm.upd_ne HNE.out).trans HBK.out
  have hfK5 : (K0.upd b (.cells (f.goto 7).row 71)) b = some (.cells (f.goto 7).row 71) := Mm.upd_same _ _ _
  clear hT3 hT4 hK3 hM3 hB3 hb4' HT2 DR CFQ hr0
  generalize (f.goto 7).row = fr1 at *
  go_upto_region 6 with (first
    | (with_reducible show wpList _ _ _ ({ dst := _, op := Op.store 3 _ _, type := _, pos := _, after := _, guard := _ } :: _) _ _; refine wpList_store1_has h rfl 3 _ _ rfl rfl rfl hfb3 hsz rfl (by kernel_rfl) ?_; clear h; intro w h))
  have h9 : Has σ (M3.upd b (.cells (fr0.setIfInBounds 1 (.int .i64 7)) 71)) w := h
  rw [R1.out] at h9
  clear h hfb3 hsz R1
  have h := h9
  clear h9
  generalize M3.upd b (.cells fr1 71) = M4 at *
  generalize K0.upd b (.cells fr1 71) = K5 at *
  refine wp_region_held_drew (S := Has σ (K5)) (by kernel_rfl) (h.drew.le KP) (fun hHeld => ?_)
  refine wpAnyH_take (i := 0) (v := ?_) rfl (by kernel_rfl) (by kernel_rfl) (by kernel_rfl) (fun _ _ _ h => h) (Or.inl ⟨by rfl, ?_⟩) hHeld ?_
  rotate_left
  · (intro wz _; go_simp; try with_reducible rfl)
  try simp only [List.getElem_toArray, List.getElem_cons_succ, List.getElem_cons_zero, Act.put, List.setIfInBounds_toArray, List.set_cons_zero, List.set_cons_succ]
  refine wpAnyH_take (i := 1) (v := ?_) rfl (by kernel_rfl) (by kernel_rfl) (by kernel_rfl) (fun _ _ _ h => h) (Or.inl ⟨by rfl, ?_⟩) hHeld ?_
  rotate_left
  · (intro wz _; go_simp; try with_reducible rfl)
  try simp only [List.getElem_toArray, List.getElem_cons_succ, List.getElem_cons_zero, Act.put, List.setIfInBounds_toArray, List.set_cons_zero, List.set_cons_succ]
  refine wpAnyH_take (i := 2) (v := ?_) rfl (by kernel_rfl) (by kernel_rfl) (by kernel_rfl) (fun _ _ _ h => h) (Or.inl ⟨by rfl, ?_⟩) hHeld ?_
  rotate_left
  · (intro wz _; go_simp; try with_reducible rfl)
  try simp only [List.getElem_toArray, List.getElem_cons_succ, List.getElem_cons_zero, Act.put, List.setIfInBounds_toArray, List.set_cons_zero, List.set_cons_succ]
  refine wpAnyH_take (i := 3) (v := ?_) rfl (by kernel_rfl) (by kernel_rfl) (by kernel_rfl) (fun _ _ _ h => h) (Or.inl ⟨by rfl, ?_⟩) hHeld ?_
  rotate_left
  · (intro wz _; go_simp; try with_reducible rfl)
  try simp only [List.getElem_toArray, List.getElem_cons_succ, List.getElem_cons_zero, Act.put, List.setIfInBounds_toArray, List.set_cons_zero, List.set_cons_succ]
  refine wpAnyH_take (i := 4) (v := _) rfl (by kernel_rfl) (by kernel_rfl) (by kernel_rfl) (fun _ _ _ h => h) (yields_load1 rfl 40 _ rfl rfl hfK5 g4 Try.underlying40 rfl) hHeld ?_
  try simp only [List.getElem_toArray, List.getElem_cons_succ, List.getElem_cons_zero, Act.put, List.setIfInBounds_toArray, List.set_cons_zero, List.set_cons_succ]
  refine wpAnyH_take (i := 5) (v := ?_) rfl (by kernel_rfl) (by kernel_rfl) (by kernel_rfl) (fun _ _ _ h => h) (Or.inl ⟨by rfl, ?_⟩) hHeld ?_
  rotate_left
  · (intro wz _; go_simp; try with_reducible rfl)
  try simp only [List.getElem_toArray, List.getElem_cons_succ, List.getElem_cons_zero, Act.put, List.setIfInBounds_toArray, List.set_cons_zero, List.set_cons_succ]
  refine wpAnyH_take (i := 6) (v := ?_) rfl (by kernel_rfl) (by kernel_rfl) (by kernel_rfl) (fun _ _ _ h => h) (Or.inl ⟨by rfl, ?_⟩) hHeld ?_
  rotate_left
  · (intro wz _; go_simp; try with_reducible rfl)
  try simp only [List.getElem_toArray, List.getElem_cons_succ, List.getElem_cons_zero, Act.put, List.setIfInBounds_toArray, List.set_cons_zero, List.set_cons_succ]
  refine wpAnyH_take (i := 7) (v := ?_) rfl (by kernel_rfl) (by kernel_rfl) (by kernel_rfl) (fun _ _ _ h => h) (Or.inl ⟨by rfl, ?_⟩) hHeld ?_
  rotate_left
  · (intro wz _; go_simp; try with_reducible rfl)
  try simp only [List.getElem_toArray, List.getElem_cons_succ, List.getElem_cons_zero, Act.put, List.setIfInBounds_toArray, List.set_cons_zero, List.set_cons_succ]
  refine wpAnyH_take (i := 8) (v := _) rfl (by kernel_rfl) (by kernel_rfl) (by kernel_rfl) (fun _ _ _ h => h) (yields_load1 rfl 26 _ rfl rfl hbK5 d0 Try.underlying26 rfl) hHeld ?_
  try simp only [List.getElem_toArray, List.getElem_cons_succ, List.getElem_cons_zero, Act.put, List.setIfInBounds_toArray, List.set_cons_zero, List.set_cons_succ]
  replace h := h.drew
  generalize w.drew = w1 at h hHeld ⊢
  clear w
  obtain ⟨w, rfl⟩ : ∃ q : World, q = w1 := ⟨_, rfl⟩
  refine wpAnyH_ready (rs := [9]) (by kernel_rfl) (by simp) ?_
  refine AllReadyH.cons rfl (fun K hK => ?_) AllReadyH.nil
  (go_simp; go_wp2_with (go_at_call 41; refine (PL.out _ h).mono ?_; clear h; rintro _ w ⟨rfl, h⟩))
  refine hK.out _ _ (h.le KP) (fun hHeld => ?_)
  clear hK K
  try simp only [Act.put, List.setIfInBounds_toArray, List.set_cons_zero, List.set_cons_succ]
  refine wpAnyH_ready (rs := [10]) (by kernel_rfl) (by simp) ?_
  refine AllReadyH.cons rfl (fun K hK => ?_) AllReadyH.nil
  (go_simp; go_wp2_with (go_at_call 42; refine (CF.out _ h).mono ?_; clear h; rintro _ w ⟨rfl, h⟩))
  refine hK.out _ _ (h.le KP) (fun hHeld => ?_)
  clear hK K
  try simp only [Act.put, List.setIfInBounds_toArray, List.set_cons_zero, List.set_cons_succ]
  refine wpAnyH_take (i := 11) (v := ?_) rfl (by kernel_rfl) (by kernel_rfl) (by kernel_rfl) (fun _ _ _ h => h) (Or.inl ⟨by rfl, ?_⟩) hHeld ?_
  rotate_left
  · (intro wz _; go_simp; try with_reducible rfl)
  try simp only [List.getElem_toArray, List.getElem_cons_succ, List.getElem_cons_zero, Act.put, List.setIfInBounds_toArray, List.set_cons_zero, List.set_cons_succ]
  refine wpAnyH_take (i := 12) (v := ?_) rfl (by kernel_rfl) (by kernel_rfl) (by kernel_rfl) (fun _ _ _ h => h) (Or.inl ⟨by rfl, ?_⟩) hHeld ?_
  rotate_left
  · (intro wz _; go_simp; try with_reducible rfl)
  try simp only [List.getElem_toArray, List.getElem_cons_succ, List.getElem_cons_zero, Act.put, List.setIfInBounds_toArray, List.set_cons_zero, List.set_cons_succ]
  refine wpAnyH_done (by kernel_rfl) ?_ _
  clear hHeld PL CF hfd
  go_wp2_with (first
    | (with_reducible show wpList _ _ _ ({ dst := _, op := Op.load 37 _, type := _, pos := _, after := _, guard := _ } :: _) _ _; refine wpList_load1_has h rfl 37 _ rfl rfl hb5 d2 Try.underlying37 rfl ?_)
    | ((go_at_call 58; refine (BK0.out _ h).mono ?_; clear h; rintro _ w ⟨rfl, M5, lab5, h, hM5, hB5⟩)))
  go_end0
  exact ⟨rfl, M5, lab5, gv, h, hM5, fun c o hc => hB5 c o (HKK.out _ _ hc)⟩
end
end
section
open Go.RowKit
set_option linter.unusedVariables false
set_option linter.unusedSimpArgs false
set_option linter.unnecessarySimpa false
section
variable {σ w : World} {K M : Mm} {lab : Nat → Nat} {p t q b lv : Nat} {s : MachS} {fs : List FrameS} {f : FrameS}
set_option maxHeartbeats 4000000 in
set_option maxRecDepth 20000 in
theorem give_6on (h : Has σ M w) (hT : AtTop K M lab p s t q b fs f) (hat : f.at_ = 6) {sl g : Nat} (h0 : f.r 0 = (sl : Int)) (hsl : sl < 256) (hg : f.r 2 = (g : Int)) (hg32 : g < 4294967296) (hlv : levelOf s.c (t : Nat) = (lv : Nat)) (hlc : (lv : Int) < s.c 0) (hin : InK s.c 9 (sl : Nat) 0) (hb1 : s.mem.acc < 1000000000) (hb2 : s.mem.wr < 1000000000) (hst : StampE s.ward.gens s.ward.gclk) (hgg : 0 ≤ valE lv (sl : Nat) s.ward.gens ∧ valE lv (sl : Nat) s.ward.gens < 1000000000) (hsp : s.ward.slips < 1000000000) (hgn : s.given.length < 1000000) (hhas : s.ward.has lv (sl : Nat) = true) (hfs : fs.length < 1000000) (hgo : (g : Int) < s.c 12) :
    Calls Try.prog 32 #[.agg (runC p t q b)] w fun r w' => r = .returned (.tuple #[]) ∧ ∃ M' lab' gv, Has σ M' w' ∧ AtTop K M' lab' p ((s.idled lv sl g gv).top t fs (f.goto 7)) t q b fs (f.goto 7) := by
  have ID := Lib.hid (fun (K' M' : Mm) (w : World) (lab' : Nat → Nat) (h : Has σ M' w) (hT' : AtTop K' M' lab' p s t q b fs f) => idle_on h hT' h0 hsl hg hg32 hlv hlc hin hb1 hb2 hst hgg hsp hgn hhas hfs hgo)
  clear hg hgo hst hgg hsp hgn hhas hlv hlc hin hb1 hb2 hg32 hfs
  have d0 : (runC p t q b)[0]? = some (.pointer (some ⟨p, 0, none⟩)) := rfl
  have d1 : (runC p t q b)[1]? = some (.int .i64 (t : Nat)) := rfl
  have d2 : (runC p t q b)[2]? = some (.pointer (some ⟨q, 0, none⟩)) := rfl
  have d3 : (runC p t q b)[3]? = some (.pointer (some ⟨b, 0, none⟩)) := rfl
  have dx : (runC p t q b).extract 0 (0 + 4) = runC p t q b := rfl
  have dz : (runC p t q b).size = 4 := rfl
  have f1 : f.row[1]? = some (.int .i64 6) := by rw [← hat]; rfl
  have f2 : f.row[2]? = some (.int .u64 (sl : Nat)) := by rw [← h0]; rfl
  have us : IntKind.i64.wrap ((sl : Nat) : Int) = ((sl : Nat) : Int) := IntWalk.i64_in _ (by omega)
  clear hat
  go_enter Try.func32, Try.ntmps32
  go_upto_region 1 with (fail)
  obtain ⟨M1, hbx, hle, hb4, hn⟩ := h.box (.cells (runC p t q b) 87)
  generalize w.alloc _ = wx at hbx ⊢
  generalize w.heap.size = b4 at hb4 hn ⊢
  clear h
  try clear w
  have h := hbx
  clear hbx
  obtain ⟨w, rfl⟩ : ∃ x : World, x = wx := ⟨_, rfl⟩
  obtain ⟨lab1, hT1⟩ := hT.more1 hle hn hb4
  have hnK : K b4 = none := by
    cases e : K b4 with
    | none => rfl
    | some o => have := (hT.base _ _ e).1; rw [hn] at this; cases this
  have hKK : K.le (K.upd b4 (.cells (runC p t q b) 87)) := Mm.le_upd' hnK _
  have hbK : (K.upd b4 (.cells (runC p t q b) 87)) b4 = some (.cells (runC p t q b) 87) := Mm.upd_same _ _ _
  have hfb := hT1.obj
  have ID1 := Lib.hid (fun (w : World) (h : Has σ M1 w) => ID.out _ M1 w _ h hT1)
  have HK := Lib.hid hKK
  clear hT hT1 hn hnK hKK h0 ID
  generalize runC p t q b = rc at *
  generalize f.row = fr0 at *
  go_wp2_with (first
    | (with_reducible show wpList _ _ _ ({ dst := _, op := Op.load 67 _, type := _, pos := _, after := _, guard := _ } :: _) _ _; refine wpList_load1_has h rfl 67 _ rfl rfl hb4 d3 Try.underlying67 rfl ?_)
    | (with_reducible show wpList _ _ _ ({ dst := _, op := Op.load 40 _, type := _, pos := _, after := _, guard := _ } :: _) _ _; refine wpList_load1_has h rfl 40 _ rfl rfl hfb f2 Try.underlying40 rfl ?_)
    | (with_reducible show wpList _ _ _ ({ dst := _, op := Op.load 3 _, type := _, pos := _, after := _, guard := _ } :: _) _ _; refine wpList_load1_has h rfl 3 _ rfl rfl hfb f1 Try.underlying3 rfl ?_)
    | ((with_reducible show wpList _ _ _ ({ dst := _, op := Op.load 87 _, type := _, pos := _, after := _, guard := _ } :: _) _ _); refine wpList_agg_has h rfl 87 _ rfl rfl hb4 dx dz Try.underlying87 rfl (by kernel_rfl) ?_; try simp only [Act.put, List.setIfInBounds_toArray, List.set_cons_zero, List.set_cons_succ])
    | (go_at_call 67; refine (ID1.out _ h).mono ?_; clear h; rintro _ w ⟨rfl, M2, lab2, gv, h, hT2⟩))
  go_end0
  exact ⟨rfl, M2, lab2, gv, h, hT2.less HK.out⟩
set_option maxHeartbeats 4000000 in
set_option maxRecDepth 20000 in
theorem give_6end (h : Has σ M w) (hT : AtTop K M lab p s t q b fs f) (hat : f.at_ = 6) {sl g : Nat} (h0 : f.r 0 = (sl : Int)) (hsl : sl < 256) (hg : f.r 2 = (g : Int)) (hg32 : g < 4294967296) (hlv : levelOf s.c (t : Nat) = (lv : Nat)) (hlc : (lv : Int) < s.c 0) (hin : InK s.c 9 (sl : Nat) 0) (hb1 : s.mem.acc < 1000000000) (hb2 : s.mem.wr < 1000000000) (hst : StampE s.ward.gens s.ward.gclk) (hgg : 0 ≤ valE lv (sl : Nat) s.ward.gens ∧ valE lv (sl : Nat) s.ward.gens < 1000000000) (hsp : s.ward.slips < 1000000000) (hgn : s.given.length < 1000000) (hhas : s.ward.has lv (sl : Nat) = true) (hfs : fs.length < 1000000) (hgo : s.c 12 ≤ (g : Int)) :
    Calls Try.prog 32 #[.agg (runC p t q b)] w fun r w' => r = .returned (.tuple #[]) ∧ ∃ M' lab' gv, Has σ M' w' ∧ Mach M' lab' p (MachS.backed ((s.idled lv sl g gv).top t fs (f.goto 7)) t []) ∧ Base K M' lab' := by
  have ID := Lib.hid (fun (K' M' : Mm) (w : World) (lab' : Nat → Nat) (h : Has σ M' w) (hT' : AtTop K' M' lab' p s t q b fs f) => idle_end h hT' h0 hsl hg hg32 hlv hlc hin hb1 hb2 hst hgg hsp hgn hhas hfs hgo)
  clear hg hgo hst hgg hsp hgn hhas hlv hlc hin hb1 hb2 hg32 hfs
  have d0 : (runC p t q b)[0]? = some (.pointer (some ⟨p, 0, none⟩)) := rfl
  have d1 : (runC p t q b)[1]? = some (.int .i64 (t : Nat)) := rfl
  have d2 : (runC p t q b)[2]? = some (.pointer (some ⟨q, 0, none⟩)) := rfl
  have d3 : (runC p t q b)[3]? = some (.pointer (some ⟨b, 0, none⟩)) := rfl
  have dx : (runC p t q b).extract 0 (0 + 4) = runC p t q b := rfl
  have dz : (runC p t q b).size = 4 := rfl
  have f1 : f.row[1]? = some (.int .i64 6) := by rw [← hat]; rfl
  have f2 : f.row[2]? = some (.int .u64 (sl : Nat)) := by rw [← h0]; rfl
  have us : IntKind.i64.wrap ((sl : Nat) : Int) = ((sl : Nat) : Int) := IntWalk.i64_in _ (by omega)
  clear hat
  go_enter Try.func32, Try.ntmps32
  go_upto_region 1 with (fail)
  obtain ⟨M1, hbx, hle, hb4, hn⟩ := h.box (.cells (runC p t q b) 87)
  generalize w.alloc _ = wx at hbx ⊢
  generalize w.heap.size = b4 at hb4 hn ⊢
  clear h
  try clear w
  have h := hbx
  clear hbx
  obtain ⟨w, rfl⟩ : ∃ x : World, x = wx := ⟨_, rfl⟩
  obtain ⟨lab1, hT1⟩ := hT.more1 hle hn hb4
  have hnK : K b4 = none := by
    cases e : K b4 with
    | none => rfl
    | some o => have := (hT.base _ _ e).1; rw [hn] at this; cases this
  have hKK : K.le (K.upd b4 (.cells (runC p t q b) 87)) := Mm.le_upd' hnK _
  have hbK : (K.upd b4 (.cells (runC p t q b) 87)) b4 = some (.cells (runC p t q b) 87) := Mm.upd_same _ _ _
  have hfb := hT1.obj
  have ID1 := Lib.hid (fun (w : World) (h : Has σ M1 w) => ID.out _ M1 w _ h hT1)
  have HK := Lib.hid hKK
  clear hT hT1 hn hnK hKK h0 ID
  generalize runC p t q b = rc at *
  generalize f.row = fr0 at *
  go_wp2_with (first
    | (with_reducible show wpList _ _ _ ({ dst := _, op := Op.load 67 _, type := _, pos := _, after := _, guard := _ } :: _) _ _; refine wpList_load1_has h rfl 67 _ rfl rfl hb4 d3 Try.underlying67 rfl ?_)
    | (with_reducible show wpList _ _ _ ({ dst := _, op := Op.load 40 _, type := _, pos := _, after := _, guard := _ } :: _) _ _; refine wpList_load1_has h rfl 40 _ rfl rfl hfb f2 Try.underlying40 rfl ?_)
    | (with_reducible show wpList _ _ _ ({ dst := _, op := Op.load 3 _, type := _, pos := _, after := _, guard := _ } :: _) _ _; refine wpList_load1_has h rfl 3 _ rfl rfl hfb f1 Try.underlying3 rfl ?_)
    | ((with_reducible show wpList _ _ _ ({ dst := _, op := Op.load 87 _, type := _, pos := _, after := _, guard := _ } :: _) _ _); refine wpList_agg_has h rfl 87 _ rfl rfl hb4 dx dz Try.underlying87 rfl (by kernel_rfl) ?_; try simp only [Act.put, List.setIfInBounds_toArray, List.set_cons_zero, List.set_cons_succ])
    | (go_at_call 67; refine (ID1.out _ h).mono ?_; clear h; rintro _ w ⟨rfl, M2, lab2, gv, h, hM2, hB2⟩))
  go_end0
  exact ⟨rfl, M2, lab2, gv, h, hM2, fun c o hc => hB2 c o (HK.out _ _ hc)⟩
set_option maxHeartbeats 2000000 in
set_option maxRecDepth 20000 in
theorem do_takeR (h : Has σ M w) (hT : AtTop K M lab p s t q b fs f) (hfn : f.fn = 1) (hfs : fs.length < 1000000) {R : MachS → Prop}
    (hstep : ∀ (K1 M1 : Mm) (lab1 : Nat → Nat) (w1 : World), Has σ M1 w1 → AtTop K1 M1 lab1 p s t q b fs f → Calls Try.prog 31 #[.agg (runC p t q b)] w1 fun r w' => r = .returned (.tuple #[]) ∧ ∃ M' lab' s', Has σ M' w' ∧ Mach M' lab' p s' ∧ Base K1 M' lab' ∧ R s') :
    Calls Try.prog 6 #[.pointer (some ⟨p, 0, none⟩), .int .i64 (t : Nat)] w fun r w' => r = .returned (.tuple #[]) ∧ ∃ M' lab' s', Has σ M' w' ∧ Base K M' lab' ∧ Mach M' lab' p s' ∧ R s' := by
  obtain ⟨fv, hv, fbs, hTh⟩ := hT.thr
  have hlen : fbs.length = fs.length := by
    have h1 := hTh.flen
    rw [hT.fr] at h1
    simpa using h1
  have TH := Lib.hid (fun (w : World) (h : Has σ M w) => mThread_yes h hT.mach hT.tp)
  have TP := Lib.hid (fun (w : World) (h : Has σ M w) => thrTop_eq h hTh (by omega))
  have hfb := hT.obj
  have f0 : f.row[0]? = some (.int .i64 f.fn) := rfl
  have HT := Lib.hid hT
  have HS := Lib.hid hstep
  rw [hfn] at f0
  clear hT hTh hlen hfs hfn hstep
  generalize f.row = fr0 at *
  go_enter Try.func6, Try.ntmps6
  go_upto_region 3 with (first
    | (go_at_call 12; refine (TH.out _ h).mono ?_; clear h; rintro _ w ⟨rfl, h⟩)
    | (go_at_call 24; refine (TP.out _ h).mono ?_; clear h; rintro _ w ⟨rfl, h⟩)
    | ((with_reducible show wpList _ _ _ ({ dst := _, op := Op.alloc 84, type := _, pos := _, after := _, guard := _ } :: _) _ _); refine wpList_alloc_has h rfl 84 rfl _ zrun ?_; clear h; intro bx w h hnx; try simp only [Act.put, List.setIfInBounds_toArray, List.set_cons_zero, List.set_cons_succ])
    | ((with_reducible show wpList _ _ _ ({ dst := _, op := Op.store 84 _ _, type := _, pos := _, after := _, guard := _ } :: _) _ _); refine wpList_storeAll_has (cells := runC p t q b) h rfl 84 _ _ rfl rfl rfl (Mm.upd_same _ _ _) rfl rfl rfl (by kernel_rfl) rfl ?_; clear h; intro w h))
  rw [Mm.upd_upd] at h
  have hfb1 := Mm.upd_of (o := .cells (runC p t q b) 84) hnx hfb
  have hle := Mm.le_upd' hnx (.cells (runC p t q b) 84)
  have hbx := Mm.upd_same M bx (.cells (runC p t q b) 84)
  generalize M.upd bx _ = M1 at h hfb1 hle hbx
  obtain ⟨lab1, hT1⟩ := HT.out.more1 hle hnx hbx
  have hnK : K bx = none := by
    cases e : K bx with
    | none => rfl
    | some o => have := (HT.out.base _ _ e).1; rw [hnx] at this; cases this
  have HKK := Lib.hid (Mm.le_upd' hnK (.cells (runC p t q b) 84))
  have ST := Lib.hid (fun (w : World) (h : Has σ M1 w) => HS.out _ M1 lab1 w h hT1)
  clear hT1 hnK hnx hle TH TP
  unfold runC at ST hbx
  have dx : (#[.pointer (some ⟨p, 0, none⟩), .int .i64 (t : Nat), .pointer (some ⟨q, 0, none⟩), .pointer (some ⟨b, 0, none⟩)] : Array Value).extract 0 (0 + 4) = #[.pointer (some ⟨p, 0, none⟩), .int .i64 (t : Nat), .pointer (some ⟨q, 0, none⟩), .pointer (some ⟨b, 0, none⟩)] := rfl
  go_wp2_with (first
    | (with_reducible show wpList _ _ _ ({ dst := _, op := Op.load 3 _, type := _, pos := _, after := _, guard := _ } :: _) _ _; refine wpList_load1_has h rfl 3 _ rfl rfl hfb1 f0 Try.underlying3 rfl ?_)
    | ((with_reducible show wpList _ _ _ ({ dst := _, op := Op.load 84 _, type := _, pos := _, after := _, guard := _ } :: _) _ _); refine wpList_agg_has h rfl 84 _ rfl rfl hbx dx rfl Try.underlying84 rfl (by kernel_rfl) ?_; try simp only [Act.put, List.setIfInBounds_toArray, List.set_cons_zero, List.set_cons_succ])
    | (go_at_call 31; refine (ST.out _ h).mono ?_; clear h; rintro _ w ⟨rfl, M2, lab2, s2, h, hM2, hB2, hR2⟩))
  go_end0
  exact ⟨rfl, M2, lab2, s2, h, fun c o hc => hB2 c o (HKK.out _ _ hc), hM2, hR2⟩
set_option maxHeartbeats 2000000 in
set_option maxRecDepth 20000 in
theorem do_giveR (h : Has σ M w) (hT : AtTop K M lab p s t q b fs f) (hfn : f.fn = 2) (hfs : fs.length < 1000000) {R : MachS → Prop}
    (hstep : ∀ (K1 M1 : Mm) (lab1 : Nat → Nat) (w1 : World), Has σ M1 w1 → AtTop K1 M1 lab1 p s t q b fs f → Calls Try.prog 32 #[.agg (runC p t q b)] w1 fun r w' => r = .returned (.tuple #[]) ∧ ∃ M' lab' s', Has σ M' w' ∧ Mach M' lab' p s' ∧ Base K1 M' lab' ∧ R s') :
    Calls Try.prog 6 #[.pointer (some ⟨p, 0, none⟩), .int .i64 (t : Nat)] w fun r w' => r = .returned (.tuple #[]) ∧ ∃ M' lab' s', Has σ M' w' ∧ Base K M' lab' ∧ Mach M' lab' p s' ∧ R s' := by
  obtain ⟨fv, hv, fbs, hTh⟩ := hT.thr
  have hlen : fbs.length = fs.length := by
    have h1 := hTh.flen
    rw [hT.fr] at h1
    simpa using h1
  have TH := Lib.hid (fun (w : World) (h : Has σ M w) => mThread_yes h hT.mach hT.tp)
  have TP := Lib.hid (fun (w : World) (h : Has σ M w) => thrTop_eq h hTh (by omega))
  have hfb := hT.obj
  have f0 : f.row[0]? = some (.int .i64 f.fn) := rfl
  have HT := Lib.hid hT
  have HS := Lib.hid hstep
  rw [hfn] at f0
  clear hT hTh hlen hfs hfn hstep
  generalize f.row = fr0 at *
  go_enter Try.func6, Try.ntmps6
  go_upto_region 3 with (first
    | (go_at_call 12; refine (TH.out _ h).mono ?_; clear h; rintro _ w ⟨rfl, h⟩)
    | (go_at_call 24; refine (TP.out _ h).mono ?_; clear h; rintro _ w ⟨rfl, h⟩)
    | ((with_reducible show wpList _ _ _ ({ dst := _, op := Op.alloc 84, type := _, pos := _, after := _, guard := _ } :: _) _ _); refine wpList_alloc_has h rfl 84 rfl _ zrun ?_; clear h; intro bx w h hnx; try simp only [Act.put, List.setIfInBounds_toArray, List.set_cons_zero, List.set_cons_succ])
    | ((with_reducible show wpList _ _ _ ({ dst := _, op := Op.store 84 _ _, type := _, pos := _, after := _, guard := _ } :: _) _ _); refine wpList_storeAll_has (cells := runC p t q b) h rfl 84 _ _ rfl rfl rfl (Mm.upd_same _ _ _) rfl rfl rfl (by kernel_rfl) rfl ?_; clear h; intro w h))
  rw [Mm.upd_upd] at h
  have hfb1 := Mm.upd_of (o := .cells (runC p t q b) 84) hnx hfb
  have hle := Mm.le_upd' hnx (.cells (runC p t q b) 84)
  have hbx := Mm.upd_same M bx (.cells (runC p t q b) 84)
  generalize M.upd bx _ = M1 at h hfb1 hle hbx
  obtain ⟨lab1, hT1⟩ := HT.out.more1 hle hnx hbx
  have hnK : K bx = none := by
    cases e : K bx with
    | none => rfl
    | some o => have := (HT.out.base _ _ e).1; rw [hnx] at this; cases this
  have HKK := Lib.hid (Mm.le_upd' hnK (.cells (runC p t q b) 84))
  have ST := Lib.hid (fun (w : World) (h : Has σ M1 w) => HS.out _ M1 lab1 w h hT1)
  clear hT1 hnK hnx hle TH TP
  unfold runC at ST hbx
  have dx : (#[.pointer (some ⟨p, 0, none⟩), .int .i64 (t : Nat), .pointer (some ⟨q, 0, none⟩), .pointer (some ⟨b, 0, none⟩)] : Array Value).extract 0 (0 + 4) = #[.pointer (some ⟨p, 0, none⟩), .int .i64 (t : Nat), .pointer (some ⟨q, 0, none⟩), .pointer (some ⟨b, 0, none⟩)] := rfl
  go_wp2_with (first
    | (with_reducible show wpList _ _ _ ({ dst := _, op := Op.load 3 _, type := _, pos := _, after := _, guard := _ } :: _) _ _; refine wpList_load1_has h rfl 3 _ rfl rfl hfb1 f0 Try.underlying3 rfl ?_)
    | ((with_reducible show wpList _ _ _ ({ dst := _, op := Op.load 84 _, type := _, pos := _, after := _, guard := _ } :: _) _ _); refine wpList_agg_has h rfl 84 _ rfl rfl hbx dx rfl Try.underlying84 rfl (by kernel_rfl) ?_; try simp only [Act.put, List.setIfInBounds_toArray, List.set_cons_zero, List.set_cons_succ])
    | (go_at_call 32; refine (ST.out _ h).mono ?_; clear h; rintro _ w ⟨rfl, M2, lab2, s2, h, hM2, hB2, hR2⟩))
  go_end0
  exact ⟨rfl, M2, lab2, s2, h, fun c o hc => hB2 c o (HKK.out _ _ hc), hM2, hR2⟩
/-- A step of Take, or of Give. -/
theorem stepR (h : Has σ M w) (hM : Mach M lab p s) (hB : Base K M lab) (hq : s.tp[t]? = some q) (hf : (s.thr t).frames = fs ++ [f]) (hrun : ((s.thr t).st || (s.thr t).ki) = false) (hlv : levelOf s.c t = (lv : Nat)) (hb1 : s.mem.acc < 1000000000) (hb2 : s.steps < 1000000) (hb3 : ∀ k, s.clk k < 1000000000) (hfs : fs.length < 1000000) {R : MachS → Prop} (hR : ∀ s2, R s2 → s2.tp = s.tp ∧ s2.steps < 1000000000 ∧ (s2.thr t).frames.length < 1000000000)
    (hstep : (f.fn = 1 ∧ ∀ (b : Nat) (K1 M1 : Mm) (lab1 : Nat → Nat) (w1 : World), Has σ M1 w1 → AtTop K1 M1 lab1 p (s.tick lv) t q b fs f → Calls Try.prog 31 #[.agg (runC p t q b)] w1 fun r w' => r = .returned (.tuple #[]) ∧ ∃ M' lab' s', Has σ M' w' ∧ Mach M' lab' p s' ∧ Base K1 M' lab' ∧ R s') ∨
      (f.fn = 2 ∧ ∀ (b : Nat) (K1 M1 : Mm) (lab1 : Nat → Nat) (w1 : World), Has σ M1 w1 → AtTop K1 M1 lab1 p (s.tick lv) t q b fs f → Calls Try.prog 32 #[.agg (runC p t q b)] w1 fun r w' => r = .returned (.tuple #[]) ∧ ∃ M' lab' s', Has σ M' w' ∧ Mach M' lab' p s' ∧ Base K1 M' lab' ∧ R s')) :
    Calls Try.prog 26 #[.pointer (some ⟨p, 0, none⟩), .int .i64 (t : Nat), .func (.func 6) #[] #[]] w fun r w' => ∃ M' lab' s2, R s2 ∧ r = .returned (.bool (!(s2.thr t).frames.isEmpty)) ∧ Has σ M' w' ∧ Mach M' lab' p (s2.after s lv) ∧ Base K M' lab' := by
  have STP := step_eq (R := R) (F := 6) (caps := #[]) h hM hB hq (by rw [hf]; simp) hrun hlv hb1 (by omega) hb3 (by rw [hf]; simp; omega) (by kernel_rfl)
    (fun M1 lab1 w1 h1 hM1 hB1 => by
      obtain ⟨b, hT⟩ := AtTop.of (f := f) (fs := fs) hM1 hB1 hq hf
      rcases hstep with ⟨hfn, hs⟩ | ⟨hfn, hs⟩
      · exact do_takeR h1 hT hfn hfs (R := R) (fun K1 M2 lab2 w2 h2 hT2 => hs b K1 M2 lab2 w2 h2 hT2)
      · exact do_giveR h1 hT hfn hfs (R := R) (fun K1 M2 lab2 w2 h2 hT2 => hs b K1 M2 lab2 w2 h2 hT2)) hR
  refine STP.mono fun r w' hr => ?_
  obtain ⟨M', lab', x, hx, hr, h', hB', hM'⟩ := hr
  exact ⟨M', lab', x, hx, hr, h', hM', hB'⟩
end
end
end Go.Proofs.Ytefjjagejgeedaa
