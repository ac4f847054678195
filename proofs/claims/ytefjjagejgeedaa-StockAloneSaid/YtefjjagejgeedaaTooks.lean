/- Law 22: Take alone: the free list is empty. -/
import Derived.Test.YtefjjagejgeedaaTakeE
namespace Go.Proofs.Ytefjjagejgeedaa
section
open Go.RowKit
set_option linter.unusedVariables false
set_option linter.unusedSimpArgs false
set_option linter.unnecessarySimpa false
/-- n steps behind s, thread t alone having stepped: it is within frame f. -/
structure At (s S : MachS) (t n : Nat) (fs : List FrameS) (f : FrameS) : Prop where
  c : S.c = s.c
  tp : S.tp = s.tp
  acc : S.mem.acc = s.mem.acc + n
  wr : S.mem.wr ≤ s.mem.wr + 1
  N : S.mem.N = s.mem.N
  steps : S.steps = s.steps + n
  clk : ∀ k, S.clk k ≤ s.clk k + n
  th : S.thr t = { s.thr t with frames := fs ++ [f] }
  oth : ∀ j, j ≠ t → S.thr j = s.thr j
theorem At.st {s S : MachS} {t n : Nat} {fs : List FrameS} {f : FrameS} (h : At s S t n fs f) : (S.thr t).st = (s.thr t).st := by rw [h.th]
theorem At.ki {s S : MachS} {t n : Nat} {fs : List FrameS} {f : FrameS} (h : At s S t n fs f) : (S.thr t).ki = (s.thr t).ki := by rw [h.th]
theorem At.fr {s S : MachS} {t n : Nat} {fs : List FrameS} {f : FrameS} (h : At s S t n fs f) : (S.thr t).frames = fs ++ [f] := by rw [h.th]
def takeF (us : List Int) : FrameS := ⟨1, 0, fun i => us.getD i 0⟩
theorem At.first (s : MachS) (t : Nat) (us : List Int) : At s (s.begun t 1 us) t 0 (s.thr t).frames (takeF us) := by
  have e : (s.begun t 1 us).thr t = (s.thr t).call 1 us := if_pos rfl
  refine ⟨rfl, rfl, rfl, Nat.le_succ _, rfl, rfl, fun k => Nat.le_refl _, by rw [e]; rfl, fun j hj => if_neg hj⟩
theorem At.next {s S : MachS} {t n lv : Nat} {fs : List FrameS} {f f' : FrameS} (h : At s S t n fs f) {m : MemS} {wd : WardS} (h1 : m.acc = S.mem.acc + 1) (h2 : m.wr ≤ s.mem.wr + 1) (h3 : m.N = S.mem.N) : At s ((MachS.top { S.tick lv with mem := m, ward := wd } t fs f').after S lv) t (n + 1) fs f' := by
  obtain ⟨a1, a2, a3, a4, a5, a6, a7, a8⟩ := after_same (MachS.top { S.tick lv with mem := m, ward := wd } t fs f') S lv
  have e : (MachS.top { S.tick lv with mem := m, ward := wd } t fs f').thr t = { S.thr t with frames := fs ++ [f'] } := if_pos rfl
  refine ⟨a1.trans h.c, a2.trans h.tp, ?_, ?_, ?_, ?_, fun k => ?_, ?_, fun j hj => ?_⟩
  · rw [a3]; show m.acc = _; rw [h1, h.acc]; omega
  · rw [a3]; exact h2
  · rw [a3]; exact h3.trans h.N
  · rw [a7]; show S.steps + 1 = _; rw [h.steps]; omega
  · rw [a6]
    show (if lv ≤ k ∧ k < 4 then S.clk k + 1 else S.clk k) ≤ _
    have := h.clk k
    split <;> omega
  · rw [a5, e, h.th]
  · rw [a5]; exact (if_neg hj).trans (h.oth j hj)
theorem atK_hit {c : Nat → Int} (hc : ConfMay c) {m : MemS} (hN : (m.N : Int) = c 0 * firsts c 10) {lv : Nat} (hl : (lv : Int) < c 0) {k : Nat} {i j : Int} (hk : InK c k i j) : m.hit (atK c lv k i j) = true := by
  have hs := firsts_succ c (k := k) hk.kind
  have hnn := numK_nn hk
  have hhi := hk.high
  have hf0 := (firsts_bd hc k).1
  have hkk := hk.kind
  have hle : firsts c (k + 1) ≤ firsts c 10 := by
    obtain ⟨_, _, _, _, ⟨g2, g3⟩, ⟨g4, g5⟩, _⟩ := hc
    unfold firsts
    rcases k with _ | _ | _ | _ | _ | _ | _ | _ | _ | _ | k <;> simp <;> omega
  obtain ⟨L, B, S, hn⟩ := Nums.of hc
  rw [hn.sz] at hle hN
  obtain ⟨T, hT⟩ : ∃ T : Nat, 18 + B + 6 * S = T := ⟨_, rfl⟩
  rw [hT] at hle hN
  rw [hn.lev] at hN hl
  unfold MemS.hit atK
  rw [hn.sz, hT, Bool.and_eq_true, decide_eq_true_eq, decide_eq_true_eq]
  have h1 : 0 ≤ (lv : Int) * (T : Int) := Int.mul_nonneg (by omega) (by omega)
  have h2 : ((lv + 1 : Nat) : Int) * (T : Int) ≤ (L : Int) * (T : Int) := Int.mul_le_mul_of_nonneg_right (by omega) (by omega)
  have h3 : ((lv + 1 : Nat) : Int) * (T : Int) = (lv : Int) * (T : Int) + T := by rw [Int.natCast_add, Int.add_mul]; simp
  exact ⟨by omega, by rw [hN]; omega⟩
theorem load_hit {m : MemS} {a : Int} (h : m.hit a = true) : m.load a = m.f a.toNat := by unfold MemS.load; rw [h]; rfl
theorem at_hit {m : MemS} {a : Int} (h : m.hit a = true) : m.at_ a = { m with acc := m.acc + 1, last := a, named := true } := by unfold MemS.at_; rw [h]; rfl
theorem store_hit {m : MemS} {a v : Int} (h : m.hit a = true) : m.store a v = { m with acc := m.acc + 1, last := a, named := true, f := upd m.f a.toNat v, wr := m.wr + 1 } := by unfold MemS.store; rw [h, if_pos rfl, at_hit h]
theorem inK_link {c : Nat → Int} {i : Nat} (h1 : 1 ≤ i) (h2 : (i : Int) ≤ c 10) : InK c 8 (i : Nat) 0 := ⟨by omega, by unfold baseK; simp; omega, by omega, by omega, fun _ => rfl, by unfold numK many baseK; simp; omega⟩
theorem inK_head {c : Nat → Int} {i : Nat} (h1 : 1 ≤ i) (h2 : (i : Int) ≤ c 10) : InK c 9 (i : Nat) 0 := ⟨by omega, by unfold baseK; simp; omega, by omega, by omega, fun h => absurd rfl h, by unfold numK many; simp; omega⟩
end
section
open Go.RowKit
set_option linter.unusedVariables false
set_option linter.unusedSimpArgs false
set_option linter.unnecessarySimpa false
/-- What Take needs of a machine. -/
structure CanTake (s : MachS) (t q lv : Nat) : Prop where
  may : ConfMay s.c
  memN : (s.mem.N : Int) = s.c 0 * firsts s.c 10
  tp : s.tp[t]? = some q
  lvl : levelOf s.c t = (lv : Nat)
  lvc : (lv : Int) < s.c 0
  run : ((s.thr t).st || (s.thr t).ki) = false
  acc : s.mem.acc < 100000000
  wr : s.mem.wr < 100000000
  steps : s.steps < 100000
  clk : ∀ k, s.clk k < 100000000
  fr : (s.thr t).frames.length < 100000
def St5 (S0 S1 S2 S3 S4 : MachS) : Nat → MachS
  | 0 => S0
  | 1 => S1
  | 2 => S2
  | 3 => S3
  | _ => S4
/-- What is behind a Take that told a slot. -/
structure Took (s S : MachS) (t lv : Nat) (sl gen : Nat) (a : Nat) (v : Int) : Prop where
  c : S.c = s.c
  tp : S.tp = s.tp
  f : S.mem.f = upd s.mem.f a v
  N : S.mem.N = s.mem.N
  acc : S.mem.acc = s.mem.acc + 4
  wr : S.mem.wr ≤ s.mem.wr + 1
  steps : S.steps = s.steps + 4
  clk : ∀ k, S.clk k ≤ s.clk k + 4
  ward : S.ward = s.ward.take lv (sl : Nat)
  thr : S.thr t = { s.thr t with told := fun i => ([(sl : Int), (gen : Int)] : List Int).getD i 0 }
  oth : ∀ j, j ≠ t → S.thr j = s.thr j
set_option maxHeartbeats 4000000 in
theorem took_trail {σ : World} (K : Mm) (p : Nat) {s : MachS} {t q lv : Nat} (hs : CanTake s t q lv) {X Y Z sl : Nat} (hX : s.mem.f (atK s.c lv 0 0 0).toNat = (X : Int)) (hX64 : X < 18446744073709551616) (hsl : cutN X 0 8 = sl) (hp1 : 1 ≤ sl) (h10 : (sl : Int) ≤ s.c 10) (hY : s.mem.f (atK s.c lv 8 (sl : Nat) 0).toNat = (Y : Int)) (hY63 : Y < 9223372036854775808) (hZ : s.mem.f (atK s.c lv 9 (sl : Nat) 0).toNat = (Z : Int)) (hZ64 : Z < 18446744073709551616) (hth : s.ward.there lv (sl : Nat) = true) (hv0 : valE lv (sl : Nat) s.ward.held = 0) :
    ∃ St : Nat → MachS, St 0 = s.begun t 1 [] ∧ Trail σ K p t q (.func (.func 6) #[] #[]) (s.thr t).frames.length St 4 ∧ Took s (St 4) t lv sl (cutN Z 2 32) (atK s.c lv 0 0 0).toNat (mkTop Y (cutN X 8 56 + 1) : Nat) := by
  have hA0 := atK_hit hs.may hs.memN hs.lvc (inK_free s.c)
  have hA1 := atK_hit hs.may hs.memN hs.lvc (inK_link (c := s.c) hp1 h10)
  have hA3 := atK_hit hs.may hs.memN hs.lvc (inK_head (c := s.c) hp1 h10)
  have hne : (atK s.c lv 9 (sl : Nat) 0).toNat ≠ (atK s.c lv 0 0 0).toNat := by
    have g0 := MemS.hit_iff.1 hA0
    have g3 := MemS.hit_iff.1 hA3
    have e0 : atK s.c lv 0 0 0 = (lv : Int) * firsts s.c 10 + firsts s.c 0 + numK 0 0 0 := rfl
    have e3 : atK s.c lv 9 (sl : Nat) 0 = (lv : Int) * firsts s.c 10 + firsts s.c 9 + numK 9 (sl : Nat) 0 := rfl
    have hn0 : numK 0 0 0 = 0 := by unfold numK baseK; simp
    have hn9 : numK 9 (sl : Nat) 0 = ((sl : Int) - 1) * 5 := by unfold numK; simp
    have hf0 : firsts s.c 0 = 0 := rfl
    have hf9 : firsts s.c 9 = 18 + s.c 11 + s.c 10 := rfl
    have hb := hs.may.2.2.2.2.2.1.1
    have hS := hs.may.2.2.2.2.1.1
    rw [hn0, hf0] at e0
    rw [hn9, hf9] at e3
    omega
  generalize hA0d : atK s.c lv 0 0 0 = A0 at *
  generalize hA1d : atK s.c lv 8 (sl : Nat) 0 = A1 at *
  generalize hA3d : atK s.c lv 9 (sl : Nat) 0 = A3 at *
  obtain ⟨nv, hnv⟩ : ∃ nv, mkTop Y (cutN X 8 56 + 1) = nv := ⟨_, rfl⟩
  rw [hnv]
  -- the states
  obtain ⟨m1, hm1⟩ : ∃ m1, m1 = s.mem.at_ A0 := ⟨_, rfl⟩
  have em1 := at_hit hA0
  rw [← hm1] at em1
  have hA1' : m1.hit A1 = true := by rw [em1]; exact hA1
  obtain ⟨m2, hm2⟩ : ∃ m2, m2 = m1.at_ A1 := ⟨_, rfl⟩
  have em2 := at_hit hA1'
  rw [← hm2] at em2
  have hA0' : m2.hit A0 = true := by rw [em2, em1]; exact hA0
  have hsw : m2.swaps A0 X = true := by
    unfold MemS.swaps
    rw [hA0', em2, em1]
    show (true && (s.mem.f A0.toNat == (X : Int))) = true
    rw [hX]; simp
  obtain ⟨m3, hm3⟩ : ∃ m3, m3 = m2.cas A0 X nv := ⟨_, rfl⟩
  have em3 : m3 = { m2 with acc := m2.acc + 1, last := A0, named := true, f := upd m2.f A0.toNat nv, wr := m2.wr + 1 } := by
    rw [hm3]; unfold MemS.cas; rw [hsw, if_pos rfl, store_hit hA0']
  have hA3' : m3.hit A3 = true := by rw [em3, em2, em1]; exact hA3
  obtain ⟨m4, hm4⟩ : ∃ m4, m4 = m3.at_ A3 := ⟨_, rfl⟩
  have em4 := at_hit hA3'
  rw [← hm4] at em4
  have l0 : s.mem.load A0 = (X : Int) := (load_hit hA0).trans hX
  have l1 : m1.load A1 = (Y : Int) := by rw [load_hit hA1', em1]; exact hY
  have l3 : m3.load A3 = (Z : Int) := by
    rw [load_hit hA3', em3]
    show upd m2.f A0.toNat nv A3.toNat = _
    unfold upd
    rw [if_neg hne, em2, em1]
    exact hZ
  have a1 : m1.acc = s.mem.acc + 1 := by rw [em1]
  have a2 : m2.acc = m1.acc + 1 := by rw [em2]
  have a3 : m3.acc = m2.acc + 1 := by rw [em3]
  have a4 : m4.acc = m3.acc + 1 := by rw [em4]
  have w1 : m1.wr = s.mem.wr := by rw [em1]
  have w2 : m2.wr = s.mem.wr := by rw [em2]; exact w1
  have w3 : m3.wr = s.mem.wr + 1 := by rw [em3]; show m2.wr + 1 = _; rw [w2]
  have w4 : m4.wr = s.mem.wr + 1 := by rw [em4]; exact w3
  have n1 : m1.N = s.mem.N := by rw [em1]
  have n2 : m2.N = m1.N := by rw [em2]
  have n3 : m3.N = m2.N := by rw [em3]
  have n4 : m4.N = m3.N := by rw [em4]
  have f4 : m4.f = upd s.mem.f A0.toNat nv := by rw [em4, em3]; show upd m2.f _ _ = _; rw [em2, em1]
  clear em1 em2 em3 em4
  obtain ⟨S0, hS0⟩ : ∃ S0, S0 = s.begun t 1 [] := ⟨_, rfl⟩
  have H0 : At s S0 t 0 (s.thr t).frames (takeF []) := by rw [hS0]; exact At.first s t []
  have q0 : S0.mem = s.mem := by rw [hS0]; rfl
  have d0 : S0.ward = s.ward := by rw [hS0]; rfl
  generalize hfs : (s.thr t).frames = fs at *
  have hfl : fs.length < 100000 := by rw [← hfs]; exact hs.fr
  obtain ⟨S1, hS1⟩ : ∃ S1, S1 = (MachS.top { S0.tick lv with mem := m1, ward := S0.ward } t fs (((takeF []).reg 1 X).goto 1)).after S0 lv := ⟨_, rfl⟩
  have H1 : At s S1 t 1 fs (((takeF []).reg 1 X).goto 1) := by rw [hS1]; exact H0.next (by rw [a1, q0]) (by rw [w1]; omega) (by rw [n1, q0])
  have q1 : S1.mem = m1 ∧ S1.ward = s.ward := by rw [hS1]; exact ⟨(after_same _ _ _).2.2.1, (after_same _ _ _).2.2.2.1.trans d0⟩
  obtain ⟨S2, hS2⟩ : ∃ S2, S2 = (MachS.top { S1.tick lv with mem := m2, ward := S1.ward } t fs (((((takeF []).reg 1 X).goto 1).reg 2 Y).goto 2)).after S1 lv := ⟨_, rfl⟩
  have H2 : At s S2 t 2 fs (((((takeF []).reg 1 X).goto 1).reg 2 Y).goto 2) := by rw [hS2]; exact H1.next (by rw [a2, q1.1]) (by rw [w2]; omega) (by rw [n2, q1.1])
  have q2 : S2.mem = m2 ∧ S2.ward = s.ward := by rw [hS2]; exact ⟨(after_same _ _ _).2.2.1, (after_same _ _ _).2.2.2.1.trans q1.2⟩
  obtain ⟨S3, hS3⟩ : ∃ S3, S3 = (MachS.top { S2.tick lv with mem := m3, ward := S2.ward.take lv (sl : Nat) } t fs ((((((takeF []).reg 1 X).goto 1).reg 2 Y).goto 2).goto 3)).after S2 lv := ⟨_, rfl⟩
  have H3 : At s S3 t 3 fs ((((((takeF []).reg 1 X).goto 1).reg 2 Y).goto 2).goto 3) := by rw [hS3]; exact H2.next (by rw [a3, q2.1]) (by rw [w3]; omega) (by rw [n3, q2.1])
  have q3 : S3.mem = m3 ∧ S3.ward = s.ward.take lv (sl : Nat) := by rw [hS3]; exact ⟨(after_same _ _ _).2.2.1, (after_same _ _ _).2.2.2.1.trans (by show S2.ward.take _ _ = _; rw [q2.2])⟩
  obtain ⟨S4, hS4⟩ : ∃ S4, S4 = (MachS.backed { S3.tick lv with mem := m4 } t [(sl : Nat), (cutN Z 2 32 : Nat)]).after S3 lv := ⟨_, rfl⟩
  have q4 := after_same (MachS.backed { S3.tick lv with mem := m4 } t [(sl : Nat), (cutN Z 2 32 : Nat)]) S3 lv
  rw [← hS4] at q4
  have t4 : S4.thr t = (S3.thr t).back [(sl : Nat), (cutN Z 2 32 : Nat)] := by rw [q4.2.2.2.2.1]; exact if_pos rfl
  refine ⟨St5 S0 S1 S2 S3 S4, hS0, ⟨?_, ?_, ?_, ?_⟩, ?_⟩
  · intro i hi M lab w h hM hB
    rcases i with _ | _ | _ | _ | i
    · have ec : (S0.tick lv).c = s.c := H0.c
      have em : (S0.tick lv).mem = s.mem := q0
      show Calls _ _ _ _ fun r w' => ∃ M' lab' b, r = .returned (.bool b) ∧ Has σ M' w' ∧ Mach M' lab' p S1 ∧ Base K M' lab'
      rw [hS1]
      replace hM : Mach M lab p S0 := hM
      refine step_take h hM hB (q := q) (by rw [H0.tp]; exact hs.tp) H0.fr rfl (by rw [H0.st, H0.ki]; exact hs.run) (by rw [H0.c]; exact hs.lvl) (by rw [H0.acc]; have := hs.acc; omega) (by rw [H0.steps]; have := hs.steps; omega) (fun k => by have := H0.clk k; have := hs.clk k; omega) (by omega) rfl rfl ?_ ?_
      · show (if t = t then _ else _ : ThrS).frames.length ≤ _
        rw [if_pos rfl]; simp
      · intro b K1 M1 lab1 w1 h1 hT
        have SPx := spotAt_of (σ := σ) hT.mach (lv := lv) (by rw [ec]; exact hs.lvl) (by rw [ec]; exact hs.lvc) (inK_free _)
        rw [ec, hA0d] at SPx
        have tk := take_0 h1 hT rfl (x := 0) rfl (by omega) SPx (by rw [em]; have := hs.acc; omega)
        rw [em, l0, ← hm1] at tk
        exact tk.mono fun r w' ⟨e, M', lab', h', hT'⟩ => ⟨e, M', lab', h', hT'.mach, hT'.base⟩
    · have ec : (S1.tick lv).c = s.c := H1.c
      have em : (S1.tick lv).mem = m1 := q1.1
      show Calls _ _ _ _ fun r w' => ∃ M' lab' b, r = .returned (.bool b) ∧ Has σ M' w' ∧ Mach M' lab' p S2 ∧ Base K M' lab'
      rw [hS2]
      replace hM : Mach M lab p S1 := hM
      refine step_take h hM hB (q := q) (by rw [H1.tp]; exact hs.tp) H1.fr rfl (by rw [H1.st, H1.ki]; exact hs.run) (by rw [H1.c]; exact hs.lvl) (by rw [H1.acc]; have := hs.acc; omega) (by rw [H1.steps]; have := hs.steps; omega) (fun k => by have := H1.clk k; have := hs.clk k; omega) (by omega) rfl rfl ?_ ?_
      · show (if t = t then _ else _ : ThrS).frames.length ≤ _
        rw [if_pos rfl]; simp
      · intro b K1 M1 lab1 w1 h1 hT
        have SPx := spotAt_of (σ := σ) hT.mach (lv := lv) (by rw [ec]; exact hs.lvl) (by rw [ec]; exact hs.lvc) (inK_link (i := sl) hp1 (by rw [ec]; exact h10))
        rw [ec, hA1d, ← hsl] at SPx
        have tk := take_1 h1 hT rfl (x := X) rfl hX64 (by rw [hsl]; omega) SPx (by rw [em, a1]; have := hs.acc; omega)
        rw [em, l1, ← hm2] at tk
        exact tk.mono fun r w' ⟨e, M', lab', h', hT'⟩ => ⟨e, M', lab', h', hT'.mach, hT'.base⟩
    · have ec : (S2.tick lv).c = s.c := H2.c
      have em : (S2.tick lv).mem = m2 := q2.1
      have ew : (S2.tick lv).ward = s.ward := q2.2
      show Calls _ _ _ _ fun r w' => ∃ M' lab' b, r = .returned (.bool b) ∧ Has σ M' w' ∧ Mach M' lab' p S3 ∧ Base K M' lab'
      rw [hS3]
      replace hM : Mach M lab p S2 := hM
      refine step_take h hM hB (q := q) (by rw [H2.tp]; exact hs.tp) H2.fr rfl (by rw [H2.st, H2.ki]; exact hs.run) (by rw [H2.c]; exact hs.lvl) (by rw [H2.acc]; have := hs.acc; omega) (by rw [H2.steps]; have := hs.steps; omega) (fun k => by have := H2.clk k; have := hs.clk k; omega) (by omega) rfl rfl ?_ ?_
      · show (if t = t then _ else _ : ThrS).frames.length ≤ _
        rw [if_pos rfl]; simp
      · intro b K1 M1 lab1 w1 h1 hT
        have tk := take_2yes (lv := lv) h1 hT rfl (x := X) (y := Y) rfl hX64 rfl hY63 (by rw [ec]; exact hs.lvl) (by rw [ec]; exact hs.lvc) (by rw [em, a2, a1]; have := hs.acc; omega) (by rw [em, w2]; have := hs.wr; omega) (by rw [em, ec, hA0d]; exact hsw) (by rw [ew, hsl]; exact hth) (by rw [ew, hsl]; exact hv0)
        rw [em, show atK (S2.tick lv).c lv 0 0 0 = A0 by rw [ec]; exact hA0d, hsl, hnv, ← hm3] at tk
        exact tk.mono fun r w' ⟨e, M', lab', h', hT'⟩ => ⟨e, M', lab', h', hT'.mach, hT'.base⟩
    · have ec : (S3.tick lv).c = s.c := H3.c
      have em : (S3.tick lv).mem = m3 := q3.1
      show Calls _ _ _ _ fun r w' => ∃ M' lab' b, r = .returned (.bool b) ∧ Has σ M' w' ∧ Mach M' lab' p S4 ∧ Base K M' lab'
      rw [hS4]
      replace hM : Mach M lab p S3 := hM
      refine step_take h hM hB (q := q) (by rw [H3.tp]; exact hs.tp) H3.fr rfl (by rw [H3.st, H3.ki]; exact hs.run) (by rw [H3.c]; exact hs.lvl) (by rw [H3.acc]; have := hs.acc; omega) (by rw [H3.steps]; have := hs.steps; omega) (fun k => by have := H3.clk k; have := hs.clk k; omega) (by omega) rfl rfl ?_ ?_
      · show (if t = t then _ else _ : ThrS).frames.length ≤ _
        rw [if_pos rfl]
        show ((S3.thr t).back _).frames.length ≤ _
        unfold ThrS.back
        rw [H3.fr]; simp
      · intro b K1 M1 lab1 w1 h1 hT
        have tk := take_3 (lv := lv) (z := Z) h1 hT rfl (x := X) rfl hX64 (by rw [ec]; exact hs.lvl) (by rw [ec]; exact hs.lvc) (by rw [ec, hsl]; exact inK_head hp1 h10) (by rw [em, ec, hsl, hA3d]; exact l3) hZ64 (by rw [em, a3, a2, a1]; have := hs.acc; omega) (by omega)
        rw [em, hsl, show atK (S3.tick lv).c lv 9 (sl : Nat) 0 = A3 by rw [ec]; exact hA3d, ← hm4] at tk
        exact tk
    · omega
  · intro i hi
    rcases i with _ | _ | _ | _ | _ | i
    · rw [show St5 S0 S1 S2 S3 S4 0 = S0 from rfl, H0.tp]; exact hs.tp
    · show S1.tp[t]? = _; rw [H1.tp]; exact hs.tp
    · show S2.tp[t]? = _; rw [H2.tp]; exact hs.tp
    · show S3.tp[t]? = _; rw [H3.tp]; exact hs.tp
    · show S4.tp[t]? = _; rw [q4.2.1]; show S3.tp[t]? = _; rw [H3.tp]; exact hs.tp
    · omega
  · intro i h0 hi
    rcases i with _ | _ | _ | _ | i
    · omega
    · show _ < (S1.thr t).frames.length; rw [H1.fr]; simp
    · show _ < (S2.thr t).frames.length; rw [H2.fr]; simp
    · show _ < (S3.thr t).frames.length; rw [H3.fr]; simp
    · omega
  · show (S4.thr t).frames.length ≤ _
    rw [t4]
    unfold ThrS.back
    rw [H3.fr]
    simp
  · refine ⟨q4.1.trans H3.c, q4.2.1.trans H3.tp, ?_, ?_, ?_, ?_, ?_, fun k => ?_, ?_, ?_, fun j hj => ?_⟩
    · show S4.mem.f = _; rw [q4.2.2.1]; exact f4
    · show S4.mem.N = _; rw [q4.2.2.1]; show m4.N = _; rw [n4, n3, n2, n1]
    · show S4.mem.acc = _; rw [q4.2.2.1]; show m4.acc = _; rw [a4, a3, a2, a1]
    · show S4.mem.wr ≤ _; rw [q4.2.2.1]; show m4.wr ≤ _; rw [w4]; exact Nat.le_refl _
    · show S4.steps = _; rw [q4.2.2.2.2.2.2.1]; show S3.steps + 1 = _; rw [H3.steps]
    · show S4.clk k ≤ _
      rw [q4.2.2.2.2.2.1]
      show (if lv ≤ k ∧ k < 4 then S3.clk k + 1 else S3.clk k) ≤ _
      have := H3.clk k
      split <;> omega
    · show S4.ward = _; rw [q4.2.2.2.1]; exact q3.2
    · show S4.thr t = _
      rw [t4]
      unfold ThrS.back
      rw [H3.th]
      simp [hfs]
    · show S4.thr j = _
      rw [q4.2.2.2.2.1]
      exact (if_neg hj).trans (H3.oth j hj)
end
section
open Go.RowKit
set_option linter.unusedVariables false
set_option linter.unusedSimpArgs false
set_option linter.unnecessarySimpa false
/-- What is behind a Take that told none. -/
structure Took0 (s S : MachS) (t : Nat) : Prop where
  c : S.c = s.c
  tp : S.tp = s.tp
  f : S.mem.f = s.mem.f
  N : S.mem.N = s.mem.N
  acc : S.mem.acc = s.mem.acc + 1
  wr : S.mem.wr = s.mem.wr
  steps : S.steps = s.steps + 2
  clk : ∀ k, S.clk k ≤ s.clk k + 2
  ward : S.ward = s.ward
  thr : S.thr t = { s.thr t with told := fun i => ([0, 0] : List Int).getD i 0 }
  oth : ∀ j, j ≠ t → S.thr j = s.thr j
def St3 (S0 S1 S2 : MachS) : Nat → MachS
  | 0 => S0
  | 1 => S1
  | _ => S2
set_option maxHeartbeats 4000000 in
theorem none_trail {σ : World} (K : Mm) (p : Nat) {s : MachS} {t q lv : Nat} (hs : CanTake s t q lv) {X : Nat} (hX : s.mem.f (atK s.c lv 0 0 0).toNat = (X : Int)) (hX64 : X < 18446744073709551616) (hsl : cutN X 0 8 = 0) :
    ∃ St : Nat → MachS, St 0 = s.begun t 1 [] ∧ Trail σ K p t q (.func (.func 6) #[] #[]) (s.thr t).frames.length St 2 ∧ Took0 s (St 2) t := by
  have hA0 := atK_hit hs.may hs.memN hs.lvc (inK_free s.c)
  generalize hA0d : atK s.c lv 0 0 0 = A0 at *
  obtain ⟨m1, hm1⟩ : ∃ m1, m1 = s.mem.at_ A0 := ⟨_, rfl⟩
  have em1 := at_hit hA0
  rw [← hm1] at em1
  have l0 : s.mem.load A0 = (X : Int) := (load_hit hA0).trans hX
  have a1 : m1.acc = s.mem.acc + 1 := by rw [em1]
  have w1 : m1.wr = s.mem.wr := by rw [em1]
  have n1 : m1.N = s.mem.N := by rw [em1]
  have f1 : m1.f = s.mem.f := by rw [em1]
  clear em1
  obtain ⟨S0, hS0⟩ : ∃ S0, S0 = s.begun t 1 [] := ⟨_, rfl⟩
  have H0 : At s S0 t 0 (s.thr t).frames (takeF []) := by rw [hS0]; exact At.first s t []
  have q0 : S0.mem = s.mem := by rw [hS0]; rfl
  have d0 : S0.ward = s.ward := by rw [hS0]; rfl
  generalize hfs : (s.thr t).frames = fs at *
  have hfl : fs.length < 100000 := by rw [← hfs]; exact hs.fr
  obtain ⟨S1, hS1⟩ : ∃ S1, S1 = (MachS.top { S0.tick lv with mem := m1, ward := S0.ward } t fs (((takeF []).reg 1 X).goto 1)).after S0 lv := ⟨_, rfl⟩
  have H1 : At s S1 t 1 fs (((takeF []).reg 1 X).goto 1) := by rw [hS1]; exact H0.next (by rw [a1, q0]) (by rw [w1]; omega) (by rw [n1, q0])
  have q1 : S1.mem = m1 ∧ S1.ward = s.ward := by rw [hS1]; exact ⟨(after_same _ _ _).2.2.1, (after_same _ _ _).2.2.2.1.trans d0⟩
  obtain ⟨S2, hS2⟩ : ∃ S2, S2 = (MachS.backed (S1.tick lv) t [0, 0]).after S1 lv := ⟨_, rfl⟩
  have q4 := after_same (MachS.backed (S1.tick lv) t [0, 0]) S1 lv
  rw [← hS2] at q4
  have t4 : S2.thr t = (S1.thr t).back [0, 0] := by rw [q4.2.2.2.2.1]; exact if_pos rfl
  refine ⟨St3 S0 S1 S2, hS0, ⟨?_, ?_, ?_, ?_⟩, ?_⟩
  · intro i hi M lab w h hM hB
    rcases i with _ | _ | i
    · have ec : (S0.tick lv).c = s.c := H0.c
      have em : (S0.tick lv).mem = s.mem := q0
      show Calls _ _ _ _ fun r w' => ∃ M' lab' b, r = .returned (.bool b) ∧ Has σ M' w' ∧ Mach M' lab' p S1 ∧ Base K M' lab'
      rw [hS1]
      replace hM : Mach M lab p S0 := hM
      refine step_take h hM hB (q := q) (by rw [H0.tp]; exact hs.tp) H0.fr rfl (by rw [H0.st, H0.ki]; exact hs.run) (by rw [H0.c]; exact hs.lvl) (by rw [H0.acc]; have := hs.acc; omega) (by rw [H0.steps]; have := hs.steps; omega) (fun k => by have := H0.clk k; have := hs.clk k; omega) (by omega) rfl rfl ?_ ?_
      · show (if t = t then _ else _ : ThrS).frames.length ≤ _
        rw [if_pos rfl]; simp
      · intro b K1 M1 lab1 w1 h1 hT
        have SPx := spotAt_of (σ := σ) hT.mach (lv := lv) (by rw [ec]; exact hs.lvl) (by rw [ec]; exact hs.lvc) (inK_free _)
        rw [ec, hA0d] at SPx
        have tk := take_0 h1 hT rfl (x := 0) rfl (by omega) SPx (by rw [em]; have := hs.acc; omega)
        rw [em, l0, ← hm1] at tk
        exact tk.mono fun r w' ⟨e, M', lab', h', hT'⟩ => ⟨e, M', lab', h', hT'.mach, hT'.base⟩
    · show Calls _ _ _ _ fun r w' => ∃ M' lab' b, r = .returned (.bool b) ∧ Has σ M' w' ∧ Mach M' lab' p S2 ∧ Base K M' lab'
      rw [hS2]
      replace hM : Mach M lab p S1 := hM
      refine step_take h hM hB (q := q) (by rw [H1.tp]; exact hs.tp) H1.fr rfl (by rw [H1.st, H1.ki]; exact hs.run) (by rw [H1.c]; exact hs.lvl) (by rw [H1.acc]; have := hs.acc; omega) (by rw [H1.steps]; have := hs.steps; omega) (fun k => by have := H1.clk k; have := hs.clk k; omega) (by omega) rfl rfl ?_ ?_
      · show (if t = t then _ else _ : ThrS).frames.length ≤ _
        rw [if_pos rfl]
        show ((S1.thr t).back _).frames.length ≤ _
        unfold ThrS.back
        rw [H1.fr]; simp
      · intro b K1 M1 lab1 w1 h1 hT
        exact take_1end h1 hT rfl (x := X) rfl hX64 hsl (by omega)
    · omega
  · intro i hi
    rcases i with _ | _ | _ | i
    · show S0.tp[t]? = _; rw [H0.tp]; exact hs.tp
    · show S1.tp[t]? = _; rw [H1.tp]; exact hs.tp
    · show S2.tp[t]? = _; rw [q4.2.1]; show S1.tp[t]? = _; rw [H1.tp]; exact hs.tp
    · omega
  · intro i h0 hi
    rcases i with _ | _ | i
    · omega
    · show _ < (S1.thr t).frames.length; rw [H1.fr]; simp
    · omega
  · show (S2.thr t).frames.length ≤ _
    rw [t4]
    unfold ThrS.back
    rw [H1.fr]
    simp
  · refine ⟨q4.1.trans H1.c, q4.2.1.trans H1.tp, ?_, ?_, ?_, ?_, ?_, fun k => ?_, ?_, ?_, fun j hj => ?_⟩
    · show S2.mem.f = _; rw [q4.2.2.1]; show S1.mem.f = _; rw [q1.1]; exact f1
    · show S2.mem.N = _; rw [q4.2.2.1]; show S1.mem.N = _; rw [q1.1]; exact n1
    · show S2.mem.acc = _; rw [q4.2.2.1]; show S1.mem.acc = _; rw [q1.1]; exact a1
    · show S2.mem.wr = _; rw [q4.2.2.1]; show S1.mem.wr = _; rw [q1.1]; exact w1
    · show S2.steps = _; rw [q4.2.2.2.2.2.2.1]; show S1.steps + 1 = _; rw [H1.steps]
    · show S2.clk k ≤ _
      rw [q4.2.2.2.2.2.1]
      show (if lv ≤ k ∧ k < 4 then S1.clk k + 1 else S1.clk k) ≤ _
      have := H1.clk k
      split <;> omega
    · show S2.ward = _; rw [q4.2.2.2.1]; exact q1.2
    · show S2.thr t = _
      rw [t4]
      unfold ThrS.back
      rw [H1.th]
      simp [hfs]
    · show S2.thr j = _
      rw [q4.2.2.2.2.1]
      exact (if_neg hj).trans (H1.oth j hj)
end
end Go.Proofs.Ytefjjagejgeedaa
