import Derived.Test.YtjeeldacnllipaaGreatLoB
import Derived.Test.YtjeeldacnllipaaGreatLoA
import Derived.Test.YtjeeldacnllipaaGreatLoWords
import Derived.Test.YtjeeldacnllipaaGreatLoLinks
import Derived.Test.YtjeeldacnllipaaGreatLoO
namespace Go.Proofs.YtjeeldacnllipaaGreat
set_option linter.unusedVariables false
set_option linter.unusedSimpArgs false
set_option linter.unnecessarySimpa false
open List renaming getElem_toArray → qA, getElem_cons_succ → qB, getElem_cons_zero → qC, setIfInBounds_toArray → qD, set_cons_zero → qE, set_cons_succ → qF
section
open Go.RowKit
/-- All numbers at first. -/
def gm0 (B S : Nat) : GM := ⟨fun _ o => (w0 B S S o).toNat, fun _ i => i == 1, fun _ _ => 0, fun _ => [], fun _ _ => 0⟩
theorem w0_nn (B S s r : Nat) : 0 ≤ w0 B S s r := by
 unfold w0
 repeat' split
 all_goals omega
theorem absM_first {c : Nat → Int} {L B S : Nat} {s : MachS} (hn : Nums c L B S) (hc : ConfMay c) (h : s.New c L B S) (hw : s.ward.lv = s.c 0 ∧ s.ward.sl = s.c 10) : AbsM c s.tp 0 s (gm0 B S) := by
 obtain ⟨wb, hm⟩ := h.mem
 have hb0 := hn.b0
 have hs0 := hn.s0
 have hl0 := hn.l0
 have hf : s.mem.f = wl B S L := by rw [hm]; rfl
 refine ⟨h.c, hc, rfl, ?_, ?_, ?_, ?_, by rw [hm]; rfl, h.fault, by rw [hm]; exact Nat.le_refl _, by rw [hm]; exact Nat.le_refl _, by rw [h.steps]; exact Nat.le_refl _, fun k => by rw [h.clk]; exact Nat.le_refl _, by rw [h.given]; exact Nat.le_refl _⟩
 ·rw [hm, hn.sz, hn.lev]; show ((L * (18 + B + 6 * S) : Nat) : Int) = _; push_cast; rfl
 ·intro l o hl ho
  rw [hn.lev] at hl
  rw [hn.sz] at ho ⊢
  rw [Int.toNat_natCast, hf]
  have e := (idx_iff (l := l) (sz := 18 + B + 6 * S) (r := o) (by omega)).1 rfl
  unfold wl
  rw [e.1, e.2, if_pos (by omega)]
  show _ = (((w0 B S S o).toNat : Nat) : Int)
  rw [Int.toNat_of_nonneg (w0_nn _ _ _ _)]
 ·refine ⟨by rw [hw.1, h.c], by rw [hw.2, h.c], fun l i h1 h2 h3 => ?_, fun l i h1 h2 h3 => by rw [h.gens.1]; rfl, ?_, ?_, fun l i => by rw [h.gens.1]; exact ⟨Int.le_refl _, Int.le_refl _⟩, h.slips, ?_, ?_⟩
  ·rw [h.held.1, firstHeld_val]
   show _ = if (i == 1) = true then 1 else 0
   rw [hn.lev] at h1
   by_cases hi : i = 1
   ·subst hi; rw [if_pos ⟨rfl, by omega, by omega⟩]; rfl
   ·rw [if_neg (by omega), if_neg (by simpa using hi)]
  ·rw [h.held.1]
   unfold OnceE firstHeld
   rw [List.map_map]
   have : ((fun x : Ent => (x.l, x.s)) ∘ fun (l : Nat) => (⟨l, 1, 1, l⟩ : Ent)) = fun l : Nat => ((l : Int), (1 : Int)) := rfl
   rw [this]
   exact List.Pairwise.map _ (fun a b hab e => hab (by have := congrArg Prod.fst e; exact Int.ofNat_inj.1 this)) (List.nodup_range (n := L))
  ·rw [h.gens.1]; exact ⟨fun x hx => by simp at hx, by simp⟩
  ·rw [h.held.1]
   intro x hx
   unfold firstHeld at hx
   obtain ⟨k, hk, rfl⟩ := List.mem_map.1 hx
   have := List.mem_range.1 hk
   exact ⟨by show (0 : Int) ≤ (k : Int); omega, by rw [hn.lev]; show (k : Int) < _; omega, by show (1 : Int) ≤ 1; decide, by rw [hn.slo]; show (1 : Int) ≤ _; omega, rfl⟩
  ·rw [h.held.1, h.held.2]
   unfold firstHeld
   refine ⟨fun x hx => ?_, ?_⟩
   ·obtain ⟨k, hk, rfl⟩ := List.mem_map.1 hx
    exact List.mem_range.1 hk
   ·rw [List.map_map]
    have : ((fun x : Ent => x.born) ∘ fun (l : Nat) => (⟨l, 1, 1, l⟩ : Ent)) = fun l : Nat => l := rfl
    rw [this, List.map_id']
    exact List.nodup_range
 ·refine ⟨fun t _ => by rw [h.thr]; rfl, fun t => by rw [h.thr]; rfl, fun t j => by rw [h.thr]; rfl⟩
/-- A thread begins a routine. -/
theorem AbsM.begun {c : Nat → Int} {tp : List Nat} {n : Nat} {s : MachS} {g : GM} (h : AbsM c tp n s g) {t : Nat} (ht : (t : Int) < c 1) (fn : Nat) (us : List Nat) : AbsM c tp n (s.begun t fn (us.map fun u : Nat => (u : Int))) (g.top t (g.thr t) ⟨fn, 0, fun i => us.getD i 0⟩) := by
 refine ⟨h.cc, h.may, h.ttp, h.memN, h.words, h.ward, ?_, h.flt, h.fault, h.acc, h.wr, h.steps, h.clk, h.given⟩
 have := h.thr.top (t := t) (fs := g.thr t) (F := ⟨fn, 0, fun i => us.getD i 0⟩)
 have e : (fun j => if j = t then { s.thr t with frames := (g.thr t).map Fr.enc ++ [Fr.enc ⟨fn, 0, fun i => us.getD i 0⟩] } else s.thr j) = (s.begun t fn (us.map fun u : Nat => (u : Int))).thr := by
  funext j
  show _ = if j = t then (s.thr t).call fn _ else s.thr j
  by_cases e : j = t
  ·rw [if_pos e, if_pos e]
   have er : (fun i => ((us.getD i 0 : Nat) : Int)) = fun i => (us.map fun u : Nat => (u : Int)).getD i 0 := by
    funext i
    rw [List.getD_eq_getElem?_getD, List.getD_eq_getElem?_getD, List.getElem?_map]
    cases us[i]? <;> rfl
   show ({ s.thr t with frames := (g.thr t).map Fr.enc ++ [⟨fn, 0, fun i => ((us.getD i 0 : Nat) : Int)⟩] } : ThrS) = { s.thr t with frames := (s.thr t).frames ++ [⟨fn, 0, fun i => (us.map fun u : Nat => (u : Int)).getD i 0⟩] }
   rw [er, h.thr.fr t ht]
  ·rw [if_neg e, if_neg e]
 rw [e] at this
 exact this
end
section
open Go.RowKit
/-- From step to step: what is known of each state. -/
structure TrailP (σ : World) (K : Mm) (p t q : Nat) (dv : Value) (n : Nat) (P : Nat → MachS → Prop) (k : Nat) : Prop where
 step : ∀ i, i < k → ∀ (M : Mm) (lab : Nat → Nat) (s : MachS) (w : World), Has σ M w → Mach M lab p s → Base K M lab → P i s → Calls Tryz.prog 33 #[.pointer (some ⟨p, 0, none⟩), .int .i64 (t : Nat), dv] w fun r w' => ∃ M' lab' b s', r = .returned (.bool b) ∧ Has σ M' w' ∧ Mach M' lab' p s' ∧ Base K M' lab' ∧ P (i + 1) s'
 tp : ∀ i, i ≤ k → ∀ s, P i s → s.tp[t]? = some q
 deep : ∀ i, 0 < i → i < k → ∀ s, P i s → n < (s.thr t).frames.length
 done : ∀ s, P k s → (s.thr t).frames.length ≤ n
set_option maxHeartbeats 4000000 in
set_option maxRecDepth 20000 in
theorem alone_rel {σ w : World} {K M : Mm} {lab : Nat → Nat} {p t q : Nat} {s : MachS} (h : Has σ M w) (hM : Mach M lab p s) (hB : Base K M lab) (hq : s.tp[t]? = some q) {dv rv : Value} {us : List Int} (hr : Rd M 1 rv us.length (u64s us)) (hu : us.length ≤ 16) (hfr : (s.thr t).frames.length < 1000000) (fn : Int) {k most : Nat} {P : Nat → MachS → Prop} (h0 : P 0 (s.begun t fn us)) (hk : 0 < k) (hkm : k ≤ most) (hmost : most < 1000000) (hT : TrailP σ K p t q dv (s.thr t).frames.length P k) :
  Calls Tryz.prog 14 #[.pointer (some ⟨p, 0, none⟩), .int .i64 (t : Nat), dv, .int .i64 (most : Nat), .int .i64 fn, rv] w fun r w' => r = .returned (.int .i64 (k : Nat)) ∧ ∃ M' lab' s', Has σ M' w' ∧ Mach M' lab' p s' ∧ Base K M' lab' ∧ P k s' := by
 have TH := Lib.hid (fun (w : World) (h : Has σ M w) => mThread_yes h hM hq)
 obtain ⟨fv, hv, fbs, hTh⟩ := hM.each t q hq
 have hl := hTh.flen
 have DP := Lib.hid (fun (w : World) (h : Has σ M w) => thrDeep_eq h hTh)
 rw [hl] at DP
 have CA := Lib.hid (fun (w : World) (h : Has σ M w) => thrCall_eq h hTh fn (rv := rv) (us := us) hr hu (by omega))
 have HM := Lib.hid hM
 have HB := Lib.hid hB
 have HQ := Lib.hid hq
 have H0 := Lib.hid h0
 have TR := Lib.hid hT
 clear hM hB hq hTh h0 hT hr hu hl
 generalize hn : (s.thr t).frames.length = n at *
 clear hn
 go_enter Tryz.func14, Tryz.ntmps14
 go_upto_region 6 with (first
  | (go_at_call 13; refine (TH.out _ h).mono ?_; clear h; rintro _ w ⟨rfl, h⟩)
  | (go_at_call 30; refine (DP.out _ h).mono ?_; clear h; rintro _ w ⟨rfl, h⟩)
  | (go_at_call 34; refine (CA.out _ h).mono ?_; clear h; rintro _ w ⟨rfl, M3, lab3, h, hK3, hT3⟩))
 obtain ⟨hM3, hB3⟩ := HM.out.thrTo HB.out HQ.out hK3 hT3
 have HM4 := Lib.hid hM3
 have HB4 := Lib.hid hB3
 clear hM3 hB3 hK3 hT3 TH DP CA HM HB HQ
 go_upto_region 7 with (fail)
 go_loopw [15] (fun u wr => ∃ j : Nat, j < k ∧ u = .int .i64 (j : Nat) ∧ ∃ M5 lab5 s5, Has σ M5 wr ∧ Mach M5 lab5 p s5 ∧ Base K M5 lab5 ∧ P j s5) (fun u _ => most - (intOf u).toNat)
 case atStart => exact ⟨0, hk, rfl, M3, lab3, _, h, HM4.out, HB4.out, H0.out⟩
 case round =>
  clear h w HM4 HB4 M3 lab3
  obtain ⟨w, rfl⟩ : ∃ x : World, x = wr := ⟨_, rfl⟩
  obtain ⟨j, hj, rfl, M5, lab5, s5, h, hM5, hB5, hP5⟩ := hrel
  have hjm : (j : Int) < (most : Int) := by omega
  have SP := Lib.hid (fun (w : World) (h : Has σ M5 w) => TR.out.step j hj M5 lab5 s5 w h hM5 hB5 hP5)
  clear hM5 hB5 hP5
  go_upto_region 10 with (first
   | (go_at_call 33; refine (SP.out _ h).mono ?_; clear h; rintro _ w ⟨M6, lab6, b6, s6, rfl, h, hM6, hB6, hP6⟩))
  obtain ⟨fv6, hv6, fbs6, hT6⟩ := hM6.each t q (TR.out.tp (j + 1) (by omega) s6 hP6)
  have hl6 := hT6.flen
  have DP6 := Lib.hid (fun (w : World) (h : Has σ M6 w) => thrDeep_eq h hT6)
  rw [hl6] at DP6
  have HM6 := Lib.hid hM6
  have HB6 := Lib.hid hB6
  have HP6 := Lib.hid hP6
  clear SP hT6 hl6 hM6 hB6
  by_cases e : j + 1 = k
  ·have hle : (s6.thr t).frames.length ≤ n := TR.out.done s6 (by rw [← e]; exact hP6)
   have hle2 : decide (((s6.thr t).frames.length : Int) ≤ (n : Int)) = true := decide_eq_true (by omega)
   have HE := Lib.hid e
   clear e hP6
   generalize (s6.thr t).frames.length = n6 at *
   go_wp2_with (first
    | (go_at_call 30; refine (DP6.out _ h).mono ?_; clear h; rintro _ w ⟨rfl, h⟩))
   go_ret
   exact ⟨by rw [← HE.out]; exact congrArg (fun z => Ending.returned (Value.int .i64 z)) (by omega), M6, lab6, s6, h, HM6.out, HB6.out, by rw [← HE.out]; exact HP6.out⟩
  ·have hgt : n < (s6.thr t).frames.length := TR.out.deep (j + 1) (by omega) (by omega) s6 hP6
   have hgt2 : decide (((s6.thr t).frames.length : Int) ≤ (n : Int)) = false := decide_eq_false (by omega)
   have hgt3 : ¬ (s6.thr t).frames.length ≤ n := by omega
   clear hgt hP6
   generalize (s6.thr t).frames.length = n6 at *
   go_wp2_with (first
    | (go_at_call 30; refine (DP6.out _ h).mono ?_; clear h; rintro _ w ⟨rfl, h⟩))
   go_roundw
   case rel => exact ⟨j + 1, by omega, by go_num, M6, lab6, s6, h, HM6.out, HB6.out, HP6.out⟩
   case measure => simp [intOf]; omega
end
section
open Go.RowKit
set_option maxHeartbeats 4000000 in
set_option maxRecDepth 20000 in
/-- The top is read. -/
theorem give_7 {σ w : World} {K M : Mm} {lab : Nat → Nat} {p t q b : Nat} {s : MachS} {fs : List FrameS} {f : FrameS} (h : Has σ M w) (hT : AtTop K M lab p s t q b fs f) (hat : f.at_ = 7) {sl : Nat} (h0 : f.r 0 = (sl : Int)) (hsl : sl < 256) {a : Int} (SP : SpotAt σ M p t 0 0 0 a) (hb1 : s.mem.acc < 1000000000) :
  Calls Tryz.prog 133 #[.agg (runC p t q b)] w fun r w' => r = .returned (.tuple #[]) ∧ ∃ M' lab', Has σ M' w' ∧ AtTop K M' lab' p (MachS.top { s with mem := s.mem.at_ a } t fs ((f.reg 1 (s.mem.load a)).goto 8)) t q b fs ((f.reg 1 (s.mem.load a)).goto 8) := by
 have d0 : (runC p t q b)[0]? = some (.pointer (some ⟨p, 0, none⟩)) := rfl
 have d1 : (runC p t q b)[1]? = some (.int .i64 (t : Nat)) := rfl
 have d2 : (runC p t q b)[2]? = some (.pointer (some ⟨q, 0, none⟩)) := rfl
 have d3 : (runC p t q b)[3]? = some (.pointer (some ⟨b, 0, none⟩)) := rfl
 have dx : (runC p t q b).extract 0 (0 + 4) = runC p t q b := rfl
 have dz : (runC p t q b).size = 4 := rfl
 have f1 : f.row[1]? = some (.int .i64 7) := by rw [← hat]; rfl
 have f2 : f.row[2]? = some (.int .u64 (sl : Nat)) := by rw [← h0]; rfl
 have us : IntKind.i64.wrap ((sl : Nat) : Int) = ((sl : Nat) : Int) := IntWalk.i64_in _ (by omega)
 clear hat
 go_enter Tryz.func133, Tryz.ntmps133
 go_upto_region 1 with (fail)
 obtain ⟨M1, hbx, hle, hb4, hn⟩ := h.box (.cells (runC p t q b) 193)
 generalize w.alloc _ = wx at hbx ⊢
 generalize w.heap.size = b4 at hb4 hn ⊢
 clear h
 try clear w
 have h := hbx
 clear hbx
 obtain ⟨w, rfl⟩ : ∃ x : World, x = wx := ⟨_, rfl⟩
 obtain ⟨lab1, hT1⟩ := hT.more1 hle hn hb4
 have hnK : K b4 = none := by
  cases e : K b4 with
  | none => rfl
  | some o => have := (hT.base _ _ e).1; rw [hn] at this; cases this
 have hKK : K.le (K.upd b4 (.cells (runC p t q b) 193)) := Mm.le_upd' hnK _
 have hbK : (K.upd b4 (.cells (runC p t q b) 193)) b4 = some (.cells (runC p t q b) 193) := Mm.upd_same _ _ _
 have hfb := hT1.obj
 have TP := Lib.hid (fun (w : World) (h : Has σ M1 w) => runTop_eq h hT1 (SP.le hle) hb1 8)
 have HK := Lib.hid hKK
 clear hT hT1 SP hb1 hn hnK hKK h0
 generalize runC p t q b = rc at *
 generalize f.row = fr0 at *
 go_wp2_with (first
  | (with_reducible show wpList _ _ _ ({ dst := _, op := Op.load 70 _, type := _, pos := _, after := _, guard := _ } :: _) _ _; refine wpList_load1_has h rfl 70 _ rfl rfl hb4 d3 Tryz.underlying70 rfl ?_)
  | (with_reducible show wpList _ _ _ ({ dst := _, op := Op.load 42 _, type := _, pos := _, after := _, guard := _ } :: _) _ _; refine wpList_load1_has h rfl 42 _ rfl rfl hfb f2 Tryz.underlying42 rfl ?_)
  | (with_reducible show wpList _ _ _ ({ dst := _, op := Op.load 3 _, type := _, pos := _, after := _, guard := _ } :: _) _ _; refine wpList_load1_has h rfl 3 _ rfl rfl hfb f1 Tryz.underlying3 rfl ?_)
  | ((with_reducible show wpList _ _ _ ({ dst := _, op := Op.load 190 _, type := _, pos := _, after := _, guard := _ } :: _) _ _); refine wpList_agg_has h rfl 190 _ rfl rfl hb4 dx dz Tryz.underlying190 rfl (by kernel_rfl) ?_; try simp only [Act.put, qD, qE, qF])
  | (go_at_call 139; refine (TP.out _ h).mono ?_; clear h; rintro _ w ⟨rfl, M2, lab2, h, hT2⟩))
 go_end0
 exact ⟨rfl, M2, lab2, h, hT2.less HK.out⟩
set_option maxHeartbeats 4000000 in
set_option maxRecDepth 20000 in
/-- The head is read: the slot's generation, and one more. -/
theorem give_0 {σ w : World} {K M : Mm} {lab : Nat → Nat} {p t q b lv : Nat} {s : MachS} {fs : List FrameS} {f : FrameS} (h : Has σ M w) (hT : AtTop K M lab p s t q b fs f) (hat : f.at_ = 0) {sl z : Nat} (h0 : f.r 0 = (sl : Int)) (hsl : sl < 256) (hlv : levelOf s.c (t : Nat) = (lv : Nat)) (hlc : (lv : Int) < s.c 0) (hin : InK s.c 9 (sl : Nat) 0) (hz : s.mem.load (atK s.c lv 9 (sl : Nat) 0) = (z : Int)) (hz64 : z < 18446744073709551616) (hb1 : s.mem.acc < 1000000000) :
  Calls Tryz.prog 133 #[.agg (runC p t q b)] w fun r w' => r = .returned (.tuple #[]) ∧ ∃ M' lab', Has σ M' w' ∧ AtTop K M' lab' p (MachS.top { s with mem := s.mem.at_ (atK s.c lv 9 (sl : Nat) 0) } t fs ((f.reg 2 ((cutN z 2 32 : Nat) + 1)).goto 1)) t q b fs ((f.reg 2 ((cutN z 2 32 : Nat) + 1)).goto 1) := by
 have d0 : (runC p t q b)[0]? = some (.pointer (some ⟨p, 0, none⟩)) := rfl
 have d1 : (runC p t q b)[1]? = some (.int .i64 (t : Nat)) := rfl
 have d2 : (runC p t q b)[2]? = some (.pointer (some ⟨q, 0, none⟩)) := rfl
 have d3 : (runC p t q b)[3]? = some (.pointer (some ⟨b, 0, none⟩)) := rfl
 have dx : (runC p t q b).extract 0 (0 + 4) = runC p t q b := rfl
 have dz : (runC p t q b).size = 4 := rfl
 have f1 : f.row[1]? = some (.int .i64 0) := by rw [← hat]; rfl
 have f2 : f.row[2]? = some (.int .u64 (sl : Nat)) := by rw [← h0]; rfl
 have us : IntKind.i64.wrap ((sl : Nat) : Int) = ((sl : Nat) : Int) := IntWalk.i64_in _ (by omega)
 clear hat
 have HS := Lib.hid (handleState_any z hz64)
 have lz : cutN z 2 32 < 4294967296 := cutN_lt z 2 32
 have SPA := spotAt_of (σ := σ) hT.mach hlv hlc hin
 obtain ⟨a, ha⟩ : ∃ a, atK s.c lv 9 (sl : Nat) 0 = a := ⟨_, rfl⟩
 rw [ha] at hz SPA ⊢
 obtain ⟨g1, hg1⟩ : ∃ g, cutN z 2 32 = g := ⟨_, rfl⟩
 rw [hg1] at HS lz ⊢
 generalize cutN z 0 2 = g2 at HS
 have ug : IntKind.i64.wrap ((g1 : Int) + 1) = (g1 : Int) + 1 := IntWalk.i64_in _ (by omega)
 have ug2 : IntKind.u64.wrap ((g1 : Int) + 1) = (g1 : Int) + 1 := IntWalk.u64_in _ (by omega)
 have ND := Lib.hid (fun (M' : Mm) (w : World) (h : Has σ M' w) (hle : M.le M') => runNode_eq (q := q) (b := b) h (SPA.le hle))
 clear h0 ha hg1 hlv hlc hin SPA hz64
 go_enter Tryz.func133, Tryz.ntmps133
 go_upto_region 1 with (fail)
 obtain ⟨M1, hbx, hle, hb4, hn⟩ := h.box (.cells (runC p t q b) 193)
 generalize w.alloc _ = wx at hbx ⊢
 generalize w.heap.size = b4 at hb4 hn ⊢
 clear h
 try clear w
 have h := hbx
 clear hbx
 obtain ⟨w, rfl⟩ : ∃ x : World, x = wx := ⟨_, rfl⟩
 obtain ⟨lab1, hT1⟩ := hT.more1 hle hn hb4
 have hnK : K b4 = none := by
  cases e : K b4 with
  | none => rfl
  | some o => have := (hT.base _ _ e).1; rw [hn] at this; cases this
 have hKK : K.le (K.upd b4 (.cells (runC p t q b) 193)) := Mm.le_upd' hnK _
 have hbK : (K.upd b4 (.cells (runC p t q b) 193)) b4 = some (.cells (runC p t q b) 193) := Mm.upd_same _ _ _
 have hfb := hT1.obj
 have ND1 := Lib.hid (fun (w : World) (h : Has σ M1 w) => ND.out M1 w h hle)
 have ME := Lib.hid (fun (w : World) (h : Has σ M1 w) => mMem_eq h hT1.mach)
 have LD := Lib.hid (fun (w : World) (h : Has σ M1 w) => memLoad_eq h hT1.mach.mem hb1 a)
 rw [hz] at LD
 have KL := hT1.base.le
 have hT2 := hT1.load a
 have KE := hT2.base.le
 obtain ⟨hfb2, hT3⟩ := hT2.frame (f.reg 2 ((g1 : Int) + 1))
 obtain ⟨hfb3, hT4⟩ := hT3.frame ((f.reg 2 ((g1 : Int) + 1)).goto 1)
 rw [MachS.top_top, Mm.upd_upd] at hT4
 have HT := Lib.hid (hT4.less hKK)
 have hsz : 4 < f.row.size := show 4 < 18 by omega
 have hsz3 : 1 < (f.reg 2 ((g1 : Int) + 1)).row.size := show 1 < 18 by omega
 have R1 := Lib.hid (row_reg2 f ((g1 : Int) + 1))
 have R2 := Lib.hid (row_goto (f.reg 2 ((g1 : Int) + 1)) 1)
 clear hT hT1 hT2 hT3 hT4 hn hle hnK hKK hb1 hz ND
 generalize runC p t q b = rc at *
 generalize K.upd b4 _ = K1 at *
 generalize hr0 : f.row = fr0 at *
 generalize hr1 : (f.reg 2 ((g1 : Int) + 1)).row = fr1 at *
 generalize hr2 : ((f.reg 2 ((g1 : Int) + 1)).goto 1).row = fr2 at *
 clear hr0 hr1 hr2
 generalize M1.upd s.mp _ = M2 at *
 go_upto_region 8 with (first
  | (with_reducible show wpList _ _ _ ({ dst := _, op := Op.load 70 _, type := _, pos := _, after := _, guard := _ } :: _) _ _; refine wpList_load1_has h rfl 70 _ rfl rfl hb4 d3 Tryz.underlying70 rfl ?_)
  | (with_reducible show wpList _ _ _ ({ dst := _, op := Op.load 42 _, type := _, pos := _, after := _, guard := _ } :: _) _ _; refine wpList_load1_has h rfl 42 _ rfl rfl hfb f2 Tryz.underlying42 rfl ?_)
  | (with_reducible show wpList _ _ _ ({ dst := _, op := Op.load 3 _, type := _, pos := _, after := _, guard := _ } :: _) _ _; refine wpList_load1_has h rfl 3 _ rfl rfl hfb f1 Tryz.underlying3 rfl ?_))
 clear hfb hb4
 refine wp_region_held_drew (S := Has σ (K1)) (by kernel_rfl) (h.drew.le KL) (fun hHeld => ?_)
 refine wpAnyH_take (i := 0) (v := ?_) rfl (by kernel_rfl) (by kernel_rfl) (by kernel_rfl) (fun _ _ _ h => h) (Or.inl ⟨by rfl, ?_⟩) hHeld ?_
 rotate_left
 ·(intro wz _; go_simp; try with_reducible rfl)
 try simp only [qA, qB, qC, Act.put, qD, qE, qF]
 refine wpAnyH_take (i := 1) (v := ?_) rfl (by kernel_rfl) (by kernel_rfl) (by kernel_rfl) (fun _ _ _ h => h) (Or.inl ⟨by rfl, ?_⟩) hHeld ?_
 rotate_left
 ·(intro wz _; go_simp; try with_reducible rfl)
 try simp only [qA, qB, qC, Act.put, qD, qE, qF]
 refine wpAnyH_take (i := 2) (v := _) rfl (by kernel_rfl) (by kernel_rfl) (by kernel_rfl) (fun _ _ _ h => h) (yields_load1 rfl 26 _ rfl rfl hbK d0 Tryz.underlying26 rfl) hHeld ?_
 try simp only [qA, qB, qC, Act.put, qD, qE, qF]
 refine wpAnyH_take (i := 4) (v := ?_) rfl (by kernel_rfl) (by kernel_rfl) (by kernel_rfl) (fun _ _ _ h => h) (Or.inl ⟨by rfl, ?_⟩) hHeld ?_
 rotate_left
 ·(intro wz _; go_simp; try with_reducible rfl)
 try simp only [qA, qB, qC, Act.put, qD, qE, qF]
 refine wpAnyH_take (i := 5) (v := _) rfl (by kernel_rfl) (by kernel_rfl) (by kernel_rfl) (fun _ _ _ h => h) (yields_agg rfl 190 _ rfl rfl hbK dx dz Tryz.underlying190 rfl (by kernel_rfl)) hHeld ?_
 try simp only [qA, qB, qC, Act.put, qD, qE, qF]
 refine wpAnyH_take (i := 6) (v := ?_) rfl (by kernel_rfl) (by kernel_rfl) (by kernel_rfl) (fun _ _ _ h => h) (Or.inl ⟨by rfl, ?_⟩) hHeld ?_
 rotate_left
 ·(intro wz _; go_simp; try with_reducible rfl)
 try simp only [qA, qB, qC, Act.put, qD, qE, qF]
 replace h := h.drew
 generalize w.drew = w1 at h hHeld ⊢
 clear w
 obtain ⟨w, rfl⟩ : ∃ q : World, q = w1 := ⟨_, rfl⟩
 refine wpAnyH_ready (rs := [3]) (by kernel_rfl) (by simp) ?_
 refine AllReadyH.cons rfl (fun K hK => ?_) AllReadyH.nil
 (go_simp; go_wp2_with (go_at_call 46; refine (ME.out _ h).mono ?_; clear h; rintro _ w ⟨rfl, h⟩))
 refine hK.out _ _ (h.le KL) (fun hHeld => ?_)
 clear hK K
 try simp only [Act.put, qD, qE, qF]
 refine wpAnyH_ready (rs := [7]) (by kernel_rfl) (by simp) ?_
 refine AllReadyH.cons rfl (fun K hK => ?_) AllReadyH.nil
 (go_simp; go_wp2_with (go_at_call 143; refine (ND1.out _ h).mono ?_; clear h; rintro _ w ⟨rfl, h⟩))
 refine hK.out _ _ (h.le KL) (fun hHeld => ?_)
 clear hK K
 try simp only [Act.put, qD, qE, qF]
 refine wpAnyH_ready (rs := [8]) (by kernel_rfl) (by simp) ?_
 refine AllReadyH.cons rfl (fun K hK => ?_) AllReadyH.nil
 (go_simp; go_wp2_with (go_at_call 94; refine (LD.out _ h).mono ?_; clear h; rintro _ w ⟨rfl, h⟩))
 refine hK.out _ _ (h.le KE) (fun hHeld => ?_)
 clear hK K
 try simp only [Act.put, qD, qE, qF]
 refine wpAnyH_ready (rs := [9]) (by kernel_rfl) (by simp) ?_
 refine AllReadyH.cons rfl (fun K hK => ?_) AllReadyH.nil
 (go_simp; go_wp2_with (go_at_call 142; refine (HS.out _).mono ?_; rintro _ w' ⟨rfl, rfl⟩))
 refine hK.out _ _ (h.le KE) (fun hHeld => ?_)
 clear hK K
 try simp only [Act.put, qD, qE, qF]
 refine wpAnyH_take (i := 10) (v := ?_) rfl (by kernel_rfl) (by kernel_rfl) (by kernel_rfl) (fun _ _ _ h => h) (Or.inl ⟨by rfl, ?_⟩) hHeld ?_
 rotate_left
 ·(intro wz _; go_simp; try with_reducible rfl)
 try simp only [qA, qB, qC, Act.put, qD, qE, qF]
 refine wpAnyH_take (i := 11) (v := ?_) rfl (by kernel_rfl) (by kernel_rfl) (by kernel_rfl) (fun _ _ _ h => h) (Or.inl ⟨by rfl, ?_⟩) hHeld ?_
 rotate_left
 ·(intro wz _; go_simp; try with_reducible rfl)
 try simp only [qA, qB, qC, Act.put, qD, qE, qF]
 refine wpAnyH_take (i := 12) (v := ?_) rfl (by kernel_rfl) (by kernel_rfl) (by kernel_rfl) (fun _ _ _ h => h) (Or.inl ⟨by rfl, ?_⟩) hHeld ?_
 rotate_left
 ·(intro wz _; go_simp; try with_reducible rfl)
 try simp only [qA, qB, qC, Act.put, qD, qE, qF]
 refine wpAnyH_take (i := 13) (v := ?_) rfl (by kernel_rfl) (by kernel_rfl) (by kernel_rfl) (fun _ _ _ h => h) (Or.inl ⟨by rfl, ?_⟩) hHeld ?_
 rotate_left
 ·(intro wz _; go_simp; try with_reducible rfl)
 try simp only [qA, qB, qC, Act.put, qD, qE, qF]
 refine wpAnyH_take (i := 14) (v := ?_) rfl (by kernel_rfl) (by kernel_rfl) (by kernel_rfl) (fun _ _ _ h => h) (Or.inl ⟨by rfl, ?_⟩) hHeld ?_
 rotate_left
 ·(intro wz _; go_simp; try with_reducible rfl)
 try simp only [qA, qB, qC, Act.put, qD, qE, qF]
 refine wpAnyH_done (by kernel_rfl) ?_ _
 clear hHeld
 go_upto_region 10 with (first
  | (with_reducible show wpList _ _ _ ({ dst := _, op := Op.store 42 _ _, type := _, pos := _, after := _, guard := _ } :: _) _ _; refine wpList_store1_has h rfl 42 _ _ rfl rfl rfl hfb2 hsz rfl (by kernel_rfl) ?_; clear h; intro w h))
 have h0 : Has σ (M2.upd b (.cells (fr0.setIfInBounds 4 (.int .u64 ((g1 : Int) + 1))) 69)) w := h
 rw [R1.out] at h0
 clear h
 have h := h0
 clear h0
 generalize hM3 : M2.upd b (.cells fr1 69) = M3 at h hfb3
 go_wp2_with (first
  | (with_reducible show wpList _ _ _ ({ dst := _, op := Op.store 3 _ _, type := _, pos := _, after := _, guard := _ } :: _) _ _; refine wpList_store1_has h rfl 3 _ _ rfl rfl rfl hfb3 hsz3 rfl (by kernel_rfl) ?_; clear h; intro w h))
 go_end0
 refine ⟨rfl, _, _, ?_, HT.out⟩
 have h0 : Has σ (M2.upd b (.cells (fr1.setIfInBounds 1 (.int .i64 1)) 69)) w := by rw [← hM3, Mm.upd_upd] at h; exact h
 rw [R2.out] at h0
 exact h0
end
section
open Go.RowKit
set_option maxHeartbeats 4000000 in
set_option maxRecDepth 20000 in
/-- The slot is away. -/
theorem give_1 {σ w : World} {K M : Mm} {lab : Nat → Nat} {p t q b lv : Nat} {s : MachS} {fs : List FrameS} {f : FrameS} (h : Has σ M w) (hT : AtTop K M lab p s t q b fs f) (hat : f.at_ = 1) {sl g : Nat} (h0 : f.r 0 = (sl : Int)) (hsl : sl < 256) (hg : f.r 2 = (g : Int) + 1) (hg32 : g < 4294967296) (hlv : levelOf s.c (t : Nat) = (lv : Nat)) (hlc : (lv : Int) < s.c 0) (hin : InK s.c 9 (sl : Nat) 0) (hb1 : s.mem.acc < 1000000000) (hb2 : s.mem.wr < 1000000000) :
  Calls Tryz.prog 133 #[.agg (runC p t q b)] w fun r w' => r = .returned (.tuple #[]) ∧ ∃ M' lab', Has σ M' w' ∧ AtTop K M' lab' p (MachS.top { s with mem := s.mem.store (atK s.c lv 9 (sl : Nat) 0) (mkHead g 3 : Nat) } t fs (f.goto 2)) t q b fs (f.goto 2) := by
 have d0 : (runC p t q b)[0]? = some (.pointer (some ⟨p, 0, none⟩)) := rfl
 have d1 : (runC p t q b)[1]? = some (.int .i64 (t : Nat)) := rfl
 have d2 : (runC p t q b)[2]? = some (.pointer (some ⟨q, 0, none⟩)) := rfl
 have d3 : (runC p t q b)[3]? = some (.pointer (some ⟨b, 0, none⟩)) := rfl
 have dx : (runC p t q b).extract 0 (0 + 4) = runC p t q b := rfl
 have dz : (runC p t q b).size = 4 := rfl
 have f1 : f.row[1]? = some (.int .i64 1) := by rw [← hat]; rfl
 have f2 : f.row[2]? = some (.int .u64 (sl : Nat)) := by rw [← h0]; rfl
 have us : IntKind.i64.wrap ((sl : Nat) : Int) = ((sl : Nat) : Int) := IntWalk.i64_in _ (by omega)
 clear hat
 have f4 : f.row[4]? = some (.int .u64 ((g : Int) + 1)) := by rw [← hg]; rfl
 have HH : Hid (∀ w, Calls Tryz.prog 89 #[.int .i64 (g : Nat), .int .i64 3] w fun r w' => r = .returned (.int .u64 (mkHead g 3 : Nat)) ∧ w = w') := Lib.hid fun w => handleHead_any g 3 (by omega) (by omega) w
 have SPA := spotAt_of (σ := σ) hT.mach hlv hlc hin
 obtain ⟨a, ha⟩ : ∃ a, atK s.c lv 9 (sl : Nat) 0 = a := ⟨_, rfl⟩
 rw [ha] at SPA ⊢
 obtain ⟨v, hv⟩ : ∃ v : Int, ((mkHead g 3 : Nat) : Int) = v := ⟨_, rfl⟩
 rw [hv] at HH ⊢
 have ug : IntKind.i64.wrap ((g : Int) + 1) = (g : Int) + 1 := IntWalk.i64_in _ (by omega)
 have ug2 : IntKind.i64.wrap (g : Int) = (g : Int) := IntWalk.i64_in _ (by omega)
 have ug3 : IntKind.i64.wrap ((g : Int) + 1 - 1) = (g : Int) := by rw [show (g : Int) + 1 - 1 = g by omega]; exact ug2
 have ND := Lib.hid (fun (M' : Mm) (w : World) (h : Has σ M' w) (hle : M.le M') => runNode_eq (q := q) (b := b) h (SPA.le hle))
 clear h0 ha hv hlv hlc hin SPA hg
 go_enter Tryz.func133, Tryz.ntmps133
 go_upto_region 1 with (fail)
 obtain ⟨M1, hbx, hle, hb4, hn⟩ := h.box (.cells (runC p t q b) 193)
 generalize w.alloc _ = wx at hbx ⊢
 generalize w.heap.size = b4 at hb4 hn ⊢
 clear h
 try clear w
 have h := hbx
 clear hbx
 obtain ⟨w, rfl⟩ : ∃ x : World, x = wx := ⟨_, rfl⟩
 obtain ⟨lab1, hT1⟩ := hT.more1 hle hn hb4
 have hnK : K b4 = none := by
  cases e : K b4 with
  | none => rfl
  | some o => have := (hT.base _ _ e).1; rw [hn] at this; cases this
 have hKK : K.le (K.upd b4 (.cells (runC p t q b) 193)) := Mm.le_upd' hnK _
 have hbK : (K.upd b4 (.cells (runC p t q b) 193)) b4 = some (.cells (runC p t q b) 193) := Mm.upd_same _ _ _
 have hfb := hT1.obj
 have ND1 := Lib.hid (fun (w : World) (h : Has σ M1 w) => ND.out M1 w h hle)
 clear ND
 -- behind the entrance: the store of v at a, then the frame goes on at 2
 have ME := Lib.hid (fun (w : World) (h : Has σ M1 w) => mMem_eq h hT1.mach)
 have SE := Lib.hid (fun (w : World) (h : Has σ M1 w) => memStore_eq h hT1.mach.mem hb1 hb2 a v)
 have hne : b4 ≠ b := fun e => by
  subst e
  rw [hb4] at hfb
  simp only [Option.some.injEq, Obj.cells.injEq] at hfb
  exact absurd hfb.2.1 (by decide)
 have hT2 := hT1.store a v
 have KL := Mm.upd_le2 hT1.base.le hT1.obj
 have KE := Mm.upd_le2 hT2.base.le hT2.obj
 have hbK2 : ((K.upd b4 (.cells (runC p t q b) 193)).upd b (.cells f.row 69)) b4 = some (.cells (runC p t q b) 193) := (Mm.upd_ne hne).trans (Mm.upd_same _ _ _)
 have hfK : ((K.upd b4 (.cells (runC p t q b) 193)).upd b (.cells f.row 69)) b = some (.cells f.row 69) := Mm.upd_same _ _ _
 obtain ⟨hfb2, hT3⟩ := hT2.frame (f.goto 2)
 have HT := Lib.hid (hT3.less hKK)
 have hsz : 1 < f.row.size := show 1 < 18 by omega
 have R1 := Lib.hid (row_goto f 2)
 clear hT hT1 hT2 hT3 hb1 hb2 hn hle hnK hKK hne hbK
 generalize runC p t q b = rc at *
 generalize hr0 : f.row = fr0 at *
 generalize hr1 : (f.goto 2).row = fr1 at *
 clear hr0 hr1
 generalize (K.upd b4 _).upd b _ = K1 at KL KE hbK2 hfK
 generalize storeM M1 s.mp s.mem a v = M2 at *
 go_upto_region 12 with (first
  | (with_reducible show wpList _ _ _ ({ dst := _, op := Op.load 70 _, type := _, pos := _, after := _, guard := _ } :: _) _ _; refine wpList_load1_has h rfl 70 _ rfl rfl hb4 d3 Tryz.underlying70 rfl ?_)
  | (with_reducible show wpList _ _ _ ({ dst := _, op := Op.load 42 _, type := _, pos := _, after := _, guard := _ } :: _) _ _; refine wpList_load1_has h rfl 42 _ rfl rfl hfb f2 Tryz.underlying42 rfl ?_)
  | (with_reducible show wpList _ _ _ ({ dst := _, op := Op.load 3 _, type := _, pos := _, after := _, guard := _ } :: _) _ _; refine wpList_load1_has h rfl 3 _ rfl rfl hfb f1 Tryz.underlying3 rfl ?_))
 clear hfb hb4
 refine wp_region_held_drew (S := Has σ (K1)) (by kernel_rfl) (h.drew.le KL) (fun hHeld => ?_)
 refine wpAnyH_take (i := 0) (v := ?_) rfl (by kernel_rfl) (by kernel_rfl) (by kernel_rfl) (fun _ _ _ h => h) (Or.inl ⟨by rfl, ?_⟩) hHeld ?_
 rotate_left
 ·(intro wz _; go_simp; try with_reducible rfl)
 try simp only [qA, qB, qC, Act.put, qD, qE, qF]
 refine wpAnyH_take (i := 1) (v := ?_) rfl (by kernel_rfl) (by kernel_rfl) (by kernel_rfl) (fun _ _ _ h => h) (Or.inl ⟨by rfl, ?_⟩) hHeld ?_
 rotate_left
 ·(intro wz _; go_simp; try with_reducible rfl)
 try simp only [qA, qB, qC, Act.put, qD, qE, qF]
 refine wpAnyH_take (i := 2) (v := _) rfl (by kernel_rfl) (by kernel_rfl) (by kernel_rfl) (fun _ _ _ h => h) (yields_load1 rfl 26 _ rfl rfl hbK2 d0 Tryz.underlying26 rfl) hHeld ?_
 try simp only [qA, qB, qC, Act.put, qD, qE, qF]
 refine wpAnyH_take (i := 4) (v := ?_) rfl (by kernel_rfl) (by kernel_rfl) (by kernel_rfl) (fun _ _ _ h => h) (Or.inl ⟨by rfl, ?_⟩) hHeld ?_
 rotate_left
 ·(intro wz _; go_simp; try with_reducible rfl)
 try simp only [qA, qB, qC, Act.put, qD, qE, qF]
 refine wpAnyH_take (i := 5) (v := _) rfl (by kernel_rfl) (by kernel_rfl) (by kernel_rfl) (fun _ _ _ h => h) (yields_agg rfl 190 _ rfl rfl hbK2 dx dz Tryz.underlying190 rfl (by kernel_rfl)) hHeld ?_
 try simp only [qA, qB, qC, Act.put, qD, qE, qF]
 refine wpAnyH_take (i := 6) (v := ?_) rfl (by kernel_rfl) (by kernel_rfl) (by kernel_rfl) (fun _ _ _ h => h) (Or.inl ⟨by rfl, ?_⟩) hHeld ?_
 rotate_left
 ·(intro wz _; go_simp; try with_reducible rfl)
 try simp only [qA, qB, qC, Act.put, qD, qE, qF]
 refine wpAnyH_take (i := 8) (v := ?_) rfl (by kernel_rfl) (by kernel_rfl) (by kernel_rfl) (fun _ _ _ h => h) (Or.inl ⟨by rfl, ?_⟩) hHeld ?_
 rotate_left
 ·(intro wz _; go_simp; try with_reducible rfl)
 try simp only [qA, qB, qC, Act.put, qD, qE, qF]
 refine wpAnyH_take (i := 9) (v := ?_) rfl (by kernel_rfl) (by kernel_rfl) (by kernel_rfl) (fun _ _ _ h => h) (Or.inl ⟨by rfl, ?_⟩) hHeld ?_
 rotate_left
 ·(intro wz _; go_simp; try with_reducible rfl)
 try simp only [qA, qB, qC, Act.put, qD, qE, qF]
 refine wpAnyH_take (i := 10) (v := ?_) rfl (by kernel_rfl) (by kernel_rfl) (by kernel_rfl) (fun _ _ _ h => h) (Or.inl ⟨by rfl, ?_⟩) hHeld ?_
 rotate_left
 ·(intro wz _; go_simp; try with_reducible rfl)
 try simp only [qA, qB, qC, Act.put, qD, qE, qF]
 refine wpAnyH_take (i := 11) (v := ?_) rfl (by kernel_rfl) (by kernel_rfl) (by kernel_rfl) (fun _ _ _ h => h) (Or.inl ⟨by rfl, ?_⟩) hHeld ?_
 rotate_left
 ·(intro wz _; go_simp; try with_reducible rfl)
 try simp only [qA, qB, qC, Act.put, qD, qE, qF]
 refine wpAnyH_take (i := 12) (v := _) rfl (by kernel_rfl) (by kernel_rfl) (by kernel_rfl) (fun _ _ _ h => h) (yields_load1 rfl 42 _ rfl rfl hfK f4 Tryz.underlying42 rfl) hHeld ?_
 try simp only [qA, qB, qC, Act.put, qD, qE, qF]
 refine wpAnyH_take (i := 13) (v := ?_) rfl (by kernel_rfl) (by kernel_rfl) (by kernel_rfl) (fun _ _ _ h => h) (Or.inl ⟨by rfl, ?_⟩) hHeld ?_
 rotate_left
 ·(intro wz _; go_simp; try with_reducible rfl)
 try simp only [qA, qB, qC, Act.put, qD, qE, qF]
 refine wpAnyH_take (i := 14) (v := ?_) rfl (by kernel_rfl) (by kernel_rfl) (by kernel_rfl) (fun _ _ _ h => h) (Or.inl ⟨by rfl, ?_⟩) hHeld ?_
 rotate_left
 ·(intro wz _; go_simp; try with_reducible rfl)
 try simp only [qA, qB, qC, Act.put, qD, qE, qF]
 replace h := h.drew
 generalize w.drew = w1 at h hHeld ⊢
 clear w
 obtain ⟨w, rfl⟩ : ∃ q : World, q = w1 := ⟨_, rfl⟩
 refine wpAnyH_ready (rs := [3]) (by kernel_rfl) (by simp) ?_
 refine AllReadyH.cons rfl (fun K hK => ?_) AllReadyH.nil
 (go_simp; go_wp2_with (go_at_call 46; refine (ME.out _ h).mono ?_; clear h; rintro _ w ⟨rfl, h⟩))
 refine hK.out _ _ (h.le KL) (fun hHeld => ?_)
 clear hK K
 try simp only [Act.put, qD, qE, qF]
 refine wpAnyH_ready (rs := [7]) (by kernel_rfl) (by simp) ?_
 refine AllReadyH.cons rfl (fun K hK => ?_) AllReadyH.nil
 (go_simp; go_wp2_with (go_at_call 143; refine (ND1.out _ h).mono ?_; clear h; rintro _ w ⟨rfl, h⟩))
 refine hK.out _ _ (h.le KL) (fun hHeld => ?_)
 clear hK K
 try simp only [Act.put, qD, qE, qF]
 refine wpAnyH_ready (rs := [15]) (by kernel_rfl) (by simp) ?_
 refine AllReadyH.cons rfl (fun K hK => ?_) AllReadyH.nil
 (go_simp; go_wp2_with (go_at_call 89; refine (HH.out _).mono ?_; rintro _ w' ⟨rfl, rfl⟩))
 refine hK.out _ _ (h.le KL) (fun hHeld => ?_)
 clear hK K
 try simp only [Act.put, qD, qE, qF]
 refine wpAnyH_ready (rs := [16]) (by kernel_rfl) (by simp) ?_
 refine AllReadyH.cons rfl (fun K hK => ?_) AllReadyH.nil
 (go_simp; go_wp2_with (go_at_call 97; refine (SE.out _ h).mono ?_; clear h; rintro _ w ⟨rfl, h⟩))
 refine hK.out _ _ (h.le KE) (fun hHeld => ?_)
 clear hK K
 try simp only [Act.put, qD, qE, qF]
 refine wpAnyH_done (by kernel_rfl) ?_ _
 clear hHeld
 go_wp2_with (first
  | (with_reducible show wpList _ _ _ ({ dst := _, op := Op.store 3 _ _, type := _, pos := _, after := _, guard := _ } :: _) _ _; refine wpList_store1_has h rfl 3 _ _ rfl rfl rfl hfb2 hsz rfl (by kernel_rfl) ?_; clear h; intro w h))
 go_end0
 refine ⟨rfl, _, _, ?_, HT.out⟩
 have h0 : Has σ (M2.upd b (.cells (fr0.setIfInBounds 1 (.int .i64 2)) 69)) w := h
 rw [R1.out] at h0
 exact h0
set_option maxHeartbeats 4000000 in
set_option maxRecDepth 20000 in
/-- The first slot becomes what is behind this one. -/
theorem give_8 {σ w : World} {K M : Mm} {lab : Nat → Nat} {p t q b lv : Nat} {s : MachS} {fs : List FrameS} {f : FrameS} (h : Has σ M w) (hT : AtTop K M lab p s t q b fs f) (hat : f.at_ = 8) {sl x : Nat} (h0 : f.r 0 = (sl : Int)) (hsl : sl < 256) (hx : f.r 1 = (x : Int)) (hx64 : x < 18446744073709551616) (hlv : levelOf s.c (t : Nat) = (lv : Nat)) (hlc : (lv : Int) < s.c 0) (hin : InK s.c 8 (sl : Nat) 0) (hb1 : s.mem.acc < 1000000000) (hb2 : s.mem.wr < 1000000000) :
  Calls Tryz.prog 133 #[.agg (runC p t q b)] w fun r w' => r = .returned (.tuple #[]) ∧ ∃ M' lab', Has σ M' w' ∧ AtTop K M' lab' p (MachS.top { s with mem := s.mem.store (atK s.c lv 8 (sl : Nat) 0) (cutN x 0 8 : Nat) } t fs (f.goto 9)) t q b fs (f.goto 9) := by
 have d0 : (runC p t q b)[0]? = some (.pointer (some ⟨p, 0, none⟩)) := rfl
 have d1 : (runC p t q b)[1]? = some (.int .i64 (t : Nat)) := rfl
 have d2 : (runC p t q b)[2]? = some (.pointer (some ⟨q, 0, none⟩)) := rfl
 have d3 : (runC p t q b)[3]? = some (.pointer (some ⟨b, 0, none⟩)) := rfl
 have dx : (runC p t q b).extract 0 (0 + 4) = runC p t q b := rfl
 have dz : (runC p t q b).size = 4 := rfl
 have f1 : f.row[1]? = some (.int .i64 8) := by rw [← hat]; rfl
 have f2 : f.row[2]? = some (.int .u64 (sl : Nat)) := by rw [← h0]; rfl
 have us : IntKind.i64.wrap ((sl : Nat) : Int) = ((sl : Nat) : Int) := IntWalk.i64_in _ (by omega)
 clear hat
 have f3 : f.row[3]? = some (.int .u64 (x : Nat)) := by rw [← hx]; rfl
 have UN := Lib.hid (linkUnder_any x hx64)
 have lu : cutN x 0 8 < 256 := cutN_lt x 0 8
 have SPA := spotAt_of (σ := σ) hT.mach hlv hlc hin
 obtain ⟨a, ha⟩ : ∃ a, atK s.c lv 8 (sl : Nat) 0 = a := ⟨_, rfl⟩
 rw [ha] at SPA ⊢
 obtain ⟨u, hu⟩ : ∃ u, cutN x 0 8 = u := ⟨_, rfl⟩
 rw [hu] at UN lu ⊢
 have uu : IntKind.u64.wrap ((u : Nat) : Int) = ((u : Nat) : Int) := IntWalk.u64_in _ (by omega)
 obtain ⟨v, hv⟩ : ∃ v : Int, v = ((u : Nat) : Int) := ⟨_, rfl⟩
 rw [← hv]
 have AN := Lib.hid (fun (M' : Mm) (w : World) (h : Has σ M' w) (hle : M.le M') => runAt_eq (q := q) (b := b) h (SPA.le hle))
 clear h0 ha hu hlv hlc hin SPA hx hx64
 go_enter Tryz.func133, Tryz.ntmps133
 go_upto_region 1 with (fail)
 obtain ⟨M1, hbx, hle, hb4, hn⟩ := h.box (.cells (runC p t q b) 193)
 generalize w.alloc _ = wx at hbx ⊢
 generalize w.heap.size = b4 at hb4 hn ⊢
 clear h
 try clear w
 have h := hbx
 clear hbx
 obtain ⟨w, rfl⟩ : ∃ x : World, x = wx := ⟨_, rfl⟩
 obtain ⟨lab1, hT1⟩ := hT.more1 hle hn hb4
 have hnK : K b4 = none := by
  cases e : K b4 with
  | none => rfl
  | some o => have := (hT.base _ _ e).1; rw [hn] at this; cases this
 have hKK : K.le (K.upd b4 (.cells (runC p t q b) 193)) := Mm.le_upd' hnK _
 have hbK : (K.upd b4 (.cells (runC p t q b) 193)) b4 = some (.cells (runC p t q b) 193) := Mm.upd_same _ _ _
 have hfb := hT1.obj
 have AN1 := Lib.hid (fun (w : World) (h : Has σ M1 w) => AN.out M1 w h hle)
 clear AN
 -- behind the entrance: the store of v at a, then the frame goes on at 9
 have ME := Lib.hid (fun (w : World) (h : Has σ M1 w) => mMem_eq h hT1.mach)
 have SE := Lib.hid (fun (w : World) (h : Has σ M1 w) => memStore_eq h hT1.mach.mem hb1 hb2 a v)
 have hne : b4 ≠ b := fun e => by
  subst e
  rw [hb4] at hfb
  simp only [Option.some.injEq, Obj.cells.injEq] at hfb
  exact absurd hfb.2.1 (by decide)
 have hT2 := hT1.store a v
 have KL := Mm.upd_le2 hT1.base.le hT1.obj
 have KE := Mm.upd_le2 hT2.base.le hT2.obj
 have hbK2 : ((K.upd b4 (.cells (runC p t q b) 193)).upd b (.cells f.row 69)) b4 = some (.cells (runC p t q b) 193) := (Mm.upd_ne hne).trans (Mm.upd_same _ _ _)
 have hfK : ((K.upd b4 (.cells (runC p t q b) 193)).upd b (.cells f.row 69)) b = some (.cells f.row 69) := Mm.upd_same _ _ _
 obtain ⟨hfb2, hT3⟩ := hT2.frame (f.goto 9)
 have HT := Lib.hid (hT3.less hKK)
 have hsz : 1 < f.row.size := show 1 < 18 by omega
 have R1 := Lib.hid (row_goto f 9)
 clear hT hT1 hT2 hT3 hb1 hb2 hn hle hnK hKK hne hbK
 generalize runC p t q b = rc at *
 generalize hr0 : f.row = fr0 at *
 generalize hr1 : (f.goto 9).row = fr1 at *
 clear hr0 hr1
 generalize (K.upd b4 _).upd b _ = K1 at KL KE hbK2 hfK
 generalize storeM M1 s.mp s.mem a v = M2 at *
 subst hv
 go_upto_region 25 with (first
  | (with_reducible show wpList _ _ _ ({ dst := _, op := Op.load 70 _, type := _, pos := _, after := _, guard := _ } :: _) _ _; refine wpList_load1_has h rfl 70 _ rfl rfl hb4 d3 Tryz.underlying70 rfl ?_)
  | (with_reducible show wpList _ _ _ ({ dst := _, op := Op.load 42 _, type := _, pos := _, after := _, guard := _ } :: _) _ _; refine wpList_load1_has h rfl 42 _ rfl rfl hfb f2 Tryz.underlying42 rfl ?_)
  | (with_reducible show wpList _ _ _ ({ dst := _, op := Op.load 3 _, type := _, pos := _, after := _, guard := _ } :: _) _ _; refine wpList_load1_has h rfl 3 _ rfl rfl hfb f1 Tryz.underlying3 rfl ?_))
 clear hfb hb4
 refine wp_region_held_drew (S := Has σ (K1)) (by kernel_rfl) (h.drew.le KL) (fun hHeld => ?_)
 refine wpAnyH_take (i := 0) (v := ?_) rfl (by kernel_rfl) (by kernel_rfl) (by kernel_rfl) (fun _ _ _ h => h) (Or.inl ⟨by rfl, ?_⟩) hHeld ?_
 rotate_left
 ·(intro wz _; go_simp; try with_reducible rfl)
 try simp only [qA, qB, qC, Act.put, qD, qE, qF]
 refine wpAnyH_take (i := 1) (v := ?_) rfl (by kernel_rfl) (by kernel_rfl) (by kernel_rfl) (fun _ _ _ h => h) (Or.inl ⟨by rfl, ?_⟩) hHeld ?_
 rotate_left
 ·(intro wz _; go_simp; try with_reducible rfl)
 try simp only [qA, qB, qC, Act.put, qD, qE, qF]
 refine wpAnyH_take (i := 2) (v := _) rfl (by kernel_rfl) (by kernel_rfl) (by kernel_rfl) (fun _ _ _ h => h) (yields_load1 rfl 26 _ rfl rfl hbK2 d0 Tryz.underlying26 rfl) hHeld ?_
 try simp only [qA, qB, qC, Act.put, qD, qE, qF]
 refine wpAnyH_take (i := 4) (v := ?_) rfl (by kernel_rfl) (by kernel_rfl) (by kernel_rfl) (fun _ _ _ h => h) (Or.inl ⟨by rfl, ?_⟩) hHeld ?_
 rotate_left
 ·(intro wz _; go_simp; try with_reducible rfl)
 try simp only [qA, qB, qC, Act.put, qD, qE, qF]
 refine wpAnyH_take (i := 5) (v := _) rfl (by kernel_rfl) (by kernel_rfl) (by kernel_rfl) (fun _ _ _ h => h) (yields_agg rfl 190 _ rfl rfl hbK2 dx dz Tryz.underlying190 rfl (by kernel_rfl)) hHeld ?_
 try simp only [qA, qB, qC, Act.put, qD, qE, qF]
 refine wpAnyH_take (i := 6) (v := ?_) rfl (by kernel_rfl) (by kernel_rfl) (by kernel_rfl) (fun _ _ _ h => h) (Or.inl ⟨by rfl, ?_⟩) hHeld ?_
 rotate_left
 ·(intro wz _; go_simp; try with_reducible rfl)
 try simp only [qA, qB, qC, Act.put, qD, qE, qF]
 refine wpAnyH_take (i := 8) (v := ?_) rfl (by kernel_rfl) (by kernel_rfl) (by kernel_rfl) (fun _ _ _ h => h) (Or.inl ⟨by rfl, ?_⟩) hHeld ?_
 rotate_left
 ·(intro wz _; go_simp; try with_reducible rfl)
 try simp only [qA, qB, qC, Act.put, qD, qE, qF]
 refine wpAnyH_take (i := 9) (v := ?_) rfl (by kernel_rfl) (by kernel_rfl) (by kernel_rfl) (fun _ _ _ h => h) (Or.inl ⟨by rfl, ?_⟩) hHeld ?_
 rotate_left
 ·(intro wz _; go_simp; try with_reducible rfl)
 try simp only [qA, qB, qC, Act.put, qD, qE, qF]
 refine wpAnyH_take (i := 10) (v := ?_) rfl (by kernel_rfl) (by kernel_rfl) (by kernel_rfl) (fun _ _ _ h => h) (Or.inl ⟨by rfl, ?_⟩) hHeld ?_
 rotate_left
 ·(intro wz _; go_simp; try with_reducible rfl)
 try simp only [qA, qB, qC, Act.put, qD, qE, qF]
 refine wpAnyH_take (i := 11) (v := ?_) rfl (by kernel_rfl) (by kernel_rfl) (by kernel_rfl) (fun _ _ _ h => h) (Or.inl ⟨by rfl, ?_⟩) hHeld ?_
 rotate_left
 ·(intro wz _; go_simp; try with_reducible rfl)
 try simp only [qA, qB, qC, Act.put, qD, qE, qF]
 refine wpAnyH_take (i := 12) (v := _) rfl (by kernel_rfl) (by kernel_rfl) (by kernel_rfl) (fun _ _ _ h => h) (yields_load1 rfl 42 _ rfl rfl hfK f3 Tryz.underlying42 rfl) hHeld ?_
 try simp only [qA, qB, qC, Act.put, qD, qE, qF]
 replace h := h.drew
 generalize w.drew = w1 at h hHeld ⊢
 clear w
 obtain ⟨w, rfl⟩ : ∃ q : World, q = w1 := ⟨_, rfl⟩
 refine wpAnyH_ready (rs := [3]) (by kernel_rfl) (by simp) ?_
 refine AllReadyH.cons rfl (fun K hK => ?_) AllReadyH.nil
 (go_simp; go_wp2_with (go_at_call 46; refine (ME.out _ h).mono ?_; clear h; rintro _ w ⟨rfl, h⟩))
 refine hK.out _ _ (h.le KL) (fun hHeld => ?_)
 clear hK K
 try simp only [Act.put, qD, qE, qF]
 refine wpAnyH_ready (rs := [7]) (by kernel_rfl) (by simp) ?_
 refine AllReadyH.cons rfl (fun K hK => ?_) AllReadyH.nil
 (go_simp; go_wp2_with (go_at_call 140; refine (AN1.out _ h).mono ?_; clear h; rintro _ w ⟨rfl, h⟩))
 refine hK.out _ _ (h.le KL) (fun hHeld => ?_)
 clear hK K
 try simp only [Act.put, qD, qE, qF]
 refine wpAnyH_ready (rs := [13]) (by kernel_rfl) (by simp) ?_
 refine AllReadyH.cons rfl (fun K hK => ?_) AllReadyH.nil
 (go_simp; go_wp2_with (go_at_call 138; refine (UN.out _).mono ?_; rintro _ w' ⟨rfl, rfl⟩))
 refine hK.out _ _ (h.le KL) (fun hHeld => ?_)
 clear hK K
 try simp only [Act.put, qD, qE, qF]
 refine wpAnyH_take (i := 14) (v := ?_) rfl (by kernel_rfl) (by kernel_rfl) (by kernel_rfl) (fun _ _ _ h => h) (Or.inl ⟨by rfl, ?_⟩) hHeld ?_
 rotate_left
 ·(intro wz _; go_simp; try with_reducible rfl)
 try simp only [qA, qB, qC, Act.put, qD, qE, qF]
 refine wpAnyH_ready (rs := [15]) (by kernel_rfl) (by simp) ?_
 refine AllReadyH.cons rfl (fun K hK => ?_) AllReadyH.nil
 (go_simp; go_wp2_with (go_at_call 97; refine (SE.out _ h).mono ?_; clear h; rintro _ w ⟨rfl, h⟩))
 refine hK.out _ _ (h.le KE) (fun hHeld => ?_)
 clear hK K
 try simp only [Act.put, qD, qE, qF]
 refine wpAnyH_done (by kernel_rfl) ?_ _
 clear hHeld
 go_wp2_with (first
  | (with_reducible show wpList _ _ _ ({ dst := _, op := Op.store 3 _ _, type := _, pos := _, after := _, guard := _ } :: _) _ _; refine wpList_store1_has h rfl 3 _ _ rfl rfl rfl hfb2 hsz rfl (by kernel_rfl) ?_; clear h; intro w h))
 go_end0
 refine ⟨rfl, _, _, ?_, HT.out⟩
 have h0 : Has σ (M2.upd b (.cells (fr0.setIfInBounds 1 (.int .i64 9)) 69)) w := h
 rw [R1.out] at h0
 exact h0
end
section
open Go.RowKit
set_option maxRecDepth 20000 in
theorem scrubbed_2 (w : World) : Calls Tryz.prog 144 #[.int .i64 2] w fun r w' => r = .returned (.int .i64 3) ∧ w = w' := by
 have IX : ∀ w : World, (Instr.index 112 (.agg #[.int .i64 3, .int .i64 4, .int .i64 2, .int .i64 1]) (.int .i64 0)).run Tryz.prog w = .ok (.int .i64 3) w := fun w => run_index_one w Tryz.underlying112 Tryz.underlying3 rfl (by kernel_rfl) _ .i64 0 (by omega) (by omega) rfl
 go_enter Tryz.func144, Tryz.ntmps144
 go_wp2
 go_ret
 exact ⟨rfl, rfl⟩
set_option maxRecDepth 20000 in
theorem scrubbed_3 (w : World) : Calls Tryz.prog 144 #[.int .i64 3] w fun r w' => r = .returned (.int .i64 4) ∧ w = w' := by
 have IX : ∀ w : World, (Instr.index 112 (.agg #[.int .i64 3, .int .i64 4, .int .i64 2, .int .i64 1]) (.int .i64 1)).run Tryz.prog w = .ok (.int .i64 4) w := fun w => run_index_one w Tryz.underlying112 Tryz.underlying3 rfl (by kernel_rfl) _ .i64 1 (by omega) (by omega) rfl
 go_enter Tryz.func144, Tryz.ntmps144
 go_wp2
 go_ret
 exact ⟨rfl, rfl⟩
set_option maxRecDepth 20000 in
theorem scrubbed_4 (w : World) : Calls Tryz.prog 144 #[.int .i64 4] w fun r w' => r = .returned (.int .i64 2) ∧ w = w' := by
 have IX : ∀ w : World, (Instr.index 112 (.agg #[.int .i64 3, .int .i64 4, .int .i64 2, .int .i64 1]) (.int .i64 2)).run Tryz.prog w = .ok (.int .i64 2) w := fun w => run_index_one w Tryz.underlying112 Tryz.underlying3 rfl (by kernel_rfl) _ .i64 2 (by omega) (by omega) rfl
 go_enter Tryz.func144, Tryz.ntmps144
 go_wp2
 go_ret
 exact ⟨rfl, rfl⟩
set_option maxRecDepth 20000 in
theorem scrubbed_5 (w : World) : Calls Tryz.prog 144 #[.int .i64 5] w fun r w' => r = .returned (.int .i64 1) ∧ w = w' := by
 have IX : ∀ w : World, (Instr.index 112 (.agg #[.int .i64 3, .int .i64 4, .int .i64 2, .int .i64 1]) (.int .i64 3)).run Tryz.prog w = .ok (.int .i64 1) w := fun w => run_index_one w Tryz.underlying112 Tryz.underlying3 rfl (by kernel_rfl) _ .i64 3 (by omega) (by omega) rfl
 go_enter Tryz.func144, Tryz.ntmps144
 go_wp2
 go_ret
 exact ⟨rfl, rfl⟩
end
section
open Go.RowKit
set_option maxHeartbeats 4000000 in
set_option maxRecDepth 20000 in
theorem give_2 {σ w : World} {K M : Mm} {lab : Nat → Nat} {p t q b lv : Nat} {s : MachS} {fs : List FrameS} {f : FrameS} (h : Has σ M w) (hT : AtTop K M lab p s t q b fs f) (hat : f.at_ = 2) {sl : Nat} (h0 : f.r 0 = (sl : Int)) (hsl : sl < 256) (hlv : levelOf s.c (t : Nat) = (lv : Nat)) (hlc : (lv : Int) < s.c 0) (hin : InK s.c 9 (sl : Nat) 3) (hb1 : s.mem.acc < 1000000000) (hb2 : s.mem.wr < 1000000000) :
  Calls Tryz.prog 133 #[.agg (runC p t q b)] w fun r w' => r = .returned (.tuple #[]) ∧ ∃ M' lab', Has σ M' w' ∧ AtTop K M' lab' p (MachS.top { s with mem := s.mem.store (atK s.c lv 9 (sl : Nat) 3) 0 } t fs (f.goto 3)) t q b fs (f.goto 3) := by
 have d0 : (runC p t q b)[0]? = some (.pointer (some ⟨p, 0, none⟩)) := rfl
 have d1 : (runC p t q b)[1]? = some (.int .i64 (t : Nat)) := rfl
 have d2 : (runC p t q b)[2]? = some (.pointer (some ⟨q, 0, none⟩)) := rfl
 have d3 : (runC p t q b)[3]? = some (.pointer (some ⟨b, 0, none⟩)) := rfl
 have dx : (runC p t q b).extract 0 (0 + 4) = runC p t q b := rfl
 have dz : (runC p t q b).size = 4 := rfl
 have f1 : f.row[1]? = some (.int .i64 2) := by rw [← hat]; rfl
 have f2 : f.row[2]? = some (.int .u64 (sl : Nat)) := by rw [← h0]; rfl
 have us : IntKind.i64.wrap ((sl : Nat) : Int) = ((sl : Nat) : Int) := IntWalk.i64_in _ (by omega)
 clear hat
 have SC := Lib.hid scrubbed_2
 have SPA := spotAt_of (σ := σ) hT.mach hlv hlc hin
 obtain ⟨a, ha⟩ : ∃ a, atK s.c lv 9 (sl : Nat) 3 = a := ⟨_, rfl⟩
 rw [ha] at SPA ⊢
 obtain ⟨v, hv⟩ : ∃ v : Int, v = 0 := ⟨_, rfl⟩
 rw [← hv]
 have ND := Lib.hid (fun (M' : Mm) (w : World) (h : Has σ M' w) (hle : M.le M') => runNode_eq (q := q) (b := b) h (SPA.le hle))
 clear h0 ha hlv hlc hin SPA
 go_enter Tryz.func133, Tryz.ntmps133
 go_upto_region 1 with (fail)
 obtain ⟨M1, hbx, hle, hb4, hn⟩ := h.box (.cells (runC p t q b) 193)
 generalize w.alloc _ = wx at hbx ⊢
 generalize w.heap.size = b4 at hb4 hn ⊢
 clear h
 try clear w
 have h := hbx
 clear hbx
 obtain ⟨w, rfl⟩ : ∃ x : World, x = wx := ⟨_, rfl⟩
 obtain ⟨lab1, hT1⟩ := hT.more1 hle hn hb4
 have hnK : K b4 = none := by
  cases e : K b4 with
  | none => rfl
  | some o => have := (hT.base _ _ e).1; rw [hn] at this; cases this
 have hKK : K.le (K.upd b4 (.cells (runC p t q b) 193)) := Mm.le_upd' hnK _
 have hbK : (K.upd b4 (.cells (runC p t q b) 193)) b4 = some (.cells (runC p t q b) 193) := Mm.upd_same _ _ _
 have hfb := hT1.obj
 have ND1 := Lib.hid (fun (w : World) (h : Has σ M1 w) => ND.out M1 w h hle)
 clear ND
 -- behind the entrance: the store of v at a, then the frame goes on at 3
 have ME := Lib.hid (fun (w : World) (h : Has σ M1 w) => mMem_eq h hT1.mach)
 have SE := Lib.hid (fun (w : World) (h : Has σ M1 w) => memStore_eq h hT1.mach.mem hb1 hb2 a v)
 have hne : b4 ≠ b := fun e => by
  subst e
  rw [hb4] at hfb
  simp only [Option.some.injEq, Obj.cells.injEq] at hfb
  exact absurd hfb.2.1 (by decide)
 have hT2 := hT1.store a v
 have KL := Mm.upd_le2 hT1.base.le hT1.obj
 have KE := Mm.upd_le2 hT2.base.le hT2.obj
 have hbK2 : ((K.upd b4 (.cells (runC p t q b) 193)).upd b (.cells f.row 69)) b4 = some (.cells (runC p t q b) 193) := (Mm.upd_ne hne).trans (Mm.upd_same _ _ _)
 have hfK : ((K.upd b4 (.cells (runC p t q b) 193)).upd b (.cells f.row 69)) b = some (.cells f.row 69) := Mm.upd_same _ _ _
 obtain ⟨hfb2, hT3⟩ := hT2.frame (f.goto 3)
 have HT := Lib.hid (hT3.less hKK)
 have hsz : 1 < f.row.size := show 1 < 18 by omega
 have R1 := Lib.hid (row_goto f 3)
 clear hT hT1 hT2 hT3 hb1 hb2 hn hle hnK hKK hne hbK
 generalize runC p t q b = rc at *
 generalize hr0 : f.row = fr0 at *
 generalize hr1 : (f.goto 3).row = fr1 at *
 clear hr0 hr1
 generalize (K.upd b4 _).upd b _ = K1 at KL KE hbK2 hfK
 generalize storeM M1 s.mp s.mem a v = M2 at *
 subst hv
 go_upto_region 18 with (first
  | (with_reducible show wpList _ _ _ ({ dst := _, op := Op.load 70 _, type := _, pos := _, after := _, guard := _ } :: _) _ _; refine wpList_load1_has h rfl 70 _ rfl rfl hb4 d3 Tryz.underlying70 rfl ?_)
  | (with_reducible show wpList _ _ _ ({ dst := _, op := Op.load 42 _, type := _, pos := _, after := _, guard := _ } :: _) _ _; refine wpList_load1_has h rfl 42 _ rfl rfl hfb f2 Tryz.underlying42 rfl ?_)
  | (with_reducible show wpList _ _ _ ({ dst := _, op := Op.load 3 _, type := _, pos := _, after := _, guard := _ } :: _) _ _; refine wpList_load1_has h rfl 3 _ rfl rfl hfb f1 Tryz.underlying3 rfl ?_))
 clear hfb hb4
 refine wp_region_held_drew (S := Has σ (K1)) (by kernel_rfl) (h.drew.le KL) (fun hHeld => ?_)
 refine wpAnyH_take (i := 0) (v := ?_) rfl (by kernel_rfl) (by kernel_rfl) (by kernel_rfl) (fun _ _ _ h => h) (Or.inl ⟨by rfl, ?_⟩) hHeld ?_
 rotate_left
 ·(intro wz _; go_simp; try with_reducible rfl)
 try simp only [qA, qB, qC, Act.put, qD, qE, qF]
 refine wpAnyH_take (i := 1) (v := ?_) rfl (by kernel_rfl) (by kernel_rfl) (by kernel_rfl) (fun _ _ _ h => h) (Or.inl ⟨by rfl, ?_⟩) hHeld ?_
 rotate_left
 ·(intro wz _; go_simp; try with_reducible rfl)
 try simp only [qA, qB, qC, Act.put, qD, qE, qF]
 refine wpAnyH_take (i := 2) (v := _) rfl (by kernel_rfl) (by kernel_rfl) (by kernel_rfl) (fun _ _ _ h => h) (yields_load1 rfl 26 _ rfl rfl hbK2 d0 Tryz.underlying26 rfl) hHeld ?_
 try simp only [qA, qB, qC, Act.put, qD, qE, qF]
 refine wpAnyH_take (i := 4) (v := ?_) rfl (by kernel_rfl) (by kernel_rfl) (by kernel_rfl) (fun _ _ _ h => h) (Or.inl ⟨by rfl, ?_⟩) hHeld ?_
 rotate_left
 ·(intro wz _; go_simp; try with_reducible rfl)
 try simp only [qA, qB, qC, Act.put, qD, qE, qF]
 refine wpAnyH_take (i := 5) (v := _) rfl (by kernel_rfl) (by kernel_rfl) (by kernel_rfl) (fun _ _ _ h => h) (yields_agg rfl 190 _ rfl rfl hbK2 dx dz Tryz.underlying190 rfl (by kernel_rfl)) hHeld ?_
 try simp only [qA, qB, qC, Act.put, qD, qE, qF]
 refine wpAnyH_take (i := 6) (v := ?_) rfl (by kernel_rfl) (by kernel_rfl) (by kernel_rfl) (fun _ _ _ h => h) (Or.inl ⟨by rfl, ?_⟩) hHeld ?_
 rotate_left
 ·(intro wz _; go_simp; try with_reducible rfl)
 try simp only [qA, qB, qC, Act.put, qD, qE, qF]
 refine wpAnyH_take (i := 7) (v := ?_) rfl (by kernel_rfl) (by kernel_rfl) (by kernel_rfl) (fun _ _ _ h => h) (Or.inl ⟨by rfl, ?_⟩) hHeld ?_
 rotate_left
 ·(intro wz _; go_simp; try with_reducible rfl)
 try simp only [qA, qB, qC, Act.put, qD, qE, qF]
 refine wpAnyH_take (i := 8) (v := ?_) rfl (by kernel_rfl) (by kernel_rfl) (by kernel_rfl) (fun _ _ _ h => h) (Or.inl ⟨by rfl, ?_⟩) hHeld ?_
 rotate_left
 ·(intro wz _; go_simp; try with_reducible rfl)
 try simp only [qA, qB, qC, Act.put, qD, qE, qF]
 refine wpAnyH_take (i := 9) (v := ?_) rfl (by kernel_rfl) (by kernel_rfl) (by kernel_rfl) (fun _ _ _ h => h) (Or.inl ⟨by rfl, ?_⟩) hHeld ?_
 rotate_left
 ·(intro wz _; go_simp; try with_reducible rfl)
 try simp only [qA, qB, qC, Act.put, qD, qE, qF]
 refine wpAnyH_take (i := 10) (v := _) rfl (by kernel_rfl) (by kernel_rfl) (by kernel_rfl) (fun _ _ _ h => h) (yields_load1 rfl 3 _ rfl rfl hfK f1 Tryz.underlying3 rfl) hHeld ?_
 try simp only [qA, qB, qC, Act.put, qD, qE, qF]
 replace h := h.drew
 generalize w.drew = w1 at h hHeld ⊢
 clear w
 obtain ⟨w, rfl⟩ : ∃ q : World, q = w1 := ⟨_, rfl⟩
 refine wpAnyH_ready (rs := [3]) (by kernel_rfl) (by simp) ?_
 refine AllReadyH.cons rfl (fun K hK => ?_) AllReadyH.nil
 (go_simp; go_wp2_with (go_at_call 46; refine (ME.out _ h).mono ?_; clear h; rintro _ w ⟨rfl, h⟩))
 refine hK.out _ _ (h.le KL) (fun hHeld => ?_)
 clear hK K
 try simp only [Act.put, qD, qE, qF]
 refine wpAnyH_ready (rs := [11]) (by kernel_rfl) (by simp) ?_
 refine AllReadyH.cons rfl (fun K hK => ?_) AllReadyH.nil
 (go_simp; go_wp2_with (go_at_call 144; refine (SC.out _).mono ?_; rintro _ w' ⟨rfl, rfl⟩))
 refine hK.out _ _ (h.le KL) (fun hHeld => ?_)
 clear hK K
 try simp only [Act.put, qD, qE, qF]
 refine wpAnyH_ready (rs := [12]) (by kernel_rfl) (by simp) ?_
 refine AllReadyH.cons rfl (fun K hK => ?_) AllReadyH.nil
 (go_simp; go_wp2_with (go_at_call 143; refine (ND1.out _ h).mono ?_; clear h; rintro _ w ⟨rfl, h⟩))
 refine hK.out _ _ (h.le KL) (fun hHeld => ?_)
 clear hK K
 try simp only [Act.put, qD, qE, qF]
 refine wpAnyH_ready (rs := [13]) (by kernel_rfl) (by simp) ?_
 refine AllReadyH.cons rfl (fun K hK => ?_) AllReadyH.nil
 (go_simp; go_wp2_with (go_at_call 97; refine (SE.out _ h).mono ?_; clear h; rintro _ w ⟨rfl, h⟩))
 refine hK.out _ _ (h.le KE) (fun hHeld => ?_)
 clear hK K
 try simp only [Act.put, qD, qE, qF]
 refine wpAnyH_done (by kernel_rfl) ?_ _
 clear hHeld
 go_wp2_with (first
  | (with_reducible show wpList _ _ _ ({ dst := _, op := Op.load 3 _, type := _, pos := _, after := _, guard := _ } :: _) _ _; refine wpList_load1_has h rfl 3 _ rfl rfl hfb2 f1 Tryz.underlying3 rfl ?_)
  | (with_reducible show wpList _ _ _ ({ dst := _, op := Op.store 3 _ _, type := _, pos := _, after := _, guard := _ } :: _) _ _; refine wpList_store1_has h rfl 3 _ _ rfl rfl rfl hfb2 hsz rfl (by kernel_rfl) ?_; clear h; intro w h))
 go_end0
 refine ⟨rfl, _, _, ?_, HT.out⟩
 have h0 : Has σ (M2.upd b (.cells (fr0.setIfInBounds 1 (.int .i64 3)) 69)) w := h
 rw [R1.out] at h0
 exact h0
set_option maxHeartbeats 4000000 in
set_option maxRecDepth 20000 in
theorem give_3 {σ w : World} {K M : Mm} {lab : Nat → Nat} {p t q b lv : Nat} {s : MachS} {fs : List FrameS} {f : FrameS} (h : Has σ M w) (hT : AtTop K M lab p s t q b fs f) (hat : f.at_ = 3) {sl : Nat} (h0 : f.r 0 = (sl : Int)) (hsl : sl < 256) (hlv : levelOf s.c (t : Nat) = (lv : Nat)) (hlc : (lv : Int) < s.c 0) (hin : InK s.c 9 (sl : Nat) 4) (hb1 : s.mem.acc < 1000000000) (hb2 : s.mem.wr < 1000000000) :
  Calls Tryz.prog 133 #[.agg (runC p t q b)] w fun r w' => r = .returned (.tuple #[]) ∧ ∃ M' lab', Has σ M' w' ∧ AtTop K M' lab' p (MachS.top { s with mem := s.mem.store (atK s.c lv 9 (sl : Nat) 4) 0 } t fs (f.goto 4)) t q b fs (f.goto 4) := by
 have d0 : (runC p t q b)[0]? = some (.pointer (some ⟨p, 0, none⟩)) := rfl
 have d1 : (runC p t q b)[1]? = some (.int .i64 (t : Nat)) := rfl
 have d2 : (runC p t q b)[2]? = some (.pointer (some ⟨q, 0, none⟩)) := rfl
 have d3 : (runC p t q b)[3]? = some (.pointer (some ⟨b, 0, none⟩)) := rfl
 have dx : (runC p t q b).extract 0 (0 + 4) = runC p t q b := rfl
 have dz : (runC p t q b).size = 4 := rfl
 have f1 : f.row[1]? = some (.int .i64 3) := by rw [← hat]; rfl
 have f2 : f.row[2]? = some (.int .u64 (sl : Nat)) := by rw [← h0]; rfl
 have us : IntKind.i64.wrap ((sl : Nat) : Int) = ((sl : Nat) : Int) := IntWalk.i64_in _ (by omega)
 clear hat
 have SC := Lib.hid scrubbed_3
 have SPA := spotAt_of (σ := σ) hT.mach hlv hlc hin
 obtain ⟨a, ha⟩ : ∃ a, atK s.c lv 9 (sl : Nat) 4 = a := ⟨_, rfl⟩
 rw [ha] at SPA ⊢
 obtain ⟨v, hv⟩ : ∃ v : Int, v = 0 := ⟨_, rfl⟩
 rw [← hv]
 have ND := Lib.hid (fun (M' : Mm) (w : World) (h : Has σ M' w) (hle : M.le M') => runNode_eq (q := q) (b := b) h (SPA.le hle))
 clear h0 ha hlv hlc hin SPA
 go_enter Tryz.func133, Tryz.ntmps133
 go_upto_region 1 with (fail)
 obtain ⟨M1, hbx, hle, hb4, hn⟩ := h.box (.cells (runC p t q b) 193)
 generalize w.alloc _ = wx at hbx ⊢
 generalize w.heap.size = b4 at hb4 hn ⊢
 clear h
 try clear w
 have h := hbx
 clear hbx
 obtain ⟨w, rfl⟩ : ∃ x : World, x = wx := ⟨_, rfl⟩
 obtain ⟨lab1, hT1⟩ := hT.more1 hle hn hb4
 have hnK : K b4 = none := by
  cases e : K b4 with
  | none => rfl
  | some o => have := (hT.base _ _ e).1; rw [hn] at this; cases this
 have hKK : K.le (K.upd b4 (.cells (runC p t q b) 193)) := Mm.le_upd' hnK _
 have hbK : (K.upd b4 (.cells (runC p t q b) 193)) b4 = some (.cells (runC p t q b) 193) := Mm.upd_same _ _ _
 have hfb := hT1.obj
 have ND1 := Lib.hid (fun (w : World) (h : Has σ M1 w) => ND.out M1 w h hle)
 clear ND
 -- behind the entrance: the store of v at a, then the frame goes on at 4
 have ME := Lib.hid (fun (w : World) (h : Has σ M1 w) => mMem_eq h hT1.mach)
 have SE := Lib.hid (fun (w : World) (h : Has σ M1 w) => memStore_eq h hT1.mach.mem hb1 hb2 a v)
 have hne : b4 ≠ b := fun e => by
  subst e
  rw [hb4] at hfb
  simp only [Option.some.injEq, Obj.cells.injEq] at hfb
  exact absurd hfb.2.1 (by decide)
 have hT2 := hT1.store a v
 have KL := Mm.upd_le2 hT1.base.le hT1.obj
 have KE := Mm.upd_le2 hT2.base.le hT2.obj
 have hbK2 : ((K.upd b4 (.cells (runC p t q b) 193)).upd b (.cells f.row 69)) b4 = some (.cells (runC p t q b) 193) := (Mm.upd_ne hne).trans (Mm.upd_same _ _ _)
 have hfK : ((K.upd b4 (.cells (runC p t q b) 193)).upd b (.cells f.row 69)) b = some (.cells f.row 69) := Mm.upd_same _ _ _
 obtain ⟨hfb2, hT3⟩ := hT2.frame (f.goto 4)
 have HT := Lib.hid (hT3.less hKK)
 have hsz : 1 < f.row.size := show 1 < 18 by omega
 have R1 := Lib.hid (row_goto f 4)
 clear hT hT1 hT2 hT3 hb1 hb2 hn hle hnK hKK hne hbK
 generalize runC p t q b = rc at *
 generalize hr0 : f.row = fr0 at *
 generalize hr1 : (f.goto 4).row = fr1 at *
 clear hr0 hr1
 generalize (K.upd b4 _).upd b _ = K1 at KL KE hbK2 hfK
 generalize storeM M1 s.mp s.mem a v = M2 at *
 subst hv
 go_upto_region 18 with (first
  | (with_reducible show wpList _ _ _ ({ dst := _, op := Op.load 70 _, type := _, pos := _, after := _, guard := _ } :: _) _ _; refine wpList_load1_has h rfl 70 _ rfl rfl hb4 d3 Tryz.underlying70 rfl ?_)
  | (with_reducible show wpList _ _ _ ({ dst := _, op := Op.load 42 _, type := _, pos := _, after := _, guard := _ } :: _) _ _; refine wpList_load1_has h rfl 42 _ rfl rfl hfb f2 Tryz.underlying42 rfl ?_)
  | (with_reducible show wpList _ _ _ ({ dst := _, op := Op.load 3 _, type := _, pos := _, after := _, guard := _ } :: _) _ _; refine wpList_load1_has h rfl 3 _ rfl rfl hfb f1 Tryz.underlying3 rfl ?_))
 clear hfb hb4
 refine wp_region_held_drew (S := Has σ (K1)) (by kernel_rfl) (h.drew.le KL) (fun hHeld => ?_)
 refine wpAnyH_take (i := 0) (v := ?_) rfl (by kernel_rfl) (by kernel_rfl) (by kernel_rfl) (fun _ _ _ h => h) (Or.inl ⟨by rfl, ?_⟩) hHeld ?_
 rotate_left
 ·(intro wz _; go_simp; try with_reducible rfl)
 try simp only [qA, qB, qC, Act.put, qD, qE, qF]
 refine wpAnyH_take (i := 1) (v := ?_) rfl (by kernel_rfl) (by kernel_rfl) (by kernel_rfl) (fun _ _ _ h => h) (Or.inl ⟨by rfl, ?_⟩) hHeld ?_
 rotate_left
 ·(intro wz _; go_simp; try with_reducible rfl)
 try simp only [qA, qB, qC, Act.put, qD, qE, qF]
 refine wpAnyH_take (i := 2) (v := _) rfl (by kernel_rfl) (by kernel_rfl) (by kernel_rfl) (fun _ _ _ h => h) (yields_load1 rfl 26 _ rfl rfl hbK2 d0 Tryz.underlying26 rfl) hHeld ?_
 try simp only [qA, qB, qC, Act.put, qD, qE, qF]
 refine wpAnyH_take (i := 4) (v := ?_) rfl (by kernel_rfl) (by kernel_rfl) (by kernel_rfl) (fun _ _ _ h => h) (Or.inl ⟨by rfl, ?_⟩) hHeld ?_
 rotate_left
 ·(intro wz _; go_simp; try with_reducible rfl)
 try simp only [qA, qB, qC, Act.put, qD, qE, qF]
 refine wpAnyH_take (i := 5) (v := _) rfl (by kernel_rfl) (by kernel_rfl) (by kernel_rfl) (fun _ _ _ h => h) (yields_agg rfl 190 _ rfl rfl hbK2 dx dz Tryz.underlying190 rfl (by kernel_rfl)) hHeld ?_
 try simp only [qA, qB, qC, Act.put, qD, qE, qF]
 refine wpAnyH_take (i := 6) (v := ?_) rfl (by kernel_rfl) (by kernel_rfl) (by kernel_rfl) (fun _ _ _ h => h) (Or.inl ⟨by rfl, ?_⟩) hHeld ?_
 rotate_left
 ·(intro wz _; go_simp; try with_reducible rfl)
 try simp only [qA, qB, qC, Act.put, qD, qE, qF]
 refine wpAnyH_take (i := 7) (v := ?_) rfl (by kernel_rfl) (by kernel_rfl) (by kernel_rfl) (fun _ _ _ h => h) (Or.inl ⟨by rfl, ?_⟩) hHeld ?_
 rotate_left
 ·(intro wz _; go_simp; try with_reducible rfl)
 try simp only [qA, qB, qC, Act.put, qD, qE, qF]
 refine wpAnyH_take (i := 8) (v := ?_) rfl (by kernel_rfl) (by kernel_rfl) (by kernel_rfl) (fun _ _ _ h => h) (Or.inl ⟨by rfl, ?_⟩) hHeld ?_
 rotate_left
 ·(intro wz _; go_simp; try with_reducible rfl)
 try simp only [qA, qB, qC, Act.put, qD, qE, qF]
 refine wpAnyH_take (i := 9) (v := ?_) rfl (by kernel_rfl) (by kernel_rfl) (by kernel_rfl) (fun _ _ _ h => h) (Or.inl ⟨by rfl, ?_⟩) hHeld ?_
 rotate_left
 ·(intro wz _; go_simp; try with_reducible rfl)
 try simp only [qA, qB, qC, Act.put, qD, qE, qF]
 refine wpAnyH_take (i := 10) (v := _) rfl (by kernel_rfl) (by kernel_rfl) (by kernel_rfl) (fun _ _ _ h => h) (yields_load1 rfl 3 _ rfl rfl hfK f1 Tryz.underlying3 rfl) hHeld ?_
 try simp only [qA, qB, qC, Act.put, qD, qE, qF]
 replace h := h.drew
 generalize w.drew = w1 at h hHeld ⊢
 clear w
 obtain ⟨w, rfl⟩ : ∃ q : World, q = w1 := ⟨_, rfl⟩
 refine wpAnyH_ready (rs := [3]) (by kernel_rfl) (by simp) ?_
 refine AllReadyH.cons rfl (fun K hK => ?_) AllReadyH.nil
 (go_simp; go_wp2_with (go_at_call 46; refine (ME.out _ h).mono ?_; clear h; rintro _ w ⟨rfl, h⟩))
 refine hK.out _ _ (h.le KL) (fun hHeld => ?_)
 clear hK K
 try simp only [Act.put, qD, qE, qF]
 refine wpAnyH_ready (rs := [11]) (by kernel_rfl) (by simp) ?_
 refine AllReadyH.cons rfl (fun K hK => ?_) AllReadyH.nil
 (go_simp; go_wp2_with (go_at_call 144; refine (SC.out _).mono ?_; rintro _ w' ⟨rfl, rfl⟩))
 refine hK.out _ _ (h.le KL) (fun hHeld => ?_)
 clear hK K
 try simp only [Act.put, qD, qE, qF]
 refine wpAnyH_ready (rs := [12]) (by kernel_rfl) (by simp) ?_
 refine AllReadyH.cons rfl (fun K hK => ?_) AllReadyH.nil
 (go_simp; go_wp2_with (go_at_call 143; refine (ND1.out _ h).mono ?_; clear h; rintro _ w ⟨rfl, h⟩))
 refine hK.out _ _ (h.le KL) (fun hHeld => ?_)
 clear hK K
 try simp only [Act.put, qD, qE, qF]
 refine wpAnyH_ready (rs := [13]) (by kernel_rfl) (by simp) ?_
 refine AllReadyH.cons rfl (fun K hK => ?_) AllReadyH.nil
 (go_simp; go_wp2_with (go_at_call 97; refine (SE.out _ h).mono ?_; clear h; rintro _ w ⟨rfl, h⟩))
 refine hK.out _ _ (h.le KE) (fun hHeld => ?_)
 clear hK K
 try simp only [Act.put, qD, qE, qF]
 refine wpAnyH_done (by kernel_rfl) ?_ _
 clear hHeld
 go_wp2_with (first
  | (with_reducible show wpList _ _ _ ({ dst := _, op := Op.load 3 _, type := _, pos := _, after := _, guard := _ } :: _) _ _; refine wpList_load1_has h rfl 3 _ rfl rfl hfb2 f1 Tryz.underlying3 rfl ?_)
  | (with_reducible show wpList _ _ _ ({ dst := _, op := Op.store 3 _ _, type := _, pos := _, after := _, guard := _ } :: _) _ _; refine wpList_store1_has h rfl 3 _ _ rfl rfl rfl hfb2 hsz rfl (by kernel_rfl) ?_; clear h; intro w h))
 go_end0
 refine ⟨rfl, _, _, ?_, HT.out⟩
 have h0 : Has σ (M2.upd b (.cells (fr0.setIfInBounds 1 (.int .i64 4)) 69)) w := h
 rw [R1.out] at h0
 exact h0
set_option maxHeartbeats 4000000 in
set_option maxRecDepth 20000 in
theorem give_4 {σ w : World} {K M : Mm} {lab : Nat → Nat} {p t q b lv : Nat} {s : MachS} {fs : List FrameS} {f : FrameS} (h : Has σ M w) (hT : AtTop K M lab p s t q b fs f) (hat : f.at_ = 4) {sl : Nat} (h0 : f.r 0 = (sl : Int)) (hsl : sl < 256) (hlv : levelOf s.c (t : Nat) = (lv : Nat)) (hlc : (lv : Int) < s.c 0) (hin : InK s.c 9 (sl : Nat) 2) (hb1 : s.mem.acc < 1000000000) (hb2 : s.mem.wr < 1000000000) :
  Calls Tryz.prog 133 #[.agg (runC p t q b)] w fun r w' => r = .returned (.tuple #[]) ∧ ∃ M' lab', Has σ M' w' ∧ AtTop K M' lab' p (MachS.top { s with mem := s.mem.store (atK s.c lv 9 (sl : Nat) 2) 0 } t fs (f.goto 5)) t q b fs (f.goto 5) := by
 have d0 : (runC p t q b)[0]? = some (.pointer (some ⟨p, 0, none⟩)) := rfl
 have d1 : (runC p t q b)[1]? = some (.int .i64 (t : Nat)) := rfl
 have d2 : (runC p t q b)[2]? = some (.pointer (some ⟨q, 0, none⟩)) := rfl
 have d3 : (runC p t q b)[3]? = some (.pointer (some ⟨b, 0, none⟩)) := rfl
 have dx : (runC p t q b).extract 0 (0 + 4) = runC p t q b := rfl
 have dz : (runC p t q b).size = 4 := rfl
 have f1 : f.row[1]? = some (.int .i64 4) := by rw [← hat]; rfl
 have f2 : f.row[2]? = some (.int .u64 (sl : Nat)) := by rw [← h0]; rfl
 have us : IntKind.i64.wrap ((sl : Nat) : Int) = ((sl : Nat) : Int) := IntWalk.i64_in _ (by omega)
 clear hat
 have SC := Lib.hid scrubbed_4
 have SPA := spotAt_of (σ := σ) hT.mach hlv hlc hin
 obtain ⟨a, ha⟩ : ∃ a, atK s.c lv 9 (sl : Nat) 2 = a := ⟨_, rfl⟩
 rw [ha] at SPA ⊢
 obtain ⟨v, hv⟩ : ∃ v : Int, v = 0 := ⟨_, rfl⟩
 rw [← hv]
 have ND := Lib.hid (fun (M' : Mm) (w : World) (h : Has σ M' w) (hle : M.le M') => runNode_eq (q := q) (b := b) h (SPA.le hle))
 clear h0 ha hlv hlc hin SPA
 go_enter Tryz.func133, Tryz.ntmps133
 go_upto_region 1 with (fail)
 obtain ⟨M1, hbx, hle, hb4, hn⟩ := h.box (.cells (runC p t q b) 193)
 generalize w.alloc _ = wx at hbx ⊢
 generalize w.heap.size = b4 at hb4 hn ⊢
 clear h
 try clear w
 have h := hbx
 clear hbx
 obtain ⟨w, rfl⟩ : ∃ x : World, x = wx := ⟨_, rfl⟩
 obtain ⟨lab1, hT1⟩ := hT.more1 hle hn hb4
 have hnK : K b4 = none := by
  cases e : K b4 with
  | none => rfl
  | some o => have := (hT.base _ _ e).1; rw [hn] at this; cases this
 have hKK : K.le (K.upd b4 (.cells (runC p t q b) 193)) := Mm.le_upd' hnK _
 have hbK : (K.upd b4 (.cells (runC p t q b) 193)) b4 = some (.cells (runC p t q b) 193) := Mm.upd_same _ _ _
 have hfb := hT1.obj
 have ND1 := Lib.hid (fun (w : World) (h : Has σ M1 w) => ND.out M1 w h hle)
 clear ND
 -- behind the entrance: the store of v at a, then the frame goes on at 5
 have ME := Lib.hid (fun (w : World) (h : Has σ M1 w) => mMem_eq h hT1.mach)
 have SE := Lib.hid (fun (w : World) (h : Has σ M1 w) => memStore_eq h hT1.mach.mem hb1 hb2 a v)
 have hne : b4 ≠ b := fun e => by
  subst e
  rw [hb4] at hfb
  simp only [Option.some.injEq, Obj.cells.injEq] at hfb
  exact absurd hfb.2.1 (by decide)
 have hT2 := hT1.store a v
 have KL := Mm.upd_le2 hT1.base.le hT1.obj
 have KE := Mm.upd_le2 hT2.base.le hT2.obj
 have hbK2 : ((K.upd b4 (.cells (runC p t q b) 193)).upd b (.cells f.row 69)) b4 = some (.cells (runC p t q b) 193) := (Mm.upd_ne hne).trans (Mm.upd_same _ _ _)
 have hfK : ((K.upd b4 (.cells (runC p t q b) 193)).upd b (.cells f.row 69)) b = some (.cells f.row 69) := Mm.upd_same _ _ _
 obtain ⟨hfb2, hT3⟩ := hT2.frame (f.goto 5)
 have HT := Lib.hid (hT3.less hKK)
 have hsz : 1 < f.row.size := show 1 < 18 by omega
 have R1 := Lib.hid (row_goto f 5)
 clear hT hT1 hT2 hT3 hb1 hb2 hn hle hnK hKK hne hbK
 generalize runC p t q b = rc at *
 generalize hr0 : f.row = fr0 at *
 generalize hr1 : (f.goto 5).row = fr1 at *
 clear hr0 hr1
 generalize (K.upd b4 _).upd b _ = K1 at KL KE hbK2 hfK
 generalize storeM M1 s.mp s.mem a v = M2 at *
 subst hv
 go_upto_region 18 with (first
  | (with_reducible show wpList _ _ _ ({ dst := _, op := Op.load 70 _, type := _, pos := _, after := _, guard := _ } :: _) _ _; refine wpList_load1_has h rfl 70 _ rfl rfl hb4 d3 Tryz.underlying70 rfl ?_)
  | (with_reducible show wpList _ _ _ ({ dst := _, op := Op.load 42 _, type := _, pos := _, after := _, guard := _ } :: _) _ _; refine wpList_load1_has h rfl 42 _ rfl rfl hfb f2 Tryz.underlying42 rfl ?_)
  | (with_reducible show wpList _ _ _ ({ dst := _, op := Op.load 3 _, type := _, pos := _, after := _, guard := _ } :: _) _ _; refine wpList_load1_has h rfl 3 _ rfl rfl hfb f1 Tryz.underlying3 rfl ?_))
 clear hfb hb4
 refine wp_region_held_drew (S := Has σ (K1)) (by kernel_rfl) (h.drew.le KL) (fun hHeld => ?_)
 refine wpAnyH_take (i := 0) (v := ?_) rfl (by kernel_rfl) (by kernel_rfl) (by kernel_rfl) (fun _ _ _ h => h) (Or.inl ⟨by rfl, ?_⟩) hHeld ?_
 rotate_left
 ·(intro wz _; go_simp; try with_reducible rfl)
 try simp only [qA, qB, qC, Act.put, qD, qE, qF]
 refine wpAnyH_take (i := 1) (v := ?_) rfl (by kernel_rfl) (by kernel_rfl) (by kernel_rfl) (fun _ _ _ h => h) (Or.inl ⟨by rfl, ?_⟩) hHeld ?_
 rotate_left
 ·(intro wz _; go_simp; try with_reducible rfl)
 try simp only [qA, qB, qC, Act.put, qD, qE, qF]
 refine wpAnyH_take (i := 2) (v := _) rfl (by kernel_rfl) (by kernel_rfl) (by kernel_rfl) (fun _ _ _ h => h) (yields_load1 rfl 26 _ rfl rfl hbK2 d0 Tryz.underlying26 rfl) hHeld ?_
 try simp only [qA, qB, qC, Act.put, qD, qE, qF]
 refine wpAnyH_take (i := 4) (v := ?_) rfl (by kernel_rfl) (by kernel_rfl) (by kernel_rfl) (fun _ _ _ h => h) (Or.inl ⟨by rfl, ?_⟩) hHeld ?_
 rotate_left
 ·(intro wz _; go_simp; try with_reducible rfl)
 try simp only [qA, qB, qC, Act.put, qD, qE, qF]
 refine wpAnyH_take (i := 5) (v := _) rfl (by kernel_rfl) (by kernel_rfl) (by kernel_rfl) (fun _ _ _ h => h) (yields_agg rfl 190 _ rfl rfl hbK2 dx dz Tryz.underlying190 rfl (by kernel_rfl)) hHeld ?_
 try simp only [qA, qB, qC, Act.put, qD, qE, qF]
 refine wpAnyH_take (i := 6) (v := ?_) rfl (by kernel_rfl) (by kernel_rfl) (by kernel_rfl) (fun _ _ _ h => h) (Or.inl ⟨by rfl, ?_⟩) hHeld ?_
 rotate_left
 ·(intro wz _; go_simp; try with_reducible rfl)
 try simp only [qA, qB, qC, Act.put, qD, qE, qF]
 refine wpAnyH_take (i := 7) (v := ?_) rfl (by kernel_rfl) (by kernel_rfl) (by kernel_rfl) (fun _ _ _ h => h) (Or.inl ⟨by rfl, ?_⟩) hHeld ?_
 rotate_left
 ·(intro wz _; go_simp; try with_reducible rfl)
 try simp only [qA, qB, qC, Act.put, qD, qE, qF]
 refine wpAnyH_take (i := 8) (v := ?_) rfl (by kernel_rfl) (by kernel_rfl) (by kernel_rfl) (fun _ _ _ h => h) (Or.inl ⟨by rfl, ?_⟩) hHeld ?_
 rotate_left
 ·(intro wz _; go_simp; try with_reducible rfl)
 try simp only [qA, qB, qC, Act.put, qD, qE, qF]
 refine wpAnyH_take (i := 9) (v := ?_) rfl (by kernel_rfl) (by kernel_rfl) (by kernel_rfl) (fun _ _ _ h => h) (Or.inl ⟨by rfl, ?_⟩) hHeld ?_
 rotate_left
 ·(intro wz _; go_simp; try with_reducible rfl)
 try simp only [qA, qB, qC, Act.put, qD, qE, qF]
 refine wpAnyH_take (i := 10) (v := _) rfl (by kernel_rfl) (by kernel_rfl) (by kernel_rfl) (fun _ _ _ h => h) (yields_load1 rfl 3 _ rfl rfl hfK f1 Tryz.underlying3 rfl) hHeld ?_
 try simp only [qA, qB, qC, Act.put, qD, qE, qF]
 replace h := h.drew
 generalize w.drew = w1 at h hHeld ⊢
 clear w
 obtain ⟨w, rfl⟩ : ∃ q : World, q = w1 := ⟨_, rfl⟩
 refine wpAnyH_ready (rs := [3]) (by kernel_rfl) (by simp) ?_
 refine AllReadyH.cons rfl (fun K hK => ?_) AllReadyH.nil
 (go_simp; go_wp2_with (go_at_call 46; refine (ME.out _ h).mono ?_; clear h; rintro _ w ⟨rfl, h⟩))
 refine hK.out _ _ (h.le KL) (fun hHeld => ?_)
 clear hK K
 try simp only [Act.put, qD, qE, qF]
 refine wpAnyH_ready (rs := [11]) (by kernel_rfl) (by simp) ?_
 refine AllReadyH.cons rfl (fun K hK => ?_) AllReadyH.nil
 (go_simp; go_wp2_with (go_at_call 144; refine (SC.out _).mono ?_; rintro _ w' ⟨rfl, rfl⟩))
 refine hK.out _ _ (h.le KL) (fun hHeld => ?_)
 clear hK K
 try simp only [Act.put, qD, qE, qF]
 refine wpAnyH_ready (rs := [12]) (by kernel_rfl) (by simp) ?_
 refine AllReadyH.cons rfl (fun K hK => ?_) AllReadyH.nil
 (go_simp; go_wp2_with (go_at_call 143; refine (ND1.out _ h).mono ?_; clear h; rintro _ w ⟨rfl, h⟩))
 refine hK.out _ _ (h.le KL) (fun hHeld => ?_)
 clear hK K
 try simp only [Act.put, qD, qE, qF]
 refine wpAnyH_ready (rs := [13]) (by kernel_rfl) (by simp) ?_
 refine AllReadyH.cons rfl (fun K hK => ?_) AllReadyH.nil
 (go_simp; go_wp2_with (go_at_call 97; refine (SE.out _ h).mono ?_; clear h; rintro _ w ⟨rfl, h⟩))
 refine hK.out _ _ (h.le KE) (fun hHeld => ?_)
 clear hK K
 try simp only [Act.put, qD, qE, qF]
 refine wpAnyH_done (by kernel_rfl) ?_ _
 clear hHeld
 go_wp2_with (first
  | (with_reducible show wpList _ _ _ ({ dst := _, op := Op.load 3 _, type := _, pos := _, after := _, guard := _ } :: _) _ _; refine wpList_load1_has h rfl 3 _ rfl rfl hfb2 f1 Tryz.underlying3 rfl ?_)
  | (with_reducible show wpList _ _ _ ({ dst := _, op := Op.store 3 _ _, type := _, pos := _, after := _, guard := _ } :: _) _ _; refine wpList_store1_has h rfl 3 _ _ rfl rfl rfl hfb2 hsz rfl (by kernel_rfl) ?_; clear h; intro w h))
 go_end0
 refine ⟨rfl, _, _, ?_, HT.out⟩
 have h0 : Has σ (M2.upd b (.cells (fr0.setIfInBounds 1 (.int .i64 5)) 69)) w := h
 rw [R1.out] at h0
 exact h0
set_option maxHeartbeats 4000000 in
set_option maxRecDepth 20000 in
theorem give_5 {σ w : World} {K M : Mm} {lab : Nat → Nat} {p t q b lv : Nat} {s : MachS} {fs : List FrameS} {f : FrameS} (h : Has σ M w) (hT : AtTop K M lab p s t q b fs f) (hat : f.at_ = 5) {sl : Nat} (h0 : f.r 0 = (sl : Int)) (hsl : sl < 256) (hlv : levelOf s.c (t : Nat) = (lv : Nat)) (hlc : (lv : Int) < s.c 0) (hin : InK s.c 9 (sl : Nat) 1) (hb1 : s.mem.acc < 1000000000) (hb2 : s.mem.wr < 1000000000) :
  Calls Tryz.prog 133 #[.agg (runC p t q b)] w fun r w' => r = .returned (.tuple #[]) ∧ ∃ M' lab', Has σ M' w' ∧ AtTop K M' lab' p (MachS.top { s with mem := s.mem.store (atK s.c lv 9 (sl : Nat) 1) 0 } t fs (f.goto 6)) t q b fs (f.goto 6) := by
 have d0 : (runC p t q b)[0]? = some (.pointer (some ⟨p, 0, none⟩)) := rfl
 have d1 : (runC p t q b)[1]? = some (.int .i64 (t : Nat)) := rfl
 have d2 : (runC p t q b)[2]? = some (.pointer (some ⟨q, 0, none⟩)) := rfl
 have d3 : (runC p t q b)[3]? = some (.pointer (some ⟨b, 0, none⟩)) := rfl
 have dx : (runC p t q b).extract 0 (0 + 4) = runC p t q b := rfl
 have dz : (runC p t q b).size = 4 := rfl
 have f1 : f.row[1]? = some (.int .i64 5) := by rw [← hat]; rfl
 have f2 : f.row[2]? = some (.int .u64 (sl : Nat)) := by rw [← h0]; rfl
 have us : IntKind.i64.wrap ((sl : Nat) : Int) = ((sl : Nat) : Int) := IntWalk.i64_in _ (by omega)
 clear hat
 have SC := Lib.hid scrubbed_5
 have SPA := spotAt_of (σ := σ) hT.mach hlv hlc hin
 obtain ⟨a, ha⟩ : ∃ a, atK s.c lv 9 (sl : Nat) 1 = a := ⟨_, rfl⟩
 rw [ha] at SPA ⊢
 obtain ⟨v, hv⟩ : ∃ v : Int, v = 0 := ⟨_, rfl⟩
 rw [← hv]
 have ND := Lib.hid (fun (M' : Mm) (w : World) (h : Has σ M' w) (hle : M.le M') => runNode_eq (q := q) (b := b) h (SPA.le hle))
 clear h0 ha hlv hlc hin SPA
 go_enter Tryz.func133, Tryz.ntmps133
 go_upto_region 1 with (fail)
 obtain ⟨M1, hbx, hle, hb4, hn⟩ := h.box (.cells (runC p t q b) 193)
 generalize w.alloc _ = wx at hbx ⊢
 generalize w.heap.size = b4 at hb4 hn ⊢
 clear h
 try clear w
 have h := hbx
 clear hbx
 obtain ⟨w, rfl⟩ : ∃ x : World, x = wx := ⟨_, rfl⟩
 obtain ⟨lab1, hT1⟩ := hT.more1 hle hn hb4
 have hnK : K b4 = none := by
  cases e : K b4 with
  | none => rfl
  | some o => have := (hT.base _ _ e).1; rw [hn] at this; cases this
 have hKK : K.le (K.upd b4 (.cells (runC p t q b) 193)) := Mm.le_upd' hnK _
 have hbK : (K.upd b4 (.cells (runC p t q b) 193)) b4 = some (.cells (runC p t q b) 193) := Mm.upd_same _ _ _
 have hfb := hT1.obj
 have ND1 := Lib.hid (fun (w : World) (h : Has σ M1 w) => ND.out M1 w h hle)
 clear ND
 -- behind the entrance: the store of v at a, then the frame goes on at 6
 have ME := Lib.hid (fun (w : World) (h : Has σ M1 w) => mMem_eq h hT1.mach)
 have SE := Lib.hid (fun (w : World) (h : Has σ M1 w) => memStore_eq h hT1.mach.mem hb1 hb2 a v)
 have hne : b4 ≠ b := fun e => by
  subst e
  rw [hb4] at hfb
  simp only [Option.some.injEq, Obj.cells.injEq] at hfb
  exact absurd hfb.2.1 (by decide)
 have hT2 := hT1.store a v
 have KL := Mm.upd_le2 hT1.base.le hT1.obj
 have KE := Mm.upd_le2 hT2.base.le hT2.obj
 have hbK2 : ((K.upd b4 (.cells (runC p t q b) 193)).upd b (.cells f.row 69)) b4 = some (.cells (runC p t q b) 193) := (Mm.upd_ne hne).trans (Mm.upd_same _ _ _)
 have hfK : ((K.upd b4 (.cells (runC p t q b) 193)).upd b (.cells f.row 69)) b = some (.cells f.row 69) := Mm.upd_same _ _ _
 obtain ⟨hfb2, hT3⟩ := hT2.frame (f.goto 6)
 have HT := Lib.hid (hT3.less hKK)
 have hsz : 1 < f.row.size := show 1 < 18 by omega
 have R1 := Lib.hid (row_goto f 6)
 clear hT hT1 hT2 hT3 hb1 hb2 hn hle hnK hKK hne hbK
 generalize runC p t q b = rc at *
 generalize hr0 : f.row = fr0 at *
 generalize hr1 : (f.goto 6).row = fr1 at *
 clear hr0 hr1
 generalize (K.upd b4 _).upd b _ = K1 at KL KE hbK2 hfK
 generalize storeM M1 s.mp s.mem a v = M2 at *
 subst hv
 go_upto_region 18 with (first
  | (with_reducible show wpList _ _ _ ({ dst := _, op := Op.load 70 _, type := _, pos := _, after := _, guard := _ } :: _) _ _; refine wpList_load1_has h rfl 70 _ rfl rfl hb4 d3 Tryz.underlying70 rfl ?_)
  | (with_reducible show wpList _ _ _ ({ dst := _, op := Op.load 42 _, type := _, pos := _, after := _, guard := _ } :: _) _ _; refine wpList_load1_has h rfl 42 _ rfl rfl hfb f2 Tryz.underlying42 rfl ?_)
  | (with_reducible show wpList _ _ _ ({ dst := _, op := Op.load 3 _, type := _, pos := _, after := _, guard := _ } :: _) _ _; refine wpList_load1_has h rfl 3 _ rfl rfl hfb f1 Tryz.underlying3 rfl ?_))
 clear hfb hb4
 refine wp_region_held_drew (S := Has σ (K1)) (by kernel_rfl) (h.drew.le KL) (fun hHeld => ?_)
 refine wpAnyH_take (i := 0) (v := ?_) rfl (by kernel_rfl) (by kernel_rfl) (by kernel_rfl) (fun _ _ _ h => h) (Or.inl ⟨by rfl, ?_⟩) hHeld ?_
 rotate_left
 ·(intro wz _; go_simp; try with_reducible rfl)
 try simp only [qA, qB, qC, Act.put, qD, qE, qF]
 refine wpAnyH_take (i := 1) (v := ?_) rfl (by kernel_rfl) (by kernel_rfl) (by kernel_rfl) (fun _ _ _ h => h) (Or.inl ⟨by rfl, ?_⟩) hHeld ?_
 rotate_left
 ·(intro wz _; go_simp; try with_reducible rfl)
 try simp only [qA, qB, qC, Act.put, qD, qE, qF]
 refine wpAnyH_take (i := 2) (v := _) rfl (by kernel_rfl) (by kernel_rfl) (by kernel_rfl) (fun _ _ _ h => h) (yields_load1 rfl 26 _ rfl rfl hbK2 d0 Tryz.underlying26 rfl) hHeld ?_
 try simp only [qA, qB, qC, Act.put, qD, qE, qF]
 refine wpAnyH_take (i := 4) (v := ?_) rfl (by kernel_rfl) (by kernel_rfl) (by kernel_rfl) (fun _ _ _ h => h) (Or.inl ⟨by rfl, ?_⟩) hHeld ?_
 rotate_left
 ·(intro wz _; go_simp; try with_reducible rfl)
 try simp only [qA, qB, qC, Act.put, qD, qE, qF]
 refine wpAnyH_take (i := 5) (v := _) rfl (by kernel_rfl) (by kernel_rfl) (by kernel_rfl) (fun _ _ _ h => h) (yields_agg rfl 190 _ rfl rfl hbK2 dx dz Tryz.underlying190 rfl (by kernel_rfl)) hHeld ?_
 try simp only [qA, qB, qC, Act.put, qD, qE, qF]
 refine wpAnyH_take (i := 6) (v := ?_) rfl (by kernel_rfl) (by kernel_rfl) (by kernel_rfl) (fun _ _ _ h => h) (Or.inl ⟨by rfl, ?_⟩) hHeld ?_
 rotate_left
 ·(intro wz _; go_simp; try with_reducible rfl)
 try simp only [qA, qB, qC, Act.put, qD, qE, qF]
 refine wpAnyH_take (i := 7) (v := ?_) rfl (by kernel_rfl) (by kernel_rfl) (by kernel_rfl) (fun _ _ _ h => h) (Or.inl ⟨by rfl, ?_⟩) hHeld ?_
 rotate_left
 ·(intro wz _; go_simp; try with_reducible rfl)
 try simp only [qA, qB, qC, Act.put, qD, qE, qF]
 refine wpAnyH_take (i := 8) (v := ?_) rfl (by kernel_rfl) (by kernel_rfl) (by kernel_rfl) (fun _ _ _ h => h) (Or.inl ⟨by rfl, ?_⟩) hHeld ?_
 rotate_left
 ·(intro wz _; go_simp; try with_reducible rfl)
 try simp only [qA, qB, qC, Act.put, qD, qE, qF]
 refine wpAnyH_take (i := 9) (v := ?_) rfl (by kernel_rfl) (by kernel_rfl) (by kernel_rfl) (fun _ _ _ h => h) (Or.inl ⟨by rfl, ?_⟩) hHeld ?_
 rotate_left
 ·(intro wz _; go_simp; try with_reducible rfl)
 try simp only [qA, qB, qC, Act.put, qD, qE, qF]
 refine wpAnyH_take (i := 10) (v := _) rfl (by kernel_rfl) (by kernel_rfl) (by kernel_rfl) (fun _ _ _ h => h) (yields_load1 rfl 3 _ rfl rfl hfK f1 Tryz.underlying3 rfl) hHeld ?_
 try simp only [qA, qB, qC, Act.put, qD, qE, qF]
 replace h := h.drew
 generalize w.drew = w1 at h hHeld ⊢
 clear w
 obtain ⟨w, rfl⟩ : ∃ q : World, q = w1 := ⟨_, rfl⟩
 refine wpAnyH_ready (rs := [3]) (by kernel_rfl) (by simp) ?_
 refine AllReadyH.cons rfl (fun K hK => ?_) AllReadyH.nil
 (go_simp; go_wp2_with (go_at_call 46; refine (ME.out _ h).mono ?_; clear h; rintro _ w ⟨rfl, h⟩))
 refine hK.out _ _ (h.le KL) (fun hHeld => ?_)
 clear hK K
 try simp only [Act.put, qD, qE, qF]
 refine wpAnyH_ready (rs := [11]) (by kernel_rfl) (by simp) ?_
 refine AllReadyH.cons rfl (fun K hK => ?_) AllReadyH.nil
 (go_simp; go_wp2_with (go_at_call 144; refine (SC.out _).mono ?_; rintro _ w' ⟨rfl, rfl⟩))
 refine hK.out _ _ (h.le KL) (fun hHeld => ?_)
 clear hK K
 try simp only [Act.put, qD, qE, qF]
 refine wpAnyH_ready (rs := [12]) (by kernel_rfl) (by simp) ?_
 refine AllReadyH.cons rfl (fun K hK => ?_) AllReadyH.nil
 (go_simp; go_wp2_with (go_at_call 143; refine (ND1.out _ h).mono ?_; clear h; rintro _ w ⟨rfl, h⟩))
 refine hK.out _ _ (h.le KL) (fun hHeld => ?_)
 clear hK K
 try simp only [Act.put, qD, qE, qF]
 refine wpAnyH_ready (rs := [13]) (by kernel_rfl) (by simp) ?_
 refine AllReadyH.cons rfl (fun K hK => ?_) AllReadyH.nil
 (go_simp; go_wp2_with (go_at_call 97; refine (SE.out _ h).mono ?_; clear h; rintro _ w ⟨rfl, h⟩))
 refine hK.out _ _ (h.le KE) (fun hHeld => ?_)
 clear hK K
 try simp only [Act.put, qD, qE, qF]
 refine wpAnyH_done (by kernel_rfl) ?_ _
 clear hHeld
 go_wp2_with (first
  | (with_reducible show wpList _ _ _ ({ dst := _, op := Op.load 3 _, type := _, pos := _, after := _, guard := _ } :: _) _ _; refine wpList_load1_has h rfl 3 _ rfl rfl hfb2 f1 Tryz.underlying3 rfl ?_)
  | (with_reducible show wpList _ _ _ ({ dst := _, op := Op.store 3 _ _, type := _, pos := _, after := _, guard := _ } :: _) _ _; refine wpList_store1_has h rfl 3 _ _ rfl rfl rfl hfb2 hsz rfl (by kernel_rfl) ?_; clear h; intro w h))
 go_end0
 refine ⟨rfl, _, _, ?_, HT.out⟩
 have h0 : Has σ (M2.upd b (.cells (fr0.setIfInBounds 1 (.int .i64 6)) 69)) w := h
 rw [R1.out] at h0
 exact h0
end
section
open Go.RowKit
set_option maxHeartbeats 4000000 in
set_option maxRecDepth 20000 in
theorem give_9yes {σ w : World} {K M : Mm} {lab : Nat → Nat} {p t q b lv : Nat} {s : MachS} {fs : List FrameS} {f : FrameS} (h : Has σ M w) (hT : AtTop K M lab p s t q b fs f) (hat : f.at_ = 9) {sl x : Nat} (h0 : f.r 0 = (sl : Int)) (hsl : sl < 256) (hx : f.r 1 = (x : Int)) (hx64 : x < 18446744073709551616) (hlv : levelOf s.c (t : Nat) = (lv : Nat)) (hlc : (lv : Int) < s.c 0) (hb1 : s.mem.acc < 1000000000) (hb2 : s.mem.wr < 1000000000) (hsw : s.mem.swaps (atK s.c lv 0 0 0) x = true) (hfs : fs.length < 1000000) :
  Calls Tryz.prog 133 #[.agg (runC p t q b)] w fun r w' => r = .returned (.tuple #[]) ∧ ∃ M' lab', Has σ M' w' ∧ Mach M' lab' p (MachS.backed { s.top t fs (f.goto 7) with mem := s.mem.cas (atK s.c lv 0 0 0) x (mkTop sl (cutN x 8 56 + 1) : Nat) } t []) ∧ Base K M' lab' := by
 have d0 : (runC p t q b)[0]? = some (.pointer (some ⟨p, 0, none⟩)) := rfl
 have d1 : (runC p t q b)[1]? = some (.int .i64 (t : Nat)) := rfl
 have d2 : (runC p t q b)[2]? = some (.pointer (some ⟨q, 0, none⟩)) := rfl
 have d3 : (runC p t q b)[3]? = some (.pointer (some ⟨b, 0, none⟩)) := rfl
 have dx : (runC p t q b).extract 0 (0 + 4) = runC p t q b := rfl
 have dz : (runC p t q b).size = 4 := rfl
 have f1 : f.row[1]? = some (.int .i64 9) := by rw [← hat]; rfl
 have f2 : f.row[2]? = some (.int .u64 (sl : Nat)) := by rw [← h0]; rfl
 have us : IntKind.i64.wrap ((sl : Nat) : Int) = ((sl : Nat) : Int) := IntWalk.i64_in _ (by omega)
 clear hat
 have HF := Lib.hid hfs
 clear hfs
 go_enter Tryz.func133, Tryz.ntmps133
 go_upto_region 1 with (fail)
 obtain ⟨M1, hbx, hle, hb4, hn⟩ := h.box (.cells (runC p t q b) 193)
 generalize w.alloc _ = wx at hbx ⊢
 generalize w.heap.size = b4 at hb4 hn ⊢
 clear h
 try clear w
 have h := hbx
 clear hbx
 obtain ⟨w, rfl⟩ : ∃ x : World, x = wx := ⟨_, rfl⟩
 obtain ⟨lab1, hT1⟩ := hT.more1 hle hn hb4
 have hnK : K b4 = none := by
  cases e : K b4 with
  | none => rfl
  | some o => have := (hT.base _ _ e).1; rw [hn] at this; cases this
 have hKK : K.le (K.upd b4 (.cells (runC p t q b) 193)) := Mm.le_upd' hnK _
 have hbK : (K.upd b4 (.cells (runC p t q b) 193)) b4 = some (.cells (runC p t q b) 193) := Mm.upd_same _ _ _
 have hfb := hT1.obj
 have hsz : 1 < f.row.size := show 1 < 18 by omega
 have R0 := Lib.hid (row_goto f 7)
 obtain ⟨_, hT2⟩ := hT1.frame (f.goto 7)
 have SW := Lib.hid (fun (w : World) (h : Has σ (M1.upd b (.cells (f.goto 7).row 69)) w) => runSwing_eq h hT2 (spotAt_of hT2.mach hlv hlc (inK_free _)) hb1 hb2 (x := x) (slot := sl) hx hx64 (by omega))
 rw [show (s.top t fs (f.goto 7)).mem = s.mem from rfl, show (s.top t fs (f.goto 7)).c = s.c from rfl, hsw] at SW
 have hbK2 := hT2.base.le _ _ hbK
 have HK := Lib.hid hKK
 have HBK := Lib.hid hbK
 clear hT hT1 hT2 hb1 hb2 hn hle hnK hKK hx hx64 hlv hlc hsw hbK h0
 generalize f.row = fr0 at *
 generalize hr1 : (f.goto 7).row = fr1 at *
 generalize runC p t q b = rc at *
 clear hr1
 go_upto_region 5 with (first
  | (with_reducible show wpList _ _ _ ({ dst := _, op := Op.load 70 _, type := _, pos := _, after := _, guard := _ } :: _) _ _; refine wpList_load1_has h rfl 70 _ rfl rfl hb4 d3 Tryz.underlying70 rfl ?_)
  | (with_reducible show wpList _ _ _ ({ dst := _, op := Op.load 42 _, type := _, pos := _, after := _, guard := _ } :: _) _ _; refine wpList_load1_has h rfl 42 _ rfl rfl hfb f2 Tryz.underlying42 rfl ?_)
  | (with_reducible show wpList _ _ _ ({ dst := _, op := Op.load 3 _, type := _, pos := _, after := _, guard := _ } :: _) _ _; refine wpList_load1_has h rfl 3 _ rfl rfl hfb f1 Tryz.underlying3 rfl ?_)
  | (with_reducible show wpList _ _ _ ({ dst := _, op := Op.store 3 _ _, type := _, pos := _, after := _, guard := _ } :: _) _ _; refine wpList_store1_has h rfl 3 _ _ rfl rfl rfl hfb hsz rfl (by kernel_rfl) ?_; clear h; intro w h))
 have h9 : Has σ (M1.upd b (.cells (fr0.setIfInBounds 1 (.int .i64 7)) 69)) w := h
 rw [R0.out] at h9
 clear h hfb hsz R0 hb4
 have h := h9
 clear h9
 generalize M1.upd b _ = M2 at h hbK2 SW
 go_wp2_with (first | ((with_reducible show wpList _ _ _ ({ dst := _, op := Op.load 190 _, type := _, pos := _, after := _, guard := _ } :: _) _ _); refine wpList_agg_has h rfl 190 _ rfl rfl hbK2 dx dz Tryz.underlying190 rfl (by kernel_rfl) ?_; try simp only [Act.put, qD, qE, qF]))
 go_at_call 141
 refine (SW.out _ h).mono ?_
 clear h
 rintro _ w ⟨rfl, M3, lab3, h, hT3⟩
 have hb4' := hT3.base.le _ _ HBK.out
 have BK := Lib.hid (fun (w : World) (h : Has σ M3 w) => back0_eq h hT3 HF.out)
 clear hT3 SW hbK2
 go_wp2_with (first
  | (with_reducible show wpList _ _ _ ({ dst := _, op := Op.load 38 _, type := _, pos := _, after := _, guard := _ } :: _) _ _; refine wpList_load1_has h rfl 38 _ rfl rfl hb4' d2 Tryz.underlying38 rfl ?_)
  | (go_at_call 93; refine (BK.out _ h).mono ?_; clear h; rintro _ w ⟨rfl, M4, lab4, h, hM4, hB4⟩))
 go_end0
 exact ⟨rfl, M4, lab4, h, hM4, fun c o hc => hB4 c o (HK.out _ _ hc)⟩
end
section
open Go.RowKit
/-- Behind the idle bit: the head is stored, the slot is given back. -/
def MachS.idled (s : MachS) (lv sl g : Nat) (gv : Value) : MachS := MachS.gaveS { s with mem := s.mem.store (atK s.c lv 9 (sl : Nat) 0) (mkHead g 0 : Nat) } lv (sl : Nat) gv
section
variable {σ w : World} {K M : Mm} {lab : Nat → Nat} {p t q b lv : Nat} {s : MachS} {fs : List FrameS} {f : FrameS}
set_option maxHeartbeats 4000000 in
set_option maxRecDepth 20000 in
/-- It isn't worn: Give goes on. -/
theorem idle_on (h : Has σ M w) (hT : AtTop K M lab p s t q b fs f) {sl g : Nat} (h0 : f.r 0 = (sl : Int)) (hsl : sl < 256) (hg : f.r 2 = (g : Int)) (hg32 : g < 4294967296) (hlv : levelOf s.c (t : Nat) = (lv : Nat)) (hlc : (lv : Int) < s.c 0) (hin : InK s.c 9 (sl : Nat) 0) (hb1 : s.mem.acc < 1000000000) (hb2 : s.mem.wr < 1000000000) (hst : StampE s.ward.gens s.ward.gclk) (hgg : 0 ≤ valE lv (sl : Nat) s.ward.gens ∧ valE lv (sl : Nat) s.ward.gens < 1000000000) (hsp : s.ward.slips < 1000000000) (hgn : s.given.length < 1000000) (hhas : s.ward.has lv (sl : Nat) = true) (hfs : fs.length < 1000000) (hgo : (g : Int) < s.c 12) :
  Calls Tryz.prog 145 #[.agg (runC p t q b)] w fun r w' => r = .returned (.tuple #[]) ∧ ∃ M' lab' gv, Has σ M' w' ∧ AtTop K M' lab' p ((s.idled lv sl g gv).top t fs (f.goto 7)) t q b fs (f.goto 7) := by
 have hw7 : decide (s.c 12 ≤ (g : Int)) = false := decide_eq_false (by omega)
 clear hgo
 have d0 : (runC p t q b)[0]? = some (.pointer (some ⟨p, 0, none⟩)) := rfl
 have d1 : (runC p t q b)[1]? = some (.int .i64 (t : Nat)) := rfl
 have d2 : (runC p t q b)[2]? = some (.pointer (some ⟨q, 0, none⟩)) := rfl
 have d3 : (runC p t q b)[3]? = some (.pointer (some ⟨b, 0, none⟩)) := rfl
 have dx : (runC p t q b).extract 0 (0 + 4) = runC p t q b := rfl
 have dz : (runC p t q b).size = 4 := rfl
 have f2 : f.row[2]? = some (.int .u64 (sl : Nat)) := by rw [← h0]; rfl
 have f4 : f.row[4]? = some (.int .u64 (g : Nat)) := by rw [← hg]; rfl
 have g4 : (f.goto 7).row[4]? = some (.int .u64 (g : Nat)) := by rw [← hg]; rfl
 have us : IntKind.i64.wrap ((sl : Nat) : Int) = ((sl : Nat) : Int) := IntWalk.i64_in _ (by omega)
 have ug : IntKind.i64.wrap ((g : Nat) : Int) = ((g : Nat) : Int) := IntWalk.i64_in _ (by omega)
 have HH : Hid (∀ w, Calls Tryz.prog 89 #[.int .i64 (g : Nat), .int .i64 0] w fun r w' => r = .returned (.int .u64 (mkHead g 0 : Nat)) ∧ w = w') := Lib.hid fun w => handleHead_any g 0 (by omega) (by omega) w
 have SPA := spotAt_of (σ := σ) hT.mach hlv hlc hin
 have hfd : ∀ w : World, (Instr.field 24 (.agg #[.int .i64 (s.c 0), .int .i64 (s.c 1), .int .i64 (s.c 2), .int .i64 (s.c 3), .int .i64 (s.c 4), .int .i64 (s.c 5), .int .i64 (s.c 6), .int .i64 (s.c 7), .int .i64 (s.c 8), .int .i64 (s.c 9), .int .i64 (s.c 10), .int .i64 (s.c 11), .int .i64 (s.c 12), .int .i64 (s.c 13)]) 5).run Tryz.prog w = .ok (.int .i64 (s.c 12)) w := fun w => by kernel_rfl
 have CFQ := Lib.hid (fun (M' : Mm) (w : World) (h : Has σ M' w) (p' : Nat) (hp : M' p' = some (planRow s.c)) => conf_has h s.c hp)
 rw [ints14_lit] at CFQ
 obtain ⟨a, ha⟩ : ∃ a, atK s.c lv 9 (sl : Nat) 0 = a := ⟨_, rfl⟩
 unfold MachS.idled
 rw [ha] at SPA ⊢
 obtain ⟨v, hv⟩ : ∃ v : Int, ((mkHead g 0 : Nat) : Int) = v := ⟨_, rfl⟩
 rw [hv] at HH ⊢
 have ND := Lib.hid (fun (M' : Mm) (w : World) (h : Has σ M' w) (hle : M.le M') => runNode_eq (q := q) (b := b) h (SPA.le hle))
 have DRQ := Lib.hid (fun (K' M' : Mm) (w : World) (lab' : Nat → Nat) (h : Has σ M' w) (hT' : AtTop K' M' lab' p { s with mem := s.mem.store a v } t q b fs f) => mDrop_kp h hT'.mach hT'.base (t : Nat) (sl : Nat) (lv := ((lv : Nat) : Int)) hlv hst hgg hsp hgn hhas)
 have HFS := Lib.hid hfs
 clear h0 ha hv hin SPA hg hlv hlc hst hgg hsp hgn hhas hfs
 go_enter Tryz.func145, Tryz.ntmps145
 go_upto_region 1 with (fail)
 obtain ⟨M1, hbx, hle, hb4, hn⟩ := h.box (.cells (runC p t q b) 193)
 generalize w.alloc _ = wx at hbx ⊢
 generalize w.heap.size = b4 at hb4 hn ⊢
 clear h
 try clear w
 have h := hbx
 clear hbx
 obtain ⟨w, rfl⟩ : ∃ x : World, x = wx := ⟨_, rfl⟩
 obtain ⟨lab1, hT1⟩ := hT.more1 hle hn hb4
 have hnK : K b4 = none := by
  cases e : K b4 with
  | none => rfl
  | some o => have := (hT.base _ _ e).1; rw [hn] at this; cases this
 have hKK : K.le (K.upd b4 (.cells (runC p t q b) 193)) := Mm.le_upd' hnK _
 have hbK : (K.upd b4 (.cells (runC p t q b) 193)) b4 = some (.cells (runC p t q b) 193) := Mm.upd_same _ _ _
 have hfb := hT1.obj
 have ND1 := Lib.hid (fun (w : World) (h : Has σ M1 w) => ND.out M1 w h hle)
 have ME := Lib.hid (fun (w : World) (h : Has σ M1 w) => mMem_eq h hT1.mach)
 have SE := Lib.hid (fun (w : World) (h : Has σ M1 w) => memStore_eq h hT1.mach.mem hb1 hb2 a v)
 have hne : b4 ≠ b := fun e => by
  subst e
  rw [hb4] at hfb
  simp only [Option.some.injEq, Obj.cells.injEq] at hfb
  exact absurd hfb.2.1 (by decide)
 have hT2 := hT1.store a v
 have KL := Mm.upd_le2 hT1.base.le hT1.obj
 have KE := Mm.upd_le2 hT2.base.le hT2.obj
 have hbK2 : ((K.upd b4 (.cells (runC p t q b) 193)).upd b (.cells f.row 69)) b4 = some (.cells (runC p t q b) 193) := (Mm.upd_ne hne).trans (Mm.upd_same _ _ _)
 have hfK : ((K.upd b4 (.cells (runC p t q b) 193)).upd b (.cells f.row 69)) b = some (.cells f.row 69) := Mm.upd_same _ _ _
 have HT2 := Lib.hid hT2
 have HNE := Lib.hid hne
 have HKK := Lib.hid hKK
 have HBK := Lib.hid hbK
 clear hT hT1 hT2 hb1 hb2 hn hle hnK hKK hne hbK ND
 generalize K.upd b4 _ = K0 at HT2 KL KE hbK2 hfK HKK HBK
 have hsz : 1 < f.row.size := show 1 < 18 by omega
 have R1 := Lib.hid (row_goto f 7)
 generalize runC p t q b = rc at *
 generalize hr0 : f.row = fr0 at *
 generalize hKD : K0.upd b (.cells fr0 69) = K1 at KL KE hbK2 hfK
 generalize hM2 : storeM M1 s.mp s.mem a v = M2 at *
 clear hM2
 go_upto_region 3 with (first
  | (with_reducible show wpList _ _ _ ({ dst := _, op := Op.load 70 _, type := _, pos := _, after := _, guard := _ } :: _) _ _; refine wpList_load1_has h rfl 70 _ rfl rfl hb4 d3 Tryz.underlying70 rfl ?_)
  | (with_reducible show wpList _ _ _ ({ dst := _, op := Op.load 42 _, type := _, pos := _, after := _, guard := _ } :: _) _ _; refine wpList_load1_has h rfl 42 _ rfl rfl hfb f2 Tryz.underlying42 rfl ?_))
 clear hfb hb4
 refine wp_region_held_drew (S := Has σ (K1)) (by kernel_rfl) (h.drew.le KL) (fun hHeld => ?_)
 refine wpAnyH_take (i := 0) (v := ?_) rfl (by kernel_rfl) (by kernel_rfl) (by kernel_rfl) (fun _ _ _ h => h) (Or.inl ⟨by rfl, ?_⟩) hHeld ?_
 rotate_left
 ·(intro wz _; go_simp; try with_reducible rfl)
 try simp only [qA, qB, qC, Act.put, qD, qE, qF]
 refine wpAnyH_take (i := 1) (v := ?_) rfl (by kernel_rfl) (by kernel_rfl) (by kernel_rfl) (fun _ _ _ h => h) (Or.inl ⟨by rfl, ?_⟩) hHeld ?_
 rotate_left
 ·(intro wz _; go_simp; try with_reducible rfl)
 try simp only [qA, qB, qC, Act.put, qD, qE, qF]
 refine wpAnyH_take (i := 2) (v := _) rfl (by kernel_rfl) (by kernel_rfl) (by kernel_rfl) (fun _ _ _ h => h) (yields_load1 rfl 26 _ rfl rfl hbK2 d0 Tryz.underlying26 rfl) hHeld ?_
 try simp only [qA, qB, qC, Act.put, qD, qE, qF]
 refine wpAnyH_take (i := 4) (v := ?_) rfl (by kernel_rfl) (by kernel_rfl) (by kernel_rfl) (fun _ _ _ h => h) (Or.inl ⟨by rfl, ?_⟩) hHeld ?_
 rotate_left
 ·(intro wz _; go_simp; try with_reducible rfl)
 try simp only [qA, qB, qC, Act.put, qD, qE, qF]
 refine wpAnyH_take (i := 5) (v := _) rfl (by kernel_rfl) (by kernel_rfl) (by kernel_rfl) (fun _ _ _ h => h) (yields_agg rfl 190 _ rfl rfl hbK2 dx dz Tryz.underlying190 rfl (by kernel_rfl)) hHeld ?_
 try simp only [qA, qB, qC, Act.put, qD, qE, qF]
 refine wpAnyH_take (i := 6) (v := ?_) rfl (by kernel_rfl) (by kernel_rfl) (by kernel_rfl) (fun _ _ _ h => h) (Or.inl ⟨by rfl, ?_⟩) hHeld ?_
 rotate_left
 ·(intro wz _; go_simp; try with_reducible rfl)
 try simp only [qA, qB, qC, Act.put, qD, qE, qF]
 refine wpAnyH_take (i := 8) (v := ?_) rfl (by kernel_rfl) (by kernel_rfl) (by kernel_rfl) (fun _ _ _ h => h) (Or.inl ⟨by rfl, ?_⟩) hHeld ?_
 rotate_left
 ·(intro wz _; go_simp; try with_reducible rfl)
 try simp only [qA, qB, qC, Act.put, qD, qE, qF]
 refine wpAnyH_take (i := 9) (v := ?_) rfl (by kernel_rfl) (by kernel_rfl) (by kernel_rfl) (fun _ _ _ h => h) (Or.inl ⟨by rfl, ?_⟩) hHeld ?_
 rotate_left
 ·(intro wz _; go_simp; try with_reducible rfl)
 try simp only [qA, qB, qC, Act.put, qD, qE, qF]
 refine wpAnyH_take (i := 10) (v := ?_) rfl (by kernel_rfl) (by kernel_rfl) (by kernel_rfl) (fun _ _ _ h => h) (Or.inl ⟨by rfl, ?_⟩) hHeld ?_
 rotate_left
 ·(intro wz _; go_simp; try with_reducible rfl)
 try simp only [qA, qB, qC, Act.put, qD, qE, qF]
 refine wpAnyH_take (i := 11) (v := ?_) rfl (by kernel_rfl) (by kernel_rfl) (by kernel_rfl) (fun _ _ _ h => h) (Or.inl ⟨by rfl, ?_⟩) hHeld ?_
 rotate_left
 ·(intro wz _; go_simp; try with_reducible rfl)
 try simp only [qA, qB, qC, Act.put, qD, qE, qF]
 refine wpAnyH_take (i := 12) (v := _) rfl (by kernel_rfl) (by kernel_rfl) (by kernel_rfl) (fun _ _ _ h => h) (yields_load1 rfl 42 _ rfl rfl hfK f4 Tryz.underlying42 rfl) hHeld ?_
 try simp only [qA, qB, qC, Act.put, qD, qE, qF]
 refine wpAnyH_take (i := 13) (v := ?_) rfl (by kernel_rfl) (by kernel_rfl) (by kernel_rfl) (fun _ _ _ h => h) (Or.inl ⟨by rfl, ?_⟩) hHeld ?_
 rotate_left
 ·(intro wz _; go_simp; try with_reducible rfl)
 try simp only [qA, qB, qC, Act.put, qD, qE, qF]
 replace h := h.drew
 generalize w.drew = w1 at h hHeld ⊢
 clear w
 obtain ⟨w, rfl⟩ : ∃ q : World, q = w1 := ⟨_, rfl⟩
 refine wpAnyH_ready (rs := [3]) (by kernel_rfl) (by simp) ?_
 refine AllReadyH.cons rfl (fun K hK => ?_) AllReadyH.nil
 (go_simp; go_wp2_with (go_at_call 46; refine (ME.out _ h).mono ?_; clear h; rintro _ w ⟨rfl, h⟩))
 refine hK.out _ _ (h.le KL) (fun hHeld => ?_)
 clear hK K
 try simp only [Act.put, qD, qE, qF]
 refine wpAnyH_ready (rs := [7]) (by kernel_rfl) (by simp) ?_
 refine AllReadyH.cons rfl (fun K hK => ?_) AllReadyH.nil
 (go_simp; go_wp2_with (go_at_call 143; refine (ND1.out _ h).mono ?_; clear h; rintro _ w ⟨rfl, h⟩))
 refine hK.out _ _ (h.le KL) (fun hHeld => ?_)
 clear hK K
 try simp only [Act.put, qD, qE, qF]
 refine wpAnyH_ready (rs := [14]) (by kernel_rfl) (by simp) ?_
 refine AllReadyH.cons rfl (fun K hK => ?_) AllReadyH.nil
 (go_simp; go_wp2_with (go_at_call 89; refine (HH.out _).mono ?_; rintro _ w' ⟨rfl, rfl⟩))
 refine hK.out _ _ (h.le KL) (fun hHeld => ?_)
 clear hK K
 try simp only [Act.put, qD, qE, qF]
 refine wpAnyH_ready (rs := [15]) (by kernel_rfl) (by simp) ?_
 refine AllReadyH.cons rfl (fun K hK => ?_) AllReadyH.nil
 (go_simp; go_wp2_with (go_at_call 97; refine (SE.out _ h).mono ?_; clear h; rintro _ w ⟨rfl, h⟩))
 refine hK.out _ _ (h.le KE) (fun hHeld => ?_)
 clear hK K
 try simp only [Act.put, qD, qE, qF]
 refine wpAnyH_done (by kernel_rfl) ?_ _
 clear hHeld ME SE HH ND1 KL
 have hb4' := KE _ _ hbK2
 have DR := Lib.hid (fun (w : World) (h : Has σ M2 w) => DRQ.out K0 M2 w _ h HT2.out)
 clear KE hbK2 hfK hKD DRQ
 go_upto_region 5 with (first
  | (with_reducible show wpList _ _ _ ({ dst := _, op := Op.load 26 _, type := _, pos := _, after := _, guard := _ } :: _) _ _; refine wpList_load1_has h rfl 26 _ rfl rfl hb4' d0 Tryz.underlying26 rfl ?_)
  | (with_reducible show wpList _ _ _ ({ dst := _, op := Op.load 3 _, type := _, pos := _, after := _, guard := _ } :: _) _ _; refine wpList_load1_has h rfl 3 _ rfl rfl hb4' d1 Tryz.underlying3 rfl ?_)
  | ((go_at_call 147; refine (DR.out _ h).mono ?_; clear h; rintro _ w ⟨rfl, M3, lab3, gv, h, hB3, hM3, hK3⟩)))
 have hT3 := HT2.out.keep hK3 (fun k hk e => by have h1 := hk.1; rcases e with e | e | e <;> omega) hM3 hB3 rfl rfl
 obtain ⟨hfb3, hT4⟩ := hT3.frame (f.goto 7)
 rw [hr0] at hfb3
 have HT4 := Lib.hid (hT4.less HKK.out)
 have PL := Lib.hid (fun (w : World) (h : Has σ (M3.upd b (.cells (f.goto 7).row 69)) w) => mPlan_eq h hT4.mach)
 have CF := Lib.hid (fun (w : World) (h : Has σ (M3.upd b (.cells (f.goto 7).row 69)) w) => CFQ.out _ w h _ hT4.mach.plan)
 have BK0 := Lib.hid (fun (w : World) (h : Has σ (M3.upd b (.cells (f.goto 7).row 69)) w) => back0_eq h hT4 HFS.out)
 have KP := Mm.upd_le2 hT4.base.le hT4.obj
 have hb5 := hT4.base.le _ _ HBK.out
 have hbK5 : (K0.upd b (.cells (f.goto 7).row 69)) b4 = some (.cells rc 193) := (Mm.upd_ne HNE.out).trans HBK.out
 have hfK5 : (K0.upd b (.cells (f.goto 7).row 69)) b = some (.cells (f.goto 7).row 69) := Mm.upd_same _ _ _
 clear hT3 hT4 hK3 hM3 hB3 hb4' HT2 DR CFQ hr0
 generalize (f.goto 7).row = fr1 at *
 go_upto_region 6 with (first
  | (with_reducible show wpList _ _ _ ({ dst := _, op := Op.store 3 _ _, type := _, pos := _, after := _, guard := _ } :: _) _ _; refine wpList_store1_has h rfl 3 _ _ rfl rfl rfl hfb3 hsz rfl (by kernel_rfl) ?_; clear h; intro w h))
 have h9 : Has σ (M3.upd b (.cells (fr0.setIfInBounds 1 (.int .i64 7)) 69)) w := h
 rw [R1.out] at h9
 clear h hfb3 hsz R1
 have h := h9
 clear h9
 generalize M3.upd b (.cells fr1 69) = M4 at *
 generalize K0.upd b (.cells fr1 69) = K5 at *
 refine wp_region_held_drew (S := Has σ (K5)) (by kernel_rfl) (h.drew.le KP) (fun hHeld => ?_)
 refine wpAnyH_take (i := 0) (v := ?_) rfl (by kernel_rfl) (by kernel_rfl) (by kernel_rfl) (fun _ _ _ h => h) (Or.inl ⟨by rfl, ?_⟩) hHeld ?_
 rotate_left
 ·(intro wz _; go_simp; try with_reducible rfl)
 try simp only [qA, qB, qC, Act.put, qD, qE, qF]
 refine wpAnyH_take (i := 1) (v := ?_) rfl (by kernel_rfl) (by kernel_rfl) (by kernel_rfl) (fun _ _ _ h => h) (Or.inl ⟨by rfl, ?_⟩) hHeld ?_
 rotate_left
 ·(intro wz _; go_simp; try with_reducible rfl)
 try simp only [qA, qB, qC, Act.put, qD, qE, qF]
 refine wpAnyH_take (i := 2) (v := ?_) rfl (by kernel_rfl) (by kernel_rfl) (by kernel_rfl) (fun _ _ _ h => h) (Or.inl ⟨by rfl, ?_⟩) hHeld ?_
 rotate_left
 ·(intro wz _; go_simp; try with_reducible rfl)
 try simp only [qA, qB, qC, Act.put, qD, qE, qF]
 refine wpAnyH_take (i := 3) (v := ?_) rfl (by kernel_rfl) (by kernel_rfl) (by kernel_rfl) (fun _ _ _ h => h) (Or.inl ⟨by rfl, ?_⟩) hHeld ?_
 rotate_left
 ·(intro wz _; go_simp; try with_reducible rfl)
 try simp only [qA, qB, qC, Act.put, qD, qE, qF]
 refine wpAnyH_take (i := 4) (v := _) rfl (by kernel_rfl) (by kernel_rfl) (by kernel_rfl) (fun _ _ _ h => h) (yields_load1 rfl 42 _ rfl rfl hfK5 g4 Tryz.underlying42 rfl) hHeld ?_
 try simp only [qA, qB, qC, Act.put, qD, qE, qF]
 refine wpAnyH_take (i := 5) (v := ?_) rfl (by kernel_rfl) (by kernel_rfl) (by kernel_rfl) (fun _ _ _ h => h) (Or.inl ⟨by rfl, ?_⟩) hHeld ?_
 rotate_left
 ·(intro wz _; go_simp; try with_reducible rfl)
 try simp only [qA, qB, qC, Act.put, qD, qE, qF]
 refine wpAnyH_take (i := 6) (v := ?_) rfl (by kernel_rfl) (by kernel_rfl) (by kernel_rfl) (fun _ _ _ h => h) (Or.inl ⟨by rfl, ?_⟩) hHeld ?_
 rotate_left
 ·(intro wz _; go_simp; try with_reducible rfl)
 try simp only [qA, qB, qC, Act.put, qD, qE, qF]
 refine wpAnyH_take (i := 7) (v := ?_) rfl (by kernel_rfl) (by kernel_rfl) (by kernel_rfl) (fun _ _ _ h => h) (Or.inl ⟨by rfl, ?_⟩) hHeld ?_
 rotate_left
 ·(intro wz _; go_simp; try with_reducible rfl)
 try simp only [qA, qB, qC, Act.put, qD, qE, qF]
 refine wpAnyH_take (i := 8) (v := _) rfl (by kernel_rfl) (by kernel_rfl) (by kernel_rfl) (fun _ _ _ h => h) (yields_load1 rfl 26 _ rfl rfl hbK5 d0 Tryz.underlying26 rfl) hHeld ?_
 try simp only [qA, qB, qC, Act.put, qD, qE, qF]
 replace h := h.drew
 generalize w.drew = w1 at h hHeld ⊢
 clear w
 obtain ⟨w, rfl⟩ : ∃ q : World, q = w1 := ⟨_, rfl⟩
 refine wpAnyH_ready (rs := [9]) (by kernel_rfl) (by simp) ?_
 refine AllReadyH.cons rfl (fun K hK => ?_) AllReadyH.nil
 (go_simp; go_wp2_with (go_at_call 57; refine (PL.out _ h).mono ?_; clear h; rintro _ w ⟨rfl, h⟩))
 refine hK.out _ _ (h.le KP) (fun hHeld => ?_)
 clear hK K
 try simp only [Act.put, qD, qE, qF]
 refine wpAnyH_ready (rs := [10]) (by kernel_rfl) (by simp) ?_
 refine AllReadyH.cons rfl (fun K hK => ?_) AllReadyH.nil
 (go_simp; go_wp2_with (go_at_call 58; refine (CF.out _ h).mono ?_; clear h; rintro _ w ⟨rfl, h⟩))
 refine hK.out _ _ (h.le KP) (fun hHeld => ?_)
 clear hK K
 try simp only [Act.put, qD, qE, qF]
 refine wpAnyH_take (i := 11) (v := ?_) rfl (by kernel_rfl) (by kernel_rfl) (by kernel_rfl) (fun _ _ _ h => h) (Or.inl ⟨by rfl, ?_⟩) hHeld ?_
 rotate_left
 ·(intro wz _; go_simp; try with_reducible rfl)
 try simp only [qA, qB, qC, Act.put, qD, qE, qF]
 refine wpAnyH_take (i := 12) (v := ?_) rfl (by kernel_rfl) (by kernel_rfl) (by kernel_rfl) (fun _ _ _ h => h) (Or.inl ⟨by rfl, ?_⟩) hHeld ?_
 rotate_left
 ·(intro wz _; go_simp; try with_reducible rfl)
 try simp only [qA, qB, qC, Act.put, qD, qE, qF]
 refine wpAnyH_done (by kernel_rfl) ?_ _
 clear hHeld PL CF hfd
 go_wp2
 go_end0
 exact ⟨rfl, M4, lab3, gv, h, HT4.out⟩
set_option maxHeartbeats 4000000 in
set_option maxRecDepth 20000 in
/-- It is worn: Give ends. -/
theorem idle_end (h : Has σ M w) (hT : AtTop K M lab p s t q b fs f) {sl g : Nat} (h0 : f.r 0 = (sl : Int)) (hsl : sl < 256) (hg : f.r 2 = (g : Int)) (hg32 : g < 4294967296) (hlv : levelOf s.c (t : Nat) = (lv : Nat)) (hlc : (lv : Int) < s.c 0) (hin : InK s.c 9 (sl : Nat) 0) (hb1 : s.mem.acc < 1000000000) (hb2 : s.mem.wr < 1000000000) (hst : StampE s.ward.gens s.ward.gclk) (hgg : 0 ≤ valE lv (sl : Nat) s.ward.gens ∧ valE lv (sl : Nat) s.ward.gens < 1000000000) (hsp : s.ward.slips < 1000000000) (hgn : s.given.length < 1000000) (hhas : s.ward.has lv (sl : Nat) = true) (hfs : fs.length < 1000000) (hgo : s.c 12 ≤ (g : Int)) :
  Calls Tryz.prog 145 #[.agg (runC p t q b)] w fun r w' => r = .returned (.tuple #[]) ∧ ∃ M' lab' gv, Has σ M' w' ∧ Mach M' lab' p (MachS.backed ((s.idled lv sl g gv).top t fs (f.goto 7)) t []) ∧ Base K M' lab' := by
 have hw7 : decide (s.c 12 ≤ (g : Int)) = true := decide_eq_true (by omega)
 clear hgo
 have d0 : (runC p t q b)[0]? = some (.pointer (some ⟨p, 0, none⟩)) := rfl
 have d1 : (runC p t q b)[1]? = some (.int .i64 (t : Nat)) := rfl
 have d2 : (runC p t q b)[2]? = some (.pointer (some ⟨q, 0, none⟩)) := rfl
 have d3 : (runC p t q b)[3]? = some (.pointer (some ⟨b, 0, none⟩)) := rfl
 have dx : (runC p t q b).extract 0 (0 + 4) = runC p t q b := rfl
 have dz : (runC p t q b).size = 4 := rfl
 have f2 : f.row[2]? = some (.int .u64 (sl : Nat)) := by rw [← h0]; rfl
 have f4 : f.row[4]? = some (.int .u64 (g : Nat)) := by rw [← hg]; rfl
 have g4 : (f.goto 7).row[4]? = some (.int .u64 (g : Nat)) := by rw [← hg]; rfl
 have us : IntKind.i64.wrap ((sl : Nat) : Int) = ((sl : Nat) : Int) := IntWalk.i64_in _ (by omega)
 have ug : IntKind.i64.wrap ((g : Nat) : Int) = ((g : Nat) : Int) := IntWalk.i64_in _ (by omega)
 have HH : Hid (∀ w, Calls Tryz.prog 89 #[.int .i64 (g : Nat), .int .i64 0] w fun r w' => r = .returned (.int .u64 (mkHead g 0 : Nat)) ∧ w = w') := Lib.hid fun w => handleHead_any g 0 (by omega) (by omega) w
 have SPA := spotAt_of (σ := σ) hT.mach hlv hlc hin
 have hfd : ∀ w : World, (Instr.field 24 (.agg #[.int .i64 (s.c 0), .int .i64 (s.c 1), .int .i64 (s.c 2), .int .i64 (s.c 3), .int .i64 (s.c 4), .int .i64 (s.c 5), .int .i64 (s.c 6), .int .i64 (s.c 7), .int .i64 (s.c 8), .int .i64 (s.c 9), .int .i64 (s.c 10), .int .i64 (s.c 11), .int .i64 (s.c 12), .int .i64 (s.c 13)]) 5).run Tryz.prog w = .ok (.int .i64 (s.c 12)) w := fun w => by kernel_rfl
 have CFQ := Lib.hid (fun (M' : Mm) (w : World) (h : Has σ M' w) (p' : Nat) (hp : M' p' = some (planRow s.c)) => conf_has h s.c hp)
 rw [ints14_lit] at CFQ
 obtain ⟨a, ha⟩ : ∃ a, atK s.c lv 9 (sl : Nat) 0 = a := ⟨_, rfl⟩
 unfold MachS.idled
 rw [ha] at SPA ⊢
 obtain ⟨v, hv⟩ : ∃ v : Int, ((mkHead g 0 : Nat) : Int) = v := ⟨_, rfl⟩
 rw [hv] at HH ⊢
 have ND := Lib.hid (fun (M' : Mm) (w : World) (h : Has σ M' w) (hle : M.le M') => runNode_eq (q := q) (b := b) h (SPA.le hle))
 have DRQ := Lib.hid (fun (K' M' : Mm) (w : World) (lab' : Nat → Nat) (h : Has σ M' w) (hT' : AtTop K' M' lab' p { s with mem := s.mem.store a v } t q b fs f) => mDrop_kp h hT'.mach hT'.base (t : Nat) (sl : Nat) (lv := ((lv : Nat) : Int)) hlv hst hgg hsp hgn hhas)
 have HFS := Lib.hid hfs
 clear h0 ha hv hin SPA hg hlv hlc hst hgg hsp hgn hhas hfs
 go_enter Tryz.func145, Tryz.ntmps145
 go_upto_region 1 with (fail)
 obtain ⟨M1, hbx, hle, hb4, hn⟩ := h.box (.cells (runC p t q b) 193)
 generalize w.alloc _ = wx at hbx ⊢
 generalize w.heap.size = b4 at hb4 hn ⊢
 clear h
 try clear w
 have h := hbx
 clear hbx
 obtain ⟨w, rfl⟩ : ∃ x : World, x = wx := ⟨_, rfl⟩
 obtain ⟨lab1, hT1⟩ := hT.more1 hle hn hb4
 have hnK : K b4 = none := by
  cases e : K b4 with
  | none => rfl
  | some o => have := (hT.base _ _ e).1; rw [hn] at this; cases this
 have hKK : K.le (K.upd b4 (.cells (runC p t q b) 193)) := Mm.le_upd' hnK _
 have hbK : (K.upd b4 (.cells (runC p t q b) 193)) b4 = some (.cells (runC p t q b) 193) := Mm.upd_same _ _ _
 have hfb := hT1.obj
 have ND1 := Lib.hid (fun (w : World) (h : Has σ M1 w) => ND.out M1 w h hle)
 have ME := Lib.hid (fun (w : World) (h : Has σ M1 w) => mMem_eq h hT1.mach)
 have SE := Lib.hid (fun (w : World) (h : Has σ M1 w) => memStore_eq h hT1.mach.mem hb1 hb2 a v)
 have hne : b4 ≠ b := fun e => by
  subst e
  rw [hb4] at hfb
  simp only [Option.some.injEq, Obj.cells.injEq] at hfb
  exact absurd hfb.2.1 (by decide)
 have hT2 := hT1.store a v
 have KL := Mm.upd_le2 hT1.base.le hT1.obj
 have KE := Mm.upd_le2 hT2.base.le hT2.obj
 have hbK2 : ((K.upd b4 (.cells (runC p t q b) 193)).upd b (.cells f.row 69)) b4 = some (.cells (runC p t q b) 193) := (Mm.upd_ne hne).trans (Mm.upd_same _ _ _)
 have hfK : ((K.upd b4 (.cells (runC p t q b) 193)).upd b (.cells f.row 69)) b = some (.cells f.row 69) := Mm.upd_same _ _ _
 have HT2 := Lib.hid hT2
 have HNE := Lib.hid hne
 have HKK := Lib.hid hKK
 have HBK := Lib.hid hbK
 clear hT hT1 hT2 hb1 hb2 hn hle hnK hKK hne hbK ND
 generalize K.upd b4 _ = K0 at HT2 KL KE hbK2 hfK HKK HBK
 have hsz : 1 < f.row.size := show 1 < 18 by omega
 have R1 := Lib.hid (row_goto f 7)
 generalize runC p t q b = rc at *
 generalize hr0 : f.row = fr0 at *
 generalize hKD : K0.upd b (.cells fr0 69) = K1 at KL KE hbK2 hfK
 generalize hM2 : storeM M1 s.mp s.mem a v = M2 at *
 clear hM2
 go_upto_region 3 with (first
  | (with_reducible show wpList _ _ _ ({ dst := _, op := Op.load 70 _, type := _, pos := _, after := _, guard := _ } :: _) _ _; refine wpList_load1_has h rfl 70 _ rfl rfl hb4 d3 Tryz.underlying70 rfl ?_)
  | (with_reducible show wpList _ _ _ ({ dst := _, op := Op.load 42 _, type := _, pos := _, after := _, guard := _ } :: _) _ _; refine wpList_load1_has h rfl 42 _ rfl rfl hfb f2 Tryz.underlying42 rfl ?_))
 clear hfb hb4
 refine wp_region_held_drew (S := Has σ (K1)) (by kernel_rfl) (h.drew.le KL) (fun hHeld => ?_)
 refine wpAnyH_take (i := 0) (v := ?_) rfl (by kernel_rfl) (by kernel_rfl) (by kernel_rfl) (fun _ _ _ h => h) (Or.inl ⟨by rfl, ?_⟩) hHeld ?_
 rotate_left
 ·(intro wz _; go_simp; try with_reducible rfl)
 try simp only [qA, qB, qC, Act.put, qD, qE, qF]
 refine wpAnyH_take (i := 1) (v := ?_) rfl (by kernel_rfl) (by kernel_rfl) (by kernel_rfl) (fun _ _ _ h => h) (Or.inl ⟨by rfl, ?_⟩) hHeld ?_
 rotate_left
 ·(intro wz _; go_simp; try with_reducible rfl)
 try simp only [qA, qB, qC, Act.put, qD, qE, qF]
 refine wpAnyH_take (i := 2) (v := _) rfl (by kernel_rfl) (by kernel_rfl) (by kernel_rfl) (fun _ _ _ h => h) (yields_load1 rfl 26 _ rfl rfl hbK2 d0 Tryz.underlying26 rfl) hHeld ?_
 try simp only [qA, qB, qC, Act.put, qD, qE, qF]
 refine wpAnyH_take (i := 4) (v := ?_) rfl (by kernel_rfl) (by kernel_rfl) (by kernel_rfl) (fun _ _ _ h => h) (Or.inl ⟨by rfl, ?_⟩) hHeld ?_
 rotate_left
 ·(intro wz _; go_simp; try with_reducible rfl)
 try simp only [qA, qB, qC, Act.put, qD, qE, qF]
 refine wpAnyH_take (i := 5) (v := _) rfl (by kernel_rfl) (by kernel_rfl) (by kernel_rfl) (fun _ _ _ h => h) (yields_agg rfl 190 _ rfl rfl hbK2 dx dz Tryz.underlying190 rfl (by kernel_rfl)) hHeld ?_
 try simp only [qA, qB, qC, Act.put, qD, qE, qF]
 refine wpAnyH_take (i := 6) (v := ?_) rfl (by kernel_rfl) (by kernel_rfl) (by kernel_rfl) (fun _ _ _ h => h) (Or.inl ⟨by rfl, ?_⟩) hHeld ?_
 rotate_left
 ·(intro wz _; go_simp; try with_reducible rfl)
 try simp only [qA, qB, qC, Act.put, qD, qE, qF]
 refine wpAnyH_take (i := 8) (v := ?_) rfl (by kernel_rfl) (by kernel_rfl) (by kernel_rfl) (fun _ _ _ h => h) (Or.inl ⟨by rfl, ?_⟩) hHeld ?_
 rotate_left
 ·(intro wz _; go_simp; try with_reducible rfl)
 try simp only [qA, qB, qC, Act.put, qD, qE, qF]
 refine wpAnyH_take (i := 9) (v := ?_) rfl (by kernel_rfl) (by kernel_rfl) (by kernel_rfl) (fun _ _ _ h => h) (Or.inl ⟨by rfl, ?_⟩) hHeld ?_
 rotate_left
 ·(intro wz _; go_simp; try with_reducible rfl)
 try simp only [qA, qB, qC, Act.put, qD, qE, qF]
 refine wpAnyH_take (i := 10) (v := ?_) rfl (by kernel_rfl) (by kernel_rfl) (by kernel_rfl) (fun _ _ _ h => h) (Or.inl ⟨by rfl, ?_⟩) hHeld ?_
 rotate_left
 ·(intro wz _; go_simp; try with_reducible rfl)
 try simp only [qA, qB, qC, Act.put, qD, qE, qF]
 refine wpAnyH_take (i := 11) (v := ?_) rfl (by kernel_rfl) (by kernel_rfl) (by kernel_rfl) (fun _ _ _ h => h) (Or.inl ⟨by rfl, ?_⟩) hHeld ?_
 rotate_left
 ·(intro wz _; go_simp; try with_reducible rfl)
 try simp only [qA, qB, qC, Act.put, qD, qE, qF]
 refine wpAnyH_take (i := 12) (v := _) rfl (by kernel_rfl) (by kernel_rfl) (by kernel_rfl) (fun _ _ _ h => h) (yields_load1 rfl 42 _ rfl rfl hfK f4 Tryz.underlying42 rfl) hHeld ?_
 try simp only [qA, qB, qC, Act.put, qD, qE, qF]
 refine wpAnyH_take (i := 13) (v := ?_) rfl (by kernel_rfl) (by kernel_rfl) (by kernel_rfl) (fun _ _ _ h => h) (Or.inl ⟨by rfl, ?_⟩) hHeld ?_
 rotate_left
 ·(intro wz _; go_simp; try with_reducible rfl)
 try simp only [qA, qB, qC, Act.put, qD, qE, qF]
 replace h := h.drew
 generalize w.drew = w1 at h hHeld ⊢
 clear w
 obtain ⟨w, rfl⟩ : ∃ q : World, q = w1 := ⟨_, rfl⟩
 refine wpAnyH_ready (rs := [3]) (by kernel_rfl) (by simp) ?_
 refine AllReadyH.cons rfl (fun K hK => ?_) AllReadyH.nil
 (go_simp; go_wp2_with (go_at_call 46; refine (ME.out _ h).mono ?_; clear h; rintro _ w ⟨rfl, h⟩))
 refine hK.out _ _ (h.le KL) (fun hHeld => ?_)
 clear hK K
 try simp only [Act.put, qD, qE, qF]
 refine wpAnyH_ready (rs := [7]) (by kernel_rfl) (by simp) ?_
 refine AllReadyH.cons rfl (fun K hK => ?_) AllReadyH.nil
 (go_simp; go_wp2_with (go_at_call 143; refine (ND1.out _ h).mono ?_; clear h; rintro _ w ⟨rfl, h⟩))
 refine hK.out _ _ (h.le KL) (fun hHeld => ?_)
 clear hK K
 try simp only [Act.put, qD, qE, qF]
 refine wpAnyH_ready (rs := [14]) (by kernel_rfl) (by simp) ?_
 refine AllReadyH.cons rfl (fun K hK => ?_) AllReadyH.nil
 (go_simp; go_wp2_with (go_at_call 89; refine (HH.out _).mono ?_; rintro _ w' ⟨rfl, rfl⟩))
 refine hK.out _ _ (h.le KL) (fun hHeld => ?_)
 clear hK K
 try simp only [Act.put, qD, qE, qF]
 refine wpAnyH_ready (rs := [15]) (by kernel_rfl) (by simp) ?_
 refine AllReadyH.cons rfl (fun K hK => ?_) AllReadyH.nil
 (go_simp; go_wp2_with (go_at_call 97; refine (SE.out _ h).mono ?_; clear h; rintro _ w ⟨rfl, h⟩))
 refine hK.out _ _ (h.le KE) (fun hHeld => ?_)
 clear hK K
 try simp only [Act.put, qD, qE, qF]
 refine wpAnyH_done (by kernel_rfl) ?_ _
 clear hHeld ME SE HH ND1 KL
 have hb4' := KE _ _ hbK2
 have DR := Lib.hid (fun (w : World) (h : Has σ M2 w) => DRQ.out K0 M2 w _ h HT2.out)
 clear KE hbK2 hfK hKD DRQ
 go_upto_region 5 with (first
  | (with_reducible show wpList _ _ _ ({ dst := _, op := Op.load 26 _, type := _, pos := _, after := _, guard := _ } :: _) _ _; refine wpList_load1_has h rfl 26 _ rfl rfl hb4' d0 Tryz.underlying26 rfl ?_)
  | (with_reducible show wpList _ _ _ ({ dst := _, op := Op.load 3 _, type := _, pos := _, after := _, guard := _ } :: _) _ _; refine wpList_load1_has h rfl 3 _ rfl rfl hb4' d1 Tryz.underlying3 rfl ?_)
  | ((go_at_call 147; refine (DR.out _ h).mono ?_; clear h; rintro _ w ⟨rfl, M3, lab3, gv, h, hB3, hM3, hK3⟩)))
 have hT3 := HT2.out.keep hK3 (fun k hk e => by have h1 := hk.1; rcases e with e | e | e <;> omega) hM3 hB3 rfl rfl
 obtain ⟨hfb3, hT4⟩ := hT3.frame (f.goto 7)
 rw [hr0] at hfb3
 have HT4 := Lib.hid (hT4.less HKK.out)
 have PL := Lib.hid (fun (w : World) (h : Has σ (M3.upd b (.cells (f.goto 7).row 69)) w) => mPlan_eq h hT4.mach)
 have CF := Lib.hid (fun (w : World) (h : Has σ (M3.upd b (.cells (f.goto 7).row 69)) w) => CFQ.out _ w h _ hT4.mach.plan)
 have BK0 := Lib.hid (fun (w : World) (h : Has σ (M3.upd b (.cells (f.goto 7).row 69)) w) => back0_eq h hT4 HFS.out)
 have KP := Mm.upd_le2 hT4.base.le hT4.obj
 have hb5 := hT4.base.le _ _ HBK.out
 have hbK5 : (K0.upd b (.cells (f.goto 7).row 69)) b4 = some (.cells rc 193) := (Mm.upd_ne HNE.out).trans HBK.out
 have hfK5 : (K0.upd b (.cells (f.goto 7).row 69)) b = some (.cells (f.goto 7).row 69) := Mm.upd_same _ _ _
 clear hT3 hT4 hK3 hM3 hB3 hb4' HT2 DR CFQ hr0
 generalize (f.goto 7).row = fr1 at *
 go_upto_region 6 with (first
  | (with_reducible show wpList _ _ _ ({ dst := _, op := Op.store 3 _ _, type := _, pos := _, after := _, guard := _ } :: _) _ _; refine wpList_store1_has h rfl 3 _ _ rfl rfl rfl hfb3 hsz rfl (by kernel_rfl) ?_; clear h; intro w h))
 have h9 : Has σ (M3.upd b (.cells (fr0.setIfInBounds 1 (.int .i64 7)) 69)) w := h
 rw [R1.out] at h9
 clear h hfb3 hsz R1
 have h := h9
 clear h9
 generalize M3.upd b (.cells fr1 69) = M4 at *
 generalize K0.upd b (.cells fr1 69) = K5 at *
 refine wp_region_held_drew (S := Has σ (K5)) (by kernel_rfl) (h.drew.le KP) (fun hHeld => ?_)
 refine wpAnyH_take (i := 0) (v := ?_) rfl (by kernel_rfl) (by kernel_rfl) (by kernel_rfl) (fun _ _ _ h => h) (Or.inl ⟨by rfl, ?_⟩) hHeld ?_
 rotate_left
 ·(intro wz _; go_simp; try with_reducible rfl)
 try simp only [qA, qB, qC, Act.put, qD, qE, qF]
 refine wpAnyH_take (i := 1) (v := ?_) rfl (by kernel_rfl) (by kernel_rfl) (by kernel_rfl) (fun _ _ _ h => h) (Or.inl ⟨by rfl, ?_⟩) hHeld ?_
 rotate_left
 ·(intro wz _; go_simp; try with_reducible rfl)
 try simp only [qA, qB, qC, Act.put, qD, qE, qF]
 refine wpAnyH_take (i := 2) (v := ?_) rfl (by kernel_rfl) (by kernel_rfl) (by kernel_rfl) (fun _ _ _ h => h) (Or.inl ⟨by rfl, ?_⟩) hHeld ?_
 rotate_left
 ·(intro wz _; go_simp; try with_reducible rfl)
 try simp only [qA, qB, qC, Act.put, qD, qE, qF]
 refine wpAnyH_take (i := 3) (v := ?_) rfl (by kernel_rfl) (by kernel_rfl) (by kernel_rfl) (fun _ _ _ h => h) (Or.inl ⟨by rfl, ?_⟩) hHeld ?_
 rotate_left
 ·(intro wz _; go_simp; try with_reducible rfl)
 try simp only [qA, qB, qC, Act.put, qD, qE, qF]
 refine wpAnyH_take (i := 4) (v := _) rfl (by kernel_rfl) (by kernel_rfl) (by kernel_rfl) (fun _ _ _ h => h) (yields_load1 rfl 42 _ rfl rfl hfK5 g4 Tryz.underlying42 rfl) hHeld ?_
 try simp only [qA, qB, qC, Act.put, qD, qE, qF]
 refine wpAnyH_take (i := 5) (v := ?_) rfl (by kernel_rfl) (by kernel_rfl) (by kernel_rfl) (fun _ _ _ h => h) (Or.inl ⟨by rfl, ?_⟩) hHeld ?_
 rotate_left
 ·(intro wz _; go_simp; try with_reducible rfl)
 try simp only [qA, qB, qC, Act.put, qD, qE, qF]
 refine wpAnyH_take (i := 6) (v := ?_) rfl (by kernel_rfl) (by kernel_rfl) (by kernel_rfl) (fun _ _ _ h => h) (Or.inl ⟨by rfl, ?_⟩) hHeld ?_
 rotate_left
 ·(intro wz _; go_simp; try with_reducible rfl)
 try simp only [qA, qB, qC, Act.put, qD, qE, qF]
 refine wpAnyH_take (i := 7) (v := ?_) rfl (by kernel_rfl) (by kernel_rfl) (by kernel_rfl) (fun _ _ _ h => h) (Or.inl ⟨by rfl, ?_⟩) hHeld ?_
 rotate_left
 ·(intro wz _; go_simp; try with_reducible rfl)
 try simp only [qA, qB, qC, Act.put, qD, qE, qF]
 refine wpAnyH_take (i := 8) (v := _) rfl (by kernel_rfl) (by kernel_rfl) (by kernel_rfl) (fun _ _ _ h => h) (yields_load1 rfl 26 _ rfl rfl hbK5 d0 Tryz.underlying26 rfl) hHeld ?_
 try simp only [qA, qB, qC, Act.put, qD, qE, qF]
 replace h := h.drew
 generalize w.drew = w1 at h hHeld ⊢
 clear w
 obtain ⟨w, rfl⟩ : ∃ q : World, q = w1 := ⟨_, rfl⟩
 refine wpAnyH_ready (rs := [9]) (by kernel_rfl) (by simp) ?_
 refine AllReadyH.cons rfl (fun K hK => ?_) AllReadyH.nil
 (go_simp; go_wp2_with (go_at_call 57; refine (PL.out _ h).mono ?_; clear h; rintro _ w ⟨rfl, h⟩))
 refine hK.out _ _ (h.le KP) (fun hHeld => ?_)
 clear hK K
 try simp only [Act.put, qD, qE, qF]
 refine wpAnyH_ready (rs := [10]) (by kernel_rfl) (by simp) ?_
 refine AllReadyH.cons rfl (fun K hK => ?_) AllReadyH.nil
 (go_simp; go_wp2_with (go_at_call 58; refine (CF.out _ h).mono ?_; clear h; rintro _ w ⟨rfl, h⟩))
 refine hK.out _ _ (h.le KP) (fun hHeld => ?_)
 clear hK K
 try simp only [Act.put, qD, qE, qF]
 refine wpAnyH_take (i := 11) (v := ?_) rfl (by kernel_rfl) (by kernel_rfl) (by kernel_rfl) (fun _ _ _ h => h) (Or.inl ⟨by rfl, ?_⟩) hHeld ?_
 rotate_left
 ·(intro wz _; go_simp; try with_reducible rfl)
 try simp only [qA, qB, qC, Act.put, qD, qE, qF]
 refine wpAnyH_take (i := 12) (v := ?_) rfl (by kernel_rfl) (by kernel_rfl) (by kernel_rfl) (fun _ _ _ h => h) (Or.inl ⟨by rfl, ?_⟩) hHeld ?_
 rotate_left
 ·(intro wz _; go_simp; try with_reducible rfl)
 try simp only [qA, qB, qC, Act.put, qD, qE, qF]
 refine wpAnyH_done (by kernel_rfl) ?_ _
 clear hHeld PL CF hfd
 go_wp2_with (first
  | (with_reducible show wpList _ _ _ ({ dst := _, op := Op.load 38 _, type := _, pos := _, after := _, guard := _ } :: _) _ _; refine wpList_load1_has h rfl 38 _ rfl rfl hb5 d2 Tryz.underlying38 rfl ?_)
  | ((go_at_call 93; refine (BK0.out _ h).mono ?_; clear h; rintro _ w ⟨rfl, M5, lab5, h, hM5, hB5⟩)))
 go_end0
 exact ⟨rfl, M5, lab5, gv, h, hM5, fun c o hc => hB5 c o (HKK.out _ _ hc)⟩
end
end
section
open Go.RowKit
section
variable {σ w : World} {K M : Mm} {lab : Nat → Nat} {p t q b lv : Nat} {s : MachS} {fs : List FrameS} {f : FrameS}
set_option maxHeartbeats 4000000 in
set_option maxRecDepth 20000 in
theorem give_6on (h : Has σ M w) (hT : AtTop K M lab p s t q b fs f) (hat : f.at_ = 6) {sl g : Nat} (h0 : f.r 0 = (sl : Int)) (hsl : sl < 256) (hg : f.r 2 = (g : Int)) (hg32 : g < 4294967296) (hlv : levelOf s.c (t : Nat) = (lv : Nat)) (hlc : (lv : Int) < s.c 0) (hin : InK s.c 9 (sl : Nat) 0) (hb1 : s.mem.acc < 1000000000) (hb2 : s.mem.wr < 1000000000) (hst : StampE s.ward.gens s.ward.gclk) (hgg : 0 ≤ valE lv (sl : Nat) s.ward.gens ∧ valE lv (sl : Nat) s.ward.gens < 1000000000) (hsp : s.ward.slips < 1000000000) (hgn : s.given.length < 1000000) (hhas : s.ward.has lv (sl : Nat) = true) (hfs : fs.length < 1000000) (hgo : (g : Int) < s.c 12) :
  Calls Tryz.prog 133 #[.agg (runC p t q b)] w fun r w' => r = .returned (.tuple #[]) ∧ ∃ M' lab' gv, Has σ M' w' ∧ AtTop K M' lab' p ((s.idled lv sl g gv).top t fs (f.goto 7)) t q b fs (f.goto 7) := by
 have ID := Lib.hid (fun (K' M' : Mm) (w : World) (lab' : Nat → Nat) (h : Has σ M' w) (hT' : AtTop K' M' lab' p s t q b fs f) => idle_on h hT' h0 hsl hg hg32 hlv hlc hin hb1 hb2 hst hgg hsp hgn hhas hfs hgo)
 clear hg hgo hst hgg hsp hgn hhas hlv hlc hin hb1 hb2 hg32 hfs
 have d0 : (runC p t q b)[0]? = some (.pointer (some ⟨p, 0, none⟩)) := rfl
 have d1 : (runC p t q b)[1]? = some (.int .i64 (t : Nat)) := rfl
 have d2 : (runC p t q b)[2]? = some (.pointer (some ⟨q, 0, none⟩)) := rfl
 have d3 : (runC p t q b)[3]? = some (.pointer (some ⟨b, 0, none⟩)) := rfl
 have dx : (runC p t q b).extract 0 (0 + 4) = runC p t q b := rfl
 have dz : (runC p t q b).size = 4 := rfl
 have f1 : f.row[1]? = some (.int .i64 6) := by rw [← hat]; rfl
 have f2 : f.row[2]? = some (.int .u64 (sl : Nat)) := by rw [← h0]; rfl
 have us : IntKind.i64.wrap ((sl : Nat) : Int) = ((sl : Nat) : Int) := IntWalk.i64_in _ (by omega)
 clear hat
 go_enter Tryz.func133, Tryz.ntmps133
 go_upto_region 1 with (fail)
 obtain ⟨M1, hbx, hle, hb4, hn⟩ := h.box (.cells (runC p t q b) 193)
 generalize w.alloc _ = wx at hbx ⊢
 generalize w.heap.size = b4 at hb4 hn ⊢
 clear h
 try clear w
 have h := hbx
 clear hbx
 obtain ⟨w, rfl⟩ : ∃ x : World, x = wx := ⟨_, rfl⟩
 obtain ⟨lab1, hT1⟩ := hT.more1 hle hn hb4
 have hnK : K b4 = none := by
  cases e : K b4 with
  | none => rfl
  | some o => have := (hT.base _ _ e).1; rw [hn] at this; cases this
 have hKK : K.le (K.upd b4 (.cells (runC p t q b) 193)) := Mm.le_upd' hnK _
 have hbK : (K.upd b4 (.cells (runC p t q b) 193)) b4 = some (.cells (runC p t q b) 193) := Mm.upd_same _ _ _
 have hfb := hT1.obj
 have ID1 := Lib.hid (fun (w : World) (h : Has σ M1 w) => ID.out _ M1 w _ h hT1)
 have HK := Lib.hid hKK
 clear hT hT1 hn hnK hKK h0 ID
 generalize runC p t q b = rc at *
 generalize f.row = fr0 at *
 go_wp2_with (first
  | (with_reducible show wpList _ _ _ ({ dst := _, op := Op.load 70 _, type := _, pos := _, after := _, guard := _ } :: _) _ _; refine wpList_load1_has h rfl 70 _ rfl rfl hb4 d3 Tryz.underlying70 rfl ?_)
  | (with_reducible show wpList _ _ _ ({ dst := _, op := Op.load 42 _, type := _, pos := _, after := _, guard := _ } :: _) _ _; refine wpList_load1_has h rfl 42 _ rfl rfl hfb f2 Tryz.underlying42 rfl ?_)
  | (with_reducible show wpList _ _ _ ({ dst := _, op := Op.load 3 _, type := _, pos := _, after := _, guard := _ } :: _) _ _; refine wpList_load1_has h rfl 3 _ rfl rfl hfb f1 Tryz.underlying3 rfl ?_)
  | ((with_reducible show wpList _ _ _ ({ dst := _, op := Op.load 193 _, type := _, pos := _, after := _, guard := _ } :: _) _ _); refine wpList_agg_has h rfl 193 _ rfl rfl hb4 dx dz Tryz.underlying193 rfl (by kernel_rfl) ?_; try simp only [Act.put, qD, qE, qF])
  | (go_at_call 145; refine (ID1.out _ h).mono ?_; clear h; rintro _ w ⟨rfl, M2, lab2, gv, h, hT2⟩))
 go_end0
 exact ⟨rfl, M2, lab2, gv, h, hT2.less HK.out⟩
set_option maxHeartbeats 4000000 in
set_option maxRecDepth 20000 in
theorem give_6end (h : Has σ M w) (hT : AtTop K M lab p s t q b fs f) (hat : f.at_ = 6) {sl g : Nat} (h0 : f.r 0 = (sl : Int)) (hsl : sl < 256) (hg : f.r 2 = (g : Int)) (hg32 : g < 4294967296) (hlv : levelOf s.c (t : Nat) = (lv : Nat)) (hlc : (lv : Int) < s.c 0) (hin : InK s.c 9 (sl : Nat) 0) (hb1 : s.mem.acc < 1000000000) (hb2 : s.mem.wr < 1000000000) (hst : StampE s.ward.gens s.ward.gclk) (hgg : 0 ≤ valE lv (sl : Nat) s.ward.gens ∧ valE lv (sl : Nat) s.ward.gens < 1000000000) (hsp : s.ward.slips < 1000000000) (hgn : s.given.length < 1000000) (hhas : s.ward.has lv (sl : Nat) = true) (hfs : fs.length < 1000000) (hgo : s.c 12 ≤ (g : Int)) :
  Calls Tryz.prog 133 #[.agg (runC p t q b)] w fun r w' => r = .returned (.tuple #[]) ∧ ∃ M' lab' gv, Has σ M' w' ∧ Mach M' lab' p (MachS.backed ((s.idled lv sl g gv).top t fs (f.goto 7)) t []) ∧ Base K M' lab' := by
 have ID := Lib.hid (fun (K' M' : Mm) (w : World) (lab' : Nat → Nat) (h : Has σ M' w) (hT' : AtTop K' M' lab' p s t q b fs f) => idle_end h hT' h0 hsl hg hg32 hlv hlc hin hb1 hb2 hst hgg hsp hgn hhas hfs hgo)
 clear hg hgo hst hgg hsp hgn hhas hlv hlc hin hb1 hb2 hg32 hfs
 have d0 : (runC p t q b)[0]? = some (.pointer (some ⟨p, 0, none⟩)) := rfl
 have d1 : (runC p t q b)[1]? = some (.int .i64 (t : Nat)) := rfl
 have d2 : (runC p t q b)[2]? = some (.pointer (some ⟨q, 0, none⟩)) := rfl
 have d3 : (runC p t q b)[3]? = some (.pointer (some ⟨b, 0, none⟩)) := rfl
 have dx : (runC p t q b).extract 0 (0 + 4) = runC p t q b := rfl
 have dz : (runC p t q b).size = 4 := rfl
 have f1 : f.row[1]? = some (.int .i64 6) := by rw [← hat]; rfl
 have f2 : f.row[2]? = some (.int .u64 (sl : Nat)) := by rw [← h0]; rfl
 have us : IntKind.i64.wrap ((sl : Nat) : Int) = ((sl : Nat) : Int) := IntWalk.i64_in _ (by omega)
 clear hat
 go_enter Tryz.func133, Tryz.ntmps133
 go_upto_region 1 with (fail)
 obtain ⟨M1, hbx, hle, hb4, hn⟩ := h.box (.cells (runC p t q b) 193)
 generalize w.alloc _ = wx at hbx ⊢
 generalize w.heap.size = b4 at hb4 hn ⊢
 clear h
 try clear w
 have h := hbx
 clear hbx
 obtain ⟨w, rfl⟩ : ∃ x : World, x = wx := ⟨_, rfl⟩
 obtain ⟨lab1, hT1⟩ := hT.more1 hle hn hb4
 have hnK : K b4 = none := by
  cases e : K b4 with
  | none => rfl
  | some o => have := (hT.base _ _ e).1; rw [hn] at this; cases this
 have hKK : K.le (K.upd b4 (.cells (runC p t q b) 193)) := Mm.le_upd' hnK _
 have hbK : (K.upd b4 (.cells (runC p t q b) 193)) b4 = some (.cells (runC p t q b) 193) := Mm.upd_same _ _ _
 have hfb := hT1.obj
 have ID1 := Lib.hid (fun (w : World) (h : Has σ M1 w) => ID.out _ M1 w _ h hT1)
 have HK := Lib.hid hKK
 clear hT hT1 hn hnK hKK h0 ID
 generalize runC p t q b = rc at *
 generalize f.row = fr0 at *
 go_wp2_with (first
  | (with_reducible show wpList _ _ _ ({ dst := _, op := Op.load 70 _, type := _, pos := _, after := _, guard := _ } :: _) _ _; refine wpList_load1_has h rfl 70 _ rfl rfl hb4 d3 Tryz.underlying70 rfl ?_)
  | (with_reducible show wpList _ _ _ ({ dst := _, op := Op.load 42 _, type := _, pos := _, after := _, guard := _ } :: _) _ _; refine wpList_load1_has h rfl 42 _ rfl rfl hfb f2 Tryz.underlying42 rfl ?_)
  | (with_reducible show wpList _ _ _ ({ dst := _, op := Op.load 3 _, type := _, pos := _, after := _, guard := _ } :: _) _ _; refine wpList_load1_has h rfl 3 _ rfl rfl hfb f1 Tryz.underlying3 rfl ?_)
  | ((with_reducible show wpList _ _ _ ({ dst := _, op := Op.load 193 _, type := _, pos := _, after := _, guard := _ } :: _) _ _); refine wpList_agg_has h rfl 193 _ rfl rfl hb4 dx dz Tryz.underlying193 rfl (by kernel_rfl) ?_; try simp only [Act.put, qD, qE, qF])
  | (go_at_call 145; refine (ID1.out _ h).mono ?_; clear h; rintro _ w ⟨rfl, M2, lab2, gv, h, hM2, hB2⟩))
 go_end0
 exact ⟨rfl, M2, lab2, gv, h, hM2, fun c o hc => hB2 c o (HK.out _ _ hc)⟩
set_option maxHeartbeats 2000000 in
set_option maxRecDepth 20000 in
theorem do_takeR (h : Has σ M w) (hT : AtTop K M lab p s t q b fs f) (hfn : f.fn = 1) (hfs : fs.length < 1000000) {R : MachS → Prop}
  (hstep : ∀ (K1 M1 : Mm) (lab1 : Nat → Nat) (w1 : World), Has σ M1 w1 → AtTop K1 M1 lab1 p s t q b fs f → Calls Tryz.prog 132 #[.agg (runC p t q b)] w1 fun r w' => r = .returned (.tuple #[]) ∧ ∃ M' lab' s', Has σ M' w' ∧ Mach M' lab' p s' ∧ Base K1 M' lab' ∧ R s') :
  Calls Tryz.prog 105 #[.pointer (some ⟨p, 0, none⟩), .int .i64 (t : Nat)] w fun r w' => r = .returned (.tuple #[]) ∧ ∃ M' lab' s', Has σ M' w' ∧ Base K M' lab' ∧ Mach M' lab' p s' ∧ R s' := by
 obtain ⟨fv, hv, fbs, hTh⟩ := hT.thr
 have hlen : fbs.length = fs.length := by
  have h1 := hTh.flen
  rw [hT.fr] at h1
  simpa using h1
 have TH := Lib.hid (fun (w : World) (h : Has σ M w) => mThread_yes h hT.mach hT.tp)
 have TP := Lib.hid (fun (w : World) (h : Has σ M w) => thrTop_eq h hTh (by omega))
 have hfb := hT.obj
 have f0 : f.row[0]? = some (.int .i64 f.fn) := rfl
 have HT := Lib.hid hT
 have HS := Lib.hid hstep
 rw [hfn] at f0
 clear hT hTh hlen hfs hfn hstep
 generalize f.row = fr0 at *
 go_enter Tryz.func105, Tryz.ntmps105
 go_upto_region 3 with (first
  | (go_at_call 13; refine (TH.out _ h).mono ?_; clear h; rintro _ w ⟨rfl, h⟩)
  | (go_at_call 32; refine (TP.out _ h).mono ?_; clear h; rintro _ w ⟨rfl, h⟩)
  | ((with_reducible show wpList _ _ _ ({ dst := _, op := Op.alloc 190, type := _, pos := _, after := _, guard := _ } :: _) _ _); refine wpList_alloc_has h rfl 190 rfl _ zrun ?_; clear h; intro bx w h hnx; try simp only [Act.put, qD, qE, qF])
  | ((with_reducible show wpList _ _ _ ({ dst := _, op := Op.store 190 _ _, type := _, pos := _, after := _, guard := _ } :: _) _ _); refine wpList_storeAll_has (cells := runC p t q b) h rfl 190 _ _ rfl rfl rfl (Mm.upd_same _ _ _) rfl rfl rfl (by kernel_rfl) rfl ?_; clear h; intro w h))
 rw [Mm.upd_upd] at h
 have hfb1 := Mm.upd_of (o := .cells (runC p t q b) 190) hnx hfb
 have hle := Mm.le_upd' hnx (.cells (runC p t q b) 190)
 have hbx := Mm.upd_same M bx (.cells (runC p t q b) 190)
 generalize M.upd bx _ = M1 at h hfb1 hle hbx
 obtain ⟨lab1, hT1⟩ := HT.out.more1 hle hnx hbx
 have hnK : K bx = none := by
  cases e : K bx with
  | none => rfl
  | some o => have := (HT.out.base _ _ e).1; rw [hnx] at this; cases this
 have HKK := Lib.hid (Mm.le_upd' hnK (.cells (runC p t q b) 190))
 have ST := Lib.hid (fun (w : World) (h : Has σ M1 w) => HS.out _ M1 lab1 w h hT1)
 clear hT1 hnK hnx hle TH TP
 unfold runC at ST hbx
 have dx : (#[.pointer (some ⟨p, 0, none⟩), .int .i64 (t : Nat), .pointer (some ⟨q, 0, none⟩), .pointer (some ⟨b, 0, none⟩)] : Array Value).extract 0 (0 + 4) = #[.pointer (some ⟨p, 0, none⟩), .int .i64 (t : Nat), .pointer (some ⟨q, 0, none⟩), .pointer (some ⟨b, 0, none⟩)] := rfl
 go_wp2_with (first
  | (with_reducible show wpList _ _ _ ({ dst := _, op := Op.load 3 _, type := _, pos := _, after := _, guard := _ } :: _) _ _; refine wpList_load1_has h rfl 3 _ rfl rfl hfb1 f0 Tryz.underlying3 rfl ?_)
  | ((with_reducible show wpList _ _ _ ({ dst := _, op := Op.load 190 _, type := _, pos := _, after := _, guard := _ } :: _) _ _); refine wpList_agg_has h rfl 190 _ rfl rfl hbx dx rfl Tryz.underlying190 rfl (by kernel_rfl) ?_; try simp only [Act.put, qD, qE, qF])
  | (go_at_call 132; refine (ST.out _ h).mono ?_; clear h; rintro _ w ⟨rfl, M2, lab2, s2, h, hM2, hB2, hR2⟩))
 go_end0
 exact ⟨rfl, M2, lab2, s2, h, fun c o hc => hB2 c o (HKK.out _ _ hc), hM2, hR2⟩
set_option maxHeartbeats 2000000 in
set_option maxRecDepth 20000 in
theorem do_giveR (h : Has σ M w) (hT : AtTop K M lab p s t q b fs f) (hfn : f.fn = 2) (hfs : fs.length < 1000000) {R : MachS → Prop}
  (hstep : ∀ (K1 M1 : Mm) (lab1 : Nat → Nat) (w1 : World), Has σ M1 w1 → AtTop K1 M1 lab1 p s t q b fs f → Calls Tryz.prog 133 #[.agg (runC p t q b)] w1 fun r w' => r = .returned (.tuple #[]) ∧ ∃ M' lab' s', Has σ M' w' ∧ Mach M' lab' p s' ∧ Base K1 M' lab' ∧ R s') :
  Calls Tryz.prog 105 #[.pointer (some ⟨p, 0, none⟩), .int .i64 (t : Nat)] w fun r w' => r = .returned (.tuple #[]) ∧ ∃ M' lab' s', Has σ M' w' ∧ Base K M' lab' ∧ Mach M' lab' p s' ∧ R s' := by
 obtain ⟨fv, hv, fbs, hTh⟩ := hT.thr
 have hlen : fbs.length = fs.length := by
  have h1 := hTh.flen
  rw [hT.fr] at h1
  simpa using h1
 have TH := Lib.hid (fun (w : World) (h : Has σ M w) => mThread_yes h hT.mach hT.tp)
 have TP := Lib.hid (fun (w : World) (h : Has σ M w) => thrTop_eq h hTh (by omega))
 have hfb := hT.obj
 have f0 : f.row[0]? = some (.int .i64 f.fn) := rfl
 have HT := Lib.hid hT
 have HS := Lib.hid hstep
 rw [hfn] at f0
 clear hT hTh hlen hfs hfn hstep
 generalize f.row = fr0 at *
 go_enter Tryz.func105, Tryz.ntmps105
 go_upto_region 3 with (first
  | (go_at_call 13; refine (TH.out _ h).mono ?_; clear h; rintro _ w ⟨rfl, h⟩)
  | (go_at_call 32; refine (TP.out _ h).mono ?_; clear h; rintro _ w ⟨rfl, h⟩)
  | ((with_reducible show wpList _ _ _ ({ dst := _, op := Op.alloc 190, type := _, pos := _, after := _, guard := _ } :: _) _ _); refine wpList_alloc_has h rfl 190 rfl _ zrun ?_; clear h; intro bx w h hnx; try simp only [Act.put, qD, qE, qF])
  | ((with_reducible show wpList _ _ _ ({ dst := _, op := Op.store 190 _ _, type := _, pos := _, after := _, guard := _ } :: _) _ _); refine wpList_storeAll_has (cells := runC p t q b) h rfl 190 _ _ rfl rfl rfl (Mm.upd_same _ _ _) rfl rfl rfl (by kernel_rfl) rfl ?_; clear h; intro w h))
 rw [Mm.upd_upd] at h
 have hfb1 := Mm.upd_of (o := .cells (runC p t q b) 190) hnx hfb
 have hle := Mm.le_upd' hnx (.cells (runC p t q b) 190)
 have hbx := Mm.upd_same M bx (.cells (runC p t q b) 190)
 generalize M.upd bx _ = M1 at h hfb1 hle hbx
 obtain ⟨lab1, hT1⟩ := HT.out.more1 hle hnx hbx
 have hnK : K bx = none := by
  cases e : K bx with
  | none => rfl
  | some o => have := (HT.out.base _ _ e).1; rw [hnx] at this; cases this
 have HKK := Lib.hid (Mm.le_upd' hnK (.cells (runC p t q b) 190))
 have ST := Lib.hid (fun (w : World) (h : Has σ M1 w) => HS.out _ M1 lab1 w h hT1)
 clear hT1 hnK hnx hle TH TP
 unfold runC at ST hbx
 have dx : (#[.pointer (some ⟨p, 0, none⟩), .int .i64 (t : Nat), .pointer (some ⟨q, 0, none⟩), .pointer (some ⟨b, 0, none⟩)] : Array Value).extract 0 (0 + 4) = #[.pointer (some ⟨p, 0, none⟩), .int .i64 (t : Nat), .pointer (some ⟨q, 0, none⟩), .pointer (some ⟨b, 0, none⟩)] := rfl
 go_wp2_with (first
  | (with_reducible show wpList _ _ _ ({ dst := _, op := Op.load 3 _, type := _, pos := _, after := _, guard := _ } :: _) _ _; refine wpList_load1_has h rfl 3 _ rfl rfl hfb1 f0 Tryz.underlying3 rfl ?_)
  | ((with_reducible show wpList _ _ _ ({ dst := _, op := Op.load 190 _, type := _, pos := _, after := _, guard := _ } :: _) _ _); refine wpList_agg_has h rfl 190 _ rfl rfl hbx dx rfl Tryz.underlying190 rfl (by kernel_rfl) ?_; try simp only [Act.put, qD, qE, qF])
  | (go_at_call 133; refine (ST.out _ h).mono ?_; clear h; rintro _ w ⟨rfl, M2, lab2, s2, h, hM2, hB2, hR2⟩))
 go_end0
 exact ⟨rfl, M2, lab2, s2, h, fun c o hc => hB2 c o (HKK.out _ _ hc), hM2, hR2⟩
end
end
section
open Go.RowKit
/-- A level: the top, links, heads, which slots are held. -/
structure LvG where
 top : Nat
 lk : Nat → Nat
 hd : Nat → Nat
 held : Nat → Bool
/-- A frame. -/
structure StF where
 fn : Nat
 pc : Nat
 r0 : Nat
 r1 : Nat
 r2 : Nat
structure StG where
 lv : Nat → LvG
 thr : Nat → Option StF
 t0 : Nat → Nat
 t1 : Nat → Nat
def slOf (x : Nat) : Nat := cutN x 0 8
def cnt (x : Nat) : Nat := cutN x 8 56
def genOf (x : Nat) : Nat := cutN x 2 32
def StG.go (g : StG) (t : Nat) (F : StF) : StG := { g with thr := put1 g.thr t (some F) }
def StG.back (g : StG) (t a b : Nat) : StG := { g with thr := put1 g.thr t none, t0 := put1 g.t0 t a, t1 := put1 g.t1 t b }
def StG.lev (g : StG) (l : Nat) (L : LvG) : StG := { g with lv := put1 g.lv l L }
def StG.take (g : StG) (t l : Nat) (F : StF) : StG :=
 if F.pc = 0 then g.go t { F with r1 := (g.lv l).top, pc := 1 }
 else if F.pc = 1 then (if slOf F.r1 = 0 then g.back t 0 0 else g.go t { F with r2 := (g.lv l).lk (slOf F.r1), pc := 2 })
 else if F.pc = 2 then (if (g.lv l).top = F.r1 then (g.lev l { g.lv l with top := mkTop F.r2 (cnt F.r1 + 1), held := put1 (g.lv l).held (slOf F.r1) true }).go t { F with pc := 3 } else g.go t { F with pc := 0 })
 else g.back t (slOf F.r1) (genOf ((g.lv l).hd (slOf F.r1)))
def StG.give (gens : Nat) (g : StG) (t l : Nat) (F : StF) : StG :=
 if F.pc = 0 then g.go t { F with r2 := genOf ((g.lv l).hd F.r0) + 1, pc := 1 }
 else if F.pc = 1 then (g.lev l { g.lv l with hd := put1 (g.lv l).hd F.r0 (mkHead (F.r2 - 1) 3) }).go t { F with pc := 2 }
 else if F.pc = 2 then g.go t { F with pc := 3 }
 else if F.pc = 3 then g.go t { F with pc := 4 }
 else if F.pc = 4 then g.go t { F with pc := 5 }
 else if F.pc = 5 then g.go t { F with pc := 6 }
 else if F.pc = 6 then (if F.r2 < gens then (g.lev l { g.lv l with hd := put1 (g.lv l).hd F.r0 (mkHead F.r2 0), held := put1 (g.lv l).held F.r0 false }).go t { F with pc := 7 } else (g.lev l { g.lv l with hd := put1 (g.lv l).hd F.r0 (mkHead F.r2 0), held := put1 (g.lv l).held F.r0 false }).back t 0 0)
 else if F.pc = 7 then g.go t { F with r1 := (g.lv l).top, pc := 8 }
 else if F.pc = 8 then (g.lev l { g.lv l with lk := put1 (g.lv l).lk F.r0 (slOf F.r1) }).go t { F with pc := 9 }
 else (if (g.lv l).top = F.r1 then (g.lev l { g.lv l with top := mkTop F.r0 (cnt F.r1 + 1) }).back t 0 0 else g.go t { F with pc := 7 })
def StG.next (gens : Nat) (g : StG) (t l : Nat) (F : StF) : StG := if F.fn = 1 then g.take t l F else g.give gens t l F
end
section
open Go.RowKit
/-- Where words are: of links, of nodes. -/
def oLk (B i : Nat) : Nat := 18 + B + (i - 1)
def oNd (B S i j : Nat) : Nat := 18 + B + S + (i - 1) * 5 + j
theorem off_free (c : Nat → Int) : offK c 0 0 0 = 0 := by unfold offK firsts numK baseK; simp
theorem off_link {c : Nat → Int} {B i : Nat} (hB : c 11 = (B : Nat)) (h1 : 1 ≤ i) : offK c 8 (i : Nat) 0 = oLk B i := by unfold offK oLk firsts numK baseK; simp; omega
theorem off_node {c : Nat → Int} {B S i j : Nat} (hB : c 11 = (B : Nat)) (hS : c 10 = (S : Nat)) (h1 : 1 ≤ i) : offK c 9 (i : Nat) (j : Nat) = oNd B S i j := by unfold offK oNd firsts numK; simp; omega
theorem inK_link' {c : Nat → Int} {i : Nat} (h1 : 1 ≤ i) (h2 : (i : Int) ≤ c 10) : InK c 8 (i : Nat) 0 := ⟨by omega, by unfold baseK; simp; omega, by omega, by omega, fun _ => rfl, by unfold numK many baseK; simp; omega⟩
theorem inK_node' {c : Nat → Int} {i j : Nat} (h1 : 1 ≤ i) (h2 : (i : Int) ≤ c 10) (hj : j < 5) : InK c 9 (i : Nat) (j : Nat) := ⟨by omega, by unfold baseK; simp; omega, by omega, by omega, fun h => absurd rfl h, by unfold numK many; simp; omega⟩
theorem does_t0 {σ : World} {p t q l n B S : Nat} {c : Nat → Int} {tp : List Nat} {g : GM} {fs : List Fr} {F : Fr} (hn : n < 100000) (ht : (t : Int) < c 1) (hq : tp[t]? = some q) (hl : levelOf c t = (l : Nat)) (hlc : (l : Int) < c 0) (hthr : g.thr t = fs ++ [F]) (hfs : fs.length < 100000) (hB' : c 11 = (B : Nat)) (hS' : c 10 = (S : Nat)) (h1 : F.fn = 1) (hp : F.pc = 0) (hr : F.r 1 < 18446744073709551616) : DoesTo 105 σ p t c tp n l g (g.top t fs ((F.reg 1 (g.w l 0)).goto 1)) := by
 intro K s M lab w h hM hB hA
 obtain ⟨b, hT⟩ := hA.atTop hM hB ht hq hthr
 obtain rfl := hA.cc
 have hmay := hA.may
 have b1 : (s.tick l).mem.acc < 1000000000 := by show s.mem.acc < _; have := hA.acc; omega
 have b2 : (s.tick l).mem.wr < 1000000000 := by show s.mem.wr < _; have := hA.wr; omega
 have hl' : levelOf (s.tick l).c (t : Nat) = (l : Nat) := hl
 have hlc' : (l : Int) < (s.tick l).c 0 := hlc
 have hfs' : (fs.map Fr.enc).length < 1000000 := by rw [List.length_map]; omega
 have gl : s.given.length ≤ n + 1 := Nat.le_succ_of_le hA.given
 have bk : (s.thr t).frames.dropLast = fs.map Fr.enc ∧ (s.thr t).st = (s.thr t).st ∧ (s.thr t).ki = (s.thr t).ki := ⟨by rw [hA.thr.fr t ht, hthr]; simp, rfl, rfl⟩
 have S256 := hmay.2.2.2.2.1
 have hk := inK_free s.c
 have hit := atK_hit hmay hA.memN hlc hk
 have hv : s.mem.load (atK s.c (l : Nat) 0 0 0) = (g.w l 0 : Int) := load_at' hit (by rw [hA.words.at hmay hlc hk, off_free])
 have hf0 : s.mem.f (atK s.c (l : Nat) 0 0 0).toNat = (g.w l 0 : Int) := by rw [hA.words.at hmay hlc hk, off_free]
 refine (do_takeR h hT (by show (F.fn : Int) = 1; omega) hfs' (R := fun s' => Did s.c n l s s' (g.top t fs ((F.reg 1 (g.w l 0)).goto 1))) fun K1 M1 lab1 w1 h1' hT1 => ?_).mono fun r w' ⟨e, M', lab', s', a1, a2, a3, a4⟩ => ⟨e, M', lab', s', a1, a3, a2, a4⟩
 refine (take_0 h1' hT1 (by show (F.pc : Int) = 0; omega) (x := F.r 1) rfl hr (spotAt_of hT1.mach hl' hlc' hk) b1).mono (fun r w' ⟨e, M', lab', h', hT'⟩ => ⟨e, M', lab', _, h', hT'.mach, hT'.base, ?_⟩)
 refine Did.one hA hk (Nat.zero_le _) ⟨rfl, rfl, rfl, rfl, rfl⟩ (at_to' hit) hA.words (hA.ward.mono (Nat.le_succ _)) ?_ gl
 have := hA.thr.top (t := t) (fs := fs) (F := (F.reg 1 (g.w l 0)).goto 1)
 rw [← fr_goto, ← fr_reg, ← hv] at this
 exact this
theorem does_t1a {σ : World} {p t q l n B S : Nat} {c : Nat → Int} {tp : List Nat} {g : GM} {fs : List Fr} {F : Fr} (hn : n < 100000) (ht : (t : Int) < c 1) (hq : tp[t]? = some q) (hl : levelOf c t = (l : Nat)) (hlc : (l : Int) < c 0) (hthr : g.thr t = fs ++ [F]) (hfs : fs.length < 100000) (hB' : c 11 = (B : Nat)) (hS' : c 10 = (S : Nat)) (h1 : F.fn = 1) (hp : F.pc = 1) (hr : F.r 1 < 18446744073709551616) (hs : slOf (F.r 1) = 0) : DoesTo 105 σ p t c tp n l g (g.back t fs [0, 0]) := by
 intro K s M lab w h hM hB hA
 obtain ⟨b, hT⟩ := hA.atTop hM hB ht hq hthr
 obtain rfl := hA.cc
 have hmay := hA.may
 have b1 : (s.tick l).mem.acc < 1000000000 := by show s.mem.acc < _; have := hA.acc; omega
 have b2 : (s.tick l).mem.wr < 1000000000 := by show s.mem.wr < _; have := hA.wr; omega
 have hl' : levelOf (s.tick l).c (t : Nat) = (l : Nat) := hl
 have hlc' : (l : Int) < (s.tick l).c 0 := hlc
 have hfs' : (fs.map Fr.enc).length < 1000000 := by rw [List.length_map]; omega
 have gl : s.given.length ≤ n + 1 := Nat.le_succ_of_le hA.given
 have bk : (s.thr t).frames.dropLast = fs.map Fr.enc ∧ (s.thr t).st = (s.thr t).st ∧ (s.thr t).ki = (s.thr t).ki := ⟨by rw [hA.thr.fr t ht, hthr]; simp, rfl, rfl⟩
 have S256 := hmay.2.2.2.2.1
 refine (do_takeR h hT (by show (F.fn : Int) = 1; omega) hfs' (R := fun s' => Did s.c n l s s' (g.back t fs [0, 0])) fun K1 M1 lab1 w1 h1' hT1 => ?_).mono fun r w' ⟨e, M', lab', s', a1, a2, a3, a4⟩ => ⟨e, M', lab', s', a1, a3, a2, a4⟩
 refine (take_1end h1' hT1 (by show (F.pc : Int) = 1; omega) (x := F.r 1) rfl hr hs hfs').mono (fun r w' ⟨e, M', lab', h', hM', hB'⟩ => ⟨e, M', lab', _, h', hM', hB', ?_⟩)
 exact Did.none hA ⟨rfl, rfl, rfl, rfl, rfl⟩ rfl hA.words (hA.ward.mono (Nat.le_succ _)) (hA.thr.back (t := t) (fs := fs) (us := [0, 0]) (x := s.thr t) bk) gl
theorem does_t1b {σ : World} {p t q l n B S : Nat} {c : Nat → Int} {tp : List Nat} {g : GM} {fs : List Fr} {F : Fr} (hn : n < 100000) (ht : (t : Int) < c 1) (hq : tp[t]? = some q) (hl : levelOf c t = (l : Nat)) (hlc : (l : Int) < c 0) (hthr : g.thr t = fs ++ [F]) (hfs : fs.length < 100000) (hB' : c 11 = (B : Nat)) (hS' : c 10 = (S : Nat)) (h1 : F.fn = 1) (hp : F.pc = 1) (hr : F.r 1 < 18446744073709551616) (hs : slOf (F.r 1) ≠ 0) (hs2 : slOf (F.r 1) ≤ S) : DoesTo 105 σ p t c tp n l g (g.top t fs ((F.reg 2 (g.w l (oLk B (slOf (F.r 1))))).goto 2)) := by
 intro K s M lab w h hM hB hA
 obtain ⟨b, hT⟩ := hA.atTop hM hB ht hq hthr
 obtain rfl := hA.cc
 have hmay := hA.may
 have b1 : (s.tick l).mem.acc < 1000000000 := by show s.mem.acc < _; have := hA.acc; omega
 have b2 : (s.tick l).mem.wr < 1000000000 := by show s.mem.wr < _; have := hA.wr; omega
 have hl' : levelOf (s.tick l).c (t : Nat) = (l : Nat) := hl
 have hlc' : (l : Int) < (s.tick l).c 0 := hlc
 have hfs' : (fs.map Fr.enc).length < 1000000 := by rw [List.length_map]; omega
 have gl : s.given.length ≤ n + 1 := Nat.le_succ_of_le hA.given
 have bk : (s.thr t).frames.dropLast = fs.map Fr.enc ∧ (s.thr t).st = (s.thr t).st ∧ (s.thr t).ki = (s.thr t).ki := ⟨by rw [hA.thr.fr t ht, hthr]; simp, rfl, rfl⟩
 have S256 := hmay.2.2.2.2.1
 have hk := inK_link' (c := s.c) (i := slOf (F.r 1)) (by omega) (by omega)
 have hit := atK_hit hmay hA.memN hlc hk
 have hv : s.mem.load (atK s.c (l : Nat) 8 (slOf (F.r 1) : Nat) 0) = (g.w l (oLk B (slOf (F.r 1))) : Int) := load_at' hit (by rw [hA.words.at hmay hlc hk, off_link hB' (by omega)])
 refine (do_takeR h hT (by show (F.fn : Int) = 1; omega) hfs' (R := fun s' => Did s.c n l s s' (g.top t fs ((F.reg 2 (g.w l (oLk B (slOf (F.r 1))))).goto 2))) fun K1 M1 lab1 w1 h1' hT1 => ?_).mono fun r w' ⟨e, M', lab', s', a1, a2, a3, a4⟩ => ⟨e, M', lab', s', a1, a3, a2, a4⟩
 refine (take_1 h1' hT1 (by show (F.pc : Int) = 1; omega) (x := F.r 1) rfl hr hs (spotAt_of hT1.mach hl' hlc' hk) b1).mono (fun r w' ⟨e, M', lab', h', hT'⟩ => ⟨e, M', lab', _, h', hT'.mach, hT'.base, ?_⟩)
 refine Did.one hA hk (Nat.zero_le _) ⟨rfl, rfl, rfl, rfl, rfl⟩ (at_to' hit) hA.words (hA.ward.mono (Nat.le_succ _)) ?_ gl
 have := hA.thr.top (t := t) (fs := fs) (F := (F.reg 2 (g.w l (oLk B (slOf (F.r 1))))).goto 2)
 rw [← fr_goto, ← fr_reg, ← hv] at this
 exact this
theorem does_t2a {σ : World} {p t q l n B S : Nat} {c : Nat → Int} {tp : List Nat} {g : GM} {fs : List Fr} {F : Fr} (hn : n < 100000) (ht : (t : Int) < c 1) (hq : tp[t]? = some q) (hl : levelOf c t = (l : Nat)) (hlc : (l : Int) < c 0) (hthr : g.thr t = fs ++ [F]) (hfs : fs.length < 100000) (hB' : c 11 = (B : Nat)) (hS' : c 10 = (S : Nat)) (h1 : F.fn = 1) (hp : F.pc = 2) (hr : F.r 1 < 18446744073709551616) (hs0 : slOf (F.r 1) ≠ 0) (hs2 : slOf (F.r 1) ≤ S) (hy : F.r 2 < 9223372036854775808) (hs : g.w l 0 = F.r 1) (hh : g.held l (slOf (F.r 1)) = false) : DoesTo 105 σ p t c tp n l g (((g.set l 0 (mkTop (F.r 2) (cnt (F.r 1) + 1))).hold l (slOf (F.r 1))).top t fs (F.goto 3)) := by
 intro K s M lab w h hM hB hA
 obtain ⟨b, hT⟩ := hA.atTop hM hB ht hq hthr
 obtain rfl := hA.cc
 have hmay := hA.may
 have b1 : (s.tick l).mem.acc < 1000000000 := by show s.mem.acc < _; have := hA.acc; omega
 have b2 : (s.tick l).mem.wr < 1000000000 := by show s.mem.wr < _; have := hA.wr; omega
 have hl' : levelOf (s.tick l).c (t : Nat) = (l : Nat) := hl
 have hlc' : (l : Int) < (s.tick l).c 0 := hlc
 have hfs' : (fs.map Fr.enc).length < 1000000 := by rw [List.length_map]; omega
 have gl : s.given.length ≤ n + 1 := Nat.le_succ_of_le hA.given
 have bk : (s.thr t).frames.dropLast = fs.map Fr.enc ∧ (s.thr t).st = (s.thr t).st ∧ (s.thr t).ki = (s.thr t).ki := ⟨by rw [hA.thr.fr t ht, hthr]; simp, rfl, rfl⟩
 have S256 := hmay.2.2.2.2.1
 have hk := inK_free s.c
 have hit := atK_hit hmay hA.memN hlc hk
 have hv : s.mem.load (atK s.c (l : Nat) 0 0 0) = (g.w l 0 : Int) := load_at' hit (by rw [hA.words.at hmay hlc hk, off_free])
 have hf0 : s.mem.f (atK s.c (l : Nat) 0 0 0).toNat = (g.w l 0 : Int) := by rw [hA.words.at hmay hlc hk, off_free]
 have hsw : (s.tick l).mem.swaps (atK (s.tick l).c (l : Nat) 0 0 0) (F.r 1 : Nat) = true := by show s.mem.swaps _ _ = true; unfold MemS.swaps; rw [show (s.tick l).c = s.c from rfl, hit, hf0, hs]; simp
 have hth : (s.tick l).ward.there (l : Nat) (cutN (F.r 1) 0 8 : Nat) = true := WardS.there_iff.2 ⟨by omega, by show (l : Int) < s.ward.lv; rw [hA.ward.lv]; exact hlc, by have : slOf (F.r 1) = cutN (F.r 1) 0 8 := rfl; omega, by show _ ≤ s.ward.sl; rw [hA.ward.sl, hS']; have : slOf (F.r 1) = cutN (F.r 1) 0 8 := rfl; omega⟩
 have hv0 : valE (l : Nat) (cutN (F.r 1) 0 8 : Nat) (s.tick l).ward.held = 0 := by
  show valE _ ((slOf (F.r 1) : Nat) : Int) s.ward.held = 0
  rw [hA.ward.held l _ hlc (by omega) (by omega), hh]; rfl
 refine (do_takeR h hT (by show (F.fn : Int) = 1; omega) hfs' (R := fun s' => Did s.c n l s s' (((g.set l 0 (mkTop (F.r 2) (cnt (F.r 1) + 1))).hold l (slOf (F.r 1))).top t fs (F.goto 3))) fun K1 M1 lab1 w1 h1' hT1 => ?_).mono fun r w' ⟨e, M', lab', s', a1, a2, a3, a4⟩ => ⟨e, M', lab', s', a1, a3, a2, a4⟩
 refine (take_2yes h1' hT1 (by show (F.pc : Int) = 2; omega) (x := F.r 1) (y := F.r 2) rfl hr rfl hy hl' hlc' b1 b2 hsw hth hv0).mono (fun r w' ⟨e, M', lab', h', hT'⟩ => ⟨e, M', lab', _, h', hT'.mach, hT'.base, ?_⟩)
 refine Did.one hA hk (Nat.le_refl _) ⟨rfl, rfl, rfl, rfl, rfl⟩ (cas_yes' hit hsw) ?_ ((hA.ward.take (i := slOf (F.r 1)) hlc (by omega) (by omega)).mono (Nat.le_succ _)) (((hA.thr.set l 0 _).hold l (slOf (F.r 1))).top (t := t) (fs := fs) (F := F.goto 3)) gl
 have := hA.words.set hmay (l := l) hk (mkTop (F.r 2) (cnt (F.r 1) + 1))
 rw [off_free] at this
 exact this
theorem does_t3 {σ : World} {p t q l n B S : Nat} {c : Nat → Int} {tp : List Nat} {g : GM} {fs : List Fr} {F : Fr} (hn : n < 100000) (ht : (t : Int) < c 1) (hq : tp[t]? = some q) (hl : levelOf c t = (l : Nat)) (hlc : (l : Int) < c 0) (hthr : g.thr t = fs ++ [F]) (hfs : fs.length < 100000) (hB' : c 11 = (B : Nat)) (hS' : c 10 = (S : Nat)) (h1 : F.fn = 1) (hp : F.pc = 3) (hr : F.r 1 < 18446744073709551616) (hs0 : slOf (F.r 1) ≠ 0) (hs2 : slOf (F.r 1) ≤ S) (hz : g.w l (oNd B S (slOf (F.r 1)) 0) < 18446744073709551616) : DoesTo 105 σ p t c tp n l g (g.back t fs [slOf (F.r 1), genOf (g.w l (oNd B S (slOf (F.r 1)) 0))]) := by
 intro K s M lab w h hM hB hA
 obtain ⟨b, hT⟩ := hA.atTop hM hB ht hq hthr
 obtain rfl := hA.cc
 have hmay := hA.may
 have b1 : (s.tick l).mem.acc < 1000000000 := by show s.mem.acc < _; have := hA.acc; omega
 have b2 : (s.tick l).mem.wr < 1000000000 := by show s.mem.wr < _; have := hA.wr; omega
 have hl' : levelOf (s.tick l).c (t : Nat) = (l : Nat) := hl
 have hlc' : (l : Int) < (s.tick l).c 0 := hlc
 have hfs' : (fs.map Fr.enc).length < 1000000 := by rw [List.length_map]; omega
 have gl : s.given.length ≤ n + 1 := Nat.le_succ_of_le hA.given
 have bk : (s.thr t).frames.dropLast = fs.map Fr.enc ∧ (s.thr t).st = (s.thr t).st ∧ (s.thr t).ki = (s.thr t).ki := ⟨by rw [hA.thr.fr t ht, hthr]; simp, rfl, rfl⟩
 have S256 := hmay.2.2.2.2.1
 have hk := inK_node' (c := s.c) (i := slOf (F.r 1)) (j := 0) (by omega) (by omega) (by omega)
 have hit := atK_hit hmay hA.memN hlc hk
 have hv : s.mem.load (atK s.c (l : Nat) 9 (slOf (F.r 1) : Nat) ((0 : Nat) : Int)) = (g.w l (oNd B S (slOf (F.r 1)) 0) : Int) := load_at' hit (by rw [hA.words.at hmay hlc hk, off_node hB' hS' (by omega)])
 refine (do_takeR h hT (by show (F.fn : Int) = 1; omega) hfs' (R := fun s' => Did s.c n l s s' (g.back t fs [slOf (F.r 1), genOf (g.w l (oNd B S (slOf (F.r 1)) 0))])) fun K1 M1 lab1 w1 h1' hT1 => ?_).mono fun r w' ⟨e, M', lab', s', a1, a2, a3, a4⟩ => ⟨e, M', lab', s', a1, a3, a2, a4⟩
 refine (take_3 h1' hT1 (by show (F.pc : Int) = 3; omega) (x := F.r 1) rfl hr hl' hlc' hk hv hz b1 hfs').mono (fun r w' ⟨e, M', lab', h', hM', hB'⟩ => ⟨e, M', lab', _, h', hM', hB', ?_⟩)
 exact Did.one hA hk (Nat.zero_le _) ⟨rfl, rfl, rfl, rfl, rfl⟩ (at_to' hit) hA.words (hA.ward.mono (Nat.le_succ _)) (hA.thr.back (t := t) (fs := fs) (us := [slOf (F.r 1), genOf (g.w l (oNd B S (slOf (F.r 1)) 0))]) (x := s.thr t) bk) gl
theorem does_g0 {σ : World} {p t q l n B S : Nat} {c : Nat → Int} {tp : List Nat} {g : GM} {fs : List Fr} {F : Fr} (hn : n < 100000) (ht : (t : Int) < c 1) (hq : tp[t]? = some q) (hl : levelOf c t = (l : Nat)) (hlc : (l : Int) < c 0) (hthr : g.thr t = fs ++ [F]) (hfs : fs.length < 100000) (hB' : c 11 = (B : Nat)) (hS' : c 10 = (S : Nat)) (h1 : F.fn = 2) (hp : F.pc = 0) (x1 : 1 ≤ F.r 0) (x2 : F.r 0 ≤ S) (hz : g.w l (oNd B S (F.r 0) 0) < 18446744073709551616) : DoesTo 105 σ p t c tp n l g (g.top t fs ((F.reg 2 (genOf (g.w l (oNd B S (F.r 0) 0)) + 1)).goto 1)) := by
 intro K s M lab w h hM hB hA
 obtain ⟨b, hT⟩ := hA.atTop hM hB ht hq hthr
 obtain rfl := hA.cc
 have hmay := hA.may
 have b1 : (s.tick l).mem.acc < 1000000000 := by show s.mem.acc < _; have := hA.acc; omega
 have b2 : (s.tick l).mem.wr < 1000000000 := by show s.mem.wr < _; have := hA.wr; omega
 have hl' : levelOf (s.tick l).c (t : Nat) = (l : Nat) := hl
 have hlc' : (l : Int) < (s.tick l).c 0 := hlc
 have hfs' : (fs.map Fr.enc).length < 1000000 := by rw [List.length_map]; omega
 have gl : s.given.length ≤ n + 1 := Nat.le_succ_of_le hA.given
 have bk : (s.thr t).frames.dropLast = fs.map Fr.enc ∧ (s.thr t).st = (s.thr t).st ∧ (s.thr t).ki = (s.thr t).ki := ⟨by rw [hA.thr.fr t ht, hthr]; simp, rfl, rfl⟩
 have S256 := hmay.2.2.2.2.1
 have hk := inK_node' (c := s.c) (i := F.r 0) (j := 0) (by omega) (by omega) (by omega)
 have hit := atK_hit hmay hA.memN hlc hk
 have hv : s.mem.load (atK s.c (l : Nat) 9 (F.r 0 : Nat) ((0 : Nat) : Int)) = (g.w l (oNd B S (F.r 0) 0) : Int) := load_at' hit (by rw [hA.words.at hmay hlc hk, off_node hB' hS' (by omega)])
 refine (do_giveR h hT (by show (F.fn : Int) = 2; omega) hfs' (R := fun s' => Did s.c n l s s' (g.top t fs ((F.reg 2 (genOf (g.w l (oNd B S (F.r 0) 0)) + 1)).goto 1))) fun K1 M1 lab1 w1 h1' hT1 => ?_).mono fun r w' ⟨e, M', lab', s', a1, a2, a3, a4⟩ => ⟨e, M', lab', s', a1, a3, a2, a4⟩
 refine (give_0 h1' hT1 (by show (F.pc : Int) = 0; omega) (sl := F.r 0) rfl (by omega) hl' hlc' hk hv hz b1).mono (fun r w' ⟨e, M', lab', h', hT'⟩ => ⟨e, M', lab', _, h', hT'.mach, hT'.base, ?_⟩)
 refine Did.one hA hk (Nat.zero_le _) ⟨rfl, rfl, rfl, rfl, rfl⟩ (at_to' hit) hA.words (hA.ward.mono (Nat.le_succ _)) ?_ gl
 have := hA.thr.top (t := t) (fs := fs) (F := (F.reg 2 (genOf (g.w l (oNd B S (F.r 0) 0)) + 1)).goto 1)
 rw [← fr_goto, ← fr_reg] at this
 exact this
theorem does_g1 {σ : World} {p t q l n B S : Nat} {c : Nat → Int} {tp : List Nat} {g : GM} {fs : List Fr} {F : Fr} (hn : n < 100000) (ht : (t : Int) < c 1) (hq : tp[t]? = some q) (hl : levelOf c t = (l : Nat)) (hlc : (l : Int) < c 0) (hthr : g.thr t = fs ++ [F]) (hfs : fs.length < 100000) (hB' : c 11 = (B : Nat)) (hS' : c 10 = (S : Nat)) (h1 : F.fn = 2) (hp : F.pc = 1) (x1 : 1 ≤ F.r 0) (x2 : F.r 0 ≤ S) (hg1 : 1 ≤ F.r 2) (hg2 : F.r 2 ≤ 4294967296) : DoesTo 105 σ p t c tp n l g ((g.set l (oNd B S (F.r 0) 0) (mkHead (F.r 2 - 1) 3)).top t fs (F.goto 2)) := by
 intro K s M lab w h hM hB hA
 obtain ⟨b, hT⟩ := hA.atTop hM hB ht hq hthr
 obtain rfl := hA.cc
 have hmay := hA.may
 have b1 : (s.tick l).mem.acc < 1000000000 := by show s.mem.acc < _; have := hA.acc; omega
 have b2 : (s.tick l).mem.wr < 1000000000 := by show s.mem.wr < _; have := hA.wr; omega
 have hl' : levelOf (s.tick l).c (t : Nat) = (l : Nat) := hl
 have hlc' : (l : Int) < (s.tick l).c 0 := hlc
 have hfs' : (fs.map Fr.enc).length < 1000000 := by rw [List.length_map]; omega
 have gl : s.given.length ≤ n + 1 := Nat.le_succ_of_le hA.given
 have bk : (s.thr t).frames.dropLast = fs.map Fr.enc ∧ (s.thr t).st = (s.thr t).st ∧ (s.thr t).ki = (s.thr t).ki := ⟨by rw [hA.thr.fr t ht, hthr]; simp, rfl, rfl⟩
 have S256 := hmay.2.2.2.2.1
 have hk := inK_node' (c := s.c) (i := F.r 0) (j := 0) (by omega) (by omega) (by omega)
 have hit := atK_hit hmay hA.memN hlc hk
 refine (do_giveR h hT (by show (F.fn : Int) = 2; omega) hfs' (R := fun s' => Did s.c n l s s' ((g.set l (oNd B S (F.r 0) 0) (mkHead (F.r 2 - 1) 3)).top t fs (F.goto 2))) fun K1 M1 lab1 w1 h1' hT1 => ?_).mono fun r w' ⟨e, M', lab', s', a1, a2, a3, a4⟩ => ⟨e, M', lab', s', a1, a3, a2, a4⟩
 refine (give_1 h1' hT1 (by show (F.pc : Int) = 1; omega) (sl := F.r 0) (g := F.r 2 - 1) rfl (by omega) (by show (F.r 2 : Int) = _; omega) (by omega) hl' hlc' hk b1 b2).mono (fun r w' ⟨e, M', lab', h', hT'⟩ => ⟨e, M', lab', _, h', hT'.mach, hT'.base, ?_⟩)
 refine Did.one hA hk (Nat.le_refl _) ⟨rfl, rfl, rfl, rfl, rfl⟩ (store_to' hit) ?_ (hA.ward.mono (Nat.le_succ _)) ((hA.thr.set l _ _).top (t := t) (fs := fs) (F := F.goto 2)) gl
 have := hA.words.set hmay (l := l) hk (mkHead (F.r 2 - 1) 3)
 rw [off_node hB' hS' (by omega)] at this
 exact this
theorem does_g2 {σ : World} {p t q l n B S : Nat} {c : Nat → Int} {tp : List Nat} {g : GM} {fs : List Fr} {F : Fr} (hn : n < 100000) (ht : (t : Int) < c 1) (hq : tp[t]? = some q) (hl : levelOf c t = (l : Nat)) (hlc : (l : Int) < c 0) (hthr : g.thr t = fs ++ [F]) (hfs : fs.length < 100000) (hB' : c 11 = (B : Nat)) (hS' : c 10 = (S : Nat)) (h1 : F.fn = 2) (hp : F.pc = 2) (x1 : 1 ≤ F.r 0) (x2 : F.r 0 ≤ S) : DoesTo 105 σ p t c tp n l g ((g.set l (oNd B S (F.r 0) 3) 0).top t fs (F.goto 3)) := by
 intro K s M lab w h hM hB hA
 obtain ⟨b, hT⟩ := hA.atTop hM hB ht hq hthr
 obtain rfl := hA.cc
 have hmay := hA.may
 have b1 : (s.tick l).mem.acc < 1000000000 := by show s.mem.acc < _; have := hA.acc; omega
 have b2 : (s.tick l).mem.wr < 1000000000 := by show s.mem.wr < _; have := hA.wr; omega
 have hl' : levelOf (s.tick l).c (t : Nat) = (l : Nat) := hl
 have hlc' : (l : Int) < (s.tick l).c 0 := hlc
 have hfs' : (fs.map Fr.enc).length < 1000000 := by rw [List.length_map]; omega
 have gl : s.given.length ≤ n + 1 := Nat.le_succ_of_le hA.given
 have bk : (s.thr t).frames.dropLast = fs.map Fr.enc ∧ (s.thr t).st = (s.thr t).st ∧ (s.thr t).ki = (s.thr t).ki := ⟨by rw [hA.thr.fr t ht, hthr]; simp, rfl, rfl⟩
 have S256 := hmay.2.2.2.2.1
 have hk := inK_node' (c := s.c) (i := F.r 0) (j := 3) (by omega) (by omega) (by omega)
 have hit := atK_hit hmay hA.memN hlc hk
 refine (do_giveR h hT (by show (F.fn : Int) = 2; omega) hfs' (R := fun s' => Did s.c n l s s' ((g.set l (oNd B S (F.r 0) 3) 0).top t fs (F.goto 3))) fun K1 M1 lab1 w1 h1' hT1 => ?_).mono fun r w' ⟨e, M', lab', s', a1, a2, a3, a4⟩ => ⟨e, M', lab', s', a1, a3, a2, a4⟩
 refine (give_2 h1' hT1 (by show (F.pc : Int) = 2; omega) (sl := F.r 0) rfl (by omega) hl' hlc' hk b1 b2).mono (fun r w' ⟨e, M', lab', h', hT'⟩ => ⟨e, M', lab', _, h', hT'.mach, hT'.base, ?_⟩)
 refine Did.one hA hk (Nat.le_refl _) ⟨rfl, rfl, rfl, rfl, rfl⟩ (store_to' hit) ?_ (hA.ward.mono (Nat.le_succ _)) ((hA.thr.set l _ _).top (t := t) (fs := fs) (F := F.goto 3)) gl
 have := hA.words.set hmay (l := l) hk 0
 rw [off_node hB' hS' (by omega)] at this
 exact this
theorem does_g3 {σ : World} {p t q l n B S : Nat} {c : Nat → Int} {tp : List Nat} {g : GM} {fs : List Fr} {F : Fr} (hn : n < 100000) (ht : (t : Int) < c 1) (hq : tp[t]? = some q) (hl : levelOf c t = (l : Nat)) (hlc : (l : Int) < c 0) (hthr : g.thr t = fs ++ [F]) (hfs : fs.length < 100000) (hB' : c 11 = (B : Nat)) (hS' : c 10 = (S : Nat)) (h1 : F.fn = 2) (hp : F.pc = 3) (x1 : 1 ≤ F.r 0) (x2 : F.r 0 ≤ S) : DoesTo 105 σ p t c tp n l g ((g.set l (oNd B S (F.r 0) 4) 0).top t fs (F.goto 4)) := by
 intro K s M lab w h hM hB hA
 obtain ⟨b, hT⟩ := hA.atTop hM hB ht hq hthr
 obtain rfl := hA.cc
 have hmay := hA.may
 have b1 : (s.tick l).mem.acc < 1000000000 := by show s.mem.acc < _; have := hA.acc; omega
 have b2 : (s.tick l).mem.wr < 1000000000 := by show s.mem.wr < _; have := hA.wr; omega
 have hl' : levelOf (s.tick l).c (t : Nat) = (l : Nat) := hl
 have hlc' : (l : Int) < (s.tick l).c 0 := hlc
 have hfs' : (fs.map Fr.enc).length < 1000000 := by rw [List.length_map]; omega
 have gl : s.given.length ≤ n + 1 := Nat.le_succ_of_le hA.given
 have bk : (s.thr t).frames.dropLast = fs.map Fr.enc ∧ (s.thr t).st = (s.thr t).st ∧ (s.thr t).ki = (s.thr t).ki := ⟨by rw [hA.thr.fr t ht, hthr]; simp, rfl, rfl⟩
 have S256 := hmay.2.2.2.2.1
 have hk := inK_node' (c := s.c) (i := F.r 0) (j := 4) (by omega) (by omega) (by omega)
 have hit := atK_hit hmay hA.memN hlc hk
 refine (do_giveR h hT (by show (F.fn : Int) = 2; omega) hfs' (R := fun s' => Did s.c n l s s' ((g.set l (oNd B S (F.r 0) 4) 0).top t fs (F.goto 4))) fun K1 M1 lab1 w1 h1' hT1 => ?_).mono fun r w' ⟨e, M', lab', s', a1, a2, a3, a4⟩ => ⟨e, M', lab', s', a1, a3, a2, a4⟩
 refine (give_3 h1' hT1 (by show (F.pc : Int) = 3; omega) (sl := F.r 0) rfl (by omega) hl' hlc' hk b1 b2).mono (fun r w' ⟨e, M', lab', h', hT'⟩ => ⟨e, M', lab', _, h', hT'.mach, hT'.base, ?_⟩)
 refine Did.one hA hk (Nat.le_refl _) ⟨rfl, rfl, rfl, rfl, rfl⟩ (store_to' hit) ?_ (hA.ward.mono (Nat.le_succ _)) ((hA.thr.set l _ _).top (t := t) (fs := fs) (F := F.goto 4)) gl
 have := hA.words.set hmay (l := l) hk 0
 rw [off_node hB' hS' (by omega)] at this
 exact this
theorem does_g4 {σ : World} {p t q l n B S : Nat} {c : Nat → Int} {tp : List Nat} {g : GM} {fs : List Fr} {F : Fr} (hn : n < 100000) (ht : (t : Int) < c 1) (hq : tp[t]? = some q) (hl : levelOf c t = (l : Nat)) (hlc : (l : Int) < c 0) (hthr : g.thr t = fs ++ [F]) (hfs : fs.length < 100000) (hB' : c 11 = (B : Nat)) (hS' : c 10 = (S : Nat)) (h1 : F.fn = 2) (hp : F.pc = 4) (x1 : 1 ≤ F.r 0) (x2 : F.r 0 ≤ S) : DoesTo 105 σ p t c tp n l g ((g.set l (oNd B S (F.r 0) 2) 0).top t fs (F.goto 5)) := by
 intro K s M lab w h hM hB hA
 obtain ⟨b, hT⟩ := hA.atTop hM hB ht hq hthr
 obtain rfl := hA.cc
 have hmay := hA.may
 have b1 : (s.tick l).mem.acc < 1000000000 := by show s.mem.acc < _; have := hA.acc; omega
 have b2 : (s.tick l).mem.wr < 1000000000 := by show s.mem.wr < _; have := hA.wr; omega
 have hl' : levelOf (s.tick l).c (t : Nat) = (l : Nat) := hl
 have hlc' : (l : Int) < (s.tick l).c 0 := hlc
 have hfs' : (fs.map Fr.enc).length < 1000000 := by rw [List.length_map]; omega
 have gl : s.given.length ≤ n + 1 := Nat.le_succ_of_le hA.given
 have bk : (s.thr t).frames.dropLast = fs.map Fr.enc ∧ (s.thr t).st = (s.thr t).st ∧ (s.thr t).ki = (s.thr t).ki := ⟨by rw [hA.thr.fr t ht, hthr]; simp, rfl, rfl⟩
 have S256 := hmay.2.2.2.2.1
 have hk := inK_node' (c := s.c) (i := F.r 0) (j := 2) (by omega) (by omega) (by omega)
 have hit := atK_hit hmay hA.memN hlc hk
 refine (do_giveR h hT (by show (F.fn : Int) = 2; omega) hfs' (R := fun s' => Did s.c n l s s' ((g.set l (oNd B S (F.r 0) 2) 0).top t fs (F.goto 5))) fun K1 M1 lab1 w1 h1' hT1 => ?_).mono fun r w' ⟨e, M', lab', s', a1, a2, a3, a4⟩ => ⟨e, M', lab', s', a1, a3, a2, a4⟩
 refine (give_4 h1' hT1 (by show (F.pc : Int) = 4; omega) (sl := F.r 0) rfl (by omega) hl' hlc' hk b1 b2).mono (fun r w' ⟨e, M', lab', h', hT'⟩ => ⟨e, M', lab', _, h', hT'.mach, hT'.base, ?_⟩)
 refine Did.one hA hk (Nat.le_refl _) ⟨rfl, rfl, rfl, rfl, rfl⟩ (store_to' hit) ?_ (hA.ward.mono (Nat.le_succ _)) ((hA.thr.set l _ _).top (t := t) (fs := fs) (F := F.goto 5)) gl
 have := hA.words.set hmay (l := l) hk 0
 rw [off_node hB' hS' (by omega)] at this
 exact this
theorem does_g5 {σ : World} {p t q l n B S : Nat} {c : Nat → Int} {tp : List Nat} {g : GM} {fs : List Fr} {F : Fr} (hn : n < 100000) (ht : (t : Int) < c 1) (hq : tp[t]? = some q) (hl : levelOf c t = (l : Nat)) (hlc : (l : Int) < c 0) (hthr : g.thr t = fs ++ [F]) (hfs : fs.length < 100000) (hB' : c 11 = (B : Nat)) (hS' : c 10 = (S : Nat)) (h1 : F.fn = 2) (hp : F.pc = 5) (x1 : 1 ≤ F.r 0) (x2 : F.r 0 ≤ S) : DoesTo 105 σ p t c tp n l g ((g.set l (oNd B S (F.r 0) 1) 0).top t fs (F.goto 6)) := by
 intro K s M lab w h hM hB hA
 obtain ⟨b, hT⟩ := hA.atTop hM hB ht hq hthr
 obtain rfl := hA.cc
 have hmay := hA.may
 have b1 : (s.tick l).mem.acc < 1000000000 := by show s.mem.acc < _; have := hA.acc; omega
 have b2 : (s.tick l).mem.wr < 1000000000 := by show s.mem.wr < _; have := hA.wr; omega
 have hl' : levelOf (s.tick l).c (t : Nat) = (l : Nat) := hl
 have hlc' : (l : Int) < (s.tick l).c 0 := hlc
 have hfs' : (fs.map Fr.enc).length < 1000000 := by rw [List.length_map]; omega
 have gl : s.given.length ≤ n + 1 := Nat.le_succ_of_le hA.given
 have bk : (s.thr t).frames.dropLast = fs.map Fr.enc ∧ (s.thr t).st = (s.thr t).st ∧ (s.thr t).ki = (s.thr t).ki := ⟨by rw [hA.thr.fr t ht, hthr]; simp, rfl, rfl⟩
 have S256 := hmay.2.2.2.2.1
 have hk := inK_node' (c := s.c) (i := F.r 0) (j := 1) (by omega) (by omega) (by omega)
 have hit := atK_hit hmay hA.memN hlc hk
 refine (do_giveR h hT (by show (F.fn : Int) = 2; omega) hfs' (R := fun s' => Did s.c n l s s' ((g.set l (oNd B S (F.r 0) 1) 0).top t fs (F.goto 6))) fun K1 M1 lab1 w1 h1' hT1 => ?_).mono fun r w' ⟨e, M', lab', s', a1, a2, a3, a4⟩ => ⟨e, M', lab', s', a1, a3, a2, a4⟩
 refine (give_5 h1' hT1 (by show (F.pc : Int) = 5; omega) (sl := F.r 0) rfl (by omega) hl' hlc' hk b1 b2).mono (fun r w' ⟨e, M', lab', h', hT'⟩ => ⟨e, M', lab', _, h', hT'.mach, hT'.base, ?_⟩)
 refine Did.one hA hk (Nat.le_refl _) ⟨rfl, rfl, rfl, rfl, rfl⟩ (store_to' hit) ?_ (hA.ward.mono (Nat.le_succ _)) ((hA.thr.set l _ _).top (t := t) (fs := fs) (F := F.goto 6)) gl
 have := hA.words.set hmay (l := l) hk 0
 rw [off_node hB' hS' (by omega)] at this
 exact this
theorem does_g6a {σ : World} {p t q l n B S : Nat} {c : Nat → Int} {tp : List Nat} {g : GM} {fs : List Fr} {F : Fr} (hn : n < 100000) (ht : (t : Int) < c 1) (hq : tp[t]? = some q) (hl : levelOf c t = (l : Nat)) (hlc : (l : Int) < c 0) (hthr : g.thr t = fs ++ [F]) (hfs : fs.length < 100000) (hB' : c 11 = (B : Nat)) (hS' : c 10 = (S : Nat)) (h1 : F.fn = 2) (hp : F.pc = 6) (x1 : 1 ≤ F.r 0) (x2 : F.r 0 ≤ S) (hg : F.r 2 < 4294967296) (hh : g.held l (F.r 0) = true) (hs : (F.r 2 : Int) < c 12) : DoesTo 105 σ p t c tp n l g (((g.set l (oNd B S (F.r 0) 0) (mkHead (F.r 2) 0)).drop l (F.r 0)).top t fs (F.goto 7)) := by
 intro K s M lab w h hM hB hA
 obtain ⟨b, hT⟩ := hA.atTop hM hB ht hq hthr
 obtain rfl := hA.cc
 have hmay := hA.may
 have b1 : (s.tick l).mem.acc < 1000000000 := by show s.mem.acc < _; have := hA.acc; omega
 have b2 : (s.tick l).mem.wr < 1000000000 := by show s.mem.wr < _; have := hA.wr; omega
 have hl' : levelOf (s.tick l).c (t : Nat) = (l : Nat) := hl
 have hlc' : (l : Int) < (s.tick l).c 0 := hlc
 have hfs' : (fs.map Fr.enc).length < 1000000 := by rw [List.length_map]; omega
 have gl : s.given.length ≤ n + 1 := Nat.le_succ_of_le hA.given
 have bk : (s.thr t).frames.dropLast = fs.map Fr.enc ∧ (s.thr t).st = (s.thr t).st ∧ (s.thr t).ki = (s.thr t).ki := ⟨by rw [hA.thr.fr t ht, hthr]; simp, rfl, rfl⟩
 have S256 := hmay.2.2.2.2.1
 have hk := inK_node' (c := s.c) (i := F.r 0) (j := 0) (by omega) (by omega) (by omega)
 have hit := atK_hit hmay hA.memN hlc hk
 have hhas : (s.tick l).ward.has (l : Nat) (F.r 0 : Nat) = true := by
  show s.ward.has _ _ = true
  unfold WardS.has
  rw [Bool.and_eq_true, decide_eq_true_eq, hA.ward.held l _ hlc x1 (by omega), hh]
  exact ⟨WardS.there_iff.2 ⟨by omega, by rw [hA.ward.lv]; exact hlc, by omega, by rw [hA.ward.sl]; omega⟩, by decide⟩
 have hgg : 0 ≤ valE (l : Nat) (F.r 0 : Nat) (s.tick l).ward.gens ∧ valE (l : Nat) (F.r 0 : Nat) (s.tick l).ward.gens < 1000000000 := by
  have := hA.ward.gens (l : Nat) (F.r 0 : Nat)
  show 0 ≤ valE _ _ s.ward.gens ∧ valE _ _ s.ward.gens < _
  omega
 have hsp : (s.tick l).ward.slips < 1000000000 := by show s.ward.slips < _; rw [hA.ward.slips]; omega
 have hgn : (s.tick l).given.length < 1000000 := by show s.given.length < _; have := hA.given; omega
 refine (do_giveR h hT (by show (F.fn : Int) = 2; omega) hfs' (R := fun s' => Did s.c n l s s' (((g.set l (oNd B S (F.r 0) 0) (mkHead (F.r 2) 0)).drop l (F.r 0)).top t fs (F.goto 7))) fun K1 M1 lab1 w1 h1' hT1 => ?_).mono fun r w' ⟨e, M', lab', s', a1, a2, a3, a4⟩ => ⟨e, M', lab', s', a1, a3, a2, a4⟩
 refine (give_6on h1' hT1 (by show (F.pc : Int) = 6; omega) (sl := F.r 0) (g := F.r 2) rfl (by omega) rfl hg hl' hlc' hk b1 b2 hA.ward.stamp hgg hsp hgn hhas hfs' hs).mono (fun r w' ⟨e, M', lab', gv, h', hT'⟩ => ⟨e, M', lab', _, h', hT'.mach, hT'.base, ?_⟩)
 refine Did.one hA hk (Nat.le_refl _) ⟨rfl, rfl, rfl, rfl, rfl⟩ (store_to' hit) ?_ (hA.ward.gone hlc x1 (by omega)) (((hA.thr.set l _ _).drop l (F.r 0)).top (t := t) (fs := fs) (F := F.goto 7)) ?_
 ·have := hA.words.set hmay (l := l) hk (mkHead (F.r 2) 0)
  rw [off_node hB' hS' (by omega)] at this
  exact this
 ·show (s.given ++ [_]).length ≤ _
  rw [List.length_append]
  have := hA.given
  simp; omega
theorem does_g6b {σ : World} {p t q l n B S : Nat} {c : Nat → Int} {tp : List Nat} {g : GM} {fs : List Fr} {F : Fr} (hn : n < 100000) (ht : (t : Int) < c 1) (hq : tp[t]? = some q) (hl : levelOf c t = (l : Nat)) (hlc : (l : Int) < c 0) (hthr : g.thr t = fs ++ [F]) (hfs : fs.length < 100000) (hB' : c 11 = (B : Nat)) (hS' : c 10 = (S : Nat)) (h1 : F.fn = 2) (hp : F.pc = 6) (x1 : 1 ≤ F.r 0) (x2 : F.r 0 ≤ S) (hg : F.r 2 < 4294967296) (hh : g.held l (F.r 0) = true) (hs : c 12 ≤ (F.r 2 : Int)) : DoesTo 105 σ p t c tp n l g (((g.set l (oNd B S (F.r 0) 0) (mkHead (F.r 2) 0)).drop l (F.r 0)).back t fs []) := by
 intro K s M lab w h hM hB hA
 obtain ⟨b, hT⟩ := hA.atTop hM hB ht hq hthr
 obtain rfl := hA.cc
 have hmay := hA.may
 have b1 : (s.tick l).mem.acc < 1000000000 := by show s.mem.acc < _; have := hA.acc; omega
 have b2 : (s.tick l).mem.wr < 1000000000 := by show s.mem.wr < _; have := hA.wr; omega
 have hl' : levelOf (s.tick l).c (t : Nat) = (l : Nat) := hl
 have hlc' : (l : Int) < (s.tick l).c 0 := hlc
 have hfs' : (fs.map Fr.enc).length < 1000000 := by rw [List.length_map]; omega
 have gl : s.given.length ≤ n + 1 := Nat.le_succ_of_le hA.given
 have bk : (s.thr t).frames.dropLast = fs.map Fr.enc ∧ (s.thr t).st = (s.thr t).st ∧ (s.thr t).ki = (s.thr t).ki := ⟨by rw [hA.thr.fr t ht, hthr]; simp, rfl, rfl⟩
 have S256 := hmay.2.2.2.2.1
 have hk := inK_node' (c := s.c) (i := F.r 0) (j := 0) (by omega) (by omega) (by omega)
 have hit := atK_hit hmay hA.memN hlc hk
 have hhas : (s.tick l).ward.has (l : Nat) (F.r 0 : Nat) = true := by
  show s.ward.has _ _ = true
  unfold WardS.has
  rw [Bool.and_eq_true, decide_eq_true_eq, hA.ward.held l _ hlc x1 (by omega), hh]
  exact ⟨WardS.there_iff.2 ⟨by omega, by rw [hA.ward.lv]; exact hlc, by omega, by rw [hA.ward.sl]; omega⟩, by decide⟩
 have hgg : 0 ≤ valE (l : Nat) (F.r 0 : Nat) (s.tick l).ward.gens ∧ valE (l : Nat) (F.r 0 : Nat) (s.tick l).ward.gens < 1000000000 := by
  have := hA.ward.gens (l : Nat) (F.r 0 : Nat)
  show 0 ≤ valE _ _ s.ward.gens ∧ valE _ _ s.ward.gens < _
  omega
 have hsp : (s.tick l).ward.slips < 1000000000 := by show s.ward.slips < _; rw [hA.ward.slips]; omega
 have hgn : (s.tick l).given.length < 1000000 := by show s.given.length < _; have := hA.given; omega
 refine (do_giveR h hT (by show (F.fn : Int) = 2; omega) hfs' (R := fun s' => Did s.c n l s s' (((g.set l (oNd B S (F.r 0) 0) (mkHead (F.r 2) 0)).drop l (F.r 0)).back t fs [])) fun K1 M1 lab1 w1 h1' hT1 => ?_).mono fun r w' ⟨e, M', lab', s', a1, a2, a3, a4⟩ => ⟨e, M', lab', s', a1, a3, a2, a4⟩
 refine (give_6end h1' hT1 (by show (F.pc : Int) = 6; omega) (sl := F.r 0) (g := F.r 2) rfl (by omega) rfl hg hl' hlc' hk b1 b2 hA.ward.stamp hgg hsp hgn hhas hfs' hs).mono (fun r w' ⟨e, M', lab', gv, h', hMx, hBx⟩ => ⟨e, M', lab', _, h', hMx, hBx, ?_⟩)
 refine Did.one hA hk (Nat.le_refl _) ⟨rfl, rfl, rfl, rfl, rfl⟩ (store_to' hit) ?_ (hA.ward.gone hlc x1 (by omega)) ?_ ?_
 ·have := hA.words.set hmay (l := l) hk (mkHead (F.r 2) 0)
  rw [off_node hB' hS' (by omega)] at this
  exact this
 ·have := ((hA.thr.set l (oNd B S (F.r 0) 0) (mkHead (F.r 2) 0)).drop l (F.r 0)).back (t := t) (fs := fs) (us := []) (x := { s.thr t with frames := fs.map Fr.enc ++ [(F.goto 7).enc] }) ⟨by simp, rfl, rfl⟩
  have e : (fun j => if j = t then ThrS.back { s.thr t with frames := fs.map Fr.enc ++ [(F.goto 7).enc] } (List.map (fun u : Nat => (u : Int)) []) else s.thr j) = (MachS.backed (((s.tick l).idled l (F.r 0) (F.r 2) gv).top t (fs.map Fr.enc) (F.enc.goto 7)) t []).thr := by
   funext j
   show _ = (if j = t then ThrS.back (if t = t then _ else _) [] else (if j = t then _ else _))
   by_cases hj : j = t
   ·rw [if_pos hj, if_pos hj, if_pos rfl]; rfl
   ·rw [if_neg hj, if_neg hj, if_neg hj]; rfl
  rw [e] at this
  exact this
 ·show (s.given ++ [_]).length ≤ _
  rw [List.length_append]
  have := hA.given
  simp; omega
theorem does_g7 {σ : World} {p t q l n B S : Nat} {c : Nat → Int} {tp : List Nat} {g : GM} {fs : List Fr} {F : Fr} (hn : n < 100000) (ht : (t : Int) < c 1) (hq : tp[t]? = some q) (hl : levelOf c t = (l : Nat)) (hlc : (l : Int) < c 0) (hthr : g.thr t = fs ++ [F]) (hfs : fs.length < 100000) (hB' : c 11 = (B : Nat)) (hS' : c 10 = (S : Nat)) (h1 : F.fn = 2) (hp : F.pc = 7) (x1 : 1 ≤ F.r 0) (x2 : F.r 0 ≤ S) : DoesTo 105 σ p t c tp n l g (g.top t fs ((F.reg 1 (g.w l 0)).goto 8)) := by
 intro K s M lab w h hM hB hA
 obtain ⟨b, hT⟩ := hA.atTop hM hB ht hq hthr
 obtain rfl := hA.cc
 have hmay := hA.may
 have b1 : (s.tick l).mem.acc < 1000000000 := by show s.mem.acc < _; have := hA.acc; omega
 have b2 : (s.tick l).mem.wr < 1000000000 := by show s.mem.wr < _; have := hA.wr; omega
 have hl' : levelOf (s.tick l).c (t : Nat) = (l : Nat) := hl
 have hlc' : (l : Int) < (s.tick l).c 0 := hlc
 have hfs' : (fs.map Fr.enc).length < 1000000 := by rw [List.length_map]; omega
 have gl : s.given.length ≤ n + 1 := Nat.le_succ_of_le hA.given
 have bk : (s.thr t).frames.dropLast = fs.map Fr.enc ∧ (s.thr t).st = (s.thr t).st ∧ (s.thr t).ki = (s.thr t).ki := ⟨by rw [hA.thr.fr t ht, hthr]; simp, rfl, rfl⟩
 have S256 := hmay.2.2.2.2.1
 have hk := inK_free s.c
 have hit := atK_hit hmay hA.memN hlc hk
 have hv : s.mem.load (atK s.c (l : Nat) 0 0 0) = (g.w l 0 : Int) := load_at' hit (by rw [hA.words.at hmay hlc hk, off_free])
 have hf0 : s.mem.f (atK s.c (l : Nat) 0 0 0).toNat = (g.w l 0 : Int) := by rw [hA.words.at hmay hlc hk, off_free]
 refine (do_giveR h hT (by show (F.fn : Int) = 2; omega) hfs' (R := fun s' => Did s.c n l s s' (g.top t fs ((F.reg 1 (g.w l 0)).goto 8))) fun K1 M1 lab1 w1 h1' hT1 => ?_).mono fun r w' ⟨e, M', lab', s', a1, a2, a3, a4⟩ => ⟨e, M', lab', s', a1, a3, a2, a4⟩
 refine (give_7 h1' hT1 (by show (F.pc : Int) = 7; omega) (sl := F.r 0) rfl (by omega) (spotAt_of hT1.mach hl' hlc' hk) b1).mono (fun r w' ⟨e, M', lab', h', hT'⟩ => ⟨e, M', lab', _, h', hT'.mach, hT'.base, ?_⟩)
 refine Did.one hA hk (Nat.zero_le _) ⟨rfl, rfl, rfl, rfl, rfl⟩ (at_to' hit) hA.words (hA.ward.mono (Nat.le_succ _)) ?_ gl
 have := hA.thr.top (t := t) (fs := fs) (F := (F.reg 1 (g.w l 0)).goto 8)
 rw [← fr_goto, ← fr_reg, ← hv] at this
 exact this
theorem does_g8 {σ : World} {p t q l n B S : Nat} {c : Nat → Int} {tp : List Nat} {g : GM} {fs : List Fr} {F : Fr} (hn : n < 100000) (ht : (t : Int) < c 1) (hq : tp[t]? = some q) (hl : levelOf c t = (l : Nat)) (hlc : (l : Int) < c 0) (hthr : g.thr t = fs ++ [F]) (hfs : fs.length < 100000) (hB' : c 11 = (B : Nat)) (hS' : c 10 = (S : Nat)) (h1 : F.fn = 2) (hp : F.pc = 8) (x1 : 1 ≤ F.r 0) (x2 : F.r 0 ≤ S) (hr : F.r 1 < 18446744073709551616) : DoesTo 105 σ p t c tp n l g ((g.set l (oLk B (F.r 0)) (slOf (F.r 1))).top t fs (F.goto 9)) := by
 intro K s M lab w h hM hB hA
 obtain ⟨b, hT⟩ := hA.atTop hM hB ht hq hthr
 obtain rfl := hA.cc
 have hmay := hA.may
 have b1 : (s.tick l).mem.acc < 1000000000 := by show s.mem.acc < _; have := hA.acc; omega
 have b2 : (s.tick l).mem.wr < 1000000000 := by show s.mem.wr < _; have := hA.wr; omega
 have hl' : levelOf (s.tick l).c (t : Nat) = (l : Nat) := hl
 have hlc' : (l : Int) < (s.tick l).c 0 := hlc
 have hfs' : (fs.map Fr.enc).length < 1000000 := by rw [List.length_map]; omega
 have gl : s.given.length ≤ n + 1 := Nat.le_succ_of_le hA.given
 have bk : (s.thr t).frames.dropLast = fs.map Fr.enc ∧ (s.thr t).st = (s.thr t).st ∧ (s.thr t).ki = (s.thr t).ki := ⟨by rw [hA.thr.fr t ht, hthr]; simp, rfl, rfl⟩
 have S256 := hmay.2.2.2.2.1
 have hk := inK_link' (c := s.c) (i := F.r 0) (by omega) (by omega)
 have hit := atK_hit hmay hA.memN hlc hk
 refine (do_giveR h hT (by show (F.fn : Int) = 2; omega) hfs' (R := fun s' => Did s.c n l s s' ((g.set l (oLk B (F.r 0)) (slOf (F.r 1))).top t fs (F.goto 9))) fun K1 M1 lab1 w1 h1' hT1 => ?_).mono fun r w' ⟨e, M', lab', s', a1, a2, a3, a4⟩ => ⟨e, M', lab', s', a1, a3, a2, a4⟩
 refine (give_8 h1' hT1 (by show (F.pc : Int) = 8; omega) (sl := F.r 0) (x := F.r 1) rfl (by omega) rfl hr hl' hlc' hk b1 b2).mono (fun r w' ⟨e, M', lab', h', hT'⟩ => ⟨e, M', lab', _, h', hT'.mach, hT'.base, ?_⟩)
 refine Did.one hA hk (Nat.le_refl _) ⟨rfl, rfl, rfl, rfl, rfl⟩ (store_to' hit) ?_ (hA.ward.mono (Nat.le_succ _)) ((hA.thr.set l _ _).top (t := t) (fs := fs) (F := F.goto 9)) gl
 have := hA.words.set hmay (l := l) hk (slOf (F.r 1))
 rw [off_link hB' (by omega)] at this
 exact this
theorem does_g9a {σ : World} {p t q l n B S : Nat} {c : Nat → Int} {tp : List Nat} {g : GM} {fs : List Fr} {F : Fr} (hn : n < 100000) (ht : (t : Int) < c 1) (hq : tp[t]? = some q) (hl : levelOf c t = (l : Nat)) (hlc : (l : Int) < c 0) (hthr : g.thr t = fs ++ [F]) (hfs : fs.length < 100000) (hB' : c 11 = (B : Nat)) (hS' : c 10 = (S : Nat)) (h1 : F.fn = 2) (hp : F.pc = 9) (x1 : 1 ≤ F.r 0) (x2 : F.r 0 ≤ S) (hr : F.r 1 < 18446744073709551616) (hs : g.w l 0 = F.r 1) : DoesTo 105 σ p t c tp n l g ((g.set l 0 (mkTop (F.r 0) (cnt (F.r 1) + 1))).back t fs []) := by
 intro K s M lab w h hM hB hA
 obtain ⟨b, hT⟩ := hA.atTop hM hB ht hq hthr
 obtain rfl := hA.cc
 have hmay := hA.may
 have b1 : (s.tick l).mem.acc < 1000000000 := by show s.mem.acc < _; have := hA.acc; omega
 have b2 : (s.tick l).mem.wr < 1000000000 := by show s.mem.wr < _; have := hA.wr; omega
 have hl' : levelOf (s.tick l).c (t : Nat) = (l : Nat) := hl
 have hlc' : (l : Int) < (s.tick l).c 0 := hlc
 have hfs' : (fs.map Fr.enc).length < 1000000 := by rw [List.length_map]; omega
 have gl : s.given.length ≤ n + 1 := Nat.le_succ_of_le hA.given
 have bk : (s.thr t).frames.dropLast = fs.map Fr.enc ∧ (s.thr t).st = (s.thr t).st ∧ (s.thr t).ki = (s.thr t).ki := ⟨by rw [hA.thr.fr t ht, hthr]; simp, rfl, rfl⟩
 have S256 := hmay.2.2.2.2.1
 have hk := inK_free s.c
 have hit := atK_hit hmay hA.memN hlc hk
 have hv : s.mem.load (atK s.c (l : Nat) 0 0 0) = (g.w l 0 : Int) := load_at' hit (by rw [hA.words.at hmay hlc hk, off_free])
 have hf0 : s.mem.f (atK s.c (l : Nat) 0 0 0).toNat = (g.w l 0 : Int) := by rw [hA.words.at hmay hlc hk, off_free]
 have hsw : (s.tick l).mem.swaps (atK (s.tick l).c (l : Nat) 0 0 0) (F.r 1 : Nat) = true := by show s.mem.swaps _ _ = true; unfold MemS.swaps; rw [show (s.tick l).c = s.c from rfl, hit, hf0, hs]; simp
 refine (do_giveR h hT (by show (F.fn : Int) = 2; omega) hfs' (R := fun s' => Did s.c n l s s' ((g.set l 0 (mkTop (F.r 0) (cnt (F.r 1) + 1))).back t fs [])) fun K1 M1 lab1 w1 h1' hT1 => ?_).mono fun r w' ⟨e, M', lab', s', a1, a2, a3, a4⟩ => ⟨e, M', lab', s', a1, a3, a2, a4⟩
 refine (give_9yes h1' hT1 (by show (F.pc : Int) = 9; omega) (sl := F.r 0) (x := F.r 1) rfl (by omega) rfl hr hl' hlc' b1 b2 hsw hfs').mono (fun r w' ⟨e, M', lab', h', hM', hB'⟩ => ⟨e, M', lab', _, h', hM', hB', ?_⟩)
 refine Did.one hA hk (Nat.le_refl _) ⟨rfl, rfl, rfl, rfl, rfl⟩ (cas_yes' hit hsw) ?_ (hA.ward.mono (Nat.le_succ _)) ?_ gl
 ·have := hA.words.set hmay (l := l) hk (mkTop (F.r 0) (cnt (F.r 1) + 1))
  rw [off_free] at this
  exact this
 ·have := (hA.thr.set l 0 (mkTop (F.r 0) (cnt (F.r 1) + 1))).back (t := t) (fs := fs) (us := []) (x := { s.thr t with frames := fs.map Fr.enc ++ [(F.goto 7).enc] }) ⟨by simp, rfl, rfl⟩
  have e : (fun j => if j = t then ThrS.back { s.thr t with frames := fs.map Fr.enc ++ [(F.goto 7).enc] } (List.map (fun u : Nat => (u : Int)) []) else s.thr j) = (MachS.backed { (s.tick l).top t (fs.map Fr.enc) (F.enc.goto 7) with mem := s.mem.cas (atK s.c (l : Nat) 0 0 0) (F.r 1 : Nat) (mkTop (F.r 0) (cutN (F.r 1) 8 56 + 1) : Nat) } t []).thr := by
   funext j
   show _ = (if j = t then ThrS.back (if t = t then _ else _) [] else (if j = t then _ else _))
   by_cases hj : j = t
   ·rw [if_pos hj, if_pos hj, if_pos rfl]; rfl
   ·rw [if_neg hj, if_neg hj, if_neg hj]; rfl
  rw [e] at this
  exact this
end
end Go.Proofs.YtjeeldacnllipaaGreat
