import Derived.Test.YtjeeldacnllipaaGreatLpB
namespace Go.Proofs.YtjeeldacnllipaaGreat
set_option maxHeartbeats 100000000
set_option maxRecDepth 20000
set_option linter.unusedVariables false
set_option linter.unusedSimpArgs false
set_option linter.unnecessarySimpa false
open List renaming setIfInBounds_toArray → qD, set_cons_zero → qE, set_cons_succ → qF
section
open Go.RowKit
structure StA (B S NL : Nat) (g : GM) (z : StG) : Prop where
 top : ∀ l, l < NL → (z.lv l).top = g.w l 0
 lk : ∀ l i, l < NL → 1 ≤ i → i ≤ S → (z.lv l).lk i = g.w l (oLk B i)
 hd : ∀ l i, l < NL → 1 ≤ i → i ≤ S → (z.lv l).hd i = g.w l (oNd B S i 0)
 held : ∀ l i, l < NL → 1 ≤ i → i ≤ S → (z.lv l).held i = g.held l i
end
section
open Go.RowKit
def gm0 (B S : Nat) : GM := ⟨fun _ o => (w0 B S S o).toNat, fun _ i => i == 1, fun _ _ => 0, fun _ => [], fun _ _ => 0⟩
theorem w0_nn (B S s r : Nat) : 0 ≤ w0 B S s r := by
 unfold w0
 repeat' split
 all_goals omega
theorem kU {c : Nat → Int} {L B S : Nat} {s : MachS} (hn : Nums c L B S) (hc : zF c) (h : s.New c L B S) (hw : s.ward.lv = s.c 0 ∧ s.ward.sl = s.c 10) : AbsM c s.tp 0 s (gm0 B S) := by
 obtain ⟨wb, hm⟩ := h.mem
 have hb0 := hn.b0
 have hs0 := hn.s0
 have hl0 := hn.l0
 have hf : s.mem.f = wl B S L := by rw [hm]; rfl
 refine ⟨h.c, hc, rfl, ?_, ?_, ?_, ?_, by rw [hm]; rfl, h.fault, by rw [hm]; exact Nat.le_refl _, by rw [hm]; exact Nat.le_refl _, by rw [h.steps]; exact Nat.le_refl _, fun k => by rw [h.clk]; exact Nat.le_refl _, by rw [h.given]; exact Nat.le_refl _⟩
 ·rw [hm, hn.sz, hn.lev]; show ((L * (18 + B + 6 * S) : Nat) : Int) = _; push_cast; rfl
 ·intro l o hl ho
  rw [hn.lev] at hl
  rw [hn.sz] at ho ⊢
  rw [Int.toNat_natCast, hf]
  have e := (sF (l := l) (sz := 18 + B + 6 * S) (r := o) (by omega)).1 rfl
  unfold wl
  rw [e.1, e.2, if_pos (by omega)]
  show _ = (((w0 B S S o).toNat : Nat) : Int)
  rw [Int.toNat_of_nonneg (w0_nn _ _ _ _)]
 ·refine ⟨by rw [hw.1, h.c], by rw [hw.2, h.c], fun l i h1 h2 h3 => ?_, fun l i h1 h2 h3 => by rw [h.gens.1]; rfl, ?_, ?_, fun l i => by rw [h.gens.1]; exact ⟨Int.le_refl _, Int.le_refl _⟩, h.slips, ?_, ?_⟩
  ·rw [h.held.1, kL]
   show _ = if (i == 1) = true then 1 else 0
   rw [hn.lev] at h1
   by_cases hi : i = 1
   ·subst hi; rw [if_pos ⟨rfl, by omega, by omega⟩]; rfl
   rw [if_neg (by omega), if_neg (by simpa using hi)]
  ·rw [h.held.1]
   unfold OnceE yO
   rw [List.map_map]
   have : ((fun x : Ent => (x.l, x.s)) ∘ fun (l : Nat) => (⟨l, 1, 1, l⟩ : Ent)) = fun l : Nat => ((l : Int), (1 : Int)) := rfl
   rw [this]
   exact List.Pairwise.map _ (fun a b hab e => hab (by have := congrArg Prod.fst e; exact Int.ofNat_inj.1 this)) (List.nodup_range (n := L))
  ·rw [h.gens.1]; exact ⟨fun x hx => by simp at hx, by simp⟩
  ·rw [h.held.1]
   intro x hx
   unfold yO at hx
   obtain ⟨k, hk, rfl⟩ := List.mem_map.1 hx
   have := List.mem_range.1 hk
   exact ⟨by show (0 : Int) ≤ (k : Int); omega, by rw [hn.lev]; show (k : Int) < _; omega, by show (1 : Int) ≤ 1; decide, by rw [hn.slo]; show (1 : Int) ≤ _; omega, rfl⟩
  rw [h.held.1, h.held.2]
  unfold yO
  refine ⟨fun x hx => ?_, ?_⟩
  ·obtain ⟨k, hk, rfl⟩ := List.mem_map.1 hx
   exact List.mem_range.1 hk
  rw [List.map_map]
  have : ((fun x : Ent => x.born) ∘ fun (l : Nat) => (⟨l, 1, 1, l⟩ : Ent)) = fun l : Nat => l := rfl
  rw [this, List.map_id']
  exact List.nodup_range
 refine ⟨fun t _ => by rw [h.thr]; rfl, fun t => by rw [h.thr]; rfl, fun t j => by rw [h.thr]; rfl⟩
theorem AbsM.begun {c : Nat → Int} {tp : List Nat} {n : Nat} {s : MachS} {g : GM} (h : AbsM c tp n s g) {t : Nat} (ht : (t : Int) < c 1) (fn : Nat) (us : List Nat) : AbsM c tp n (s.begun t fn (us.map fun u : Nat => (u : Int))) (g.top t (g.thr t) ⟨fn, 0, fun i => us.getD i 0⟩) := by
 refine ⟨h.cc, h.may, h.ttp, h.memN, h.words, h.ward, ?_, h.flt, h.fault, h.acc, h.wr, h.steps, h.clk, h.given⟩
 have := h.thr.top (t := t) (fs := g.thr t) (F := ⟨fn, 0, fun i => us.getD i 0⟩)
 have e : (fun j => if j = t then { s.thr t with frames := (g.thr t).map Fr.enc ++ [Fr.enc ⟨fn, 0, fun i => us.getD i 0⟩] } else s.thr j) = (s.begun t fn (us.map fun u : Nat => (u : Int))).thr := by
  funext j
  show _ = if j = t then (s.thr t).call fn _ else s.thr j
  by_cases e : j = t
  ·rw [if_pos e, if_pos e]
   have er : (fun i => ((us.getD i 0 : Nat) : Int)) = fun i => (us.map fun u : Nat => (u : Int)).getD i 0 := by
    funext i
    rw [List.getD_eq_getElem?_getD, List.getD_eq_getElem?_getD, List.getElem?_map]
    cases us[i]? <;> rfl
   show ({ s.thr t with frames := (g.thr t).map Fr.enc ++ [⟨fn, 0, fun i => ((us.getD i 0 : Nat) : Int)⟩] } : ThrS) = { s.thr t with frames := (s.thr t).frames ++ [⟨fn, 0, fun i => (us.map fun u : Nat => (u : Int)).getD i 0⟩] }
   rw [er, h.thr.fr t ht]
  rw [if_neg e, if_neg e]
 rw [e] at this
 exact this
end
section
open Go.RowKit
structure TrailP (σ : World) (K : Mm) (p t q : Nat) (dv : Value) (n : Nat) (P : Nat → MachS → Prop) (k : Nat) : Prop where
 step : ∀ i, i < k → ∀ (M : Mm) (lab : Nat → Nat) (s : MachS) (w : World), Has σ M w → Mach M lab p s → Base K M lab → P i s → Calls Tryz.prog 33 #[.pointer (some ⟨p, 0, none⟩), .int .i64 (t : Nat), dv] w fun r w' => ∃ M' lab' b s', r = .returned (.bool b) ∧ Has σ M' w' ∧ Mach M' lab' p s' ∧ Base K M' lab' ∧ P (i + 1) s'
 tp : ∀ i, i ≤ k → ∀ s, P i s → s.tp[t]? = some q
 deep : ∀ i, 0 < i → i < k → ∀ s, P i s → n < (s.thr t).frames.length
 done : ∀ s, P k s → (s.thr t).frames.length ≤ n
theorem alone_rel {σ w : World} {K M : Mm} {lab : Nat → Nat} {p t q : Nat} {s : MachS} (h : Has σ M w) (hM : Mach M lab p s) (hB : Base K M lab) (hq : s.tp[t]? = some q) {dv rv : Value} {us : List Int} (hr : Rd M 1 rv us.length (u64s us)) (hu : us.length ≤ 16) (hfr : (s.thr t).frames.length < 1000000) (fn : Int) {k most : Nat} {P : Nat → MachS → Prop} (h0 : P 0 (s.begun t fn us)) (hk : 0 < k) (hkm : k ≤ most) (hmost : most < 1000000) (hT : TrailP σ K p t q dv (s.thr t).frames.length P k) :
  Calls Tryz.prog 14 #[.pointer (some ⟨p, 0, none⟩), .int .i64 (t : Nat), dv, .int .i64 (most : Nat), .int .i64 fn, rv] w fun r w' => r = .returned (.int .i64 (k : Nat)) ∧ ∃ M' lab' s', Has σ M' w' ∧ Mach M' lab' p s' ∧ Base K M' lab' ∧ P k s' := by
 have TH := Lib.hid (fun (w : World) (h : Has σ M w) => yT h hM hq)
 obtain ⟨fv, hv, fbs, hTh⟩ := hM.each t q hq
 have hl := hTh.flen
 have DP := Lib.hid (fun (w : World) (h : Has σ M w) => uH h hTh)
 rw [hl] at DP
 have CA := Lib.hid (fun (w : World) (h : Has σ M w) => pX h hTh fn (rv := rv) (us := us) hr hu (by omega))
 have HM := Lib.hid hM
 have HB := Lib.hid hB
 have HQ := Lib.hid hq
 have H0 := Lib.hid h0
 have TR := Lib.hid hT
 clear hM hB hq hTh h0 hT hr hu hl
 generalize hn : (s.thr t).frames.length = n at *
 clear hn
 go_enter Tryz.func14, Tryz.ntmps14
 go_upto_region 6 with (first
  | (go_at_call 13; refine (TH.out _ h).mono ?_; clear h; rintro _ w ⟨rfl, h⟩)
  | (go_at_call 30; refine (DP.out _ h).mono ?_; clear h; rintro _ w ⟨rfl, h⟩)
  | (go_at_call 34; refine (CA.out _ h).mono ?_; clear h; rintro _ w ⟨rfl, M3, lab3, h, hK3, hT3⟩))
 obtain ⟨hM3, hB3⟩ := HM.out.thrTo HB.out HQ.out hK3 hT3
 have HM4 := Lib.hid hM3
 have HB4 := Lib.hid hB3
 clear hM3 hB3 hK3 hT3 TH DP CA HM HB HQ
 go_upto_region 7 with (fail)
 go_loopw [15] (fun u wr => ∃ j : Nat, j < k ∧ u = .int .i64 (j : Nat) ∧ ∃ M5 lab5 s5, Has σ M5 wr ∧ Mach M5 lab5 p s5 ∧ Base K M5 lab5 ∧ P j s5) (fun u _ => most - (intOf u).toNat)
 case atStart => exact ⟨0, hk, rfl, M3, lab3, _, h, HM4.out, HB4.out, H0.out⟩
 clear h w HM4 HB4 M3 lab3
 obtain ⟨w, rfl⟩ : ∃ x : World, x = wr := ⟨_, rfl⟩
 obtain ⟨j, hj, rfl, M5, lab5, s5, h, hM5, hB5, hP5⟩ := hrel
 have hjm : (j : Int) < (most : Int) := by omega
 have SP := Lib.hid (fun (w : World) (h : Has σ M5 w) => TR.out.step j hj M5 lab5 s5 w h hM5 hB5 hP5)
 clear hM5 hB5 hP5
 go_upto_region 10 with (first
  | (go_at_call 33; refine (SP.out _ h).mono ?_; clear h; rintro _ w ⟨M6, lab6, b6, s6, rfl, h, hM6, hB6, hP6⟩))
 obtain ⟨fv6, hv6, fbs6, hT6⟩ := hM6.each t q (TR.out.tp (j + 1) (by omega) s6 hP6)
 have hl6 := hT6.flen
 have DP6 := Lib.hid (fun (w : World) (h : Has σ M6 w) => uH h hT6)
 rw [hl6] at DP6
 have HM6 := Lib.hid hM6
 have HB6 := Lib.hid hB6
 have HP6 := Lib.hid hP6
 clear SP hT6 hl6 hM6 hB6
 by_cases e : j + 1 = k
 ·have hle : (s6.thr t).frames.length ≤ n := TR.out.done s6 (by rw [← e]; exact hP6)
  have hle2 : decide (((s6.thr t).frames.length : Int) ≤ (n : Int)) = true := decide_eq_true (by omega)
  have HE := Lib.hid e
  clear e hP6
  generalize (s6.thr t).frames.length = n6 at *
  go_wp2_with (first
   | (go_at_call 30; refine (DP6.out _ h).mono ?_; clear h; rintro _ w ⟨rfl, h⟩))
  go_ret
  exact ⟨by rw [← HE.out]; exact congrArg (fun z => Ending.returned (Value.int .i64 z)) (by omega), M6, lab6, s6, h, HM6.out, HB6.out, by rw [← HE.out]; exact HP6.out⟩
 have hgt : n < (s6.thr t).frames.length := TR.out.deep (j + 1) (by omega) (by omega) s6 hP6
 have hgt2 : decide (((s6.thr t).frames.length : Int) ≤ (n : Int)) = false := decide_eq_false (by omega)
 have hgt3 : ¬ (s6.thr t).frames.length ≤ n := by omega
 clear hgt hP6
 generalize (s6.thr t).frames.length = n6 at *
 go_wp2_with (first
  | (go_at_call 30; refine (DP6.out _ h).mono ?_; clear h; rintro _ w ⟨rfl, h⟩))
 go_roundw
 case rel => exact ⟨j + 1, by omega, by go_num, M6, lab6, s6, h, HM6.out, HB6.out, HP6.out⟩
 case measure => simp [intOf]; omega
end
section
open Go.RowKit
def vX (lk : Nat → Nat) : Nat → List Nat → Prop
 | s, [] => s = 0
 | s, x :: r => s = x ∧ 1 ≤ x ∧ vX lk (lk x) r
theorem wG {lk lk' : Nat → Nat} : ∀ (L : List Nat) (s : Nat), vX lk s L → (∀ x ∈ L, lk' x = lk x) → vX lk' s L
 | [], _, h, _ => h
 | x :: r, s, h, hx => ⟨h.1, h.2.1, by rw [hx x List.mem_cons_self]; exact wG r _ h.2.2 fun y hy => hx y (List.mem_cons_of_mem _ hy)⟩
theorem mE (a n : Nat) : yK a n = 256 * (n % 72057594037927936) + a % 256 := by
 unfold yK setN cutN
 have h1 : a / 2 ^ 0 % 2 ^ 8 / 2 ^ (8 + 56) = 0 := Nat.div_eq_of_lt (by omega)
 rw [h1]
 omega
theorem oI (g st : Nat) : zA g st = 4 * (g % 4294967296) + st % 4 := by
 unfold zA setN cutN
 have h1 : st / 2 ^ 0 % 2 ^ 2 / 2 ^ (2 + 32) = 0 := Nat.div_eq_of_lt (by omega)
 rw [h1]
 omega
theorem slOf_eq (x : Nat) : slOf x = x % 256 := by unfold slOf cutN; omega
theorem cnt_eq (x : Nat) : cnt x = x / 256 % 72057594037927936 := by unfold cnt cutN; omega
theorem genOf_eq (x : Nat) : zB x = x / 4 % 4294967296 := by unfold zB cutN; omega
theorem sl_top {a n : Nat} (h : a < 256) : slOf (yK a n) = a := by rw [slOf_eq, mE]; omega
theorem qM {a n : Nat} (h : n < 1000000) : cnt (yK a n) = n := by rw [cnt_eq, mE]; omega
theorem top_lt (a n : Nat) : yK a n < 18446744073709551616 := by rw [mE]; omega
theorem rE {g st : Nat} (h : g < 1000000) : zB (zA g st) = g := by rw [genOf_eq, oI]; omega
theorem mW (g st : Nat) : zA g st < 17179869184 := by rw [oI]; omega
theorem head_st (g : Nat) : zA g 0 % 4 = 0 := by rw [oI]; omega
def Past (top r : Nat) : Prop := cnt r ≤ cnt top ∧ (cnt r = cnt top → r = top)
theorem Past.refl (x : Nat) : Past x x := ⟨Nat.le_refl _, fun _ => rfl⟩
structure ThrI (S : Nat) (V : LvG) (ow : Nat → Nat × Nat) (t : Nat) (F : StF) : Prop where
 fn : F.fn = 1 ∨ F.fn = 2
 r1 : F.r1 < 18446744073709551616
 past : (F.fn = 1 ∧ (F.pc = 1 ∨ F.pc = 2)) ∨ (F.fn = 2 ∧ (F.pc = 8 ∨ F.pc = 9)) → Past V.top F.r1 ∧ slOf F.r1 ≤ S
 tk : F.fn = 1 → F.pc ≤ 3
 gv : F.fn = 2 → F.pc ≤ 9
 tk2 : F.fn = 1 → F.pc = 2 → 1 ≤ slOf F.r1 ∧ F.r2 ≤ S ∧ (V.top = F.r1 → F.r2 = V.lk (slOf F.r1))
 tk3 : F.fn = 1 → F.pc = 3 → 1 ≤ slOf F.r1 ∧ slOf F.r1 ≤ S ∧ ow (slOf F.r1) = (3, t)
 r0 : F.fn = 2 → 1 ≤ F.r0 ∧ F.r0 ≤ S ∧ ow F.r0 = (if F.pc ≤ 6 then 4 else 5, t)
 gen : F.fn = 2 → 1 ≤ F.pc → F.pc ≤ 6 → F.r2 = zB (V.hd F.r0) + 1
 lk9 : F.fn = 2 → F.pc = 9 → V.lk F.r0 = slOf F.r1
structure LvI (S gens n : Nat) (V : LvG) (ow : Nat → Nat × Nat) (L : List Nat) : Prop where
 chain : vX V.lk (slOf V.top) L
 nodup : L.Nodup
 mem : ∀ x, x ∈ L ↔ 1 ≤ x ∧ x ≤ S ∧ (ow x).1 = 1
 top : V.top < 18446744073709551616
 cntN : cnt V.top ≤ n
 lk : ∀ i, 1 ≤ i → i ≤ S → V.lk i ≤ S
 hd : ∀ i, 1 ≤ i → i ≤ S → V.hd i < 17179869184 ∧ zB (V.hd i) ≤ n
 on : ∀ i, 1 ≤ i → i ≤ S → (ow i).1 = 2 ∨ (ow i).1 = 3 ∨ (ow i).1 = 4 → V.held i = true
 off : ∀ i, 1 ≤ i → i ≤ S → (ow i).1 = 1 ∨ (ow i).1 = 5 → V.held i = false ∧ V.hd i % 4 = 0 ∧ zB (V.hd i) < gens
 none : ∀ i, 1 ≤ i → i ≤ S → (ow i).1 = 0 → V.held i = true ∨ gens ≤ zB (V.hd i)
 code : ∀ i, 1 ≤ i → i ≤ S → (ow i).1 ≤ 5
structure EvI (S : Nat) (V : LvG) (ow : Nat → Nat × Nat) (ev : List (Nat × Nat)) : Prop where
 all : ∀ x gn, (x, gn) ∈ ev → 1 ≤ x ∧ x ≤ S ∧ gn ≤ zB (V.hd x) ∧ ((ow x).1 = 1 ∨ (ow x).1 = 3 ∨ (ow x).1 = 5 → gn < zB (V.hd x))
structure HadI (S : Nat) (ow : Nat → Nat × Nat) (j : Nat) (had : List Nat) : Prop where
 nodup : had.Nodup
 all : ∀ x ∈ had, 1 ≤ x ∧ x ≤ S ∧ ow x = (2, j)
structure GInv (S gens NL T : Nat) (lev hl : Nat → Nat) (n : Nat) (g : StG) (L : Nat → List Nat) (ow : Nat → Nat → Nat × Nat) (had : Nat → List Nat) (ev : Nat → List (Nat × Nat)) : Prop where
 lv : ∀ l, l < NL → LvI S gens n (g.lv l) (ow l) (L l)
 thr : ∀ t, t < T → ∀ F, g.thr t = some F → ThrI S (g.lv (lev t)) (ow (lev t)) t F
 had : ∀ j, HadI S (ow (hl j)) j (had j)
 ev : ∀ l, l < NL → EvI S (g.lv l) (ow l) (ev l)
section
variable {S gens NL T n : Nat} {lev hl : Nat → Nat} {g g2 : StG} {L : Nat → List Nat} {ow : Nat → Nat → Nat × Nat} {had : Nat → List Nat} {ev : Nat → List (Nat × Nat)} {t l : Nat} {F F2 : StF} {V V2 : LvG} {o o2 : Nat → Nat × Nat}
theorem LvI.mono {L : List Nat} (h : LvI S gens n V o L) : LvI S gens (n + 1) V o L :=
 ⟨h.chain, h.nodup, h.mem, h.top, Nat.le_succ_of_le h.cntN, h.lk, fun i a b => ⟨(h.hd i a b).1, Nat.le_succ_of_le (h.hd i a b).2⟩, h.on, h.off, h.none, h.code⟩
theorem LvI.first {L : List Nat} (h : LvI S gens n V o L) : slOf V.top ≤ S ∧ (slOf V.top = 0 → L = []) ∧ (slOf V.top ≠ 0 → ∃ r, L = slOf V.top :: r) := by
 have hc := h.chain
 cases hL : L with
 | nil => rw [hL] at hc; have e : slOf V.top = 0 := hc; rw [e]; exact ⟨Nat.zero_le _, fun _ => rfl, fun h => absurd rfl h⟩
 | cons x r =>
  rw [hL] at hc
  obtain ⟨e, e1, _⟩ := hc
  have hx := (h.mem x).1 (by rw [hL]; exact List.mem_cons_self)
  rw [e]
  exact ⟨hx.2.1, fun e2 => by omega, fun _ => ⟨r, rfl⟩⟩
theorem ThrI.frame {t' x : Nat} (h : ThrI S V o t' F) (c1 : V2.top = V.top ∨ cnt V2.top = cnt V.top + 1) (c2 : ∀ i, i ≠ x → V2.lk i = V.lk i ∧ V2.hd i = V.hd i ∧ o2 i = o i) (c3 : ∀ k, 3 ≤ k → o x ≠ (k, t')) (c4 : V2.top = V.top → slOf V.top ≠ x ∨ V2.lk x = V.lk x) : ThrI S V2 o2 t' F := by
 have hr0 : F.fn = 2 → F.r0 ≠ x := fun h2 e => by
  have := (h.r0 h2).2.2
  rw [e] at this
  split at this
  ·exact c3 4 (by omega) this
  exact c3 5 (by omega) this
 refine ⟨h.fn, h.r1, fun hp => ⟨?_, (h.past hp).2⟩, h.tk, h.gv, fun h1 h2 => ?_, fun h1 h2 => ?_, fun h1 => ?_, fun h1 h2 h3 => ?_, fun h1 h2 => ?_⟩
 ·obtain ⟨a, b⟩ := (h.past hp).1
  rcases c1 with e | e
  ·rw [e]; exact ⟨a, b⟩
  exact ⟨by omega, fun e2 => by omega⟩
 ·obtain ⟨a, b, d⟩ := h.tk2 h1 h2
  refine ⟨a, b, fun e => ?_⟩
  have hp := (h.past (.inl ⟨h1, .inr h2⟩)).1
  rcases c1 with e1 | e1
  ·rw [d (by rw [← e1]; exact e)]
   by_cases hx : slOf F.r1 = x
   ·rcases c4 e1 with h4 | h4
    ·exact absurd (by rw [← e1, e]; exact hx) h4
    rw [hx, h4]
   exact ((c2 _ hx).1).symm
  rw [e] at e1
  have := hp.1
  omega
 ·obtain ⟨a, b, d⟩ := h.tk3 h1 h2
  exact ⟨a, b, by rw [(c2 _ fun e => c3 3 (by omega) (by rw [← e]; exact d)).2.2]; exact d⟩
 ·obtain ⟨a, b, d⟩ := h.r0 h1
  exact ⟨a, b, by rw [(c2 _ (hr0 h1)).2.2]; exact d⟩
 ·rw [(c2 _ (hr0 h1)).2.1]; exact h.gen h1 h2 h3
 rw [(c2 _ (hr0 h1)).1]; exact h.lk9 h1 h2
theorem GInv.upd (h : GInv S gens NL T lev hl n g L ow had ev) (hl0 : lev t < NL) {x : Nat} {L2 : List Nat} {had2 : Nat → List Nat} {ev2 : List (Nat × Nat)} {Fo : Option StF}
  (e1 : g2.lv = put1 g.lv (lev t) V2) (e2 : g2.thr = put1 g.thr t Fo)
  (c1 : V2.top = (g.lv (lev t)).top ∨ cnt V2.top = cnt (g.lv (lev t)).top + 1) (c2 : ∀ i, i ≠ x → V2.lk i = (g.lv (lev t)).lk i ∧ V2.hd i = (g.lv (lev t)).hd i ∧ o2 i = ow (lev t) i) (c3 : ∀ k t', 3 ≤ k → t' ≠ t → ow (lev t) x ≠ (k, t')) (c4 : V2.top = (g.lv (lev t)).top → slOf (g.lv (lev t)).top ≠ x ∨ V2.lk x = (g.lv (lev t)).lk x)
  (hL : LvI S gens (n + 1) V2 o2 L2) (hF : ∀ F, Fo = some F → ThrI S V2 o2 t F) (hH : ∀ j, hl j = lev t → HadI S o2 j (had2 j)) (hH2 : ∀ j, hl j ≠ lev t → had2 j = had j) (hE : EvI S V2 o2 ev2) :
  GInv S gens NL T lev hl (n + 1) g2 (put1 L (lev t) L2) (put1 ow (lev t) o2) had2 (put1 ev (lev t) ev2) := by
 refine ⟨fun l hl => ?_, fun t' ht' F hF' => ?_, fun j => ?_, fun l hl => ?_⟩
 ·rw [e1]
  by_cases e : l = lev t
  ·subst e; rw [zY, zY, zY]; exact hL
  rw [zW e, zW e, zW e]; exact (h.lv l hl).mono
 ·rw [e1]
  rw [e2] at hF'
  by_cases e : t' = t
  ·subst e
   rw [zY] at hF'
   rw [zY, zY]
   exact hF F hF'
  rw [zW e] at hF'
  have h0 := h.thr t' ht' F hF'
  by_cases e3 : lev t' = lev t
  ·rw [e3, zY, zY]
   rw [e3] at h0
   exact h0.frame c1 c2 (fun k hk => c3 k t' hk e) c4
  rw [zW e3, zW e3]; exact h0
 ·by_cases e : hl j = lev t
  ·rw [e, zY]; exact hH j e
  rw [zW e, hH2 j e]; exact h.had j
 rw [e1]
 by_cases e : l = lev t
 ·subst e; rw [zY, zY, zY]; exact hE
 rw [zW e, zW e, zW e]; exact h.ev l hl
theorem GInv.same (h : GInv S gens NL T lev hl n g L ow had ev) {Fo : Option StF} (e1 : g2.lv = g.lv) (e2 : g2.thr = put1 g.thr t Fo) (hF : ∀ F, Fo = some F → ThrI S (g.lv (lev t)) (ow (lev t)) t F) : GInv S gens NL T lev hl (n + 1) g2 L ow had ev := by
 refine ⟨fun l hl => by rw [e1]; exact (h.lv l hl).mono, fun t' ht' F hF' => ?_, h.had, fun l hl => by rw [e1]; exact h.ev l hl⟩
 rw [e1]
 rw [e2] at hF'
 by_cases e : t' = t
 ·subst e; rw [zY] at hF'; exact hF F hF'
 rw [zW e] at hF'; exact h.thr t' ht' F hF'
theorem EvI.keep {ev : List (Nat × Nat)} (h : EvI S V o ev) (hh : ∀ i, V2.hd i = V.hd i) (ho : ∀ i, 1 ≤ i → i ≤ S → (o2 i).1 = 1 ∨ (o2 i).1 = 3 ∨ (o2 i).1 = 5 → (o i).1 = 1 ∨ (o i).1 = 3 ∨ (o i).1 = 5) : EvI S V2 o2 ev :=
 ⟨fun x gn hx => by
  obtain ⟨a, b, d, e⟩ := h.all x gn hx
  rw [hh]
  exact ⟨a, b, d, fun he => e (ho x a b he)⟩⟩
theorem HadI.keep {j x : Nat} {hd : List Nat} (h : HadI S o j hd) (h1 : ∀ i, i ≠ x → o2 i = o i) (hx : (o x).1 ≠ 2) : HadI S o2 j hd :=
 ⟨h.nodup, fun y hy => by
  obtain ⟨a, b, d⟩ := h.all y hy
  exact ⟨a, b, by rw [h1 y fun e => hx (by rw [← e, d])]; exact d⟩⟩
end
end
section
open Go.RowKit
def Steps (D : Nat → GM → GM → Prop) (t d : Nat) : Nat → Nat → GM → GM → Prop
 | _, 0, g, g' => g' = g
 | n, k + 1, g, g' => ∃ g1, D n g g1 ∧ d < (g.thr t).length ∧ (g.thr t).length < 1000 ∧ Steps D t d (n + 1) k g1 g'
section
variable {D : Nat → GM → GM → Prop} {t d n a b k : Nat} {g g1 g2 : GM}
theorem Steps.cons (hD : D n g g1) (h1 : d < (g.thr t).length) (h2 : (g.thr t).length < 1000) (h : Steps D t d (n + 1) k g1 g2) : Steps D t d n (k + 1) g g2 := ⟨g1, hD, h1, h2, h⟩
theorem Steps.trans : ∀ {a n : Nat} {g : GM}, Steps D t d n a g g1 → Steps D t d (n + a) b g1 g2 → Steps D t d n (a + b) g g2
 | 0, n, g, h, h2 => by
  have e : g1 = g := h
  subst e
  rw [Nat.zero_add]; exact h2
 | a + 1, n, g, h, h2 => by
  obtain ⟨g', hD, h3, h4, h5⟩ := h
  rw [show a + 1 + b = a + b + 1 by omega]
  exact ⟨g', hD, h3, h4, h5.trans (by rw [show n + 1 + a = n + (a + 1) by omega]; exact h2)⟩
end
theorem Steps.alone {do_ : FuncId} {σ w : World} {K M : Mm} {lab : Nat → Nat} {p t q n l k most fn : Nat} {c : Nat → Int} {tp : List Nat} {s : MachS} {g g2 : GM} {us : List Nat} {rv : Value} (hS : Steps (fun n g g2 => zG do_ σ p t c tp n l g g2) t 0 n k (g.top t [] ⟨fn, 0, fun i => us.getD i 0⟩) g2) (h : Has σ M w) (hM : Mach M lab p s) (hB : Base K M lab) (hA : AbsM c tp n s g) (hn : n < 90000) (ht : (t : Int) < c 1) (hq : tp[t]? = some q) (hl : zT c t = (l : Nat)) (hi : g.thr t = []) (hr : Rd M 1 rv us.length (u64s (us.map fun u : Nat => (u : Int)))) (hu : us.length ≤ 16) (hd : g2.thr t = []) (hk : 0 < k) (hkm : k ≤ most) (hm : most < 1000) (hent : entB Tryz.prog do_ = true) :
  Calls Tryz.prog 14 #[.pointer (some ⟨p, 0, none⟩), .int .i64 (t : Nat), .func (.func do_) #[] #[], .int .i64 (most : Nat), .int .i64 (fn : Nat), rv] w fun r w' => r = .returned (.int .i64 (k : Nat)) ∧ ∃ M' lab' s', Has σ M' w' ∧ Mach M' lab' p s' ∧ Base K M' lab' ∧ AbsM c tp (n + k) s' g2 := by
 have hfr : (s.thr t).frames = [] := by rw [hA.thr.fr t ht, hi]; rfl
 have hB0 := hA.begun ht fn us
 rw [hi] at hB0
 refine (alone_rel (dv := .func (.func do_) #[] #[]) h hM hB (by rw [hA.ttp]; exact hq) (us := us.map fun u : Nat => (u : Int)) (by rw [List.length_map]; exact hr) (by rw [List.length_map]; exact hu) (by rw [hfr]; simp) fn (P := fun i s => ∃ gi, AbsM c tp (n + i) s gi ∧ Steps (fun n g g2 => zG do_ σ p t c tp n l g g2) t 0 (n + i) (k - i) gi g2) ⟨_, hB0, hS⟩ hk hkm (by omega) ?_).mono fun r w' ⟨hr, M', lab', s', h', hM', hB', gi, hA', hS'⟩ => ?_
 ·refine ⟨fun i hi M lab s w hw hM hB ⟨gi, hA, hS⟩ => ?_, fun i hi s ⟨gi, hA, _⟩ => by rw [hA.ttp]; exact hq, fun i h0 hi s ⟨gi, hA, hS⟩ => ?_, fun s ⟨gi, hA, hS⟩ => ?_⟩
  ·obtain ⟨j, hj⟩ : ∃ j, k - i = j + 1 := ⟨k - i - 1, by omega⟩
   rw [hj] at hS
   obtain ⟨g1, hD, h1, h2, hS⟩ := hS
   have hl1 : (g1.thr t).length < 1000 := by
    rcases j with _ | j
    ·have e : g2 = g1 := hS
     rw [← e, hd]; simp
    obtain ⟨_, _, _, h3, _⟩ := hS; exact h3
   refine (kF hw hM hB hA (by omega) ht hq hl (fun e => by rw [e] at h1; simp at h1) (by omega) (by omega) hent hD).mono fun r w' ⟨M', lab', s', hr, h', hM', hB', hA'⟩ => ?_
   exact ⟨M', lab', _, s', hr, h', hM', hB', g1, hA', by rw [show k - (i + 1) = j by omega]; exact hS⟩
  ·obtain ⟨j, hj⟩ : ∃ j, k - i = j + 1 := ⟨k - i - 1, by omega⟩
   rw [hj] at hS
   obtain ⟨g1, hD, h1, h2, hS⟩ := hS
   rw [hfr, hA.thr.fr t ht, List.length_map]; exact h1
  rw [Nat.sub_self] at hS
  have e : g2 = gi := hS
  rw [hA.thr.fr t ht, ← e, hd]; simp
 rw [Nat.sub_self] at hS'
 have e : g2 = gi := hS'
 subst e
 exact ⟨hr, M', lab', s', h', hM', hB', hA'⟩
section
variable {g : GM} {t l o v i : Nat} {fs fs' : List Fr} {F F' : Fr} {us : List Nat}
theorem uX (F : Fr) (i v k : Nat) : ((F.reg i v).goto k).r i = v := zY _ _ _
theorem wF {F : Fr} {i v k j : Nat} (h : j ≠ i) : ((F.reg i v).goto k).r j = F.r j := zW h
theorem top_top : (g.top t fs F).top t fs' F' = g.top t fs' F' := by unfold GM.top; simp only [oJ]
theorem uJ : (g.top t fs F).back t fs' us = g.back t fs' us := by unfold GM.top GM.back; simp only [oJ]
theorem mY : (g.top t fs F).set l o v = (g.set l o v).top t fs F := rfl
theorem top_hold : (g.top t fs F).hold l i = (g.hold l i).top t fs F := rfl
theorem zO : (g.top t fs F).thr t = fs ++ [F] := zY _ _ _
theorem zC : (g.back t fs us).thr t = fs := zY _ _ _
theorem zM (l' o' : Nat) : (g.set l o v).w l' o' = if l' = l ∧ o' = o then v else g.w l' o' := by
 show put1 g.w l (put1 (g.w l) o v) l' o' = _
 by_cases e : l' = l
 ·subst e
  rw [zY]
  by_cases e2 : o' = o
  ·subst e2; rw [zY, if_pos ⟨rfl, rfl⟩]
  rw [zW e2, if_neg (fun h => e2 h.2)]
 rw [zW e, if_neg (fun h => e h.1)]
theorem vC (l' i' : Nat) : (g.hold l i).held l' i' = if l' = l ∧ i' = i then true else g.held l' i' := by
 show put1 g.held l (put1 (g.held l) i true) l' i' = _
 by_cases e : l' = l
 ·subst e
  rw [zY]
  by_cases e2 : i' = i
  ·subst e2; rw [zY, if_pos ⟨rfl, rfl⟩]
  rw [zW e2, if_neg (fun h => e2 h.2)]
 rw [zW e, if_neg (fun h => e h.1)]
theorem vR (l' i' : Nat) : (g.drop l i).held l' i' = if l' = l ∧ i' = i then false else g.held l' i' := by
 show put1 g.held l (put1 (g.held l) i false) l' i' = _
 by_cases e : l' = l
 ·subst e
  rw [zY]
  by_cases e2 : i' = i
  ·subst e2; rw [zY, if_pos ⟨rfl, rfl⟩]
  rw [zW e2, if_neg (fun h => e2 h.2)]
 rw [zW e, if_neg (fun h => e h.1)]
end
structure LvR (S B m : Nat) (g : GM) (l : Nat) (L : List Nat) : Prop where
 chain : vX (fun i => g.w l (oLk B i)) (slOf (g.w l 0)) L
 nodup : L.Nodup
 rng : ∀ x ∈ L, 1 ≤ x ∧ x ≤ S ∧ g.held l x = false
 top : g.w l 0 < 18446744073709551616
 cntN : cnt (g.w l 0) ≤ m
 lk : ∀ i, 1 ≤ i → i ≤ S → g.w l (oLk B i) ≤ S
 hd : ∀ i, 1 ≤ i → i ≤ S → g.w l (oNd B S i 0) < 17179869184 ∧ zB (g.w l (oNd B S i 0)) ≤ m
def tX (B S : Nat) (g : GM) (t l : Nat) (fs : List Fr) (x : Nat) : GM := ((g.set l 0 (yK (g.w l (oLk B x)) (cnt (g.w l 0) + 1))).hold l x).back t fs [x, zB (g.w l (oNd B S x 0))]
def nL (B S : Nat) (g : GM) (l x : Nat) : GM := ((((((g.set l (oNd B S x 0) (zA (zB (g.w l (oNd B S x 0))) 3)).set l (oNd B S x 3) 0).set l (oNd B S x 4) 0).set l (oNd B S x 2) 0).set l (oNd B S x 1) 0).set l (oNd B S x 0) (zA (zB (g.w l (oNd B S x 0)) + 1) 0)).drop l x
def xO (B S gens : Nat) (g : GM) (t l : Nat) (fs : List Fr) (x : Nat) : GM := if zB (g.w l (oNd B S x 0)) + 1 < gens then (((nL B S g l x).set l (oLk B x) (slOf (g.w l 0))).set l 0 (yK x (cnt (g.w l 0) + 1))).back t fs [] else (nL B S g l x).back t fs []
section
variable {D : Nat → GM → GM → Prop} {σ : World} {p t q l n B S m d gens : Nat} {c : Nat → Int} {tp : List Nat} {g : GM} {fs : List Fr} {F : Fr} {L : List Nat} {x : Nat}
theorem nd0_lt {g : GM} (I : LvR S B m g l L) (x1 : 1 ≤ x) (x2 : x ≤ S) : g.w l (oNd B S x 0) < 18446744073709551616 := Nat.lt_trans (I.hd x x1 x2).1 (by decide)
theorem kT (hD : ∀ (n : Nat) (g g2 : GM) (fs : List Fr) (F : Fr), n < 100000 → (F.fn = 1 ∨ F.fn = 2) → g.thr t = fs ++ [F] → fs.length < 100000 → zG 105 σ p t c tp n l g g2 → D n g g2) (hn : n < 90000) (ht : (t : Int) < c 1) (hq : tp[t]? = some q) (hl : zT c t = (l : Nat)) (hlc : (l : Int) < c 0) (hthr : g.thr t = fs ++ [F]) (hfs : fs.length < 900) (hds : d ≤ fs.length) (hB' : c 11 = (B : Nat)) (hS' : c 10 = (S : Nat)) (hS60 : S ≤ 60) (hm : m < 1000000) (I : LvR S B m g l L) (h1 : F.fn = 1) (hp : F.pc = 0) (hr : F.r 1 < 18446744073709551616) (hL : L = []) : Steps D t d n 2 g (g.back t fs [0, 0]) := by
 have hs : slOf (g.w l 0) = 0 := by have := I.chain; rw [hL] at this; exact this
 have D0 := hD n g _ fs F (by omega) (.inl h1) hthr (by omega) (does_t0 (by omega) ht hq hl hlc hthr (by omega) hB' hS' h1 hp hr)
 have D1 := hD (n + 1) _ _ fs ((F.reg 1 (g.w l 0)).goto 1) (by omega) (.inl h1) zO (by omega) (does_t1a (B := B) (S := S) (n := n + 1) (g := g.top t fs ((F.reg 1 (g.w l 0)).goto 1)) (F := (F.reg 1 (g.w l 0)).goto 1) (by omega) ht hq hl hlc zO (by omega) hB' hS' h1 rfl I.top hs)
 rw [uJ] at D1
 exact .cons D0 (by rw [hthr]; simp; omega) (by rw [hthr]; simp; omega) (.cons D1 (by rw [zO]; simp; omega) (by rw [zO]; simp; omega) rfl)
theorem steps_take (hD : ∀ (n : Nat) (g g2 : GM) (fs : List Fr) (F : Fr), n < 100000 → (F.fn = 1 ∨ F.fn = 2) → g.thr t = fs ++ [F] → fs.length < 100000 → zG 105 σ p t c tp n l g g2 → D n g g2) (hn : n < 90000) (ht : (t : Int) < c 1) (hq : tp[t]? = some q) (hl : zT c t = (l : Nat)) (hlc : (l : Int) < c 0) (hthr : g.thr t = fs ++ [F]) (hfs : fs.length < 900) (hds : d ≤ fs.length) (hB' : c 11 = (B : Nat)) (hS' : c 10 = (S : Nat)) (hS60 : S ≤ 60) (hm : m < 1000000) (I : LvR S B m g l L) (h1 : F.fn = 1) (hp : F.pc = 0) (hr : F.r 1 < 18446744073709551616) {r : List Nat} (hL : L = x :: r) : Steps D t d n 4 g (tX B S g t l fs x) := by
 subst hL
 obtain ⟨hs, hx1, hc2⟩ := I.chain
 obtain ⟨_, hx2, hh⟩ := I.rng x List.mem_cons_self
 have hlk : g.w l (oLk B x) ≤ S := I.lk x hx1 hx2
 have D0 := hD n g _ fs F (by omega) (.inl h1) hthr (by omega) (does_t0 (by omega) ht hq hl hlc hthr (by omega) hB' hS' h1 hp hr)
 obtain ⟨F1, hF1⟩ : ∃ F1, F1 = (F.reg 1 (g.w l 0)).goto 1 := ⟨_, rfl⟩
 rw [← hF1] at D0
 have f1 : F1.fn = 1 ∧ F1.pc = 1 ∧ F1.r 1 = g.w l 0 := by rw [hF1]; exact ⟨h1, rfl, uX _ _ _ _⟩
 have D1 := hD (n + 1) _ _ fs _ (by omega) (.inl f1.1) zO (by omega) (does_t1b (B := B) (S := S) (n := n + 1) (g := g.top t fs F1) (F := F1) (by omega) ht hq hl hlc zO (by omega) hB' hS' f1.1 f1.2.1 (by rw [f1.2.2]; exact I.top) (by rw [f1.2.2, hs]; omega) (by rw [f1.2.2, hs]; exact hx2))
 rw [top_top, f1.2.2, hs] at D1
 obtain ⟨F2, hF2⟩ : ∃ F2, F2 = (F1.reg 2 ((g.top t fs F1).w l (oLk B x))).goto 2 := ⟨_, rfl⟩
 rw [← hF2] at D1
 have f2 : F2.fn = 1 ∧ F2.pc = 2 ∧ F2.r 1 = g.w l 0 ∧ F2.r 2 = g.w l (oLk B x) := by
  rw [hF2]; exact ⟨f1.1, rfl, (wF (by decide)).trans f1.2.2, uX _ _ _ _⟩
 have D2 := hD (n + 2) _ _ fs _ (by omega) (.inl f2.1) zO (by omega) (does_t2a (B := B) (S := S) (n := n + 2) (g := g.top t fs F2) (F := F2) (by omega) ht hq hl hlc zO (by omega) hB' hS' f2.1 f2.2.1 (by rw [f2.2.2.1]; exact I.top) (by rw [f2.2.2.1, hs]; omega) (by rw [f2.2.2.1, hs]; exact hx2) (by rw [f2.2.2.2]; omega) f2.2.2.1.symm (by rw [f2.2.2.1, hs]; exact hh))
 rw [mY, top_hold, top_top, f2.2.2.1, f2.2.2.2, hs] at D2
 obtain ⟨F3, hF3⟩ : ∃ F3, F3 = F2.goto 3 := ⟨_, rfl⟩
 rw [← hF3] at D2
 have f3 : F3.fn = 1 ∧ F3.pc = 3 ∧ F3.r 1 = g.w l 0 := by rw [hF3]; exact ⟨f2.1, rfl, f2.2.2.1⟩
 obtain ⟨g3, hg3⟩ : ∃ g3, g3 = (g.set l 0 (yK (g.w l (oLk B x)) (cnt (g.w l 0) + 1))).hold l x := ⟨_, rfl⟩
 rw [← hg3] at D2
 have hw3 : g3.w l (oNd B S x 0) = g.w l (oNd B S x 0) := by
  rw [hg3]
  show (g.set l 0 _).w l _ = _
  rw [zM, if_neg (fun h => by have := h.2; unfold oNd at this; omega)]
 have D3 := hD (n + 3) _ _ fs _ (by omega) (.inl f3.1) zO (by omega) (does_t3 (B := B) (S := S) (n := n + 3) (g := g3.top t fs F3) (F := F3) (by omega) ht hq hl hlc zO (by omega) hB' hS' f3.1 f3.2.1 (by rw [f3.2.2]; exact I.top) (by rw [f3.2.2, hs]; omega) (by rw [f3.2.2, hs]; exact hx2) (by rw [f3.2.2, hs]; show g3.w l _ < _; rw [hw3]; exact nd0_lt I hx1 hx2))
 have e3 : (g3.top t fs F3).w l (oNd B S x 0) = g.w l (oNd B S x 0) := hw3
 rw [uJ, f3.2.2, hs, e3] at D3
 have fin : tX B S g t l fs x = g3.back t fs [x, zB (g.w l (oNd B S x 0))] := by rw [hg3]; rfl
 rw [fin]
 exact .cons D0 (by rw [hthr]; simp; omega) (by rw [hthr]; simp; omega) (.cons D1 (by rw [zO]; simp; omega) (by rw [zO]; simp; omega) (.cons D2 (by rw [zO]; simp; omega) (by rw [zO]; simp; omega) (.cons D3 (by rw [zO]; simp; omega) (by rw [zO]; simp; omega) rfl)))
end
end
section
open Go.RowKit
structure OkF (c : Nat → Int) (g : StG) (l : Nat) (F : StF) : Prop where
 fn : F.fn = 1 ∨ F.fn = 2
 r1 : F.r1 < 18446744073709551616
 tk : F.fn = 1 → F.pc ≤ 3
 gv : F.fn = 2 → F.pc ≤ 9
 tk1 : F.fn = 1 → F.pc = 1 → (slOf F.r1 : Int) ≤ c 10
 tk2 : F.fn = 1 → F.pc = 2 → 1 ≤ slOf F.r1 ∧ (slOf F.r1 : Int) ≤ c 10 ∧ F.r2 < 9223372036854775808 ∧ ((g.lv l).top = F.r1 → (g.lv l).held (slOf F.r1) = false)
 tk3 : F.fn = 1 → F.pc = 3 → 1 ≤ slOf F.r1 ∧ (slOf F.r1 : Int) ≤ c 10
 r0 : F.fn = 2 → 1 ≤ F.r0 ∧ (F.r0 : Int) ≤ c 10
 gv1 : F.fn = 2 → F.pc = 1 → 1 ≤ F.r2 ∧ F.r2 ≤ 4294967296
 gv6 : F.fn = 2 → F.pc = 6 → F.r2 < 4294967296 ∧ (g.lv l).held F.r0 = true
 hd : ∀ i : Nat, 1 ≤ i → (i : Int) ≤ c 10 → (g.lv l).hd i < 18446744073709551616
end
section
open Go.RowKit
def frS (F : Fr) : StF := ⟨F.fn, F.pc, F.r 0, F.r 1, F.r 2⟩
section
variable {B S NL t l : Nat} {g g2 : GM} {z : StG} {fs : List Fr} {F F2 : Fr}
theorem StA.upd (A : StA B S NL g z) {V2 : LvG} (hw : ∀ l', l' ≠ l → ∀ o, g2.w l' o = g.w l' o) (hh : ∀ l' i, l' ≠ l → g2.held l' i = g.held l' i) (h1 : V2.top = g2.w l 0) (h2 : ∀ i, 1 ≤ i → i ≤ S → V2.lk i = g2.w l (oLk B i)) (h3 : ∀ i, 1 ≤ i → i ≤ S → V2.hd i = g2.w l (oNd B S i 0)) (h4 : ∀ i, 1 ≤ i → i ≤ S → V2.held i = g2.held l i) : StA B S NL g2 (z.lev l V2) := by
  refine ⟨fun l' hl => ?_, fun l' i hl a b => ?_, fun l' i hl a b => ?_, fun l' i hl a b => ?_⟩
  · show (put1 z.lv l V2 l').top = _
    by_cases e : l' = l
    · subst e; rw [zY]; exact h1
    rw [zW e, hw l' e]; exact A.top l' hl
  · show (put1 z.lv l V2 l').lk i = _
    by_cases e : l' = l
    · subst e; rw [zY]; exact h2 i a b
    rw [zW e, hw l' e]; exact A.lk l' i hl a b
  · show (put1 z.lv l V2 l').hd i = _
    by_cases e : l' = l
    · subst e; rw [zY]; exact h3 i a b
    rw [zW e, hw l' e]; exact A.hd l' i hl a b
  show (put1 z.lv l V2 l').held i = _
  by_cases e : l' = l
  · subst e; rw [zY]; exact h4 i a b
  rw [zW e, hh l' i e]; exact A.held l' i hl a b
theorem StA.top' (A : StA B S NL g z) (fs : List Fr) (F : Fr) (f : StF) : StA B S NL (g.top t fs F) (z.go t f) := ⟨A.top, A.lk, A.hd, A.held⟩
theorem StA.back' (A : StA B S NL g z) (fs : List Fr) (us : List Nat) (a b : Nat) : StA B S NL (g.back t fs us) (z.back t a b) := ⟨A.top, A.lk, A.hd, A.held⟩
end
structure StD (B S NL t l : Nat) (fs : List Fr) (F : Fr) (g g2 : GM) (z2 : StG) : Prop where
  abs : StA B S NL g2 z2
  go : (∃ F2, g2.thr = put1 g.thr t (fs ++ [F2]) ∧ z2.thr t = some (frS F2) ∧ g2.told = g.told ∧ F2.fn = F.fn) ∨ (g2.thr = put1 g.thr t fs ∧ z2.thr t = none ∧ (∀ u, u ≠ t → g2.told u = g.told u) ∧ g2.told t 0 = z2.t0 t ∧ g2.told t 1 = z2.t1 t)
  w : ∀ l' o, ¬ (l' = l ∧ (o = 0 ∨ (F.fn = 2 ∧ (o = oLk B (F.r 0) ∨ (oNd B S (F.r 0) 0 ≤ o ∧ o < oNd B S (F.r 0) 0 + 5))))) → g2.w l' o = g.w l' o
  z : F.fn = 2 → ∀ j, 1 ≤ j → j < 5 → (g.w l (oNd B S (F.r 0) j) = 0 ∨ (F.pc = 2 ∧ j = 3) ∨ (F.pc = 3 ∧ j = 4) ∨ (F.pc = 4 ∧ j = 2) ∨ (F.pc = 5 ∧ j = 1)) → g2.w l (oNd B S (F.r 0) j) = 0
  held : ∀ l' x, g2.held l' x = false → g.held l' x = false ∨ (l' = l ∧ x = F.r 0 ∧ F.fn = 2 ∧ F.pc = 6)
  wg : ∀ l' x, g2.wg l' x = g.wg l' x ∨ (l' = l ∧ x = F.r 0 ∧ F.fn = 2 ∧ F.pc = 6)
theorem st_take {σ : World} {p t q l n B S NL gens : Nat} {c : Nat → Int} {tp : List Nat} {g : GM} {z : StG} {fs : List Fr} {F : Fr} (hn : n < 100000) (ht : (t : Int) < c 1) (hq : tp[t]? = some q) (hl : zT c t = (l : Nat)) (hlc : (l : Int) < c 0) (hthr : g.thr t = fs ++ [F]) (hfs : fs.length < 100000) (hB' : c 11 = (B : Nat)) (hS' : c 10 = (S : Nat)) (hg' : c 12 = (gens : Nat)) (hNL : l < NL) (A : StA B S NL g z) (ok : OkF c z l (frS F)) (h1 : F.fn = 1) :
    (∃ g2, zG 105 σ p t c tp n l g g2 ∧ StD B S NL t l fs F g g2 (z.take t l (frS F))) := by
  have n2 : ¬ F.fn = 2 := by omega
  have nz : F.fn = 2 → ∀ P : Prop, P := fun e => absurd e n2
  have r1 : F.r 1 < 18446744073709551616 := ok.r1
  unfold StG.take
  by_cases hp : (frS F).pc = 0
  · rw [if_pos hp]
    refine ⟨_, does_t0 hn ht hq hl hlc hthr hfs hB' hS' h1 hp r1, A.top' _ _ _, .inl ⟨_, rfl, (zY _ _ _).trans ?_, rfl, rfl⟩, fun _ _ _ => rfl, fun e => nz e _, fun _ _ e => .inl e, fun _ _ => .inl rfl⟩
    show some (⟨F.fn, 1, F.r 0, (z.lv l).top, F.r 2⟩ : StF) = some ⟨F.fn, 1, F.r 0, g.w l 0, F.r 2⟩
    rw [A.top l hNL]
  rw [if_neg hp]
  by_cases hp1 : (frS F).pc = 1
  · rw [if_pos hp1]
    by_cases hs : slOf (frS F).r1 = 0
    · rw [if_pos hs]
      exact ⟨_, does_t1a hn ht hq hl hlc hthr hfs hB' hS' h1 hp1 r1 hs, A.back' _ _ _ _, .inr ⟨rfl, zY _ _ _, fun u hu => zW hu, by show put1 g.told t _ t 0 = put1 z.t0 t _ t; rw [zY, zY]; rfl, by show put1 g.told t _ t 1 = put1 z.t1 t _ t; rw [zY, zY]; rfl⟩, fun _ _ _ => rfl, fun e => nz e _, fun _ _ e => .inl e, fun _ _ => .inl rfl⟩
    rw [if_neg hs]
    have hs2 : slOf (F.r 1) ≤ S := by have := ok.tk1 h1 hp1; have e : slOf (frS F).r1 = slOf (F.r 1) := rfl; omega
    have hs1 : 1 ≤ slOf (F.r 1) := Nat.one_le_iff_ne_zero.2 hs
    refine ⟨_, does_t1b hn ht hq hl hlc hthr hfs hB' hS' h1 hp1 r1 hs hs2, A.top' _ _ _, ?_, fun _ _ _ => rfl, fun e => nz e _, fun _ _ e => .inl e, fun _ _ => .inl rfl⟩
    refine .inl ⟨_, rfl, (zY _ _ _).trans ?_, rfl, rfl⟩
    have e := A.lk l _ hNL hs1 hs2
    show some (⟨F.fn, 2, F.r 0, F.r 1, (z.lv l).lk (slOf (F.r 1))⟩ : StF) = some ⟨F.fn, 2, F.r 0, F.r 1, g.w l (oLk B (slOf (F.r 1)))⟩
    rw [e]
  rw [if_neg hp1]
  by_cases hp2 : (frS F).pc = 2
  · rw [if_pos hp2]
    obtain ⟨a1, a2, a3, a4⟩ := ok.tk2 h1 hp2
    have a2' : slOf (F.r 1) ≤ S := by have e : slOf (frS F).r1 = slOf (F.r 1) := rfl; omega
    have et := A.top l hNL
    by_cases hs : (z.lv l).top = (frS F).r1
    · rw [if_pos hs]
      have a1' : 1 ≤ slOf (F.r 1) := a1
      have hh : g.held l (slOf (F.r 1)) = false := by rw [← A.held l _ hNL a1' a2']; exact a4 hs
      refine ⟨_, does_t2a hn ht hq hl hlc hthr hfs hB' hS' h1 hp2 r1 (by have : 1 ≤ slOf (F.r 1) := a1; omega) a2' a3 (et.symm.trans hs) hh, ?_, .inl ⟨F.goto 3, rfl, zY _ _ _, rfl, rfl⟩, fun l' o h => ?_, fun e => nz e _, fun l' x e => .inl ?_, fun _ _ => .inl rfl⟩
      · refine StA.top' (A.upd (l := l) (fun l' e o => ?_) (fun l' i e => ?_) ?_ (fun i h1 h2 => ?_) (fun i h1 h2 => ?_) fun i h1 h2 => ?_) _ _ _
        · show (g.set l 0 _).w l' o = _
          rw [zM, if_neg fun h => e h.1]
        · rw [vC, if_neg fun h => e h.1]; rfl
        · show _ = (g.set l 0 _).w l 0
          rw [zM, if_pos ⟨rfl, rfl⟩]; rfl
        · show _ = (g.set l 0 _).w l _
          rw [zM, if_neg fun h => by have := h.2; unfold oLk at this; omega]; exact A.lk l i hNL h1 h2
        · show _ = (g.set l 0 _).w l _
          rw [zM, if_neg fun h => by have := h.2; unfold oNd at this; omega]; exact A.hd l i hNL h1 h2
        rw [vC]
        show put1 (z.lv l).held (slOf (F.r 1)) true i = _
        by_cases e : i = slOf (F.r 1)
        · subst e; rw [zY, if_pos ⟨rfl, rfl⟩]
        rw [zW e, if_neg fun h => e h.2]; exact A.held l i hNL h1 h2
      · show (g.set l 0 _).w l' o = _
        rw [zM, if_neg fun e => h ⟨e.1, .inl e.2⟩]
      have e2 : ((g.set l 0 (yK (F.r 2) (cnt (F.r 1) + 1))).hold l (slOf (F.r 1))).held l' x = false := e
      rw [vC] at e2
      split at e2
      · cases e2
      exact e2
    rw [if_neg hs]
    exact ⟨_, does_t2b hn ht hq hl hlc hthr hfs hB' hS' h1 hp2 r1 a3 (fun e => hs (et.trans e)), A.top' _ _ _, .inl ⟨F.goto 0, rfl, zY _ _ _, rfl, rfl⟩, fun _ _ _ => rfl, fun e => nz e _, fun _ _ e => .inl e, fun _ _ => .inl rfl⟩
  rw [if_neg hp2]
  have hp3 : (frS F).pc = 3 := by have := ok.tk h1; omega
  obtain ⟨a1, a2⟩ := ok.tk3 h1 hp3
  have a1' : 1 ≤ slOf (F.r 1) := a1
  have a2' : slOf (F.r 1) ≤ S := by have e : slOf (frS F).r1 = slOf (F.r 1) := rfl; omega
  have eh := A.hd l _ hNL a1' a2'
  have hz : g.w l (oNd B S (slOf (F.r 1)) 0) < 18446744073709551616 := by rw [← eh]; exact ok.hd _ a1' (by rw [hS']; omega)
  refine ⟨_, does_t3 hn ht hq hl hlc hthr hfs hB' hS' h1 hp3 r1 (by omega) a2' hz, A.back' _ _ _ _, .inr ⟨rfl, zY _ _ _, fun u hu => zW hu, ?_, ?_⟩, fun _ _ _ => rfl, fun e => nz e _, fun _ _ e => .inl e, fun _ _ => .inl rfl⟩
  · show put1 g.told t _ t 0 = put1 z.t0 t _ t
    rw [zY, zY]; rfl
  show put1 g.told t _ t 1 = put1 z.t1 t _ t
  rw [zY, zY]
  show zB (g.w l (oNd B S (slOf (F.r 1)) 0)) = zB ((z.lv l).hd (slOf (F.r 1)))
  rw [eh]
theorem st_give {σ : World} {p t q l n B S NL gens : Nat} {c : Nat → Int} {tp : List Nat} {g : GM} {z : StG} {fs : List Fr} {F : Fr} (hn : n < 100000) (ht : (t : Int) < c 1) (hq : tp[t]? = some q) (hl : zT c t = (l : Nat)) (hlc : (l : Int) < c 0) (hthr : g.thr t = fs ++ [F]) (hfs : fs.length < 100000) (hB' : c 11 = (B : Nat)) (hS' : c 10 = (S : Nat)) (hg' : c 12 = (gens : Nat)) (hNL : l < NL) (A : StA B S NL g z) (ok : OkF c z l (frS F)) (h2 : F.fn = 2) (h60 : S ≤ 60) :
    (∃ g2, zG 105 σ p t c tp n l g g2 ∧ StD B S NL t l fs F g g2 (z.give gens t l (frS F))) := by
  obtain ⟨x1, x2i⟩ := ok.r0 h2
  have x1 : 1 ≤ F.r 0 := x1
  have x2 : F.r 0 ≤ S := by have e : (frS F).r0 = F.r 0 := rfl; omega
  have eh := A.hd l _ hNL x1 x2
  have hz : g.w l (oNd B S (F.r 0) 0) < 18446744073709551616 := by rw [← eh]; exact ok.hd _ x1 (by rw [hS']; omega)
  have et := A.top l hNL
  have epc : (frS F).pc = F.pc := rfl
  unfold StG.give
  by_cases hp : (frS F).pc = 0
  · rw [if_pos hp]
    refine ⟨_, does_g0 hn ht hq hl hlc hthr hfs hB' hS' h2 hp x1 x2 hz, A.top' _ _ _, .inl ⟨_, rfl, (zY _ _ _).trans ?_, rfl, rfl⟩, fun _ _ _ => rfl, fun _ j j1 j5 hj => (by
      rcases hj with hj | hj
      · exact hj
      omega), fun _ _ e => .inl e, fun _ _ => .inl rfl⟩
    show some (⟨F.fn, 1, F.r 0, F.r 1, zB ((z.lv l).hd (F.r 0)) + 1⟩ : StF) = some ⟨F.fn, 1, F.r 0, F.r 1, zB (g.w l (oNd B S (F.r 0) 0)) + 1⟩
    rw [eh]
  rw [if_neg hp]
  by_cases hp1 : (frS F).pc = 1
  · rw [if_pos hp1]
    obtain ⟨g1, g2⟩ := ok.gv1 h2 hp1
    refine ⟨_, does_g1 hn ht hq hl hlc hthr hfs hB' hS' h2 hp1 x1 x2 g1 g2, ?_, .inl ⟨F.goto 2, rfl, zY _ _ _, rfl, rfl⟩, fun l' o h => ?_, fun _ j j1 j5 hj => ?_, fun _ _ e => .inl e, fun _ _ => .inl rfl⟩
    · skip
      refine StA.top' (A.upd (l := l) (fun l' e o => ?_) (fun l' i e => ?_) ?_ (fun i h1 h2 => ?_) (fun i h1 h2 => ?_) fun i h1 h2 => ?_) _ _ _
      · show (g.set l _ _).w l' o = _
        rw [zM, if_neg fun h => e h.1]
      · rfl
      · show _ = (g.set l _ _).w l 0
        rw [zM, if_neg fun h => by have := h.2; unfold oNd at this; omega]; exact A.top l hNL
      · show _ = (g.set l _ _).w l _
        rw [zM, if_neg fun h => by have := h.2; unfold oNd oLk at this; omega]; exact A.lk l i hNL h1 h2
      · show put1 (z.lv l).hd (F.r 0) _ i = (g.set l _ _).w l _
        rw [zM]
        by_cases e : i = F.r 0
        · subst e; rw [zY, if_pos ⟨rfl, rfl⟩]; rfl
        rw [zW e, if_neg fun h => by have := h.2; unfold oNd at this; omega]; exact A.hd l i hNL h1 h2
      exact A.held l i hNL h1 h2
    · show (g.set l _ _).w l' o = _
      rw [zM, if_neg fun e => h ⟨e.1, .inr ⟨h2, .inr (by have := e.2; unfold oNd at this ⊢; omega)⟩⟩]
    show (g.set l _ _).w l _ = 0
    rw [zM, if_neg fun h => by have := h.2; unfold oNd at this; omega]
    rcases hj with hj | hj
    · exact hj
    omega
  rw [if_neg hp1]
  by_cases hp2 : (frS F).pc = 2
  · skip
    rw [if_pos hp2]
    refine ⟨_, does_g2 hn ht hq hl hlc hthr hfs hB' hS' h2 hp2 x1 x2, ?_, .inl ⟨F.goto 3, rfl, zY _ _ _, rfl, rfl⟩, fun l' o h => ?_, fun _ j j1 j5 hj => ?_, fun _ _ e => .inl e, fun _ _ => .inl rfl⟩
    · refine StA.top' (⟨fun l' h => ?_, fun l' i h a b => ?_, fun l' i h a b => ?_, A.held⟩ : StA B S NL (g.set l (oNd B S (F.r 0) 3) 0) z) _ _ _
      · rw [zM, if_neg fun h => by have := h.2; unfold oNd at this; omega]; exact A.top l' h
      · rw [zM, if_neg fun h => by have := h.2; unfold oNd oLk at this; omega]; exact A.lk l' i h a b
      rw [zM, if_neg fun h => by have := h.2; unfold oNd at this; omega]; exact A.hd l' i h a b
    · show (g.set l _ 0).w l' o = _
      rw [zM, if_neg fun e => h ⟨e.1, .inr ⟨h2, .inr (by have := e.2; unfold oNd at this ⊢; omega)⟩⟩]
    show (g.set l _ 0).w l _ = 0
    rw [zM]
    split
    · rfl
    next hne =>
    rcases hj with hj | hj
    · exact hj
    exact absurd (⟨rfl, by have := hp2; have e : (frS F).pc = F.pc := rfl; have ej : j = 3 := by omega
                           rw [ej]⟩ : l = l ∧ oNd B S (F.r 0) j = oNd B S (F.r 0) 3) hne
  rw [if_neg hp2]
  by_cases hp3 : (frS F).pc = 3
  · skip
    rw [if_pos hp3]
    refine ⟨_, does_g3 hn ht hq hl hlc hthr hfs hB' hS' h2 hp3 x1 x2, ?_, .inl ⟨F.goto 4, rfl, zY _ _ _, rfl, rfl⟩, fun l' o h => ?_, fun _ j j1 j5 hj => ?_, fun _ _ e => .inl e, fun _ _ => .inl rfl⟩
    · refine StA.top' (⟨fun l' h => ?_, fun l' i h a b => ?_, fun l' i h a b => ?_, A.held⟩ : StA B S NL (g.set l (oNd B S (F.r 0) 4) 0) z) _ _ _
      · rw [zM, if_neg fun h => by have := h.2; unfold oNd at this; omega]; exact A.top l' h
      · rw [zM, if_neg fun h => by have := h.2; unfold oNd oLk at this; omega]; exact A.lk l' i h a b
      rw [zM, if_neg fun h => by have := h.2; unfold oNd at this; omega]; exact A.hd l' i h a b
    · show (g.set l _ 0).w l' o = _
      rw [zM, if_neg fun e => h ⟨e.1, .inr ⟨h2, .inr (by have := e.2; unfold oNd at this ⊢; omega)⟩⟩]
    show (g.set l _ 0).w l _ = 0
    rw [zM]
    split
    · rfl
    next hne =>
    rcases hj with hj | hj
    · exact hj
    exact absurd (⟨rfl, by have := hp3; have e : (frS F).pc = F.pc := rfl; have ej : j = 4 := by omega
                           rw [ej]⟩ : l = l ∧ oNd B S (F.r 0) j = oNd B S (F.r 0) 4) hne
  rw [if_neg hp3]
  by_cases hp4 : (frS F).pc = 4
  · skip
    rw [if_pos hp4]
    refine ⟨_, does_g4 hn ht hq hl hlc hthr hfs hB' hS' h2 hp4 x1 x2, ?_, .inl ⟨F.goto 5, rfl, zY _ _ _, rfl, rfl⟩, fun l' o h => ?_, fun _ j j1 j5 hj => ?_, fun _ _ e => .inl e, fun _ _ => .inl rfl⟩
    · refine StA.top' (⟨fun l' h => ?_, fun l' i h a b => ?_, fun l' i h a b => ?_, A.held⟩ : StA B S NL (g.set l (oNd B S (F.r 0) 2) 0) z) _ _ _
      · rw [zM, if_neg fun h => by have := h.2; unfold oNd at this; omega]; exact A.top l' h
      · rw [zM, if_neg fun h => by have := h.2; unfold oNd oLk at this; omega]; exact A.lk l' i h a b
      rw [zM, if_neg fun h => by have := h.2; unfold oNd at this; omega]; exact A.hd l' i h a b
    · show (g.set l _ 0).w l' o = _
      rw [zM, if_neg fun e => h ⟨e.1, .inr ⟨h2, .inr (by have := e.2; unfold oNd at this ⊢; omega)⟩⟩]
    show (g.set l _ 0).w l _ = 0
    rw [zM]
    split
    · rfl
    next hne =>
    rcases hj with hj | hj
    · exact hj
    exact absurd (⟨rfl, by have := hp4; have e : (frS F).pc = F.pc := rfl; have ej : j = 2 := by omega
                           rw [ej]⟩ : l = l ∧ oNd B S (F.r 0) j = oNd B S (F.r 0) 2) hne
  rw [if_neg hp4]
  by_cases hp5 : (frS F).pc = 5
  · skip
    rw [if_pos hp5]
    refine ⟨_, does_g5 hn ht hq hl hlc hthr hfs hB' hS' h2 hp5 x1 x2, ?_, .inl ⟨F.goto 6, rfl, zY _ _ _, rfl, rfl⟩, fun l' o h => ?_, fun _ j j1 j5 hj => ?_, fun _ _ e => .inl e, fun _ _ => .inl rfl⟩
    · refine StA.top' (⟨fun l' h => ?_, fun l' i h a b => ?_, fun l' i h a b => ?_, A.held⟩ : StA B S NL (g.set l (oNd B S (F.r 0) 1) 0) z) _ _ _
      · rw [zM, if_neg fun h => by have := h.2; unfold oNd at this; omega]; exact A.top l' h
      · rw [zM, if_neg fun h => by have := h.2; unfold oNd oLk at this; omega]; exact A.lk l' i h a b
      rw [zM, if_neg fun h => by have := h.2; unfold oNd at this; omega]; exact A.hd l' i h a b
    · show (g.set l _ 0).w l' o = _
      rw [zM, if_neg fun e => h ⟨e.1, .inr ⟨h2, .inr (by have := e.2; unfold oNd at this ⊢; omega)⟩⟩]
    show (g.set l _ 0).w l _ = 0
    rw [zM]
    split
    · rfl
    next hne =>
    rcases hj with hj | hj
    · exact hj
    exact absurd (⟨rfl, by have := hp5; have e : (frS F).pc = F.pc := rfl; have ej : j = 1 := by omega
                           rw [ej]⟩ : l = l ∧ oNd B S (F.r 0) j = oNd B S (F.r 0) 1) hne
  rw [if_neg hp5]
  by_cases hp6 : (frS F).pc = 6
  · rw [if_pos hp6]
    obtain ⟨k1, k2⟩ := ok.gv6 h2 hp6
    have k1 : F.r 2 < 4294967296 := k1
    have hh : g.held l (F.r 0) = true := by rw [← A.held l _ hNL x1 x2]; exact k2
    by_cases hs : (frS F).r2 < gens
    · rw [if_pos hs]
      refine ⟨_, does_g6a hn ht hq hl hlc hthr hfs hB' hS' h2 hp6 x1 x2 k1 hh (by rw [hg']; have e : (frS F).r2 = F.r 2 := rfl; omega), ?_, .inl ⟨F.goto 7, rfl, zY _ _ _, rfl, rfl⟩, fun l' o h => ?_, fun _ j j1 j5 hj => ?_, fun l' x e => ?_, fun l' x => ?_⟩
      · skip
        refine StA.top' (A.upd (l := l) (fun l' e o => ?_) (fun l' i e => ?_) ?_ (fun i h1 h2 => ?_) (fun i h1 h2 => ?_) fun i h1 h2 => ?_) _ _ _
        · show (g.set l _ _).w l' o = _
          rw [zM, if_neg fun h => e h.1]
        · rw [vR, if_neg fun h => e h.1]; rfl
        · show _ = (g.set l _ _).w l 0
          rw [zM, if_neg fun h => by have := h.2; unfold oNd at this; omega]; exact A.top l hNL
        · show _ = (g.set l _ _).w l _
          rw [zM, if_neg fun h => by have := h.2; unfold oNd oLk at this; omega]; exact A.lk l i hNL h1 h2
        · show put1 (z.lv l).hd (F.r 0) _ i = (g.set l _ _).w l _
          rw [zM]
          by_cases e : i = F.r 0
          · subst e; rw [zY, if_pos ⟨rfl, rfl⟩]; rfl
          rw [zW e, if_neg fun h => by have := h.2; unfold oNd at this; omega]; exact A.hd l i hNL h1 h2
        rw [vR]
        show put1 (z.lv l).held (F.r 0) false i = _
        by_cases e : i = F.r 0
        · subst e; rw [zY, if_pos ⟨rfl, rfl⟩]
        rw [zW e, if_neg fun h => e h.2]; exact A.held l i hNL h1 h2
      · show (g.set l _ _).w l' o = _
        rw [zM, if_neg fun e => h ⟨e.1, .inr ⟨h2, .inr (by have := e.2; unfold oNd at this ⊢; omega)⟩⟩]
      · show (g.set l _ _).w l _ = 0
        rw [zM, if_neg fun h => by have := h.2; unfold oNd at this; omega]
        rcases hj with hj | hj
        · exact hj
        omega
      · have e2 : ((g.set l (oNd B S (F.r 0) 0) (zA (F.r 2) 0)).drop l (F.r 0)).held l' x = false := e
        rw [vR] at e2
        split at e2
        · next hx => exact .inr ⟨hx.1, hx.2, h2, hp6⟩
        exact .inl e2
      by_cases hx : l' = l ∧ x = F.r 0
      · exact .inr ⟨hx.1, hx.2, h2, hp6⟩
      left
      show put1 g.wg l (put1 (g.wg l) (F.r 0) _) l' x = _
      by_cases e : l' = l
      · subst e; rw [zY, zW fun e => hx ⟨rfl, e⟩]
      rw [zW e]
    rw [if_neg hs]
    refine ⟨_, does_g6b hn ht hq hl hlc hthr hfs hB' hS' h2 hp6 x1 x2 k1 hh (by rw [hg']; have e : (frS F).r2 = F.r 2 := rfl; omega), ?_, .inr ⟨rfl, zY _ _ _, fun u hu => zW hu, by show put1 g.told t _ t 0 = put1 z.t0 t _ t; rw [zY, zY]; rfl, by show put1 g.told t _ t 1 = put1 z.t1 t _ t; rw [zY, zY]; rfl⟩, fun l' o h => ?_, fun _ j j1 j5 hj => ?_, fun l' x e => ?_, fun l' x => ?_⟩
    · skip
      refine StA.back' (A.upd (l := l) (fun l' e o => ?_) (fun l' i e => ?_) ?_ (fun i h1 h2 => ?_) (fun i h1 h2 => ?_) fun i h1 h2 => ?_) _ _ _ _
      · show (g.set l _ _).w l' o = _
        rw [zM, if_neg fun h => e h.1]
      · rw [vR, if_neg fun h => e h.1]; rfl
      · show _ = (g.set l _ _).w l 0
        rw [zM, if_neg fun h => by have := h.2; unfold oNd at this; omega]; exact A.top l hNL
      · show _ = (g.set l _ _).w l _
        rw [zM, if_neg fun h => by have := h.2; unfold oNd oLk at this; omega]; exact A.lk l i hNL h1 h2
      · show put1 (z.lv l).hd (F.r 0) _ i = (g.set l _ _).w l _
        rw [zM]
        by_cases e : i = F.r 0
        · subst e; rw [zY, if_pos ⟨rfl, rfl⟩]; rfl
        rw [zW e, if_neg fun h => by have := h.2; unfold oNd at this; omega]; exact A.hd l i hNL h1 h2
      rw [vR]
      show put1 (z.lv l).held (F.r 0) false i = _
      by_cases e : i = F.r 0
      · subst e; rw [zY, if_pos ⟨rfl, rfl⟩]
      rw [zW e, if_neg fun h => e h.2]; exact A.held l i hNL h1 h2
    · show (g.set l _ _).w l' o = _
      rw [zM, if_neg fun e => h ⟨e.1, .inr ⟨h2, .inr (by have := e.2; unfold oNd at this ⊢; omega)⟩⟩]
    · show (g.set l _ _).w l _ = 0
      rw [zM, if_neg fun h => by have := h.2; unfold oNd at this; omega]
      rcases hj with hj | hj
      · exact hj
      omega
    · have e2 : ((g.set l (oNd B S (F.r 0) 0) (zA (F.r 2) 0)).drop l (F.r 0)).held l' x = false := e
      rw [vR] at e2
      split at e2
      · next hx => exact .inr ⟨hx.1, hx.2, h2, hp6⟩
      exact .inl e2
    by_cases hx : l' = l ∧ x = F.r 0
    · exact .inr ⟨hx.1, hx.2, h2, hp6⟩
    left
    show put1 g.wg l (put1 (g.wg l) (F.r 0) _) l' x = _
    by_cases e : l' = l
    · subst e; rw [zY, zW fun e => hx ⟨rfl, e⟩]
    rw [zW e]
  rw [if_neg hp6]
  by_cases hp7 : (frS F).pc = 7
  · rw [if_pos hp7]
    refine ⟨_, does_g7 hn ht hq hl hlc hthr hfs hB' hS' h2 hp7 x1 x2, A.top' _ _ _, .inl ⟨_, rfl, (zY _ _ _).trans ?_, rfl, rfl⟩, fun _ _ _ => rfl, fun _ j j1 j5 hj => (by
      rcases hj with hj | hj
      · exact hj
      omega), fun _ _ e => .inl e, fun _ _ => .inl rfl⟩
    show some (⟨F.fn, 8, F.r 0, (z.lv l).top, F.r 2⟩ : StF) = some ⟨F.fn, 8, F.r 0, g.w l 0, F.r 2⟩
    rw [et]
  rw [if_neg hp7]
  by_cases hp8 : (frS F).pc = 8
  · rw [if_pos hp8]
    refine ⟨_, does_g8 hn ht hq hl hlc hthr hfs hB' hS' h2 hp8 x1 x2 ok.r1, ?_, .inl ⟨F.goto 9, rfl, zY _ _ _, rfl, rfl⟩, fun l' o h => ?_, fun _ j j1 j5 hj => ?_, fun _ _ e => .inl e, fun _ _ => .inl rfl⟩
    · refine StA.top' (A.upd (l := l) (fun l' e o => ?_) (fun l' i e => ?_) ?_ (fun i h1 h2 => ?_) (fun i h1 h2 => ?_) fun i h1 h2 => ?_) _ _ _
      · show (g.set l _ _).w l' o = _
        rw [zM, if_neg fun h => e h.1]
      · rfl
      · show _ = (g.set l _ _).w l 0
        rw [zM, if_neg fun h => by have := h.2; unfold oLk at this; omega]; exact et
      · show put1 (z.lv l).lk (F.r 0) _ i = (g.set l _ _).w l _
        rw [zM]
        by_cases e : i = F.r 0
        · subst e; rw [zY, if_pos ⟨rfl, rfl⟩]; rfl
        rw [zW e, if_neg fun h => by have := h.2; unfold oLk at this; omega]; exact A.lk l i hNL h1 h2
      · show _ = (g.set l _ _).w l _
        rw [zM, if_neg fun h => by have := h.2; unfold oNd oLk at this; omega]; exact A.hd l i hNL h1 h2
      exact A.held l i hNL h1 h2
    · show (g.set l _ _).w l' o = _
      rw [zM, if_neg fun e => h ⟨e.1, .inr ⟨h2, .inl e.2⟩⟩]
    show (g.set l _ _).w l _ = 0
    rw [zM, if_neg fun h => by have := h.2; unfold oNd oLk at this; omega]
    rcases hj with hj | hj
    · exact hj
    omega
  rw [if_neg hp8]
  have hp9 : (frS F).pc = 9 := by have := ok.gv h2; omega
  by_cases hs : (z.lv l).top = (frS F).r1
  · rw [if_pos hs]
    refine ⟨_, does_g9a hn ht hq hl hlc hthr hfs hB' hS' h2 hp9 x1 x2 ok.r1 (et.symm.trans hs), ?_, .inr ⟨rfl, zY _ _ _, fun u hu => zW hu, by show put1 g.told t _ t 0 = put1 z.t0 t _ t; rw [zY, zY]; rfl, by show put1 g.told t _ t 1 = put1 z.t1 t _ t; rw [zY, zY]; rfl⟩, fun l' o h => ?_, fun _ j j1 j5 hj => ?_, fun _ _ e => .inl e, fun _ _ => .inl rfl⟩
    · refine StA.back' (A.upd (l := l) (fun l' e o => ?_) (fun l' i e => ?_) ?_ (fun i h1 h2 => ?_) (fun i h1 h2 => ?_) fun i h1 h2 => ?_) _ _ _ _
      · show (g.set l _ _).w l' o = _
        rw [zM, if_neg fun h => e h.1]
      · rfl
      · show _ = (g.set l 0 _).w l 0
        rw [zM, if_pos ⟨rfl, rfl⟩]; rfl
      · show _ = (g.set l 0 _).w l _
        rw [zM, if_neg fun h => by have := h.2; unfold oLk at this; omega]; exact A.lk l i hNL h1 h2
      · show _ = (g.set l 0 _).w l _
        rw [zM, if_neg fun h => by have := h.2; unfold oNd at this; omega]; exact A.hd l i hNL h1 h2
      exact A.held l i hNL h1 h2
    · show (g.set l 0 _).w l' o = _
      rw [zM, if_neg fun e => h ⟨e.1, .inl e.2⟩]
    show (g.set l 0 _).w l _ = 0
    rw [zM, if_neg fun h => by have := h.2; unfold oNd at this; omega]
    rcases hj with hj | hj
    · exact hj
    omega
  rw [if_neg hs]
  exact ⟨_, does_g9b hn ht hq hl hlc hthr hfs hB' hS' h2 hp9 x1 x2 ok.r1 (fun e => hs (et.trans e)), A.top' _ _ _, .inl ⟨F.goto 7, rfl, zY _ _ _, rfl, rfl⟩, fun _ _ _ => rfl, fun _ j j1 j5 hj => (by
    rcases hj with hj | hj
    · exact hj
    omega), fun _ _ e => .inl e, fun _ _ => .inl rfl⟩
theorem st_does {σ : World} {p t q l n B S NL gens : Nat} {c : Nat → Int} {tp : List Nat} {g : GM} {z : StG} {fs : List Fr} {F : Fr} (hn : n < 100000) (ht : (t : Int) < c 1) (hq : tp[t]? = some q) (hl : zT c t = (l : Nat)) (hlc : (l : Int) < c 0) (hthr : g.thr t = fs ++ [F]) (hfs : fs.length < 100000) (hB' : c 11 = (B : Nat)) (hS' : c 10 = (S : Nat)) (hg' : c 12 = (gens : Nat)) (hNL : l < NL) (A : StA B S NL g z) (ok : OkF c z l (frS F)) (h60 : S ≤ 60) :
    (∃ g2, zG 105 σ p t c tp n l g g2 ∧ StD B S NL t l fs F g g2 (z.next gens t l (frS F))) := by
  unfold StG.next
  rcases ok.fn with h1 | h2
  · rw [if_pos h1]; exact st_take hn ht hq hl hlc hthr hfs hB' hS' hg' hNL A ok h1
  rw [if_neg (by omega)]; exact st_give hn ht hq hl hlc hthr hfs hB' hS' hg' hNL A ok h2 h60
end
section
open Go.RowKit
section
variable {S gens NL T n : Nat} {lev hl : Nat → Nat} {g g2 : StG} {L : Nat → List Nat} {ow : Nat → Nat → Nat × Nat} {had : Nat → List Nat} {ev : Nat → List (Nat × Nat)} {t l x : Nat} {F F2 : StF} {V V2 : LvG} {o o2 : Nat → Nat × Nat}
theorem LvI.point {K K2 : List Nat} (h : LvI S gens n V o K) (h1 : ∀ i, i ≠ x → V2.hd i = V.hd i ∧ V2.held i = V.held i ∧ o2 i = o i) (hchain : vX V2.lk (slOf V2.top) K2) (hnd : K2.Nodup) (hmem : ∀ y, y ∈ K2 ↔ 1 ≤ y ∧ y ≤ S ∧ (o2 y).1 = 1) (htop : V2.top < 18446744073709551616) (hcnt : cnt V2.top ≤ n + 1) (hlk : ∀ i, 1 ≤ i → i ≤ S → V2.lk i ≤ S)
  (hhd : V2.hd x < 17179869184 ∧ zB (V2.hd x) ≤ n + 1) (hon : (o2 x).1 = 2 ∨ (o2 x).1 = 3 ∨ (o2 x).1 = 4 → V2.held x = true) (hoff : (o2 x).1 = 1 ∨ (o2 x).1 = 5 → V2.held x = false ∧ V2.hd x % 4 = 0 ∧ zB (V2.hd x) < gens) (hnone : (o2 x).1 = 0 → V2.held x = true ∨ gens ≤ zB (V2.hd x)) (hcode : (o2 x).1 ≤ 5) : LvI S gens (n + 1) V2 o2 K2 := by
 refine ⟨hchain, hnd, hmem, htop, hcnt, hlk, fun i a b => ?_, fun i a b e => ?_, fun i a b e => ?_, fun i a b e => ?_, fun i a b => ?_⟩
 ·by_cases hi : i = x
  ·subst hi; exact hhd
  rw [(h1 i hi).1]; exact (h.mono.hd i a b)
 ·by_cases hi : i = x
  ·subst hi; exact hon e
  rw [(h1 i hi).2.1]; rw [(h1 i hi).2.2] at e; exact h.on i a b e
 ·by_cases hi : i = x
  ·subst hi; exact hoff e
  rw [(h1 i hi).2.1, (h1 i hi).1]; rw [(h1 i hi).2.2] at e; exact h.off i a b e
 ·by_cases hi : i = x
  ·subst hi; exact hnone e
  rw [(h1 i hi).2.1, (h1 i hi).1]; rw [(h1 i hi).2.2] at e; exact h.none i a b e
 by_cases hi : i = x
 ·subst hi; exact hcode
 rw [(h1 i hi).2.2]; exact h.code i a b
theorem LvI.mem2 {K : List Nat} (h : LvI S gens n V o K) (h1 : ∀ i, i ≠ x → o2 i = o i) (hx : (o x).1 ≠ 1) (hx2 : (o2 x).1 ≠ 1) : ∀ y, y ∈ K ↔ 1 ≤ y ∧ y ≤ S ∧ (o2 y).1 = 1 := fun y => by
 rw [h.mem y]
 by_cases e : y = x
 ·subst e
  exact ⟨fun h => absurd h.2.2 hx, fun h => absurd h.2.2 hx2⟩
 rw [h1 y e]
theorem LvI.far {K : List Nat} (h : LvI S gens n V o K) (hx0 : 1 ≤ x) (hx : (o x).1 ≠ 1) : slOf V.top ≠ x ∧ x ∉ K := by
 have hm : x ∉ K := fun hm => hx ((h.mem x).1 hm).2.2
 refine ⟨fun e => ?_, hm⟩
 obtain ⟨r, hr⟩ := h.first.2.2 (by omega)
 exact hm (by rw [hr, e]; exact List.mem_cons_self)
theorem gi_t0 (h : GInv S gens NL T lev hl n g L ow had ev) (ht : t < T) (hl0 : lev t < NL) (hF : g.thr t = some F) (h1 : F.fn = 1) (hp : F.pc = 0) : GInv S gens NL T lev hl (n + 1) (g.go t { F with r1 := (g.lv (lev t)).top, pc := 1 }) L ow had ev := by
 have h3 := h.thr t ht F hF
 have hV := h.lv (lev t) hl0
 have no2 : F.fn ≠ 2 := by omega
 refine h.same rfl rfl fun F' e => ?_
 cases e
 exact ⟨.inl h1, hV.top, fun _ => ⟨Past.refl _, hV.first.1⟩, fun _ => (by decide : 1 ≤ 3), fun h => absurd h no2, fun _ h => absurd h (show ¬ 1 = 2 by decide), fun _ h => absurd h (show ¬ 1 = 3 by decide), fun h => absurd h no2, fun h => absurd h no2, fun h => absurd h no2⟩
theorem gi_back (h : GInv S gens NL T lev hl n g L ow had ev) (ht : t < T) (hl0 : lev t < NL) (hF : g.thr t = some F) (a b : Nat) : GInv S gens NL T lev hl (n + 1) (g.back t a b) L ow had ev := h.same rfl rfl fun F' e => by cases e
theorem gi_t1b (h : GInv S gens NL T lev hl n g L ow had ev) (ht : t < T) (hl0 : lev t < NL) (hF : g.thr t = some F) (h1 : F.fn = 1) (hp : F.pc = 1) (hs : slOf F.r1 ≠ 0) : GInv S gens NL T lev hl (n + 1) (g.go t { F with r2 := (g.lv (lev t)).lk (slOf F.r1), pc := 2 }) L ow had ev := by
 have h3 := h.thr t ht F hF
 have hV := h.lv (lev t) hl0
 have no2 : F.fn ≠ 2 := by omega
 obtain ⟨p1, p2⟩ := h3.past (.inl ⟨h1, .inl hp⟩)
 refine h.same rfl rfl fun F' e => ?_
 cases e
 exact ⟨.inl h1, h3.r1, fun _ => ⟨p1, p2⟩, fun _ => (by decide : 2 ≤ 3), fun h => absurd h no2, fun _ _ => ⟨(show 1 ≤ slOf F.r1 by omega), hV.lk _ (by omega) p2, fun _ => rfl⟩, fun _ h => absurd h (show ¬ 2 = 3 by decide), fun h => absurd h no2, fun h => absurd h no2, fun h => absurd h no2⟩
theorem gi_t2b (h : GInv S gens NL T lev hl n g L ow had ev) (ht : t < T) (hl0 : lev t < NL) (hF : g.thr t = some F) (h1 : F.fn = 1) : GInv S gens NL T lev hl (n + 1) (g.go t { F with pc := 0 }) L ow had ev := by
 have h3 := h.thr t ht F hF
 have hV := h.lv (lev t) hl0
 have no2 : F.fn ≠ 2 := by omega
 refine h.same rfl rfl fun F' e => ?_
 cases e
 exact ⟨.inl h1, h3.r1, fun h => by rcases h with ⟨_, h | h⟩ | ⟨h, _⟩ <;> first | cases h | exact absurd h no2, fun _ => (by decide : 0 ≤ 3), fun h => absurd h no2, fun _ h => absurd h (show ¬ 0 = 2 by decide), fun _ h => absurd h (show ¬ 0 = 3 by decide), fun h => absurd h no2, fun h => absurd h no2, fun h => absurd h no2⟩
theorem gi_t2a (h : GInv S gens NL T lev hl n g L ow had ev) (ht : t < T) (hl0 : lev t < NL) (hF : g.thr t = some F) (hS : S ≤ 60) (hn : n < 100000) (h1 : F.fn = 1) (hp : F.pc = 2) (hs : (g.lv (lev t)).top = F.r1) : ∃ r, L (lev t) = slOf F.r1 :: r ∧ ow (lev t) (slOf F.r1) = (1, (ow (lev t) (slOf F.r1)).2) ∧
  GInv S gens NL T lev hl (n + 1) ((g.lev (lev t) { g.lv (lev t) with top := yK F.r2 (cnt F.r1 + 1), held := put1 (g.lv (lev t)).held (slOf F.r1) true }).go t { F with pc := 3 }) (put1 L (lev t) r) (put1 ow (lev t) (put1 (ow (lev t)) (slOf F.r1) (3, t))) had ev := by
 have h3 := h.thr t ht F hF
 have hV := h.lv (lev t) hl0
 have no2 : F.fn ≠ 2 := by omega
 obtain ⟨q1, q2, q3⟩ := h3.tk2 h1 hp
 obtain ⟨r, hr⟩ := hV.first.2.2 (by rw [hs]; omega)
 rw [hs] at hr
 have hc := hV.chain
 have hnd := hV.nodup
 have hm := fun y => hV.mem y
 have hcn := hV.cntN
 rw [hs] at hcn
 rw [hs, hr] at hc
 rw [hr] at hnd hm
 have hx := (hm (slOf F.r1)).1 List.mem_cons_self
 have hnx := (List.nodup_cons.1 hnd).1
 refine ⟨r, hr, Prod.ext hx.2.2 rfl, ?_⟩
 have U := h.upd (t := t) (x := slOf F.r1) (g2 := (g.lev (lev t) { g.lv (lev t) with top := yK F.r2 (cnt F.r1 + 1), held := put1 (g.lv (lev t)).held (slOf F.r1) true }).go t { F with pc := 3 }) (V2 := { g.lv (lev t) with top := yK F.r2 (cnt F.r1 + 1), held := put1 (g.lv (lev t)).held (slOf F.r1) true }) (o2 := put1 (ow (lev t)) (slOf F.r1) (3, t)) (L2 := r) (had2 := had) (ev2 := ev (lev t)) hl0 rfl rfl (.inr ?_) (fun i hi => ⟨rfl, rfl, zW hi⟩) (fun k t' hk _ e => ?_) (fun _ => .inr rfl) ?_ (fun F' e => ?_) (fun j _ => ?_) (fun _ _ => rfl) ?_
 ·rw [yV] at U; exact U
 ·show cnt (yK _ _) = _
  rw [qM (by omega), hs]
 ·have := congrArg Prod.fst e
  rw [hx.2.2] at this
  have h5 : 1 = k := this
  omega
 ·refine hV.point (x := slOf F.r1) (fun i hi => ⟨rfl, zW hi, zW hi⟩) ?_ (List.nodup_cons.1 hnd).2 (fun y => ?_) (top_lt _ _) ?_ hV.lk ?_ (fun _ => zY _ _ _) (fun e => ?_) (fun e => ?_) ?_
  ·show vX _ (slOf (yK _ _)) r
   rw [sl_top (by omega), q3 hs]
   exact hc.2.2
  ·have hy := hm y
   by_cases e : y = slOf F.r1
   ·subst e
    rw [zY]
    exact ⟨fun e => absurd e hnx, fun e => absurd e.2.2 (show ¬ 3 = 1 by decide)⟩
   rw [zW e, ← hy, List.mem_cons]
   exact ⟨.inr, fun h => h.resolve_left e⟩
  ·show cnt (yK _ _) ≤ _
   rw [qM (by omega)]; omega
  ·exact hV.mono.hd _ hx.1 hx.2.1
  ·rw [zY] at e; rcases e with e | e <;> cases e
  ·rw [zY] at e; cases e
  rw [zY]; exact (by decide : 3 ≤ 5)
 ·cases e
  exact ⟨.inl h1, h3.r1, fun h => by rcases h with ⟨_, h | h⟩ | ⟨h, _⟩ <;> first | cases h | exact absurd h no2, fun _ => (by decide : 3 ≤ 3), fun h => absurd h no2, fun _ h => absurd h (show ¬ 3 = 2 by decide), fun _ _ => ⟨hx.1, hx.2.1, zY _ _ _⟩, fun h => absurd h no2, fun h => absurd h no2, fun h => absurd h no2⟩
 ·rename_i hj
  have hj' := h.had j
  rw [hj] at hj'
  exact hj'.keep (x := slOf F.r1) (fun i hi => zW hi) (by rw [hx.2.2]; simp)
 refine (h.ev (lev t) hl0).keep (fun i => rfl) fun i a b e => ?_
 by_cases hi : i = slOf F.r1
 ·subst hi; exact .inl hx.2.2
 rw [zW hi] at e; exact e
theorem gi_t3 (h : GInv S gens NL T lev hl n g L ow had ev) (ht : t < T) (hl0 : lev t < NL) (hF : g.thr t = some F) (h1 : F.fn = 1) (hp : F.pc = 3) {j : Nat} (hj : hl j = lev t) (a b : Nat) : ow (lev t) (slOf F.r1) = (3, t) ∧ 1 ≤ slOf F.r1 ∧ slOf F.r1 ≤ S ∧ (∀ gn, (slOf F.r1, gn) ∈ ev (lev t) → gn < zB ((g.lv (lev t)).hd (slOf F.r1))) ∧ slOf F.r1 ∉ had j ∧
  GInv S gens NL T lev hl (n + 1) (g.back t a b) L (put1 ow (lev t) (put1 (ow (lev t)) (slOf F.r1) (2, j))) (put1 had j (had j ++ [slOf F.r1])) (put1 ev (lev t) (ev (lev t) ++ [(slOf F.r1, zB ((g.lv (lev t)).hd (slOf F.r1)))])) := by
 have h3 := h.thr t ht F hF
 have hV := h.lv (lev t) hl0
 have no2 : F.fn ≠ 2 := by omega
 obtain ⟨q1, q2, q3⟩ := h3.tk3 h1 hp
 have hE := h.ev (lev t) hl0
 have hlt : ∀ gn, (slOf F.r1, gn) ∈ ev (lev t) → gn < zB ((g.lv (lev t)).hd (slOf F.r1)) := fun gn hg => (hE.all _ _ hg).2.2.2 (by rw [q3]; exact .inr (.inl rfl))
 have hnj : ∀ j, hl j = lev t → slOf F.r1 ∉ had j := fun j hj hx => by
  have := ((h.had j).all _ hx).2.2
  rw [hj, q3] at this
  cases this
 refine ⟨q3, q1, q2, hlt, hnj j hj, ?_⟩
 have U := h.upd (t := t) (x := slOf F.r1) (g2 := g.back t a b) (V2 := g.lv (lev t)) (o2 := put1 (ow (lev t)) (slOf F.r1) (2, j)) (L2 := L (lev t)) (had2 := put1 had j (had j ++ [slOf F.r1])) (ev2 := ev (lev t) ++ [(slOf F.r1, zB ((g.lv (lev t)).hd (slOf F.r1)))]) hl0 (by rw [yV]; rfl) rfl (.inl rfl) (fun i hi => ⟨rfl, rfl, zW hi⟩) (fun k t' hk ht' e => ?_) (fun _ => .inr rfl) ?_ (fun F' e => by cases e) (fun j' hj' => ?_) (fun j' hj' => ?_) ?_
 ·rw [yV] at U; exact U
 ·rw [q3] at e; cases e; exact ht' rfl
 ·have hx1 : (ow (lev t) (slOf F.r1)).1 ≠ 1 := by rw [q3]; simp
  have hm := hV.mono
  refine hV.point (x := slOf F.r1) (fun i hi => ⟨rfl, rfl, zW hi⟩) hm.chain hm.nodup (hV.mem2 (fun i hi => zW hi) hx1 (by rw [zY]; simp)) hm.top hm.cntN hm.lk (hm.hd _ q1 q2) (fun _ => hV.on _ q1 q2 (by rw [q3]; exact .inr (.inl rfl))) (fun e => ?_) (fun e => ?_) ?_
  ·rw [zY] at e; rcases e with e | e <;> cases e
  ·rw [zY] at e; cases e
  rw [zY]; exact (by decide : 2 ≤ 5)
 ·by_cases ej : j' = j
  ·subst ej
   rw [zY]
   have h0 := h.had j'
   rw [hj] at h0
   refine ⟨?_, fun y hy => ?_⟩
   ·rw [List.nodup_append]
    exact ⟨h0.nodup, by simp, fun a ha b hb => by simp at hb; subst hb; exact fun e => hnj j' hj (by rw [← e]; exact ha)⟩
   rcases List.mem_append.1 hy with hy | hy
   ·obtain ⟨a, b, d⟩ := h0.all y hy
    exact ⟨a, b, by rw [zW (fun e => hnj j' hj (by rw [← e]; exact hy))]; exact d⟩
   simp at hy; subst hy; exact ⟨q1, q2, zY _ _ _⟩
  rw [zW ej]
  have h0 := h.had j'
  rw [hj'] at h0
  exact h0.keep (x := slOf F.r1) (fun i hi => zW hi) (by rw [q3]; simp)
 ·rw [zW (fun e => hj' (by rw [e]; exact hj))]
 refine ⟨fun y gn hy => ?_⟩
 rcases List.mem_append.1 hy with hy | hy
 ·obtain ⟨a, b, d, e⟩ := hE.all y gn hy
  refine ⟨a, b, d, fun he => ?_⟩
  by_cases ey : y = slOf F.r1
  ·subst ey; rw [zY] at he; rcases he with he | he | he <;> cases he
  rw [zW ey] at he; exact e he
 simp only [List.mem_singleton, Prod.mk.injEq] at hy
 obtain ⟨rfl, rfl⟩ := hy
 refine ⟨q1, q2, Nat.le_refl _, fun he => ?_⟩
 rw [zY] at he; rcases he with he | he | he <;> cases he
theorem gi_g0 (h : GInv S gens NL T lev hl n g L ow had ev) (ht : t < T) (hl0 : lev t < NL) (hF : g.thr t = some F) (h2 : F.fn = 2) (hp : F.pc = 0) : GInv S gens NL T lev hl (n + 1) (g.go t { F with r2 := zB ((g.lv (lev t)).hd F.r0) + 1, pc := 1 }) L ow had ev := by
 have h3 := h.thr t ht F hF
 have hV := h.lv (lev t) hl0
 have no1 : F.fn ≠ 1 := by omega
 obtain ⟨x1, x2, x3⟩ := h3.r0 h2
 rw [if_pos (by omega)] at x3
 refine h.same rfl rfl fun F' e => ?_
 cases e
 exact ⟨.inr h2, h3.r1, fun h => by rcases h with ⟨h, _⟩ | ⟨_, h | h⟩ <;> first | cases h | exact absurd h no1, fun h => absurd h no1, fun _ => (by decide : 1 ≤ 9), fun h => absurd h no1, fun h => absurd h no1, fun _ => ⟨x1, x2, x3⟩, fun _ _ _ => rfl, fun _ h => absurd h (show ¬ 1 = 9 by decide)⟩
theorem gi_g2 (h : GInv S gens NL T lev hl n g L ow had ev) (ht : t < T) (hl0 : lev t < NL) (hF : g.thr t = some F) (h2 : F.fn = 2) (k1 : 1 ≤ F.pc) (k2 : F.pc < 6) : GInv S gens NL T lev hl (n + 1) (g.go t { F with pc := F.pc + 1 }) L ow had ev := by
 have h3 := h.thr t ht F hF
 have hV := h.lv (lev t) hl0
 have no1 : F.fn ≠ 1 := by omega
 obtain ⟨x1, x2, x3⟩ := h3.r0 h2
 rw [if_pos (by omega)] at x3
 have hg := h3.gen h2 k1 (by omega)
 refine h.same rfl rfl fun F' e => ?_
 cases e
 refine ⟨.inr h2, h3.r1, fun h => ?_, fun h => absurd h no1, fun _ => (show F.pc + 1 ≤ 9 by omega), fun h => absurd h no1, fun h => absurd h no1, fun _ => ⟨x1, x2, ?_⟩, fun _ _ _ => hg, fun _ h => ?_⟩
 ·rcases h with ⟨h, _⟩ | ⟨_, h | h⟩
  ·exact absurd h no1
  ·have : F.pc + 1 = 8 := h
   omega
  have : F.pc + 1 = 9 := h
  omega
 ·show _ = (if F.pc + 1 ≤ 6 then 4 else 5, t)
  rw [if_pos (by omega)]; exact x3
 have : F.pc + 1 = 9 := h
 omega
theorem gi_g1 (h : GInv S gens NL T lev hl n g L ow had ev) (ht : t < T) (hl0 : lev t < NL) (hF : g.thr t = some F) (hn : n < 100000) (h2 : F.fn = 2) (hp : F.pc = 1) : GInv S gens NL T lev hl (n + 1) ((g.lev (lev t) { g.lv (lev t) with hd := put1 (g.lv (lev t)).hd F.r0 (zA (F.r2 - 1) 3) }).go t { F with pc := 2 }) L ow had ev := by
 have h3 := h.thr t ht F hF
 have hV := h.lv (lev t) hl0
 have no1 : F.fn ≠ 1 := by omega
 obtain ⟨x1, x2, x3⟩ := h3.r0 h2
 rw [if_pos (by omega)] at x3
 have hg := h3.gen h2 (by omega) (by omega)
 have hh := hV.hd _ x1 x2
 have eg : zB (zA (F.r2 - 1) 3) = zB ((g.lv (lev t)).hd F.r0) := by rw [rE (by omega)]; omega
 have egi : ∀ i, zB (put1 (g.lv (lev t)).hd F.r0 (zA (F.r2 - 1) 3) i) = zB ((g.lv (lev t)).hd i) := fun i => by
  by_cases hi : i = F.r0
  ·subst hi; rw [zY]; exact eg
  rw [zW hi]
 have U := h.upd (t := t) (x := F.r0) (g2 := (g.lev (lev t) { g.lv (lev t) with hd := put1 (g.lv (lev t)).hd F.r0 (zA (F.r2 - 1) 3) }).go t { F with pc := 2 }) (V2 := { g.lv (lev t) with hd := put1 (g.lv (lev t)).hd F.r0 (zA (F.r2 - 1) 3) }) (o2 := ow (lev t)) (L2 := L (lev t)) (had2 := had) (ev2 := ev (lev t)) hl0 rfl rfl (.inl rfl) (fun i hi => ⟨rfl, zW hi, rfl⟩) (fun k t' hk ht' e => ?_) (fun _ => .inr rfl) ?_ (fun F' e => ?_) (fun j hj => by have := h.had j; rw [hj] at this; exact this) (fun _ _ => rfl) ?_
 ·rw [yV, yV, yV] at U; exact U
 ·rw [x3] at e; cases e; exact ht' rfl
 ·have hm := hV.mono
  have ho : (ow (lev t) F.r0).1 = 4 := by rw [x3]
  refine hV.point (x := F.r0) (fun i hi => ⟨zW hi, rfl, rfl⟩) hm.chain hm.nodup hm.mem hm.top hm.cntN hm.lk ⟨?_, ?_⟩ (fun e => hV.on _ x1 x2 e) (fun e => ?_) (fun e => ?_) (by omega)
  ·show put1 _ _ _ F.r0 < _
   rw [zY]; exact mW _ _
  ·show zB (put1 _ _ _ F.r0) ≤ _
   rw [egi]; omega
  ·omega
  omega
 ·cases e
  exact ⟨.inr h2, h3.r1, fun h => by rcases h with ⟨h, _⟩ | ⟨_, h | h⟩ <;> first | cases h | exact absurd h no1, fun h => absurd h no1, fun _ => (by decide : 2 ≤ 9), fun h => absurd h no1, fun h => absurd h no1, fun _ => ⟨x1, x2, x3⟩, fun _ _ _ => (show F.r2 = zB (put1 _ _ _ F.r0) + 1 by rw [egi]; exact hg), fun _ h => absurd h (show ¬ 2 = 9 by decide)⟩
 refine ⟨fun y gn hy => ?_⟩
 obtain ⟨a, b, d, e⟩ := (h.ev (lev t) hl0).all y gn hy
 show _ ∧ _ ∧ gn ≤ zB (put1 _ _ _ y) ∧ (_ → gn < zB (put1 _ _ _ y))
 rw [egi]
 exact ⟨a, b, d, e⟩
theorem gi_g6a (h : GInv S gens NL T lev hl n g L ow had ev) (ht : t < T) (hl0 : lev t < NL) (hF : g.thr t = some F) (hn : n < 100000) (h2 : F.fn = 2) (hp : F.pc = 6) (hs : F.r2 < gens) : GInv S gens NL T lev hl (n + 1) ((g.lev (lev t) { g.lv (lev t) with hd := put1 (g.lv (lev t)).hd F.r0 (zA F.r2 0), held := put1 (g.lv (lev t)).held F.r0 false }).go t { F with pc := 7 }) L (put1 ow (lev t) (put1 (ow (lev t)) F.r0 (5, t))) had ev := by
 have h3 := h.thr t ht F hF
 have hV := h.lv (lev t) hl0
 have no1 : F.fn ≠ 1 := by omega
 obtain ⟨x1, x2, x3⟩ := h3.r0 h2
 rw [if_pos (by omega)] at x3
 have hg := h3.gen h2 (by omega) (by omega)
 have hh := hV.hd _ x1 x2
 have eg : zB (zA F.r2 0) = F.r2 := rE (by omega)
 have U := h.upd (t := t) (x := F.r0) (g2 := ((g.lev (lev t) { g.lv (lev t) with hd := put1 (g.lv (lev t)).hd F.r0 (zA F.r2 0), held := put1 (g.lv (lev t)).held F.r0 false }).go t { F with pc := 7 })) (V2 := { g.lv (lev t) with hd := put1 (g.lv (lev t)).hd F.r0 (zA F.r2 0), held := put1 (g.lv (lev t)).held F.r0 false }) (o2 := put1 (ow (lev t)) F.r0 (5, t)) (L2 := L (lev t)) (had2 := had) (ev2 := ev (lev t)) hl0 rfl rfl (.inl rfl) (fun i hi => ⟨rfl, zW hi, zW hi⟩) (fun k t' hk ht' e => ?_) (fun _ => .inr rfl) ?_ (fun F' e => ?_) (fun j hj => ?_) (fun _ _ => rfl) ?_
 ·rw [yV, yV] at U; exact U
 ·rw [x3] at e; cases e; exact ht' rfl
 ·have hm := hV.mono
  refine hV.point (x := F.r0) (fun i hi => ⟨zW hi, zW hi, zW hi⟩) hm.chain hm.nodup (hV.mem2 (fun i hi => zW hi) (by rw [x3]; simp) (by rw [zY]; simp)) hm.top hm.cntN hm.lk ⟨?_, ?_⟩ (fun e => ?_) (fun e => ?_) (fun e => ?_) (by rw [zY]; simp)
  ·show put1 _ _ _ F.r0 < _
   rw [zY]; exact mW _ _
  ·show zB (put1 _ _ _ F.r0) ≤ _
   rw [zY, eg]; omega
  ·rw [zY] at e; rcases e with e | e | e <;> cases e
  ·show put1 _ _ _ F.r0 = false ∧ put1 _ _ _ F.r0 % 4 = 0 ∧ zB (put1 _ _ _ F.r0) < gens
   rw [zY, zY, eg]
   rw [zY] at e
   exact ⟨rfl, head_st _, hs⟩
  show put1 _ _ _ F.r0 = true ∨ gens ≤ zB (put1 _ _ _ F.r0)
  rw [zY, zY, eg]
  rw [zY] at e
  cases e
 ·(cases e; exact ⟨.inr h2, h3.r1, fun h => by rcases h with ⟨h, _⟩ | ⟨_, h | h⟩ <;> first | cases h | exact absurd h no1, fun h => absurd h no1, fun _ => (by decide : 7 ≤ 9), fun h => absurd h no1, fun h => absurd h no1, fun _ => ⟨x1, x2, zY _ _ _⟩, fun _ _ h => absurd h (show ¬ 7 ≤ 6 by decide), fun _ h => absurd h (show ¬ 7 = 9 by decide)⟩)
 ·have h0 := h.had j
  rw [hj] at h0
  exact h0.keep (x := F.r0) (fun i hi => zW hi) (by rw [x3]; simp)
 refine ⟨fun y gn hy => ?_⟩
 obtain ⟨a, b, d, e⟩ := (h.ev (lev t) hl0).all y gn hy
 show _ ∧ _ ∧ gn ≤ zB (put1 _ _ _ y) ∧ (_ → gn < zB (put1 _ _ _ y))
 by_cases ey : y = F.r0
 ·subst ey
  rw [zY, eg]
  exact ⟨a, b, by omega, fun _ => by omega⟩
 rw [zW ey, zW ey]
 exact ⟨a, b, d, e⟩
theorem gi_g6b (h : GInv S gens NL T lev hl n g L ow had ev) (ht : t < T) (hl0 : lev t < NL) (hF : g.thr t = some F) (hn : n < 100000) (h2 : F.fn = 2) (hp : F.pc = 6) (hs : gens ≤ F.r2) (a b : Nat) : GInv S gens NL T lev hl (n + 1) ((g.lev (lev t) { g.lv (lev t) with hd := put1 (g.lv (lev t)).hd F.r0 (zA F.r2 0), held := put1 (g.lv (lev t)).held F.r0 false }).back t a b) L (put1 ow (lev t) (put1 (ow (lev t)) F.r0 (0, 0))) had ev := by
 have h3 := h.thr t ht F hF
 have hV := h.lv (lev t) hl0
 have no1 : F.fn ≠ 1 := by omega
 obtain ⟨x1, x2, x3⟩ := h3.r0 h2
 rw [if_pos (by omega)] at x3
 have hg := h3.gen h2 (by omega) (by omega)
 have hh := hV.hd _ x1 x2
 have eg : zB (zA F.r2 0) = F.r2 := rE (by omega)
 have U := h.upd (t := t) (x := F.r0) (g2 := ((g.lev (lev t) { g.lv (lev t) with hd := put1 (g.lv (lev t)).hd F.r0 (zA F.r2 0), held := put1 (g.lv (lev t)).held F.r0 false }).back t a b)) (V2 := { g.lv (lev t) with hd := put1 (g.lv (lev t)).hd F.r0 (zA F.r2 0), held := put1 (g.lv (lev t)).held F.r0 false }) (o2 := put1 (ow (lev t)) F.r0 (0, 0)) (L2 := L (lev t)) (had2 := had) (ev2 := ev (lev t)) hl0 rfl rfl (.inl rfl) (fun i hi => ⟨rfl, zW hi, zW hi⟩) (fun k t' hk ht' e => ?_) (fun _ => .inr rfl) ?_ (fun F' e => ?_) (fun j hj => ?_) (fun _ _ => rfl) ?_
 ·rw [yV, yV] at U; exact U
 ·rw [x3] at e; cases e; exact ht' rfl
 ·have hm := hV.mono
  refine hV.point (x := F.r0) (fun i hi => ⟨zW hi, zW hi, zW hi⟩) hm.chain hm.nodup (hV.mem2 (fun i hi => zW hi) (by rw [x3]; simp) (by rw [zY]; simp)) hm.top hm.cntN hm.lk ⟨?_, ?_⟩ (fun e => ?_) (fun e => ?_) (fun e => ?_) (by rw [zY]; simp)
  ·show put1 _ _ _ F.r0 < _
   rw [zY]; exact mW _ _
  ·show zB (put1 _ _ _ F.r0) ≤ _
   rw [zY, eg]; omega
  ·rw [zY] at e; rcases e with e | e | e <;> cases e
  ·show put1 _ _ _ F.r0 = false ∧ put1 _ _ _ F.r0 % 4 = 0 ∧ zB (put1 _ _ _ F.r0) < gens
   rw [zY, zY, eg]
   rw [zY] at e
   (rcases e with e | e <;> cases e)
  show put1 _ _ _ F.r0 = true ∨ gens ≤ zB (put1 _ _ _ F.r0)
  rw [zY, zY, eg]
  rw [zY] at e
  exact .inr hs
 ·cases e
 ·have h0 := h.had j
  rw [hj] at h0
  exact h0.keep (x := F.r0) (fun i hi => zW hi) (by rw [x3]; simp)
 refine ⟨fun y gn hy => ?_⟩
 obtain ⟨a, b, d, e⟩ := (h.ev (lev t) hl0).all y gn hy
 show _ ∧ _ ∧ gn ≤ zB (put1 _ _ _ y) ∧ (_ → gn < zB (put1 _ _ _ y))
 by_cases ey : y = F.r0
 ·subst ey
  rw [zY, eg]
  exact ⟨a, b, by omega, fun _ => by omega⟩
 rw [zW ey, zW ey]
 exact ⟨a, b, d, e⟩
theorem gi_g7 (h : GInv S gens NL T lev hl n g L ow had ev) (ht : t < T) (hl0 : lev t < NL) (hF : g.thr t = some F) (h2 : F.fn = 2) (hp : F.pc = 7) : GInv S gens NL T lev hl (n + 1) (g.go t { F with r1 := (g.lv (lev t)).top, pc := 8 }) L ow had ev := by
 have h3 := h.thr t ht F hF
 have hV := h.lv (lev t) hl0
 have no1 : F.fn ≠ 1 := by omega
 obtain ⟨x1, x2, x3⟩ := h3.r0 h2
 rw [if_neg (by omega)] at x3
 refine h.same rfl rfl fun F' e => ?_
 cases e
 exact ⟨.inr h2, hV.top, fun _ => ⟨Past.refl _, hV.first.1⟩, fun h => absurd h no1, fun _ => (by decide : 8 ≤ 9), fun h => absurd h no1, fun h => absurd h no1, fun _ => ⟨x1, x2, x3⟩, fun _ _ h => absurd h (show ¬ 8 ≤ 6 by decide), fun _ h => absurd h (show ¬ 8 = 9 by decide)⟩
theorem gi_g8 (h : GInv S gens NL T lev hl n g L ow had ev) (ht : t < T) (hl0 : lev t < NL) (hF : g.thr t = some F) (h2 : F.fn = 2) (hp : F.pc = 8) : GInv S gens NL T lev hl (n + 1) ((g.lev (lev t) { g.lv (lev t) with lk := put1 (g.lv (lev t)).lk F.r0 (slOf F.r1) }).go t { F with pc := 9 }) L ow had ev := by
 have h3 := h.thr t ht F hF
 have hV := h.lv (lev t) hl0
 have no1 : F.fn ≠ 1 := by omega
 obtain ⟨x1, x2, x3⟩ := h3.r0 h2
 rw [if_neg (by omega)] at x3
 obtain ⟨p1, p2⟩ := h3.past (.inr ⟨h2, .inl hp⟩)
 obtain ⟨f1, f2⟩ := hV.far x1 (show (ow (lev t) F.r0).1 ≠ 1 by rw [x3]; simp)
 have U := h.upd (t := t) (x := F.r0) (g2 := (g.lev (lev t) { g.lv (lev t) with lk := put1 (g.lv (lev t)).lk F.r0 (slOf F.r1) }).go t { F with pc := 9 }) (V2 := { g.lv (lev t) with lk := put1 (g.lv (lev t)).lk F.r0 (slOf F.r1) }) (o2 := ow (lev t)) (L2 := L (lev t)) (had2 := had) (ev2 := ev (lev t)) hl0 rfl rfl (.inl rfl) (fun i hi => ⟨zW hi, rfl, rfl⟩) (fun k t' hk ht' e => ?_) (fun _ => .inl f1) ?_ (fun F' e => ?_) (fun j hj => by have := h.had j; rw [hj] at this; exact this) (fun _ _ => rfl) ?_
 ·rw [yV, yV, yV] at U; exact U
 ·rw [x3] at e; cases e; exact ht' rfl
 ·have hm := hV.mono
  refine ⟨wG _ _ hm.chain fun y hy => zW fun e => f2 (by rw [← e]; exact hy), hm.nodup, hm.mem, hm.top, hm.cntN, fun i a b => ?_, hm.hd, hm.on, hm.off, hm.none, hm.code⟩
  show put1 _ _ _ i ≤ S
  by_cases hi : i = F.r0
  ·subst hi; rw [zY]; exact p2
  rw [zW hi]; exact hV.lk i a b
 ·cases e
  exact ⟨.inr h2, h3.r1, fun _ => ⟨p1, p2⟩, fun h => absurd h no1, fun _ => (by decide : 9 ≤ 9), fun h => absurd h no1, fun h => absurd h no1, fun _ => ⟨x1, x2, x3⟩, fun _ _ h => absurd h (show ¬ 9 ≤ 6 by decide), fun _ _ => zY _ _ _⟩
 exact (h.ev (lev t) hl0).keep (fun i => rfl) fun i a b e => e
theorem gi_g9b (h : GInv S gens NL T lev hl n g L ow had ev) (ht : t < T) (hl0 : lev t < NL) (hF : g.thr t = some F) (h2 : F.fn = 2) (hp : F.pc = 9) : GInv S gens NL T lev hl (n + 1) (g.go t { F with pc := 7 }) L ow had ev := by
 have h3 := h.thr t ht F hF
 have hV := h.lv (lev t) hl0
 have no1 : F.fn ≠ 1 := by omega
 obtain ⟨x1, x2, x3⟩ := h3.r0 h2
 rw [if_neg (by omega)] at x3
 refine h.same rfl rfl fun F' e => ?_
 cases e
 exact ⟨.inr h2, h3.r1, fun h => by rcases h with ⟨h, _⟩ | ⟨_, h | h⟩ <;> first | cases h | exact absurd h no1, fun h => absurd h no1, fun _ => (by decide : 7 ≤ 9), fun h => absurd h no1, fun h => absurd h no1, fun _ => ⟨x1, x2, x3⟩, fun _ _ h => absurd h (show ¬ 7 ≤ 6 by decide), fun _ h => absurd h (show ¬ 7 = 9 by decide)⟩
theorem gi_g9a (h : GInv S gens NL T lev hl n g L ow had ev) (ht : t < T) (hl0 : lev t < NL) (hF : g.thr t = some F) (hS : S ≤ 60) (hn : n < 100000) (h2 : F.fn = 2) (hp : F.pc = 9) (hs : (g.lv (lev t)).top = F.r1) (a b : Nat) : GInv S gens NL T lev hl (n + 1) ((g.lev (lev t) { g.lv (lev t) with top := yK F.r0 (cnt F.r1 + 1) }).back t a b) (put1 L (lev t) (F.r0 :: L (lev t))) (put1 ow (lev t) (put1 (ow (lev t)) F.r0 (1, 0))) had ev := by
 have h3 := h.thr t ht F hF
 have hV := h.lv (lev t) hl0
 have no1 : F.fn ≠ 1 := by omega
 obtain ⟨x1, x2, x3⟩ := h3.r0 h2
 rw [if_neg (by omega)] at x3
 have ho : (ow (lev t) F.r0).1 = 5 := by rw [x3]
 obtain ⟨f1, f2⟩ := hV.far x1 (by omega)
 have h9 := h3.lk9 h2 hp
 have hcn := hV.cntN
 rw [hs] at hcn
 have U := h.upd (t := t) (x := F.r0) (g2 := (g.lev (lev t) { g.lv (lev t) with top := yK F.r0 (cnt F.r1 + 1) }).back t a b) (V2 := { g.lv (lev t) with top := yK F.r0 (cnt F.r1 + 1) }) (o2 := put1 (ow (lev t)) F.r0 (1, 0)) (L2 := F.r0 :: L (lev t)) (had2 := had) (ev2 := ev (lev t)) hl0 rfl rfl (.inr ?_) (fun i hi => ⟨rfl, rfl, zW hi⟩) (fun k t' hk ht' e => ?_) (fun _ => .inr rfl) ?_ (fun F' e => by cases e) (fun j hj => ?_) (fun _ _ => rfl) ?_
 ·rw [yV] at U; exact U
 ·show cnt (yK _ _) = _
  rw [qM (by omega), hs]
 ·rw [x3] at e; cases e; exact ht' rfl
 ·have hm := hV.mono
  refine hV.point (x := F.r0) (fun i hi => ⟨rfl, rfl, zW hi⟩) ?_ (List.nodup_cons.2 ⟨f2, hV.nodup⟩) (fun y => ?_) (top_lt _ _) ?_ hV.lk (hm.hd _ x1 x2) (fun e => ?_) (fun e => hV.off _ x1 x2 (.inr ho)) (fun e => ?_) (by rw [zY]; simp)
  ·show vX _ (slOf (yK _ _)) _
   rw [sl_top (by omega)]
   refine ⟨rfl, x1, ?_⟩
   show vX (g.lv (lev t)).lk ((g.lv (lev t)).lk F.r0) _
   rw [h9, ← hs]
   exact hV.chain
  ·rw [List.mem_cons]
   by_cases e : y = F.r0
   ·subst e
    rw [zY]
    exact ⟨fun _ => ⟨x1, x2, rfl⟩, fun _ => .inl rfl⟩
   rw [zW e, ← hV.mem y]
   exact ⟨fun h => h.resolve_left e, .inr⟩
  ·show cnt (yK _ _) ≤ _
   rw [qM (by omega)]; omega
  ·rw [zY] at e; rcases e with e | e | e <;> cases e
  rw [zY] at e; cases e
 ·have h0 := h.had j
  rw [hj] at h0
  exact h0.keep (x := F.r0) (fun i hi => zW hi) (by rw [x3]; simp)
 refine (h.ev (lev t) hl0).keep (fun i => rfl) fun i a b e => ?_
 by_cases hi : i = F.r0
 ·subst hi; exact .inr (.inr ho)
 rw [zW hi] at e; exact e
end
end
section
open Go.RowKit
section
variable {S gens NL T n : Nat} {lev hl : Nat → Nat} {g g2 : StG} {L : Nat → List Nat} {ow : Nat → Nat → Nat × Nat} {had : Nat → List Nat} {ev : Nat → List (Nat × Nat)} {t l x j : Nat} {c : Nat → Int}
theorem gi_call_take (h : GInv S gens NL T lev hl n g L ow had ev) : GInv S gens NL T lev hl (n + 1) (g.go t ⟨1, 0, 0, 0, 0⟩) L ow had ev := by
 refine h.same rfl rfl fun F' e => ?_
 cases e
 exact ⟨.inl rfl, (by decide : 0 < 18446744073709551616), fun h => (by rcases h with ⟨_, h | h⟩ | ⟨h, _⟩ <;> cases h), fun _ => (by decide : 0 ≤ 3), fun h => (by cases h), fun _ h => (by cases h), fun _ h => (by cases h), fun h => (by cases h), fun h => (by cases h), fun h => (by cases h)⟩
theorem gi_call_give (h : GInv S gens NL T lev hl n g L ow had ev) (hl0 : lev t < NL) (hj : hl j = lev t) {i : Nat} (hx : (had j)[i]? = some x) : GInv S gens NL T lev hl (n + 1) (g.go t ⟨2, 0, x, 0, 0⟩) L (put1 ow (lev t) (put1 (ow (lev t)) x (4, t))) (put1 had j ((had j).eraseIdx i)) ev := by
 have hm : x ∈ had j := List.mem_of_getElem? hx
 have hH := h.had j
 obtain ⟨x1, x2, x3⟩ := hH.all x hm
 rw [hj] at x3
 have hV := h.lv (lev t) hl0
 have ho : (ow (lev t) x).1 = 2 := by rw [x3]
 have U := h.upd (t := t) (x := x) (g2 := g.go t ⟨2, 0, x, 0, 0⟩) (V2 := g.lv (lev t)) (o2 := put1 (ow (lev t)) x (4, t)) (L2 := L (lev t)) (had2 := put1 had j ((had j).eraseIdx i)) (ev2 := ev (lev t)) hl0 (by rw [yV]; rfl) rfl (.inl rfl) (fun i hi => ⟨rfl, rfl, zW hi⟩) (fun k t' hk _ e => ?_) (fun _ => .inr rfl) ?_ (fun F' e => ?_) (fun j' hj' => ?_) (fun j' hj' => ?_) ?_
 ·rw [yV, yV] at U; exact U
 ·rw [x3] at e; have := congrArg Prod.fst e; have h5 : 2 = k := this; omega
 ·have hm := hV.mono
  refine hV.point (x := x) (fun i hi => ⟨rfl, rfl, zW hi⟩) hm.chain hm.nodup (hV.mem2 (fun i hi => zW hi) (by omega) (by rw [zY]; simp)) hm.top hm.cntN hm.lk (hm.hd _ x1 x2) (fun _ => hV.on _ x1 x2 (.inl ho)) (fun e => ?_) (fun e => ?_) (by rw [zY]; simp)
  ·rw [zY] at e; rcases e with e | e <;> cases e
  rw [zY] at e; cases e
 ·cases e
  exact ⟨.inr rfl, (by decide : 0 < 18446744073709551616), fun h => (by rcases h with ⟨h, _⟩ | ⟨_, h | h⟩ <;> cases h), fun h => (by cases h), fun _ => (by decide : 0 ≤ 9), fun h => (by cases h), fun h => (by cases h), fun _ => ⟨x1, x2, zY _ _ _⟩, fun _ h => absurd h (show ¬ 1 ≤ 0 by decide), fun _ h => (by cases h)⟩
 ·by_cases ej : j' = j
  ·subst ej
   rw [zY]
   have hnd : ((had j').eraseIdx i).Nodup := hH.nodup.sublist (List.eraseIdx_sublist _ _)
   refine ⟨hnd, fun y hy => ?_⟩
   have hy2 : y ∈ had j' := (List.eraseIdx_sublist _ _).subset hy
   obtain ⟨a, b, d⟩ := hH.all y hy2
   have hne : y ≠ x := fun e => by
    subst e
    obtain ⟨q, hq⟩ := List.mem_iff_getElem?.1 hy
    rw [List.getElem?_eraseIdx] at hq
    have hi : i < (had j').length := (List.getElem?_eq_some_iff.1 hx).1
    split at hq
    ·have := (List.getElem?_inj hi hH.nodup).1 (hx.trans hq.symm)
     omega
    have := (List.getElem?_inj hi hH.nodup).1 (hx.trans hq.symm)
    omega
   rw [hj] at d
   exact ⟨a, b, by rw [zW hne]; exact d⟩
  rw [zW ej]
  have h0 := h.had j'
  rw [hj'] at h0
  refine ⟨h0.nodup, fun y hy => ?_⟩
  obtain ⟨a, b, d⟩ := h0.all y hy
  have hne : y ≠ x := fun e => by
   subst e
   rw [x3] at d
   have := congrArg Prod.snd d
   have h5 : j = j' := this
   exact ej h5.symm
  exact ⟨a, b, by rw [zW hne]; exact d⟩
 ·rw [zW (fun e => hj' (by rw [e]; exact hj))]
 refine (h.ev (lev t) hl0).keep (fun i => rfl) fun i a b e => ?_
 by_cases hi : i = x
 ·subst hi; rw [zY] at e; rcases e with e | e | e <;> cases e
 rw [zW hi] at e; exact e
end
end
section
open Go.RowKit
def vO (F : StF) : Option Nat := if F.fn = 1 then (if F.pc = 3 then some (slOf F.r1) else none) else some F.r0
def OwnI (T : Nat) (lev : Nat → Nat) (ow : Nat → Nat → Nat × Nat) (thr : Nat → Option StF) : Prop := ∀ l x, 3 ≤ (ow l x).1 → ∃ F, (ow l x).2 < T ∧ lev (ow l x).2 = l ∧ thr (ow l x).2 = some F ∧ vO F = some x
def EmpI (T : Nat) (thr : Nat → Option StF) (emp : Nat → Bool) : Prop := ∀ t, t < T → ∀ F, thr t = some F → F.fn = 1 → F.pc = 1 → slOf F.r1 = 0 → emp t = true
section
variable {S gens NL T n t x : Nat} {lev : Nat → Nat} {g g2 : StG} {L : Nat → List Nat} {ow o2 : Nat → Nat → Nat × Nat} {had : Nat → List Nat} {ev : Nat → List (Nat × Nat)} {thr : Nat → Option StF} {emp emp2 : Nat → Bool} {F : StF} {Fo : Option StF}
theorem OwnI.same (h : OwnI T lev ow thr) (hold : ∀ F y, thr t = some F → vO F = some y → ∃ F2, Fo = some F2 ∧ vO F2 = some y) : OwnI T lev ow (put1 thr t Fo) := fun l y hy => by
 obtain ⟨F0, a, b, d, e⟩ := h l y hy
 by_cases et : (ow l y).2 = t
 ·rw [et] at d
  obtain ⟨F2, e1, e2⟩ := hold F0 y d e
  exact ⟨F2, a, b, by rw [et, zY]; exact e1, e2⟩
 exact ⟨F0, a, b, by rw [zW et]; exact d, e⟩
theorem OwnI.step (h : OwnI T lev ow thr) (ht : t < T) {v : Nat × Nat} (hold : ∀ F y, thr t = some F → vO F = some y → y = x) (hnew : 3 ≤ v.1 → v.2 = t ∧ ∃ F2, Fo = some F2 ∧ vO F2 = some x) : OwnI T lev (put1 ow (lev t) (put1 (ow (lev t)) x v)) (put1 thr t Fo) := fun l y hy => by
 by_cases el : l = lev t
 ·subst el
  rw [zY] at hy ⊢
  by_cases ey : y = x
  ·subst ey
   rw [zY] at hy ⊢
   obtain ⟨e1, F2, e2, e3⟩ := hnew hy
   exact ⟨F2, by rw [e1]; exact ht, by rw [e1], by rw [e1, zY]; exact e2, e3⟩
  rw [zW ey] at hy ⊢
  obtain ⟨F0, a, b, d, e⟩ := h _ y hy
  by_cases et : (ow (lev t) y).2 = t
  ·rw [et] at d; exact absurd (hold F0 y d e) ey
  exact ⟨F0, a, b, by rw [zW et]; exact d, e⟩
 rw [zW el] at hy ⊢
 obtain ⟨F0, a, b, d, e⟩ := h l y hy
 by_cases et : (ow l y).2 = t
 ·exact absurd (by rw [← b, et]) el
 exact ⟨F0, a, b, by rw [zW et]; exact d, e⟩
theorem EmpI.step (h : EmpI T thr emp) (hm : ∀ u, emp u = true → emp2 u = true) (hn : ∀ F2, Fo = some F2 → F2.fn = 1 → F2.pc = 1 → slOf F2.r1 = 0 → emp2 t = true) : EmpI T (put1 thr t Fo) emp2 := fun u hu F hF => by
 by_cases e : u = t
 ·subst e; rw [zY] at hF; exact hn F hF
 rw [zW e] at hF; exact fun a b d => hm u (h u hu F hF a b d)
structure CrI (S gens NL T : Nat) (lev : Nat → Nat) (n : Nat) (g : StG) (L : Nat → List Nat) (ow : Nat → Nat → Nat × Nat) (had : Nat → List Nat) (ev : Nat → List (Nat × Nat)) (emp : Nat → Bool) : Prop where
 inv : GInv S gens NL T lev lev n g L ow had ev
 own : OwnI T lev ow g.thr
 emp : EmpI T g.thr emp
theorem CrI.rest (h : CrI S gens NL T lev n g L ow had ev emp) (hr : ∀ t, t < T → g.thr t = none) (l i : Nat) : (ow l i).1 ≤ 2 := by
 by_cases hc : 3 ≤ (ow l i).1
 ·obtain ⟨F, a, _, d, _⟩ := h.own l i hc
  rw [hr _ a] at d; cases d
 omega
theorem CrI.take (h : CrI S gens NL T lev n g L ow had ev emp) (hF : g.thr t = none) : CrI S gens NL T lev (n + 1) (g.go t ⟨1, 0, 0, 0, 0⟩) L ow had ev (put1 emp t false) :=
 ⟨gi_call_take h.inv, h.own.same (fun F y e => by rw [hF] at e; cases e), fun u hu F hu2 a b d => by
  have hu3 : put1 g.thr t (some ⟨1, 0, 0, 0, 0⟩) u = some F := hu2
  by_cases e : u = t
  ·subst e; rw [zY] at hu3; cases hu3; cases b
  rw [zW e] at hu3 ⊢; exact h.emp u hu F hu3 a b d⟩
theorem CrI.give (h : CrI S gens NL T lev n g L ow had ev emp) (ht : t < T) (hl0 : lev t < NL) (hF : g.thr t = none) {i : Nat} (hx : (had t)[i]? = some x) : CrI S gens NL T lev (n + 1) (g.go t ⟨2, 0, x, 0, 0⟩) L (put1 ow (lev t) (put1 (ow (lev t)) x (4, t))) (put1 had t ((had t).eraseIdx i)) ev emp :=
 ⟨gi_call_give h.inv hl0 rfl hx, h.own.step ht (fun F y e => by rw [hF] at e; cases e) (fun _ => ⟨rfl, _, rfl, rfl⟩), h.emp.step (fun _ h => h) fun F2 e a => by cases e; cases a⟩
def seen (lev : Nat → Nat) (t : Nat) (L L2 : Nat → List Nat) (emp : Nat → Bool) : Nat → Bool := fun y => emp y || (((L (lev t)).length == 0) || ((L2 (lev t)).length == 0)) && (lev y == lev t)
theorem wX {L L2 : Nat → List Nat} : ∀ u, emp u = true → seen lev t L L2 emp u = true := fun u h => by unfold seen; rw [h]; rfl
def CodeI (ow : Nat → Nat → Nat × Nat) (lv : Nat → LvG) : Prop := ∀ l, (ow l 1).1 = 0 ∧ (lv l).held 1 = true ∧ ∀ i, i ≠ 1 → (ow l i).1 = 0 → (lv l).held i = false
theorem CodeI.levU {lv : Nat → LvG} {l : Nat} {V : LvG} (h : CodeI ow lv) (e : V.held = (lv l).held) : CodeI ow (put1 lv l V) := fun l' => by
 by_cases el : l' = l
 ·subst el; rw [zY, e]; exact h l'
 rw [zW el]; exact h l'
theorem CodeI.step {lv : Nat → LvG} {l : Nat} {V : LvG} {v : Nat × Nat} (h : CodeI ow lv) (hx : (ow l x).1 ≠ 0) (e : ∀ i, i ≠ x → V.held i = (lv l).held i) (hv : v.1 = 0 → V.held x = false) : CodeI (put1 ow l (put1 (ow l) x v)) (put1 lv l V) := fun l' => by
 by_cases el : l' = l
 ·subst el
  rw [zY, zY]
  obtain ⟨a, b, d⟩ := h l'
  have x1 : 1 ≠ x := fun e => hx (by rw [← e]; exact a)
  refine ⟨by rw [zW x1]; exact a, by rw [e 1 x1]; exact b, fun i i1 hi => ?_⟩
  by_cases ei : i = x
  ·subst ei; rw [zY] at hi; exact hv hi
  rw [zW ei] at hi; rw [e i ei]; exact d i i1 hi
 rw [zW el, zW el]; exact h l'
theorem CodeI.step0 {lv : Nat → LvG} {l : Nat} {v : Nat × Nat} (h : CodeI ow lv) (hx : (ow l x).1 ≠ 0) (hv : v.1 ≠ 0) : CodeI (put1 ow l (put1 (ow l) x v)) lv := by
 have := h.step (V := lv l) (v := v) hx (fun _ _ => rfl) fun e => absurd e hv
 rw [yV] at this
 exact this
def HadC (P : Nat → Prop) (lev : Nat → Nat) (ow : Nat → Nat → Nat × Nat) (had : Nat → List Nat) : Prop := ∀ l i, (ow l i).1 = 2 → P (ow l i).2 ∧ lev (ow l i).2 = l ∧ i ∈ had (ow l i).2
theorem HadC.step {P : Nat → Prop} {l : Nat} {v : Nat × Nat} (h : HadC P lev ow had) (hv : v.1 ≠ 2) : HadC P lev (put1 ow l (put1 (ow l) x v)) had := fun l' i hi => by
 by_cases el : l' = l
 ·subst el
  rw [zY] at hi ⊢
  by_cases ei : i = x
  ·subst ei; rw [zY] at hi; exact absurd hi hv
  rw [zW ei] at hi ⊢; exact h l' i hi
 rw [zW el] at hi ⊢; exact h l' i hi
theorem HadC.told {P : Nat → Prop} {h2 : List Nat} (h : HadC P lev ow had) (hp : P t) (hs : ∀ y ∈ had t, y ∈ h2) (hx : x ∈ h2) : HadC P lev (put1 ow (lev t) (put1 (ow (lev t)) x (2, t))) (put1 had t h2) := fun l' i hi => by
 have old : (ow l' i).1 = 2 → P (ow l' i).2 ∧ lev (ow l' i).2 = l' ∧ i ∈ put1 had t h2 (ow l' i).2 := fun e => by
  obtain ⟨a, b, d⟩ := h l' i e
  refine ⟨a, b, ?_⟩
  by_cases et : (ow l' i).2 = t
  ·rw [et] at d ⊢; rw [zY]; exact hs _ d
  rw [zW et]; exact d
 by_cases el : l' = lev t
 ·subst el
  rw [zY] at hi ⊢
  by_cases ei : i = x
  ·subst ei
   rw [zY]
   exact ⟨hp, rfl, by show i ∈ put1 had t h2 t; rw [zY]; exact hx⟩
  rw [zW ei] at hi ⊢; exact old hi
 rw [zW el] at hi ⊢; exact old hi
structure CrN (S gens NL T : Nat) (lev : Nat → Nat) (n t : Nat) (F : StF) (g g2 : StG) (L : Nat → List Nat) (had : Nat → List Nat) (ev : Nat → List (Nat × Nat)) (emp : Nat → Bool) (ow : Nat → Nat → Nat × Nat) (L2 : Nat → List Nat) (ow2 : Nat → Nat → Nat × Nat) (had2 : Nat → List Nat) (ev2 : Nat → List (Nat × Nat)) : Prop where
 inv : CrI S gens NL T lev (n + 1) g2 L2 ow2 had2 ev2 (seen lev t L L2 emp)
 thr : ∀ u, u ≠ t → g2.thr u = g.thr u
 told : (had2 = had ∧ ev2 = ev ∧ (F.fn = 1 → g2.thr t = none → g2.t0 t = 0 ∧ emp t = true)) ∨
  (F.fn = 1 ∧ g2.thr t = none ∧ 1 ≤ g2.t0 t ∧ g2.t0 t ≤ S ∧ g2.t1 t < 4294967296 ∧ (g2.t0 t, g2.t1 t) ∉ ev (lev t) ∧ had2 = put1 had t (had t ++ [g2.t0 t]) ∧ ev2 = put1 ev (lev t) (ev (lev t) ++ [(g2.t0 t, g2.t1 t)]) ∧ (g2.lv (lev t)).held (g2.t0 t) = true)
 code : CodeI ow g.lv → CodeI ow2 g2.lv
 hadc : ∀ P : Nat → Prop, P t → HadC P lev ow had → HadC P lev ow2 had2
theorem crowd_take (h : CrI S gens NL T lev n g L ow had ev emp) (hS : S ≤ 60) (hn : n < 100000) (ht : t < T) (hl0 : lev t < NL) (hF : g.thr t = some F) (h1 : F.fn = 1) : ∃ L2 ow2 had2 ev2, CrN S gens NL T lev n t F g (g.take t (lev t) F) L had ev emp ow L2 ow2 had2 ev2 := by
 have h3 := h.inv.thr t ht F hF
 have hne : ∀ (f : Nat → Option StF) (o : Option StF) u, u ≠ t → put1 f t o u = f u := fun f o u hu => zW hu
 have hold : F.pc ≠ 3 → ∀ F0 y, g.thr t = some F0 → vO F0 = some y → ∃ F2 : StF, (none : Option StF) = some F2 ∧ vO F2 = some y := fun hp F0 y e hs => by
  rw [hF] at e; cases e
  unfold vO at hs; rw [if_pos h1, if_neg hp] at hs; cases hs
 have hold2 : F.pc ≠ 3 → ∀ (Fo : Option StF) F0 y, g.thr t = some F0 → vO F0 = some y → ∃ F2 : StF, Fo = some F2 ∧ vO F2 = some y := fun hp Fo F0 y e hs => by
  obtain ⟨_, a, _⟩ := hold hp F0 y e hs; cases a
 unfold StG.take
 by_cases hp : F.pc = 0
 ·rw [if_pos hp]
  refine ⟨L, ow, had, ev, ⟨⟨gi_t0 h.inv ht hl0 hF h1 hp, h.own.same (hold2 (by omega) _), h.emp.step wX fun F2 e _ _ hs => ?_⟩, hne _ _, .inl ⟨rfl, rfl, fun _ e => ?_⟩, fun hc => hc, fun _ _ hc => hc⟩⟩
  ·cases e
   have := (h.inv.lv (lev t) hl0).first.2.1 hs
   unfold seen; rw [this]; simp
  have : put1 g.thr t (some { F with r1 := (g.lv (lev t)).top, pc := 1 }) t = none := e
  rw [zY] at this; cases this
 rw [if_neg hp]
 by_cases hp1 : F.pc = 1
 ·rw [if_pos hp1]
  by_cases hs : slOf F.r1 = 0
  ·rw [if_pos hs]
   refine ⟨L, ow, had, ev, ⟨⟨gi_back h.inv ht hl0 hF 0 0, h.own.same (hold2 (by omega) _), h.emp.step wX fun F2 e => by cases e⟩, hne _ _, .inl ⟨rfl, rfl, fun _ _ => ⟨zY _ _ _, h.emp t ht F hF h1 hp1 hs⟩⟩, fun hc => hc, fun _ _ hc => hc⟩⟩
  rw [if_neg hs]
  refine ⟨L, ow, had, ev, ⟨⟨gi_t1b h.inv ht hl0 hF h1 hp1 hs, h.own.same (hold2 (by omega) _), h.emp.step wX fun F2 e _ b => by cases e; cases b⟩, hne _ _, .inl ⟨rfl, rfl, fun _ e => ?_⟩, fun hc => hc, fun _ _ hc => hc⟩⟩
  have : put1 g.thr t (some { F with r2 := (g.lv (lev t)).lk (slOf F.r1), pc := 2 }) t = none := e
  rw [zY] at this; cases this
 rw [if_neg hp1]
 by_cases hp2 : F.pc = 2
 ·rw [if_pos hp2]
  by_cases hs : (g.lv (lev t)).top = F.r1
  ·rw [if_pos hs]
   have hcd1 : (ow (lev t) (slOf F.r1)).1 ≠ 0 := by
    have q := (h3.tk2 h1 hp2).1
    obtain ⟨r, hr⟩ := (h.inv.lv (lev t) hl0).first.2.2 (by rw [hs]; omega)
    have hm := ((h.inv.lv (lev t) hl0).mem (slOf (g.lv (lev t)).top)).1 (by rw [hr]; exact List.mem_cons_self)
    rw [hs] at hm
    rw [hm.2.2]; decide
   obtain ⟨r, _, _, I⟩ := gi_t2a h.inv ht hl0 hF hS hn h1 hp2 hs
   refine ⟨_, _, had, ev, ⟨⟨I, h.own.step ht (fun F0 y e hs => ?_) (fun _ => ⟨rfl, _, rfl, ?_⟩), h.emp.step wX fun F2 e _ b => by cases e; cases b⟩, hne _ _, .inl ⟨rfl, rfl, fun _ e => ?_⟩, fun hc => hc.step hcd1 (fun i hi => zW hi) fun e => (nomatch e), fun _ _ hc => hc.step fun e => (nomatch e)⟩⟩
   ·obtain ⟨_, a, _⟩ := hold (by omega) F0 y e hs; cases a
   ·unfold vO; rw [if_pos (show (_ : StF).fn = 1 from h1), if_pos rfl]
   have : put1 g.thr t (some { F with pc := 3 }) t = none := e
   rw [zY] at this; cases this
  rw [if_neg hs]
  refine ⟨L, ow, had, ev, ⟨⟨gi_t2b h.inv ht hl0 hF h1, h.own.same (hold2 (by omega) _), h.emp.step wX fun F2 e _ b => by cases e; cases b⟩, hne _ _, .inl ⟨rfl, rfl, fun _ e => ?_⟩, fun hc => hc, fun _ _ hc => hc⟩⟩
  have : put1 g.thr t (some { F with pc := 0 }) t = none := e
  rw [zY] at this; cases this
 rw [if_neg hp2]
 have hp3 : F.pc = 3 := by have := h3.tk h1; omega
 obtain ⟨q0, q1, q2, q3, _, I⟩ := gi_t3 h.inv ht hl0 hF h1 hp3 (j := t) rfl (slOf F.r1) (zB ((g.lv (lev t)).hd (slOf F.r1)))
 have e0 : (g.back t (slOf F.r1) (zB ((g.lv (lev t)).hd (slOf F.r1)))).t0 t = slOf F.r1 := zY _ _ _
 have e1 : (g.back t (slOf F.r1) (zB ((g.lv (lev t)).hd (slOf F.r1)))).t1 t = zB ((g.lv (lev t)).hd (slOf F.r1)) := zY _ _ _
 refine ⟨L, _, _, _, ⟨⟨I, h.own.step ht (fun F0 y e hs => ?_) (fun h => absurd h (show ¬ 3 ≤ 2 by decide)), h.emp.step wX fun F2 e => by cases e⟩, hne _ _, .inr ⟨h1, zY _ _ _, ?_⟩, fun hc => hc.step0 (by rw [q0]; exact fun e => (nomatch e)) fun e => (nomatch e), fun _ hp hc => hc.told hp (fun y hy => List.mem_append_left _ hy) (List.mem_append_right _ List.mem_cons_self)⟩⟩
 ·rw [hF] at e; cases e
  unfold vO at hs; rw [if_pos h1, if_pos hp3] at hs; cases hs; rfl
 rw [e0, e1]
 exact ⟨q1, q2, yG _ _ _, fun hm => absurd (q3 _ hm) (Nat.lt_irrefl _), rfl, rfl, (h.inv.lv (lev t) hl0).on _ q1 q2 (by rw [q0]; exact .inr (.inl rfl))⟩
theorem crowd_give (h : CrI S gens NL T lev n g L ow had ev emp) (hS : S ≤ 60) (hn : n < 100000) (ht : t < T) (hl0 : lev t < NL) (hF : g.thr t = some F) (h2 : F.fn = 2) : ∃ L2 ow2 had2 ev2, CrN S gens NL T lev n t F g (g.give gens t (lev t) F) L had ev emp ow L2 ow2 had2 ev2 := by
 have h3 := h.inv.thr t ht F hF
 have n1 : F.fn ≠ 1 := by omega
 have hne : ∀ (f : Nat → Option StF) (o : Option StF) u, u ≠ t → put1 f t o u = f u := fun f o u hu => zW hu
 have hsl : vO F = some F.r0 := by unfold vO; rw [if_neg n1]
 have hold : ∀ F2 : StF, F2.fn = F.fn → F2.r0 = F.r0 → ∀ F0 y, g.thr t = some F0 → vO F0 = some y → ∃ F3 : StF, some F2 = some F3 ∧ vO F3 = some y := fun F2 e1 e2 F0 y e hs => by
  rw [hF] at e; cases e
  refine ⟨F2, rfl, ?_⟩
  unfold vO
  rw [if_neg (by omega), e2]
  rw [hsl] at hs; exact hs
 have only : ∀ F0 y, g.thr t = some F0 → vO F0 = some y → y = F.r0 := fun F0 y e hs => by
  rw [hF] at e; cases e
  rw [hsl] at hs; cases hs; rfl
 have hno : ∀ (Fo : Option StF), (∀ F2, Fo = some F2 → F2.fn = F.fn) → ∀ F2, Fo = some F2 → F2.fn = 1 → F2.pc = 1 → slOf F2.r1 = 0 → ∀ b : Bool, b = true := fun Fo hf F2 e a => absurd (by rw [← hf F2 e]; exact a) n1
 have tld : ∀ g2 : StG, F.fn = 1 → g2.thr t = none → g2.t0 t = 0 ∧ emp t = true := fun _ e => absurd e n1
 have hcd2 : F.fn = 2 → (ow (lev t) F.r0).1 ≠ 0 := fun a => by
  rw [(h3.r0 a).2.2]
  split <;> (intro e; cases e)
 unfold StG.give
 by_cases hp : F.pc = 0
 ·rw [if_pos hp]
  exact ⟨L, ow, had, ev, ⟨⟨gi_g0 h.inv ht hl0 hF h2 hp, h.own.same (hold _ rfl rfl), h.emp.step wX fun F2 e a b d => hno _ (fun _ e => by cases e; rfl) F2 e a b d _⟩, hne _ _, .inl ⟨rfl, rfl, tld _⟩, fun hc => hc, fun _ _ hc => hc⟩⟩
 rw [if_neg hp]
 by_cases hp1 : F.pc = 1
 ·rw [if_pos hp1]
  exact ⟨L, ow, had, ev, ⟨⟨gi_g1 h.inv ht hl0 hF hn h2 hp1, h.own.same (hold _ rfl rfl), h.emp.step wX fun F2 e a b d => hno _ (fun _ e => by cases e; rfl) F2 e a b d _⟩, hne _ _, .inl ⟨rfl, rfl, tld _⟩, fun hc => hc.levU rfl, fun _ _ hc => hc⟩⟩
 rw [if_neg hp1]
 have mid : ∀ k, F.pc + 1 = k → 1 ≤ F.pc → F.pc < 6 → ∃ L2 ow2 had2 ev2, CrN S gens NL T lev n t F g (g.go t { F with pc := k }) L had ev emp ow L2 ow2 had2 ev2 := fun k hk a b => by
  subst hk
  exact ⟨L, ow, had, ev, ⟨⟨gi_g2 h.inv ht hl0 hF h2 a b, h.own.same (hold _ rfl rfl), h.emp.step wX fun F2 e a b d => hno _ (fun _ e => by cases e; rfl) F2 e a b d _⟩, hne _ _, .inl ⟨rfl, rfl, tld _⟩, fun hc => hc, fun _ _ hc => hc⟩⟩
 by_cases hp2 : F.pc = 2
 ·rw [if_pos hp2]; exact mid 3 (by omega) (by omega) (by omega)
 rw [if_neg hp2]
 by_cases hp3 : F.pc = 3
 ·rw [if_pos hp3]; exact mid 4 (by omega) (by omega) (by omega)
 rw [if_neg hp3]
 by_cases hp4 : F.pc = 4
 ·rw [if_pos hp4]; exact mid 5 (by omega) (by omega) (by omega)
 rw [if_neg hp4]
 by_cases hp5 : F.pc = 5
 ·rw [if_pos hp5]; exact mid 6 (by omega) (by omega) (by omega)
 rw [if_neg hp5]
 by_cases hp6 : F.pc = 6
 ·rw [if_pos hp6]
  by_cases hs : F.r2 < gens
  ·rw [if_pos hs]
   exact ⟨L, _, had, ev, ⟨⟨gi_g6a h.inv ht hl0 hF hn h2 hp6 hs, h.own.step ht only (fun _ => ⟨rfl, _, rfl, by unfold vO; rw [if_neg (show ¬ (_ : StF).fn = 1 from n1)]⟩), h.emp.step wX fun F2 e a b d => hno _ (fun _ e => by cases e; rfl) F2 e a b d _⟩, hne _ _, .inl ⟨rfl, rfl, tld _⟩, fun hc => hc.step (hcd2 (by omega)) (fun i hi => zW hi) fun _ => zY _ _ _, fun _ _ hc => hc.step fun e => (nomatch e)⟩⟩
  rw [if_neg hs]
  exact ⟨L, _, had, ev, ⟨⟨gi_g6b h.inv ht hl0 hF hn h2 hp6 (by omega) 0 0, h.own.step ht only (fun h => absurd h (show ¬ 3 ≤ 0 by decide)), h.emp.step wX fun F2 e => by cases e⟩, hne _ _, .inl ⟨rfl, rfl, tld _⟩, fun hc => hc.step (hcd2 (by omega)) (fun i hi => zW hi) fun _ => zY _ _ _, fun _ _ hc => hc.step fun e => (nomatch e)⟩⟩
 rw [if_neg hp6]
 by_cases hp7 : F.pc = 7
 ·rw [if_pos hp7]
  exact ⟨L, ow, had, ev, ⟨⟨gi_g7 h.inv ht hl0 hF h2 hp7, h.own.same (hold _ rfl rfl), h.emp.step wX fun F2 e a b d => hno _ (fun _ e => by cases e; rfl) F2 e a b d _⟩, hne _ _, .inl ⟨rfl, rfl, tld _⟩, fun hc => hc, fun _ _ hc => hc⟩⟩
 rw [if_neg hp7]
 by_cases hp8 : F.pc = 8
 ·rw [if_pos hp8]
  exact ⟨L, ow, had, ev, ⟨⟨gi_g8 h.inv ht hl0 hF h2 hp8, h.own.same (hold _ rfl rfl), h.emp.step wX fun F2 e a b d => hno _ (fun _ e => by cases e; rfl) F2 e a b d _⟩, hne _ _, .inl ⟨rfl, rfl, tld _⟩, fun hc => hc.levU rfl, fun _ _ hc => hc⟩⟩
 rw [if_neg hp8]
 have hp9 : F.pc = 9 := by have := h3.gv h2; omega
 by_cases hs : (g.lv (lev t)).top = F.r1
 ·rw [if_pos hs]
  exact ⟨_, _, had, ev, ⟨⟨gi_g9a h.inv ht hl0 hF hS hn h2 hp9 hs 0 0, h.own.step ht only (fun h => absurd h (show ¬ 3 ≤ 1 by decide)), h.emp.step wX fun F2 e => by cases e⟩, hne _ _, .inl ⟨rfl, rfl, tld _⟩, fun hc => hc.step (hcd2 (by omega)) (fun i hi => rfl) fun e => (nomatch e), fun _ _ hc => hc.step fun e => (nomatch e)⟩⟩
 rw [if_neg hs]
 exact ⟨L, ow, had, ev, ⟨⟨gi_g9b h.inv ht hl0 hF h2 hp9, h.own.same (hold _ rfl rfl), h.emp.step wX fun F2 e a b d => hno _ (fun _ e => by cases e; rfl) F2 e a b d _⟩, hne _ _, .inl ⟨rfl, rfl, tld _⟩, fun hc => hc, fun _ _ hc => hc⟩⟩
theorem lG (h : CrI S gens NL T lev n g L ow had ev emp) (hS : S ≤ 60) (hn : n < 100000) (ht : t < T) (hl0 : lev t < NL) (hF : g.thr t = some F) : ∃ L2 ow2 had2 ev2, CrN S gens NL T lev n t F g (g.next gens t (lev t) F) L had ev emp ow L2 ow2 had2 ev2 := by
 unfold StG.next
 rcases (h.inv.thr t ht F hF).fn with h1 | h2
 ·rw [if_pos h1]; exact crowd_take h hS hn ht hl0 hF h1
 rw [if_neg (by omega)]; exact crowd_give h hS hn ht hl0 hF h2
def potF (top : Nat) (F : StF) : Nat :=
 if F.fn = 1 then (if F.pc = 0 then 4 else if F.pc = 1 then (if top = F.r1 then 3 else 6) else if F.pc = 2 then (if top = F.r1 then 2 else 5) else 1)
 else (if F.pc < 7 then 10 - F.pc else if F.pc = 7 then 3 else if F.pc = 8 then (if top = F.r1 then 2 else 5) else (if top = F.r1 then 1 else 4))
theorem pot_le (top : Nat) (F : StF) : potF top F ≤ 10 := by
 unfold potF
 repeat' split
 all_goals omega
theorem pot_pos (top : Nat) (F : StF) : 1 ≤ potF top F := by
 unfold potF
 repeat' split
 all_goals omega
theorem pot_next {l : Nat} (h1 : F.fn = 1 ∨ F.fn = 2) (F2 : StF) (e : (g.next gens t l F).thr t = some F2) : potF (((g.next gens t l F).lv l).top) F2 + 1 ≤ potF (g.lv l).top F := by
 have go : ∀ (g : StG) (F0 : StF), (g.go t F0).thr t = some F2 → F2 = F0 := fun g F0 e => by
  have e' : put1 g.thr t (some F0) t = some F2 := e
  rw [zY] at e'; cases e'; rfl
 have bk : ∀ (g : StG) (a b : Nat), (g.back t a b).thr t = some F2 → False := fun g a b e => by
  have e' : put1 g.thr t none t = some F2 := e
  rw [zY] at e'; cases e'
 rcases h1 with h1 | h1
 ·unfold StG.next at e ⊢
  rw [if_pos h1] at e ⊢
  unfold StG.take at e ⊢
  by_cases hp : F.pc = 0
  ·rw [if_pos hp] at e ⊢
   rw [go _ _ e]
   show potF (g.lv l).top _ + 1 ≤ _
   unfold potF
   simp [h1, hp]
  rw [if_neg hp] at e ⊢
  by_cases hp1 : F.pc = 1
  ·rw [if_pos hp1] at e ⊢
   by_cases hs : slOf F.r1 = 0
   ·rw [if_pos hs] at e; exact (bk _ _ _ e).elim
   rw [if_neg hs] at e ⊢
   rw [go _ _ e]
   show potF (g.lv l).top _ + 1 ≤ _
   unfold potF
   simp [h1, hp1]
   split <;> omega
  rw [if_neg hp1] at e ⊢
  by_cases hp2 : F.pc = 2
  ·rw [if_pos hp2] at e ⊢
   by_cases hs : (g.lv l).top = F.r1
   ·rw [if_pos hs] at e ⊢
    rw [go _ _ e]
    unfold potF
    simp [h1, hp2, hs]
   rw [if_neg hs] at e ⊢
   rw [go _ _ e]
   show potF (g.lv l).top _ + 1 ≤ _
   unfold potF
   simp [h1, hp2, hs]
  rw [if_neg hp2] at e
  exact (bk _ _ _ e).elim
 have n1 : ¬ F.fn = 1 := by omega
 unfold StG.next at e ⊢
 rw [if_neg n1] at e ⊢
 unfold StG.give at e ⊢
 have low : ∀ (top : Nat) (k : Nat) (F3 : StF), F.pc < 6 → F3.fn = 2 → F3.pc = F.pc + 1 → potF top F3 + 1 ≤ potF (g.lv l).top F := fun top k F3 a b d => by
  unfold potF
  rw [if_neg (by omega), if_pos (by omega), if_neg n1, if_pos (by omega)]
  omega
 by_cases hp : F.pc = 0
 ·rw [if_pos hp] at e ⊢
  rw [go _ _ e]; exact low _ 0 _ (by omega) h1 (by show 1 = _; omega)
 rw [if_neg hp] at e ⊢
 by_cases hp1 : F.pc = 1
 ·rw [if_pos hp1] at e ⊢
  rw [go _ _ e]; exact low _ 0 _ (by omega) h1 (by show 2 = _; omega)
 rw [if_neg hp1] at e ⊢
 by_cases hp2 : F.pc = 2
 ·rw [if_pos hp2] at e ⊢
  rw [go _ _ e]; exact low _ 0 _ (by omega) h1 (by show 3 = _; omega)
 rw [if_neg hp2] at e ⊢
 by_cases hp3 : F.pc = 3
 ·rw [if_pos hp3] at e ⊢
  rw [go _ _ e]; exact low _ 0 _ (by omega) h1 (by show 4 = _; omega)
 rw [if_neg hp3] at e ⊢
 by_cases hp4 : F.pc = 4
 ·rw [if_pos hp4] at e ⊢
  rw [go _ _ e]; exact low _ 0 _ (by omega) h1 (by show 5 = _; omega)
 rw [if_neg hp4] at e ⊢
 by_cases hp5 : F.pc = 5
 ·rw [if_pos hp5] at e ⊢
  rw [go _ _ e]; exact low _ 0 _ (by omega) h1 (by show 6 = _; omega)
 rw [if_neg hp5] at e ⊢
 by_cases hp6 : F.pc = 6
 ·rw [if_pos hp6] at e ⊢
  by_cases hs : F.r2 < gens
  ·rw [if_pos hs] at e ⊢
   rw [go _ _ e]
   unfold potF
   simp [h1, hp6]
  rw [if_neg hs] at e; exact (bk _ _ _ e).elim
 rw [if_neg hp6] at e ⊢
 by_cases hp7 : F.pc = 7
 ·rw [if_pos hp7] at e ⊢
  rw [go _ _ e]
  show potF (g.lv l).top _ + 1 ≤ _
  unfold potF
  simp [h1, hp7]
 rw [if_neg hp7] at e ⊢
 by_cases hp8 : F.pc = 8
 ·rw [if_pos hp8] at e ⊢
  rw [go _ _ e]
  have et : ((g.lev l { g.lv l with lk := put1 (g.lv l).lk F.r0 (slOf F.r1) }).lv l).top = (g.lv l).top := by
   show (put1 g.lv l _ l).top = _
   rw [zY]
  show potF ((g.lev l { g.lv l with lk := put1 (g.lv l).lk F.r0 (slOf F.r1) }).lv l).top _ + 1 ≤ _
  rw [et]
  unfold potF
  simp [h1, hp8]
  split <;> omega
 rw [if_neg hp8] at e ⊢
 by_cases hs : (g.lv l).top = F.r1
 ·rw [if_pos hs] at e; exact (bk _ _ _ e).elim
 rw [if_neg hs] at e ⊢
 rw [go _ _ e]
 show potF (g.lv l).top _ + 1 ≤ _
 unfold potF
 have : ¬ F.pc < 7 := by omega
 simp [h1, hp7, hp8, hs, this]
end
end
section
open Go.RowKit
section
variable {S gens NL T n : Nat} {lev hl : Nat → Nat} {g g2 : StG} {L : Nat → List Nat} {ow : Nat → Nat → Nat × Nat} {had : Nat → List Nat} {ev : Nat → List (Nat × Nat)} {t l : Nat} {F F2 : StF} {V V2 : LvG} {o o2 : Nat → Nat × Nat}
theorem GInv.ok {c : Nat → Int} (h : GInv S gens NL T lev hl n g L ow had ev) (hn : n < 100000) (hS : c 10 = (S : Nat)) (hS2 : S ≤ 60) (ht : t < T) (hl0 : lev t < NL) (hF : g.thr t = some F) : OkF c g (lev t) F := by
 have h1 := h.thr t ht F hF
 have h2 := h.lv (lev t) hl0
 refine ⟨h1.fn, h1.r1, h1.tk, h1.gv, fun a b => ?_, fun a b => ?_, fun a b => ?_, fun a => ?_, fun a b => ?_, fun a b => ?_, fun i a b => ?_⟩
 ·have := (h1.past (.inl ⟨a, .inl b⟩)).2; rw [hS]; omega
 ·have p := h1.past (.inl ⟨a, .inr b⟩)
  obtain ⟨q1, q2, q3⟩ := h1.tk2 a b
  refine ⟨q1, by rw [hS]; have := p.2; omega, by omega, fun e => ?_⟩
  obtain ⟨r, hr⟩ := h2.first.2.2 (by rw [e]; omega)
  have hm := (h2.mem (slOf (g.lv (lev t)).top)).1 (by rw [hr]; exact List.mem_cons_self)
  rw [e] at hm
  exact (h2.off _ hm.1 hm.2.1 (.inl hm.2.2)).1
 ·obtain ⟨q1, q2, q3⟩ := h1.tk3 a b
  exact ⟨q1, by rw [hS]; omega⟩
 ·obtain ⟨q1, q2, q3⟩ := h1.r0 a
  exact ⟨q1, by rw [hS]; omega⟩
 ·obtain ⟨q1, q2, q3⟩ := h1.r0 a
  have q4 := h1.gen a (by omega) (by omega)
  have q5 := (h2.hd _ q1 q2).2
  omega
 ·obtain ⟨q1, q2, q3⟩ := h1.r0 a
  have q4 := h1.gen a (by omega) (by omega)
  have q5 := (h2.hd _ q1 q2).2
  refine ⟨by omega, h2.on _ q1 q2 (.inr (.inr ?_))⟩
  rw [q3, if_pos (by omega)]
 rw [hS] at b
 have := (h2.hd i a (by omega)).1
 omega
end
end
section
open Go.RowKit
def slots (n : Nat) : List Nat := (List.range n).map (· + 2)
end
section
open Go.RowKit
def lv0 (S : Nat) : LvG := ⟨2, fun i => if 2 ≤ i ∧ i < S then i + 1 else 0, fun i => if i = 1 then 1 else 0, fun i => i == 1⟩
def g00 (S : Nat) : StG := ⟨fun _ => lv0 S, fun _ => none, fun _ => 0, fun _ => 0⟩
theorem nI (S a : Nat) (h1 : 1 ≤ a) : ∀ m : Nat, a + m = S + 1 → (∀ i, a ≤ i → i < S → (lv0 S).lk i = i + 1) → (lv0 S).lk S = 0 → vX (lv0 S).lk (if m = 0 then 0 else a) ((List.range m).map (· + a))
 | 0, _, _, _ => rfl
 | m + 1, he, hk, hz => by
  rw [List.range_succ_eq_map, List.map_cons, List.map_map, if_neg (by omega)]
  have ih := nI S (a + 1) (by omega) m (by omega) (fun i h2 h3 => hk i (by omega) h3) hz
  refine ⟨by omega, by omega, ?_⟩
  have e : List.map ((fun x => x + a) ∘ Nat.succ) (List.range m) = (List.range m).map (· + (a + 1)) := by
   apply List.map_congr_left
   intro x _
   show x + 1 + a = x + (a + 1)
   omega
  rw [e, Nat.zero_add]
  by_cases hm : m = 0
  ·subst hm
   rw [if_pos rfl] at ih
   have : a = S := by omega
   rw [this, hz]; exact ih
  rw [if_neg hm] at ih
  rw [hk a (Nat.le_refl _) (by omega)]; exact ih
def ow0 (_ i : Nat) : Nat × Nat := if i = 1 then (0, 0) else (1, 0)
theorem ginv_first {S gens NL T : Nat} {lev hl : Nat → Nat} (hS : 2 ≤ S) (hg : 1 ≤ gens) : GInv S gens NL T lev hl 0 (g00 S) (fun _ => slots (S - 1)) ow0 (fun _ => []) (fun _ => []) := by
 refine ⟨fun l _ => ?_, fun t _ F h => (by cases h), fun j => ⟨List.nodup_nil, fun x h => (by cases h)⟩, fun l _ => ⟨fun x gn h => (by cases h)⟩⟩
 have hc := nI S 2 (by omega) (S - 1) (by omega) (fun i h1 h2 => if_pos ⟨h1, h2⟩) (if_neg (by omega))
 rw [if_neg (by omega)] at hc
 have hc' : vX (lv0 S).lk (slOf 2) (slots (S - 1)) := by rw [show slOf 2 = 2 by decide]; exact hc
 refine ⟨hc', ?_, fun x => ?_, (by decide : 2 < 18446744073709551616), (by decide : cnt 2 ≤ 0), fun i h1 h2 => ?_, fun i h1 h2 => ?_, fun i h1 h2 h => ?_, fun i h1 h2 h => ?_, fun i h1 h2 h => ?_, fun i h1 h2 => ?_⟩
 ·exact List.Pairwise.map _ (fun a b hab e => hab (by omega)) (List.nodup_range (n := S - 1))
 ·unfold slots ow0
  rw [List.mem_map]
  constructor
  ·rintro ⟨y, hy, rfl⟩
   have := List.mem_range.1 hy
   refine ⟨by omega, by omega, ?_⟩
   rw [if_neg (by omega)]
  rintro ⟨a, b, d⟩
  by_cases hx : x = 1
  ·rw [if_pos hx] at d; cases d
  exact ⟨x - 2, List.mem_range.2 (by omega), by omega⟩
 ·show (if 2 ≤ i ∧ i < S then i + 1 else 0) ≤ S
  split <;> omega
 ·show (if i = 1 then 1 else 0) < _ ∧ zB (if i = 1 then 1 else 0) ≤ 0
  split
  ·exact ⟨by decide, by decide⟩
  exact ⟨by decide, by decide⟩
 ·unfold ow0 at h
  split at h <;> (rcases h with h | h | h <;> cases h)
 ·unfold ow0 at h
  by_cases hi : i = 1
  ·rw [if_pos hi] at h; rcases h with h | h <;> cases h
  show (i == 1) = false ∧ (if i = 1 then 1 else 0) % 4 = 0 ∧ zB (if i = 1 then 1 else 0) < gens
  rw [if_neg hi]
  exact ⟨by simp [hi], rfl, hg⟩
 ·left
  unfold ow0 at h
  by_cases hi : i = 1
  ·subst hi; rfl
  rw [if_neg hi] at h; cases h
 unfold ow0
 split <;> simp
end
section
open Go.RowKit
section
variable {t l n B S m gens : Nat} {g : GM} {fs : List Fr} {L r : List Nat} {x : Nat}
theorem LvR.mono {m' : Nat} (h : LvR S B m g l L) (hm : m ≤ m') : LvR S B m' g l L := ⟨h.chain, h.nodup, h.rng, h.top, Nat.le_trans h.cntN hm, h.lk, fun i a b => ⟨(h.hd i a b).1, Nat.le_trans (h.hd i a b).2 hm⟩⟩
theorem LvR.congr {g2 : GM} (h : LvR S B m g l L) (h0 : g2.w l 0 = g.w l 0) (h1 : ∀ i, 1 ≤ i → i ≤ S → g2.w l (oLk B i) = g.w l (oLk B i)) (h2 : ∀ i, 1 ≤ i → i ≤ S → g2.w l (oNd B S i 0) = g.w l (oNd B S i 0)) (h3 : ∀ x ∈ L, g2.held l x = g.held l x) : LvR S B m g2 l L :=
 ⟨by rw [h0]; exact wG _ _ h.chain fun x hx => h1 x (h.rng x hx).1 (h.rng x hx).2.1, h.nodup, fun x hx => ⟨(h.rng x hx).1, (h.rng x hx).2.1, by rw [h3 x hx]; exact (h.rng x hx).2.2⟩, by rw [h0]; exact h.top, by rw [h0]; exact h.cntN, fun i a b => by rw [h1 i a b]; exact h.lk i a b, fun i a b => by rw [h2 i a b]; exact h.hd i a b⟩
theorem LvR.take (I : LvR S B m g l (x :: r)) (hm : m < 900000) (hS60 : S ≤ 60) : LvR S B (m + 1) (tX B S g t l fs x) l r := by
 obtain ⟨hs, hx1, hc2⟩ := I.chain
 obtain ⟨_, hx2, hh⟩ := I.rng x List.mem_cons_self
 have hnd := List.nodup_cons.1 I.nodup
 have hw : ∀ o, o ≠ 0 → (tX B S g t l fs x).w l o = g.w l o := fun o ho => by
  show (g.set l 0 _).w l o = _
  rw [zM, if_neg (fun h => ho h.2)]
 have hw0 : (tX B S g t l fs x).w l 0 = yK (g.w l (oLk B x)) (cnt (g.w l 0) + 1) := by
  show (g.set l 0 _).w l 0 = _
  rw [zM, if_pos ⟨rfl, rfl⟩]
 have hlk := I.lk x hx1 hx2
 have hcn := I.cntN
 have olk : ∀ i, oLk B i ≠ 0 := fun i => by unfold oLk; omega
 have ond : ∀ i, oNd B S i 0 ≠ 0 := fun i => by unfold oNd; omega
 refine ⟨?_, hnd.2, fun y hy => ?_, by rw [hw0]; exact top_lt _ _, ?_, fun i a b => by rw [hw _ (olk i)]; exact I.lk i a b, fun i a b => by rw [hw _ (ond i)]; exact ⟨(I.hd i a b).1, Nat.le_succ_of_le (I.hd i a b).2⟩⟩
 ·rw [hw0, sl_top (by omega)]
  exact wG _ _ hc2 fun y hy => hw _ (olk y)
 ·obtain ⟨a, b, e⟩ := I.rng y (List.mem_cons_of_mem _ hy)
  refine ⟨a, b, ?_⟩
  show (GM.hold (g.set l 0 _) l x).held l y = false
  rw [vC, if_neg (fun h => hnd.1 (by rw [← h.2]; exact hy))]
  exact e
 rw [hw0, qM (by omega)]; omega
end
end
section
open Go.RowKit
section
variable {D : Nat → GM → GM → Prop} {σ : World} {p t q l n B S m d gens : Nat} {c : Nat → Int} {tp : List Nat} {g : GM} {fs : List Fr} {F : Fr} {L : List Nat} {x : Nat}
theorem gone_w (l' o : Nat) (h : ¬ (l' = l ∧ oNd B S x 0 ≤ o ∧ o < oNd B S x 0 + 5)) : (nL B S g l x).w l' o = g.w l' o := by
 show ((((((g.set l _ _).set l _ 0).set l _ 0).set l _ 0).set l _ 0).set l _ _).w l' o = _
 unfold oNd at h ⊢
 rw [zM, if_neg (by omega), zM, if_neg (by omega), zM, if_neg (by omega), zM, if_neg (by omega), zM, if_neg (by omega), zM, if_neg (by omega)]
theorem gone_hd : (nL B S g l x).w l (oNd B S x 0) = zA (zB (g.w l (oNd B S x 0)) + 1) 0 := by
 show (GM.set _ l _ _).w l _ = _
 rw [zM, if_pos ⟨rfl, rfl⟩]
theorem gone_fld {j : Nat} (h1 : 1 ≤ j) (h2 : j < 5) : (nL B S g l x).w l (oNd B S x j) = 0 := by
 show ((((((g.set l _ _).set l _ 0).set l _ 0).set l _ 0).set l _ 0).set l _ _).w l _ = _
 rw [zM, if_neg (fun h => by have := h.2; unfold oNd at this; omega)]
 rcases (show j = 1 ∨ j = 2 ∨ j = 3 ∨ j = 4 by omega) with e | e | e | e
 ·subst e; rw [zM, if_pos ⟨rfl, rfl⟩]
 ·subst e; rw [zM, if_neg (fun h => by have := h.2; unfold oNd at this; omega), zM, if_pos ⟨rfl, rfl⟩]
 ·subst e; rw [zM, if_neg (fun h => by have := h.2; unfold oNd at this; omega), zM, if_neg (fun h => by have := h.2; unfold oNd at this; omega), zM, if_neg (fun h => by have := h.2; unfold oNd at this; omega), zM, if_pos ⟨rfl, rfl⟩]
 subst e; rw [zM, if_neg (fun h => by have := h.2; unfold oNd at this; omega), zM, if_neg (fun h => by have := h.2; unfold oNd at this; omega), zM, if_pos ⟨rfl, rfl⟩]
end
section
variable {t l n B S m gens : Nat} {g : GM} {fs : List Fr} {L r : List Nat} {x : Nat}
def lK (B S gens : Nat) (g : GM) (l x : Nat) (L : List Nat) : List Nat := if zB (g.w l (oNd B S x 0)) + 1 < gens then x :: L else L
theorem mV (l' o : Nat) (h : ¬ (l' = l ∧ (o = 0 ∨ o = oLk B x ∨ (oNd B S x 0 ≤ o ∧ o < oNd B S x 0 + 5)))) : (xO B S gens g t l fs x).w l' o = g.w l' o := by
 unfold xO
 split
 ·show (((nL B S g l x).set l (oLk B x) _).set l 0 _).w l' o = _
  rw [zM, if_neg (by omega), zM, if_neg (by omega), gone_w _ _ (by omega)]
 exact gone_w _ _ (by omega)
theorem give_hd (x1 : 1 ≤ x) (x2 : x ≤ S) : (xO B S gens g t l fs x).w l (oNd B S x 0) = zA (zB (g.w l (oNd B S x 0)) + 1) 0 := by
 unfold xO
 split
 ·show (((nL B S g l x).set l (oLk B x) _).set l 0 _).w l _ = _
  rw [zM, if_neg (fun h => by have := h.2; unfold oNd at this; omega), zM, if_neg (fun h => by have := h.2; unfold oNd oLk at this; omega)]
  exact gone_hd
 exact gone_hd
theorem give_fld (x1 : 1 ≤ x) (x2 : x ≤ S) {j : Nat} (h1 : 1 ≤ j) (h2 : j < 5) : (xO B S gens g t l fs x).w l (oNd B S x j) = 0 := by
 unfold xO
 split
 ·show (((nL B S g l x).set l (oLk B x) _).set l 0 _).w l _ = _
  rw [zM, if_neg (fun h => by have := h.2; unfold oNd at this; omega), zM, if_neg (fun h => by have := h.2; unfold oNd oLk at this; omega)]
  exact gone_fld h1 h2
 exact gone_fld h1 h2
theorem qQ (l' y : Nat) : (xO B S gens g t l fs x).held l' y = if l' = l ∧ y = x then false else g.held l' y := by
 unfold xO
 split
 ·exact vR (g := ((((((g.set l (oNd B S x 0) (zA (zB (g.w l (oNd B S x 0))) 3)).set l (oNd B S x 3) 0).set l (oNd B S x 4) 0).set l (oNd B S x 2) 0).set l (oNd B S x 1) 0).set l (oNd B S x 0) (zA (zB (g.w l (oNd B S x 0)) + 1) 0))) (l := l) (i := x) l' y
 exact vR (g := ((((((g.set l (oNd B S x 0) (zA (zB (g.w l (oNd B S x 0))) 3)).set l (oNd B S x 3) 0).set l (oNd B S x 4) 0).set l (oNd B S x 2) 0).set l (oNd B S x 1) 0).set l (oNd B S x 0) (zA (zB (g.w l (oNd B S x 0)) + 1) 0))) (l := l) (i := x) l' y
theorem LvR.give (I : LvR S B m g l L) (hm : m < 900000) (hS60 : S ≤ 60) (x1 : 1 ≤ x) (x2 : x ≤ S) (hx : x ∉ L) : LvR S B (m + 1) (xO B S gens g t l fs x) l (lK B S gens g l x L) := by
 have hcn := I.cntN
 have hgn := (I.hd x x1 x2).2
 have hnd : ∀ i, 1 ≤ i → i ≤ S → i ≠ x → (xO B S gens g t l fs x).w l (oNd B S i 0) = g.w l (oNd B S i 0) := fun i a b e => mV _ _ (fun h => by
  rcases h.2 with h | h | h
  ·unfold oNd at h; omega
  ·unfold oNd oLk at h; omega
  unfold oNd at h; omega)
 have hlk : ∀ i, 1 ≤ i → i ≤ S → i ≠ x → (xO B S gens g t l fs x).w l (oLk B i) = g.w l (oLk B i) := fun i a b e => mV _ _ (fun h => by
  rcases h.2 with h | h | h
  ·unfold oLk at h; omega
  ·unfold oLk at h; omega
  unfold oNd oLk at h; omega)
 have hhd : ∀ i, 1 ≤ i → i ≤ S → (xO B S gens g t l fs x).w l (oNd B S i 0) < 17179869184 ∧ zB ((xO B S gens g t l fs x).w l (oNd B S i 0)) ≤ m + 1 := fun i a b => by
  by_cases e : i = x
  ·subst e
   rw [give_hd x1 x2]
   exact ⟨mW _ _, by rw [rE (by omega)]; omega⟩
  rw [hnd i a b e]; exact ⟨(I.hd i a b).1, Nat.le_succ_of_le (I.hd i a b).2⟩
 have hheld : ∀ y ∈ L, (xO B S gens g t l fs x).held l y = false := fun y hy => by
  rw [qQ]
  split
  ·rfl
  exact (I.rng y hy).2.2
 by_cases hs : zB (g.w l (oNd B S x 0)) + 1 < gens
 ·have e0 : (xO B S gens g t l fs x).w l 0 = yK x (cnt (g.w l 0) + 1) := by
   unfold xO
   rw [if_pos hs]
   show (GM.set _ l 0 _).w l 0 = _
   rw [zM, if_pos ⟨rfl, rfl⟩]
  have ex : (xO B S gens g t l fs x).w l (oLk B x) = slOf (g.w l 0) := by
   unfold xO
   rw [if_pos hs]
   show (GM.set (GM.set _ l _ _) l 0 _).w l _ = _
   rw [zM, if_neg (fun h => by have := h.2; unfold oLk at this; omega), zM, if_pos ⟨rfl, rfl⟩]
  have hsl : slOf (g.w l 0) ≤ S := by
   have := I.chain
   cases hL : L with
   | nil => rw [hL] at this; have e : slOf (g.w l 0) = 0 := this; omega
   | cons y r => rw [hL] at this; have e := this.1; have := (I.rng y (by rw [hL]; exact List.mem_cons_self)).2.1; omega
  unfold lK
  rw [if_pos hs]
  refine ⟨?_, List.nodup_cons.2 ⟨hx, I.nodup⟩, fun y hy => ?_, by rw [e0]; exact top_lt _ _, by rw [e0, qM (by omega)]; omega, fun i a b => ?_, hhd⟩
  ·rw [e0, sl_top (by omega)]
   refine ⟨rfl, x1, ?_⟩
   show vX _ ((xO B S gens g t l fs x).w l (oLk B x)) L
   rw [ex]
   exact wG _ _ I.chain fun y hy => hlk y (I.rng y hy).1 (I.rng y hy).2.1 (fun e => hx (by rw [← e]; exact hy))
  ·rcases List.mem_cons.1 hy with e | hy
   ·subst e; exact ⟨x1, x2, by rw [qQ, if_pos ⟨rfl, rfl⟩]⟩
   exact ⟨(I.rng y hy).1, (I.rng y hy).2.1, hheld y hy⟩
  by_cases e : i = x
  ·subst e; rw [ex]; exact hsl
  rw [hlk i a b e]; exact I.lk i a b
 have e0 : (xO B S gens g t l fs x).w l 0 = g.w l 0 := by
  unfold xO
  rw [if_neg hs]
  exact gone_w _ _ (fun h => by have := h.2.1; unfold oNd at this; omega)
 have ex : ∀ i, 1 ≤ i → i ≤ S → (xO B S gens g t l fs x).w l (oLk B i) = g.w l (oLk B i) := fun i a b => by
  unfold xO
  rw [if_neg hs]
  exact gone_w _ _ (fun h => by have := h.2.1; unfold oNd oLk at this; omega)
 unfold lK
 rw [if_neg hs]
 refine ⟨by rw [e0]; exact wG _ _ I.chain fun y hy => ex y (I.rng y hy).1 (I.rng y hy).2.1, I.nodup, fun y hy => ⟨(I.rng y hy).1, (I.rng y hy).2.1, hheld y hy⟩, by rw [e0]; exact I.top, by rw [e0]; omega, fun i a b => by rw [ex i a b]; exact I.lk i a b, hhd⟩
end
end
section
open Go.RowKit
def yB (a m : Nat) : List Nat := (List.range m).map (· + a)
theorem mQ (a m : Nat) : yB a (m + 1) = a :: yB (a + 1) m := by
 unfold yB
 rw [List.range_succ_eq_map, List.map_cons, List.map_map, Nat.zero_add]
 congr 1
 apply List.map_congr_left
 intro x _
 show x + 1 + a = x + (a + 1)
 omega
theorem lC (lk : Nat → Nat) (S : Nat) : ∀ (m a : Nat), 1 ≤ a → a + m = S + 1 → (∀ i, a ≤ i → i < S → lk i = i + 1) → lk S = 0 → vX lk (if m = 0 then 0 else a) (yB a m)
 | 0, _, _, _, _, _ => rfl
 | m + 1, a, h1, he, hk, hz => by
  rw [mQ, if_neg (by omega)]
  refine ⟨rfl, h1, ?_⟩
  have ih := lC lk S m (a + 1) (by omega) (by omega) (fun i h2 h3 => hk i (by omega) h3) hz
  by_cases hm : m = 0
  ·subst hm
   rw [if_pos rfl] at ih
   rw [show a = S by omega, hz]
   exact ih
  rw [if_neg hm] at ih
  rw [hk a (Nat.le_refl _) (by omega)]
  exact ih
theorem w0_lk (B S i : Nat) (h1 : 1 ≤ i) (h2 : i ≤ S) : (w0 B S S (oLk B i)).toNat = if 2 ≤ i ∧ i < S then i + 1 else 0 := by
 unfold w0 oLk
 by_cases h : 2 ≤ i ∧ i < S
 ·rw [if_neg (by omega), if_neg (by omega), if_neg (by omega), if_pos (by omega), if_pos h]; omega
 rw [if_neg (by omega), if_neg (by omega), if_neg (by omega), if_neg (by omega), if_neg h]; rfl
theorem w0_nd (B S i : Nat) (h1 : 1 ≤ i) : (w0 B S S (oNd B S i 0)).toNat = if i = 1 then 1 else 0 := by
 unfold w0 oNd
 by_cases h : i = 1
 ·rw [if_neg (by omega), if_neg (by omega), if_pos (by omega), if_pos h]; rfl
 rw [if_neg (by omega), if_neg (by omega), if_neg (by omega), if_neg (by omega), if_neg h]; rfl
theorem w0_fld (B S i j : Nat) (h1 : 1 ≤ i) (h2 : 1 ≤ j) (h3 : j < 5) : (w0 B S S (oNd B S i j)).toNat = 0 := by
 unfold w0 oNd
 rw [if_neg (by omega), if_neg (by omega), if_neg (by omega), if_neg (by omega)]; rfl
theorem lvR_first {B S : Nat} (hS : 2 ≤ S) (l : Nat) : LvR S B 0 (gm0 B S) l (yB 2 (S - 1)) := by
 have ez : (gm0 B S).w l 0 = 2 := rfl
 refine ⟨?_, ?_, fun x hx => ?_, by rw [ez]; decide, by rw [ez]; decide, fun i h1 h2 => ?_, fun i h1 h2 => ?_⟩
 ·rw [ez, show slOf 2 = 2 by decide]
  have := lC (fun i => (w0 B S S (oLk B i)).toNat) S (S - 1) 2 (by omega) (by omega) (fun i h1 h2 => by show (w0 B S S (oLk B i)).toNat = _; rw [w0_lk B S i (by omega) (by omega), if_pos ⟨h1, h2⟩]) (by show (w0 B S S (oLk B S)).toNat = _; rw [w0_lk B S S (by omega) (by omega), if_neg (by omega)])
  rw [if_neg (by omega)] at this
  exact this
 ·exact List.Pairwise.map _ (fun a b hab e => hab (by omega)) (List.nodup_range (n := S - 1))
 ·obtain ⟨y, hy, rfl⟩ := List.mem_map.1 hx
  have := List.mem_range.1 hy
  refine ⟨by omega, by omega, ?_⟩
  show (y + 2 == 1) = false
  simp
 ·show (w0 B S S (oLk B i)).toNat ≤ S
  rw [w0_lk B S i h1 h2]
  split <;> omega
 show (w0 B S S (oNd B S i 0)).toNat < _ ∧ zB (w0 B S S (oNd B S i 0)).toNat ≤ 0
 rw [w0_nd B S i h1]
 split
 ·exact ⟨by decide, by decide⟩
 exact ⟨by decide, by decide⟩
end
section
open Go.RowKit
theorem mask_one (a : Nat) : maskN a 1 = 2 ^ a := by unfold maskN; omega
theorem oV (x a : Nat) (hx : x < 2 ^ a) (ha : a < 64) (w : World) : Calls Tryz.prog 123 #[.int .u64 x, .int .i64 a, .bool true] w fun r w' => r = .returned (.int .u64 (2 ^ a + x : Nat)) ∧ w = w' := by
 have MK := Lib.hid (lY a 1 (by omega) (by omega))
 rw [mask_one] at MK
 have hp : 2 ^ a < 2 ^ 64 := Nat.pow_lt_pow_right (by decide) ha
 have B := bits_or_u64_nat x (2 ^ a) (by omega) hp
 have e : x ||| 2 ^ a = 2 ^ a + x := by rw [Nat.or_comm]; exact (Nat.two_pow_add_eq_or_of_lt hx 1 |> fun h => by simpa using h.symm)
 rw [e] at B
 generalize 2 ^ a + x = y at *
 generalize 2 ^ a = z at *
 clear e hp hx ha
 go_enter Tryz.func123, Tryz.ntmps123
 go_wp2_with (first
  | (go_at_call 108; refine (MK.out _).mono ?_; rintro r w' ⟨rfl, rfl⟩))
 go_ret
 exact ⟨rfl, rfl⟩
def oneB (x a : Nat) : Bool := decide (cutN x a 1 = 1)
theorem fieldHas_any (x a : Nat) (hx : x < 18446744073709551616) (ha : a < 64) (w : World) : Calls Tryz.prog 135 #[.int .u64 x, .int .i64 a] w fun r w' => r = .returned (.bool (oneB x a)) ∧ w = w' := by
 have C := Lib.hid (yN x a 1 hx (by omega) (by omega))
 have e : (((cutN x a 1 : Nat) : Int) == 1) = oneB x a := by
  unfold oneB
  rw [Bool.eq_iff_iff, beq_iff_eq, decide_eq_true_eq]; omega
 have E := Lib.hid e
 clear e
 generalize cutN x a 1 = y at *
 clear hx ha
 go_enter Tryz.func135, Tryz.ntmps135
 go_wp2_with (first
  | (go_at_call 66; refine (C.out _).mono ?_; rintro r w' ⟨rfl, rfl⟩))
 go_ret
 exact ⟨by rw [← E.out]; rfl, rfl⟩
def zI (t : Nat) : Nat := 2 ^ 63 + cutN t 0 8
def xY (s g l : Nat) : Nat := 2 ^ 62 + setN (setN (cutN s 0 8) 8 24 g) 32 30 l
def yY (x : Nat) : Nat := if x = 0 then 0 else if oneB x 63 then 1 else 2
def pU (x : Nat) : Array Value := if yY x = 2 then #[.int .i64 (cutN x 0 8 : Nat), .int .i64 (cutN x 8 24 : Nat), .int .u64 (cutN x 32 30 : Nat)] else #[.int .i64 0, .int .i64 0, .int .u64 0]
def oldB (l e : Nat) : Bool := decide (2 ≤ e) && decide (l + 2 ≤ e)
theorem kE {x a s n : Nat} (hx : x < 2 ^ (a + s)) : setN x a s n < 2 ^ (a + s) := by
 unfold setN
 rw [Nat.div_eq_of_lt hx, Nat.mul_zero, Nat.zero_add, Nat.pow_add]
 have h1 : n % 2 ^ s < 2 ^ s := Nat.mod_lt _ (Nat.pow_pos (by decide))
 have h2 : x % 2 ^ a < 2 ^ a := Nat.mod_lt _ (Nat.pow_pos (by decide))
 have h3 : 2 ^ a * (n % 2 ^ s + 1) ≤ 2 ^ a * 2 ^ s := Nat.mul_le_mul_left _ h1
 rw [Nat.mul_add] at h3
 omega
theorem lL (t : Nat) (ht : t < 9223372036854775808) (w : World) : Calls Tryz.prog 122 #[.int .i64 t] w fun r w' => r = .returned (.int .u64 (zI t : Nat)) ∧ w = w' := by
 have u1 := tY (x := t) (by omega)
 have C := Lib.hid (yN t 0 8 (by omega) (by omega) (by omega))
 have T := Lib.hid (oV (cutN t 0 8) 63 (Nat.lt_trans (yG t 0 8) (by decide)) (by decide))
 have E : Hid (zI t = 2 ^ 63 + cutN t 0 8) := rfl
 generalize 2 ^ 63 + cutN t 0 8 = y at T E
 generalize cutN t 0 8 = x at T C
 clear ht
 go_enter Tryz.func122, Tryz.ntmps122
 go_wp2_with (first
  | (go_at_call 66; refine (C.out _).mono ?_; rintro r w' ⟨rfl, rfl⟩)
  | (go_at_call 123; refine (T.out _).mono ?_; rintro r w' ⟨rfl, rfl⟩))
 go_ret
 exact ⟨by rw [E.out]; rfl, rfl⟩
theorem uD (x : Nat) (hx : x < 18446744073709551616) (w : World) : Calls Tryz.prog 124 #[.int .u64 x] w fun r w' => r = .returned (.int .i64 (yY x : Nat)) ∧ w = w' := by
 by_cases h0 : x = 0
 ·subst h0
  go_enter Tryz.func124, Tryz.ntmps124
  go_wp2
  go_ret
  exact ⟨rfl, rfl⟩
 have g : ((x : Int) == 0) = false := beq_eq_false_iff_ne.2 (by omega)
 have H := Lib.hid (fieldHas_any x 63 hx (by decide))
 obtain ⟨b, hb⟩ : ∃ b, oneB x 63 = b := ⟨_, rfl⟩
 have E : Hid (yY x = if b then 1 else 2) := Lib.hid (by unfold yY; rw [if_neg h0, hb])
 rw [hb] at H
 clear hb h0 hx
 cases b
 ·go_enter Tryz.func124, Tryz.ntmps124
  go_wp2_with (first
   | (go_at_call 135; refine (H.out _).mono ?_; rintro r w' ⟨rfl, rfl⟩))
  go_ret
  exact ⟨by rw [E.out]; rfl, rfl⟩
 go_enter Tryz.func124, Tryz.ntmps124
 go_wp2_with (first
  | (go_at_call 135; refine (H.out _).mono ?_; rintro r w' ⟨rfl, rfl⟩))
 go_ret
 exact ⟨by rw [E.out]; rfl, rfl⟩
theorem qH (l e : Nat) (he : e < 18446744073709551616) (w : World) : Calls Tryz.prog 125 #[.int .u64 l, .int .u64 e] w fun r w' => r = .returned (.bool (oldB l e)) ∧ w = w' := by
 by_cases h2 : 2 ≤ e
 ·have w1 : IntKind.u64.wrap ((e : Int) - 2) = ((e - 2 : Nat) : Int) := by rw [show (e : Int) - 2 = ((e - 2 : Nat) : Int) by omega]; exact IntWalk.u64_in _ (by omega)
  have g1 : decide ((2 : Int) ≤ (e : Int)) = true := decide_eq_true (by omega)
  have g1' : (2 : Int) ≤ (e : Int) := by omega
  obtain ⟨b, hb⟩ : ∃ b, decide (l + 2 ≤ e) = b := ⟨_, rfl⟩
  have g2 : decide ((l : Int) ≤ ((e - 2 : Nat) : Int)) = b := by rw [← hb]; congr 1; apply propext; omega
  have E : Hid (oldB l e = b) := Lib.hid (by unfold oldB; rw [hb, decide_eq_true h2]; rfl)
  generalize ((e - 2 : Nat) : Int) = e2 at *
  clear h2 he hb
  go_enter Tryz.func125, Tryz.ntmps125
  go_wp2
  go_ret
  exact ⟨by rw [E.out]; first | rfl | rw [g2] | simp [g2], rfl⟩
 have g1 : decide ((2 : Int) ≤ (e : Int)) = false := decide_eq_false (by omega)
 have E : Hid (oldB l e = false) := Lib.hid (by unfold oldB; rw [decide_eq_false h2]; rfl)
 clear h2 he
 go_enter Tryz.func125, Tryz.ntmps125
 go_wp2
 go_ret
 exact ⟨by rw [E.out]; first | rfl | rw [g1], rfl⟩
theorem kM {σ w : World} {M : Mm} (h : Has σ M w) (s g l : Nat) (hs : s < 9223372036854775808) (hg : g < 9223372036854775808) (hl : l < 18446744073709551616) : Calls Tryz.prog 99 #[.agg #[.int .i64 s, .int .i64 g, .int .u64 l]] w fun r w' => r = .returned (.int .u64 (xY s g l : Nat)) ∧ Has σ M w' := by
 have u1 := tY (x := s) (by omega)
 have u2 := tY (x := g) (by omega)
 have hc := yG s 0 8
 have C := Lib.hid (yN s 0 8 (by omega) (by omega) (by omega))
 have S1 := Lib.hid (vI (cutN s 0 8) 8 24 g (qN (by omega)) (by omega) (by omega) (by omega))
 have s1 : setN (cutN s 0 8) 8 24 g < 2 ^ (8 + 24) := kE (Nat.lt_trans hc (by decide))
 have S2 := Lib.hid (vI (setN (cutN s 0 8) 8 24 g) 32 30 l (Nat.lt_trans s1 (by decide)) hl (by omega) (by omega))
 have s2 : setN (setN (cutN s 0 8) 8 24 g) 32 30 l < 2 ^ (32 + 30) := kE (Nat.lt_trans s1 (by decide))
 have T := Lib.hid (oV (setN (setN (cutN s 0 8) 8 24 g) 32 30 l) 62 s2 (by decide))
 have E : Hid (xY s g l = 2 ^ 62 + setN (setN (cutN s 0 8) 8 24 g) 32 30 l) := rfl
 generalize 2 ^ 62 + setN (setN (cutN s 0 8) 8 24 g) 32 30 l = y at T E
 generalize setN (setN (cutN s 0 8) 8 24 g) 32 30 l = x2 at T S2
 generalize setN (cutN s 0 8) 8 24 g = x1 at S1 S2
 generalize cutN s 0 8 = x0 at S1 C
 have e0 : (#[.int .i64 (s : Nat), .int .i64 (g : Nat), .int .u64 (l : Nat)] : Array Value)[0]? = some (.int .i64 (s : Nat)) := rfl
 have e1 : (#[.int .i64 (s : Nat), .int .i64 (g : Nat), .int .u64 (l : Nat)] : Array Value)[1]? = some (.int .i64 (g : Nat)) := rfl
 have e2 : (#[.int .i64 (s : Nat), .int .i64 (g : Nat), .int .u64 (l : Nat)] : Array Value)[2]? = some (.int .u64 (l : Nat)) := rfl
 generalize hrw : (#[.int .i64 (s : Nat), .int .i64 (g : Nat), .int .u64 (l : Nat)] : Array Value) = row at *
 clear hs hg hl hc s1 s2 hrw
 go_enter Tryz.func99, Tryz.ntmps99
 go_upto_region 1 with (fail)
 obtain ⟨M1, hbx, hle, hb4, hn⟩ := h.box (.cells row 167)
 generalize w.alloc _ = wx at hbx ⊢
 generalize w.heap.size = b4 at hb4 hn ⊢
 clear h
 try clear w
 have h := hbx
 clear hbx
 obtain ⟨w, rfl⟩ : ∃ x : World, x = wx := ⟨_, rfl⟩
 have CH : Hid (∀ w : World, Has σ M1 w → Calls Tryz.prog 66 #[.int .u64 s, .int .i64 0, .int .i64 8] w fun r w' => r = .returned (.int .u64 (x0 : Nat)) ∧ Has σ M1 w') := Lib.hid fun w h => (C.out w).mono fun r w' ⟨e1, e2⟩ => ⟨e1, e2 ▸ h⟩
 have SH : Hid (∀ w : World, Has σ M1 w → Calls Tryz.prog 106 #[.int .u64 x0, .int .i64 8, .int .i64 24, .int .u64 g] w fun r w' => r = .returned (.int .u64 (x1 : Nat)) ∧ Has σ M1 w') := Lib.hid fun w h => (S1.out w).mono fun r w' ⟨e1, e2⟩ => ⟨e1, e2 ▸ h⟩
 refine zS (Has σ M1) (by kernel_rfl) (by kernel_rfl) h.drew ?_
 clear h
 repeat (first
  | go_big_quiet_skip
  | (go_big_quiet_want; first
   | (refine zX 3 _ rfl rfl hb4 e0 Tryz.underlying3 rfl ?_; simp only [Act.put, qD, qE, qF]; go_big_quiet_on)
   | (refine zX 3 _ rfl rfl hb4 e1 Tryz.underlying3 rfl ?_; simp only [Act.put, qD, qE, qF]; go_big_quiet_on)
   | (go_big_quiet_op; first | go_big_quiet_on | go_big_quiet_call (first | with_reducible exact fun _ => rfl | with_reducible exact CH.out _ | with_reducible exact SH.out _))))
 refine wpQuiet_nil ?_
 try clear w
 intro w h
 clear CH SH
 go_wp2_with (first
  | (with_reducible show wpList _ _ _ (⟨_, .load 42 _, _, _, _, _⟩ :: _) _ _; refine zZ h rfl 42 _ rfl rfl hb4 e2 Tryz.underlying42 rfl ?_)
  | ((go_at_call 106; refine (S2.out _).mono ?_; rintro r w' ⟨rfl, rfl⟩))
  | ((go_at_call 123; refine (T.out _).mono ?_; rintro r w' ⟨rfl, rfl⟩)))
 go_ret
 exact ⟨by rw [E.out]; rfl, h.le hle⟩
theorem zEnt : (Tryz.prog.info? 167).bind (·.zero) = some (.agg #[.int .i64 0, .int .i64 0, .int .u64 0]) := by kernel_rfl
theorem tH {σ w : World} {M : Mm} (h : Has σ M w) (x : Nat) (hx : x < 18446744073709551616) : Calls Tryz.prog 101 #[.int .u64 x] w fun r w' => r = .returned (.agg (pU x)) ∧ Has σ M w' := by
 have KD := Lib.hid (uD x hx)
 have c1 := yG x 0 8
 have c2 := yG x 8 24
 have C1 : Hid (∀ w : World, Calls Tryz.prog 66 #[.int .u64 x, .int .i64 0, .int .i64 8] w fun r w' => r = .returned (.int .u64 (cutN x 0 8 : Nat)) ∧ w = w') := Lib.hid (yN x 0 8 hx (by omega) (by omega))
 have C2 : Hid (∀ w : World, Calls Tryz.prog 66 #[.int .u64 x, .int .i64 8, .int .i64 24] w fun r w' => r = .returned (.int .u64 (cutN x 8 24 : Nat)) ∧ w = w') := Lib.hid (yN x 8 24 hx (by omega) (by omega))
 have C3 : Hid (∀ w : World, Calls Tryz.prog 66 #[.int .u64 x, .int .i64 32, .int .i64 30] w fun r w' => r = .returned (.int .u64 (cutN x 32 30 : Nat)) ∧ w = w') := Lib.hid (yN x 32 30 hx (by omega) (by omega))
 have w1 : IntKind.i64.wrap ((cutN x 0 8 : Nat) : Int) = ((cutN x 0 8 : Nat) : Int) := IntWalk.i64_in _ (by omega)
 have w2 : IntKind.i64.wrap ((cutN x 8 24 : Nat) : Int) = ((cutN x 8 24 : Nat) : Int) := IntWalk.i64_in _ (by omega)
 have E : Hid (pU x = if yY x = 2 then #[.int .i64 (cutN x 0 8 : Nat), .int .i64 (cutN x 8 24 : Nat), .int .u64 (cutN x 32 30 : Nat)] else #[.int .i64 0, .int .i64 0, .int .u64 0]) := rfl
 generalize cutN x 0 8 = y1 at *
 generalize cutN x 8 24 = y2 at *
 generalize cutN x 32 30 = y3 at *
 generalize yY x = k at *
 clear hx c1 c2
 by_cases hk : k = 2
 ·subst hk
  rw [if_pos rfl] at E
  go_enter Tryz.func101, Tryz.ntmps101
  go_upto_region 1 with (first
   | ((with_reducible show wpList _ _ _ (⟨_, .alloc 167, _, _, _, _⟩ :: _) _ _); refine zK h rfl 167 rfl _ zEnt ?_; clear h; intro b4 w h hn4; try simp only [Act.put, qD, qE, qF]))
  have hle := Mm.le_upd' hn4 (.cells #[.int .i64 0, .int .i64 0, .int .u64 0] 167)
  have hb4 := Mm.upd_same M b4 (.cells #[.int .i64 0, .int .i64 0, .int .u64 0] 167)
  replace h : Has σ (M.upd b4 (.cells #[.int .i64 0, .int .i64 0, .int .u64 0] 167)) w := h
  generalize M.upd b4 _ = M1 at h hle hb4
  go_wp2_with (first
   | ((go_at_call 124; refine (KD.out _).mono ?_; rintro r w' ⟨rfl, rfl⟩))
   | ((go_at_call 66; (first | (with_reducible refine (C1.out _).mono ?_) | (with_reducible refine (C2.out _).mono ?_) | (with_reducible refine (C3.out _).mono ?_)); rintro r w' ⟨rfl, rfl⟩))
   | ((with_reducible show wpList _ _ _ (⟨_, .store 167 _ _, _, _, _, _⟩ :: _) _ _); (refine zP (cells := #[.int .i64 (y1 : Nat), .int .i64 (y2 : Nat), .int .u64 (y3 : Nat)]) h rfl 167 _ _ rfl rfl rfl hb4 rfl rfl rfl (by kernel_rfl) rfl ?_); clear h; intro w h))
  exact bodyPost_ret (results_cell_row rfl _ _ _ _ _ _ _ rfl (h.at_ b4 _ (Mm.upd_same _ _ _)) Tryz.underlying167 rfl (by kernel_rfl)) rfl ⟨by rw [E.out], h.le (Mm.le_upd hle hn4 _)⟩
 have g : ((k : Int) != 2) = true := by simp; omega
 rw [if_neg hk] at E
 clear hk
 go_enter Tryz.func101, Tryz.ntmps101
 go_upto_region 1 with (first
  | ((with_reducible show wpList _ _ _ (⟨_, .alloc 167, _, _, _, _⟩ :: _) _ _); refine zK h rfl 167 rfl _ zEnt ?_; clear h; intro b4 w h hn4; try simp only [Act.put, qD, qE, qF]))
 have hle := Mm.le_upd' hn4 (.cells #[.int .i64 0, .int .i64 0, .int .u64 0] 167)
 have hb4 := Mm.upd_same M b4 (.cells #[.int .i64 0, .int .i64 0, .int .u64 0] 167)
 replace h : Has σ (M.upd b4 (.cells #[.int .i64 0, .int .i64 0, .int .u64 0] 167)) w := h
 generalize M.upd b4 _ = M1 at h hle hb4
 go_wp2_with (first
  | ((go_at_call 124; refine (KD.out _).mono ?_; rintro r w' ⟨rfl, rfl⟩))
  | ((with_reducible show wpList _ _ _ (⟨_, .store 167 _ _, _, _, _, _⟩ :: _) _ _); (refine zP (cells := #[.int .i64 0, .int .i64 0, .int .u64 0]) h rfl 167 _ _ rfl rfl rfl hb4 rfl rfl rfl (by kernel_rfl) rfl ?_); clear h; intro w h))
 exact bodyPost_ret (results_cell_row rfl _ _ _ _ _ _ _ rfl (h.at_ b4 _ (Mm.upd_same _ _ _)) Tryz.underlying167 rfl (by kernel_rfl)) rfl ⟨by rw [E.out], h.le (Mm.le_upd hle hn4 _)⟩
end
section
open Go.RowKit
structure HX (S : Nat) (hd : Nat → Bool) (H : List Nat) : Prop where
  nodup : H.Nodup
  rng : ∀ x ∈ H, 1 ≤ x ∧ x ≤ S
  iff : ∀ i, 1 ≤ i → i ≤ S → (hd i = true ↔ i ∈ H)
section
variable {S x : Nat} {hd hd2 : Nat → Bool} {H H2 : List Nat}
theorem HX.perm (h : HX S hd H) (hp : H.Perm H2) : HX S hd H2 := ⟨hp.nodup_iff.1 h.nodup, fun x hx => h.rng x (hp.mem_iff.2 hx), fun i a b => (h.iff i a b).trans hp.mem_iff⟩
theorem HX.same (h : HX S hd H) (e : ∀ i, 1 ≤ i → i ≤ S → hd2 i = hd i) : HX S hd2 H := ⟨h.nodup, h.rng, fun i a b => by rw [e i a b]; exact h.iff i a b⟩
theorem HX.add (h : HX S hd H) (x1 : 1 ≤ x) (x2 : x ≤ S) (hx : hd x = false) (e : ∀ i, hd2 i = if i = x then true else hd i) : HX S hd2 (x :: H) := by
  refine ⟨List.nodup_cons.2 ⟨fun hm => ?_, h.nodup⟩, fun y hy => ?_, fun i a b => ?_⟩
  · have := (h.iff x x1 x2).2 hm
    rw [hx] at this; cases this
  · rcases List.mem_cons.1 hy with rfl | hy
    · exact ⟨x1, x2⟩
    exact h.rng y hy
  rw [e i, List.mem_cons]
  by_cases c : i = x
  · rw [if_pos c]; exact ⟨fun _ => .inl c, fun _ => rfl⟩
  rw [if_neg c, h.iff i a b]
  exact ⟨.inr, fun hh => hh.resolve_left c⟩
theorem HX.del (h : HX S hd (x :: H)) (e : ∀ i, hd2 i = if i = x then false else hd i) : HX S hd2 H := by
  obtain ⟨hn, hn2⟩ := List.nodup_cons.1 h.nodup
  refine ⟨hn2, fun y hy => h.rng y (List.mem_cons_of_mem _ hy), fun i a b => ?_⟩
  rw [e i]
  by_cases c : i = x
  · rw [if_pos c]
    exact ⟨fun hh => (nomatch hh), fun hh => absurd (c ▸ hh) hn⟩
  rw [if_neg c, h.iff i a b, List.mem_cons]
  exact ⟨fun hh => hh.resolve_left c, .inr⟩
end
def wZ (C : List Nat) : List Nat := (C.filter fun v => v != 0).map fun v => cutN v 0 8
theorem qX (R : List Nat) : wZ (0 :: R) = wZ R := rfl
theorem qW {v : Nat} (R : List Nat) (hv : v ≠ 0) : wZ (v :: R) = cutN v 0 8 :: wZ R := by
  unfold wZ
  rw [List.filter_cons, if_pos (by simpa using hv), List.map_cons]
theorem oO {v : Nat} (hv : v ≠ 0) : ∀ (C : List Nat) (i : Nat), C[i]? = some v → (wZ C).Perm (cutN v 0 8 :: wZ (C.set i 0))
  | [], i, h => by simp at h
  | a :: R, 0, h => by
    have e : a = v := by simpa using h
    subst e
    rw [qW R hv, qE, qX]
  | a :: R, i + 1, h => by
    have ih := oO hv R i (by simpa using h)
    rw [qF]
    by_cases ha : a = 0
    · subst ha; rw [qX, qX]; exact ih
    rw [qW R ha, qW _ ha]
    exact (ih.cons _).trans (List.Perm.swap _ _ _)
theorem cSlots_fill {v : Nat} (hv : v ≠ 0) {C : List Nat} {i : Nat} (hi : C[i]? = some 0) : (wZ (C.set i v)).Perm (cutN v 0 8 :: wZ C) := by
  obtain ⟨h1, h2⟩ := List.getElem?_eq_some_iff.1 hi
  have := oO hv (C.set i v) i (by rw [List.getElem?_set_self h1])
  rw [List.set_set] at this
  have e : C.set i 0 = C := by
    apply List.ext_getElem?
    intro j
    rw [List.getElem?_set]
    by_cases c : i = j
    · subst c; rw [if_pos rfl, if_pos h1, hi]
    rw [if_neg c]
  rw [e] at this
  exact this
theorem sS (s g l : Nat) : xY s g l = 4611686018427387904 + 4294967296 * (l % 1073741824) + 256 * (g % 16777216) + s % 256 := by
  have h1 : setN (cutN s 0 8) 8 24 g = 256 * (g % 16777216) + s % 256 := by unfold setN cutN; omega
  unfold xY
  rw [h1]
  unfold setN
  omega
theorem jK {s g l : Nat} (hs : s < 256) : cutN (xY s g l) 0 8 = s := by rw [sS]; unfold cutN; omega
theorem cell_label {s g l : Nat} (hl : l < 1073741824) : cutN (xY s g l) 32 30 = l := by rw [sS]; unfold cutN; omega
theorem cell_lt (s g l : Nat) : xY s g l < 18446744073709551616 := by rw [sS]; omega
theorem cell_ne (s g l : Nat) : xY s g l ≠ 0 := by rw [sS]; omega
theorem jJ (s g l : Nat) : yY (xY s g l) = 2 := by
  unfold yY
  rw [if_neg (cell_ne _ _ _)]
  have : oneB (xY s g l) 63 = false := by
    unfold oneB
    rw [sS]
    apply decide_eq_false
    unfold cutN
    omega
  rw [this]; rfl
structure LvX (S B gens m : Nat) (g : GM) (l : Nat) (L : List Nat) : Prop where
  rest : LvR S B m g l L
  free : ∀ x ∈ L, g.w l (oNd B S x 0) % 4 = 0 ∧ zB (g.w l (oNd B S x 0)) < gens ∧ ∀ j, 1 ≤ j → j < 5 → g.w l (oNd B S x j) = 0
  other : ∀ i, 1 ≤ i → i ≤ S → i ∉ L → g.held l i = true ∨ gens ≤ zB (g.w l (oNd B S i 0))
section
variable {S B gens m m' l t x : Nat} {g g2 : GM} {L r C had : List Nat} {fs : List Fr}
theorem LvX.mono (h : LvX S B gens m g l L) (hm : m ≤ m') : LvX S B gens m' g l L := ⟨h.rest.mono hm, h.free, h.other⟩
theorem LvX.congr (h : LvX S B gens m g l L) (h0 : g2.w l 0 = g.w l 0) (h1 : ∀ i, 1 ≤ i → i ≤ S → g2.w l (oLk B i) = g.w l (oLk B i)) (h2 : ∀ i j, 1 ≤ i → i ≤ S → j < 5 → g2.w l (oNd B S i j) = g.w l (oNd B S i j)) (h3 : ∀ i, 1 ≤ i → i ≤ S → g2.held l i = g.held l i) : LvX S B gens m g2 l L := by
  refine ⟨h.rest.congr h0 h1 (fun i a b => h2 i 0 a b (by decide)) fun x hx => h3 x (h.rest.rng x hx).1 (h.rest.rng x hx).2.1, fun x hx => ?_, fun i a b c => ?_⟩
  · obtain ⟨x1, x2, _⟩ := h.rest.rng x hx
    rw [h2 x 0 x1 x2 (by decide)]
    exact ⟨(h.free x hx).1, (h.free x hx).2.1, fun j j1 j5 => by rw [h2 x j x1 x2 j5]; exact (h.free x hx).2.2 j j1 j5⟩
  rw [h3 i a b, h2 i 0 a b (by decide)]; exact h.other i a b c
theorem LvX.take (h : LvX S B gens m g l (x :: r)) (hm : m < 900000) (hS60 : S ≤ 60) : LvX S B gens (m + 1) (tX B S g t l fs x) l r := by
  have hw : ∀ o, o ≠ 0 → (tX B S g t l fs x).w l o = g.w l o := fun o ho => by
    show (g.set l 0 _).w l o = _
    rw [zM, if_neg fun hh => ho hh.2]
  have hd : ∀ i, (tX B S g t l fs x).held l i = if l = l ∧ i = x then true else g.held l i := fun i => vC (g := g.set l 0 _) l i
  have ho : ∀ i j, oNd B S i j ≠ 0 := fun i j => by unfold oNd; omega
  refine ⟨h.rest.take hm hS60, fun y hy => ?_, fun i a b c => ?_⟩
  · rw [hw _ (ho _ _)]
    exact ⟨(h.free y (List.mem_cons_of_mem _ hy)).1, (h.free y (List.mem_cons_of_mem _ hy)).2.1, fun j j1 j5 => by rw [hw _ (ho _ _)]; exact (h.free y (List.mem_cons_of_mem _ hy)).2.2 j j1 j5⟩
  rw [hw _ (ho _ _), hd]
  by_cases e : i = x
  · rw [if_pos ⟨rfl, e⟩]; exact .inl rfl
  rw [if_neg fun hh => e hh.2]
  exact h.other i a b fun hh => (List.mem_cons.1 hh).elim e c
theorem LvX.give (h : LvX S B gens m g l L) (hm : m < 900000) (hS60 : S ≤ 60) (x1 : 1 ≤ x) (x2 : x ≤ S) (hx : x ∉ L) : LvX S B gens (m + 1) (xO B S gens g t l fs x) l (lK B S gens g l x L) := by
  have hgm := (h.rest.hd x x1 x2).2
  have hnd : ∀ y j, 1 ≤ y → y ≤ S → j < 5 → y ≠ x → (xO B S gens g t l fs x).w l (oNd B S y j) = g.w l (oNd B S y j) := fun y j h1 h2 hj e => mV _ _ fun hh => by
    rcases hh.2 with h | h | h
    · unfold oNd at h; omega
    · unfold oNd oLk at h; omega
    unfold oNd at h; omega
  have hhd : zB ((xO B S gens g t l fs x).w l (oNd B S x 0)) = zB (g.w l (oNd B S x 0)) + 1 := by rw [give_hd x1 x2, rE (by omega)]
  have hold : ∀ y ∈ L, (xO B S gens g t l fs x).w l (oNd B S y 0) % 4 = 0 ∧ zB ((xO B S gens g t l fs x).w l (oNd B S y 0)) < gens ∧ ∀ j, 1 ≤ j → j < 5 → (xO B S gens g t l fs x).w l (oNd B S y j) = 0 := fun y hy => by
    obtain ⟨y1, y2, _⟩ := h.rest.rng y hy
    have hne : y ≠ x := fun e => hx (e ▸ hy)
    rw [hnd y 0 y1 y2 (by decide) hne]
    exact ⟨(h.free y hy).1, (h.free y hy).2.1, fun j j1 j5 => by rw [hnd y j y1 y2 j5 hne]; exact (h.free y hy).2.2 j j1 j5⟩
  refine ⟨h.rest.give hm hS60 x1 x2 hx, fun y hy => ?_, fun i a b c => ?_⟩
  · unfold lK at hy
    split at hy
    · next hg =>
      rcases List.mem_cons.1 hy with rfl | hy
      · exact ⟨by rw [give_hd x1 x2]; exact head_st _, by rw [hhd]; exact hg, fun j j1 j5 => give_fld x1 x2 j1 j5⟩
      exact hold y hy
    exact hold y hy
  by_cases e : i = x
  · subst e
    refine .inr ?_
    rw [hhd]
    unfold lK at c
    split at c
    · exact absurd List.mem_cons_self c
    omega
  rw [qQ, if_neg fun hh => e hh.2, hnd i 0 a b (by decide) e]
  refine h.other i a b fun hh => c ?_
  unfold lK
  split
  · exact List.mem_cons_of_mem _ hh
  exact hh
structure LbX (S B gens m : Nat) (g : GM) (l : Nat) (L C had : List Nat) : Prop where
  lv : LvX S B gens m g l L
  len : C.length = B
  w : ∀ i, i < B → g.w l (18 + i) = C.getD i 0
  ok : ∀ v ∈ C, v ≠ 0 → v < 18446744073709551616 ∧ yY v = 2
  hx : HX S (g.held l) (1 :: (had ++ wZ C))
theorem LbX.mono (h : LbX S B gens m g l L C had) (hm : m ≤ m') : LbX S B gens m' g l L C had := ⟨h.lv.mono hm, h.len, h.w, h.ok, h.hx⟩
theorem LbX.congr (h : LbX S B gens m g l L C had) (hw : ∀ o, o = 0 ∨ 18 ≤ o → g2.w l o = g.w l o) (hh : ∀ i, g2.held l i = g.held l i) : LbX S B gens m g2 l L C had :=
  ⟨h.lv.congr (hw _ (.inl rfl)) (fun i _ _ => hw _ (.inr (by unfold oLk; omega))) (fun i j _ _ _ => hw _ (.inr (by unfold oNd; omega))) fun i _ _ => hh i, h.len, fun i hi => by rw [hw _ (.inr (by omega))]; exact h.w i hi, h.ok, h.hx.same fun i _ _ => hh i⟩
theorem LbX.busy (h : LbX S B gens m g l L C had) (hx : x ∈ 1 :: (had ++ wZ C)) : 1 ≤ x ∧ x ≤ S ∧ g.held l x = true ∧ x ∉ L := by
  obtain ⟨a, b⟩ := h.hx.rng x hx
  have c := (h.hx.iff x a b).2 hx
  exact ⟨a, b, c, fun hl => by have := (h.lv.rest.rng x hl).2.2; rw [c] at this; cases this⟩
theorem LbX.take (h : LbX S B gens m g l (x :: r) C had) (hm : m < 900000) (hS60 : S ≤ 60) : LbX S B gens (m + 1) (tX B S g t l fs x) l r C (had ++ [x]) := by
  obtain ⟨x1, x2, x3⟩ := h.lv.rest.rng x List.mem_cons_self
  refine ⟨h.lv.take hm hS60, h.len, fun i hi => ?_, h.ok, ?_⟩
  · show (g.set l 0 _).w l _ = _
    rw [zM, if_neg fun hh => by have := hh.2; omega]; exact h.w i hi
  have hd : ∀ i, (tX B S g t l fs x).held l i = if i = x then true else g.held l i := fun i => by
    have := vC (g := g.set l 0 (yK (g.w l (oLk B x)) (cnt (g.w l 0) + 1))) (l := l) (i := x) l i
    by_cases e : i = x
    · rw [if_pos ⟨rfl, e⟩] at this; rw [if_pos e]; exact this
    rw [if_neg fun hh => e hh.2] at this; rw [if_neg e]; exact this
  refine (h.hx.add x1 x2 x3 hd).perm ?_
  rw [List.append_assoc]
  have p1 : (x :: 1 :: (had ++ wZ C)).Perm (1 :: x :: (had ++ wZ C)) := List.Perm.swap _ _ _
  exact p1.trans ((List.perm_middle (a := x) (l₁ := had) (l₂ := wZ C)).symm.cons 1)
theorem getD_set (C : List Nat) (i v j : Nat) (hi : i < C.length) : (C.set i v).getD j 0 = if j = i then v else C.getD j 0 := by
  rw [List.getD_eq_getElem?_getD, List.getD_eq_getElem?_getD, List.getElem?_set]
  by_cases e : j = i
  · subst e; rw [if_pos rfl, if_pos hi, if_pos rfl]; rfl
  rw [if_neg (fun h => e h.symm), if_neg e]
theorem LvX.cell (h : LvX S B gens m g l L) {i v : Nat} (hi : i < B) : LvX S B gens m (g.set l (18 + i) v) l L :=
  h.congr (by rw [zM, if_neg fun hh => by have := hh.2; omega]) (fun j _ _ => by rw [zM, if_neg fun hh => by have := hh.2; unfold oLk at this; omega]) (fun j k _ _ _ => by rw [zM, if_neg fun hh => by have := hh.2; unfold oNd at this; omega]) fun _ _ _ => rfl
theorem LbX.fill {had2 : List Nat} {i v : Nat} (h : LbX S B gens m g l L C had) (hp : had.Perm (cutN v 0 8 :: had2)) (hi : C[i]? = some 0) (hv0 : v ≠ 0) (hv64 : v < 18446744073709551616) (hk : yY v = 2) : LbX S B gens m (g.set l (18 + i) v) l L (C.set i v) had2 := by
  obtain ⟨h1, h2⟩ := List.getElem?_eq_some_iff.1 hi
  have hiB : i < B := by rw [← h.len]; exact h1
  refine ⟨h.lv.cell hiB, by rw [List.length_set]; exact h.len, fun j hj => ?_, fun u hu hu0 => ?_, h.hx.perm ?_⟩
  · rw [zM, getD_set _ _ _ _ h1]
    by_cases e : j = i
    · rw [if_pos ⟨rfl, by omega⟩, if_pos e]
    rw [if_neg fun hh => e (by have := hh.2; omega), if_neg e]; exact h.w j hj
  · rcases List.mem_or_eq_of_mem_set hu with hu | hu
    · exact h.ok u hu hu0
    subst hu; exact ⟨hv64, hk⟩
  refine List.Perm.cons 1 ?_
  refine (hp.append_right (wZ C)).trans ?_
  have p1 := (cSlots_fill hv0 hi).symm
  have p2 : (cutN v 0 8 :: had2 ++ wZ C).Perm (had2 ++ cutN v 0 8 :: wZ C) := (List.perm_middle (a := cutN v 0 8) (l₁ := had2) (l₂ := wZ C)).symm
  exact p2.trans (p1.append_left had2)
theorem LbX.first (hS : 2 ≤ S) (hg : 1 ≤ gens) (l : Nat) : LbX S B gens 0 (gm0 B S) l (yB 2 (S - 1)) (List.replicate B 0) [] := by
  have hmem : ∀ i, i ∈ yB 2 (S - 1) ↔ 2 ≤ i ∧ i ≤ S := fun i => by
    unfold yB
    rw [List.mem_map]
    constructor
    · rintro ⟨y, hy, rfl⟩
      have := List.mem_range.1 hy
      omega
    intro hh
    exact ⟨i - 2, List.mem_range.2 (by omega), by omega⟩
  refine ⟨⟨lvR_first hS l, fun x hx => ?_, fun i a b c => ?_⟩, List.length_replicate, fun i hi => ?_, fun v hv hv0 => absurd (List.eq_of_mem_replicate hv) hv0, ?_⟩
  · have := (hmem x).1 hx
    have e0 : (gm0 B S).w l (oNd B S x 0) = 0 := by
      show (w0 B S S (oNd B S x 0)).toNat = 0
      rw [w0_nd B S x (by omega), if_neg (by omega)]
    rw [e0]
    exact ⟨rfl, by have : zB 0 = 0 := by decide
                   omega, fun j j1 j5 => w0_fld B S x j (by omega) j1 j5⟩
  · left
    have : i = 1 := by
      by_cases e : i = 1
      · exact e
      exact absurd ((hmem i).2 ⟨by omega, b⟩) c
    subst this
    rfl
  · show (w0 B S S (18 + i)).toNat = _
    rw [List.getD_eq_getElem?_getD, List.getElem?_replicate, if_pos hi]
    unfold w0
    rw [if_neg (by omega), if_neg (by omega), if_neg (by omega), if_neg (by omega)]
    rfl
  have e : wZ (List.replicate B 0) = [] := by
    unfold wZ
    rw [List.filter_replicate]
    simp
  rw [e]
  refine ⟨by simp, fun x hx => ?_, fun i a b => ?_⟩
  · have : x = 1 := by simpa using hx
    omega
  show ((i == 1) = true) ↔ _
  simp
end
end
section
open Go.RowKit
def levH (lev : Nat → Nat) (j : Nat) : Nat := if j < 100 then lev j else j - 100
theorem vK {lev : Nat → Nat} {t : Nat} (h : t < 100) : levH lev t = lev t := if_pos h
theorem uF (lev : Nat → Nat) (l : Nat) : levH lev (100 + l) = l := by unfold levH; rw [if_neg (by omega)]; omega
def cellsOf (g : GM) (B l : Nat) : List Nat := (List.range B).map fun j => g.w l (18 + j)
def xL (C : List Nat) : List Nat := (C.filter fun v => yY v == 2).map fun v => cutN v 0 8
theorem wY {v : Nat} (R : List Nat) (hv : yY v = 2) : xL (v :: R) = cutN v 0 8 :: xL R := by
 unfold xL
 rw [List.filter_cons, if_pos (by simpa using hv), List.map_cons]
theorem xU {v : Nat} (R : List Nat) (hv : yY v ≠ 2) : xL (v :: R) = xL R := by
 unfold xL
 rw [List.filter_cons, if_neg (by simpa using hv)]
theorem nN {v v' : Nat} (hv : yY v ≠ 2) (hv' : yY v' = 2) : ∀ (C : List Nat) (i : Nat), C[i]? = some v → (xL (C.set i v')).Perm (cutN v' 0 8 :: xL C)
 | [], i, h => by simp at h
 | a :: R, 0, h => by
  have e : a = v := by simpa using h
  subst e
  rw [qE, wY R hv', xU R hv]
 | a :: R, i + 1, h => by
  have ih := nN hv hv' R i (by simpa using h)
  rw [qF]
  by_cases ha : yY a = 2
  ·rw [wY _ ha, wY _ ha]
   exact (ih.cons _).trans (List.Perm.swap _ _ _)
  rw [xU _ ha, xU _ ha]; exact ih
theorem pF {v v' : Nat} (hv : yY v = 2) (hv' : yY v' ≠ 2) : ∀ (C : List Nat) (i : Nat), C[i]? = some v → (xL C).Perm (cutN v 0 8 :: xL (C.set i v'))
 | [], i, h => by simp at h
 | a :: R, 0, h => by
  have e : a = v := by simpa using h
  subst e
  rw [qE, wY R hv, xU R hv']
 | a :: R, i + 1, h => by
  have ih := pF hv hv' R i (by simpa using h)
  rw [qF]
  by_cases ha : yY a = 2
  ·rw [wY _ ha, wY _ ha]
   exact (ih.cons _).trans (List.Perm.swap _ _ _)
  rw [xU _ ha, xU _ ha]; exact ih
theorem nP {v v' : Nat} (hv : yY v ≠ 2) (hv' : yY v' ≠ 2) : ∀ (C : List Nat) (i : Nat), C[i]? = some v → xL (C.set i v') = xL C
 | [], i, h => by simp at h
 | a :: R, 0, h => by
  have e : a = v := by simpa using h
  subst e
  rw [qE, xU R hv', xU R hv]
 | a :: R, i + 1, h => by
  have ih := nP hv hv' R i (by simpa using h)
  rw [qF]
  by_cases ha : yY a = 2
  ·rw [wY _ ha, wY _ ha, ih]
  rw [xU _ ha, xU _ ha]; exact ih
theorem wI {g : GM} {B l j : Nat} (hj : j < B) : (cellsOf g B l)[j]? = some (g.w l (18 + j)) := by
 unfold cellsOf
 rw [List.getElem?_map, List.getElem?_range hj]; rfl
theorem uV {g g2 : GM} {B l : Nat} (h : ∀ j, j < B → g2.w l (18 + j) = g.w l (18 + j)) : cellsOf g2 B l = cellsOf g B l :=
 List.map_congr_left fun j hj => h j (List.mem_range.1 hj)
theorem cellsOf_set {g g2 : GM} {B l j v : Nat} (hj : j < B) (h : ∀ i, i < B → g2.w l (18 + i) = if i = j then v else g.w l (18 + i)) : cellsOf g2 B l = (cellsOf g B l).set j v := by
 refine List.ext_getElem? fun i => ?_
 rw [List.getElem?_set]
 have hlen : (cellsOf g B l).length = B := by unfold cellsOf; rw [List.length_map, List.length_range]
 by_cases hi : i < B
 ·rw [wI hi, h i hi]
  by_cases e : j = i
  ·subst e; rw [if_pos rfl, if_pos rfl, if_pos (by omega)]
  rw [if_neg (fun e2 => e e2.symm), if_neg e, wI hi]
 rw [List.getElem?_eq_none (by unfold cellsOf; rw [List.length_map, List.length_range]; omega), if_neg (by omega), List.getElem?_eq_none (by omega)]
theorem kSlots_mem {C : List Nat} {x : Nat} : x ∈ xL C ↔ ∃ v ∈ C, yY v = 2 ∧ cutN v 0 8 = x := by
 unfold xL
 rw [List.mem_map]
 constructor
 ·rintro ⟨v, hv, e⟩
  obtain ⟨h1, h2⟩ := List.mem_filter.1 hv
  exact ⟨v, h1, by simpa using h2, e⟩
 rintro ⟨v, hv, hk, e⟩
 exact ⟨v, List.mem_filter.2 ⟨hv, by simpa using hk⟩, e⟩
theorem sD {t : Nat} (h : t < 256) : zI t = 9223372036854775808 + t := by
 unfold zI cutN
 omega
theorem lM {t u : Nat} (h : t < 256) (h' : u < 256) (e : zI t = zI u) : t = u := by
 rw [sD h, sD h'] at e; omega
theorem uL {t : Nat} (h : t < 256) : yY (zI t) ≠ 2 := by
 have : oneB (zI t) 63 = true := by rw [sD h]; unfold oneB; exact decide_eq_true (by unfold cutN; omega)
 unfold yY
 rw [if_neg (by rw [sD h]; omega), if_pos this]
 decide
theorem qU : yY 0 ≠ 2 := by decide
def LcAdv (N l : Nat) (g : GM) (F : Fr) : Prop := F.fn = 12 ∧ ((F.pc = 0 ∧ F.r 1 = 0) ∨ (F.pc = 1 ∧ F.r 1 < N ∧ F.r 0 ≤ g.w l 1) ∨ (F.pc = 2 ∧ F.r 0 ≤ g.w l 1))
def LcRsv (B : Nat) (md : List Nat) (F : Fr) : Prop := F.fn = 20 ∧ md ≠ [] ∧ ((F.pc = 0 ∧ F.r 0 ≤ B) ∨ (F.pc = 1 ∧ F.r 0 < B))
def LcRel (B l t : Nat) (g : GM) (F : Fr) : Prop := F.fn = 21 ∧ F.r 0 < B ∧ g.w l (18 + F.r 0) = zI t
def LcS (B l t : Nat) (g : GM) (F : Fr) : Prop := F.r 1 < B ∧ F.r 3 ≤ F.r 1 ∧ F.r 0 ≤ g.w l 1 ∧ g.w l (18 + F.r 1) = zI t
def LcSw (B l t : Nat) (g : GM) (F : Fr) : Prop := F.fn = 23 ∧ ((F.pc = 0 ∧ F.r 1 = 0 ∧ F.r 3 = 0) ∨ (F.pc = 1 ∧ F.r 1 ≤ B ∧ F.r 3 ≤ F.r 1 ∧ F.r 0 ≤ g.w l 1) ∨ (F.pc = 2 ∧ F.r 1 < B ∧ F.r 3 ≤ F.r 1 ∧ F.r 0 ≤ g.w l 1 ∧ F.r 2 < 18446744073709551616 ∧ yY (F.r 2) = 2 ∧ cutN (F.r 2) 32 30 + 2 ≤ F.r 0) ∨ (F.pc = 3 ∧ LcS B l t g F))
def LcW (B l t : Nat) (g : GM) (x : Nat) (F : Fr) : Prop := F.fn = 22 ∧ F.r 0 < B ∧ g.w l (18 + F.r 0) = zI t ∧ F.r 1 = x ∧ F.r 2 < 4294967296 ∧ (F.pc = 0 ∨ (F.pc = 1 ∧ F.r 3 ≤ g.w l 1))
def LcF (B N l t : Nat) (g : GM) (md : List Nat) (F : Fr) : Prop := LcAdv N l g F ∨ LcRsv B md F ∨ LcRel B l t g F ∨ LcSw B l t g F
def LcT (B N l t : Nat) (g : GM) (z : StG) (had md : List Nat) : Prop :=
 (g.thr t = [] ∧ z.thr t = none ∧ had = md)
 ∨ (∃ F, g.thr t = [F] ∧ F.fn = 1 ∧ z.thr t = some (frS F) ∧ had = md)
 ∨ (∃ F, g.thr t = [F] ∧ z.thr t = none ∧ had = md ∧ LcF B N l t g md F)
 ∨ (∃ F x, g.thr t = [F] ∧ z.thr t = none ∧ had = x :: md ∧ LcW B l t g x F)
 ∨ (∃ F G, g.thr t = [F, G] ∧ G.fn = 2 ∧ z.thr t = some (frS G) ∧ had = md ∧ F.fn = 23 ∧ F.pc = 3 ∧ LcS B l t g F)
section
variable {B N l t : Nat} {g g2 : GM} {z z2 : StG} {had md : List Nat}
theorem LcT.frame (h : LcT B N l t g z had md) (e1 : g2.thr t = g.thr t) (e2 : z2.thr t = z.thr t) (e3 : g.w l 1 ≤ g2.w l 1) (e4 : ∀ j, j < B → g.w l (18 + j) = zI t → g2.w l (18 + j) = zI t) : LcT B N l t g2 z2 had md := by
 have hS : ∀ F, LcS B l t g F → LcS B l t g2 F := fun F ⟨a, b, c, d⟩ => ⟨a, b, Nat.le_trans c e3, e4 _ a d⟩
 unfold LcT at h ⊢
 rw [e1, e2]
 rcases h with h | h | ⟨F, a, b, c, d⟩ | ⟨F, x, a, b, c, d⟩ | ⟨F, G, a, b, c, d, e, f, k⟩
 ·exact .inl h
 ·exact .inr (.inl h)
 ·refine .inr (.inr (.inl ⟨F, a, b, c, ?_⟩))
  rcases d with ⟨d1, d2⟩ | d | ⟨d1, d2, d3⟩ | ⟨d1, d2⟩
  ·refine .inl ⟨d1, ?_⟩
   rcases d2 with h | ⟨h1, h2, h3⟩ | ⟨h1, h2⟩
   ·exact .inl h
   ·exact .inr (.inl ⟨h1, h2, Nat.le_trans h3 e3⟩)
   exact .inr (.inr ⟨h1, Nat.le_trans h2 e3⟩)
  ·exact .inr (.inl d)
  ·exact .inr (.inr (.inl ⟨d1, d2, e4 _ d2 d3⟩))
  refine .inr (.inr (.inr ⟨d1, ?_⟩))
  rcases d2 with h | ⟨h1, h2, h3, h4⟩ | ⟨h1, h2, h3, h4, h5⟩ | ⟨h1, h2⟩
  ·exact .inl h
  ·exact .inr (.inl ⟨h1, h2, h3, Nat.le_trans h4 e3⟩)
  ·exact .inr (.inr (.inl ⟨h1, h2, h3, Nat.le_trans h4 e3, h5⟩))
  exact .inr (.inr (.inr ⟨h1, hS _ h2⟩))
 ·obtain ⟨d1, d2, d3, d4, d5, d6⟩ := d
  refine .inr (.inr (.inr (.inl ⟨F, x, a, b, c, d1, d2, e4 _ d2 d3, d4, d5, ?_⟩)))
  rcases d6 with h | ⟨h1, h2⟩
  ·exact .inl h
  exact .inr ⟨h1, Nat.le_trans h2 e3⟩
 exact .inr (.inr (.inr (.inr ⟨F, G, a, b, c, d, e, f, hS _ k⟩)))
theorem LcT.len (h : LcT B N l t g z had md) : (g.thr t).length ≤ 2 := by
 rcases h with ⟨h, _⟩ | ⟨_, h, _⟩ | ⟨_, h, _⟩ | ⟨_, _, h, _⟩ | ⟨_, _, h, _⟩ <;> (rw [h]; simp)
end
def CellOk (T v : Nat) : Prop := v = 0 ∨ (∃ u, u < T ∧ v = zI u) ∨ (v < 18446744073709551616 ∧ yY v = 2)
structure LcZ (B S NL T : Nat) (N lev : Nat → Nat) (m : Nat) (g : GM) (z : StG) (had md : Nat → List Nat) : Prop where
 abs : StA B S NL g z
 fz : ∀ l, l < NL → ∀ x, 1 ≤ x → x ≤ S → ∀ j, 1 ≤ j → j < 5 → g.w l (oNd B S x j) = 0
 act : ∀ l, l < NL → ∀ o, 10 ≤ o → o < 18 → g.w l o = 0
 ep : ∀ l, l < NL → g.w l 1 ≤ m + 2
 thr : ∀ t, t < T → LcT B (N (lev t)) (lev t) t g z (had t) (md t)
 cell : ∀ l, l < NL → ∀ j, j < B → CellOk T (g.w l (18 + j))
 lim : ∀ l, l < NL → (had (100 + l)).Perm (xL (cellsOf g B l))
structure LcI (B S gens NL T : Nat) (N lev : Nat → Nat) (m : Nat) (g : GM) (md : Nat → List Nat) : Prop where
 ex : ∃ z L ow had ev emp, CrI S gens NL T (levH lev) m z L ow had ev emp ∧ LcZ B S NL T N lev m g z had md ∧ CodeI ow z.lv ∧ HadC (fun j => j < T ∨ 100 ≤ j) (levH lev) ow had
section
variable {B S gens NL T m m2 t : Nat} {N lev : Nat → Nat} {g g2 : GM} {z z2 : StG} {had had2 md md2 : Nat → List Nat}
theorem LcZ.upd (h : LcZ B S NL T N lev m g z had md) (hT8 : T ≤ 8) (hm : m ≤ m2) (hthr : ∀ u, u ≠ t → g2.thr u = g.thr u) (hz : ∀ u, u ≠ t → z2.thr u = z.thr u) (A2 : StA B S NL g2 z2) (hhad : ∀ u, u < 100 → u ≠ t → had2 u = had u) (hmd : ∀ u, u ≠ t → md2 u = md u)
  (hw : ∀ l, l < NL → ∀ o, (∃ x j, 1 ≤ x ∧ x ≤ S ∧ 1 ≤ j ∧ j < 5 ∧ o = oNd B S x j) ∨ (10 ≤ o ∧ o < 18) → g2.w l o = g.w l o ∨ g2.w l o = 0)
  (hep : ∀ l, l < NL → g.w l 1 ≤ g2.w l 1 ∧ g2.w l 1 ≤ m2 + 2)
  (hold : ∀ l, l < NL → ∀ j, j < B → ∀ u, u < T → u ≠ t → lev u = l → g.w l (18 + j) = zI u → g2.w l (18 + j) = zI u)
  (hcell : ∀ l, l < NL → ∀ j, j < B → CellOk T (g2.w l (18 + j)))
  (hlim : ∀ l, l < NL → (had2 (100 + l)).Perm (xL (cellsOf g2 B l)))
  (hlev : ∀ u, u < T → lev u < NL)
  (hT : LcT B (N (lev t)) (lev t) t g2 z2 (had2 t) (md2 t)) : LcZ B S NL T N lev m2 g2 z2 had2 md2 := by
 refine ⟨A2, fun l hl x x1 x2 j j1 j5 => ?_, fun l hl o o1 o2 => ?_, fun l hl => (hep l hl).2, fun u hu => ?_, hcell, hlim⟩
 ·rcases hw l hl _ (.inl ⟨x, j, x1, x2, j1, j5, rfl⟩) with e | e
  ·rw [e]; exact h.fz l hl x x1 x2 j j1 j5
  exact e
 ·rcases hw l hl o (.inr ⟨o1, o2⟩) with e | e
  ·rw [e]; exact h.act l hl o o1 o2
  exact e
 by_cases e : u = t
 ·subst e; exact hT
 rw [hhad u (by omega) e, hmd u e]
 exact (h.thr u hu).frame (hthr u e) (hz u e) (hep _ (hlev u hu)).1 fun j hj hh => hold _ (hlev u hu) j hj u hu e rfl hh
theorem LcZ.self (h : LcZ B S NL T N lev m g z had md) (hT8 : T ≤ 8) (hthr : ∀ u, u ≠ t → g2.thr u = g.thr u) (hw : g2.w = g.w) (hh : g2.held = g.held) (hz : ∀ u, u ≠ t → z2.thr u = z.thr u) (hlv : z2.lv = z.lv) (hm : m ≤ m2) (hlev : ∀ u, u < T → lev u < NL) (hT : LcT B (N (lev t)) (lev t) t g2 z2 (had t) (md t)) : LcZ B S NL T N lev m2 g2 z2 had md :=
 h.upd hT8 hm hthr hz ⟨fun l hl => by rw [hlv, hw]; exact h.abs.top l hl, fun l i hl a b => by rw [hlv, hw]; exact h.abs.lk l i hl a b, fun l i hl a b => by rw [hlv, hw]; exact h.abs.hd l i hl a b, fun l i hl a b => by rw [hlv, hh]; exact h.abs.held l i hl a b⟩ (fun _ _ _ => rfl) (fun _ _ => rfl) (fun l hl o _ => .inl (by rw [hw]))
  (fun l hl => by rw [hw]; exact ⟨Nat.le_refl _, by have := h.ep l hl; omega⟩) (fun l hl j hj u hu _ _ e => by rw [hw]; exact e) (fun l hl j hj => by rw [hw]; exact h.cell l hl j hj)
  (fun l hl => by rw [uV (g := g) fun j hj => by rw [hw]]; exact h.lim l hl) hlev hT
theorem LcZ.cell1 (h : LcZ B S NL T N lev m g z had md) (hT8 : T ≤ 8) {j v : Nat} (hj : j < B) (hlt : lev t < NL) (hthr : ∀ u, u ≠ t → g2.thr u = g.thr u) (hw : g2.w = (g.set (lev t) (18 + j) v).w) (hh : g2.held = g.held) (hz : ∀ u, u ≠ t → z2.thr u = z.thr u) (hlv : z2.lv = z.lv) (hm : m ≤ m2) (hlev : ∀ u, u < T → lev u < NL)
  (hhad : ∀ u, u < 100 → u ≠ t → had2 u = had u) (hmd : ∀ u, u ≠ t → md2 u = md u)
  (hlim : (had2 (100 + lev t)).Perm (xL ((cellsOf g B (lev t)).set j v))) (hlim2 : ∀ l, l ≠ lev t → had2 (100 + l) = had (100 + l))
  (hold : ∀ u, u < T → u ≠ t → g.w (lev t) (18 + j) ≠ zI u) (hv : CellOk T v)
  (hT : LcT B (N (lev t)) (lev t) t g2 z2 (had2 t) (md2 t)) : LcZ B S NL T N lev m2 g2 z2 had2 md2 := by
 have hw2 : ∀ l o, g2.w l o = if l = lev t ∧ o = 18 + j then v else g.w l o := fun l o => by rw [hw, zM]
 have hoff : ∀ l o, o ≠ 18 + j → g2.w l o = g.w l o := fun l o e => by rw [hw2, if_neg fun hh => e hh.2]
 have hnd : ∀ x j', oNd B S x j' ≠ 18 + j := fun x j' e => by unfold oNd at e; omega
 have hlk : ∀ i, 1 ≤ i → oLk B i ≠ 18 + j := fun i hi e => by unfold oLk at e; omega
 refine h.upd hT8 hm hthr hz ⟨fun l hl => by rw [hlv, hoff l 0 (by omega)]; exact h.abs.top l hl, fun l i hl a b => by rw [hlv, hoff l _ (hlk i a)]; exact h.abs.lk l i hl a b, fun l i hl a b => by rw [hlv, hoff l _ (hnd i 0)]; exact h.abs.hd l i hl a b, fun l i hl a b => by rw [hlv, hh]; exact h.abs.held l i hl a b⟩ hhad hmd (fun l hl o ho => .inl (hoff l o ?_))
  (fun l hl => by rw [hoff l 1 (by omega)]; exact ⟨Nat.le_refl _, by have := h.ep l hl; omega⟩) (fun l hl i hi u hu hne hul e => ?_) (fun l hl i hi => ?_) (fun l hl => ?_) hlev hT
 ·rcases ho with ⟨x, j', _, _, _, _, rfl⟩ | ⟨o1, o2⟩
  ·exact hnd _ _
  omega
 ·rw [hw2]
  by_cases c : l = lev t ∧ 18 + i = 18 + j
  ·exfalso
   obtain ⟨rfl, c2⟩ := c
   rw [c2] at e
   exact hold u hu hne e
  rw [if_neg c]; exact e
 ·rw [hw2]
  split
  ·exact hv
  exact h.cell l hl i hi
 by_cases c : l = lev t
 ·subst c
  rw [cellsOf_set (g := g) hj (fun i hi => by
   rw [hw2]
   by_cases e : i = j
   ·subst e; rw [if_pos ⟨rfl, rfl⟩, if_pos rfl]
   rw [if_neg fun hh => e (by omega), if_neg e])]
  exact hlim
 rw [hlim2 l c, uV (g := g) fun i hi => by rw [hw2, if_neg fun hh => c hh.1]]
 exact h.lim l hl
end
def AwW (T B : Nat) (lev : Nat → Nat) (g : GM) (l x e : Nat) : Prop :=
 (∃ u F, u < T ∧ lev u = l ∧ g.thr u = [F] ∧ F.fn = 22 ∧ F.r 1 = x ∧ ((F.pc = 0 ∧ e ≤ g.w l 1) ∨ (F.pc = 1 ∧ e ≤ F.r 3)))
 ∨ (∃ j, j < B ∧ yY (g.w l (18 + j)) = 2 ∧ cutN (g.w l (18 + j)) 0 8 = x ∧ e ≤ cutN (g.w l (18 + j)) 32 30)
 ∨ (∃ u F G, u < T ∧ lev u = l ∧ g.thr u = [F, G] ∧ F.fn = 23 ∧ G.fn = 2 ∧ G.r 0 = x ∧ e + 2 ≤ F.r 0)
structure AwE where
 l : Nat
 x : Nat
 gn : Nat
 e : Nat
structure AwH (S NL T B : Nat) (lev : Nat → Nat) (g : GM) (a : AwE) : Prop where
 hl : a.l < NL
 x1 : 1 ≤ a.x
 x2 : a.x ≤ S
 held : g.held a.l a.x = true
 gen : g.wg a.l a.x = a.gn
 at_ : AwW T B lev g a.l a.x a.e
def uC (lev : Nat → Nat) (t : Nat) (g g2 : GM) (a : AwE) : Prop := a.l = lev t ∧ a.e + 2 ≤ g.w (lev t) 1 ∧ g2.held a.l a.x = false
section
variable {S NL T B t l x e e' : Nat} {lev : Nat → Nat} {g g2 : GM} {a : AwE}
theorem AwW.mono (h : AwW T B lev g l x e) (he : e' ≤ e) : AwW T B lev g l x e' := by
 rcases h with ⟨u, F, a, b, c, d, f, k⟩ | ⟨j, a, b, c, d⟩ | ⟨u, F, G, a, b, c, d, f, k, i⟩
 ·exact .inl ⟨u, F, a, b, c, d, f, by rcases k with ⟨k1, k2⟩ | ⟨k1, k2⟩ <;> omega⟩
 ·exact .inr (.inl ⟨j, a, b, c, by omega⟩)
 exact .inr (.inr ⟨u, F, G, a, b, c, d, f, k, by omega⟩)
theorem AwW.keep (h : AwW T B lev g l x e) (hthr : ∀ u, u ≠ t → g2.thr u = g.thr u) (hep : g.w l 1 ≤ g2.w l 1)
  (hc : ∀ j, j < B → yY (g.w l (18 + j)) = 2 → g2.w l (18 + j) = g.w l (18 + j) ∨ AwW T B lev g2 l (cutN (g.w l (18 + j)) 0 8) (cutN (g.w l (18 + j)) 32 30))
  (h1 : t < T → lev t = l → ∀ F, g.thr t = [F] → F.fn = 22 → F.r 1 = x → ((F.pc = 0 ∧ e ≤ g.w l 1) ∨ (F.pc = 1 ∧ e ≤ F.r 3)) → AwW T B lev g2 l x e)
  (h2 : t < T → lev t = l → ∀ F G, g.thr t = [F, G] → F.fn = 23 → G.fn = 2 → G.r 0 = x → e + 2 ≤ F.r 0 → AwW T B lev g2 l x e) : AwW T B lev g2 l x e := by
 rcases h with ⟨u, F, a, b, c, d, f, k⟩ | ⟨j, a, b, c, d⟩ | ⟨u, F, G, a, b, c, d, f, k, i⟩
 ·by_cases hu : u = t
  ·subst hu; exact h1 a b F c d f k
  exact .inl ⟨u, F, a, b, by rw [hthr u hu]; exact c, d, f, by rcases k with ⟨k1, k2⟩ | ⟨k1, k2⟩ <;> omega⟩
 ·rcases hc j a b with q | q
  ·exact .inr (.inl ⟨j, a, by rw [q]; exact b, by rw [q]; exact c, by rw [q]; exact d⟩)
  rw [c] at q
  exact q.mono d
 by_cases hu : u = t
 ·subst hu; exact h2 a b F G c d f k i
 exact .inr (.inr ⟨u, F, G, a, b, by rw [hthr u hu]; exact c, d, f, k, i⟩)
end
section
variable {B S gens NL T n m t l x i : Nat} {lev hl : Nat → Nat} {z : StG} {L : Nat → List Nat} {ow : Nat → Nat → Nat × Nat} {had : Nat → List Nat} {ev : Nat → List (Nat × Nat)} {emp : Nat → Bool} {u v : Nat} {r : List Nat}
theorem GInv.move (h : GInv S gens NL T lev hl n z L ow had ev) (hlu : hl u = l) (hlv : hl v = l) (hne : u ≠ v) (hp : (had u).Perm (x :: r)) : GInv S gens NL T lev hl n z L (put1 ow l (put1 (ow l) x (2, v))) (put1 (put1 had u r) v (x :: had v)) ev := by
 have hm : x ∈ had u := hp.mem_iff.2 List.mem_cons_self
 obtain ⟨x1, x2, x3⟩ := (h.had u).all x hm
 rw [hlu] at x3
 have hnd := hp.nodup_iff.1 (h.had u).nodup
 obtain ⟨nd1, nd2⟩ := List.nodup_cons.1 hnd
 have fst : ∀ l' i, (put1 ow l (put1 (ow l) x (2, v)) l' i).1 = (ow l' i).1 := fun l' i => by
  by_cases e : l' = l
  ·subst e
   rw [zY]
   by_cases e2 : i = x
   ·subst e2; rw [zY, x3]
   rw [zW e2]
  rw [zW e]
 have three : ∀ l' i k w, k ≠ 2 → ow l' i = (k, w) → put1 ow l (put1 (ow l) x (2, v)) l' i = (k, w) := fun l' i k w hk e => by
  by_cases e1 : l' = l
  ·subst e1
   rw [zY]
   by_cases e2 : i = x
   ·subst e2; rw [x3] at e; exact absurd (congrArg Prod.fst e).symm hk
   rw [zW e2]; exact e
  rw [zW e1]; exact e
 refine ⟨fun l' hl' => ?_, fun t ht F hF => ?_, fun j => ?_, fun l' hl' => ?_⟩
 ·have hV := h.lv l' hl'
  refine ⟨hV.chain, hV.nodup, fun y => by rw [fst]; exact hV.mem y, hV.top, hV.cntN, hV.lk, hV.hd, fun i a b c => hV.on i a b (by rw [fst] at c; exact c), fun i a b c => hV.off i a b (by rw [fst] at c; exact c), fun i a b c => hV.none i a b (by rw [fst] at c; exact c), fun i a b => by rw [fst]; exact hV.code i a b⟩
 ·have h1 := h.thr t ht F hF
  refine ⟨h1.fn, h1.r1, h1.past, h1.tk, h1.gv, h1.tk2, fun a b => ?_, fun a => ?_, h1.gen, h1.lk9⟩
  ·obtain ⟨q1, q2, q3⟩ := h1.tk3 a b
   exact ⟨q1, q2, three _ _ _ _ (by decide) q3⟩
  obtain ⟨q1, q2, q3⟩ := h1.r0 a
  exact ⟨q1, q2, three _ _ _ _ (by split <;> decide) q3⟩
 ·have hj := h.had j
  have other : ∀ y, y ∈ had j → (hl j = l → y ≠ x) → put1 ow l (put1 (ow l) x (2, v)) (hl j) y = (2, j) := fun y hy hyx => by
   have := (hj.all y hy).2.2
   by_cases e : hl j = l
   ·rw [e] at this ⊢
    rw [zY, zW (hyx e)]; exact this
   rw [zW e]; exact this
  by_cases ev : j = v
  ·subst ev
   rw [zY]
   have hxv : x ∉ had j := fun hx => by
    have := (hj.all x hx).2.2
    rw [hlv, x3] at this
    exact hne (congrArg Prod.snd this)
   refine ⟨List.nodup_cons.2 ⟨hxv, hj.nodup⟩, fun y hy => ?_⟩
   rcases List.mem_cons.1 hy with rfl | hy
   ·exact ⟨x1, x2, by rw [hlv, zY, zY]⟩
   obtain ⟨a, b, _⟩ := hj.all y hy
   exact ⟨a, b, other y hy fun _ e => hxv (e ▸ hy)⟩
  rw [zW ev]
  by_cases eu : j = u
  ·subst eu
   rw [zY]
   refine ⟨nd2, fun y hy => ?_⟩
   have hy2 : y ∈ had j := hp.mem_iff.2 (List.mem_cons_of_mem _ hy)
   obtain ⟨a, b, _⟩ := hj.all y hy2
   exact ⟨a, b, other y hy2 fun _ e => nd1 (e ▸ hy)⟩
  rw [zW eu]
  refine ⟨hj.nodup, fun y hy => ?_⟩
  obtain ⟨a, b, d⟩ := hj.all y hy
  refine ⟨a, b, other y hy fun e e2 => ?_⟩
  rw [e, e2, x3] at d
  exact eu (congrArg Prod.snd d).symm
 have h1 := h.ev l' hl'
 exact ⟨fun y gn hy => by
  obtain ⟨a, b, d, e⟩ := h1.all y gn hy
  exact ⟨a, b, d, by rw [fst]; exact e⟩⟩
theorem CrI.move (h : CrI S gens NL T lev n z L ow had ev emp) (hlu : lev u = l) (hlv : lev v = l) (hne : u ≠ v) (hp : (had u).Perm (x :: r)) : CrI S gens NL T lev n z L (put1 ow l (put1 (ow l) x (2, v))) (put1 (put1 had u r) v (x :: had v)) ev emp := by
 have hm : x ∈ had u := hp.mem_iff.2 List.mem_cons_self
 have x3 := ((h.inv.had u).all x hm).2.2
 rw [hlu] at x3
 refine ⟨h.inv.move hlu hlv hne hp, fun l' y hy => ?_, h.emp⟩
 have e : put1 ow l (put1 (ow l) x (2, v)) l' y = ow l' y := by
  by_cases e1 : l' = l
  ·subst e1
   rw [zY] at hy ⊢
   by_cases e2 : y = x
   ·subst e2; rw [zY] at hy; have : 3 ≤ 2 := hy; omega
   rw [zW e2]
  rw [zW e1]
 rw [e] at hy ⊢
 exact h.own l' y hy
theorem CodeI.move {lv : Nat → LvG} (h : CodeI ow lv) (hI : CrI S gens NL T lev n z L ow had ev emp) (hlu : lev u = l) (hp : (had u).Perm (x :: r)) : CodeI (put1 ow l (put1 (ow l) x (2, v))) lv := by
 have x3 := ((hI.inv.had u).all x (hp.mem_iff.2 List.mem_cons_self)).2.2
 rw [hlu] at x3
 exact h.step0 (by rw [x3]; exact fun e => (nomatch e)) fun e => (nomatch e)
theorem HadC.move {P : Nat → Prop} (h : HadC P lev ow had) (hlv : lev v = l) (hp : (had u).Perm (x :: r)) (hne : u ≠ v) (hv : P v) (hlu : lev u = l) : HadC P lev (put1 ow l (put1 (ow l) x (2, v))) (put1 (put1 had u r) v (x :: had v)) := fun l' i hi => by
 by_cases c : l' = l ∧ i = x
 ·obtain ⟨rfl, rfl⟩ := c
  rw [zY, zY]
  exact ⟨hv, hlv, by show i ∈ put1 (put1 had u r) v (i :: had v) v; rw [zY]; exact List.mem_cons_self⟩
 have e : put1 ow l (put1 (ow l) x (2, v)) l' i = ow l' i := by
  by_cases e1 : l' = l
  ·subst e1; rw [zY, zW fun e2 => c ⟨rfl, e2⟩]
  rw [zW e1]
 rw [e] at hi ⊢
 obtain ⟨a, b, d⟩ := h l' i hi
 refine ⟨a, b, ?_⟩
 by_cases ev : (ow l' i).2 = v
 ·rw [ev] at d ⊢; rw [zY]; exact List.mem_cons_of_mem _ d
 rw [zW ev]
 by_cases eu : (ow l' i).2 = u
 ·rw [eu] at d ⊢
  rw [zY]
  rcases List.mem_cons.1 (hp.mem_iff.1 d) with q | q
  ·rw [eu, hlu] at b
   exact absurd ⟨b.symm, q⟩ c
  exact q
 rw [zW eu]; exact d
theorem HadC.give {P : Nat → Prop} (h : HadC P lev ow had) (hlu : lev u = l) (hu : had u = x :: r) : HadC P lev (put1 ow l (put1 (ow l) x (4, v))) (put1 had u r) := fun l' i hi => by
 by_cases c : l' = l ∧ i = x
 ·obtain ⟨rfl, rfl⟩ := c
  rw [zY, zY] at hi; cases hi
 have e : put1 ow l (put1 (ow l) x (4, v)) l' i = ow l' i := by
  by_cases e1 : l' = l
  ·subst e1; rw [zY, zW fun e2 => c ⟨rfl, e2⟩]
  rw [zW e1]
 rw [e] at hi ⊢
 obtain ⟨a, b, d⟩ := h l' i hi
 refine ⟨a, b, ?_⟩
 by_cases eu : (ow l' i).2 = u
 ·rw [eu] at d ⊢
  rw [zY]
  rw [hu] at d
  rcases List.mem_cons.1 d with q | q
  ·rw [eu, hlu] at b
   exact absurd ⟨b.symm, q⟩ c
  exact q
 rw [zW eu]; exact d
theorem CodeI.give {lv : Nat → LvG} (h : CodeI ow lv) (hI : CrI S gens NL T lev n z L ow had ev emp) (hlu : lev u = l) (hp : x ∈ had u) : CodeI (put1 ow l (put1 (ow l) x (4, v))) lv := by
 have x3 := ((hI.inv.had u).all x hp).2.2
 rw [hlu] at x3
 exact h.step0 (by rw [x3]; exact fun e => (nomatch e)) fun e => (nomatch e)
end
end
end Go.Proofs.YtjeeldacnllipaaGreat
