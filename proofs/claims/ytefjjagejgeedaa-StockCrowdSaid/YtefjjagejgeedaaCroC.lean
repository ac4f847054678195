/- Law 22: a machine at first, on numbers; what StockAlone knows beside its machine. -/
import Derived.Test.YtefjjagejgeedaaCroB
import Derived.Test.YtefjjagejgeedaaPlanA
import Derived.Test.YtefjjagejgeedaaCroA
namespace Go.Proofs.Ytefjjagejgeedaa
section
open Go.RowKit
set_option linter.unusedVariables false
set_option linter.unusedSimpArgs false
set_option linter.unnecessarySimpa false
set_option maxHeartbeats 1000000 in
/-- Ints, of rows that read alike. -/
theorem refInts_eq {σ w : World} {M : Mm} (h : Has σ M w) {va vb : Value} {n : Nat} {l : List Nat} (ha : Rd M 1 va n (natv l)) (hb : Rd M 1 vb n (natv l)) (hn : n ≤ 100000) : Calls Try.prog 22 #[va, vb] w fun r w' => r = .returned (.bool true) ∧ Has σ M w' := by
  have hl : l.length = n := by have := ha.1; simp [natv] at this; exact this
  obtain ⟨_, A, ca, rfl, _, hA⟩ := ha
  obtain ⟨_, B, cb, rfl, _, hB⟩ := hb
  have HA := Lib.hid hA
  have HB := Lib.hid hB
  clear hA hB
  go_enter Try.func22, Try.ntmps22
  go_wp2
  go_loopw [5] (fun i wr => ∃ k : Nat, k ≤ n ∧ i = .int .i64 (k : Nat) ∧ Has σ M wr) (fun i _ => n - (intOf i).toNat)
  case atStart => exact ⟨0, Nat.zero_le _, rfl, h⟩
  case round =>
    clear h w
    obtain ⟨w, rfl⟩ : ∃ x : World, x = wr := ⟨_, rfl⟩
    obtain ⟨k, hk, rfl, h⟩ := hrel
    by_cases hlt : k < n
    · have hlt' : (k : Int) < (n : Int) := by omega
      obtain ⟨ba, oa, csa, ta, fa, rfl, hMa, hxa⟩ := HA.out (by omega)
      obtain ⟨bb, ob, csb, tb, fb, rfl, hMb, hxb⟩ := HB.out (by omega)
      obtain ⟨v, hv⟩ : ∃ v, l[k]? = some v := ⟨_, List.getElem?_eq_getElem (by omega)⟩
      have ga : csa[oa + k]? = some (.int .i64 (v : Nat)) := hxa k _ (by simp [natv, hv])
      have gb : csb[ob + k]? = some (.int .i64 (v : Nat)) := hxb k _ (by simp [natv, hv])
      clear hxa hxb hv
      go_upto_region 6 with (fail)
      refine wp_region_class (Has σ M) (by kernel_rfl) (by kernel_rfl) h.drew ?_
      clear h
      repeat (first
        | go_big_quiet_skip
        | (go_big_quiet_want; first
          | (refine quiet_load_has 3 _ rfl rfl hMa ga Try.underlying3 rfl ?_; simp only [Act.put, List.setIfInBounds_toArray, List.set_cons_zero, List.set_cons_succ]; go_big_quiet_on)
          | (refine quiet_load_has 3 _ rfl rfl hMb gb Try.underlying3 rfl ?_; simp only [Act.put, List.setIfInBounds_toArray, List.set_cons_zero, List.set_cons_succ]; go_big_quiet_on)
          | (go_big_quiet_op; first | go_big_quiet_on | go_big_quiet_call (first | with_reducible exact fun _ => rfl))))
      refine wpQuiet_nil ?_
      try clear w
      intro w h
      go_wp2
      go_roundw
      case rel => exact ⟨k + 1, by omega, by go_num, h⟩
      case measure => simp [intOf]; omega
    · obtain rfl : k = n := by omega
      go_wp2
      go_ret
      exact ⟨rfl, h⟩
/-- From step to step: what is known of each state. -/
structure TrailP (σ : World) (K : Mm) (p t q : Nat) (dv : Value) (n : Nat) (P : Nat → MachS → Prop) (k : Nat) : Prop where
  step : ∀ i, i < k → ∀ (M : Mm) (lab : Nat → Nat) (s : MachS) (w : World), Has σ M w → Mach M lab p s → Base K M lab → P i s → Calls Try.prog 26 #[.pointer (some ⟨p, 0, none⟩), .int .i64 (t : Nat), dv] w fun r w' => ∃ M' lab' b s', r = .returned (.bool b) ∧ Has σ M' w' ∧ Mach M' lab' p s' ∧ Base K M' lab' ∧ P (i + 1) s'
  tp : ∀ i, i ≤ k → ∀ s, P i s → s.tp[t]? = some q
  deep : ∀ i, 0 < i → i < k → ∀ s, P i s → n < (s.thr t).frames.length
  done : ∀ s, P k s → (s.thr t).frames.length ≤ n
set_option maxHeartbeats 4000000 in
set_option maxRecDepth 20000 in
theorem alone_rel {σ w : World} {K M : Mm} {lab : Nat → Nat} {p t q : Nat} {s : MachS} (h : Has σ M w) (hM : Mach M lab p s) (hB : Base K M lab) (hq : s.tp[t]? = some q) {dv rv : Value} {us : List Int} (hr : Rd M 1 rv us.length (u64s us)) (hu : us.length ≤ 16) (hfr : (s.thr t).frames.length < 1000000) (fn : Int) {k most : Nat} {P : Nat → MachS → Prop} (h0 : P 0 (s.begun t fn us)) (hk : 0 < k) (hkm : k ≤ most) (hmost : most < 1000000) (hT : TrailP σ K p t q dv (s.thr t).frames.length P k) :
    Calls Try.prog 18 #[.pointer (some ⟨p, 0, none⟩), .int .i64 (t : Nat), dv, .int .i64 (most : Nat), .int .i64 fn, rv] w fun r w' => r = .returned (.int .i64 (k : Nat)) ∧ ∃ M' lab' s', Has σ M' w' ∧ Mach M' lab' p s' ∧ Base K M' lab' ∧ P k s' := by
  have TH := Lib.hid (fun (w : World) (h : Has σ M w) => mThread_yes h hM hq)
  obtain ⟨fv, hv, fbs, hTh⟩ := hM.each t q hq
  have hl := hTh.flen
  have DP := Lib.hid (fun (w : World) (h : Has σ M w) => thrDeep_eq h hTh)
  rw [hl] at DP
  have CA := Lib.hid (fun (w : World) (h : Has σ M w) => thrCall_eq h hTh fn (rv := rv) (us := us) hr hu (by omega))
  have HM := Lib.hid hM
  have HB := Lib.hid hB
  have HQ := Lib.hid hq
  have H0 := Lib.hid h0
  have TR := Lib.hid hT
  clear hM hB hq hTh h0 hT hr hu hl
  generalize hn : (s.thr t).frames.length = n at *
  clear hn
  go_enter Try.func18, Try.ntmps18
  go_upto_region 6 with (first
    | (go_at_call 12; refine (TH.out _ h).mono ?_; clear h; rintro _ w ⟨rfl, h⟩)
    | (go_at_call 15; refine (DP.out _ h).mono ?_; clear h; rintro _ w ⟨rfl, h⟩)
    | (go_at_call 13; refine (CA.out _ h).mono ?_; clear h; rintro _ w ⟨rfl, M3, lab3, h, hK3, hT3⟩))
  obtain ⟨hM3, hB3⟩ := HM.out.thrTo HB.out HQ.out hK3 hT3
  have HM4 := Lib.hid hM3
  have HB4 := Lib.hid hB3
  clear hM3 hB3 hK3 hT3 TH DP CA HM HB HQ
  go_upto_region 7 with (fail)
  go_loopw [15] (fun u wr => ∃ j : Nat, j < k ∧ u = .int .i64 (j : Nat) ∧ ∃ M5 lab5 s5, Has σ M5 wr ∧ Mach M5 lab5 p s5 ∧ Base K M5 lab5 ∧ P j s5) (fun u _ => most - (intOf u).toNat)
  case atStart => exact ⟨0, hk, rfl, M3, lab3, _, h, HM4.out, HB4.out, H0.out⟩
  case round =>
    clear h w HM4 HB4 M3 lab3
    obtain ⟨w, rfl⟩ : ∃ x : World, x = wr := ⟨_, rfl⟩
    obtain ⟨j, hj, rfl, M5, lab5, s5, h, hM5, hB5, hP5⟩ := hrel
    have hjm : (j : Int) < (most : Int) := by omega
    have SP := Lib.hid (fun (w : World) (h : Has σ M5 w) => TR.out.step j hj M5 lab5 s5 w h hM5 hB5 hP5)
    clear hM5 hB5 hP5
    go_upto_region 10 with (first
      | (go_at_call 26; refine (SP.out _ h).mono ?_; clear h; rintro _ w ⟨M6, lab6, b6, s6, rfl, h, hM6, hB6, hP6⟩))
    obtain ⟨fv6, hv6, fbs6, hT6⟩ := hM6.each t q (TR.out.tp (j + 1) (by omega) s6 hP6)
    have hl6 := hT6.flen
    have DP6 := Lib.hid (fun (w : World) (h : Has σ M6 w) => thrDeep_eq h hT6)
    rw [hl6] at DP6
    have HM6 := Lib.hid hM6
    have HB6 := Lib.hid hB6
    have HP6 := Lib.hid hP6
    clear SP hT6 hl6 hM6 hB6
    by_cases e : j + 1 = k
    · have hle : (s6.thr t).frames.length ≤ n := TR.out.done s6 (by rw [← e]; exact hP6)
      have hle2 : decide (((s6.thr t).frames.length : Int) ≤ (n : Int)) = true := decide_eq_true (by omega)
      have HE := Lib.hid e
      clear e hP6
      generalize (s6.thr t).frames.length = n6 at *
      go_wp2_with (first
        | (go_at_call 15; refine (DP6.out _ h).mono ?_; clear h; rintro _ w ⟨rfl, h⟩))
      go_ret
      exact ⟨by rw [← HE.out]; exact congrArg (fun z => Ending.returned (Value.int .i64 z)) (by omega), M6, lab6, s6, h, HM6.out, HB6.out, by rw [← HE.out]; exact HP6.out⟩
    · have hgt : n < (s6.thr t).frames.length := TR.out.deep (j + 1) (by omega) (by omega) s6 hP6
      have hgt2 : decide (((s6.thr t).frames.length : Int) ≤ (n : Int)) = false := decide_eq_false (by omega)
      have hgt3 : ¬ (s6.thr t).frames.length ≤ n := by omega
      clear hgt hP6
      generalize (s6.thr t).frames.length = n6 at *
      go_wp2_with (first
        | (go_at_call 15; refine (DP6.out _ h).mono ?_; clear h; rintro _ w ⟨rfl, h⟩))
      go_roundw
      case rel => exact ⟨j + 1, by omega, by go_num, M6, lab6, s6, h, HM6.out, HB6.out, HP6.out⟩
      case measure => simp [intOf]; omega
/-- A row of states on numbers, each a step of thread t behind the other. -/
structure RowG (c : Nat → Int) (gens t l k : Nat) (gs : Nat → StG) : Prop where
  step : ∀ i, i < k → ∃ F, (gs i).thr t = some F ∧ OkF c (gs i) l F ∧ gs (i + 1) = (gs i).next gens t l F
  done : (gs k).thr t = none
theorem RowG.trail {σ : World} {K : Mm} {p t q l n k gens : Nat} {c : Nat → Int} {tp : List Nat} {gs : Nat → StG} (h : RowG c gens t l k gs) (hk : k < 100) (hn : n < 99000) (ht : (t : Int) < c 1) (hq : tp[t]? = some q) (hl : levelOf c t = (l : Nat)) (hlc : (l : Int) < c 0) (hg : c 12 = (gens : Nat)) :
    TrailP σ K p t q (.func (.func 6) #[] #[]) 0 (fun i s => AbsG c tp (n + i) s (gs i)) k := by
  refine ⟨fun i hi M lab s w hw hM hB hP => ?_, fun i hi s hP => by rw [hP.ttp]; exact hq, fun i h0 hi s hP => ?_, fun s hP => ?_⟩
  · obtain ⟨F, hF, ok, e⟩ := h.step i hi
    refine (step_next hw hM hB hP (by omega) ht hq hl hlc hF ok hg).mono fun r w' hr => ?_
    obtain ⟨M', lab', s', hr, hw', hM', hB', hP'⟩ := hr
    exact ⟨M', lab', _, s', hr, hw', hM', hB', by rw [e]; exact hP'⟩
  · obtain ⟨F, hF, _⟩ := h.step i hi
    rw [hP.thr.fr t ht, hF]
    simp
  · rw [hP.thr.fr t ht, h.done]
    simp
theorem AbsG.begun {c : Nat → Int} {tp : List Nat} {n t fn u : Nat} {s : MachS} {g : StG} {us : List Int} (h : AbsG c tp n s g) (ht : (t : Int) < c 1) (hi : g.thr t = none) (hu : us = [] ∧ u = 0 ∨ us = [(u : Int)]) : AbsG c tp n (s.begun t fn us) (g.go t ⟨fn, 0, u, 0, 0⟩) := by
  refine ⟨h.cc, h.may, h.ttp, h.memN, h.words, h.ward, ?_, h.flt, h.fault, h.acc, h.wr, h.steps, h.clk, h.given⟩
  refine h.thr.go (t := t) (F := ⟨fn, 0, u, 0, 0⟩) ?_ ⟨rfl, rfl, rfl⟩
  funext j
  show (if j = t then (s.thr t).call fn us else s.thr j) = _
  by_cases e : j = t
  · rw [if_pos e, if_pos e]
    unfold ThrS.call
    have h0 := h.thr.fr t ht
    rw [hi] at h0
    have h1 : (s.thr t).frames = [] := h0
    rw [h1, enc_call fn us u hu]
  · rw [if_neg e, if_neg e]
end
section
open Go.RowKit
set_option linter.unusedVariables false
set_option linter.unusedSimpArgs false
set_option linter.unnecessarySimpa false
section
variable {S gens NL T n : Nat} {lev hl : Nat → Nat} {g g2 : StG} {L : Nat → List Nat} {ow : Nat → Nat → Nat × Nat} {had : Nat → List Nat} {ev : Nat → List (Nat × Nat)} {t l x j : Nat} {c : Nat → Int}
theorem gi_call_take (h : GInv S gens NL T lev hl n g L ow had ev) : GInv S gens NL T lev hl (n + 1) (g.go t ⟨1, 0, 0, 0, 0⟩) L ow had ev := by
  refine h.same rfl rfl fun F' e => ?_
  cases e
  exact ⟨.inl rfl, (by decide : 0 < 18446744073709551616), fun h => (by rcases h with ⟨_, h | h⟩ | ⟨h, _⟩ <;> cases h), fun _ => (by decide : 0 ≤ 3), fun h => (by cases h), fun _ h => (by cases h), fun _ h => (by cases h), fun h => (by cases h), fun h => (by cases h), fun h => (by cases h)⟩
/-- A slot that is had begins to be given. -/
theorem gi_call_give (h : GInv S gens NL T lev hl n g L ow had ev) (hl0 : lev t < NL) (hj : hl j = lev t) {i : Nat} (hx : (had j)[i]? = some x) : GInv S gens NL T lev hl (n + 1) (g.go t ⟨2, 0, x, 0, 0⟩) L (put1 ow (lev t) (put1 (ow (lev t)) x (4, t))) (put1 had j ((had j).eraseIdx i)) ev := by
  have hm : x ∈ had j := List.mem_of_getElem? hx
  have hH := h.had j
  obtain ⟨x1, x2, x3⟩ := hH.all x hm
  rw [hj] at x3
  have hV := h.lv (lev t) hl0
  have ho : (ow (lev t) x).1 = 2 := by rw [x3]
  have U := h.upd (t := t) (x := x) (g2 := g.go t ⟨2, 0, x, 0, 0⟩) (V2 := g.lv (lev t)) (o2 := put1 (ow (lev t)) x (4, t)) (L2 := L (lev t)) (had2 := put1 had j ((had j).eraseIdx i)) (ev2 := ev (lev t)) hl0 (by rw [put1_self]; rfl) rfl (.inl rfl) (fun i hi => ⟨rfl, rfl, put1_ne hi⟩) (fun k t' hk _ e => ?_) (fun _ => .inr rfl) ?_ (fun F' e => ?_) (fun j' hj' => ?_) (fun j' hj' => ?_) ?_
  · rw [put1_self, put1_self] at U; exact U
  · rw [x3] at e; have := congrArg Prod.fst e; have h5 : 2 = k := this; omega
  · have hm := hV.mono
    refine hV.point (x := x) (fun i hi => ⟨rfl, rfl, put1_ne hi⟩) hm.chain hm.nodup (hV.mem2 (fun i hi => put1_ne hi) (by omega) (by rw [put1_same]; simp)) hm.top hm.cntN hm.lk (hm.hd _ x1 x2) (fun _ => hV.on _ x1 x2 (.inl ho)) (fun e => ?_) (fun e => ?_) (by rw [put1_same]; simp)
    · rw [put1_same] at e; rcases e with e | e <;> cases e
    · rw [put1_same] at e; cases e
  · cases e
    exact ⟨.inr rfl, (by decide : 0 < 18446744073709551616), fun h => (by rcases h with ⟨h, _⟩ | ⟨_, h | h⟩ <;> cases h), fun h => (by cases h), fun _ => (by decide : 0 ≤ 9), fun h => (by cases h), fun h => (by cases h), fun _ => ⟨x1, x2, put1_same _ _ _⟩, fun _ h => absurd h (show ¬ 1 ≤ 0 by decide), fun _ h => (by cases h)⟩
  · by_cases ej : j' = j
    · subst ej
      rw [put1_same]
      have hnd : ((had j').eraseIdx i).Nodup := hH.nodup.sublist (List.eraseIdx_sublist _ _)
      refine ⟨hnd, fun y hy => ?_⟩
      have hy2 : y ∈ had j' := (List.eraseIdx_sublist _ _).subset hy
      obtain ⟨a, b, d⟩ := hH.all y hy2
      have hne : y ≠ x := fun e => by
        subst e
        obtain ⟨q, hq⟩ := List.mem_iff_getElem?.1 hy
        rw [List.getElem?_eraseIdx] at hq
        have hi : i < (had j').length := (List.getElem?_eq_some_iff.1 hx).1
        split at hq
        · have := (List.getElem?_inj hi hH.nodup).1 (hx.trans hq.symm)
          omega
        · have := (List.getElem?_inj hi hH.nodup).1 (hx.trans hq.symm)
          omega
      rw [hj] at d
      exact ⟨a, b, by rw [put1_ne hne]; exact d⟩
    · rw [put1_ne ej]
      have h0 := h.had j'
      rw [hj'] at h0
      refine ⟨h0.nodup, fun y hy => ?_⟩
      obtain ⟨a, b, d⟩ := h0.all y hy
      have hne : y ≠ x := fun e => by
        subst e
        rw [x3] at d
        have := congrArg Prod.snd d
        have h5 : j = j' := this
        exact ej h5.symm
      exact ⟨a, b, by rw [put1_ne hne]; exact d⟩
  · rw [put1_ne (fun e => hj' (by rw [e]; exact hj))]
  · refine (h.ev (lev t) hl0).keep (fun i => rfl) fun i a b e => ?_
    by_cases hi : i = x
    · subst hi; rw [put1_same] at e; rcases e with e | e | e <;> cases e
    · rw [put1_ne hi] at e; exact e
def rowOf (l : List StG) (d : StG) : Nat → StG := fun i => l.getD i d
theorem thr_go (g : StG) (t : Nat) (F : StF) : (g.go t F).thr t = some F := put1_same _ _ _
/-- Owners but at one slot; and all of them. -/
def OwBut (ow : Nat → Nat → Nat × Nat) (l0 x : Nat) : Prop := ∀ l i, (l = l0 ∧ i = x) ∨ (ow l i).1 ≤ 2
def OwAll (ow : Nat → Nat → Nat × Nat) : Prop := ∀ l i, (ow l i).1 ≤ 2
theorem OwBut.put {ow : Nat → Nat → Nat × Nat} {l0 x : Nat} (h : OwBut ow l0 x) (v : Nat × Nat) : OwBut (put1 ow l0 (put1 (ow l0) x v)) l0 x := fun l i => by
  by_cases e : l = l0
  · subst e
    by_cases e2 : i = x
    · exact .inl ⟨rfl, e2⟩
    · right
      rw [put1_same, put1_ne e2]
      exact (h l i).resolve_left fun e3 => e2 e3.2
  · right
    rw [put1_ne e]
    exact (h l i).resolve_left fun e3 => e e3.1
theorem OwBut.all {ow : Nat → Nat → Nat × Nat} {l0 x : Nat} (h : OwBut ow l0 x) {v : Nat × Nat} (hv : v.1 ≤ 2) : OwAll (put1 ow l0 (put1 (ow l0) x v)) := fun l i => by
  rcases h.put v l i with ⟨rfl, rfl⟩ | h1
  · rw [put1_same, put1_same]; exact hv
  · exact h1
theorem OwAll.but {ow : Nat → Nat → Nat × Nat} (h : OwAll ow) (l0 x : Nat) : OwBut ow l0 x := fun l i => .inr (h l i)
/-- Take alone, of an empty list. -/
theorem take_alone_no (I : GInv S gens NL T lev hl n g L ow had ev) (hn : n + 20 < 100000) (hS : c 10 = (S : Nat)) (hS2 : S ≤ 60) (ht : t < T) (hl0 : lev t < NL) (hL : L (lev t) = []) : ∃ gs, gs 0 = g.go t ⟨1, 0, 0, 0, 0⟩ ∧ RowG c gens t (lev t) 2 gs ∧ (gs 2).t0 t = 0 ∧ (gs 2).t1 t = 0 ∧ GInv S gens NL T lev hl (n + 3) (gs 2) L ow had ev ∧ (∀ t', t' ≠ t → (gs 2).thr t' = g.thr t') ∧ (gs 2).lv = g.lv := by
  have I0 := gi_call_take (t := t) I
  have F0 := thr_go g t ⟨1, 0, 0, 0, 0⟩
  have I1 := gi_t0 I0 ht hl0 F0 rfl rfl
  have hs : slOf (g.lv (lev t)).top = 0 := by
    have := (I.lv _ hl0).first
    rcases Nat.eq_zero_or_pos (slOf (g.lv (lev t)).top) with h | h
    · exact h
    · obtain ⟨r, hr⟩ := this.2.2 (by omega); rw [hL] at hr; cases hr
  have F1 := thr_go (g.go t ⟨1, 0, 0, 0, 0⟩) t { (⟨1, 0, 0, 0, 0⟩ : StF) with r1 := (g.lv (lev t)).top, pc := 1 }
  have I2 := gi_back I1 ht hl0 F1 0 0
  refine ⟨rowOf [g.go t ⟨1, 0, 0, 0, 0⟩, (g.go t ⟨1, 0, 0, 0, 0⟩).go t { (⟨1, 0, 0, 0, 0⟩ : StF) with r1 := (g.lv (lev t)).top, pc := 1 }, ((g.go t ⟨1, 0, 0, 0, 0⟩).go t { (⟨1, 0, 0, 0, 0⟩ : StF) with r1 := (g.lv (lev t)).top, pc := 1 }).back t 0 0] g, rfl, ⟨fun i hi => ?_, put1_same _ _ _⟩, put1_same _ _ _, put1_same _ _ _, I2, fun t' ht' => ?_, rfl⟩
  · rcases i with _ | _ | i
    · exact ⟨_, F0, I0.ok (by omega) hS hS2 ht hl0 F0, rfl⟩
    · refine ⟨_, F1, I1.ok (by omega) hS hS2 ht hl0 F1, ?_⟩
      show _ = StG.next _ _ _ _ _
      unfold StG.next StG.take
      rw [if_pos rfl, if_neg (show ¬ 1 = 0 by decide), if_pos rfl, if_pos hs]
      rfl
    · omega
  · show put1 (put1 (put1 g.thr t _) t _) t _ t' = _
    rw [put1_ne ht', put1_ne ht', put1_ne ht']
/-- Take alone, of a list that isn't empty. -/
theorem take_alone_yes (I : GInv S gens NL T lev hl n g L ow had ev) (hn : n + 20 < 100000) (hS : c 10 = (S : Nat)) (hS2 : S ≤ 60) (ht : t < T) (hl0 : lev t < NL) (hj : hl j = lev t) {r : List Nat} (hL : L (lev t) = x :: r) : ∃ gs ow2 ev2, gs 0 = g.go t ⟨1, 0, 0, 0, 0⟩ ∧ RowG c gens t (lev t) 4 gs ∧ (gs 4).t0 t = x ∧ (gs 4).t1 t = genOf ((g.lv (lev t)).hd x) ∧ 1 ≤ x ∧ x ≤ S ∧ x ∉ had j ∧
    GInv S gens NL T lev hl (n + 5) (gs 4) (put1 L (lev t) r) ow2 (put1 had j (had j ++ [x])) ev2 ∧ (OwAll ow → OwAll ow2) ∧ (∀ t', t' ≠ t → (gs 4).thr t' = g.thr t') ∧ (∀ l, ((gs 4).lv l).hd = (g.lv l).hd) := by
  have hx0 : slOf (g.lv (lev t)).top = x := by
    have hc := (I.lv _ hl0).chain
    rw [hL] at hc
    exact hc.1
  have hxm := ((I.lv _ hl0).mem x).1 (by rw [hL]; exact List.mem_cons_self)
  obtain ⟨s0, h0⟩ : ∃ s, s = g.go t ⟨1, 0, 0, 0, 0⟩ := ⟨_, rfl⟩
  have I0 := gi_call_take (t := t) I
  have F0 := thr_go g t ⟨1, 0, 0, 0, 0⟩
  rw [← h0] at I0 F0
  have L0 : s0.lv = g.lv := by rw [h0]; rfl
  obtain ⟨s1, h1⟩ : ∃ s, s = s0.go t ⟨1, 1, 0, (s0.lv (lev t)).top, 0⟩ := ⟨_, rfl⟩
  have I1 := gi_t0 I0 ht hl0 F0 rfl rfl
  have F1 := thr_go s0 t ⟨1, 1, 0, (s0.lv (lev t)).top, 0⟩
  rw [← h1] at F1
  replace I1 : GInv S gens NL T lev hl (n + 1 + 1) s1 L ow had ev := by rw [h1]; exact I1
  have L1 : s1.lv = g.lv := by rw [h1]; exact L0
  have e1 : slOf (s0.lv (lev t)).top = x := by rw [L0]; exact hx0
  obtain ⟨tp, htp⟩ : ∃ tp, (s0.lv (lev t)).top = tp := ⟨_, rfl⟩
  rw [htp] at F1 e1 h1
  obtain ⟨s2, h2⟩ : ∃ s, s = s1.go t ⟨1, 2, 0, tp, (s1.lv (lev t)).lk (slOf tp)⟩ := ⟨_, rfl⟩
  have I2 := gi_t1b I1 ht hl0 F1 rfl rfl (by show slOf tp ≠ 0; omega)
  have F2 := thr_go s1 t ⟨1, 2, 0, tp, (s1.lv (lev t)).lk (slOf tp)⟩
  rw [← h2] at F2
  replace I2 : GInv S gens NL T lev hl (n + 1 + 1 + 1) s2 L ow had ev := by rw [h2]; exact I2
  have L2 : s2.lv = g.lv := by rw [h2]; exact L1
  obtain ⟨q, hq⟩ : ∃ q, (s1.lv (lev t)).lk (slOf tp) = q := ⟨_, rfl⟩
  rw [hq] at F2 h2
  have e2 : (s2.lv (lev t)).top = tp := by rw [L2, ← htp, L0]
  obtain ⟨r', hr', how, I3⟩ := gi_t2a I2 ht hl0 F2 hS2 (by omega) rfl rfl e2
  have er : r' = r := by rw [hL] at hr'; exact (List.cons.inj hr').2.symm
  subst er
  obtain ⟨s3, h3⟩ : ∃ s, s = (s2.lev (lev t) { s2.lv (lev t) with top := mkTop q (cnt tp + 1), held := put1 (s2.lv (lev t)).held (slOf tp) true }).go t ⟨1, 3, 0, tp, q⟩ := ⟨_, rfl⟩
  have F3 := thr_go (s2.lev (lev t) { s2.lv (lev t) with top := mkTop q (cnt tp + 1), held := put1 (s2.lv (lev t)).held (slOf tp) true }) t ⟨1, 3, 0, tp, q⟩
  rw [← h3] at F3
  replace I3 : GInv S gens NL T lev hl (n + 1 + 1 + 1 + 1) s3 (put1 L (lev t) r') (put1 ow (lev t) (put1 (ow (lev t)) (slOf tp) (3, t))) had ev := by rw [h3]; exact I3
  have L3 : ∀ l, (s3.lv l).hd = (g.lv l).hd := fun l => by
    rw [h3, ← L2]
    show (put1 s2.lv (lev t) _ l).hd = _
    by_cases e : l = lev t
    · subst e; rw [put1_same]
    · rw [put1_ne e]
  obtain ⟨_, _, _, _, hnh, I4⟩ := gi_t3 I3 ht hl0 F3 rfl rfl hj (slOf tp) (genOf ((s3.lv (lev t)).hd (slOf tp)))
  obtain ⟨s4, h4⟩ : ∃ s, s = s3.back t (slOf tp) (genOf ((s3.lv (lev t)).hd (slOf tp))) := ⟨_, rfl⟩
  rw [← h4] at I4
  rw [show slOf (⟨1, 3, 0, tp, q⟩ : StF).r1 = x from e1] at hnh I4
  refine ⟨rowOf [s0, s1, s2, s3, s4] g, _, _, h0, ⟨fun i hi => ?_, ?_⟩, ?_, ?_, hxm.1, hxm.2.1, hnh, I4, fun ho => OwBut.all (by rw [← e1]; exact (ho.but _ _).put _) (show 2 ≤ 2 by decide), fun t' ht' => ?_, fun l => ?_⟩
  · rcases i with _ | _ | _ | _ | i
    · exact ⟨_, F0, I0.ok (by omega) hS hS2 ht hl0 F0, by show s1 = _; rw [h1, ← htp]; rfl⟩
    · refine ⟨_, F1, I1.ok (by omega) hS hS2 ht hl0 F1, ?_⟩
      show s2 = ite (slOf tp = 0) (s1.back t 0 0) (s1.go t ⟨1, 2, 0, tp, (s1.lv (lev t)).lk (slOf tp)⟩)
      rw [if_neg (by omega), hq]; exact h2
    · refine ⟨_, F2, I2.ok (by omega) hS hS2 ht hl0 F2, ?_⟩
      show s3 = ite ((s2.lv (lev t)).top = tp) ((s2.lev (lev t) { s2.lv (lev t) with top := mkTop q (cnt tp + 1), held := put1 (s2.lv (lev t)).held (slOf tp) true }).go t ⟨1, 3, 0, tp, q⟩) (s2.go t ⟨1, 0, 0, tp, q⟩)
      rw [if_pos e2]; exact h3
    · exact ⟨_, F3, I3.ok (by omega) hS hS2 ht hl0 F3, by show s4 = _; rw [h4]; rfl⟩
    · omega
  · show s4.thr t = none; rw [h4]; exact put1_same _ _ _
  · show s4.t0 t = x; rw [h4]; show put1 _ t _ t = _; rw [put1_same]; exact e1
  · show s4.t1 t = _; rw [h4]; show put1 _ t _ t = _; rw [put1_same, e1, L3]
  · show s4.thr t' = _
    rw [h4, h3, h2, h1, h0]
    show put1 (put1 (put1 (put1 (put1 g.thr t _) t _) t _) t _) t _ t' = _
    rw [put1_ne ht', put1_ne ht', put1_ne ht', put1_ne ht', put1_ne ht']
  · show (s4.lv l).hd = _; rw [h4]; exact L3 l
/-- Give alone, of a slot that is worn by it. -/
theorem give_alone_worn (I : GInv S gens NL T lev hl n g L ow had ev) (hn : n + 20 < 100000) (hS : c 10 = (S : Nat)) (hS2 : S ≤ 60) (ht : t < T) (hl0 : lev t < NL) (hj : hl j = lev t) {k : Nat} (hx : (had j)[k]? = some x) (hw : gens ≤ genOf ((g.lv (lev t)).hd x) + 1) : ∃ gs ow2, gs 0 = g.go t ⟨2, 0, x, 0, 0⟩ ∧ RowG c gens t (lev t) 7 gs ∧ 1 ≤ x ∧ x ≤ S ∧
    GInv S gens NL T lev hl (n + 8) (gs 7) L ow2 (put1 had j ((had j).eraseIdx k)) ev ∧ (OwAll ow → OwAll ow2) ∧ (∀ t', t' ≠ t → (gs 7).thr t' = g.thr t') ∧ (∀ l i, genOf (((gs 7).lv l).hd i) = if l = lev t ∧ i = x then genOf ((g.lv l).hd i) + 1 else genOf ((g.lv l).hd i)) := by
  have hm : x ∈ had j := List.mem_of_getElem? hx
  have hH := (I.had j).all x hm
  obtain ⟨x1, x2, x3⟩ := hH
  obtain ⟨s0, h0⟩ : ∃ s, s = g.go t ⟨2, 0, x, 0, 0⟩ := ⟨_, rfl⟩
  have I0 := gi_call_give (t := t) I hl0 hj hx
  have F0 := thr_go g t ⟨2, 0, x, 0, 0⟩
  rw [← h0] at I0 F0
  have HOW : Hid (OwAll ow → OwBut (put1 ow (lev t) (put1 (ow (lev t)) x (4, t))) (lev t) x) := Lib.hid fun ho => (ho.but _ _).put _
  generalize put1 ow (lev t) (put1 (ow (lev t)) x (4, t)) = ow0 at I0 HOW
  generalize put1 had j _ = had0 at I0 ⊢
  have L0 : s0.lv = g.lv := by rw [h0]; rfl
  obtain ⟨q, hq⟩ : ∃ q, genOf ((s0.lv (lev t)).hd x) + 1 = q := ⟨_, rfl⟩
  have hgl : genOf ((s0.lv (lev t)).hd x) ≤ n := by rw [L0]; exact ((I.lv _ hl0).hd x x1 x2).2
  obtain ⟨s1, h1⟩ : ∃ s, s = s0.go t ⟨2, 1, x, 0, q⟩ := ⟨_, rfl⟩
  have I1 := gi_g0 I0 ht hl0 F0 rfl rfl
  have F1 := thr_go s0 t ⟨2, 1, x, 0, q⟩
  rw [← h1] at F1
  replace I1 : GInv S gens NL T lev hl (n + 1 + 1) s1 L ow0 had0 ev := by rw [h1, ← hq]; exact I1
  have L1 : s1.lv = g.lv := by rw [h1]; exact L0
  obtain ⟨s2, h2⟩ : ∃ s, s = (s1.lev (lev t) { s1.lv (lev t) with hd := put1 (s1.lv (lev t)).hd x (mkHead (q - 1) 3) }).go t ⟨2, 2, x, 0, q⟩ := ⟨_, rfl⟩
  have I2 := gi_g1 I1 ht hl0 F1 (by omega) rfl rfl
  have F2 := thr_go (s1.lev (lev t) { s1.lv (lev t) with hd := put1 (s1.lv (lev t)).hd x (mkHead (q - 1) 3) }) t ⟨2, 2, x, 0, q⟩
  rw [← h2] at F2
  replace I2 : GInv S gens NL T lev hl (n + 1 + 1 + 1) s2 L ow0 had0 ev := by rw [h2]; exact I2
  obtain ⟨s3, h3⟩ : ∃ s, s = s2.go t ⟨2, 3, x, 0, q⟩ := ⟨_, rfl⟩
  have I3 := gi_g2 I2 ht hl0 F2 rfl (by show 1 ≤ 2; decide) (by show 2 < 6; decide)
  have F3 := thr_go s2 t ⟨2, 3, x, 0, q⟩
  rw [← h3] at F3
  replace I3 : GInv S gens NL T lev hl (n + 1 + 1 + 1 + 1) s3 L ow0 had0 ev := by rw [h3]; exact I3
  obtain ⟨s4, h4⟩ : ∃ s, s = s3.go t ⟨2, 4, x, 0, q⟩ := ⟨_, rfl⟩
  have I4 := gi_g2 I3 ht hl0 F3 rfl (by show 1 ≤ 3; decide) (by show 3 < 6; decide)
  have F4 := thr_go s3 t ⟨2, 4, x, 0, q⟩
  rw [← h4] at F4
  replace I4 : GInv S gens NL T lev hl (n + 1 + 1 + 1 + 1 + 1) s4 L ow0 had0 ev := by rw [h4]; exact I4
  obtain ⟨s5, h5⟩ : ∃ s, s = s4.go t ⟨2, 5, x, 0, q⟩ := ⟨_, rfl⟩
  have I5 := gi_g2 I4 ht hl0 F4 rfl (by show 1 ≤ 4; decide) (by show 4 < 6; decide)
  have F5 := thr_go s4 t ⟨2, 5, x, 0, q⟩
  rw [← h5] at F5
  replace I5 : GInv S gens NL T lev hl (n + 1 + 1 + 1 + 1 + 1 + 1) s5 L ow0 had0 ev := by rw [h5]; exact I5
  obtain ⟨s6, h6⟩ : ∃ s, s = s5.go t ⟨2, 6, x, 0, q⟩ := ⟨_, rfl⟩
  have I6 := gi_g2 I5 ht hl0 F5 rfl (by show 1 ≤ 5; decide) (by show 5 < 6; decide)
  have F6 := thr_go s5 t ⟨2, 6, x, 0, q⟩
  rw [← h6] at F6
  replace I6 : GInv S gens NL T lev hl (n + 1 + 1 + 1 + 1 + 1 + 1 + 1) s6 L ow0 had0 ev := by rw [h6]; exact I6
  have L6 : s6.lv = put1 g.lv (lev t) { g.lv (lev t) with hd := put1 (g.lv (lev t)).hd x (mkHead (q - 1) 3) } := by rw [h6, h5, h4, h3, h2, ← L1]; rfl
  have T6 : ∀ t', t' ≠ t → s6.thr t' = g.thr t' := fun t' ht' => by
    rw [h6, h5, h4, h3, h2, h1, h0]
    show put1 (put1 (put1 (put1 (put1 (put1 (put1 g.thr t _) t _) t _) t _) t _) t _) t _ t' = _
    rw [put1_ne ht', put1_ne ht', put1_ne ht', put1_ne ht', put1_ne ht', put1_ne ht', put1_ne ht']
  have hw6 : gens ≤ q := by rw [← hq, L0]; exact hw
  have I7 := gi_g6b I6 ht hl0 F6 (by omega) rfl rfl hw6 0 0
  obtain ⟨s7, h7⟩ : ∃ s, s = (s6.lev (lev t) { s6.lv (lev t) with hd := put1 (s6.lv (lev t)).hd x (mkHead q 0), held := put1 (s6.lv (lev t)).held x false }).back t 0 0 := ⟨_, rfl⟩
  have L7 : s7.lv = put1 s6.lv (lev t) { s6.lv (lev t) with hd := put1 (s6.lv (lev t)).hd x (mkHead q 0), held := put1 (s6.lv (lev t)).held x false } := by rw [h7]; rfl
  have I7' : GInv S gens NL T lev hl (n + 8) s7 L (put1 ow0 (lev t) (put1 (ow0 (lev t)) x (0, 0))) had0 ev := by rw [h7]; exact I7
  refine ⟨rowOf [s0, s1, s2, s3, s4, s5, s6, s7] g, _, h0, ⟨fun i hi => ?_, ?_⟩, x1, x2, I7', fun ho => (HOW.out ho).all (show 0 ≤ 2 by decide), fun t' ht' => ?_, fun l i => ?_⟩
  · skip
    rcases i with _ | _ | _ | _ | _ | _ | i
    · exact ⟨_, F0, I0.ok (by omega) hS hS2 ht hl0 F0, by show s1 = s0.go t ⟨2, 1, x, 0, genOf ((s0.lv (lev t)).hd x) + 1⟩; rw [hq]; exact h1⟩
    · exact ⟨_, F1, I1.ok (by omega) hS hS2 ht hl0 F1, h2⟩
    · exact ⟨_, F2, I2.ok (by omega) hS hS2 ht hl0 F2, h3⟩
    · exact ⟨_, F3, I3.ok (by omega) hS hS2 ht hl0 F3, h4⟩
    · exact ⟨_, F4, I4.ok (by omega) hS hS2 ht hl0 F4, h5⟩
    · exact ⟨_, F5, I5.ok (by omega) hS hS2 ht hl0 F5, h6⟩
    · rcases i with _ | i
      · refine ⟨_, F6, I6.ok (by omega) hS hS2 ht hl0 F6, ?_⟩
        show s7 = ite (q < gens) ((s6.lev (lev t) { s6.lv (lev t) with hd := put1 (s6.lv (lev t)).hd x (mkHead q 0), held := put1 (s6.lv (lev t)).held x false }).go t ⟨2, 7, x, 0, q⟩) ((s6.lev (lev t) { s6.lv (lev t) with hd := put1 (s6.lv (lev t)).hd x (mkHead q 0), held := put1 (s6.lv (lev t)).held x false }).back t 0 0)
        rw [if_neg (by omega)]; exact h7
      · omega
  · show s7.thr t = none; rw [h7]; exact put1_same _ _ _
  · show s7.thr t' = _
    rw [h7]
    show put1 s6.thr t _ t' = _
    rw [put1_ne ht']; exact T6 t' ht'
  · show genOf ((s7.lv l).hd i) = _
    rw [L7]
    by_cases el : l = lev t
    · subst el
      rw [put1_same]
      show genOf (put1 (s6.lv (lev t)).hd x (mkHead q 0) i) = _
      by_cases ei : i = x
      · subst ei
        rw [put1_same, if_pos ⟨rfl, rfl⟩, gen_head (by omega), ← hq, L0]
      · rw [put1_ne ei, if_neg (fun h => ei h.2), L6, put1_same]
        show genOf (put1 _ _ _ _) = _
        rw [put1_ne ei]
    · rw [put1_ne el, if_neg (fun h => el h.1), L6, put1_ne el]
/-- Give alone, of a slot that isn't worn by it. -/
theorem give_alone_on (I : GInv S gens NL T lev hl n g L ow had ev) (hn : n + 20 < 100000) (hS : c 10 = (S : Nat)) (hS2 : S ≤ 60) (ht : t < T) (hl0 : lev t < NL) (hj : hl j = lev t) {k : Nat} (hx : (had j)[k]? = some x) (hw : genOf ((g.lv (lev t)).hd x) + 1 < gens) : ∃ gs ow2, gs 0 = g.go t ⟨2, 0, x, 0, 0⟩ ∧ RowG c gens t (lev t) 10 gs ∧ 1 ≤ x ∧ x ≤ S ∧
    GInv S gens NL T lev hl (n + 11) (gs 10) (put1 L (lev t) (x :: L (lev t))) ow2 (put1 had j ((had j).eraseIdx k)) ev ∧ (OwAll ow → OwAll ow2) ∧ (∀ t', t' ≠ t → (gs 10).thr t' = g.thr t') ∧ (∀ l i, genOf (((gs 10).lv l).hd i) = if l = lev t ∧ i = x then genOf ((g.lv l).hd i) + 1 else genOf ((g.lv l).hd i)) := by
  have hm : x ∈ had j := List.mem_of_getElem? hx
  have hH := (I.had j).all x hm
  obtain ⟨x1, x2, x3⟩ := hH
  obtain ⟨s0, h0⟩ : ∃ s, s = g.go t ⟨2, 0, x, 0, 0⟩ := ⟨_, rfl⟩
  have I0 := gi_call_give (t := t) I hl0 hj hx
  have F0 := thr_go g t ⟨2, 0, x, 0, 0⟩
  rw [← h0] at I0 F0
  have HOW : Hid (OwAll ow → OwBut (put1 ow (lev t) (put1 (ow (lev t)) x (4, t))) (lev t) x) := Lib.hid fun ho => (ho.but _ _).put _
  generalize put1 ow (lev t) (put1 (ow (lev t)) x (4, t)) = ow0 at I0 HOW
  generalize put1 had j _ = had0 at I0 ⊢
  have L0 : s0.lv = g.lv := by rw [h0]; rfl
  obtain ⟨q, hq⟩ : ∃ q, genOf ((s0.lv (lev t)).hd x) + 1 = q := ⟨_, rfl⟩
  have hgl : genOf ((s0.lv (lev t)).hd x) ≤ n := by rw [L0]; exact ((I.lv _ hl0).hd x x1 x2).2
  obtain ⟨s1, h1⟩ : ∃ s, s = s0.go t ⟨2, 1, x, 0, q⟩ := ⟨_, rfl⟩
  have I1 := gi_g0 I0 ht hl0 F0 rfl rfl
  have F1 := thr_go s0 t ⟨2, 1, x, 0, q⟩
  rw [← h1] at F1
  replace I1 : GInv S gens NL T lev hl (n + 1 + 1) s1 L ow0 had0 ev := by rw [h1, ← hq]; exact I1
  have L1 : s1.lv = g.lv := by rw [h1]; exact L0
  obtain ⟨s2, h2⟩ : ∃ s, s = (s1.lev (lev t) { s1.lv (lev t) with hd := put1 (s1.lv (lev t)).hd x (mkHead (q - 1) 3) }).go t ⟨2, 2, x, 0, q⟩ := ⟨_, rfl⟩
  have I2 := gi_g1 I1 ht hl0 F1 (by omega) rfl rfl
  have F2 := thr_go (s1.lev (lev t) { s1.lv (lev t) with hd := put1 (s1.lv (lev t)).hd x (mkHead (q - 1) 3) }) t ⟨2, 2, x, 0, q⟩
  rw [← h2] at F2
  replace I2 : GInv S gens NL T lev hl (n + 1 + 1 + 1) s2 L ow0 had0 ev := by rw [h2]; exact I2
  obtain ⟨s3, h3⟩ : ∃ s, s = s2.go t ⟨2, 3, x, 0, q⟩ := ⟨_, rfl⟩
  have I3 := gi_g2 I2 ht hl0 F2 rfl (by show 1 ≤ 2; decide) (by show 2 < 6; decide)
  have F3 := thr_go s2 t ⟨2, 3, x, 0, q⟩
  rw [← h3] at F3
  replace I3 : GInv S gens NL T lev hl (n + 1 + 1 + 1 + 1) s3 L ow0 had0 ev := by rw [h3]; exact I3
  obtain ⟨s4, h4⟩ : ∃ s, s = s3.go t ⟨2, 4, x, 0, q⟩ := ⟨_, rfl⟩
  have I4 := gi_g2 I3 ht hl0 F3 rfl (by show 1 ≤ 3; decide) (by show 3 < 6; decide)
  have F4 := thr_go s3 t ⟨2, 4, x, 0, q⟩
  rw [← h4] at F4
  replace I4 : GInv S gens NL T lev hl (n + 1 + 1 + 1 + 1 + 1) s4 L ow0 had0 ev := by rw [h4]; exact I4
  obtain ⟨s5, h5⟩ : ∃ s, s = s4.go t ⟨2, 5, x, 0, q⟩ := ⟨_, rfl⟩
  have I5 := gi_g2 I4 ht hl0 F4 rfl (by show 1 ≤ 4; decide) (by show 4 < 6; decide)
  have F5 := thr_go s4 t ⟨2, 5, x, 0, q⟩
  rw [← h5] at F5
  replace I5 : GInv S gens NL T lev hl (n + 1 + 1 + 1 + 1 + 1 + 1) s5 L ow0 had0 ev := by rw [h5]; exact I5
  obtain ⟨s6, h6⟩ : ∃ s, s = s5.go t ⟨2, 6, x, 0, q⟩ := ⟨_, rfl⟩
  have I6 := gi_g2 I5 ht hl0 F5 rfl (by show 1 ≤ 5; decide) (by show 5 < 6; decide)
  have F6 := thr_go s5 t ⟨2, 6, x, 0, q⟩
  rw [← h6] at F6
  replace I6 : GInv S gens NL T lev hl (n + 1 + 1 + 1 + 1 + 1 + 1 + 1) s6 L ow0 had0 ev := by rw [h6]; exact I6
  have L6 : s6.lv = put1 g.lv (lev t) { g.lv (lev t) with hd := put1 (g.lv (lev t)).hd x (mkHead (q - 1) 3) } := by rw [h6, h5, h4, h3, h2, ← L1]; rfl
  have T6 : ∀ t', t' ≠ t → s6.thr t' = g.thr t' := fun t' ht' => by
    rw [h6, h5, h4, h3, h2, h1, h0]
    show put1 (put1 (put1 (put1 (put1 (put1 (put1 g.thr t _) t _) t _) t _) t _) t _) t _ t' = _
    rw [put1_ne ht', put1_ne ht', put1_ne ht', put1_ne ht', put1_ne ht', put1_ne ht', put1_ne ht']
  have hw6 : q < gens := by rw [← hq, L0]; exact hw
  obtain ⟨s7, h7⟩ : ∃ s, s = (s6.lev (lev t) { s6.lv (lev t) with hd := put1 (s6.lv (lev t)).hd x (mkHead q 0), held := put1 (s6.lv (lev t)).held x false }).go t ⟨2, 7, x, 0, q⟩ := ⟨_, rfl⟩
  have I7 := gi_g6a I6 ht hl0 F6 (by omega) rfl rfl hw6
  have F7 := thr_go (s6.lev (lev t) { s6.lv (lev t) with hd := put1 (s6.lv (lev t)).hd x (mkHead q 0), held := put1 (s6.lv (lev t)).held x false }) t ⟨2, 7, x, 0, q⟩
  rw [← h7] at F7
  have I7' : GInv S gens NL T lev hl (n + 1 + 1 + 1 + 1 + 1 + 1 + 1 + 1) s7 L (put1 ow0 (lev t) (put1 (ow0 (lev t)) x (5, t))) had0 ev := by rw [h7]; exact I7
  have HOW7 : Hid (OwAll ow → OwBut (put1 ow0 (lev t) (put1 (ow0 (lev t)) x (5, t))) (lev t) x) := Lib.hid fun ho => (HOW.out ho).put _
  generalize put1 ow0 (lev t) (put1 (ow0 (lev t)) x (5, t)) = ow7 at I7' HOW7
  have L7 : s7.lv = put1 s6.lv (lev t) { s6.lv (lev t) with hd := put1 (s6.lv (lev t)).hd x (mkHead q 0), held := put1 (s6.lv (lev t)).held x false } := by rw [h7]; rfl
  obtain ⟨tp, htp⟩ : ∃ tp, (s7.lv (lev t)).top = tp := ⟨_, rfl⟩
  obtain ⟨s8, h8⟩ : ∃ s, s = s7.go t ⟨2, 8, x, tp, q⟩ := ⟨_, rfl⟩
  have I8 := gi_g7 I7' ht hl0 F7 rfl rfl
  have F8 := thr_go s7 t ⟨2, 8, x, tp, q⟩
  rw [← h8] at F8
  replace I8 : GInv S gens NL T lev hl (n + 1 + 1 + 1 + 1 + 1 + 1 + 1 + 1 + 1) s8 L ow7 had0 ev := by rw [h8, ← htp]; exact I8
  have L8 : s8.lv = s7.lv := by rw [h8]; rfl
  obtain ⟨s9, h9⟩ : ∃ s, s = (s8.lev (lev t) { s8.lv (lev t) with lk := put1 (s8.lv (lev t)).lk x (slOf tp) }).go t ⟨2, 9, x, tp, q⟩ := ⟨_, rfl⟩
  have I9 := gi_g8 I8 ht hl0 F8 rfl rfl
  have F9 := thr_go (s8.lev (lev t) { s8.lv (lev t) with lk := put1 (s8.lv (lev t)).lk x (slOf tp) }) t ⟨2, 9, x, tp, q⟩
  rw [← h9] at F9
  replace I9 : GInv S gens NL T lev hl (n + 1 + 1 + 1 + 1 + 1 + 1 + 1 + 1 + 1 + 1) s9 L ow7 had0 ev := by rw [h9]; exact I9
  have e9 : (s9.lv (lev t)).top = tp := by
    rw [h9]
    show (put1 s8.lv (lev t) _ (lev t)).top = tp
    rw [put1_same]
    show (s8.lv (lev t)).top = tp
    rw [L8]; exact htp
  have I10 := gi_g9a I9 ht hl0 F9 hS2 (by omega) rfl rfl e9 0 0
  obtain ⟨s10, h10⟩ : ∃ s, s = (s9.lev (lev t) { s9.lv (lev t) with top := mkTop x (cnt tp + 1) }).back t 0 0 := ⟨_, rfl⟩
  have H10 : ∀ l, (s10.lv l).hd = (s7.lv l).hd := fun l => by
    rw [h10]
    show (put1 s9.lv (lev t) _ l).hd = _
    have H9 : ∀ l, (s9.lv l).hd = (s7.lv l).hd := fun l => by
      rw [h9, ← L8]
      show (put1 s8.lv (lev t) _ l).hd = _
      by_cases e : l = lev t
      · subst e; rw [put1_same]
      · rw [put1_ne e]
    by_cases e : l = lev t
    · subst e; rw [put1_same]; exact H9 _
    · rw [put1_ne e]; exact H9 l
  have I10' : GInv S gens NL T lev hl (n + 11) s10 (put1 L (lev t) (x :: L (lev t))) (put1 ow7 (lev t) (put1 (ow7 (lev t)) x (1, 0))) had0 ev := by rw [h10]; exact I10
  refine ⟨rowOf [s0, s1, s2, s3, s4, s5, s6, s7, s8, s9, s10] g, _, h0, ⟨fun i hi => ?_, ?_⟩, x1, x2, I10', fun ho => (HOW7.out ho).all (show 1 ≤ 2 by decide), fun t' ht' => ?_, fun l i => ?_⟩
  · skip
    rcases i with _ | _ | _ | _ | _ | _ | i
    · exact ⟨_, F0, I0.ok (by omega) hS hS2 ht hl0 F0, by show s1 = s0.go t ⟨2, 1, x, 0, genOf ((s0.lv (lev t)).hd x) + 1⟩; rw [hq]; exact h1⟩
    · exact ⟨_, F1, I1.ok (by omega) hS hS2 ht hl0 F1, h2⟩
    · exact ⟨_, F2, I2.ok (by omega) hS hS2 ht hl0 F2, h3⟩
    · exact ⟨_, F3, I3.ok (by omega) hS hS2 ht hl0 F3, h4⟩
    · exact ⟨_, F4, I4.ok (by omega) hS hS2 ht hl0 F4, h5⟩
    · exact ⟨_, F5, I5.ok (by omega) hS hS2 ht hl0 F5, h6⟩
    · rcases i with _ | _ | _ | _ | i
      · refine ⟨_, F6, I6.ok (by omega) hS hS2 ht hl0 F6, ?_⟩
        show s7 = ite (q < gens) ((s6.lev (lev t) { s6.lv (lev t) with hd := put1 (s6.lv (lev t)).hd x (mkHead q 0), held := put1 (s6.lv (lev t)).held x false }).go t ⟨2, 7, x, 0, q⟩) ((s6.lev (lev t) { s6.lv (lev t) with hd := put1 (s6.lv (lev t)).hd x (mkHead q 0), held := put1 (s6.lv (lev t)).held x false }).back t 0 0)
        rw [if_pos (by omega)]; exact h7
      · exact ⟨_, F7, I7'.ok (by omega) hS hS2 ht hl0 F7, by show s8 = s7.go t ⟨2, 8, x, (s7.lv (lev t)).top, q⟩; rw [htp]; exact h8⟩
      · exact ⟨_, F8, I8.ok (by omega) hS hS2 ht hl0 F8, h9⟩
      · refine ⟨_, F9, I9.ok (by omega) hS hS2 ht hl0 F9, ?_⟩
        show s10 = ite ((s9.lv (lev t)).top = tp) ((s9.lev (lev t) { s9.lv (lev t) with top := mkTop x (cnt tp + 1) }).back t 0 0) (s9.go t ⟨2, 7, x, tp, q⟩)
        rw [if_pos e9]; exact h10
      · omega
  · show s10.thr t = none; rw [h10]; exact put1_same _ _ _
  · show s10.thr t' = _
    rw [h10, h9, h8, h7]
    show put1 (put1 (put1 (put1 s6.thr t _) t _) t _) t _ t' = _
    rw [put1_ne ht', put1_ne ht', put1_ne ht', put1_ne ht']; exact T6 t' ht'
  · show genOf ((s10.lv l).hd i) = _
    rw [H10, L7]
    by_cases el : l = lev t
    · subst el
      rw [put1_same]
      show genOf (put1 (s6.lv (lev t)).hd x (mkHead q 0) i) = _
      by_cases ei : i = x
      · subst ei
        rw [put1_same, if_pos ⟨rfl, rfl⟩, gen_head (by omega), ← hq, L0]
      · rw [put1_ne ei, if_neg (fun h => ei h.2), L6, put1_same]
        show genOf (put1 _ _ _ _) = _
        rw [put1_ne ei]
    · rw [put1_ne el, if_neg (fun h => el h.1), L6, put1_ne el]
end
end
section
open Go.RowKit
set_option linter.unusedVariables false
set_option linter.unusedSimpArgs false
set_option linter.unnecessarySimpa false
/-- The slot that a thread has in hand. -/
def slotF (F : StF) : Option Nat := if F.fn = 1 then (if F.pc = 3 then some (slOf F.r1) else none) else some F.r0
/-- A slot in some thread's hand: that thread is within a routine, with this slot. -/
def OwnI (T : Nat) (lev : Nat → Nat) (ow : Nat → Nat → Nat × Nat) (thr : Nat → Option StF) : Prop := ∀ l x, 3 ≤ (ow l x).1 → ∃ F, (ow l x).2 < T ∧ lev (ow l x).2 = l ∧ thr (ow l x).2 = some F ∧ slotF F = some x
/-- Take within its second bit, with no slot: its level's list was seen empty. -/
def EmpI (T : Nat) (thr : Nat → Option StF) (emp : Nat → Bool) : Prop := ∀ t, t < T → ∀ F, thr t = some F → F.fn = 1 → F.pc = 1 → slOf F.r1 = 0 → emp t = true
section
variable {S gens NL T n t x : Nat} {lev : Nat → Nat} {g g2 : StG} {L : Nat → List Nat} {ow o2 : Nat → Nat → Nat × Nat} {had : Nat → List Nat} {ev : Nat → List (Nat × Nat)} {thr : Nat → Option StF} {emp emp2 : Nat → Bool} {F : StF} {Fo : Option StF}
theorem OwnI.same (h : OwnI T lev ow thr) (hold : ∀ F y, thr t = some F → slotF F = some y → ∃ F2, Fo = some F2 ∧ slotF F2 = some y) : OwnI T lev ow (put1 thr t Fo) := fun l y hy => by
  obtain ⟨F0, a, b, d, e⟩ := h l y hy
  by_cases et : (ow l y).2 = t
  · rw [et] at d
    obtain ⟨F2, e1, e2⟩ := hold F0 y d e
    exact ⟨F2, a, b, by rw [et, put1_same]; exact e1, e2⟩
  · exact ⟨F0, a, b, by rw [put1_ne et]; exact d, e⟩
theorem OwnI.step (h : OwnI T lev ow thr) (ht : t < T) {v : Nat × Nat} (hold : ∀ F y, thr t = some F → slotF F = some y → y = x) (hnew : 3 ≤ v.1 → v.2 = t ∧ ∃ F2, Fo = some F2 ∧ slotF F2 = some x) : OwnI T lev (put1 ow (lev t) (put1 (ow (lev t)) x v)) (put1 thr t Fo) := fun l y hy => by
  by_cases el : l = lev t
  · subst el
    rw [put1_same] at hy ⊢
    by_cases ey : y = x
    · subst ey
      rw [put1_same] at hy ⊢
      obtain ⟨e1, F2, e2, e3⟩ := hnew hy
      exact ⟨F2, by rw [e1]; exact ht, by rw [e1], by rw [e1, put1_same]; exact e2, e3⟩
    · rw [put1_ne ey] at hy ⊢
      obtain ⟨F0, a, b, d, e⟩ := h _ y hy
      by_cases et : (ow (lev t) y).2 = t
      · rw [et] at d; exact absurd (hold F0 y d e) ey
      · exact ⟨F0, a, b, by rw [put1_ne et]; exact d, e⟩
  · rw [put1_ne el] at hy ⊢
    obtain ⟨F0, a, b, d, e⟩ := h l y hy
    by_cases et : (ow l y).2 = t
    · exact absurd (by rw [← b, et]) el
    · exact ⟨F0, a, b, by rw [put1_ne et]; exact d, e⟩
theorem EmpI.step (h : EmpI T thr emp) (hm : ∀ u, emp u = true → emp2 u = true) (hn : ∀ F2, Fo = some F2 → F2.fn = 1 → F2.pc = 1 → slOf F2.r1 = 0 → emp2 t = true) : EmpI T (put1 thr t Fo) emp2 := fun u hu F hF => by
  by_cases e : u = t
  · subst e; rw [put1_same] at hF; exact hn F hF
  · rw [put1_ne e] at hF; exact fun a b d => hm u (h u hu F hF a b d)
structure CrI (S gens NL T : Nat) (lev : Nat → Nat) (n : Nat) (g : StG) (L : Nat → List Nat) (ow : Nat → Nat → Nat × Nat) (had : Nat → List Nat) (ev : Nat → List (Nat × Nat)) (emp : Nat → Bool) : Prop where
  inv : GInv S gens NL T lev lev n g L ow had ev
  own : OwnI T lev ow g.thr
  emp : EmpI T g.thr emp
/-- At rest no slot is in a hand. -/
theorem CrI.rest (h : CrI S gens NL T lev n g L ow had ev emp) (hr : ∀ t, t < T → g.thr t = none) (l i : Nat) : (ow l i).1 ≤ 2 := by
  by_cases hc : 3 ≤ (ow l i).1
  · obtain ⟨F, a, _, d, _⟩ := h.own l i hc
    rw [hr _ a] at d; cases d
  · omega
theorem CrI.take (h : CrI S gens NL T lev n g L ow had ev emp) (hF : g.thr t = none) : CrI S gens NL T lev (n + 1) (g.go t ⟨1, 0, 0, 0, 0⟩) L ow had ev (put1 emp t false) :=
  ⟨gi_call_take h.inv, h.own.same (fun F y e => by rw [hF] at e; cases e), fun u hu F hu2 a b d => by
    have hu3 : put1 g.thr t (some ⟨1, 0, 0, 0, 0⟩) u = some F := hu2
    by_cases e : u = t
    · subst e; rw [put1_same] at hu3; cases hu3; cases b
    · rw [put1_ne e] at hu3 ⊢; exact h.emp u hu F hu3 a b d⟩
theorem CrI.give (h : CrI S gens NL T lev n g L ow had ev emp) (ht : t < T) (hl0 : lev t < NL) (hF : g.thr t = none) {i : Nat} (hx : (had t)[i]? = some x) : CrI S gens NL T lev (n + 1) (g.go t ⟨2, 0, x, 0, 0⟩) L (put1 ow (lev t) (put1 (ow (lev t)) x (4, t))) (put1 had t ((had t).eraseIdx i)) ev emp :=
  ⟨gi_call_give h.inv hl0 rfl hx, h.own.step ht (fun F y e => by rw [hF] at e; cases e) (fun _ => ⟨rfl, _, rfl, rfl⟩), h.emp.step (fun _ h => h) fun F2 e a => by cases e; cases a⟩
/-- What a step leaves seen. -/
def seen (lev : Nat → Nat) (t : Nat) (L L2 : Nat → List Nat) (emp : Nat → Bool) : Nat → Bool := fun y => emp y || (((L (lev t)).length == 0) || ((L2 (lev t)).length == 0)) && (lev y == lev t)
theorem seen_up {L L2 : Nat → List Nat} : ∀ u, emp u = true → seen lev t L L2 emp u = true := fun u h => by unfold seen; rw [h]; rfl
/-- What a step of a crowd makes. -/
structure CrN (S gens NL T : Nat) (lev : Nat → Nat) (n t : Nat) (F : StF) (g g2 : StG) (L : Nat → List Nat) (had : Nat → List Nat) (ev : Nat → List (Nat × Nat)) (emp : Nat → Bool) (L2 : Nat → List Nat) (ow2 : Nat → Nat → Nat × Nat) (had2 : Nat → List Nat) (ev2 : Nat → List (Nat × Nat)) : Prop where
  inv : CrI S gens NL T lev (n + 1) g2 L2 ow2 had2 ev2 (seen lev t L L2 emp)
  thr : ∀ u, u ≠ t → g2.thr u = g.thr u
  told : (had2 = had ∧ ev2 = ev ∧ (F.fn = 1 → g2.thr t = none → g2.t0 t = 0 ∧ emp t = true)) ∨
    (F.fn = 1 ∧ g2.thr t = none ∧ 1 ≤ g2.t0 t ∧ g2.t0 t ≤ S ∧ g2.t1 t < 4294967296 ∧ (g2.t0 t, g2.t1 t) ∉ ev (lev t) ∧ had2 = put1 had t (had t ++ [g2.t0 t]) ∧ ev2 = put1 ev (lev t) (ev (lev t) ++ [(g2.t0 t, g2.t1 t)]) ∧ (g2.lv (lev t)).held (g2.t0 t) = true)
theorem crowd_take (h : CrI S gens NL T lev n g L ow had ev emp) (hS : S ≤ 60) (hn : n < 100000) (ht : t < T) (hl0 : lev t < NL) (hF : g.thr t = some F) (h1 : F.fn = 1) : ∃ L2 ow2 had2 ev2, CrN S gens NL T lev n t F g (g.take t (lev t) F) L had ev emp L2 ow2 had2 ev2 := by
  have h3 := h.inv.thr t ht F hF
  have hne : ∀ (f : Nat → Option StF) (o : Option StF) u, u ≠ t → put1 f t o u = f u := fun f o u hu => put1_ne hu
  have hold : F.pc ≠ 3 → ∀ F0 y, g.thr t = some F0 → slotF F0 = some y → ∃ F2 : StF, (none : Option StF) = some F2 ∧ slotF F2 = some y := fun hp F0 y e hs => by
    rw [hF] at e; cases e
    unfold slotF at hs; rw [if_pos h1, if_neg hp] at hs; cases hs
  have hold2 : F.pc ≠ 3 → ∀ (Fo : Option StF) F0 y, g.thr t = some F0 → slotF F0 = some y → ∃ F2 : StF, Fo = some F2 ∧ slotF F2 = some y := fun hp Fo F0 y e hs => by
    obtain ⟨_, a, _⟩ := hold hp F0 y e hs; cases a
  unfold StG.take
  by_cases hp : F.pc = 0
  · rw [if_pos hp]
    refine ⟨L, ow, had, ev, ⟨⟨gi_t0 h.inv ht hl0 hF h1 hp, h.own.same (hold2 (by omega) _), h.emp.step seen_up fun F2 e _ _ hs => ?_⟩, hne _ _, .inl ⟨rfl, rfl, fun _ e => ?_⟩⟩⟩
    · cases e
      have := (h.inv.lv (lev t) hl0).first.2.1 hs
      unfold seen; rw [this]; simp
    · have : put1 g.thr t (some { F with r1 := (g.lv (lev t)).top, pc := 1 }) t = none := e
      rw [put1_same] at this; cases this
  · rw [if_neg hp]
    by_cases hp1 : F.pc = 1
    · rw [if_pos hp1]
      by_cases hs : slOf F.r1 = 0
      · rw [if_pos hs]
        refine ⟨L, ow, had, ev, ⟨⟨gi_back h.inv ht hl0 hF 0 0, h.own.same (hold2 (by omega) _), h.emp.step seen_up fun F2 e => by cases e⟩, hne _ _, .inl ⟨rfl, rfl, fun _ _ => ⟨put1_same _ _ _, h.emp t ht F hF h1 hp1 hs⟩⟩⟩⟩
      · rw [if_neg hs]
        refine ⟨L, ow, had, ev, ⟨⟨gi_t1b h.inv ht hl0 hF h1 hp1 hs, h.own.same (hold2 (by omega) _), h.emp.step seen_up fun F2 e _ b => by cases e; cases b⟩, hne _ _, .inl ⟨rfl, rfl, fun _ e => ?_⟩⟩⟩
        have : put1 g.thr t (some { F with r2 := (g.lv (lev t)).lk (slOf F.r1), pc := 2 }) t = none := e
        rw [put1_same] at this; cases this
    · rw [if_neg hp1]
      by_cases hp2 : F.pc = 2
      · rw [if_pos hp2]
        by_cases hs : (g.lv (lev t)).top = F.r1
        · rw [if_pos hs]
          obtain ⟨r, _, _, I⟩ := gi_t2a h.inv ht hl0 hF hS hn h1 hp2 hs
          refine ⟨_, _, had, ev, ⟨⟨I, h.own.step ht (fun F0 y e hs => ?_) (fun _ => ⟨rfl, _, rfl, ?_⟩), h.emp.step seen_up fun F2 e _ b => by cases e; cases b⟩, hne _ _, .inl ⟨rfl, rfl, fun _ e => ?_⟩⟩⟩
          · obtain ⟨_, a, _⟩ := hold (by omega) F0 y e hs; cases a
          · unfold slotF; rw [if_pos (show (_ : StF).fn = 1 from h1), if_pos rfl]
          · have : put1 g.thr t (some { F with pc := 3 }) t = none := e
            rw [put1_same] at this; cases this
        · rw [if_neg hs]
          refine ⟨L, ow, had, ev, ⟨⟨gi_t2b h.inv ht hl0 hF h1, h.own.same (hold2 (by omega) _), h.emp.step seen_up fun F2 e _ b => by cases e; cases b⟩, hne _ _, .inl ⟨rfl, rfl, fun _ e => ?_⟩⟩⟩
          have : put1 g.thr t (some { F with pc := 0 }) t = none := e
          rw [put1_same] at this; cases this
      · rw [if_neg hp2]
        have hp3 : F.pc = 3 := by have := h3.tk h1; omega
        obtain ⟨q0, q1, q2, q3, _, I⟩ := gi_t3 h.inv ht hl0 hF h1 hp3 (j := t) rfl (slOf F.r1) (genOf ((g.lv (lev t)).hd (slOf F.r1)))
        have e0 : (g.back t (slOf F.r1) (genOf ((g.lv (lev t)).hd (slOf F.r1)))).t0 t = slOf F.r1 := put1_same _ _ _
        have e1 : (g.back t (slOf F.r1) (genOf ((g.lv (lev t)).hd (slOf F.r1)))).t1 t = genOf ((g.lv (lev t)).hd (slOf F.r1)) := put1_same _ _ _
        refine ⟨L, _, _, _, ⟨⟨I, h.own.step ht (fun F0 y e hs => ?_) (fun h => absurd h (show ¬ 3 ≤ 2 by decide)), h.emp.step seen_up fun F2 e => by cases e⟩, hne _ _, .inr ⟨h1, put1_same _ _ _, ?_⟩⟩⟩
        · rw [hF] at e; cases e
          unfold slotF at hs; rw [if_pos h1, if_pos hp3] at hs; cases hs; rfl
        · rw [e0, e1]
          exact ⟨q1, q2, cutN_lt _ _ _, fun hm => absurd (q3 _ hm) (Nat.lt_irrefl _), rfl, rfl, (h.inv.lv (lev t) hl0).on _ q1 q2 (by rw [q0]; exact .inr (.inl rfl))⟩
theorem crowd_give (h : CrI S gens NL T lev n g L ow had ev emp) (hS : S ≤ 60) (hn : n < 100000) (ht : t < T) (hl0 : lev t < NL) (hF : g.thr t = some F) (h2 : F.fn = 2) : ∃ L2 ow2 had2 ev2, CrN S gens NL T lev n t F g (g.give gens t (lev t) F) L had ev emp L2 ow2 had2 ev2 := by
  have h3 := h.inv.thr t ht F hF
  have n1 : F.fn ≠ 1 := by omega
  have hne : ∀ (f : Nat → Option StF) (o : Option StF) u, u ≠ t → put1 f t o u = f u := fun f o u hu => put1_ne hu
  have hsl : slotF F = some F.r0 := by unfold slotF; rw [if_neg n1]
  have hold : ∀ F2 : StF, F2.fn = F.fn → F2.r0 = F.r0 → ∀ F0 y, g.thr t = some F0 → slotF F0 = some y → ∃ F3 : StF, some F2 = some F3 ∧ slotF F3 = some y := fun F2 e1 e2 F0 y e hs => by
    rw [hF] at e; cases e
    refine ⟨F2, rfl, ?_⟩
    unfold slotF
    rw [if_neg (by omega), e2]
    rw [hsl] at hs; exact hs
  have only : ∀ F0 y, g.thr t = some F0 → slotF F0 = some y → y = F.r0 := fun F0 y e hs => by
    rw [hF] at e; cases e
    rw [hsl] at hs; cases hs; rfl
  have hno : ∀ (Fo : Option StF), (∀ F2, Fo = some F2 → F2.fn = F.fn) → ∀ F2, Fo = some F2 → F2.fn = 1 → F2.pc = 1 → slOf F2.r1 = 0 → ∀ b : Bool, b = true := fun Fo hf F2 e a => absurd (by rw [← hf F2 e]; exact a) n1
  have tld : ∀ g2 : StG, F.fn = 1 → g2.thr t = none → g2.t0 t = 0 ∧ emp t = true := fun _ e => absurd e n1
  unfold StG.give
  by_cases hp : F.pc = 0
  · rw [if_pos hp]
    exact ⟨L, ow, had, ev, ⟨⟨gi_g0 h.inv ht hl0 hF h2 hp, h.own.same (hold _ rfl rfl), h.emp.step seen_up fun F2 e a b d => hno _ (fun _ e => by cases e; rfl) F2 e a b d _⟩, hne _ _, .inl ⟨rfl, rfl, tld _⟩⟩⟩
  rw [if_neg hp]
  by_cases hp1 : F.pc = 1
  · rw [if_pos hp1]
    exact ⟨L, ow, had, ev, ⟨⟨gi_g1 h.inv ht hl0 hF hn h2 hp1, h.own.same (hold _ rfl rfl), h.emp.step seen_up fun F2 e a b d => hno _ (fun _ e => by cases e; rfl) F2 e a b d _⟩, hne _ _, .inl ⟨rfl, rfl, tld _⟩⟩⟩
  rw [if_neg hp1]
  have mid : ∀ k, F.pc + 1 = k → 1 ≤ F.pc → F.pc < 6 → ∃ L2 ow2 had2 ev2, CrN S gens NL T lev n t F g (g.go t { F with pc := k }) L had ev emp L2 ow2 had2 ev2 := fun k hk a b => by
    subst hk
    exact ⟨L, ow, had, ev, ⟨⟨gi_g2 h.inv ht hl0 hF h2 a b, h.own.same (hold _ rfl rfl), h.emp.step seen_up fun F2 e a b d => hno _ (fun _ e => by cases e; rfl) F2 e a b d _⟩, hne _ _, .inl ⟨rfl, rfl, tld _⟩⟩⟩
  by_cases hp2 : F.pc = 2
  · rw [if_pos hp2]; exact mid 3 (by omega) (by omega) (by omega)
  rw [if_neg hp2]
  by_cases hp3 : F.pc = 3
  · rw [if_pos hp3]; exact mid 4 (by omega) (by omega) (by omega)
  rw [if_neg hp3]
  by_cases hp4 : F.pc = 4
  · rw [if_pos hp4]; exact mid 5 (by omega) (by omega) (by omega)
  rw [if_neg hp4]
  by_cases hp5 : F.pc = 5
  · rw [if_pos hp5]; exact mid 6 (by omega) (by omega) (by omega)
  rw [if_neg hp5]
  by_cases hp6 : F.pc = 6
  · rw [if_pos hp6]
    by_cases hs : F.r2 < gens
    · rw [if_pos hs]
      exact ⟨L, _, had, ev, ⟨⟨gi_g6a h.inv ht hl0 hF hn h2 hp6 hs, h.own.step ht only (fun _ => ⟨rfl, _, rfl, by unfold slotF; rw [if_neg (show ¬ (_ : StF).fn = 1 from n1)]⟩), h.emp.step seen_up fun F2 e a b d => hno _ (fun _ e => by cases e; rfl) F2 e a b d _⟩, hne _ _, .inl ⟨rfl, rfl, tld _⟩⟩⟩
    · rw [if_neg hs]
      exact ⟨L, _, had, ev, ⟨⟨gi_g6b h.inv ht hl0 hF hn h2 hp6 (by omega) 0 0, h.own.step ht only (fun h => absurd h (show ¬ 3 ≤ 0 by decide)), h.emp.step seen_up fun F2 e => by cases e⟩, hne _ _, .inl ⟨rfl, rfl, tld _⟩⟩⟩
  rw [if_neg hp6]
  by_cases hp7 : F.pc = 7
  · rw [if_pos hp7]
    exact ⟨L, ow, had, ev, ⟨⟨gi_g7 h.inv ht hl0 hF h2 hp7, h.own.same (hold _ rfl rfl), h.emp.step seen_up fun F2 e a b d => hno _ (fun _ e => by cases e; rfl) F2 e a b d _⟩, hne _ _, .inl ⟨rfl, rfl, tld _⟩⟩⟩
  rw [if_neg hp7]
  by_cases hp8 : F.pc = 8
  · rw [if_pos hp8]
    exact ⟨L, ow, had, ev, ⟨⟨gi_g8 h.inv ht hl0 hF h2 hp8, h.own.same (hold _ rfl rfl), h.emp.step seen_up fun F2 e a b d => hno _ (fun _ e => by cases e; rfl) F2 e a b d _⟩, hne _ _, .inl ⟨rfl, rfl, tld _⟩⟩⟩
  rw [if_neg hp8]
  have hp9 : F.pc = 9 := by have := h3.gv h2; omega
  by_cases hs : (g.lv (lev t)).top = F.r1
  · rw [if_pos hs]
    exact ⟨_, _, had, ev, ⟨⟨gi_g9a h.inv ht hl0 hF hS hn h2 hp9 hs 0 0, h.own.step ht only (fun h => absurd h (show ¬ 3 ≤ 1 by decide)), h.emp.step seen_up fun F2 e => by cases e⟩, hne _ _, .inl ⟨rfl, rfl, tld _⟩⟩⟩
  · rw [if_neg hs]
    exact ⟨L, ow, had, ev, ⟨⟨gi_g9b h.inv ht hl0 hF h2 hp9, h.own.same (hold _ rfl rfl), h.emp.step seen_up fun F2 e a b d => hno _ (fun _ e => by cases e; rfl) F2 e a b d _⟩, hne _ _, .inl ⟨rfl, rfl, tld _⟩⟩⟩
theorem crowd_next (h : CrI S gens NL T lev n g L ow had ev emp) (hS : S ≤ 60) (hn : n < 100000) (ht : t < T) (hl0 : lev t < NL) (hF : g.thr t = some F) : ∃ L2 ow2 had2 ev2, CrN S gens NL T lev n t F g (g.next gens t (lev t) F) L had ev emp L2 ow2 had2 ev2 := by
  unfold StG.next
  rcases (h.inv.thr t ht F hF).fn with h1 | h2
  · rw [if_pos h1]; exact crowd_take h hS hn ht hl0 hF h1
  · rw [if_neg (by omega)]; exact crowd_give h hS hn ht hl0 hF h2
/-- How many steps a thread needs at most, alone. -/
def potF (top : Nat) (F : StF) : Nat :=
  if F.fn = 1 then (if F.pc = 0 then 4 else if F.pc = 1 then (if top = F.r1 then 3 else 6) else if F.pc = 2 then (if top = F.r1 then 2 else 5) else 1)
  else (if F.pc < 7 then 10 - F.pc else if F.pc = 7 then 3 else if F.pc = 8 then (if top = F.r1 then 2 else 5) else (if top = F.r1 then 1 else 4))
theorem pot_le (top : Nat) (F : StF) : potF top F ≤ 10 := by
  unfold potF
  repeat' split
  all_goals omega
theorem pot_pos (top : Nat) (F : StF) : 1 ≤ potF top F := by
  unfold potF
  repeat' split
  all_goals omega
theorem pot_next {l : Nat} (h1 : F.fn = 1 ∨ F.fn = 2) (F2 : StF) (e : (g.next gens t l F).thr t = some F2) : potF (((g.next gens t l F).lv l).top) F2 + 1 ≤ potF (g.lv l).top F := by
  have go : ∀ (g : StG) (F0 : StF), (g.go t F0).thr t = some F2 → F2 = F0 := fun g F0 e => by
    have e' : put1 g.thr t (some F0) t = some F2 := e
    rw [put1_same] at e'; cases e'; rfl
  have bk : ∀ (g : StG) (a b : Nat), (g.back t a b).thr t = some F2 → False := fun g a b e => by
    have e' : put1 g.thr t none t = some F2 := e
    rw [put1_same] at e'; cases e'
  rcases h1 with h1 | h1
  · unfold StG.next at e ⊢
    rw [if_pos h1] at e ⊢
    unfold StG.take at e ⊢
    by_cases hp : F.pc = 0
    · rw [if_pos hp] at e ⊢
      rw [go _ _ e]
      show potF (g.lv l).top _ + 1 ≤ _
      unfold potF
      simp [h1, hp]
    rw [if_neg hp] at e ⊢
    by_cases hp1 : F.pc = 1
    · rw [if_pos hp1] at e ⊢
      by_cases hs : slOf F.r1 = 0
      · rw [if_pos hs] at e; exact (bk _ _ _ e).elim
      · rw [if_neg hs] at e ⊢
        rw [go _ _ e]
        show potF (g.lv l).top _ + 1 ≤ _
        unfold potF
        simp [h1, hp1]
        split <;> omega
    rw [if_neg hp1] at e ⊢
    by_cases hp2 : F.pc = 2
    · rw [if_pos hp2] at e ⊢
      by_cases hs : (g.lv l).top = F.r1
      · rw [if_pos hs] at e ⊢
        rw [go _ _ e]
        unfold potF
        simp [h1, hp2, hs]
      · rw [if_neg hs] at e ⊢
        rw [go _ _ e]
        show potF (g.lv l).top _ + 1 ≤ _
        unfold potF
        simp [h1, hp2, hs]
    rw [if_neg hp2] at e
    exact (bk _ _ _ e).elim
  · have n1 : ¬ F.fn = 1 := by omega
    unfold StG.next at e ⊢
    rw [if_neg n1] at e ⊢
    unfold StG.give at e ⊢
    have low : ∀ (top : Nat) (k : Nat) (F3 : StF), F.pc < 6 → F3.fn = 2 → F3.pc = F.pc + 1 → potF top F3 + 1 ≤ potF (g.lv l).top F := fun top k F3 a b d => by
      unfold potF
      rw [if_neg (by omega), if_pos (by omega), if_neg n1, if_pos (by omega)]
      omega
    by_cases hp : F.pc = 0
    · rw [if_pos hp] at e ⊢
      rw [go _ _ e]; exact low _ 0 _ (by omega) h1 (by show 1 = _; omega)
    rw [if_neg hp] at e ⊢
    by_cases hp1 : F.pc = 1
    · rw [if_pos hp1] at e ⊢
      rw [go _ _ e]; exact low _ 0 _ (by omega) h1 (by show 2 = _; omega)
    rw [if_neg hp1] at e ⊢
    by_cases hp2 : F.pc = 2
    · rw [if_pos hp2] at e ⊢
      rw [go _ _ e]; exact low _ 0 _ (by omega) h1 (by show 3 = _; omega)
    rw [if_neg hp2] at e ⊢
    by_cases hp3 : F.pc = 3
    · rw [if_pos hp3] at e ⊢
      rw [go _ _ e]; exact low _ 0 _ (by omega) h1 (by show 4 = _; omega)
    rw [if_neg hp3] at e ⊢
    by_cases hp4 : F.pc = 4
    · rw [if_pos hp4] at e ⊢
      rw [go _ _ e]; exact low _ 0 _ (by omega) h1 (by show 5 = _; omega)
    rw [if_neg hp4] at e ⊢
    by_cases hp5 : F.pc = 5
    · rw [if_pos hp5] at e ⊢
      rw [go _ _ e]; exact low _ 0 _ (by omega) h1 (by show 6 = _; omega)
    rw [if_neg hp5] at e ⊢
    by_cases hp6 : F.pc = 6
    · rw [if_pos hp6] at e ⊢
      by_cases hs : F.r2 < gens
      · rw [if_pos hs] at e ⊢
        rw [go _ _ e]
        unfold potF
        simp [h1, hp6]
      · rw [if_neg hs] at e; exact (bk _ _ _ e).elim
    rw [if_neg hp6] at e ⊢
    by_cases hp7 : F.pc = 7
    · rw [if_pos hp7] at e ⊢
      rw [go _ _ e]
      show potF (g.lv l).top _ + 1 ≤ _
      unfold potF
      simp [h1, hp7]
    rw [if_neg hp7] at e ⊢
    by_cases hp8 : F.pc = 8
    · rw [if_pos hp8] at e ⊢
      rw [go _ _ e]
      have et : ((g.lev l { g.lv l with lk := put1 (g.lv l).lk F.r0 (slOf F.r1) }).lv l).top = (g.lv l).top := by
        show (put1 g.lv l _ l).top = _
        rw [put1_same]
      show potF ((g.lev l { g.lv l with lk := put1 (g.lv l).lk F.r0 (slOf F.r1) }).lv l).top _ + 1 ≤ _
      rw [et]
      unfold potF
      simp [h1, hp8]
      split <;> omega
    rw [if_neg hp8] at e ⊢
    by_cases hs : (g.lv l).top = F.r1
    · rw [if_pos hs] at e; exact (bk _ _ _ e).elim
    · rw [if_neg hs] at e ⊢
      rw [go _ _ e]
      show potF (g.lv l).top _ + 1 ≤ _
      unfold potF
      have : ¬ F.pc < 7 := by omega
      simp [h1, hp7, hp8, hs, this]
end
end
section
open Go.RowKit
set_option linter.unusedVariables false
set_option linter.unusedSimpArgs false
set_option linter.unnecessarySimpa false
/-- What is known of each state, with so many steps left; how many steps a thread within something needs at most, alone. -/
structure OpenJ {X : Type} (σ : World) (K : Mm) (p : Nat) (tp : List Nat) (dv : Value) (most : Nat) (J : Nat → X → MachS → Prop) (pot : Nat → X → Nat) : Prop where
  same : ∀ b x s, J b x s → s.tp = tp
  mono : ∀ b b' x s, J b x s → b' ≤ b → J b' x s
  step : ∀ t b x s (M : Mm) (lab : Nat → Nat) (w : World), t < tp.length → Has σ M w → Mach M lab p s → Base K M lab → J (b + 1) x s → (s.thr t).frames ≠ [] → Calls Try.prog 26 #[.pointer (some ⟨p, 0, none⟩), .int .i64 (t : Nat), dv] w fun r w' => ∃ M' lab' b2 x' s', r = .returned (.bool b2) ∧ Has σ M' w' ∧ Mach M' lab' p s' ∧ Base K M' lab' ∧ J b x' s' ∧ ((s'.thr t).frames = [] ∨ pot t x' + 1 ≤ pot t x) ∧ ∀ u, u < tp.length → u ≠ t → (s.thr u).frames = [] → (s'.thr u).frames = []
  pot : ∀ t b x s, J b x s → 1 ≤ pot t x ∧ pot t x ≤ most
theorem sub_mul_succ {a t m : Nat} (h : t < a) : (a - t) * m = (a - (t + 1)) * m + m := by
  rw [← Nat.succ_mul]
  congr 1
  omega
set_option maxHeartbeats 4000000 in
set_option maxRecDepth 20000 in
theorem open_rel {σ w : World} {K M : Mm} {lab : Nat → Nat} {p most : Nat} {s : MachS} {tp : List Nat} {dv : Value} {X : Type} {x : X} {J : Nat → X → MachS → Prop} {pot : Nat → X → Nat} (h : Has σ M w) (hM : Mach M lab p s) (hB : Base K M lab) (hJ : OpenJ σ K p tp dv most J pot) (h0 : J (tp.length * most) x s) (hmost : most < 1000) (hT : tp.length < 1000) :
    Calls Try.prog 30 #[.pointer (some ⟨p, 0, none⟩), dv, .int .i64 (most : Nat)] w fun r w' => r = .returned (.int .i64 0) ∧ ∃ M' lab' x' s', Has σ M' w' ∧ Mach M' lab' p s' ∧ Base K M' lab' ∧ J 0 x' s' ∧ ∀ t, t < tp.length → (s'.thr t).frames = [] := by
  have HJ := Lib.hid hJ
  have HM := Lib.hid hM
  have HB := Lib.hid hB
  have H0 := Lib.hid h0
  clear hJ hM hB h0
  go_enter Try.func30, Try.ntmps30
  go_upto_region 3 with (fail)
  go_loopw [7, 8, 9] (fun o u _ wr => ∃ t : Nat, t ≤ tp.length ∧ o = .int .i64 0 ∧ u = .int .i64 (t : Nat) ∧ ∃ M lab x s, Has σ M wr ∧ Mach M lab p s ∧ Base K M lab ∧ J ((tp.length - t) * most) x s ∧ ∀ v, v < t → (s.thr v).frames = []) (fun _ u _ _ => tp.length + 1 - (intOf u).toNat)
  case atStart => exact ⟨0, Nat.zero_le _, rfl, rfl, M, lab, x, s, h, HM.out, HB.out, H0.out, fun v hv => absurd hv (Nat.not_lt_zero _)⟩
  case round =>
    clear h w HM HB H0 M lab x s
    obtain ⟨w, rfl⟩ : ∃ x : World, x = wr := ⟨_, rfl⟩
    obtain ⟨t, ht, rfl, rfl, M2, lab2, x2, s2, h, hM2, hB2, hP2, hR2⟩ := hrel
    by_cases hlt : t < tp.length
    · obtain ⟨q, hq⟩ : ∃ q, tp[t]? = some q := ⟨_, List.getElem?_eq_getElem hlt⟩
      have TH := Lib.hid (fun (w : World) (h : Has σ M2 w) => mThread_yes h hM2 (t := t) (q := q) (by rw [HJ.out.same _ _ _ hP2]; exact hq))
      have wt : IntKind.i64.wrap ((t : Int) + 1) = ((t + 1 : Nat) : Int) := by rw [show (t : Int) + 1 = ((t + 1 : Nat) : Int) by omega]; exact IntWalk.i64_in _ (by omega)
      have HQ := Lib.hid hq
      have HLT := Lib.hid hlt
      have HM2 := Lib.hid hM2
      have HB2 := Lib.hid hB2
      have HP2 := Lib.hid hP2
      have HR2 := Lib.hid hR2
      clear hq hlt hM2 hB2 hP2 hR2 ht
      go_upto_region 6 with (first
        | (go_at_call 12; refine (TH.out _ h).mono ?_; clear h; rintro _ w ⟨rfl, h⟩))
      clear TH
      go_loopw [9] (fun i wr => ∃ (k : Nat) (M : Mm) (lab : Nat → Nat) (x : X) (s : MachS), k ≤ most ∧ i = .int .i64 (k : Nat) ∧ Has σ M wr ∧ Mach M lab p s ∧ Base K M lab ∧ J ((tp.length - t) * most - k) x s ∧ ((s.thr t).frames = [] ∨ pot t x + k ≤ most) ∧ ∀ v, v < t → (s.thr v).frames = []) (fun i _ => most + 1 - (intOf i).toNat)
      case atStart => exact ⟨0, M2, lab2, x2, s2, Nat.zero_le _, rfl, h, HM2.out, HB2.out, HP2.out, .inr (HJ.out.pot t _ _ _ HP2.out).2, HR2.out⟩
      case round =>
        clear h w HM2 HB2 HP2 HR2 M2 lab2 x2 s2
        obtain ⟨w, rfl⟩ : ∃ x : World, x = wr := ⟨_, rfl⟩
        obtain ⟨k, M5, lab5, x5, s5, hk, rfl, h, hM5, hB5, hP5, hpk, hR5⟩ := hrel
        have HM5 := Lib.hid hM5
        have HB5 := Lib.hid hB5
        have HP5 := Lib.hid hP5
        have HR5 := Lib.hid hR5
        have HPK := Lib.hid hpk
        have HKL := Lib.hid hk
        clear hM5 hB5 hP5 hR5 hpk
        by_cases hkm : k < most
        · have hkm' : (k : Int) < (most : Int) := by omega
          have HKM := Lib.hid hkm
          by_cases hfr : (s5.thr t).frames = []
          · have HF5 := Lib.hid hfr
            clear hfr hk
            obtain ⟨fvD, hvD, fbD, hTD⟩ := HM5.out.each t q (by rw [HJ.out.same _ _ _ HP5.out]; exact HQ.out)
            have hlD := hTD.flen
            have DPD := Lib.hid (fun (w : World) (h : Has σ M5 w) => thrDeep_eq h hTD)
            rw [hlD, HF5.out] at DPD
            have THD := Lib.hid (fun (w : World) (h : Has σ M5 w) => mThread_yes h HM5.out (t := t) (q := q) (by rw [HJ.out.same _ _ _ HP5.out]; exact HQ.out))
            have zz : (([] : List FrameS).length : Int) = 0 := rfl
            clear hTD hlD
            go_wp2_with (first
              | (go_at_call 12; refine (THD.out _ h).mono ?_; clear h; rintro _ w ⟨rfl, h⟩)
              | (go_at_call 15; refine (DPD.out _ h).mono ?_; clear h; rintro _ w ⟨rfl, h⟩))
            go_roundw
            case rel => exact ⟨t + 1, by have := HLT.out; omega, rfl, by first | rfl | (have := HLT.out; go_num), M5, lab5, x5, s5, h, HM5.out, HB5.out, HJ.out.mono _ _ _ _ HP5.out (by have e := sub_mul_succ (m := most) HLT.out; have := HKL.out; omega), fun v hv => by
              by_cases e : v = t
              · rw [e]; exact HF5.out
              · exact HR5.out v (by omega)⟩
            case measure => have := HLT.out; simp [intOf]; omega
          · have HF5 := Lib.hid hfr
            obtain ⟨fvD, hvD, fbD, hTD⟩ := HM5.out.each t q (by rw [HJ.out.same _ _ _ HP5.out]; exact HQ.out)
            have hlD := hTD.flen
            have DPD := Lib.hid (fun (w : World) (h : Has σ M5 w) => thrDeep_eq h hTD)
            rw [hlD] at DPD
            have THD := Lib.hid (fun (w : World) (h : Has σ M5 w) => mThread_yes h HM5.out (t := t) (q := q) (by rw [HJ.out.same _ _ _ HP5.out]; exact HQ.out))
            have hpos : 0 < (s5.thr t).frames.length := by
              cases hf : (s5.thr t).frames with
              | nil => exact absurd hf hfr
              | cons a b => simp
            have hpos' : (0 : Int) < ((s5.thr t).frames.length : Int) := by omega
            have SP := Lib.hid (fun (w : World) (h : Has σ M5 w) => HJ.out.step t ((tp.length - t) * most - (k + 1)) x5 s5 M5 lab5 w HLT.out h HM5.out HB5.out (HJ.out.mono _ _ _ _ HP5.out (by
              have e := sub_mul_succ (m := most) HLT.out
              have h2 := HKM.out
              omega)) HF5.out)
            clear hTD hlD hfr hk
            generalize (s5.thr t).frames.length = n5 at *
            go_wp2_with (first
              | (go_at_call 12; refine (THD.out _ h).mono ?_; clear h; rintro _ w ⟨rfl, h⟩)
              | (go_at_call 15; refine (DPD.out _ h).mono ?_; clear h; rintro _ w ⟨rfl, h⟩)
              | (go_at_call 26; refine (SP.out _ h).mono ?_; clear h; rintro _ w ⟨M6, lab6, b6, x6, s6, rfl, h, hM6, hB6, hP6, hd6, hu6⟩))
            go_roundw
            case rel => exact ⟨k + 1, M6, lab6, x6, s6, by have := HKM.out; omega, by go_num, h, hM6, hB6, hP6, by
              rcases hd6 with e | e
              · exact .inl e
              · rcases HPK.out with e2 | e2
                · exact absurd e2 HF5.out
                · exact .inr (by omega), fun v hv => hu6 v (by have := HLT.out; omega) (by omega) (HR5.out v hv)⟩
            case measure => have := HKM.out; simp [intOf]; omega
        · have HF5 : Hid ((s5.thr t).frames = []) := Lib.hid (by
            rcases HPK.out with e | e
            · exact e
            · have := (HJ.out.pot t _ _ _ HP5.out).1; omega)
          obtain rfl : most = k := by omega
          have hkk : ¬ (most : Int) < (most : Int) := by omega
          clear hkm hk
          obtain ⟨fvD, hvD, fbD, hTD⟩ := HM5.out.each t q (by rw [HJ.out.same _ _ _ HP5.out]; exact HQ.out)
          have hlD := hTD.flen
          have DPD := Lib.hid (fun (w : World) (h : Has σ M5 w) => thrDeep_eq h hTD)
          rw [hlD, HF5.out] at DPD
          have THD := Lib.hid (fun (w : World) (h : Has σ M5 w) => mThread_yes h HM5.out (t := t) (q := q) (by rw [HJ.out.same _ _ _ HP5.out]; exact HQ.out))
          have zz : (([] : List FrameS).length : Int) = 0 := rfl
          clear hTD hlD
          go_wp2_with (first
            | (go_at_call 12; refine (THD.out _ h).mono ?_; clear h; rintro _ w ⟨rfl, h⟩)
            | (go_at_call 15; refine (DPD.out _ h).mono ?_; clear h; rintro _ w ⟨rfl, h⟩))
          go_roundw
          case rel => exact ⟨t + 1, by have := HLT.out; omega, rfl, by first | rfl | (have := HLT.out; go_num), M5, lab5, x5, s5, h, HM5.out, HB5.out, HJ.out.mono _ _ _ _ HP5.out (by have e := sub_mul_succ (m := most) HLT.out; have := HKL.out; omega), fun v hv => by
            by_cases e : v = t
            · rw [e]; exact HF5.out
            · exact HR5.out v (by omega)⟩
          case measure => have := HLT.out; simp [intOf]; omega
    · have TH := Lib.hid (fun (w : World) (h : Has σ M2 w) => mThread_no h hM2 (t : Nat) (.inr (by rw [HJ.out.same _ _ _ hP2]; omega)))
      obtain rfl : t = tp.length := by omega
      have HM2 := Lib.hid hM2
      have HB2 := Lib.hid hB2
      have HP2 := Lib.hid hP2
      have HR2 := Lib.hid hR2
      clear hM2 hB2 hP2 hR2
      go_wp2_with (first
        | (go_at_call 12; refine (TH.out _ h).mono ?_; clear h; rintro _ w ⟨rfl, h⟩))
      go_ret
      exact ⟨rfl, M2, lab2, x2, s2, h, HM2.out, HB2.out, HJ.out.mono _ _ _ _ HP2.out (Nat.zero_le _), HR2.out⟩
end
section
open Go.RowKit
set_option linter.unusedVariables false
set_option linter.unusedSimpArgs false
set_option linter.unnecessarySimpa false

def okOf (c : Nat → Int) (t : Nat) : Prop := (c 1 ≤ (t : Int) → c (2 + t) = 0) ∧ 0 ≤ c (2 + t) ∧ c (2 + t) < c 0
theorem confMay_iff (c : Nat → Int) : ConfMay c ↔ (1 ≤ c 0 ∧ c 0 ≤ 4) ∧ (1 ≤ c 1 ∧ c 1 ≤ 8) ∧ (∀ t, t < 8 → okOf c t) ∧ (2 ≤ c 10 ∧ c 10 ≤ 60) ∧ (1 ≤ c 11 ∧ c 11 ≤ 40) ∧ (1 ≤ c 12 ∧ c 12 ≤ 1048576) ∧ (0 ≤ c 13 ∧ c 13 ≤ 60) := by
  unfold ConfMay okOf
  constructor
  · rintro ⟨h0, h1, h2, h3, h4, h5, h6, h7⟩
    refine ⟨h0, h1, fun t ht => ⟨fun hc => ?_, (h3 t ht).1, by have := h3 t ht; omega⟩, h4, h5, h6, h7⟩
    rw [h2 t ht, clearedOf, if_pos (by omega)]
  · rintro ⟨h0, h1, h2, h4, h5, h6, h7⟩
    refine ⟨h0, h1, fun t ht => ?_, fun t ht => ?_, h4, h5, h6, h7⟩
    · unfold clearedOf
      split
      · exact (h2 t ht).1 (by omega)
      · rfl
    · have := h2 t ht
      omega
theorem confMayB_false {c : Nat → Int} (h : ¬ ConfMay c) : confMayB c = false := decide_eq_false h

set_option maxHeartbeats 4000000 in
theorem refMay_has {σ w : World} {M : Mm} (h : Has σ M w) (c : Nat → Int) : Calls Try.prog 8 #[confV c] w fun e w' => e = .returned (.bool (confMayB c)) ∧ Has σ M w' := by
  have NO : Hid (¬ ConfMay c → confMayB c = false) := confMayB_false
  have YES : Hid (ConfMay c → confMayB c = true) := fun h => decide_eq_true h
  have IFF := Lib.hid (confMay_iff c)
  simp only [confV, ints14_lit]
  go_enter Try.func8, Try.ntmps8
  go_upto_region 1 with (fail)
  obtain ⟨M1, hbx, hle, hb, hn⟩ := h.box (.cells #[.int .i64 (c 0), .int .i64 (c 1), .int .i64 (c 2), .int .i64 (c 3), .int .i64 (c 4), .int .i64 (c 5), .int .i64 (c 6), .int .i64 (c 7), .int .i64 (c 8), .int .i64 (c 9), .int .i64 (c 10), .int .i64 (c 11), .int .i64 (c 12), .int .i64 (c 13)] 24)
  generalize w.alloc _ = wx at hbx ⊢
  generalize w.heap.size = b at hb hn ⊢
  clear h
  try clear w
  have h := hbx
  clear hbx
  obtain ⟨w, rfl⟩ : ∃ x : World, x = wx := ⟨_, rfl⟩
  have c0 : w.cell? ⟨b, 0, none⟩ = some (.int .i64 (c 0)) := h.cell hb 0
  have c1 : w.cell? ⟨b, 1, none⟩ = some (.int .i64 (c 1)) := h.cell hb 1
  by_cases hr : (1 ≤ c 0 ∧ c 0 ≤ 4) ∧ (1 ≤ c 1 ∧ c 1 ≤ 8)
  · obtain ⟨⟨r0, r1⟩, r2, r3⟩ := hr
    have q0 : ¬ c 0 < 1 := by omega
    have q1 : ¬ 4 < c 0 := by omega
    have q2 : ¬ c 1 < 1 := by omega
    have q3 : ¬ 8 < c 1 := by omega
    go_wp2
    clear c0 c1 q0 q1 q2 q3
    go_loopw [3] (fun i wr => ∃ k : Nat, k ≤ 8 ∧ i = .int .i64 k ∧ Has σ M1 wr ∧ ∀ t, t < k → okOf c t) (fun i _ => 8 - (intOf i).toNat)
    case atStart => exact ⟨0, by omega, rfl, h, fun t ht => absurd ht (by omega)⟩
    case round =>
      clear h w
      obtain ⟨w, rfl⟩ : ∃ x : World, x = wr := ⟨_, rfl⟩
      obtain ⟨k, hk, rfl, h, hall⟩ := hrel
      have HA := Lib.hid hall
      clear hall
      by_cases hlt : k < 8
      · have e0 : (#[.int .i64 (c 0), .int .i64 (c 1), .int .i64 (c 2), .int .i64 (c 3), .int .i64 (c 4), .int .i64 (c 5), .int .i64 (c 6), .int .i64 (c 7), .int .i64 (c 8), .int .i64 (c 9), .int .i64 (c 10), .int .i64 (c 11), .int .i64 (c 12), .int .i64 (c 13)] : Array Value)[0]? = some (.int .i64 (c 0)) := rfl
        have e1 : (#[.int .i64 (c 0), .int .i64 (c 1), .int .i64 (c 2), .int .i64 (c 3), .int .i64 (c 4), .int .i64 (c 5), .int .i64 (c 6), .int .i64 (c 7), .int .i64 (c 8), .int .i64 (c 9), .int .i64 (c 10), .int .i64 (c 11), .int .i64 (c 12), .int .i64 (c 13)] : Array Value)[1]? = some (.int .i64 (c 1)) := rfl
        have e2 : (#[.int .i64 (c 0), .int .i64 (c 1), .int .i64 (c 2), .int .i64 (c 3), .int .i64 (c 4), .int .i64 (c 5), .int .i64 (c 6), .int .i64 (c 7), .int .i64 (c 8), .int .i64 (c 9), .int .i64 (c 10), .int .i64 (c 11), .int .i64 (c 12), .int .i64 (c 13)] : Array Value)[2 + k]? = some (.int .i64 (c (2 + k))) := by rw [← ints14_lit, ints_get (by omega)]
        have OK : Hid (okOf c k ↔ (c 1 ≤ (k : Int) → c (2 + k) = 0) ∧ 0 ≤ c (2 + k) ∧ c (2 + k) < c 0) := Iff.rfl
        generalize c (2 + k) = x at e2 OK
        generalize (#[.int .i64 (c 0), .int .i64 (c 1), .int .i64 (c 2), .int .i64 (c 3), .int .i64 (c 4), .int .i64 (c 5), .int .i64 (c 6), .int .i64 (c 7), .int .i64 (c 8), .int .i64 (c 9), .int .i64 (c 10), .int .i64 (c 11), .int .i64 (c 12), .int .i64 (c 13)] : Array Value) = cs at hb e0 e1 e2
        go_upto_region 6 with (fail)
        by_cases hok : okOf c k
        · obtain ⟨p1, p2, p3⟩ := OK.out.1 hok
          have HN : Hid (∀ t, t < k + 1 → okOf c t) := fun t ht => by
            rcases Nat.lt_or_ge t k with h1 | h1
            · exact HA.out t h1
            · obtain rfl : t = k := by omega
              exact hok
          have n2 : ¬ x < 0 := by omega
          have n3 : ¬ c 0 ≤ x := by omega
          clear hok
          by_cases hc1 : c 1 ≤ (k : Int)
          · have hx0 := p1 hc1
            clear p1
            have hx0' : (x != 0) = false := by simp [hx0]
            have H0 := Lib.hid hx0
            clear hx0
            refine wp_region_class (Has σ M1) (by kernel_rfl) (by kernel_rfl) h.drew ?_
            clear h
            repeat (first
              | go_big_quiet_skip
              | (go_big_quiet_want; first
                | (refine quiet_load_has 3 _ rfl rfl hb e0 Try.underlying3 rfl ?_; simp only [Act.put, List.setIfInBounds_toArray, List.set_cons_zero, List.set_cons_succ]; go_big_quiet_on)
                | (refine quiet_load_has 3 _ rfl rfl hb e1 Try.underlying3 rfl ?_; simp only [Act.put, List.setIfInBounds_toArray, List.set_cons_zero, List.set_cons_succ]; go_big_quiet_on)
                | (refine quiet_load_has 3 _ rfl rfl hb e2 Try.underlying3 rfl ?_; simp only [Act.put, List.setIfInBounds_toArray, List.set_cons_zero, List.set_cons_succ]; go_big_quiet_on)
                | (go_big_quiet_op; first | go_big_quiet_on | go_big_quiet_call (first | with_reducible exact fun _ => rfl))))
            refine wpQuiet_nil ?_
            try clear w
            intro w h
            go_wp2
            go_roundw
            case rel => exact ⟨k + 1, by omega, by go_num, h, HN.out⟩
            case measure => simp [intOf]; omega
          · clear p1
            refine wp_region_class (Has σ M1) (by kernel_rfl) (by kernel_rfl) h.drew ?_
            clear h
            repeat (first
              | go_big_quiet_skip
              | (go_big_quiet_want; first
                | (refine quiet_load_has 3 _ rfl rfl hb e0 Try.underlying3 rfl ?_; simp only [Act.put, List.setIfInBounds_toArray, List.set_cons_zero, List.set_cons_succ]; go_big_quiet_on)
                | (refine quiet_load_has 3 _ rfl rfl hb e1 Try.underlying3 rfl ?_; simp only [Act.put, List.setIfInBounds_toArray, List.set_cons_zero, List.set_cons_succ]; go_big_quiet_on)
                | (refine quiet_load_has 3 _ rfl rfl hb e2 Try.underlying3 rfl ?_; simp only [Act.put, List.setIfInBounds_toArray, List.set_cons_zero, List.set_cons_succ]; go_big_quiet_on)
                | (go_big_quiet_op; first | go_big_quiet_on | go_big_quiet_call (first | with_reducible exact fun _ => rfl))))
            refine wpQuiet_nil ?_
            try clear w
            intro w h
            go_wp2
            go_roundw
            case rel => exact ⟨k + 1, by omega, by go_num, h, HN.out⟩
            case measure => simp [intOf]; omega
        · have N := Lib.hid (NO.out fun h1 => hok ((IFF.out.1 h1).2.2.1 k hlt))
          have hcase : (c 1 ≤ (k : Int) ∧ x ≠ 0) ∨ ((c 1 ≤ (k : Int) → x = 0) ∧ x < 0) ∨ ((c 1 ≤ (k : Int) → x = 0) ∧ ¬ x < 0 ∧ c 0 ≤ x) := by
            by_cases a1 : c 1 ≤ (k : Int) ∧ x ≠ 0
            · exact .inl a1
            · by_cases a2 : x < 0
              · exact .inr (.inl ⟨fun h1 => Classical.byContradiction fun h2 => a1 ⟨h1, h2⟩, a2⟩)
              · refine .inr (.inr ⟨fun h1 => Classical.byContradiction fun h2 => a1 ⟨h1, h2⟩, a2, ?_⟩)
                apply Classical.byContradiction
                intro h3
                exact hok (OK.out.2 ⟨fun h1 => Classical.byContradiction fun h2 => a1 ⟨h1, h2⟩, by omega, by omega⟩)
          clear hok
          rcases hcase with ⟨a1, a2⟩ | ⟨a1, a2⟩ | ⟨a1, a2, a3⟩
          · have hx0' : (x != 0) = true := by simpa using a2
            clear a2
            refine wp_region_class (Has σ M1) (by kernel_rfl) (by kernel_rfl) h.drew ?_
            clear h
            repeat (first
              | go_big_quiet_skip
              | (go_big_quiet_want; first
                | (refine quiet_load_has 3 _ rfl rfl hb e0 Try.underlying3 rfl ?_; simp only [Act.put, List.setIfInBounds_toArray, List.set_cons_zero, List.set_cons_succ]; go_big_quiet_on)
                | (refine quiet_load_has 3 _ rfl rfl hb e1 Try.underlying3 rfl ?_; simp only [Act.put, List.setIfInBounds_toArray, List.set_cons_zero, List.set_cons_succ]; go_big_quiet_on)
                | (refine quiet_load_has 3 _ rfl rfl hb e2 Try.underlying3 rfl ?_; simp only [Act.put, List.setIfInBounds_toArray, List.set_cons_zero, List.set_cons_succ]; go_big_quiet_on)
                | (go_big_quiet_op; first | go_big_quiet_on | go_big_quiet_call (first | with_reducible exact fun _ => rfl))))
            refine wpQuiet_nil ?_
            try clear w
            intro w h
            go_wp2
            go_ret
            exact ⟨by rw [N.out]; rfl, h.le hle⟩
          · by_cases hc1 : c 1 ≤ (k : Int)
            · have hx0 := a1 hc1
              omega
            · clear a1
              refine wp_region_class (Has σ M1) (by kernel_rfl) (by kernel_rfl) h.drew ?_
              clear h
              repeat (first
                | go_big_quiet_skip
                | (go_big_quiet_want; first
                  | (refine quiet_load_has 3 _ rfl rfl hb e0 Try.underlying3 rfl ?_; simp only [Act.put, List.setIfInBounds_toArray, List.set_cons_zero, List.set_cons_succ]; go_big_quiet_on)
                  | (refine quiet_load_has 3 _ rfl rfl hb e1 Try.underlying3 rfl ?_; simp only [Act.put, List.setIfInBounds_toArray, List.set_cons_zero, List.set_cons_succ]; go_big_quiet_on)
                  | (refine quiet_load_has 3 _ rfl rfl hb e2 Try.underlying3 rfl ?_; simp only [Act.put, List.setIfInBounds_toArray, List.set_cons_zero, List.set_cons_succ]; go_big_quiet_on)
                  | (go_big_quiet_op; first | go_big_quiet_on | go_big_quiet_call (first | with_reducible exact fun _ => rfl))))
              refine wpQuiet_nil ?_
              try clear w
              intro w h
              go_wp2
              go_ret
              exact ⟨by rw [N.out]; rfl, h.le hle⟩
          · by_cases hc1 : c 1 ≤ (k : Int)
            · have hx0 := a1 hc1
              omega
            · clear a1
              refine wp_region_class (Has σ M1) (by kernel_rfl) (by kernel_rfl) h.drew ?_
              clear h
              repeat (first
                | go_big_quiet_skip
                | (go_big_quiet_want; first
                  | (refine quiet_load_has 3 _ rfl rfl hb e0 Try.underlying3 rfl ?_; simp only [Act.put, List.setIfInBounds_toArray, List.set_cons_zero, List.set_cons_succ]; go_big_quiet_on)
                  | (refine quiet_load_has 3 _ rfl rfl hb e1 Try.underlying3 rfl ?_; simp only [Act.put, List.setIfInBounds_toArray, List.set_cons_zero, List.set_cons_succ]; go_big_quiet_on)
                  | (refine quiet_load_has 3 _ rfl rfl hb e2 Try.underlying3 rfl ?_; simp only [Act.put, List.setIfInBounds_toArray, List.set_cons_zero, List.set_cons_succ]; go_big_quiet_on)
                  | (go_big_quiet_op; first | go_big_quiet_on | go_big_quiet_call (first | with_reducible exact fun _ => rfl))))
              refine wpQuiet_nil ?_
              try clear w
              intro w h
              go_wp2
              go_ret
              exact ⟨by rw [N.out]; rfl, h.le hle⟩
      · obtain rfl : k = 8 := by omega
        have c10 : w.cell? ⟨b, 10, none⟩ = some (.int .i64 (c 10)) := h.cell hb 10
        have c11 : w.cell? ⟨b, 11, none⟩ = some (.int .i64 (c 11)) := h.cell hb 11
        have c12 : w.cell? ⟨b, 12, none⟩ = some (.int .i64 (c 12)) := h.cell hb 12
        have c13 : w.cell? ⟨b, 13, none⟩ = some (.int .i64 (c 13)) := h.cell hb 13
        have hmay : confMayB c = decide ((2 ≤ c 10 ∧ c 10 ≤ 60) ∧ (1 ≤ c 11 ∧ c 11 ≤ 40) ∧ (1 ≤ c 12 ∧ c 12 ≤ 1048576) ∧ (0 ≤ c 13 ∧ c 13 ≤ 60)) := by
          by_cases hm : (2 ≤ c 10 ∧ c 10 ≤ 60) ∧ (1 ≤ c 11 ∧ c 11 ≤ 40) ∧ (1 ≤ c 12 ∧ c 12 ≤ 1048576) ∧ (0 ≤ c 13 ∧ c 13 ≤ 60)
          · rw [YES.out (IFF.out.2 ⟨⟨r0, r1⟩, ⟨r2, r3⟩, HA.out, hm⟩), decide_eq_true hm]
          · rw [NO.out fun h1 => hm (IFF.out.1 h1).2.2.2, decide_eq_false hm]
        have HM := Lib.hid hmay
        clear hmay
        generalize c 10 = x at c10 HM
        generalize c 11 = y at c11 HM
        generalize c 12 = z at c12 HM
        generalize c 13 = v at c13 HM
        by_cases b1 : x < 2
        · go_wp2
          go_ret
          exact ⟨by rw [HM.out, decide_eq_false (by omega)]; rfl, h.le hle⟩
        · skip
          by_cases b2 : 60 < x
          · go_wp2
            go_ret
            exact ⟨by rw [HM.out, decide_eq_false (by omega)]; rfl, h.le hle⟩
          · skip
            by_cases b3 : y < 1
            · go_wp2
              go_ret
              exact ⟨by rw [HM.out, decide_eq_false (by omega)]; rfl, h.le hle⟩
            · skip
              by_cases b4 : 40 < y
              · go_wp2
                go_ret
                exact ⟨by rw [HM.out, decide_eq_false (by omega)]; rfl, h.le hle⟩
              · skip
                by_cases b5 : ¬ 1 ≤ z
                · go_wp2
                  go_ret
                  exact ⟨by rw [HM.out, decide_eq_false (by omega)]; rfl, h.le hle⟩
                · skip
                  by_cases b6 : ¬ z ≤ 1048576
                  · go_wp2
                    go_ret
                    exact ⟨by rw [HM.out, decide_eq_false (by omega)]; rfl, h.le hle⟩
                  · skip
                    by_cases b7 : ¬ 0 ≤ v
                    · go_wp2
                      go_ret
                      exact ⟨by rw [HM.out, decide_eq_false (by omega)]; rfl, h.le hle⟩
                    · skip
                      by_cases b8 : ¬ v ≤ 60
                      · go_wp2
                        go_ret
                        exact ⟨by rw [HM.out, decide_eq_false (by omega)]; rfl, h.le hle⟩
                      · skip
                        go_wp2
                        go_ret
                        exact ⟨by rw [HM.out, decide_eq_true (by omega)]; rfl, h.le hle⟩
  · skip
    by_cases b1 : c 0 < 1
    · have N := Lib.hid (NO.out fun h1 => by have := IFF.out.1 h1; omega)
      go_wp2
      go_ret
      exact ⟨by rw [N.out]; rfl, h.le hle⟩
    · skip
      by_cases b2 : 4 < c 0
      · have N := Lib.hid (NO.out fun h1 => by have := IFF.out.1 h1; omega)
        go_wp2
        go_ret
        exact ⟨by rw [N.out]; rfl, h.le hle⟩
      · skip
        by_cases b3 : c 1 < 1
        · have N := Lib.hid (NO.out fun h1 => by have := IFF.out.1 h1; omega)
          go_wp2
          go_ret
          exact ⟨by rw [N.out]; rfl, h.le hle⟩
        · skip
          by_cases b4 : 8 < c 1
          · have N := Lib.hid (NO.out fun h1 => by have := IFF.out.1 h1; omega)
            go_wp2
            go_ret
            exact ⟨by rw [N.out]; rfl, h.le hle⟩
          · skip
            omega
end
section
open Go.RowKit
set_option linter.unusedVariables false
set_option linter.unusedSimpArgs false
set_option linter.unnecessarySimpa false
def exS : Nat → Int := fun i => if i = 0 then 1 else if i = 1 then 1 else if i = 10 then 3 else if i = 11 then 1 else if i = 12 then 9 else 0
theorem exS_may : ConfMay exS := by decide
theorem exS_nums : Nums exS 1 1 3 := ⟨rfl, rfl, rfl, by omega, by omega, by omega⟩
theorem CanTake.again {s S : MachS} {t q lv : Nat} (h : CanTake s t q lv) (hc : S.c = s.c) (htp : S.tp = s.tp) (hN : S.mem.N = s.mem.N) (ht : ∃ f, S.thr t = { s.thr t with told := f }) (ha : S.mem.acc < 100000000) (hw : S.mem.wr < 100000000) (hs : S.steps < 100000) (hk : ∀ k, S.clk k < 100000000) : CanTake S t q lv := by
  obtain ⟨f, ht⟩ := ht
  exact ⟨by rw [hc]; exact h.may, by rw [hN, hc]; exact h.memN, by rw [htp]; exact h.tp, by rw [hc]; exact h.lvl, by rw [hc]; exact h.lvc, by rw [ht]; exact h.run, ha, hw, hs, hk, by rw [ht]; exact h.fr⟩
/-- One Take of the example: from S, in so many steps, to S', which tells v. -/
def Leg (σ : World) (K : Mm) (p q : Nat) (S S' : MachS) (v : Int) : Prop :=
  S.tp[0]? = some q ∧ S'.tp[0]? = some q ∧ (S.thr 0).frames.length < 1000000 ∧ (S'.thr 0).told 0 = v ∧ ∃ (St : Nat → MachS) (k : Nat), St 0 = S.begun 0 1 [] ∧ Trail σ K p 0 q (.func (.func 6) #[] #[]) (S.thr 0).frames.length St k ∧ 0 < k ∧ k ≤ 50 ∧ St k = S'
theorem three_legs {σ : World} (K : Mm) (p : Nat) {s : MachS} {q : Nat} (hN : s.New exS 1 1 3) (hw : s.ward.lv = s.c 0 ∧ s.ward.sl = s.c 10) (hq : s.tp[0]? = some q) : ∃ S1 S2 S3, Leg σ K p q s S1 2 ∧ Leg σ K p q S1 S2 3 ∧ Leg σ K p q S2 S3 0 := by
  obtain ⟨wb, hmem⟩ := hN.mem
  have hc := hN.c
  have c0 : CanTake s 0 q 0 := by
    refine ⟨by rw [hc]; exact exS_may, by rw [hmem, hc]; rfl, hq, by rw [hc]; decide, by rw [hc]; decide, by rw [hN.thr]; rfl, ?_, ?_, by rw [hN.steps]; decide, fun k => by rw [hN.clk]; show 0 < 100000000; omega, by rw [hN.thr]; decide⟩
    · rw [hmem]; show 0 < 100000000; decide
    · rw [hmem]; show 0 < 100000000; decide
  have A0 : (atK exS ((0 : Nat) : Int) 0 0 0).toNat = 0 := by decide
  have A12 : (atK exS ((0 : Nat) : Int) 8 ((2 : Nat) : Int) 0).toNat = 20 := by decide
  have A13 : (atK exS ((0 : Nat) : Int) 8 ((3 : Nat) : Int) 0).toNat = 21 := by decide
  have A32 : (atK exS ((0 : Nat) : Int) 9 ((2 : Nat) : Int) 0).toNat = 27 := by decide
  have A33 : (atK exS ((0 : Nat) : Int) 9 ((3 : Nat) : Int) 0).toNat = 32 := by decide
  have F : s.mem.f = wl 1 3 1 := by rw [hmem]; rfl
  have W : s.ward.lv = 1 ∧ s.ward.sl = 3 := by rw [hw.1, hw.2, hc]; exact ⟨rfl, rfl⟩
  obtain ⟨T1, t10, t11, K1⟩ := took_trail (σ := σ) K p c0 (X := 2) (Y := 3) (Z := 0) (sl := 2) (by rw [hc, A0, F]; decide) (by omega) (by decide) (by omega) (by rw [hc]; decide) (by rw [hc, A12, F]; decide) (by omega) (by rw [hc, A32, F]; decide) (by omega) (WardS.there_iff.2 ⟨by omega, by rw [W.1]; decide, by omega, by rw [W.2]; decide⟩) (by rw [hN.held.1]; decide)
  rw [hc, A0, show mkTop 3 (cutN 2 8 56 + 1) = 259 by decide] at K1
  obtain ⟨S1, hS1⟩ : ∃ S1, T1 4 = S1 := ⟨_, rfl⟩
  rw [hS1] at K1
  have ck1 : ∀ k, S1.clk k < 100000000 := fun k => by
    have := K1.clk k
    have h9 : s.clk k = 0 := by rw [hN.clk]
    omega
  have c1 : CanTake S1 0 q 0 := c0.again K1.c K1.tp K1.N ⟨_, K1.thr⟩ (by rw [K1.acc, hmem]; show 0 + 4 < 100000000; decide) (by have := K1.wr; rw [hmem] at this; have h2 : S1.mem.wr ≤ 0 + 1 := this; omega) (by rw [K1.steps, hN.steps]; decide) (fun k => ck1 k)
  have F1 : S1.mem.f = upd (wl 1 3 1) 0 259 := by rw [K1.f, F]; rfl
  have D1 : S1.ward = s.ward.take ((0 : Nat) : Int) ((2 : Nat) : Int) := K1.ward
  have cS1 : S1.c = exS := K1.c.trans hc
  obtain ⟨T2, t20, t21, K2⟩ := took_trail (σ := σ) K p c1 (X := 259) (Y := 0) (Z := 0) (sl := 3) (by rw [cS1, A0, F1]; decide) (by omega) (by decide) (by omega) (by rw [cS1]; decide) (by rw [cS1, A13, F1]; decide) (by omega) (by rw [cS1, A33, F1]; decide) (by omega) (by rw [D1]; exact WardS.there_iff.2 ⟨by omega, by show _ < s.ward.lv; rw [W.1]; decide, by omega, by show _ ≤ s.ward.sl; rw [W.2]; decide⟩) (by rw [D1]; show valE _ _ (putE _ _ 1 s.ward.hclk s.ward.held) = 0; rw [hN.held.1, hN.held.2]; decide)
  rw [cS1, A0, show mkTop 0 (cutN 259 8 56 + 1) = 512 by decide] at K2
  obtain ⟨S2, hS2⟩ : ∃ S2, T2 4 = S2 := ⟨_, rfl⟩
  rw [hS2] at K2
  have ck2 : ∀ k, S2.clk k < 100000000 := fun k => by
    have h7 := K1.clk k
    have h8 := K2.clk k
    have h9 : s.clk k = 0 := by rw [hN.clk]
    omega
  have c2 : CanTake S2 0 q 0 := c1.again K2.c K2.tp K2.N ⟨_, K2.thr⟩ (by rw [K2.acc, K1.acc, hmem]; show 0 + 4 + 4 < 100000000; decide) (by have := K1.wr; have h3 := K2.wr; rw [hmem] at this; have h2 : S1.mem.wr ≤ 0 + 1 := this; omega) (by rw [K2.steps, K1.steps, hN.steps]; decide) (fun k => ck2 k)
  have F2 : S2.mem.f 0 = 512 := by rw [K2.f]; rfl
  have cS2 : S2.c = exS := K2.c.trans cS1
  obtain ⟨T3, t30, t31, K3⟩ := none_trail (σ := σ) K p c2 (X := 512) (by rw [cS2, A0, F2]; rfl) (by omega) (by decide)
  refine ⟨S1, S2, T3 2, ⟨hq, c1.tp, by have := c0.fr; omega, by rw [K1.thr]; rfl, T1, 4, t10, t11, by omega, by omega, hS1⟩, ⟨c1.tp, c2.tp, by have := c1.fr; omega, by rw [K2.thr]; rfl, T2, 4, t20, t21, by omega, by omega, hS2⟩, ⟨c2.tp, by rw [K3.tp]; exact c2.tp, by have := c2.fr; omega, by rw [K3.thr]; rfl, T3, 2, t30, t31, by omega, by omega, rfl⟩⟩
set_option maxHeartbeats 4000000 in
set_option maxRecDepth 20000 in
theorem lives_eq {σ w : World} {M : Mm} (h : Has σ M w) : Calls Try.prog 9 #[] w fun r w' => r = .returned (.bool true) ∧ Has σ M w' := by
  have NW := Lib.hid (fun (w : World) (h : Has σ M w) => mNew_yes h exS exS_may exS_nums)
  have EC : confV exS = .agg #[.int .i64 1, .int .i64 1, .int .i64 0, .int .i64 0, .int .i64 0, .int .i64 0, .int .i64 0, .int .i64 0, .int .i64 0, .int .i64 0, .int .i64 3, .int .i64 1, .int .i64 9, .int .i64 0] := rfl
  rw [EC] at NW
  clear EC
  go_enter Try.func9, Try.ntmps9
  go_upto_region 2 with (first
    | (go_at_call 7; refine (NW.out _ h).mono ?_; clear h; rintro _ w ⟨p, M1, lab, s, rfl, h, hB, hM, hN⟩))
  clear NW
  have hq0 : ∃ q, s.tp[0]? = some q := ⟨_, List.getElem?_eq_getElem (by have := hM.tlen; rw [hN.c] at this; have h2 : exS 1 = 1 := rfl; omega)⟩
  obtain ⟨q, hq⟩ := hq0
  obtain ⟨S1, S2, S3, G1, G2, G3⟩ := three_legs (σ := σ) M p hN hM.wsz hq
  have LG1 := Lib.hid G1
  have LG2 := Lib.hid G2
  have LG3 := Lib.hid G3
  have HM := Lib.hid hM
  have HB := Lib.hid hB
  clear G1 G2 G3 hM hB hN hq
  go_upto_region 5 with (fail)
  go_loopw [3] (fun u wr => ∃ (M5 : Mm) (lab5 : Nat → Nat), Has σ M5 wr ∧ Base M M5 lab5 ∧ ((u = .int .i64 2 ∧ Mach M5 lab5 p s) ∨ (u = .int .i64 3 ∧ Mach M5 lab5 p S1) ∨ (u = .int .i64 4 ∧ Mach M5 lab5 p S2) ∨ (u = .int .i64 5 ∧ Mach M5 lab5 p S3))) (fun u _ => 5 - (intOf u).toNat)
  case atStart => exact ⟨M1, lab, h, HB.out, .inl ⟨rfl, HM.out⟩⟩
  case round =>
    clear h w HM HB M1 lab
    obtain ⟨w, rfl⟩ : ∃ x : World, x = wr := ⟨_, rfl⟩
    obtain ⟨M5, lab5, h, hB5, ⟨rfl, hM5⟩ | ⟨rfl, hM5⟩ | ⟨rfl, hM5⟩ | ⟨rfl, hM5⟩⟩ := hrel
    · skip
      obtain ⟨l1, l2, l3, l4, St, k, l5, l6, l7, l8, l9⟩ := LG1.out
      have AL : Hid (∀ w : World, Has σ M5 w → Calls Try.prog 18 #[.pointer (some ⟨p, 0, none⟩), .int .i64 0, (.func (.func 6) #[] #[]), .int .i64 50, .int .i64 1, .slice none 0 0] w fun r w' => r = .returned (.int .i64 (k : Nat)) ∧ ∃ M' lab', Has σ M' w' ∧ Mach M' lab' p (St k) ∧ Base M M' lab') := Lib.hid fun w h => alone_eq (t := 0) (us := []) (most := 50) h hM5 hB5 l1 (Rd.nil _ _ _) (by simp) l3 1 l5 l7 l8 (by omega) l6
      rw [l9] at AL
      have L2 := Lib.hid l2
      have L4 := Lib.hid l4
      have gk : decide ((k : Int) < 0) = false := decide_eq_false (by omega)
      clear l1 l2 l3 l4 l5 l6 l7 l8 l9 hM5 hB5
      go_wp2_with (fail)
      go_at_call 18
      refine (AL.out _ h).mono ?_
      clear h
      rintro _ w ⟨rfl, M6, lab6, h, hM6, hB6⟩
      have HM6 := Lib.hid hM6
      have HB6 := Lib.hid hB6
      obtain ⟨fv, hv, fbs, hTh⟩ := hM6.each 0 q L2.out
      have htq := hTh.obj
      have TH : Hid (∀ w : World, Has σ M6 w → Calls Try.prog 12 #[.pointer (some ⟨p, 0, none⟩), .int .i64 0] w fun r w' => r = .returned (.pointer (some ⟨q, 0, none⟩)) ∧ Has σ M6 w') := Lib.hid fun w h => mThread_yes (t := 0) h HM6.out L2.out
      have d0 : (ThrS.row (MachS.thr S1 0) fv hv)[0]? = some (.int .u64 2) := by rw [← L4.out]; rfl
      generalize ThrS.row _ fv hv = trow at htq d0
      clear hM6 hB6 hTh
      go_wp2_with (first
        | (with_reducible show wpList _ _ _ ({ dst := _, op := Op.load 40 _, type := _, pos := _, after := _, guard := _ } :: _) _ _; refine wpList_load1_has h rfl 40 _ rfl rfl htq d0 Try.underlying40 rfl ?_)
        | ((go_at_call 12; refine (TH.out _ h).mono ?_; clear h; rintro _ w ⟨rfl, h⟩)))
      go_roundw
      case rel => exact ⟨M6, lab6, h, HB6.out, .inr (.inl ⟨rfl, HM6.out⟩)⟩
      case measure => simp [intOf]
    · skip
      obtain ⟨l1, l2, l3, l4, St, k, l5, l6, l7, l8, l9⟩ := LG2.out
      have AL : Hid (∀ w : World, Has σ M5 w → Calls Try.prog 18 #[.pointer (some ⟨p, 0, none⟩), .int .i64 0, (.func (.func 6) #[] #[]), .int .i64 50, .int .i64 1, .slice none 0 0] w fun r w' => r = .returned (.int .i64 (k : Nat)) ∧ ∃ M' lab', Has σ M' w' ∧ Mach M' lab' p (St k) ∧ Base M M' lab') := Lib.hid fun w h => alone_eq (t := 0) (us := []) (most := 50) h hM5 hB5 l1 (Rd.nil _ _ _) (by simp) l3 1 l5 l7 l8 (by omega) l6
      rw [l9] at AL
      have L2 := Lib.hid l2
      have L4 := Lib.hid l4
      have gk : decide ((k : Int) < 0) = false := decide_eq_false (by omega)
      clear l1 l2 l3 l4 l5 l6 l7 l8 l9 hM5 hB5
      go_wp2_with (fail)
      go_at_call 18
      refine (AL.out _ h).mono ?_
      clear h
      rintro _ w ⟨rfl, M6, lab6, h, hM6, hB6⟩
      have HM6 := Lib.hid hM6
      have HB6 := Lib.hid hB6
      obtain ⟨fv, hv, fbs, hTh⟩ := hM6.each 0 q L2.out
      have htq := hTh.obj
      have TH : Hid (∀ w : World, Has σ M6 w → Calls Try.prog 12 #[.pointer (some ⟨p, 0, none⟩), .int .i64 0] w fun r w' => r = .returned (.pointer (some ⟨q, 0, none⟩)) ∧ Has σ M6 w') := Lib.hid fun w h => mThread_yes (t := 0) h HM6.out L2.out
      have d0 : (ThrS.row (MachS.thr S2 0) fv hv)[0]? = some (.int .u64 3) := by rw [← L4.out]; rfl
      generalize ThrS.row _ fv hv = trow at htq d0
      clear hM6 hB6 hTh
      go_wp2_with (first
        | (with_reducible show wpList _ _ _ ({ dst := _, op := Op.load 40 _, type := _, pos := _, after := _, guard := _ } :: _) _ _; refine wpList_load1_has h rfl 40 _ rfl rfl htq d0 Try.underlying40 rfl ?_)
        | ((go_at_call 12; refine (TH.out _ h).mono ?_; clear h; rintro _ w ⟨rfl, h⟩)))
      go_roundw
      case rel => exact ⟨M6, lab6, h, HB6.out, .inr (.inr (.inl ⟨rfl, HM6.out⟩))⟩
      case measure => simp [intOf]
    · skip
      obtain ⟨l1, l2, l3, l4, St, k, l5, l6, l7, l8, l9⟩ := LG3.out
      have AL : Hid (∀ w : World, Has σ M5 w → Calls Try.prog 18 #[.pointer (some ⟨p, 0, none⟩), .int .i64 0, (.func (.func 6) #[] #[]), .int .i64 50, .int .i64 1, .slice none 0 0] w fun r w' => r = .returned (.int .i64 (k : Nat)) ∧ ∃ M' lab', Has σ M' w' ∧ Mach M' lab' p (St k) ∧ Base M M' lab') := Lib.hid fun w h => alone_eq (t := 0) (us := []) (most := 50) h hM5 hB5 l1 (Rd.nil _ _ _) (by simp) l3 1 l5 l7 l8 (by omega) l6
      rw [l9] at AL
      have L2 := Lib.hid l2
      have L4 := Lib.hid l4
      have gk : decide ((k : Int) < 0) = false := decide_eq_false (by omega)
      clear l1 l2 l3 l4 l5 l6 l7 l8 l9 hM5 hB5
      go_wp2_with (fail)
      go_at_call 18
      refine (AL.out _ h).mono ?_
      clear h
      rintro _ w ⟨rfl, M6, lab6, h, hM6, hB6⟩
      have HM6 := Lib.hid hM6
      have HB6 := Lib.hid hB6
      obtain ⟨fv, hv, fbs, hTh⟩ := hM6.each 0 q L2.out
      have htq := hTh.obj
      have TH : Hid (∀ w : World, Has σ M6 w → Calls Try.prog 12 #[.pointer (some ⟨p, 0, none⟩), .int .i64 0] w fun r w' => r = .returned (.pointer (some ⟨q, 0, none⟩)) ∧ Has σ M6 w') := Lib.hid fun w h => mThread_yes (t := 0) h HM6.out L2.out
      have d0 : (ThrS.row (MachS.thr S3 0) fv hv)[0]? = some (.int .u64 0) := by rw [← L4.out]; rfl
      generalize ThrS.row _ fv hv = trow at htq d0
      clear hM6 hB6 hTh
      go_wp2_with (first
        | (with_reducible show wpList _ _ _ ({ dst := _, op := Op.load 40 _, type := _, pos := _, after := _, guard := _ } :: _) _ _; refine wpList_load1_has h rfl 40 _ rfl rfl htq d0 Try.underlying40 rfl ?_)
        | ((go_at_call 12; refine (TH.out _ h).mono ?_; clear h; rintro _ w ⟨rfl, h⟩)))
      go_roundw
      case rel => exact ⟨M6, lab6, h, HB6.out, .inr (.inr (.inr ⟨rfl, HM6.out⟩))⟩
      case measure => simp [intOf]
    · have hle := hB5.le
      go_wp2
      go_ret
      exact ⟨rfl, h.le hle⟩
end
section
open Go.RowKit
set_option linter.unusedVariables false
set_option linter.unusedSimpArgs false
set_option linter.unnecessarySimpa false
def lv0 (S : Nat) : LvG := ⟨2, fun i => if 2 ≤ i ∧ i < S then i + 1 else 0, fun i => if i = 1 then 1 else 0, fun i => i == 1⟩
def g00 (S : Nat) : StG := ⟨fun _ => lv0 S, fun _ => none, fun _ => 0, fun _ => 0⟩
theorem abs_first {c : Nat → Int} {L B S : Nat} {s : MachS} (hn : Nums c L B S) (hc : ConfMay c) (h : s.New c L B S) (hw : s.ward.lv = s.c 0 ∧ s.ward.sl = s.c 10) : AbsG c s.tp 0 s (g00 S) := by
  obtain ⟨wb, hm⟩ := h.mem
  have hb0 := hn.b0
  have hs0 := hn.s0
  have hl0 := hn.l0
  have hdm : ∀ l r, r < 18 + B + 6 * S → (l * (18 + B + 6 * S) + r) / (18 + B + 6 * S) = l ∧ (l * (18 + B + 6 * S) + r) % (18 + B + 6 * S) = r := fun l r hr => (idx_iff hr).1 rfl
  have hwl : ∀ l r, l < L → r < 18 + B + 6 * S → wl B S L (l * (18 + B + 6 * S) + r) = w0 B S S r := fun l r hl hr => by
    unfold wl
    rw [(hdm l r hr).1, (hdm l r hr).2, if_pos hl]
  have hf : s.mem.f = wl B S L := by rw [hm]; rfl
  refine ⟨h.c, hc, rfl, ?_, ?_, ?_, ?_, by rw [hm]; rfl, h.fault, by rw [hm]; exact Nat.le_refl _, by rw [hm]; exact Nat.le_refl _, by rw [h.steps]; exact Nat.le_refl _, fun k => by rw [h.clk]; exact Nat.le_refl _, by rw [h.given]; exact Nat.le_refl _⟩
  · rw [hm, hn.sz, hn.lev]; show ((L * (18 + B + 6 * S) : Nat) : Int) = _; push_cast; rfl
  · rw [hf]
    refine ⟨fun l hl => ?_, fun l i hl h1 h2 => ?_, fun l i hl h1 h2 => ?_, fun l i j hl h1 h2 h3 h4 => ?_⟩
    · rw [hn.lev] at hl
      rw [atK_nat hn l 0 0 0 0 (num_0 c), hwl l 0 (by omega) (by omega)]
      rfl
    · rw [hn.lev] at hl
      rw [hn.slo] at h2
      rw [atK_nat hn l 8 (i : Nat) 0 (18 + B + (i - 1)) (by rw [num_8, hn.lim]; omega), hwl l _ (by omega) (by omega)]
      show w0 B S S _ = ((if 2 ≤ i ∧ i < S then i + 1 else 0 : Nat) : Int)
      unfold w0
      by_cases hi : 2 ≤ i ∧ i < S
      · rw [if_neg (by omega), if_neg (by omega), if_neg (by omega), if_pos (by omega), if_pos hi]; omega
      · rw [if_neg (by omega), if_neg (by omega), if_neg (by omega), if_neg (by omega), if_neg hi]; rfl
    · rw [hn.lev] at hl
      rw [hn.slo] at h2
      rw [atK_nat hn l 9 (i : Nat) 0 (18 + B + S + (i - 1) * 5) (by rw [num_9', hn.lim, hn.slo]; omega), hwl l _ (by omega) (by omega)]
      show w0 B S S _ = ((if i = 1 then 1 else 0 : Nat) : Int)
      unfold w0
      by_cases hi : i = 1
      · rw [if_neg (by omega), if_neg (by omega), if_pos (by omega), if_pos hi]; rfl
      · rw [if_neg (by omega), if_neg (by omega), if_neg (by omega), if_neg (by omega), if_neg hi]; rfl
    · rw [hn.lev] at hl
      rw [hn.slo] at h2
      rw [atK_nat hn l 9 (i : Nat) (j : Nat) (18 + B + S + (i - 1) * 5 + j) (by rw [num_9, hn.lim, hn.slo]; omega), hwl l _ (by omega) (by omega)]
      unfold w0
      rw [if_neg (by omega), if_neg (by omega), if_neg (by omega), if_neg (by omega)]
  · refine ⟨by rw [hw.1, h.c], by rw [hw.2, h.c], fun l i h1 h2 h3 => ?_, ?_, ?_, fun l i => by rw [h.gens.1]; exact ⟨Int.le_refl _, Int.le_refl _⟩, h.slips⟩
    · rw [h.held.1, firstHeld_val]
      show _ = if (i == 1) = true then 1 else 0
      by_cases hi : i = 1
      · subst hi; rw [if_pos ⟨rfl, by omega, by rw [hn.lev] at h1; omega⟩]; rfl
      · rw [if_neg (by omega)]; simp [hi]
    · rw [h.held.1]
      unfold OnceE firstHeld
      rw [List.map_map]
      have : ((fun x : Ent => (x.l, x.s)) ∘ fun (l : Nat) => (⟨l, 1, 1, l⟩ : Ent)) = fun l : Nat => ((l : Int), (1 : Int)) := rfl
      rw [this]
      exact List.Pairwise.map _ (fun a b hab e => hab (by have := congrArg Prod.fst e; exact Int.ofNat_inj.1 this)) (List.nodup_range (n := L))
    · rw [h.gens.1]; exact ⟨fun x hx => by simp at hx, by simp⟩
  · exact ⟨fun t ht => by rw [h.thr]; rfl, fun t => by rw [h.thr]; rfl, fun t => by rw [h.thr]; exact ⟨rfl, rfl⟩⟩
theorem chain_first (S a : Nat) (h1 : 1 ≤ a) : ∀ m : Nat, a + m = S + 1 → (∀ i, a ≤ i → i < S → (lv0 S).lk i = i + 1) → (lv0 S).lk S = 0 → chainP (lv0 S).lk (if m = 0 then 0 else a) ((List.range m).map (· + a))
  | 0, _, _, _ => rfl
  | m + 1, he, hk, hz => by
    rw [List.range_succ_eq_map, List.map_cons, List.map_map, if_neg (by omega)]
    have ih := chain_first S (a + 1) (by omega) m (by omega) (fun i h2 h3 => hk i (by omega) h3) hz
    refine ⟨by omega, by omega, ?_⟩
    have e : List.map ((fun x => x + a) ∘ Nat.succ) (List.range m) = (List.range m).map (· + (a + 1)) := by
      apply List.map_congr_left
      intro x _
      show x + 1 + a = x + (a + 1)
      omega
    rw [e, Nat.zero_add]
    by_cases hm : m = 0
    · subst hm
      rw [if_pos rfl] at ih
      have : a = S := by omega
      rw [this, hz]; exact ih
    · rw [if_neg hm] at ih
      rw [hk a (Nat.le_refl _) (by omega)]; exact ih
def ow0 (_ i : Nat) : Nat × Nat := if i = 1 then (0, 0) else (1, 0)
theorem ginv_first {S gens NL T : Nat} {lev hl : Nat → Nat} (hS : 2 ≤ S) (hg : 1 ≤ gens) : GInv S gens NL T lev hl 0 (g00 S) (fun _ => slots (S - 1)) ow0 (fun _ => []) (fun _ => []) := by
  refine ⟨fun l _ => ?_, fun t _ F h => (by cases h), fun j => ⟨List.nodup_nil, fun x h => (by cases h)⟩, fun l _ => ⟨fun x gn h => (by cases h)⟩⟩
  have hc := chain_first S 2 (by omega) (S - 1) (by omega) (fun i h1 h2 => if_pos ⟨h1, h2⟩) (if_neg (by omega))
  rw [if_neg (by omega)] at hc
  have hc' : chainP (lv0 S).lk (slOf 2) (slots (S - 1)) := by rw [show slOf 2 = 2 by decide]; exact hc
  refine ⟨hc', ?_, fun x => ?_, (by decide : 2 < 18446744073709551616), (by decide : cnt 2 ≤ 0), fun i h1 h2 => ?_, fun i h1 h2 => ?_, fun i h1 h2 h => ?_, fun i h1 h2 h => ?_, fun i h1 h2 h => ?_, fun i h1 h2 => ?_⟩
  · exact List.Pairwise.map _ (fun a b hab e => hab (by omega)) (List.nodup_range (n := S - 1))
  · unfold slots ow0
    rw [List.mem_map]
    constructor
    · rintro ⟨y, hy, rfl⟩
      have := List.mem_range.1 hy
      refine ⟨by omega, by omega, ?_⟩
      rw [if_neg (by omega)]
    · rintro ⟨a, b, d⟩
      by_cases hx : x = 1
      · rw [if_pos hx] at d; cases d
      · exact ⟨x - 2, List.mem_range.2 (by omega), by omega⟩
  · show (if 2 ≤ i ∧ i < S then i + 1 else 0) ≤ S
    split <;> omega
  · show (if i = 1 then 1 else 0) < _ ∧ genOf (if i = 1 then 1 else 0) ≤ 0
    split
    · exact ⟨by decide, by decide⟩
    · exact ⟨by decide, by decide⟩
  · unfold ow0 at h
    split at h <;> (rcases h with h | h | h <;> cases h)
  · unfold ow0 at h
    by_cases hi : i = 1
    · rw [if_pos hi] at h; rcases h with h | h <;> cases h
    · show (i == 1) = false ∧ (if i = 1 then 1 else 0) % 4 = 0 ∧ genOf (if i = 1 then 1 else 0) < gens
      rw [if_neg hi]
      exact ⟨by simp [hi], rfl, hg⟩
  · left
    unfold ow0 at h
    by_cases hi : i = 1
    · subst hi; rfl
    · rw [if_neg hi] at h; cases h
  · unfold ow0
    split <;> simp
/-- Each slot's generation, as the document counts it. -/
structure GensI (S : Nat) (V : LvG) (gl : List Nat) : Prop where
  len : gl.length = S
  all : ∀ i, 1 ≤ i → i ≤ S → gl[i - 1]? = some (genOf (V.hd i))
theorem gens_first (S : Nat) : GensI S (lv0 S) (List.replicate S 0) := by
  refine ⟨by simp, fun i h1 h2 => ?_⟩
  rw [List.getElem?_replicate, if_pos (by omega)]
  show some 0 = some (genOf (if i = 1 then 1 else 0))
  split <;> rfl
theorem GensI.same {S : Nat} {V V2 : LvG} {gl : List Nat} (h : GensI S V gl) (e : V2.hd = V.hd) : GensI S V2 gl := ⟨h.len, fun i a b => by rw [e]; exact h.all i a b⟩
theorem GensI.more {S x : Nat} {V V2 : LvG} {gl : List Nat} (h : GensI S V gl) (x1 : 1 ≤ x) (x2 : x ≤ S) (e : ∀ i, genOf (V2.hd i) = if i = x then genOf (V.hd i) + 1 else genOf (V.hd i)) : GensI S V2 (gl.set (x - 1) (genOf (V.hd x) + 1)) := by
  refine ⟨by rw [List.length_set]; exact h.len, fun i a b => ?_⟩
  rw [e, List.getElem?_set]
  by_cases hi : i = x
  · subst hi; rw [if_pos rfl, if_pos rfl, if_pos (by rw [h.len]; omega)]
  · rw [if_neg (by omega), if_neg hi]; exact h.all i a b
def encF (x : Value × Value) : List Value := [x.1, x.2]
theorem encF_len (x : Value × Value) : (encF x).length = 2 := rfl
theorem map_set {α : Type} (f : Nat → α) (n k : Nat) (y : α) : ((List.range n).map f).set k y = (List.range n).map (put1 f k y) := by
  apply List.ext_getElem?
  intro i
  rw [List.getElem?_set, List.getElem?_map, List.getElem?_map]
  by_cases hi : i < n
  · rw [List.getElem?_range hi]
    by_cases e : k = i
    · subst e; rw [if_pos rfl, if_pos (by simpa using hi)]; simp [put1]
    · rw [if_neg e]; simp [put1, show ¬ i = k from fun h => e h.symm]
  · rw [List.getElem?_eq_none (by simpa using hi)]
    simp [hi]
    omega
/-- What the law knows besides: rows of its own. -/
structure LawA (K : Mm) (labK : Nat → Nat) (NL S kx : Nat) (xv hv : Value) (fx : Nat → Value × Value) (fh : Nat → Value) (L had gl : Nat → List Nat) : Prop where
  xrow : Row K labK 1 49 2 xv kx (((List.range kx).map fx).flatMap encF)
  xl : ∀ k, k < kx → Rd (stable K labK) 1 (fx k).1 (L k).length (natv (L k))
  xg : ∀ k, k < kx → Rd (stable K labK) 1 (fx k).2 S (natv (gl k))
  hrow : Row K labK 2 47 1 hv NL ((List.range NL).map fh)
  each : ∀ k, k < NL → Row K labK (10 + k) 3 1 (fh k) (had k).length (natv (had k))
theorem LawA.keep {K K' : Mm} {labK labK' : Nat → Nat} {NL S kx : Nat} {xv hv : Value} {fx : Nat → Value × Value} {fh : Nat → Value} {L had gl : Nat → List Nat} (h : LawA K labK NL S kx xv hv fx fh L had gl) (hK : Kp Non K labK K' labK') : LawA K' labK' NL S kx xv hv fx fh L had gl :=
  ⟨h.xrow.keep hK (fun h => h), fun k hk => (h.xl k hk).le (stable_kp hK fun h => h), fun k hk => (h.xg k hk).le (stable_kp hK fun h => h), h.hrow.keep hK (fun h => h), fun k hk => (h.each k hk).keep hK (fun h => h)⟩
theorem outK_self {K M : Mm} {labK : Nat → Nat} {j : Nat} (h : ∀ c o, K c = some o → labK c ≠ j) : outK K M labK j = M := by
  funext c
  unfold outK
  cases e : K c with
  | none => rfl
  | some o => simp only [if_neg (h c o e)]
section
variable {K K' M : Mm} {labK labK' : Nat → Nat} {NL S kx k : Nat} {xv hv v : Value} {fx : Nat → Value × Value} {fh : Nat → Value} {L had gl : Nat → List Nat} {uL uG : Value} {l2 g2 h2 : List Nat}
/-- One document's state more. -/
theorem LawA.push (h : LawA K labK NL S kx xv hv fx fh L had gl) (hK : Kp (fun j => j = 1) K labK K' labK') (hr : Row K' labK' 1 49 2 v (kx + 1) (((List.range kx).map fx).flatMap encF ++ [uL, uG])) (hL : Rd (stable K labK) 1 uL (L kx).length (natv (L kx))) (hG : Rd (stable K labK) 1 uG S (natv (gl kx))) : LawA K' labK' NL S (kx + 1) v hv (put1 fx kx (uL, uG)) fh L had gl := by
  have hs := stable_kp hK (by omega)
  refine ⟨?_, fun k hk => ?_, fun k hk => ?_, h.hrow.keep hK (by omega), fun k hk => (h.each k hk).keep hK (by omega)⟩
  · have e : (List.range (kx + 1)).map (put1 fx kx (uL, uG)) = (List.range kx).map fx ++ [(uL, uG)] := by
      rw [List.range_succ, List.map_append]
      congr 1
      · apply List.map_congr_left
        intro x hx
        exact put1_ne (by have := List.mem_range.1 hx; omega)
      · show [put1 fx kx (uL, uG) kx] = _
        rw [put1_same]
    rw [e, List.flatMap_append]
    exact hr
  · by_cases e : k = kx
    · subst e; rw [put1_same]; exact hL.le hs
    · rw [put1_ne e]; exact (h.xl k (by omega)).le hs
  · by_cases e : k = kx
    · subst e; rw [put1_same]; exact hG.le hs
    · rw [put1_ne e]; exact (h.xg k (by omega)).le hs
/-- A document's state is another one. -/
theorem LawA.setX (h : LawA K labK NL S kx xv hv fx fh L had gl) (hK : Kp (fun j => j = 1) K labK K' labK') (hr : Row K' labK' 1 49 2 v kx ((((List.range kx).map fx).set k (uL, uG)).flatMap encF)) (hL : Rd (stable K labK) 1 uL l2.length (natv l2)) (hG : Rd (stable K labK) 1 uG S (natv g2)) : LawA K' labK' NL S kx v hv (put1 fx k (uL, uG)) fh (put1 L k l2) had (put1 gl k g2) := by
  have hs := stable_kp hK (by omega)
  refine ⟨by rw [← map_set]; exact hr, fun i hi => ?_, fun i hi => ?_, h.hrow.keep hK (by omega), fun k hk => (h.each k hk).keep hK (by omega)⟩
  · by_cases e : i = k
    · subst e; rw [put1_same, put1_same]; exact hL.le hs
    · rw [put1_ne e, put1_ne e]; exact (h.xl i hi).le hs
  · by_cases e : i = k
    · subst e; rw [put1_same, put1_same]; exact hG.le hs
    · rw [put1_ne e, put1_ne e]; exact (h.xg i hi).le hs
/-- What a level had is another row, in two steps: the row itself, then its place. -/
theorem LawA.setH {K2 : Mm} {labK2 : Nat → Nat} (h : LawA K labK NL S kx xv hv fx fh L had gl) (hk : k < NL) (hK : Kp (fun j => j = 10 + k) K labK K' labK') (hr : Row K' labK' (10 + k) 3 1 v h2.length (natv h2)) (hK2 : Kp (fun j => j = 2) K' labK' K2 labK2) {hv2 : Value} (hr2 : Row K2 labK2 2 47 1 hv2 NL (((List.range NL).map fh).set k v)) : LawA K2 labK2 NL S kx xv hv2 fx (put1 fh k v) L (put1 had k h2) gl := by
  have hs := stable_kp hK (by omega)
  have hs2 := stable_kp hK2 (by omega)
  refine ⟨(h.xrow.keep hK (by omega)).keep hK2 (by omega), fun i hi => ((h.xl i hi).le hs).le hs2, fun i hi => ((h.xg i hi).le hs).le hs2, by rw [← map_set]; exact hr2, fun i hi => ?_⟩
  by_cases e : i = k
  · subst e; rw [put1_same, put1_same]; exact hr.keep hK2 (by omega)
  · rw [put1_ne e, put1_ne e]; exact ((h.each i hi).keep hK (by omega)).keep hK2 (by omega)
end
def levT (c : Nat → Int) (t : Nat) : Nat := (levelOf c t).toNat
theorem levT_of {c : Nat → Int} {L B S T : Nat} (hc : ConfMay c) (hn : Nums c L B S) (hT : c 1 = (T : Nat)) {t : Nat} (ht : t < T) : levelOf c (t : Nat) = (levT c t : Nat) ∧ levT c t < L := by
  obtain ⟨_, ⟨a3, a4⟩, _, a5, _⟩ := id hc
  have h8 := a5 t (by omega)
  have hl : levelOf c (t : Nat) = c (2 + t) := by
    unfold levelOf
    rw [if_pos ⟨decide_eq_true hc, by omega, by omega⟩, Int.toNat_natCast]
  have hlev := hn.lev
  unfold levT
  rw [hl]
  omega
theorem levT_out {c : Nat → Int} {T : Nat} (hT : c 1 = (T : Nat)) {t : Int} (ht : ¬ (0 ≤ t ∧ t < T)) : levelOf c t = -1 := by
  unfold levelOf
  exact if_neg fun g => ht ⟨g.2.1, by have := g.2.2; omega⟩
/-- What always holds between StockAlone's routines. -/
structure AlInv (c : Nat → Int) (S gens L T : Nat) (tp : List Nat) (i : Nat) (s : MachS) (Lf had gl : Nat → List Nat) : Prop where
  all : ∃ a m g ow ev, a ≤ 11 * i ∧ AbsG c tp a s g ∧ m ≤ 12 * i ∧ GInv S gens L T (levT c) id m g Lf ow had ev ∧ (∀ t, t < T → g.thr t = none) ∧ (∀ l, l < L → GensI S (g.lv l) (gl l)) ∧ OwAll ow
theorem AlInv.mono {c : Nat → Int} {S gens L T : Nat} {tp : List Nat} {i j : Nat} {s : MachS} {Lf had gl : Nat → List Nat} (h : AlInv c S gens L T tp i s Lf had gl) (hij : i ≤ j) : AlInv c S gens L T tp j s Lf had gl := by
  obtain ⟨a, m, g, ow, ev, h1, h2, h3, h4, h5, h6⟩ := h.all
  exact ⟨⟨a, m, g, ow, ev, by omega, h2, by omega, h4, h5, h6⟩⟩
theorem AlInv.first {c : Nat → Int} {L B S gens T : Nat} {s : MachS} (hn : Nums c L B S) (hc : ConfMay c) (hg : c 12 = (gens : Nat)) (h : s.New c L B S) (hw : s.ward.lv = s.c 0 ∧ s.ward.sl = s.c 10) : AlInv c S gens L T s.tp 0 s (fun _ => slots (S - 1)) (fun _ => []) (fun _ => List.replicate S 0) :=
  ⟨⟨0, 0, g00 S, ow0, _, Nat.le_refl _, abs_first hn hc h hw, Nat.le_refl _, ginv_first hn.s0.1 (by have := hc.2.2.2.2.2.2.1.1; omega), fun _ _ => rfl, fun _ _ => gens_first S, fun l i => by unfold ow0; split <;> decide⟩⟩
/-- The generation that Take tells. -/
def toldG (V : LvG) (l : List Nat) : Nat := match l with | [] => 0 | x :: _ => genOf (V.hd x)
theorem refTake_any {σ w : World} {M : Mm} {vL vG : Value} {S : Nat} {l gl : List Nat} {V : LvG} (h : Has σ M w) (hL : Rd M 1 vL l.length (natv l)) (hG : Rd M 1 vG S (natv gl)) (hg : GensI S V gl) (hl : ∀ x ∈ l, 1 ≤ x ∧ x ≤ S) (hS : S ≤ 60) :
    Calls Try.prog 19 #[.agg #[vL, vG]] w fun e w' => ∃ u, e = .returned (.tuple #[.agg #[u, vG], .int .i64 (l.headD 0 : Nat), .int .i64 (toldG V l : Nat)]) ∧ Has σ M w' ∧ (∀ K : Mm, Rd K 1 vL l.length (natv l) → Rd K 1 u l.tail.length (natv l.tail)) := by
  cases l with
  | nil => exact (refTake_no h hL hG).mono fun e w' ⟨a, b⟩ => ⟨vL, a, b, fun K hK => hK⟩
  | cons x r =>
    obtain ⟨x1, x2⟩ := hl x List.mem_cons_self
    refine (refTake_yes h hL hG x1 x2 (by omega) (hg.all x x1 x2)).mono fun e w' hq => ?_
    obtain ⟨u, a, b, _, d⟩ := hq
    exact ⟨u, a, b, d⟩
/-- Take alone, as the law has it. -/
theorem take_law {σ w : World} {K M : Mm} {lab : Nat → Nat} {p t q a m L B S gens T : Nat} {c : Nat → Int} {tp : List Nat} {s : MachS} {g : StG} {Lf had : Nat → List Nat} {ow : Nat → Nat → Nat × Nat} {ev : Nat → List (Nat × Nat)} (h : Has σ M w) (hM : Mach M lab p s) (hB : Base K M lab) (hc : ConfMay c) (hn : Nums c L B S) (hg : c 12 = (gens : Nat)) (hT : c 1 = (T : Nat)) (ha : a ≤ 1000) (hm : m ≤ 1000) (ht : t < T) (hq : tp[t]? = some q)
    (hA : AbsG c tp a s g) (hI : GInv S gens L T (levT c) id m g Lf ow had ev) (hi : ∀ t, t < T → g.thr t = none) :
    Calls Try.prog 18 #[.pointer (some ⟨p, 0, none⟩), .int .i64 (t : Nat), .func (.func 6) #[] #[], .int .i64 4, .int .i64 1, .slice none 0 0] w fun r w' => ∃ k M' lab' s' g' ow' ev', r = .returned (.int .i64 (k : Nat)) ∧ Has σ M' w' ∧ Mach M' lab' p s' ∧ Base K M' lab' ∧ AbsG c tp (a + k) s' g' ∧ k ≤ 4 ∧ (g'.t0 t : Nat) = (Lf (levT c t)).headD 0 ∧ g'.t1 t = toldG (g.lv (levT c t)) (Lf (levT c t)) ∧
      GInv S gens L T (levT c) id (m + 5) g' (put1 Lf (levT c t) (Lf (levT c t)).tail) ow' (if (Lf (levT c t)).headD 0 = 0 then had else put1 had (levT c t) (had (levT c t) ++ [(Lf (levT c t)).headD 0])) ev' ∧ (∀ t, t < T → g'.thr t = none) ∧ (∀ l, (g'.lv l).hd = (g.lv l).hd) ∧ (OwAll ow → OwAll ow') := by
  obtain ⟨elv, ll⟩ := levT_of hc hn hT ht
  have hs0 := hn.s0
  have hfr : (s.thr t).frames = [] := by rw [hA.thr.fr t (by omega), hi t ht]
  have hlen : (s.thr t).frames.length = 0 := by rw [hfr]; rfl
  have hbeg := hA.begun (fn := 1) (u := 0) (us := []) (by omega) (hi t ht) (.inl ⟨rfl, rfl⟩)
  cases hl : Lf (levT c t) with
  | nil =>
    obtain ⟨gs, h0, hrow, e0, e1, I', hth, hlvs⟩ := take_alone_no (t := t) (c := c) hI (by omega) hn.slo hs0.2 ht ll hl
    have TR := hrow.trail (σ := σ) (K := K) (p := p) (q := q) (n := a) (tp := tp) (by omega) (by omega) (by omega) hq elv (by rw [hn.lev]; omega) hg
    rw [← hlen] at TR
    refine (alone_rel h hM hB (by rw [hA.ttp]; exact hq) (us := []) (Rd.nil _ _ _) (by simp) (by rw [hlen]; decide) 1 (k := 2) (most := 4) (by show AbsG c tp (a + 0) _ (gs 0); rw [h0]; exact hbeg) (by omega) (by omega) (by omega) TR).mono fun r w' hr => ?_
    obtain ⟨hr, M', lab', s', h', hM', hB', hP⟩ := hr
    refine ⟨2, M', lab', s', gs 2, ow, ev, hr, h', hM', hB', hP, by omega, e0, e1, ?_, fun t' ht' => ?_, fun l => by rw [hlvs], fun h => h⟩
    · have e : put1 Lf (levT c t) ([] : List Nat).tail = Lf := by rw [show ([] : List Nat).tail = Lf (levT c t) from hl.symm]; exact put1_self _ _
      rw [e, if_pos (show ([] : List Nat).headD 0 = 0 from rfl)]
      exact ⟨fun l h => ((I'.lv l h).mono).mono, I'.thr, I'.had, I'.ev⟩
    · by_cases e : t' = t
      · subst e; exact hrow.done
      · rw [hth t' e]; exact hi t' ht'
  | cons x rr =>
    obtain ⟨gs, ow2, ev2, h0, hrow, e0, e1, x1, x2, _, I', hoo, hth, hlvs⟩ := take_alone_yes (t := t) (c := c) (j := levT c t) hI (by omega) hn.slo hs0.2 ht ll rfl hl
    have TR := hrow.trail (σ := σ) (K := K) (p := p) (q := q) (n := a) (tp := tp) (by omega) (by omega) (by omega) hq elv (by rw [hn.lev]; omega) hg
    rw [← hlen] at TR
    refine (alone_rel h hM hB (by rw [hA.ttp]; exact hq) (us := []) (Rd.nil _ _ _) (by simp) (by rw [hlen]; decide) 1 (k := 4) (most := 4) (by show AbsG c tp (a + 0) _ (gs 0); rw [h0]; exact hbeg) (by omega) (by omega) (by omega) TR).mono fun r w' hr => ?_
    obtain ⟨hr, M', lab', s', h', hM', hB', hP⟩ := hr
    refine ⟨4, M', lab', s', gs 4, ow2, ev2, hr, h', hM', hB', hP, by omega, e0, e1, ?_, fun t' ht' => ?_, hlvs, hoo⟩
    · rw [if_neg (show ¬ (x :: rr).headD 0 = 0 from (by omega : ¬ x = 0))]; exact I'
    · by_cases e : t' = t
      · subst e; exact hrow.done
      · rw [hth t' e]; exact hi t' ht'
/-- Give alone, as the law has it. -/
theorem give_law {σ w : World} {K M : Mm} {lab : Nat → Nat} {p t q a m L B S gens T x i : Nat} {c : Nat → Int} {tp : List Nat} {s : MachS} {g : StG} {Lf had : Nat → List Nat} {ow : Nat → Nat → Nat × Nat} {ev : Nat → List (Nat × Nat)} (h : Has σ M w) (hM : Mach M lab p s) (hB : Base K M lab) (hc : ConfMay c) (hn : Nums c L B S) (hg : c 12 = (gens : Nat)) (hT : c 1 = (T : Nat)) (ha : a ≤ 1000) (hm : m ≤ 1000) (ht : t < T) (hq : tp[t]? = some q)
    (hA : AbsG c tp a s g) (hI : GInv S gens L T (levT c) id m g Lf ow had ev) (hi : ∀ t, t < T → g.thr t = none) (hx : (had (levT c t))[i]? = some x) {rv : Value} (hrv : Rd M 1 rv 1 (u64s [(x : Int)])) :
    Calls Try.prog 18 #[.pointer (some ⟨p, 0, none⟩), .int .i64 (t : Nat), .func (.func 6) #[] #[], .int .i64 10, .int .i64 2, rv] w fun r w' => ∃ k M' lab' s' g' ow', r = .returned (.int .i64 (k : Nat)) ∧ Has σ M' w' ∧ Mach M' lab' p s' ∧ Base K M' lab' ∧ AbsG c tp (a + k) s' g' ∧ k ≤ 10 ∧
      GInv S gens L T (levT c) id (m + 11) g' (if genOf ((g.lv (levT c t)).hd x) + 1 < gens then put1 Lf (levT c t) (x :: Lf (levT c t)) else Lf) ow' (put1 had (levT c t) ((had (levT c t)).eraseIdx i)) ev ∧ (∀ t, t < T → g'.thr t = none) ∧ (∀ l i, genOf ((g'.lv l).hd i) = if l = levT c t ∧ i = x then genOf ((g.lv l).hd i) + 1 else genOf ((g.lv l).hd i)) ∧ (OwAll ow → OwAll ow') := by
  obtain ⟨elv, ll⟩ := levT_of hc hn hT ht
  have hs0 := hn.s0
  have hfr : (s.thr t).frames = [] := by rw [hA.thr.fr t (by omega), hi t ht]
  have hlen : (s.thr t).frames.length = 0 := by rw [hfr]; rfl
  have hbeg := hA.begun (fn := 2) (u := x) (us := [(x : Int)]) (by omega) (hi t ht) (.inr rfl)
  by_cases hw : genOf ((g.lv (levT c t)).hd x) + 1 < gens
  · obtain ⟨gs, ow2, h0, hrow, x1, x2, I', hoo, hth, hlvs⟩ := give_alone_on (t := t) (c := c) (j := levT c t) hI (by omega) hn.slo hs0.2 ht ll rfl hx hw
    have TR := hrow.trail (σ := σ) (K := K) (p := p) (q := q) (n := a) (tp := tp) (by omega) (by omega) (by omega) hq elv (by rw [hn.lev]; omega) hg
    rw [← hlen] at TR
    refine (alone_rel h hM hB (by rw [hA.ttp]; exact hq) (us := [(x : Int)]) hrv (by simp) (by rw [hlen]; decide) 2 (k := 10) (most := 10) (by show AbsG c tp (a + 0) _ (gs 0); rw [h0]; exact hbeg) (by omega) (by omega) (by omega) TR).mono fun r w' hr => ?_
    obtain ⟨hr, M', lab', s', h', hM', hB', hP⟩ := hr
    refine ⟨10, M', lab', s', gs 10, ow2, hr, h', hM', hB', hP, by omega, ?_, fun t' ht' => ?_, hlvs, hoo⟩
    · rw [if_pos hw]; exact I'
    · by_cases e : t' = t
      · subst e; exact hrow.done
      · rw [hth t' e]; exact hi t' ht'
  · obtain ⟨gs, ow2, h0, hrow, x1, x2, I', hoo, hth, hlvs⟩ := give_alone_worn (t := t) (c := c) (j := levT c t) hI (by omega) hn.slo hs0.2 ht ll rfl hx (by omega)
    have TR := hrow.trail (σ := σ) (K := K) (p := p) (q := q) (n := a) (tp := tp) (by omega) (by omega) (by omega) hq elv (by rw [hn.lev]; omega) hg
    rw [← hlen] at TR
    refine (alone_rel h hM hB (by rw [hA.ttp]; exact hq) (us := [(x : Int)]) hrv (by simp) (by rw [hlen]; decide) 2 (k := 7) (most := 10) (by show AbsG c tp (a + 0) _ (gs 0); rw [h0]; exact hbeg) (by omega) (by omega) (by omega) TR).mono fun r w' hr => ?_
    obtain ⟨hr, M', lab', s', h', hM', hB', hP⟩ := hr
    refine ⟨7, M', lab', s', gs 7, ow2, hr, h', hM', hB', hP, by omega, ?_, fun t' ht' => ?_, hlvs, hoo⟩
    · rw [if_neg hw]
      exact ⟨fun l h => (((I'.lv l h).mono).mono).mono, I'.thr, I'.had, I'.ev⟩
    · by_cases e : t' = t
      · subst e; exact hrow.done
      · rw [hth t' e]; exact hi t' ht'
theorem toldG_lt (V : LvG) (l : List Nat) : toldG V l < 4294967296 := by
  cases l with
  | nil => exact (by decide : 0 < 4294967296)
  | cons x r => exact cutN_lt (V.hd x) 2 32
theorem headD_le {S : Nat} {l : List Nat} (h : ∀ x ∈ l, x ≤ S) : l.headD 0 ≤ S := by
  cases l with
  | nil => exact Nat.zero_le _
  | cons x r => exact h x List.mem_cons_self
theorem nodup_le {S : Nat} {l : List Nat} (h : l.Nodup) (hl : ∀ x ∈ l, 1 ≤ x ∧ x ≤ S) : l.length ≤ S := by
  have := free_busy (S := S) (o := fun x => if x ∈ l then (1, 0) else (0, 0)) h (fun x => by
    by_cases hx : x ∈ l
    · simp [hx]; exact hl x hx
    · simp [hx])
  omega
theorem natv_snoc (l : List Nat) (x : Nat) : natv (l ++ [x]) = natv l ++ [.int .i64 (x : Nat)] := by unfold natv; rw [List.map_append]; rfl
end
end Go.Proofs.Ytefjjagejgeedaa
