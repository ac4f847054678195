/- Law 23, EpochGoes: the law's walk. -/
import Derived.Test.YtjeeldacnllipaaGoD
namespace Go.Proofs.Ytjeeldacnllipaa
section
open Go.RowKit
set_option linter.unusedVariables false
set_option linter.unusedSimpArgs false
set_option linter.unnecessarySimpa false
set_option maxHeartbeats 2000000 in
set_option maxRecDepth 20000 in
theorem epGoes_no {σ w : World} {M : Mm} (h : Has σ M w) (c : Nat → Int) (A : Option Addr) (n cap : Nat) (hm : confMayB c = false) :
    Calls Try.prog 5 #[confV c, .slice A n cap] w fun r w' => r = .returned (.bool true) ∧ Has σ M w' := by
  have NW := Lib.hid (fun (M' : Mm) (w : World) (h : Has σ M' w) => mNew_no h c hm)
  have RM := Lib.hid (fun (M' : Mm) (w : World) (h : Has σ M' w) => refMay_has h c)
  have LI := Lib.hid (fun (M' : Mm) (w : World) (h : Has σ M' w) => ep_lives h)
  have hx : (ints .i64 14 c).extract 0 (0 + 14) = ints .i64 14 c := rfl
  have hz : (ints .i64 14 c).size = 14 := rfl
  unfold errV at NW
  rw [hm] at RM
  unfold confV at NW RM ⊢
  generalize ints .i64 14 c = row at NW RM hx hz ⊢
  clear hm
  go_enter Try.func5, Try.ntmps5
  go_upto_region 1 with (fail)
  obtain ⟨M1, hbx, hle, hbf, hnf⟩ := h.box (.cells row 24)
  generalize w.alloc _ = wx at hbx ⊢
  generalize w.heap.size = bf at hbf hnf ⊢
  clear h
  try clear w
  have h := hbx
  clear hbx
  obtain ⟨w, rfl⟩ : ∃ x : World, x = wx := ⟨_, rfl⟩
  go_wp2_with (first
    | ((with_reducible show wpList _ _ _ ({ dst := _, op := Op.load 24 _, type := _, pos := _, after := _, guard := _ } :: _) _ _); refine wpList_agg_has h rfl 24 _ rfl rfl hbf hx hz Try.underlying24 rfl (by kernel_rfl) ?_; try simp only [Act.put, List.setIfInBounds_toArray, List.set_cons_zero, List.set_cons_succ])
    | ((go_at_call 6; refine (NW.out _ _ h).mono ?_; clear h; rintro _ w ⟨b, M2, rfl, h, hle2, hn⟩; have hbf := hle2 _ _ hbf))
    | (go_at_call 7; refine (RM.out _ _ h).mono ?_; clear h; rintro _ w ⟨rfl, h⟩)
    | (go_at_call 8; refine (LI.out _ _ h).mono ?_; clear h; rintro _ w ⟨rfl, h⟩))
  go_ret
  exact ⟨rfl, h.le (Mm.le_trans hle hle2)⟩
set_option maxHeartbeats 2000000 in
set_option maxRecDepth 20000 in
theorem epGoes_many {σ w : World} {M : Mm} (h : Has σ M w) (c : Nat → Int) (hc : ConfMay c) {L B S : Nat} (hn : Nums c L B S) (A : Option Addr) (n cap : Nat) (hm : confMayB c = true) (h60 : 60 < n) :
    Calls Try.prog 5 #[confV c, .slice A n cap] w fun r w' => r = .returned (.bool true) ∧ Has σ M w' := by
  have NW := Lib.hid (fun (M' : Mm) (w : World) (h : Has σ M' w) => mNew_yes h c hc hn)
  have RM := Lib.hid (fun (M' : Mm) (w : World) (h : Has σ M' w) => refMay_has h c)
  have LI := Lib.hid (fun (M' : Mm) (w : World) (h : Has σ M' w) => ep_lives h)
  have hx : (ints .i64 14 c).extract 0 (0 + 14) = ints .i64 14 c := rfl
  have hz : (ints .i64 14 c).size = 14 := rfl
  have g60 : decide ((60 : Int) < (n : Int)) = true := decide_eq_true (by omega)
  have g60' : (60 : Int) < (n : Int) := by omega
  rw [hm] at RM
  unfold confV at NW RM ⊢
  generalize ints .i64 14 c = row at NW RM hx hz ⊢
  clear hm hc hn h60
  go_enter Try.func5, Try.ntmps5
  go_upto_region 1 with (fail)
  obtain ⟨M1, hbx, hle, hbf, hnf⟩ := h.box (.cells row 24)
  generalize w.alloc _ = wx at hbx ⊢
  generalize w.heap.size = bf at hbf hnf ⊢
  clear h
  try clear w
  have h := hbx
  clear hbx
  obtain ⟨w, rfl⟩ : ∃ x : World, x = wx := ⟨_, rfl⟩
  go_wp2_with (first
    | ((with_reducible show wpList _ _ _ ({ dst := _, op := Op.load 24 _, type := _, pos := _, after := _, guard := _ } :: _) _ _); refine wpList_agg_has h rfl 24 _ rfl rfl hbf hx hz Try.underlying24 rfl (by kernel_rfl) ?_; try simp only [Act.put, List.setIfInBounds_toArray, List.set_cons_zero, List.set_cons_succ])
    | ((go_at_call 6; refine (NW.out _ _ h).mono ?_; clear h; rintro _ w ⟨p, M2, lab2, s, rfl, h, hB2, hM2, hN⟩; have hle2 := hB2.le; clear hB2 hM2 hN; have hbf := hle2 _ _ hbf))
    | (go_at_call 7; refine (RM.out _ _ h).mono ?_; clear h; rintro _ w ⟨rfl, h⟩)
    | (go_at_call 8; refine (LI.out _ _ h).mono ?_; clear h; rintro _ w ⟨rfl, h⟩))
  go_ret
  exact ⟨rfl, h.le (Mm.le_trans hle hle2)⟩
/-- What always holds between rounds. -/
structure GoI (L T : Nat) (e : EpG) (cnt : Nat → Nat) : Prop where
  thr : ∀ t, t < T → e.thr t = none
  ep : ∀ l, l < L → e.ep l = cnt l + 2
  act : ∀ l t, l < L → t < 8 → e.act l t = 0
/-- A round: pinned, on, unpinned. -/
def goE1 (e : EpG) (l t : Nat) : EpG := (e.setA l t (2 * e.ep l + 1)).back t (e.ep l)
def goE2 (e : EpG) (l t : Nat) : EpG := ((goE1 e l t).setE l (e.ep l + 1)).back t 1
def goE3 (e : EpG) (l t : Nat) : EpG := ((goE2 e l t).setA l t 0).back t 0
theorem GoI.adv {L T l t : Nat} {lev : Nat → Nat} {e : EpG} {cnt : Nat → Nat} (h : GoI L T e cnt) (hl : l < L) (hT : T ≤ 8) : advE (atL T lev l) t l (goE1 e l t) = goE2 e l t := by
  refine adv_on fun y hy => ?_
  obtain ⟨hyT, _⟩ := atL_mem hy
  show (e.setA l t (2 * e.ep l + 1)).act l y = 0 ∨ (e.setA l t (2 * e.ep l + 1)).act l y = 2 * e.ep l + 1
  rw [setA_act]
  by_cases hyt : y = t
  · right; rw [if_pos ⟨rfl, hyt⟩]
  · left; rw [if_neg (fun h => hyt h.2)]; exact h.act l y hl (by omega)
theorem GoI.next {L T l t : Nat} {e : EpG} {cnt : Nat → Nat} (h : GoI L T e cnt) (hl : l < L) : GoI L T (goE3 e l t) (put1 cnt l (cnt l + 1)) := by
  refine ⟨fun u hu => ?_, fun l' hl' => ?_, fun l' u hl' hu => ?_⟩
  · show put1 (put1 (put1 e.thr t none) t none) t none u = none
    by_cases e1 : u = t
    · subst e1; rw [put1_same]
    · rw [put1_ne e1, put1_ne e1, put1_ne e1]; exact h.thr u hu
  · show ((e.setA l t (2 * e.ep l + 1)).setE l (e.ep l + 1)).ep l' = _
    rw [setE_ep]
    by_cases e1 : l' = l
    · subst e1; rw [if_pos rfl, put1_same, h.ep _ hl]
    · rw [if_neg e1, put1_ne e1]; exact h.ep l' hl'
  · show (((e.setA l t (2 * e.ep l + 1)).setE l (e.ep l + 1)).setA l t 0).act l' u = 0
    rw [setA_act]
    by_cases e1 : l' = l ∧ u = t
    · rw [if_pos e1]
    · rw [if_neg e1]
      show (e.setA l t (2 * e.ep l + 1)).act l' u = 0
      rw [setA_act, if_neg e1]; exact h.act l' u hl' hu
def cntI (cnt : Nat → Nat) : Nat → Int := fun l => (cnt l : Nat)
theorem cntI_put (cnt : Nat → Nat) (l : Nat) : upd (cntI cnt) l ((cnt l + 1 : Nat) : Int) = cntI (put1 cnt l (cnt l + 1)) := by
  funext i
  unfold upd cntI put1
  split <;> rfl
theorem field_ep (a b0 b1 b2 b3 b4 b5 b6 b7 : Int) (w : World) : (Instr.field 37 (.agg #[.int .u64 a, .int .u64 b0, .int .u64 b1, .int .u64 b2, .int .u64 b3, .int .u64 b4, .int .u64 b5, .int .u64 b6, .int .u64 b7]) 0).run Try.prog w = .ok (.int .u64 a) w := by kernel_rfl
theorem zArr : (Try.prog.info? 67).bind (·.zero) = some (.agg (ints .u64 4 fun _ => 0)) := by kernel_rfl
set_option maxHeartbeats 4000000 in
set_option maxRecDepth 20000 in
theorem epGoes_long {σ w : World} {M : Mm} (h : Has σ M w) (c : Nat → Int) (hc : ConfMay c) {L B S T : Nat} (hn : Nums c L B S) (hT : c 1 = (T : Nat)) {A : Option Addr} {n cap : Nat} {lst : List Int} (hr : Rd M 1 (.slice A n cap) n (lst.map (Value.int .i64))) (hl : lst.length = n) (h60 : n ≤ 60) :
    Calls Try.prog 5 #[confV c, .slice A n cap] w fun r w' => r = .returned (.bool true) ∧ Has σ M w' := by
  have NW := Lib.hid (fun (M' : Mm) (w : World) (h : Has σ M' w) => mNew_yes h c hc hn)
  have LI := Lib.hid (fun (M' : Mm) (w : World) (h : Has σ M' w) => ep_lives h)
  have hx : (ints .i64 14 c).extract 0 (0 + 14) = ints .i64 14 c := rfl
  have hz : (ints .i64 14 c).size = 14 := rfl
  have r0 : (ints .i64 14 c)[0]? = some (.int .i64 (L : Nat)) := by rw [← hn.lev]; rfl
  have g60 : decide ((60 : Int) < (n : Int)) = false := decide_eq_false (by omega)
  have g60' : ¬ (60 : Int) < (n : Int) := by omega
  have hl0 := hn.l0
  have hT8 : 1 ≤ T ∧ T ≤ 8 := by have := hc.2.1; omega
  have HC := Lib.hid hc
  have HNU := Lib.hid hn
  have HT := Lib.hid hT
  have HR := Lib.hid hr
  have HL := Lib.hid hl
  have hn60 : n ≤ 60 := h60
  unfold confV at NW ⊢
  clear hc hn hT hr hl h60
  generalize ints .i64 14 c = row at NW hx hz r0 ⊢
  go_enter Try.func5, Try.ntmps5
  go_upto_region 1 with (fail)
  obtain ⟨M1, hbx, hle1, hbf, hnf⟩ := h.box (.cells row 24)
  generalize w.alloc _ = wx at hbx ⊢
  generalize w.heap.size = bf at hbf hnf ⊢
  clear h
  try clear w
  have h := hbx
  clear hbx
  obtain ⟨w, rfl⟩ : ∃ x : World, x = wx := ⟨_, rfl⟩
  go_upto_region 4 with (first
    | ((with_reducible show wpList _ _ _ ({ dst := _, op := Op.load 24 _, type := _, pos := _, after := _, guard := _ } :: _) _ _); refine wpList_agg_has h rfl 24 _ rfl rfl hbf hx hz Try.underlying24 rfl (by kernel_rfl) ?_; try simp only [Act.put, List.setIfInBounds_toArray, List.set_cons_zero, List.set_cons_succ])
    | ((go_at_call 6; refine (NW.out _ _ h).mono ?_; clear h; rintro _ w ⟨p, M2, lab2, s, rfl, h, hB2, hM2, hN⟩)))
  obtain ⟨tp, HTP⟩ : ∃ tp, Hid (tp = s.tp) := ⟨_, rfl⟩
  have hA2 := absE_first HNU.out HC.out hN hM2.wsz
  rw [← HTP.out] at hA2
  obtain ⟨tlen, HTL⟩ : ∃ tl, Hid (tl = tp.length ∧ (tl : Int) = c 1) := ⟨_, Lib.hid ⟨rfl, by rw [HTP.out, hM2.tlen, hN.c]⟩⟩
  have HM2 := Lib.hid hM2
  have HB2 := Lib.hid hB2
  have HA2 := Lib.hid hA2
  have HLE1 := Lib.hid hle1
  have HNF := Lib.hid hnf
  clear hM2 hB2 hN hA2 HTP NW hle1 hnf
  go_upto_region 5 with (first
    | ((with_reducible show wpList _ _ _ ({ dst := _, op := Op.alloc 67, type := _, pos := _, after := _, guard := _ } :: _) _ _); refine wpList_alloc_has h rfl 67 rfl _ zArr ?_; clear h; intro b7 w h hn7; try simp only [Act.put, List.setIfInBounds_toArray, List.set_cons_zero, List.set_cons_succ]))
  replace h : Has σ (M2.upd b7 (.cells (ints .u64 4 fun _ => 0) 67)) w := h
  obtain ⟨lab3, hM3, hB3⟩ := HM2.out.box HB2.out hn7 (.cells (ints .u64 4 fun _ => 0) 67)
  have hn17 : M1 b7 = none := Mm.none_of HB2.out.le hn7
  have z0 : ints .u64 4 (fun _ => 0) = ints .u64 4 (cntI fun _ => 0) := rfl
  rw [z0] at h hM3 hB3
  generalize M2.upd b7 _ = M3 at h hM3 hB3
  have HM3 := Lib.hid hM3
  have HB3 := Lib.hid hB3
  clear hM3 hB3 HM2 HB2 hn7 lab2 M2 z0
  go_upto_region 6 with (fail)
  go_loopw [8] (fun u wr => ∃ (i : Nat) (M : Mm) (lab : Nat → Nat) (s : MachS) (cnt : Nat → Nat) (m : Nat) (e : EpG), i ≤ n ∧ u = .int .i64 (i : Nat) ∧ Has σ M wr ∧ Mach M lab p s ∧ Base (M1.upd b7 (.cells (ints .u64 4 (cntI cnt)) 67)) M lab ∧ m ≤ 60 * i ∧ AbsE c tp m s e ∧ GoI L T e cnt ∧ ∀ l, cnt l ≤ i) (fun u _ => n - (intOf u).toNat)
  case atStart => exact ⟨0, M3, lab3, s, fun _ => 0, 0, _, Nat.zero_le _, rfl, h, HM3.out, HB3.out, Nat.le_refl _, HA2.out, ⟨fun t _ => rfl, fun l _ => rfl, fun l t _ ht => e00_act l ht⟩, fun l => Nat.le_refl _⟩
  case round =>
    clear h w HM3 HB3 HA2 lab3 s M3
    obtain ⟨w, rfl⟩ : ∃ x : World, x = wr := ⟨_, rfl⟩
    obtain ⟨i, M2, lab2, s, cnt, m, e, hi, rfl, h, hM2, hB2, hm, hA2, hG2, hcn⟩ := hrel
    have hKM := hB2.le
    have hk7 : ∀ o, (M1.upd b7 o).le M2 → M1.le M2 := fun o ho => Mm.le_trans (Mm.le_upd' hn17 o) ho
    have hle12 := hk7 _ hKM
    have hbf2 := hle12 _ _ hbf
    have hb72 := hKM _ _ (Mm.upd_same _ _ _)
    have HM2 := Lib.hid hM2
    have HB2 := Lib.hid hB2
    have HA2 := Lib.hid (⟨hm, hA2, hG2, hcn⟩ : m ≤ 60 * i ∧ AbsE c tp m s e ∧ GoI L T e cnt ∧ ∀ l, cnt l ≤ i)
    have HLE12 := Lib.hid hle12
    clear hM2 hB2 hm hA2 hG2 hcn hKM hk7 hle12
    by_cases hlt : i < n
    · have hrd : Rd M1 1 (.slice A n cap) n (lst.map (Value.int .i64)) := HR.out.le HLE1.out
      obtain ⟨et, he⟩ : ∃ et, lst[i]? = some et := ⟨_, List.getElem?_eq_getElem (by rw [HL.out]; exact hlt)⟩
      obtain ⟨_, Al, cl, hle, hnc, hAl⟩ := hrd
      obtain ⟨bl, ol, csl, tl2, fzl, rfl, hbl1, hcl⟩ := hAl (by omega)
      have hbl := HLE12.out _ _ hbl1
      cases hle
      have e0 : csl[ol + i]? = some (.int .i64 et) := hcl i _ (by rw [List.getElem?_map, he]; rfl)
      have hlt' : (i : Int) < (n : Int) := by omega
      have wi : IntKind.i64.wrap ((i : Int) + 1) = ((i + 1 : Nat) : Int) := by rw [show (i : Int) + 1 = ((i + 1 : Nat) : Int) by omega]; exact IntWalk.i64_in _ (by omega)
      have HLT := Lib.hid hlt
      have LV := Lib.hid (fun (w : World) (h : Has σ M2 w) => mLevel_eq h HM2.out et)
      rw [HA2.out.2.1.cc] at LV
      clear hcl hAl he hlt hi hnc
      by_cases htt : 0 ≤ et ∧ et < (T : Int)
      · obtain ⟨tn, rfl⟩ : ∃ tn : Nat, et = (tn : Nat) := ⟨et.toNat, by omega⟩
        have htn : tn < T := by omega
        obtain ⟨elv, ll⟩ := levT_of HC.out HNU.out HT.out htn
        rw [elv] at LV
        obtain ⟨lv, hlv⟩ : ∃ lv, levT c tn = lv := ⟨_, rfl⟩
        rw [hlv] at ll elv LV
        obtain ⟨q, hq⟩ : ∃ q, tp[tn]? = some q := ⟨_, List.getElem?_eq_getElem (by have h1 := HTL.out; have h2 := HT.out; omega)⟩
        have g0 : ¬ (lv : Int) < 0 := by omega
        have hl4 : lv < 4 := by omega
        have P1 : Hid (∀ w : World, Has σ M2 w → Calls Try.prog 13 #[.pointer (some ⟨p, 0, none⟩), .int .i64 (tn : Nat), (.func (.func 14) #[] #[]), .int .i64 20, .int .i64 10, .slice none 0 0] w fun r w' => ∃ k : Nat, r = .returned (.int .i64 (k : Nat)) ∧ 0 < k ∧ k ≤ 20 ∧ ∃ M' lab' s', Has σ M' w' ∧ Mach M' lab' p s' ∧ Base (M1.upd b7 (.cells (ints .u64 4 (cntI cnt)) 67)) M' lab' ∧ AbsE c tp (m + k) s' (goE1 e lv tn)) := Lib.hid fun w h => by
          have := ep_pin (t := tn) (most := 20) h HM2.out HB2.out HA2.out.2.1 HC.out HNU.out HT.out (by have := HA2.out.1; have := HLT.out; omega) htn hq (HA2.out.2.2.1.thr tn htn) (by rw [hlv, HA2.out.2.2.1.ep lv ll]; have := HA2.out.2.2.2 lv; have := HLT.out; omega) (by omega) (by omega)
          rw [hlv] at this
          exact this
        have HQ := Lib.hid hq
        have HTN := Lib.hid htn
        have HLV := Lib.hid hlv
        clear htt hq htn elv hlv HM2 HB2
        go_upto_region 11 with (first
          | (with_reducible show wpList _ _ _ ({ dst := _, op := Op.load 3 _, type := _, pos := _, after := _, guard := _ } :: _) _ _; refine wpList_load1_has h rfl 3 _ rfl rfl hbl e0 Try.underlying3 rfl ?_)
          | (go_at_call 9; refine (LV.out _ h).mono ?_; clear h; rintro _ w ⟨rfl, h⟩)
          | ((go_at_call 13; refine (P1.out _ h).mono ?_; clear h; rintro _ w ⟨k1, rfl, _, k1b, M3, lab3, s3, h, hM3, hB3, hA3⟩)))
        have hbl3 := hB3.le _ _ (Mm.upd_of hn17 hbl1)
        have P2 : Hid (∀ w : World, Has σ M3 w → Calls Try.prog 13 #[.pointer (some ⟨p, 0, none⟩), .int .i64 (tn : Nat), (.func (.func 14) #[] #[]), .int .i64 20, .int .i64 12, .slice none 0 0] w fun r w' => ∃ k : Nat, r = .returned (.int .i64 (k : Nat)) ∧ 0 < k ∧ k ≤ 20 ∧ ∃ M' lab' s', Has σ M' w' ∧ Mach M' lab' p s' ∧ Base (M1.upd b7 (.cells (ints .u64 4 (cntI cnt)) 67)) M' lab' ∧ AbsE c tp (m + k1 + k) s' (goE2 e lv tn)) := Lib.hid fun w h => by
          have := ep_adv (t := tn) (most := 20) h hM3 hB3 hA3 HC.out HNU.out HT.out (by have := HA2.out.1; have := HLT.out; omega) HTN.out HQ.out (back_thr _) (by rw [HLV.out]; show e.ep lv < _; rw [HA2.out.2.2.1.ep lv ll]; have := HA2.out.2.2.2 lv; have := HLT.out; omega) (by have := atL_len (T := T) (lev := levT c) (l := levT c tn); omega) (by omega)
          rw [HLV.out, HA2.out.2.2.1.adv ll hT8.2] at this
          exact this
        clear hM3 hB3 hA3 P1 hbl g0
        go_upto_region 12 with (first
          | (with_reducible show wpList _ _ _ ({ dst := _, op := Op.load 3 _, type := _, pos := _, after := _, guard := _ } :: _) _ _; refine wpList_load1_has h rfl 3 _ rfl rfl hbl3 e0 Try.underlying3 rfl ?_)
          | ((go_at_call 13; refine (P2.out _ h).mono ?_; clear h; rintro _ w ⟨k2, rfl, _, k2b, M4, lab4, s4, h, hM4, hB4, hA4⟩)))
        have hbl4 := hB4.le _ _ (Mm.upd_of hn17 hbl1)
        have TH := Lib.hid (fun (w : World) (h : Has σ M4 w) => mThread_yes (t := tn) h hM4 (by rw [hA4.ttp]; exact HQ.out))
        obtain ⟨row4, ty4, hq4, d4⟩ := ep_told hM4 hA4 HQ.out
        replace d4 : row4[0]? = some (.int .u64 1) := by rw [show (goE2 e lv tn).t0 tn = 1 from back_t0 _] at d4; exact d4
        have P3 : Hid (∀ w : World, Has σ M4 w → Calls Try.prog 13 #[.pointer (some ⟨p, 0, none⟩), .int .i64 (tn : Nat), (.func (.func 14) #[] #[]), .int .i64 20, .int .i64 11, .slice none 0 0] w fun r w' => ∃ k : Nat, r = .returned (.int .i64 (k : Nat)) ∧ 0 < k ∧ k ≤ 20 ∧ ∃ M' lab' s', Has σ M' w' ∧ Mach M' lab' p s' ∧ Base (M1.upd b7 (.cells (ints .u64 4 (cntI cnt)) 67)) M' lab' ∧ AbsE c tp (m + k1 + k2 + k) s' (goE3 e lv tn)) := Lib.hid fun w h => by
          have := ep_unpin (t := tn) (most := 20) h hM4 hB4 hA4 HC.out HNU.out HT.out (by have := HA2.out.1; have := HLT.out; omega) HTN.out HQ.out (back_thr _) (by omega) (by omega)
          rw [HLV.out] at this
          exact this
        clear hM4 hB4 hA4 P2 hbl3
        go_upto_region 17 with (first
          | (with_reducible show wpList _ _ _ ({ dst := _, op := Op.load 3 _, type := _, pos := _, after := _, guard := _ } :: _) _ _; refine wpList_load1_has h rfl 3 _ rfl rfl hbl4 e0 Try.underlying3 rfl ?_)
          | (go_at_call 15; refine (TH.out _ h).mono ?_; clear h; rintro _ w ⟨rfl, h⟩)
          | (with_reducible show wpList _ _ _ ({ dst := _, op := Op.load 34 _, type := _, pos := _, after := _, guard := _ } :: _) _ _; refine wpList_load1_has h rfl 34 _ rfl rfl hq4 d4 Try.underlying34 rfl ?_)
          | ((go_at_call 13; refine (P3.out _ h).mono ?_; clear h; rintro _ w ⟨k3, rfl, _, k3b, M5, lab5, s5, h, hM5, hB5, hA5⟩)))
        have hb75 := hB5.le _ _ (Mm.upd_same _ _ _)
        have ek : (ints .u64 4 (cntI cnt))[lv]? = some (.int .u64 (cnt lv : Nat)) := ints_get hl4
        have wk : IntKind.u64.wrap ((cnt lv : Int) + 1) = ((cnt lv + 1 : Nat) : Int) := by
          have := HA2.out.2.2.2 lv
          rw [show (cnt lv : Int) + 1 = ((cnt lv + 1 : Nat) : Int) by omega]
          exact IntWalk.u64_in _ (by omega)
        have hsz : lv < (ints .u64 4 (cntI cnt)).size := by rw [ints_size]; exact hl4
        have hl4' : (lv : Int) < 4 := by omega
        obtain ⟨hM6, hB6⟩ := hM5.put hB5 (Mm.upd_same _ _ _) (.cells (ints .u64 4 (cntI (put1 cnt lv (cnt lv + 1)))) 67)
        rw [Mm.upd_upd] at hB6
        have SR : Hid ((ints .u64 4 (cntI cnt)).setIfInBounds lv (.int .u64 (cnt lv + 1 : Nat)) = ints .u64 4 (cntI (put1 cnt lv (cnt lv + 1)))) := Lib.hid (by rw [ints_set, cntI_put])
        have hG6 := HA2.out.2.2.1.next (t := tn) ll
        have hb76 := Mm.upd_same M5 b7 (.cells (ints .u64 4 (cntI (put1 cnt lv (cnt lv + 1)))) 67)
        have HM6 := Lib.hid hM6
        have HB6 := Lib.hid hB6
        have HA6 := Lib.hid hA5
        have HG6 := Lib.hid hG6
        have hc6 : ∀ l, put1 cnt lv (cnt lv + 1) l ≤ i + 1 := fun l => by
          by_cases e : l = lv
          · subst e; rw [put1_same]; exact Nat.succ_le_succ (HA2.out.2.2.2 l)
          · rw [put1_ne e]; exact Nat.le_succ_of_le (HA2.out.2.2.2 l)
        have HC6 := Lib.hid hc6
        have k1g : ¬ (k1 : Int) < 0 := by omega
        have k2g : ¬ (k2 : Int) < 0 := by omega
        have k3g : ¬ (k3 : Int) < 0 := by omega
        clear hM5 hB5 hA5 hM6 hB6 hG6 hc6 P3 TH hq4 d4 hbl4
        generalize hrw7 : ints .u64 4 (cntI cnt) = crow at *
        clear hrw7
        go_upto_region 18 with (first
          | (with_reducible show wpList _ _ _ ({ dst := _, op := Op.load 34 _, type := _, pos := _, after := _, guard := _ } :: _) _ _; refine wpList_load1_has h rfl 34 _ rfl rfl hb75 ek Try.underlying34 rfl ?_)
          | (with_reducible show wpList _ _ _ ({ dst := _, op := Op.store 34 _ _, type := _, pos := _, after := _, guard := _ } :: _) _ _; refine wpList_store1_has h rfl 34 _ _ rfl rfl rfl hb75 hsz rfl (by kernel_rfl) ?_; clear h; intro w h))
        have h6 : Has σ (M5.upd b7 (.cells (crow.setIfInBounds lv (.int .u64 (cnt lv + 1 : Nat))) 67)) w := h
        rw [SR.out] at h6
        clear h
        have h := h6
        clear h6 hb75 ek wk hsz SR
        generalize M5.upd b7 _ = M6 at *
        have hbf6 := HB6.out.le _ _ (Mm.upd_of hn17 hbf)
        go_upto_region 21 with (fail)
        clear k1g k2g k3g
        go_loopw [15] (fun u wr => ∃ y : Nat, y ≤ L ∧ u = .int .i64 (y : Nat) ∧ Has σ M6 wr) (fun u _ => L - (intOf u).toNat)
        case atStart => exact ⟨0, Nat.zero_le _, rfl, h⟩
        case round =>
          clear h w
          obtain ⟨w, rfl⟩ : ∃ x : World, x = wr := ⟨_, rfl⟩
          obtain ⟨y, hy, rfl, h⟩ := hrel
          by_cases hyl : y < L
          · have hyl' : (y : Int) < (L : Int) := by omega
            have hy4 : (y : Int) < 4 := by omega
            have wy : IntKind.i64.wrap ((y : Int) + 1) = ((y + 1 : Nat) : Int) := by rw [show (y : Int) + 1 = ((y + 1 : Nat) : Int) by omega]; exact IntWalk.i64_in _ (by omega)
            obtain ⟨cv, hcv⟩ : ∃ cv, put1 cnt lv (cnt lv + 1) y = cv := ⟨_, rfl⟩
            have ey : (ints .u64 4 (cntI (put1 cnt lv (cnt lv + 1))))[y]? = some (.int .u64 (cv : Nat)) := by rw [ints_get (by omega), ← hcv]; rfl
            have cb : cv ≤ 61 := by have := HC6.out y; have := HLT.out; omega
            have w2 : IntKind.u64.wrap ((cv : Int) + 2) = ((cv + 2 : Nat) : Int) := by rw [show (cv : Int) + 2 = ((cv + 2 : Nat) : Int) by omega]; exact IntWalk.u64_in _ (by omega)
            obtain ⟨x, NL⟩ : ∃ x : Nat → Int, Hid (∀ w : World, Has σ M6 w → Calls Try.prog 16 #[.pointer (some ⟨p, 0, none⟩), .int .i64 (y : Nat)] w fun r w' => r = .returned (.agg #[.int .u64 (cv + 2 : Nat), .int .u64 (x 0), .int .u64 (x 1), .int .u64 (x 2), .int .u64 (x 3), .int .u64 (x 4), .int .u64 (x 5), .int .u64 (x 6), .int .u64 (x 7)]) ∧ Has σ M6 w') := ⟨fun t => ((goE3 e lv tn).act y t : Int), Lib.hid fun w h => by
              have := nowL_eq h HM6.out HA6.out HNU.out hyl
              rw [HG6.out.ep y hyl, hcv] at this
              exact this⟩
            have HYL := Lib.hid hyl
            clear hyl hy hcv cb
            go_upto_region 23 with (first
              | (with_reducible show wpList _ _ _ ({ dst := _, op := Op.load 3 _, type := _, pos := _, after := _, guard := _ } :: _) _ _; refine wpList_load1_has h rfl 3 _ rfl rfl hbf6 r0 Try.underlying3 rfl ?_))
            refine wp_region_held_drew (S := Has σ (M6)) (by kernel_rfl) (h.drew) (fun hHeld => ?_)
            refine wpAnyH_take (i := 0) (v := ?_) rfl (by kernel_rfl) (by kernel_rfl) (by kernel_rfl) (fun _ _ _ h => h) (Or.inl ⟨by rfl, ?_⟩) hHeld ?_
            rotate_left
            · (intro wz _; go_simp; try with_reducible rfl)
            try simp only [List.getElem_toArray, List.getElem_cons_succ, List.getElem_cons_zero, Act.put, List.setIfInBounds_toArray, List.set_cons_zero, List.set_cons_succ]
            refine wpAnyH_take (i := 1) (v := ?_) rfl (by kernel_rfl) (by kernel_rfl) (by kernel_rfl) (fun _ _ _ h => h) (Or.inl ⟨by rfl, ?_⟩) hHeld ?_
            rotate_left
            · (intro wz _; go_simp; try with_reducible rfl)
            try simp only [List.getElem_toArray, List.getElem_cons_succ, List.getElem_cons_zero, Act.put, List.setIfInBounds_toArray, List.set_cons_zero, List.set_cons_succ]
            refine wpAnyH_take (i := 4) (v := ?_) rfl (by kernel_rfl) (by kernel_rfl) (by kernel_rfl) (fun _ _ _ h => h) (Or.inl ⟨by rfl, ?_⟩) hHeld ?_
            rotate_left
            · (intro wz _; go_simp; try with_reducible rfl)
            try simp only [List.getElem_toArray, List.getElem_cons_succ, List.getElem_cons_zero, Act.put, List.setIfInBounds_toArray, List.set_cons_zero, List.set_cons_succ]
            refine wpAnyH_take (i := 5) (v := ?_) rfl (by kernel_rfl) (by kernel_rfl) (by kernel_rfl) (fun _ _ _ h => h) (Or.inl ⟨by rfl, ?_⟩) hHeld ?_
            rotate_left
            · (intro wz _; go_simp; try with_reducible rfl)
            try simp only [List.getElem_toArray, List.getElem_cons_succ, List.getElem_cons_zero, Act.put, List.setIfInBounds_toArray, List.set_cons_zero, List.set_cons_succ]
            refine wpAnyH_take (i := 6) (v := _) rfl (by kernel_rfl) (by kernel_rfl) (by kernel_rfl) (fun _ _ _ h => h) (yields_load1 rfl 34 _ rfl rfl hb76 ey Try.underlying34 rfl) hHeld ?_
            try simp only [List.getElem_toArray, List.getElem_cons_succ, List.getElem_cons_zero, Act.put, List.setIfInBounds_toArray, List.set_cons_zero, List.set_cons_succ]
            refine wpAnyH_take (i := 7) (v := ?_) rfl (by kernel_rfl) (by kernel_rfl) (by kernel_rfl) (fun _ _ _ h => h) (Or.inl ⟨by rfl, ?_⟩) hHeld ?_
            rotate_left
            · (intro wz _; go_simp; try with_reducible rfl)
            try simp only [List.getElem_toArray, List.getElem_cons_succ, List.getElem_cons_zero, Act.put, List.setIfInBounds_toArray, List.set_cons_zero, List.set_cons_succ]
            replace h := h.drew
            generalize w.drew = wq at h hHeld ⊢
            clear w
            obtain ⟨w, rfl⟩ : ∃ q : World, q = wq := ⟨_, rfl⟩
            refine wpAnyH_ready (rs := [2]) (by kernel_rfl) (by simp) ?_
            refine AllReadyH.cons rfl (fun K hK => ?_) AllReadyH.nil
            (go_simp; go_wp2_with (go_at_call 16; refine (NL.out _ h).mono ?_; clear h; rintro _ w ⟨rfl, h⟩))
            refine hK.out _ _ (h) (fun hHeld => ?_)
            clear hK K
            try simp only [Act.put, List.setIfInBounds_toArray, List.set_cons_zero, List.set_cons_succ]
            have FE := fun (w : World) => field_ep ((cv : Int) + 2) (x 0) (x 1) (x 2) (x 3) (x 4) (x 5) (x 6) (x 7) w
            refine wpAnyH_take (i := 3) (v := ?_) rfl (by kernel_rfl) (by kernel_rfl) (by kernel_rfl) (fun _ _ _ h => h) (Or.inl ⟨by rfl, ?_⟩) hHeld ?_
            rotate_left
            · (intro wz _; go_simp; try with_reducible rfl)
            try simp only [List.getElem_toArray, List.getElem_cons_succ, List.getElem_cons_zero, Act.put, List.setIfInBounds_toArray, List.set_cons_zero, List.set_cons_succ]
            clear FE
            refine wpAnyH_take (i := 8) (v := ?_) rfl (by kernel_rfl) (by kernel_rfl) (by kernel_rfl) (fun _ _ _ h => h) (Or.inl ⟨by rfl, ?_⟩) hHeld ?_
            rotate_left
            · (intro wz _; go_simp; try with_reducible rfl)
            try simp only [List.getElem_toArray, List.getElem_cons_succ, List.getElem_cons_zero, Act.put, List.setIfInBounds_toArray, List.set_cons_zero, List.set_cons_succ]
            refine wpAnyH_done (by kernel_rfl) ?_ _
            clear hHeld
            go_wp2
            go_roundw
            case rel => exact ⟨y + 1, by have := HYL.out; omega, by go_num, h⟩
            case measure => have := HYL.out; simp [intOf]; omega
          · obtain rfl : L = y := by omega
            have hyl' : ¬ (L : Int) < (L : Int) := by omega
            go_wp2_with (first
              | (with_reducible show wpList _ _ _ ({ dst := _, op := Op.load 3 _, type := _, pos := _, after := _, guard := _ } :: _) _ _; refine wpList_load1_has h rfl 3 _ rfl rfl hbf6 r0 Try.underlying3 rfl ?_))
            go_roundw
            case rel => exact ⟨i + 1, M6, lab5, s5, put1 cnt lv (cnt lv + 1), m + k1 + k2 + k3, goE3 e lv tn, by have := HLT.out; omega, by first | rfl | (have := HLT.out; go_num), h, HM6.out, HB6.out, by have := HA2.out.1; omega, HA6.out, HG6.out, HC6.out⟩
            case measure => have := HLT.out; simp [intOf]; omega
      · have eL := levT_out HT.out htt
        rw [eL] at LV
        clear htt
        go_wp2_with (first
          | (with_reducible show wpList _ _ _ ({ dst := _, op := Op.load 3 _, type := _, pos := _, after := _, guard := _ } :: _) _ _; refine wpList_load1_has h rfl 3 _ rfl rfl hbl e0 Try.underlying3 rfl ?_)
          | (go_at_call 9; refine (LV.out _ h).mono ?_; clear h; rintro _ w ⟨rfl, h⟩))
        go_roundw
        case rel => exact ⟨i + 1, M2, lab2, s, cnt, m, e, by have := HLT.out; omega, by first | rfl | go_num, h, HM2.out, HB2.out, by have := HA2.out.1; omega, HA2.out.2.1, HA2.out.2.2.1, fun l => Nat.le_succ_of_le (HA2.out.2.2.2 l)⟩
        case measure => have := HLT.out; simp [intOf]; omega
    · obtain rfl : i = n := by omega
      have hlt3 : ¬ (i : Int) < (i : Int) := by omega
      have FT := Lib.hid (fun (w : World) (h : Has σ M2 w) => mFault_eq h HM2.out)
      rw [HA2.out.2.1.good] at FT
      go_wp2_with (first
        | (go_at_call 17; refine (FT.out _ h).mono ?_; clear h; rintro _ w ⟨rfl, h⟩)
        | (go_at_call 8; refine (LI.out _ _ h).mono ?_; clear h; rintro _ w ⟨rfl, h⟩))
      go_ret
      exact ⟨rfl, h.le (Mm.le_trans HLE1.out HLE12.out)⟩
end
end Go.Proofs.Ytjeeldacnllipaa
