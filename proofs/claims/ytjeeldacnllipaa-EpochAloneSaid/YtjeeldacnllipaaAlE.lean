/- Law 23, EpochAlone: the law's walk. -/
import Derived.Test.YtjeeldacnllipaaAlD
import Derived.Test.YtjeeldacnllipaaAlG
namespace Go.Proofs.Ytjeeldacnllipaa
section
open Go.RowKit
set_option linter.unusedVariables false
set_option linter.unusedSimpArgs false
set_option linter.unnecessarySimpa false

set_option maxHeartbeats 2000000 in
set_option maxRecDepth 20000 in
theorem epAlone_no {σ w : World} {M : Mm} (h : Has σ M w) (c : Nat → Int) (A : Option Addr) (n cap : Nat) (hm : confMayB c = false) :
    Calls Try.prog 3 #[confV c, .slice A n cap] w fun r w' => r = .returned (.bool true) ∧ Has σ M w' := by
  have NW := Lib.hid (fun (M' : Mm) (w : World) (h : Has σ M' w) => mNew_no h c hm)
  have RM := Lib.hid (fun (M' : Mm) (w : World) (h : Has σ M' w) => refMay_has h c)
  have LI := Lib.hid (fun (M' : Mm) (w : World) (h : Has σ M' w) => ep_lives h)
  have hx : (ints .i64 14 c).extract 0 (0 + 14) = ints .i64 14 c := rfl
  have hz : (ints .i64 14 c).size = 14 := rfl
  unfold errV at NW
  rw [hm] at RM
  unfold confV at NW RM ⊢
  generalize ints .i64 14 c = row at NW RM hx hz ⊢
  clear hm
  go_enter Try.func3, Try.ntmps3
  go_upto_region 1 with (fail)
  obtain ⟨M1, hbx, hle, hbf, hnf⟩ := h.box (.cells row 24)
  generalize w.alloc _ = wx at hbx ⊢
  generalize w.heap.size = bf at hbf hnf ⊢
  clear h
  try clear w
  have h := hbx
  clear hbx
  obtain ⟨w, rfl⟩ : ∃ x : World, x = wx := ⟨_, rfl⟩
  go_wp2_with (first
    | ((with_reducible show wpList _ _ _ ({ dst := _, op := Op.load 24 _, type := _, pos := _, after := _, guard := _ } :: _) _ _); refine wpList_agg_has h rfl 24 _ rfl rfl hbf hx hz Try.underlying24 rfl (by kernel_rfl) ?_; try simp only [Act.put, List.setIfInBounds_toArray, List.set_cons_zero, List.set_cons_succ])
    | ((go_at_call 6; refine (NW.out _ _ h).mono ?_; clear h; rintro _ w ⟨b, M2, rfl, h, hle2, hn⟩; have hbf := hle2 _ _ hbf))
    | (go_at_call 7; refine (RM.out _ _ h).mono ?_; clear h; rintro _ w ⟨rfl, h⟩)
    | (go_at_call 8; refine (LI.out _ _ h).mono ?_; clear h; rintro _ w ⟨rfl, h⟩))
  go_ret
  exact ⟨rfl, h.le (Mm.le_trans hle hle2)⟩
set_option maxHeartbeats 2000000 in
set_option maxRecDepth 20000 in
theorem epAlone_many {σ w : World} {M : Mm} (h : Has σ M w) (c : Nat → Int) (hc : ConfMay c) {L B S : Nat} (hn : Nums c L B S) (A : Option Addr) (n cap : Nat) (hm : confMayB c = true) (h60 : 60 < n) :
    Calls Try.prog 3 #[confV c, .slice A n cap] w fun r w' => r = .returned (.bool true) ∧ Has σ M w' := by
  have NW := Lib.hid (fun (M' : Mm) (w : World) (h : Has σ M' w) => mNew_yes h c hc hn)
  have RM := Lib.hid (fun (M' : Mm) (w : World) (h : Has σ M' w) => refMay_has h c)
  have LI := Lib.hid (fun (M' : Mm) (w : World) (h : Has σ M' w) => ep_lives h)
  have hx : (ints .i64 14 c).extract 0 (0 + 14) = ints .i64 14 c := rfl
  have hz : (ints .i64 14 c).size = 14 := rfl
  have g60 : decide ((60 : Int) < (n : Int)) = true := decide_eq_true (by omega)
  have g60' : (60 : Int) < (n : Int) := by omega
  rw [hm] at RM
  unfold confV at NW RM ⊢
  generalize ints .i64 14 c = row at NW RM hx hz ⊢
  clear hm hc hn h60
  go_enter Try.func3, Try.ntmps3
  go_upto_region 1 with (fail)
  obtain ⟨M1, hbx, hle, hbf, hnf⟩ := h.box (.cells row 24)
  generalize w.alloc _ = wx at hbx ⊢
  generalize w.heap.size = bf at hbf hnf ⊢
  clear h
  try clear w
  have h := hbx
  clear hbx
  obtain ⟨w, rfl⟩ : ∃ x : World, x = wx := ⟨_, rfl⟩
  go_wp2_with (first
    | ((with_reducible show wpList _ _ _ ({ dst := _, op := Op.load 24 _, type := _, pos := _, after := _, guard := _ } :: _) _ _); refine wpList_agg_has h rfl 24 _ rfl rfl hbf hx hz Try.underlying24 rfl (by kernel_rfl) ?_; try simp only [Act.put, List.setIfInBounds_toArray, List.set_cons_zero, List.set_cons_succ])
    | ((go_at_call 6; refine (NW.out _ _ h).mono ?_; clear h; rintro _ w ⟨p, M2, lab2, s, rfl, h, hB2, hM2, hN⟩; have hle2 := hB2.le; clear hB2 hM2 hN; have hbf := hle2 _ _ hbf))
    | (go_at_call 7; refine (RM.out _ _ h).mono ?_; clear h; rintro _ w ⟨rfl, h⟩)
    | (go_at_call 8; refine (LI.out _ _ h).mono ?_; clear h; rintro _ w ⟨rfl, h⟩))
  go_ret
  exact ⟨rfl, h.le (Mm.le_trans hle hle2)⟩
theorem info_E : (Try.prog.info? 37).map (fun i => (i.zero, i.size, i.bytes)) = some (some (.agg (ints .u64 9 fun _ => 0)), 9, 72) := by kernel_rfl
theorem mk_E (N : Nat) (h : N ≤ 1000) (W : World) : (Instr.makeSlice 33 (.int .i64 N) (.int .i64 N)).run Try.prog W = .ok (.slice (some ⟨W.heap.size, 0, none⟩) N N) (W.alloc (.cells (ints .u64 (N * 9) fun _ => 0) 37)) := by
  obtain ⟨i, hi, he⟩ := Option.map_eq_some_iff.1 info_E
  simp only [Prod.mk.injEq] at he
  obtain ⟨h1, h2, h3⟩ := he
  rw [run_makeSlice W 33 37 i (.agg (ints .u64 9 fun _ => 0)) Try.underlying33 hi h1 .i64 .i64 N N (by omega) (by omega) (by rw [h2, Int.toNat_natCast]; omega) (by rw [h3]; omega) (by omega), Int.toNat_natCast, h2]
  show Result.ok _ (W.alloc (.cells (madeCells (ints .u64 9 fun _ => 0) (N * 9)) 37)) = _
  rw [made_zero .u64 9 N (by decide)]
/-- What the law has at first, up to level k. -/
def xFirst (k : Nat) : Nat → Int := fun i => if i % 9 = 0 ∧ i / 9 < k then 2 else 0
theorem xFirst_succ (k : Nat) : upd (xFirst k) (k * 9) 2 = xFirst (k + 1) := by
  funext i
  unfold upd xFirst
  by_cases h : i = k * 9
  · rw [if_pos h, if_pos (by omega)]
  · rw [if_neg h]
    by_cases h2 : i % 9 = 0 ∧ i / 9 < k
    · rw [if_pos h2, if_pos (by omega)]
    · rw [if_neg h2, if_neg (by omega)]
/-- The law's row is what the machine has. -/
def SameX (L : Nat) (e : EpG) (X : Nat → Int) : Prop := ∀ l, l < L → X (l * 9) = (e.ep l : Int) ∧ ∀ t, t < 8 → X (l * 9 + 1 + t) = (e.act l t : Int)
theorem SameX.first {L B S : Nat} : SameX L (e00 B S) (xFirst L) := fun l hl => by
  refine ⟨?_, fun t ht => ?_⟩
  · unfold xFirst; rw [if_pos (by omega)]; rfl
  · unfold xFirst; rw [if_neg (by omega), e00_act l ht]; rfl
theorem SameX.setE {L l v : Nat} {e : EpG} {X : Nat → Int} (h : SameX L e X) : SameX L (e.setE l v) (upd X (l * 9) (v : Nat)) := fun l' hl' => by
  obtain ⟨h1, h2⟩ := h l' hl'
  refine ⟨?_, fun t ht => ?_⟩
  · rw [setE_ep]
    unfold upd
    by_cases e : l' = l
    · rw [if_pos (by omega), if_pos e]
    · rw [if_neg (by omega), if_neg e]; exact h1
  · show _ = (e.act l' t : Int)
    unfold upd
    rw [if_neg (by omega)]; exact h2 t ht
theorem SameX.setA {L l t v : Nat} {e : EpG} {X : Nat → Int} (h : SameX L e X) (ht : t < 8) : SameX L (e.setA l t v) (upd X (l * 9 + 1 + t) (v : Nat)) := fun l' hl' => by
  obtain ⟨h1, h2⟩ := h l' hl'
  refine ⟨?_, fun u hu => ?_⟩
  · show _ = (e.ep l' : Int)
    unfold upd
    rw [if_neg (by omega)]; exact h1
  · rw [setA_act]
    unfold upd
    by_cases e : l' = l ∧ u = t
    · rw [if_pos (by omega), if_pos e]
    · rw [if_neg (by omega), if_neg e]; exact h2 u hu
theorem SameX.back {L t a : Nat} {e : EpG} {X : Nat → Int} (h : SameX L e X) : SameX L (e.back t a) X := h
theorem SameX.cells {L l : Nat} {e : EpG} {X : Nat → Int} (h : SameX L e X) (hl : l < L) : ∀ j, j < 9 → X (l * 9 + j) = eN (e.ep l) (fun t => e.act l t) j := fun j hj => by
  obtain ⟨h1, h2⟩ := h l hl
  unfold eN
  by_cases e : j = 0
  · subst e; rw [if_pos rfl]; exact h1
  · rw [if_neg e]
    have := h2 (j - 1) (by omega)
    rw [show l * 9 + 1 + (j - 1) = l * 9 + j by omega] at this
    exact this
def eKs : List Kd := List.replicate 9 (some (some .u64))
theorem fits_e (Y : Nat → Int) : fits eKs (ints .u64 9 Y).toList := ⟨rfl, rfl, rfl, rfl, rfl, rfl, rfl, rfl, rfl, trivial⟩
theorem sames_e (Y : Nat → Int) : sames (ints .u64 9 Y).toList (ints .u64 9 Y).toList = true := by
  show ((Y 0 == Y 0) && ((Y 1 == Y 1) && ((Y 2 == Y 2) && ((Y 3 == Y 3) && ((Y 4 == Y 4) && ((Y 5 == Y 5) && ((Y 6 == Y 6) && ((Y 7 == Y 7) && ((Y 8 == Y 8) && true))))))))) = true
  simp
def Mm.nil : Mm := fun _ => none
theorem Mm.nil_le (M : Mm) : Mm.nil.le M := fun _ _ h => by cases h
/-- What always holds between the law's rounds. -/
structure AlE (L T i : Nat) (e : EpG) (X : Nat → Int) : Prop where
  same : SameX L e X
  idle : ∀ t, t < T → e.thr t = none
  ep : ∀ l, e.ep l ≤ 2 + i
  act : ∀ l t, t < 8 → e.act l t ≤ 2 * (2 + i) + 1
theorem AlE.up {L T i : Nat} {e : EpG} {X : Nat → Int} (h : AlE L T i e X) : AlE L T (i + 1) e X := ⟨h.same, h.idle, fun l => Nat.le_succ_of_le (h.ep l), fun l t ht => by have := h.act l t ht; omega⟩
theorem AlE.back {L T i : Nat} {e : EpG} {X : Nat → Int} (h : AlE L T i e X) (t a : Nat) : AlE L T i (e.back t a) X := by
  refine ⟨h.same, fun u hu => ?_, h.ep, h.act⟩
  show put1 e.thr t none u = none
  by_cases e1 : u = t
  · subst e1; rw [put1_same]
  · rw [put1_ne e1]; exact h.idle u hu
theorem AlE.setA {L T i l t v : Nat} {e : EpG} {X : Nat → Int} (h : AlE L T i e X) (ht : t < 8) (hv : v ≤ 2 * (2 + i) + 1) : AlE L T i (e.setA l t v) (upd X (l * 9 + 1 + t) (v : Nat)) := by
  refine ⟨h.same.setA ht, h.idle, h.ep, fun l' u hu => ?_⟩
  rw [setA_act]
  split
  · exact hv
  · exact h.act l' u hu
theorem AlE.setE {L T i l v : Nat} {e : EpG} {X : Nat → Int} (h : AlE L T i e X) (hv : v ≤ 2 + i) : AlE L T i (e.setE l v) (upd X (l * 9) (v : Nat)) := by
  refine ⟨h.same.setE, h.idle, fun l' => ?_, h.act⟩
  rw [setE_ep]
  split
  · exact hv
  · exact h.ep l'
set_option maxHeartbeats 4000000 in
set_option maxRecDepth 20000 in
theorem epAlone_long {σ w : World} {M : Mm} (h : Has σ M w) (c : Nat → Int) (hc : ConfMay c) {L B S T : Nat} (hn : Nums c L B S) (hT : c 1 = (T : Nat)) {A : Option Addr} {n cap : Nat} {lst : List (Int × Int)} (hr : Rd M 2 (.slice A n cap) n (lst.flatMap enc2)) (hl : lst.length = n) (h60 : n ≤ 60) :
    Calls Try.prog 3 #[confV c, .slice A n cap] w fun r w' => r = .returned (.bool true) ∧ Has σ M w' := by
  have NW := Lib.hid (fun (M' : Mm) (w : World) (h : Has σ M' w) => mNew_yes h c hc hn)
  have LI := Lib.hid (fun (M' : Mm) (w : World) (h : Has σ M' w) => ep_lives h)
  have AT := Lib.hid (fun (l : Nat) (M' : Mm) (w : World) (h : Has σ M' w) => refAt_eq h c l)
  have hx : (ints .i64 14 c).extract 0 (0 + 14) = ints .i64 14 c := rfl
  have hz : (ints .i64 14 c).size = 14 := rfl
  have r0 : (ints .i64 14 c)[0]? = some (.int .i64 (L : Nat)) := by rw [← hn.lev]; rfl
  have g60 : decide ((60 : Int) < (n : Int)) = false := decide_eq_false (by omega)
  have g60' : ¬ (60 : Int) < (n : Int) := by omega
  have hl0 := hn.l0
  have hT8 : 1 ≤ T ∧ T ≤ 8 := by have := hc.2.1; omega
  have MS := mk_E L (by omega)
  have HC := Lib.hid hc
  have HNU := Lib.hid hn
  have HT := Lib.hid hT
  have HR := Lib.hid hr
  have HL := Lib.hid hl
  have hn60 : n ≤ 60 := h60
  unfold confV at NW AT ⊢
  clear hc hn hT hr hl h60
  generalize hrw : ints .i64 14 c = row at NW AT hx hz r0 ⊢
  have HRW := Lib.hid hrw
  clear hrw
  go_enter Try.func3, Try.ntmps3
  go_upto_region 1 with (fail)
  obtain ⟨M1, hbx, hle1, hbf, hnf⟩ := h.box (.cells row 24)
  generalize w.alloc _ = wx at hbx ⊢
  generalize w.heap.size = bf at hbf hnf ⊢
  clear h
  try clear w
  have h := hbx
  clear hbx
  obtain ⟨w, rfl⟩ : ∃ x : World, x = wx := ⟨_, rfl⟩
  go_upto_region 4 with (first
    | ((with_reducible show wpList _ _ _ ({ dst := _, op := Op.load 24 _, type := _, pos := _, after := _, guard := _ } :: _) _ _); refine wpList_agg_has h rfl 24 _ rfl rfl hbf hx hz Try.underlying24 rfl (by kernel_rfl) ?_; try simp only [Act.put, List.setIfInBounds_toArray, List.set_cons_zero, List.set_cons_succ])
    | ((go_at_call 6; refine (NW.out _ _ h).mono ?_; clear h; rintro _ w ⟨p, M2, lab2, s, rfl, h, hB2, hM2, hN⟩)))
  obtain ⟨tp, HTP⟩ : ∃ tp, Hid (tp = s.tp) := ⟨_, rfl⟩
  have hA2 := absE_first HNU.out HC.out hN hM2.wsz
  rw [← HTP.out] at hA2
  obtain ⟨tlen, HTL⟩ : ∃ tl, Hid (tl = tp.length ∧ (tl : Int) = c 1) := ⟨_, Lib.hid ⟨rfl, by rw [HTP.out, hM2.tlen, hN.c]⟩⟩
  have hbf2 := hB2.le _ _ hbf
  have HM2 := Lib.hid hM2
  have HB2 := Lib.hid hB2
  have HA2 := Lib.hid hA2
  have HLE1 := Lib.hid hle1
  clear hM2 hB2 hN hA2 HTP NW hle1 hnf
  go_upto_region 5 with (first
    | (with_reducible show wpList _ _ _ ({ dst := _, op := Op.load 3 _, type := _, pos := _, after := _, guard := _ } :: _) _ _; refine wpList_load1_has h rfl 3 _ rfl rfl hbf2 r0 Try.underlying3 rfl ?_))
  clear MS
  obtain ⟨M3, hbx, hle3, hxb, hnx⟩ := h.box (.cells (ints .u64 (L * 9) fun _ => 0) 37)
  generalize w.alloc _ = wx at hbx ⊢
  generalize w.heap.size = bx at hxb hnx ⊢
  clear h
  try clear w
  have h := hbx
  clear hbx
  obtain ⟨w, rfl⟩ : ∃ x : World, x = wx := ⟨_, rfl⟩
  have hO3 : Own (outK M1 M2 (fun _ => 0) 1) M3 37 9 (.slice (some ⟨bx, 0, none⟩) L L) L (intsL .u64 (L * 9) (xFirst 0)) := by
    rw [outK_self (fun c o hc => by show (0 : Nat) ≠ 1; decide)]
    have e0 : xFirst 0 = fun _ => 0 := by funext i; unfold xFirst; rw [if_neg (by omega)]
    rw [e0]
    exact ⟨intsL_len _ _ _, .inr ⟨bx, L, _, rfl, hnx, hxb, Nat.le_refl _, by unfold maxLen; omega, ints_size _ _ _, List.take_of_length_le (by rw [Array.length_toList, ints_size]; exact Nat.le_refl _)⟩⟩
  obtain ⟨lab3, K3, labK3, hM3, hB3, hK3, hR3⟩ := HM2.out.rowTo HB2.out (by rw [outK_self (fun c o hc => by show (0 : Nat) ≠ 1; decide)]; exact hle3) hO3
  have hS3 : M1.le (stable K3 labK3) := fun c o hc => by
    obtain ⟨a, b⟩ := hK3 c o hc (by show ¬ (0 : Nat) = 1; decide)
    unfold stable
    rw [if_pos (show labK3 c = 0 from b)]
    exact a
  have HM3 := Lib.hid hM3
  have HB3 := Lib.hid hB3
  have HS3 := Lib.hid hS3
  have HR3 := Lib.hid hR3
  clear hO3 hM3 hB3 hK3 hR3 hS3 hbf2 hle3 hxb hnx HM2 HB2
  go_upto_region 6 with (fail)
  go_loopw [8] (fun u wr => ∃ (k : Nat) (M : Mm) (lab : Nat → Nat) (K : Mm) (labK : Nat → Nat), k ≤ L ∧ u = .int .i64 (k : Nat) ∧ Has σ M wr ∧ Mach M lab p s ∧ Base K M lab ∧ M1.le (stable K labK) ∧ Row K labK 1 37 9 (.slice (some ⟨bx, 0, none⟩) L L) L (intsL .u64 (L * 9) (xFirst k))) (fun u _ => L - (intOf u).toNat)
  case atStart => exact ⟨0, M3, lab3, K3, labK3, Nat.zero_le _, rfl, h, HM3.out, HB3.out, HS3.out, HR3.out⟩
  case round =>
    clear h w HM3 HB3 HS3 HR3 lab3 K3 labK3 M3 M2 lab2
    obtain ⟨w, rfl⟩ : ∃ x : World, x = wr := ⟨_, rfl⟩
    obtain ⟨k, M2, lab2, K2, labK2, hk, rfl, h, hM2, hB2, hS2, hR2⟩ := hrel
    have hbf2 := hB2.le _ _ (stable_le _ _ _ _ (hS2 _ _ hbf))
    by_cases hlt : k < L
    · have hO := hR2.up hB2.le
      have hOle := outK_le K2 M2 labK2 1
      have HM2 := Lib.hid hM2
      have HB2 := Lib.hid hB2
      have HS2 := Lib.hid hS2
      have HLT := Lib.hid hlt
      have hlt' : (k : Int) < (L : Int) := by omega
      have wk : IntKind.i64.wrap ((k : Int) + 1) = ((k + 1 : Nat) : Int) := by rw [show (k : Int) + 1 = ((k + 1 : Nat) : Int) by omega]; exact IntWalk.i64_in _ (by omega)
      have hcell : k * 9 < L * 9 := by omega
      clear hM2 hB2 hS2 hR2 hlt hk
      go_upto_region 8 with (first
        | (with_reducible show wpList _ _ _ ({ dst := _, op := Op.load 3 _, type := _, pos := _, after := _, guard := _ } :: _) _ _; refine wpList_load1_has h rfl 3 _ rfl rfl hbf2 r0 Try.underlying3 rfl ?_))
      go_wp2_with (first
        | ((with_reducible show wpList _ _ _ ({ dst := _, op := Op.store 34 _ _, type := _, pos := _, after := _, guard := _ } :: _) _ _); refine wpList_putCell h hOle hO rfl 34 _ _ rfl rfl (k := k * 9) rfl hcell (u := .int .u64 2) rfl rfl (by kernel_rfl) ?_; clear h hOle hO; intro w M5 h hle5 hown5))
      rw [intsL_set, xFirst_succ] at hown5
      obtain ⟨lab5, K5, labK5, hM5, hB5, hK5, hR5⟩ := HM2.out.rowTo HB2.out hle5 hown5
      go_roundw
      case rel => exact ⟨k + 1, M5, lab5, K5, labK5, by have := HLT.out; omega, by go_num, h, hM5, hB5, Mm.le_trans HS2.out (stable_kp hK5 (by omega)), hR5⟩
      case measure => have := HLT.out; simp [intOf]; omega
    · obtain rfl : L = k := by omega
      have hlt' : ¬ (L : Int) < (L : Int) := by omega
      have HM2 := Lib.hid hM2
      have HB2 := Lib.hid hB2
      have HS2 := Lib.hid hS2
      have HR2 := Lib.hid hR2
      clear hM2 hB2 hS2 hR2 hlt hk
      go_upto_region 10 with (first
        | (with_reducible show wpList _ _ _ ({ dst := _, op := Op.load 3 _, type := _, pos := _, after := _, guard := _ } :: _) _ _; refine wpList_load1_has h rfl 3 _ rfl rfl hbf2 r0 Try.underlying3 rfl ?_))
      clear hbf2
      go_loopw [9] (fun u wr => ∃ (i : Nat) (M : Mm) (lab : Nat → Nat) (K : Mm) (labK : Nat → Nat) (s : MachS) (X : Nat → Int) (m : Nat) (e : EpG), i ≤ n ∧ u = .int .i64 (i : Nat) ∧ Has σ M wr ∧ Mach M lab p s ∧ Base K M lab ∧ M1.le (stable K labK) ∧ Row K labK 1 37 9 (.slice (some ⟨bx, 0, none⟩) L L) L (intsL .u64 (L * 9) X) ∧ m ≤ 20 * i ∧ AbsE c tp m s e ∧ AlE L T i e X) (fun u _ => n - (intOf u).toNat)
      case atStart => exact ⟨0, M2, lab2, K2, labK2, s, xFirst L, 0, _, Nat.zero_le _, rfl, h, HM2.out, HB2.out, HS2.out, HR2.out, Nat.le_refl _, HA2.out, ⟨SameX.first, fun t _ => rfl, fun l => Nat.le_refl _, fun l t ht => by rw [e00_act l ht]; omega⟩⟩
      case round =>
        clear h w HM2 HB2 HS2 HR2 HA2 lab2 K2 labK2 M2
        obtain ⟨w, rfl⟩ : ∃ x : World, x = wr := ⟨_, rfl⟩
        obtain ⟨i, M2, lab2, K2, labK2, s, X, m, e, hi, rfl, h, hM2, hB2, hS2, hR2, hm, hA2, hE2⟩ := hrel
        have hle12 := Mm.le_trans hS2 (Mm.le_trans (stable_le _ _) hB2.le)
        have hbf2 := hle12 _ _ hbf
        have HM2 := Lib.hid hM2
        have HB2 := Lib.hid hB2
        have HS2 := Lib.hid hS2
        have HR2 := Lib.hid hR2
        have HA2 := Lib.hid (⟨hm, hA2, hE2⟩ : m ≤ 20 * i ∧ AbsE c tp m s e ∧ AlE L T i e X)
        have HLE12 := Lib.hid hle12
        clear hM2 hB2 hS2 hR2 hm hA2 hE2 hle12
        by_cases hlt : i < n
        · have hrd : Rd M2 2 (.slice A n cap) n (lst.flatMap enc2) := HR.out.le (Mm.le_trans HLE1.out HLE12.out)
          obtain ⟨en, he⟩ : ∃ e, lst[i]? = some e := ⟨_, List.getElem?_eq_getElem (by rw [HL.out]; exact hlt)⟩
          obtain ⟨bl, ol, cl, csl, tl2, fzl, hle, hbl, hcl⟩ := hrd.elem (enc := enc2) (fun _ => rfl) hlt he
          obtain ⟨et, ew⟩ := en
          have e0 : csl[ol + i * 2 + 0]? = some (.int .i64 et) := hcl 0 _ rfl
          have e1 : csl[ol + i * 2 + 1]? = some (.int .i64 ew) := hcl 1 _ rfl
          rw [Nat.add_zero] at e0
          cases hle
          have hlt' : (i : Int) < (n : Int) := by omega
          have wi : IntKind.i64.wrap ((i : Int) + 1) = ((i + 1 : Nat) : Int) := by rw [show (i : Int) + 1 = ((i + 1 : Nat) : Int) by omega]; exact IntWalk.i64_in _ (by omega)
          have HLT := Lib.hid hlt
          have LV := Lib.hid (fun (w : World) (h : Has σ M2 w) => mLevel_eq h HM2.out et)
          rw [HA2.out.2.1.cc] at LV
          clear hcl hrd he hlt hi
          by_cases htt : 0 ≤ et ∧ et < (T : Int)
          · obtain ⟨tn, rfl⟩ : ∃ tn : Nat, et = (tn : Nat) := ⟨et.toNat, by omega⟩
            have htn : tn < T := by omega
            obtain ⟨elv, ll⟩ := levT_of HC.out HNU.out HT.out htn
            rw [elv] at LV
            obtain ⟨lv, hlv⟩ : ∃ lv, levT c tn = lv := ⟨_, rfl⟩
            rw [hlv] at ll elv LV
            obtain ⟨q, hq⟩ : ∃ q, tp[tn]? = some q := ⟨_, List.getElem?_eq_getElem (by have h1 := HTL.out; have h2 := HT.out; omega)⟩
            have g0 : ¬ (lv : Int) < 0 := by omega
            have hll : (lv : Int) < (L : Int) := by omega
            have ht8 : (tn : Int) < 8 := by omega
            have HQ := Lib.hid hq
            have HTN := Lib.hid htn
            have HLV := Lib.hid hlv
            clear htt hq htn elv hlv
            have AT2 := Lib.hid (fun (w : World) (h : Has σ M2 w) => AT.out lv M2 w h)
            have nl8 : (atR c lv 8).length ≤ 8 := atR_le _ _ _
            have HNL : Hid (atR c lv 8 = atL T (levT c) lv) := Lib.hid (by rw [atR_all HC.out HNU.out HT.out, atC_atL HC.out HNU.out HT.out])
            obtain ⟨nl, hnl⟩ : ∃ nl, (atR c lv 8).length = nl := ⟨_, rfl⟩
            rw [hnl] at AT2 nl8
            have wn : IntKind.i64.wrap ((nl : Int) + 2) = ((nl + 2 : Nat) : Int) := by rw [show (nl : Int) + 2 = ((nl + 2 : Nat) : Int) by omega]; exact IntWalk.i64_in _ (by omega)
            have HNN := Lib.hid hnl
            clear hnl
            go_upto_region 16 with (first
              | (with_reducible show wpList _ _ _ ({ dst := _, op := Op.load 3 _, type := _, pos := _, after := _, guard := _ } :: _) _ _; refine wpList_load1_has h rfl 3 _ rfl rfl hbl e0 Try.underlying3 rfl ?_)
              | (go_at_call 9; refine (LV.out _ h).mono ?_; clear h; rintro _ w ⟨rfl, h⟩)
              | ((with_reducible show wpList _ _ _ ({ dst := _, op := Op.load 24 _, type := _, pos := _, after := _, guard := _ } :: _) _ _); refine wpList_agg_has h rfl 24 _ rfl rfl hbf2 hx hz Try.underlying24 rfl (by kernel_rfl) ?_; try simp only [Act.put, List.setIfInBounds_toArray, List.set_cons_zero, List.set_cons_succ])
              | ((go_at_call 10; refine (AT2.out _ h).mono ?_; clear h; rintro _ w ⟨v, rfl, M3, h, hle3, hown3⟩; obtain ⟨Av, cv, rfl⟩ := hown3.form; clear hown3)))
            have hM3 := HM2.out.keep (Kp.le hle3 fun _ => 0) fun _ _ h => h
            have hB3 := HB2.out.keep (Kp.le hle3 fun _ => 0) fun h => h
            have hbl3 := hle3 _ _ hbl
            have hbf3 := hle3 _ _ hbf2
            have HM3 := Lib.hid hM3
            have HB3 := Lib.hid hB3
            have hO := HR2.out.up hB3.le
            have hOle := outK_le K2 M3 labK2 1
            obtain ⟨curX, hgX, hcX⟩ := Own.at_ HR2.out
            have hgX3 := hB3.le _ _ hgX
            have hsame := HA2.out.2.2.same
            have eE : curX[lv * 9]? = some (.int .u64 (e.ep lv : Nat)) := by
              rw [← (hsame lv ll).1]
              exact hcX _ _ (intsL_get (by omega))
            have hep : e.ep lv ≤ 62 := by have := HA2.out.2.2.ep lv; have := HLT.out; omega
            have HSX := Lib.hid hsame
            have HCX := Lib.hid hcX
            clear hM3 hB3 AT2 LV hgX hcX hsame hbl hbf2 HM2 HB2
            have hcell : lv * 9 + 1 + tn < L * 9 := by have := hT8.2; omega
            have hcell0 : lv * 9 < L * 9 := by omega
            have HAE := Lib.hid HA2.out.2.2.up
            go_upto_block 4 with (first
              | (with_reducible show wpList _ _ _ ({ dst := _, op := Op.load 3 _, type := _, pos := _, after := _, guard := _ } :: _) _ _; refine wpList_load1_has h rfl 3 _ rfl rfl hbl3 e1 Try.underlying3 rfl ?_))
            simp only [Act.put, List.setIfInBounds_toArray, List.set_cons_zero, List.set_cons_succ]
            go_cut [12, 13, 14] from 74 to 117 (fun u12 u13 u14 wx => ∃ (fn most told : Nat) (X3 : Nat → Int) (e3 : EpG) (M4 : Mm) (lab4 : Nat → Nat) (K4 : Mm) (labK4 : Nat → Nat), u12 = .int .i64 (fn : Nat) ∧ u13 = .int .i64 (most : Nat) ∧ u14 = .int .u64 (told : Nat) ∧ Has σ M4 wx ∧ Mach M4 lab4 p s ∧ Base K4 M4 lab4 ∧ M1.le (stable K4 labK4) ∧ Row K4 labK4 1 37 9 (.slice (some ⟨bx, 0, none⟩) L L) L (intsL .u64 (L * 9) X3) ∧ AlE L T (i + 1) e3 X3 ∧ e3.t0 tn = told ∧ ∀ w : World, Has σ M4 w → Calls Try.prog 13 #[.pointer (some ⟨p, 0, none⟩), .int .i64 (tn : Nat), (.func (.func 14) #[] #[]), .int .i64 (most : Nat), .int .i64 (fn : Nat), .slice none 0 0] w fun r w' => ∃ k : Nat, r = .returned (.int .i64 (k : Nat)) ∧ 0 < k ∧ k ≤ 20 ∧ ∃ M' lab' s', Has σ M' w' ∧ Mach M' lab' p s' ∧ Base K4 M' lab' ∧ AbsE c tp (m + k) s' e3)
            case first =>
              as_aux_lemma =>
                by_cases h0 : ew = 0
                · subst h0
                  go_upto_region 24 with (first
                    | (with_reducible show wpList _ _ _ ({ dst := _, op := Op.load 34 _, type := _, pos := _, after := _, guard := _ } :: _) _ _; refine wpList_load1_has h rfl 34 _ rfl rfl hgX3 eE Try.underlying34 rfl ?_))
                  have AC := Lib.hid (fun (w : World) => refActive_any (e.ep lv) (by omega) w)
                  refine wp_region_held_drew (S := Has σ (Mm.nil)) (by kernel_rfl) (h.drew.le (Mm.nil_le _)) (fun hHeld => ?_)
                  refine wpAnyH_take (i := 0) (v := ?_) rfl (by kernel_rfl) (by kernel_rfl) (by kernel_rfl) (fun _ _ _ h => h) (Or.inl ⟨by rfl, ?_⟩) hHeld ?_
                  rotate_left
                  · (intro wz _; go_simp; try with_reducible rfl)
                  try simp only [List.getElem_toArray, List.getElem_cons_succ, List.getElem_cons_zero, Act.put, List.setIfInBounds_toArray, List.set_cons_zero, List.set_cons_succ]
                  refine wpAnyH_take (i := 1) (v := ?_) rfl (by kernel_rfl) (by kernel_rfl) (by kernel_rfl) (fun _ _ _ h => h) (Or.inl ⟨by rfl, ?_⟩) hHeld ?_
                  rotate_left
                  · (intro wz _; go_simp; try with_reducible rfl)
                  try simp only [List.getElem_toArray, List.getElem_cons_succ, List.getElem_cons_zero, Act.put, List.setIfInBounds_toArray, List.set_cons_zero, List.set_cons_succ]
                  refine wpAnyH_take (i := 2) (v := ?_) rfl (by kernel_rfl) (by kernel_rfl) (by kernel_rfl) (fun _ _ _ h => h) (Or.inl ⟨by rfl, ?_⟩) hHeld ?_
                  rotate_left
                  · (intro wz _; go_simp; try with_reducible rfl)
                  try simp only [List.getElem_toArray, List.getElem_cons_succ, List.getElem_cons_zero, Act.put, List.setIfInBounds_toArray, List.set_cons_zero, List.set_cons_succ]
                  refine wpAnyH_take (i := 3) (v := ?_) rfl (by kernel_rfl) (by kernel_rfl) (by kernel_rfl) (fun _ _ _ h => h) (Or.inl ⟨by rfl, ?_⟩) hHeld ?_
                  rotate_left
                  · (intro wz _; go_simp; try with_reducible rfl)
                  try simp only [List.getElem_toArray, List.getElem_cons_succ, List.getElem_cons_zero, Act.put, List.setIfInBounds_toArray, List.set_cons_zero, List.set_cons_succ]
                  refine wpAnyH_take (i := 5) (v := ?_) rfl (by kernel_rfl) (by kernel_rfl) (by kernel_rfl) (fun _ _ _ h => h) (Or.inl ⟨by rfl, ?_⟩) hHeld ?_
                  rotate_left
                  · (intro wz _; go_simp; try with_reducible rfl)
                  try simp only [List.getElem_toArray, List.getElem_cons_succ, List.getElem_cons_zero, Act.put, List.setIfInBounds_toArray, List.set_cons_zero, List.set_cons_succ]
                  refine wpAnyH_take (i := 6) (v := ?_) rfl (by kernel_rfl) (by kernel_rfl) (by kernel_rfl) (fun _ _ _ h => h) (Or.inl ⟨by rfl, ?_⟩) hHeld ?_
                  rotate_left
                  · (intro wz _; go_simp; try with_reducible rfl)
                  try simp only [List.getElem_toArray, List.getElem_cons_succ, List.getElem_cons_zero, Act.put, List.setIfInBounds_toArray, List.set_cons_zero, List.set_cons_succ]
                  replace h := h.drew
                  generalize w.drew = wq at h hHeld ⊢
                  clear w
                  obtain ⟨w, rfl⟩ : ∃ q : World, q = wq := ⟨_, rfl⟩
                  refine wpAnyH_ready (rs := [4]) (by kernel_rfl) (by simp) ?_
                  refine AllReadyH.cons rfl (fun K hK => ?_) AllReadyH.nil
                  (go_simp; go_wp2_with (go_at_call 11; refine (AC.out _).mono ?_; rintro _ w' ⟨rfl, rfl⟩))
                  refine hK.out _ _ ((h.le (Mm.nil_le _))) (fun hHeld => ?_)
                  clear hK K
                  try simp only [Act.put, List.setIfInBounds_toArray, List.set_cons_zero, List.set_cons_succ]
                  refine wpAnyH_take (i := 7) (v := ?_) rfl (by kernel_rfl) (by kernel_rfl) (by kernel_rfl) (fun _ _ _ h => h) (Or.inl ⟨by rfl, ?_⟩) hHeld ?_
                  rotate_left
                  · (intro wz _; go_simp; try with_reducible rfl)
                  try simp only [List.getElem_toArray, List.getElem_cons_succ, List.getElem_cons_zero, Act.put, List.setIfInBounds_toArray, List.set_cons_zero, List.set_cons_succ]
                  refine wpAnyH_ready (rs := [8]) (by kernel_rfl) (by simp) ?_
                  refine AllReadyH.cons rfl (fun K hK => ?_) AllReadyH.nil
                  refine step_putCell h hOle hO rfl 34 _ _ rfl rfl (k := lv * 9 + 1 + tn) rfl hcell (u := .int .u64 (2 * e.ep lv + 1 : Nat)) rfl rfl (by kernel_rfl) ?_
                  clear h hHeld hO hOle
                  intro w M5 h hle5 hown5
                  refine hK.out _ _ (h.le (Mm.nil_le _)) (fun hHeld => ?_)
                  clear hK K hHeld
                  refine wpAnyH_done (by kernel_rfl) ?_ _
                  rw [intsL_set] at hown5
                  obtain ⟨lab5, K5, labK5, hM5, hB5, hK5, hR5⟩ := HM3.out.rowTo HB3.out hle5 hown5
                  have hEnd := h
                  clear h
                  go_wp2
                  go_meet
                  case rel =>
                    refine ⟨10, 3, e.ep lv, _, _, M5, lab5, K5, labK5, rfl, rfl, rfl, hEnd, hM5, hB5, Mm.le_trans HS2.out (stable_kp hK5 (by omega)), hR5, (HAE.out.setA (by have := hT8.2; omega) (by have := HA2.out.2.2.ep lv; omega)).back tn (e.ep lv), back_t0 _, fun w h => ?_⟩
                    have := ep_pin (t := tn) (most := 3) h hM5 hB5 HA2.out.2.1 HC.out HNU.out HT.out (by have := HA2.out.1; have := HLT.out; omega) HTN.out HQ.out (HA2.out.2.2.idle tn HTN.out) (by rw [HLV.out]; omega) (by omega) (by omega)
                    rw [HLV.out] at this
                    exact this
                · by_cases h1 : ew = 1
                  · subst h1
                    go_wp2_with (first
                      | ((with_reducible show wpList _ _ _ ({ dst := _, op := Op.store 34 _ _, type := _, pos := _, after := _, guard := _ } :: _) _ _); refine wpList_putCell h hOle hO rfl 34 _ _ rfl rfl (k := lv * 9 + 1 + tn) rfl hcell (u := .int .u64 0) rfl rfl (by kernel_rfl) ?_; clear h hOle hO; intro w M5 h hle5 hown5))
                    rw [intsL_set] at hown5
                    obtain ⟨lab5, K5, labK5, hM5, hB5, hK5, hR5⟩ := HM3.out.rowTo HB3.out hle5 hown5
                    have hEnd := h
                    clear h
                    go_meet
                    case rel =>
                      refine ⟨11, 1, 0, _, _, M5, lab5, K5, labK5, rfl, rfl, rfl, hEnd, hM5, hB5, Mm.le_trans HS2.out (stable_kp hK5 (by omega)), hR5, (HAE.out.setA (v := 0) (by have := hT8.2; omega) (by omega)).back tn 0, back_t0 _, fun w h => ?_⟩
                      have := ep_unpin (t := tn) (most := 1) h hM5 hB5 HA2.out.2.1 HC.out HNU.out HT.out (by have := HA2.out.1; have := HLT.out; omega) HTN.out HQ.out (HA2.out.2.2.idle tn HTN.out) (by omega) (by omega)
                      rw [HLV.out] at this
                      exact this
                  · have HX : curX.extract (lv * 9) (lv * 9 + 9) = ints .u64 9 (eN (e.ep lv) fun t => e.act lv t) := ints_part HCX.out (by omega) (HSX.out.cells ll)
                    have hz9 : (ints .u64 9 (eN (e.ep lv) fun t => e.act lv t)).size = 9 := rfl
                    obtain ⟨late, hlate⟩ : ∃ b, lateN (atL T (levT c) lv) lv e = b := ⟨_, rfl⟩
                    have LA : Hid (∀ w : World, Has σ M3 w → Calls Try.prog 12 #[.agg row, .agg (ints .u64 9 (eN (e.ep lv) fun t => e.act lv t)), .int .i64 (lv : Nat)] w fun r w' => r = .returned (.bool late) ∧ Has σ M3 w') := Lib.hid fun w h => by
                      have := refLate_eq h c HC.out HNU.out HT.out lv (e := e) (by omega) (fun y hy => by have := HA2.out.2.2.act lv y hy; have := HLT.out; omega)
                      unfold confV at this
                      rw [HRW.out, atC_atL HC.out HNU.out HT.out, hlate] at this
                      exact this
                    have HLA := Lib.hid hlate
                    clear hlate
                    have PA : Hid (∀ (M4 : Mm) (lab4 : Nat → Nat) (K4 : Mm), Mach M4 lab4 p s → Base K4 M4 lab4 → ∀ w : World, Has σ M4 w → Calls Try.prog 13 #[.pointer (some ⟨p, 0, none⟩), .int .i64 (tn : Nat), (.func (.func 14) #[] #[]), .int .i64 (nl + 2 : Nat), .int .i64 12, .slice none 0 0] w fun r w' => ∃ k : Nat, r = .returned (.int .i64 (k : Nat)) ∧ 0 < k ∧ k ≤ 20 ∧ ∃ M' lab' s', Has σ M' w' ∧ Mach M' lab' p s' ∧ Base K4 M' lab' ∧ AbsE c tp (m + k) s' (if late then e.back tn 0 else (e.setE lv (e.ep lv + 1)).back tn 1)) := Lib.hid fun M4 lab4 K4 hM4 hB4 w h => by
                      have := ep_adv (t := tn) (most := nl + 2) h hM4 hB4 HA2.out.2.1 HC.out HNU.out HT.out (by have := HA2.out.1; have := HLT.out; omega) HTN.out HQ.out (HA2.out.2.2.idle tn HTN.out) (by rw [HLV.out]; omega) (by rw [HLV.out, ← HNL.out, HNN.out]; exact Nat.le_refl _) (by omega)
                      rw [HLV.out] at this
                      unfold advE at this
                      rw [HLA.out] at this
                      exact this
                    generalize ints .u64 9 (eN (e.ep lv) fun t => e.act lv t) = erow at *
                    go_upto_region 17 with (fail)
                    refine wp_region_class (Has σ M3) (by kernel_rfl) (by kernel_rfl) h.drew ?_
                    clear h
                    repeat (first
                      | go_big_quiet_skip
                      | (go_big_quiet_want; first
                        | (refine quiet_agg_has 24 _ rfl rfl hbf3 hx hz Try.underlying24 rfl (by kernel_rfl) ?_; simp only [Act.put, List.setIfInBounds_toArray, List.set_cons_zero, List.set_cons_succ]; go_big_quiet_on)
                        | (refine quiet_agg_has 37 _ rfl rfl hgX3 HX hz9 Try.underlying37 rfl (by kernel_rfl) ?_; simp only [Act.put, List.setIfInBounds_toArray, List.set_cons_zero, List.set_cons_succ]; go_big_quiet_on)
                        | (go_big_quiet_op; first | go_big_quiet_on | go_big_quiet_call (first | with_reducible exact fun _ => rfl | with_reducible exact LA.out _))))
                    refine wpQuiet_nil ?_
                    try clear w
                    intro w h
                    cases late
                    · have wE : IntKind.u64.wrap ((e.ep lv : Int) + 1) = ((e.ep lv + 1 : Nat) : Int) := by rw [show (e.ep lv : Int) + 1 = ((e.ep lv + 1 : Nat) : Int) by omega]; exact IntWalk.u64_in _ (by omega)
                      go_wp2_with (first
                        | (with_reducible show wpList _ _ _ ({ dst := _, op := Op.load 34 _, type := _, pos := _, after := _, guard := _ } :: _) _ _; refine wpList_load1_has h rfl 34 _ rfl rfl hgX3 eE Try.underlying34 rfl ?_)
                        | ((with_reducible show wpList _ _ _ ({ dst := _, op := Op.store 34 _ _, type := _, pos := _, after := _, guard := _ } :: _) _ _); refine wpList_putCell h hOle hO rfl 34 _ _ rfl rfl (k := lv * 9) rfl hcell0 (u := .int .u64 (e.ep lv + 1 : Nat)) rfl rfl (by kernel_rfl) ?_; clear h hOle hO; intro w M5 h hle5 hown5))
                      rw [intsL_set] at hown5
                      obtain ⟨lab5, K5, labK5, hM5, hB5, hK5, hR5⟩ := HM3.out.rowTo HB3.out hle5 hown5
                      have hEnd := h
                      clear h
                      go_meet
                      case rel => exact ⟨12, nl + 2, 1, _, _, M5, lab5, K5, labK5, rfl, rfl, rfl, hEnd, hM5, hB5, Mm.le_trans HS2.out (stable_kp hK5 (by omega)), hR5, (HAE.out.setE (v := e.ep lv + 1) (by have := HA2.out.2.2.ep lv; omega)).back tn 1, back_t0 _, PA.out M5 lab5 K5 hM5 hB5⟩
                    · go_wp2
                      have hEnd := h
                      clear h
                      go_meet
                      case rel => exact ⟨12, nl + 2, 0, _, _, M3, _, K2, labK2, rfl, rfl, rfl, hEnd, HM3.out, HB3.out, HS2.out, HR2.out, HAE.out.back tn 0, back_t0 _, PA.out M3 _ K2 HM3.out HB3.out⟩
            case rest =>
              obtain ⟨fn, most, told, X3, e3, M4, lab4, K4, labK4, rfl, rfl, rfl, h4, hM4, hB4, hS4, hR4, hE4, hT4, hA4⟩ := hcut
              clear h hO hOle hbl3 hbf3 hgX3 eE hcell hcell0 HM3 HB3 HS2 HR2 HCX HSX HAE e0 e1 w hep
              obtain ⟨w, rfl⟩ : ∃ q : World, q = wc := ⟨_, rfl⟩
              have h := h4
              have HAL := Lib.hid hA4
              have HS4 := Lib.hid hS4
              have HR4 := Lib.hid hR4
              have HE4 := Lib.hid hE4
              have HT4 := Lib.hid hT4
              clear h4 hA4 hE4 hT4 hM4 hB4
              go_upto_region 32 with (first
                | ((go_at_call 13; refine (HAL.out _ h).mono ?_; clear h; rintro _ w ⟨k, rfl, kp, kb, M5, lab5, s5, h, hM5, hB5, hA5⟩; (have kg : ¬ (k : Int) < 0 := by omega); (have HQ5 : s5.tp[tn]? = some q := (by rw [hA5.ttp]; exact HQ.out)); (have TH := Lib.hid (fun (w : World) (h : Has σ M5 w) => mThread_yes (t := tn) h hM5 HQ5)); (obtain ⟨row5, ty5, hq5, d5⟩ := ep_told hM5 hA5 HQ.out); (rw [HT4.out] at d5)))
                | (go_at_call 15; refine (TH.out _ h).mono ?_; clear h; rintro _ w ⟨rfl, h⟩)
                | (with_reducible show wpList _ _ _ ({ dst := _, op := Op.load 34 _, type := _, pos := _, after := _, guard := _ } :: _) _ _; refine wpList_load1_has h rfl 34 _ rfl rfl hq5 d5 Try.underlying34 rfl ?_))
              have hbf5 := hB5.le _ _ (stable_le _ _ _ _ (hS4 _ _ hbf))
              obtain ⟨cur5, hg5, hc5⟩ := Own.at_ hR4
              have hg55 := hB5.le _ _ hg5
              have HC5 := Lib.hid hc5
              have NL := Lib.hid (fun (y : Nat) (hy : y < L) (w : World) (h : Has σ M5 w) => nowL_eq h hM5 hA5 HNU.out hy)
              have HM5 := Lib.hid hM5
              have HB5 := Lib.hid hB5
              have HA5 := Lib.hid hA5
              have HKB := Lib.hid kb
              clear hM5 hB5 hA5 hS4 hR4 hg5 hc5 TH hq5 d5 kg kp kb HAL HQ5
              go_loopw [15] (fun u wr => ∃ y : Nat, y ≤ L ∧ u = .int .i64 (y : Nat) ∧ Has σ M5 wr) (fun u _ => L - (intOf u).toNat)
              case atStart => exact ⟨0, Nat.zero_le _, rfl, h⟩
              case round =>
                clear h w
                obtain ⟨w, rfl⟩ : ∃ x : World, x = wr := ⟨_, rfl⟩
                obtain ⟨y, hy, rfl, h⟩ := hrel
                by_cases hyl : y < L
                · have hyl' : (y : Int) < (L : Int) := by omega
                  have wy : IntKind.i64.wrap ((y : Int) + 1) = ((y + 1 : Nat) : Int) := by rw [show (y : Int) + 1 = ((y + 1 : Nat) : Int) by omega]; exact IntWalk.i64_in _ (by omega)
                  have HX : cur5.extract (y * 9) (y * 9 + 9) = ints .u64 9 (eN (e3.ep y) fun t => e3.act y t) := ints_part HC5.out (by omega) (HE4.out.same.cells hyl)
                  have NY := Lib.hid (fun (w : World) (h : Has σ M5 w) => NL.out y hyl w h)
                  have HYL := Lib.hid hyl
                  generalize eN (e3.ep y) (fun t => e3.act y t) = Y at HX NY
                  have hz9 : (ints .u64 9 Y).size = 9 := rfl
                  have FX := Lib.hid (fits_e Y)
                  have SX := sames_e Y
                  generalize ints .u64 9 Y = erow at *
                  clear hyl hy
                  go_upto_region 34 with (first
                    | (with_reducible show wpList _ _ _ ({ dst := _, op := Op.load 3 _, type := _, pos := _, after := _, guard := _ } :: _) _ _; refine wpList_load1_has h rfl 3 _ rfl rfl hbf5 r0 Try.underlying3 rfl ?_))
                  refine wp_region_class (Has σ M5) (by kernel_rfl) (by kernel_rfl) h.drew ?_
                  clear h
                  repeat (first
                    | go_big_quiet_skip
                    | (go_big_quiet_want; first
                      | (refine quiet_agg_has 37 _ rfl rfl hg55 HX hz9 Try.underlying37 rfl (by kernel_rfl) ?_; simp only [Act.put, List.setIfInBounds_toArray, List.set_cons_zero, List.set_cons_succ]; go_big_quiet_on)
                      | (refine quiet_neq_flat 37 _ _ _ rfl rfl rfl 10 (by omega) (ks := eKs) (by kernel_rfl) rfl (by kernel_rfl) Try.underlying37 rfl (by kernel_rfl) FX.out FX.out ?_; rw [SX]; simp only [Act.put, List.setIfInBounds_toArray, List.set_cons_zero, List.set_cons_succ]; go_big_quiet_on)
                      | (go_big_quiet_op; first | go_big_quiet_on | go_big_quiet_call (first | with_reducible exact fun _ => rfl | with_reducible exact NY.out _))))
                  refine wpQuiet_nil ?_
                  try clear w
                  intro w h
                  go_wp2
                  go_roundw
                  case rel => exact ⟨y + 1, by have := HYL.out; omega, by go_num, h⟩
                  case measure => have := HYL.out; simp [intOf]; omega
                · obtain rfl : L = y := by omega
                  have hyl' : ¬ (L : Int) < (L : Int) := by omega
                  go_wp2_with (first
                    | (with_reducible show wpList _ _ _ ({ dst := _, op := Op.load 3 _, type := _, pos := _, after := _, guard := _ } :: _) _ _; refine wpList_load1_has h rfl 3 _ rfl rfl hbf5 r0 Try.underlying3 rfl ?_))
                  go_roundw
                  case rel => exact ⟨i + 1, M5, lab5, K4, labK4, s5, X3, m + k, e3, by have := HLT.out; omega, by first | rfl | (have := HLT.out; go_num), h, HM5.out, HB5.out, HS4.out, HR4.out, by have := HA2.out.1; have := HKB.out; omega, HA5.out, HE4.out⟩
                  case measure => have := HLT.out; simp [intOf]; omega
          · have eL := levT_out HT.out htt
            rw [eL] at LV
            clear htt
            go_wp2_with (first
              | (with_reducible show wpList _ _ _ ({ dst := _, op := Op.load 3 _, type := _, pos := _, after := _, guard := _ } :: _) _ _; refine wpList_load1_has h rfl 3 _ rfl rfl hbl e0 Try.underlying3 rfl ?_)
              | (go_at_call 9; refine (LV.out _ h).mono ?_; clear h; rintro _ w ⟨rfl, h⟩))
            go_roundw
            case rel => exact ⟨i + 1, M2, lab2, K2, labK2, s, X, m, e, by have := HLT.out; omega, by first | rfl | go_num, h, HM2.out, HB2.out, HS2.out, HR2.out, by have := HA2.out.1; omega, HA2.out.2.1, HA2.out.2.2.up⟩
            case measure => have := HLT.out; simp [intOf]; omega
        · obtain rfl : i = n := by omega
          have hlt3 : ¬ (i : Int) < (i : Int) := by omega
          have FT := Lib.hid (fun (w : World) (h : Has σ M2 w) => mFault_eq h HM2.out)
          rw [HA2.out.2.1.good] at FT
          go_wp2_with (first
            | (go_at_call 17; refine (FT.out _ h).mono ?_; clear h; rintro _ w ⟨rfl, h⟩)
            | (go_at_call 8; refine (LI.out _ _ h).mono ?_; clear h; rintro _ w ⟨rfl, h⟩))
          go_ret
          exact ⟨rfl, h.le (Mm.le_trans HLE1.out HLE12.out)⟩
end
end Go.Proofs.Ytjeeldacnllipaa
