/- Law 22, StockAlone: the law's walk. -/
import Derived.Test.YtefjjagejgeedaaAloD
namespace Go.Proofs.Ytefjjagejgeedaa
section
open Go.RowKit
set_option linter.unusedVariables false
set_option linter.unusedSimpArgs false
set_option linter.unnecessarySimpa false
set_option maxHeartbeats 2000000 in
set_option maxRecDepth 20000 in
theorem stAlone_no {σ w : World} {M : Mm} (h : Has σ M w) (c : Nat → Int) (A : Option Addr) (n cap : Nat) (hm : confMayB c = false) :
    Calls Try.prog 4 #[confV c, .slice A n cap] w fun r w' => r = .returned (.bool true) ∧ Has σ M w' := by
  have NW := Lib.hid (fun (M' : Mm) (w : World) (h : Has σ M' w) => mNew_no h c hm)
  have RM := Lib.hid (fun (M' : Mm) (w : World) (h : Has σ M' w) => refMay_has h c)
  have LI := Lib.hid (fun (M' : Mm) (w : World) (h : Has σ M' w) => lives_eq h)
  have hx : (ints .i64 14 c).extract 0 (0 + 14) = ints .i64 14 c := rfl
  have hz : (ints .i64 14 c).size = 14 := rfl
  unfold errV at NW
  rw [hm] at RM
  unfold confV at NW RM ⊢
  generalize ints .i64 14 c = row at NW RM hx hz ⊢
  clear hm
  go_enter Try.func4, Try.ntmps4
  go_upto_region 1 with (fail)
  obtain ⟨M1, hbx, hle, hbf, hnf⟩ := h.box (.cells row 24)
  generalize w.alloc _ = wx at hbx ⊢
  generalize w.heap.size = bf at hbf hnf ⊢
  clear h
  try clear w
  have h := hbx
  clear hbx
  obtain ⟨w, rfl⟩ : ∃ x : World, x = wx := ⟨_, rfl⟩
  go_wp2_with (first
    | ((with_reducible show wpList _ _ _ ({ dst := _, op := Op.load 24 _, type := _, pos := _, after := _, guard := _ } :: _) _ _); refine wpList_agg_has h rfl 24 _ rfl rfl hbf hx hz Try.underlying24 rfl (by kernel_rfl) ?_; try simp only [Act.put, List.setIfInBounds_toArray, List.set_cons_zero, List.set_cons_succ])
    | ((go_at_call 7; refine (NW.out _ _ h).mono ?_; clear h; rintro _ w ⟨b, M2, rfl, h, hle2, hn⟩; have hbf := hle2 _ _ hbf))
    | (go_at_call 8; refine (RM.out _ _ h).mono ?_; clear h; rintro _ w ⟨rfl, h⟩)
    | (go_at_call 9; refine (LI.out _ _ h).mono ?_; clear h; rintro _ w ⟨rfl, h⟩))
  go_ret
  exact ⟨rfl, h.le (Mm.le_trans hle hle2)⟩
set_option maxHeartbeats 2000000 in
set_option maxRecDepth 20000 in
theorem stAlone_many {σ w : World} {M : Mm} (h : Has σ M w) (c : Nat → Int) (hc : ConfMay c) {L B S : Nat} (hn : Nums c L B S) (A : Option Addr) (n cap : Nat) (hm : confMayB c = true) (h60 : 60 < n) :
    Calls Try.prog 4 #[confV c, .slice A n cap] w fun r w' => r = .returned (.bool true) ∧ Has σ M w' := by
  have NW := Lib.hid (fun (M' : Mm) (w : World) (h : Has σ M' w) => mNew_yes h c hc hn)
  have RM := Lib.hid (fun (M' : Mm) (w : World) (h : Has σ M' w) => refMay_has h c)
  have LI := Lib.hid (fun (M' : Mm) (w : World) (h : Has σ M' w) => lives_eq h)
  have hx : (ints .i64 14 c).extract 0 (0 + 14) = ints .i64 14 c := rfl
  have hz : (ints .i64 14 c).size = 14 := rfl
  have g60 : decide ((60 : Int) < (n : Int)) = true := decide_eq_true (by omega)
  have g60' : (60 : Int) < (n : Int) := by omega
  rw [hm] at RM
  unfold confV at NW RM ⊢
  generalize ints .i64 14 c = row at NW RM hx hz ⊢
  clear hm hc hn h60
  go_enter Try.func4, Try.ntmps4
  go_upto_region 1 with (fail)
  obtain ⟨M1, hbx, hle, hbf, hnf⟩ := h.box (.cells row 24)
  generalize w.alloc _ = wx at hbx ⊢
  generalize w.heap.size = bf at hbf hnf ⊢
  clear h
  try clear w
  have h := hbx
  clear hbx
  obtain ⟨w, rfl⟩ : ∃ x : World, x = wx := ⟨_, rfl⟩
  go_wp2_with (first
    | ((with_reducible show wpList _ _ _ ({ dst := _, op := Op.load 24 _, type := _, pos := _, after := _, guard := _ } :: _) _ _); refine wpList_agg_has h rfl 24 _ rfl rfl hbf hx hz Try.underlying24 rfl (by kernel_rfl) ?_; try simp only [Act.put, List.setIfInBounds_toArray, List.set_cons_zero, List.set_cons_succ])
    | ((go_at_call 7; refine (NW.out _ _ h).mono ?_; clear h; rintro _ w ⟨p, M2, lab2, s, rfl, h, hB2, hM2, hN⟩; have hle2 := hB2.le; clear hB2 hM2 hN; have hbf := hle2 _ _ hbf))
    | (go_at_call 8; refine (RM.out _ _ h).mono ?_; clear h; rintro _ w ⟨rfl, h⟩)
    | (go_at_call 9; refine (LI.out _ _ h).mono ?_; clear h; rintro _ w ⟨rfl, h⟩))
  go_ret
  exact ⟨rfl, h.le (Mm.le_trans hle hle2)⟩
theorem info_F : (Try.prog.info? 49).map (fun i => (i.zero, i.size, i.bytes)) = some (some (.agg #[.slice none 0 0, .slice none 0 0]), 2, 48) := by kernel_rfl
theorem info_ints : (Try.prog.info? 47).map (fun i => (i.zero, i.size, i.bytes)) = some (some (.slice none 0 0), 1, 24) := by kernel_rfl
def nils (n : Nat) : List Value := (List.range n).map fun _ => .slice none 0 0
theorem made_ints (n : Nat) : madeCells (Value.slice none 0 0).cells (n * 1) = (nils n).toArray := by
  apply Array.ext_getElem?
  intro i
  unfold madeCells nils
  by_cases hi : i < n
  · simp [Value.cells, hi, Nat.mod_one]
  · simp [Value.cells, hi]
theorem mk_ints (N : Nat) (h : N ≤ 1000) (W : World) : (Instr.makeSlice 46 (.int .i64 N) (.int .i64 N)).run Try.prog W = .ok (.slice (some ⟨W.heap.size, 0, none⟩) N N) (W.alloc (.cells (nils N).toArray 47)) := by
  obtain ⟨i, hi, he⟩ := Option.map_eq_some_iff.1 info_ints
  simp only [Prod.mk.injEq] at he
  obtain ⟨h1, h2, h3⟩ := he
  rw [run_makeSlice W 46 47 i (.slice none 0 0) Try.underlying46 hi h1 .i64 .i64 N N (by omega) (by omega) (by rw [h2, Int.toNat_natCast]; omega) (by rw [h3]; omega) (by omega), Int.toNat_natCast, h2, made_ints]
def enc2 (x : Int × Int) : List Value := [.int .i64 x.1, .int .i64 x.2]
/-- One element of a row of the call's own is stored, at a step of a region that draws. -/
theorem step_putRow {P : Program} {op : Oper} {a : Act} {ops : Array Oper} {σ w : World} {M M0 : Mm} {Q : Exit → Act → World → Prop} {K : Act → World → Prop} {E : Prop} {α : Type} {enc : α → List Value} {e : TypeId} {sz n g cap : Nat} {L : List α} (hen : ∀ x, (enc x).length = sz) (h : Has σ M w) (hle : M0.le M) (hown : Own M0 M e sz (.slice (some ⟨g, 0, none⟩) n cap) n (L.flatMap enc)) (hL : L.length = n)
    (hgd : op.guard = none) (t : TypeId) (x y : Operand) (ho : op.op = .store t x y) (hdst : op.dst = none) {k : Nat} (hx : a.eval x = .pointer (some ⟨g, k * sz, none⟩)) {cells : Array Value} (hy : a.eval y = .agg cells) (hk : k < n) (z : α) (hz : cells.toList = enc z) (h1 : ∀ u ∈ enc z, u.oneCell' = true)
    (hi : (P.info? t).map (·.size) = some sz)
    (hK : ∀ w' M', Has σ M' w' → M0.le M' → Own M0 M' e sz (.slice (some ⟨g, 0, none⟩) n cap) n ((L.set k z).flatMap enc) → K a w') : if Region.wanted op (yielded ops a.tmps) = true then Oper.wp P op a w K Q else E := by
  have hw : Region.wanted op (yielded ops a.tmps) = true := by simp [Region.wanted, hgd]
  rw [if_pos hw]
  obtain ⟨M', hh, hle', hown'⟩ := Own.putRow hen h hle hown (k := k) (by omega) z hL
  have hsz : cells.size = sz := by have := congrArg List.length hz; simpa [hen] using this
  refine wp_store_mid t x y ho g (k * sz) cells hx hy ?_ (by rw [hi, hsz]) (by rw [Array.all_eq_true_iff_forall_mem]; exact fun u hu => h1 u (by rw [← hz]; simpa using hu)) ?_
  · intro j hj
    obtain ⟨_, ⟨hv, _⟩ | ⟨g', cap', cur, hv, hg, hM, hc, hm, hs, ht⟩⟩ := hown
    · cases hv
    · cases hv
      have : k * sz + j < cur.size := by
        rw [hs]
        have : (k + 1) * sz ≤ cap * sz := Nat.mul_le_mul_right _ (by omega)
        rw [Nat.add_mul, Nat.one_mul] at this
        omega
      exact ⟨by rw [h.cell hM, Array.getElem?_eq_getElem this]; rfl, h.free hM _⟩
  · rw [hdst, hz]
    exact hK _ _ hh hle' hown'
theorem natv_erase (l : List Nat) (k : Nat) : natv (l.eraseIdx k) = (natv l).take k ++ (natv l).drop (k + 1) := by
  unfold natv
  rw [List.eraseIdx_eq_take_drop_succ, List.map_append, List.map_take, List.map_drop]
theorem stable_outK {K M : Mm} {labK : Nat → Nat} {j : Nat} (hB : K.le M) (hj : j ≠ 0) : (stable K labK).le (outK K M labK j) := fun c o h => by
  unfold stable at h
  split at h
  · next hl => exact outK_of hB h (by rw [hl]; exact Ne.symm hj)
  · cases h
/-- The reference's Give, whether the slot is worn or not. -/
theorem refGive_any {σ w : World} {M K : Mm} {labK : Nat → Nat} (h : Has σ M w) (c : Nat → Int) {gens : Nat} (hg : c 12 = (gens : Nat)) {vL vG : Value} {S x : Nat} {l gl : List Nat} {V : LvG} (hK : K.le M) (hL : Rd (stable K labK) 1 vL l.length (natv l)) (hG : Rd (stable K labK) 1 vG S (natv gl)) (hI : GensI S V gl) (x1 : 1 ≤ x) (x2 : x ≤ S) (hS : S ≤ 60) (hl : l.length ≤ 60) (hn : genOf (V.hd x) ≤ 1000) :
    Calls Try.prog 20 #[confV c, .agg #[vL, vG], .int .i64 (x : Nat)] w fun e w' => ∃ uL uG M', e = .returned (.agg #[uL, uG]) ∧ Has σ M' w' ∧ M.le M' ∧ Rd (stable (learn K M M') (relab K labK fun _ => 0)) 1 uL (if genOf (V.hd x) + 1 < gens then x :: l else l).length (natv (if genOf (V.hd x) + 1 < gens then x :: l else l)) ∧ Rd (stable (learn K M M') (relab K labK fun _ => 0)) 1 uG S (natv (gl.set (x - 1) (genOf (V.hd x) + 1))) := by
  have hs := Mm.le_trans (stable_le K labK) hK
  by_cases hw : genOf (V.hd x) + 1 < gens
  · rw [if_pos hw]
    refine (refGive_on h c hg (hL.le hs) (hG.le hs) x1 x2 (by omega) (by omega) (hI.all x x1 x2) (by omega) hw).mono fun e w' hq => ?_
    obtain ⟨uL, uG, M', e, hh, hle, oL, oG⟩ := hq
    exact ⟨uL, uG, M', e, hh, hle, learn_rd hK labK oL, learn_rd hK labK oG⟩
  · rw [if_neg hw]
    refine (refGive_worn h c hg (hL.le hs) (hG.le hs) x1 x2 (by omega) (by omega) (hI.all x x1 x2) (by omega) (by omega)).mono fun e w' hq => ?_
    obtain ⟨uG, M', e, hh, hle, oG⟩ := hq
    exact ⟨vL, uG, M', e, hh, hle, hL.le (stable_kp (learn_kp hK M' labK) fun h => h), learn_rd hK labK oG⟩
set_option maxHeartbeats 4000000 in
set_option maxRecDepth 20000 in
theorem stAlone_long {σ w : World} {M : Mm} (h : Has σ M w) (c : Nat → Int) (hc : ConfMay c) {L B S gens T : Nat} (hn : Nums c L B S) (hg : c 12 = (gens : Nat)) (hT : c 1 = (T : Nat)) {A : Option Addr} {n cap : Nat} {lst : List (Int × Int)} (hr : Rd M 2 (.slice A n cap) n (lst.flatMap enc2)) (hl : lst.length = n) (h60 : n ≤ 60) :
    Calls Try.prog 4 #[confV c, .slice A n cap] w fun r w' => r = .returned (.bool true) ∧ Has σ M w' := by
  have NW := Lib.hid (fun (M' : Mm) (w : World) (h : Has σ M' w) => mNew_yes h c hc hn)
  have LI := Lib.hid (fun (M' : Mm) (w : World) (h : Has σ M' w) => lives_eq h)
  have RN := Lib.hid (fun (M' : Mm) (w : World) (h : Has σ M' w) => refNew_eq h c (S := S) hn.slo hn.s0.1 hn.s0.2)
  have hx : (ints .i64 14 c).extract 0 (0 + 14) = ints .i64 14 c := rfl
  have hz : (ints .i64 14 c).size = 14 := rfl
  have r0 : (ints .i64 14 c)[0]? = some (.int .i64 (L : Nat)) := by rw [← hn.lev]; rfl
  have g60 : decide ((60 : Int) < (n : Int)) = false := decide_eq_false (by omega)
  have g60' : ¬ (60 : Int) < (n : Int) := by omega
  have hl0 := hn.l0
  have MS := mk_ints L (by omega)
  have HC := Lib.hid hc
  have HNU := Lib.hid hn
  have HG := Lib.hid hg
  have HT := Lib.hid hT
  have HR := Lib.hid hr
  have HL := Lib.hid hl
  have hn60 : n ≤ 60 := h60
  unfold confV at NW RN ⊢
  clear hc hn hg hT hr hl h60
  generalize hrw : ints .i64 14 c = row at NW RN hx hz r0 ⊢
  have HRW := Lib.hid hrw
  clear hrw
  go_enter Try.func4, Try.ntmps4
  go_upto_region 1 with (fail)
  obtain ⟨M1, hbx, hle1, hbf, hnf⟩ := h.box (.cells row 24)
  generalize w.alloc _ = wx at hbx ⊢
  generalize w.heap.size = bf at hbf hnf ⊢
  clear h
  try clear w
  have h := hbx
  clear hbx
  obtain ⟨w, rfl⟩ : ∃ x : World, x = wx := ⟨_, rfl⟩
  go_upto_region 5 with (first
    | ((with_reducible show wpList _ _ _ ({ dst := _, op := Op.load 24 _, type := _, pos := _, after := _, guard := _ } :: _) _ _); refine wpList_agg_has h rfl 24 _ rfl rfl hbf hx hz Try.underlying24 rfl (by kernel_rfl) ?_; try simp only [Act.put, List.setIfInBounds_toArray, List.set_cons_zero, List.set_cons_succ])
    | ((go_at_call 7; refine (NW.out _ _ h).mono ?_; clear h; rintro _ w ⟨p, M2, lab2, s, rfl, h, hB2, hM2, hN⟩)))
  have HM2 := Lib.hid hM2
  have HB2 := Lib.hid hB2
  have HN := Lib.hid hN
  have hbf2 := hB2.le _ _ hbf
  clear hM2 hB2 hN NW
  go_upto_region 6 with (first
    | (with_reducible show wpList _ _ _ ({ dst := _, op := Op.load 3 _, type := _, pos := _, after := _, guard := _ } :: _) _ _; refine wpList_load1_has h rfl 3 _ rfl rfl hbf2 r0 Try.underlying3 rfl ?_))
  clear MS
  obtain ⟨M3, hbx, hle3, hbh, hnh⟩ := h.box (.cells (nils L).toArray 47)
  generalize w.alloc _ = wx at hbx ⊢
  generalize w.heap.size = bh at hbh hnh ⊢
  clear h
  try clear w
  have h := hbx
  clear hbx
  obtain ⟨w, rfl⟩ : ∃ x : World, x = wx := ⟨_, rfl⟩
  have hO3 : Own (outK M1 M2 (fun _ => 0) 2) M3 47 1 (.slice (some ⟨bh, 0, none⟩) L L) L (nils L) := by
    rw [outK_self (fun c o hc => by show (0 : Nat) ≠ 2; decide)]
    exact ⟨by simp [nils], .inr ⟨bh, L, _, rfl, hnh, hbh, Nat.le_refl _, by unfold maxLen; omega, by simp [nils], by rw [Nat.mul_one]; exact List.take_of_length_le (by simp [nils])⟩⟩
  obtain ⟨lab3, K3, labK3, hM3, hB3, hK3, hR3⟩ := HM2.out.rowTo HB2.out (by rw [outK_self (fun c o hc => by show (0 : Nat) ≠ 2; decide)]; exact hle3) hO3
  have hS3 : M1.le (stable K3 labK3) := fun c o hc => by
    obtain ⟨a, b⟩ := hK3 c o hc (by show ¬ (0 : Nat) = 2; decide)
    unfold stable
    rw [if_pos (show labK3 c = 0 from b)]
    exact a
  have hA3 : LawA K3 labK3 L S 0 (.slice none 0 0) (.slice (some ⟨bh, 0, none⟩) L L) (fun _ => (.slice none 0 0, .slice none 0 0)) (fun _ => .slice none 0 0) (fun _ => slots (S - 1)) (fun _ => []) (fun _ => List.replicate S 0) :=
    ⟨Row.nil _ _ _ _ _, fun k hk => absurd hk (Nat.not_lt_zero _), fun k hk => absurd hk (Nat.not_lt_zero _), hR3, fun k hk => Row.nil _ _ _ _ _⟩
  have HM3 := Lib.hid hM3
  have HB3 := Lib.hid hB3
  have HS3 := Lib.hid hS3
  have HA3 := Lib.hid hA3
  have HHV : Hid (∃ hv : Value, hv = .slice (some ⟨bh, 0, none⟩) L L) := Lib.hid ⟨_, rfl⟩
  have HLE1 := Lib.hid hle1
  clear hO3 hM3 hB3 hK3 hR3 hS3 hA3 hbf2 hle3 hbh hnh HM2 HB2 hle1
  go_upto_region 7 with (fail)
  go_loopw [7, 9] (fun xv u wr => ∃ (k : Nat) (M : Mm) (lab : Nat → Nat) (K : Mm) (labK : Nat → Nat) (fx : Nat → Value × Value), k ≤ L ∧ u = .int .i64 (k : Nat) ∧ Has σ M wr ∧ Mach M lab p s ∧ Base K M lab ∧ M1.le (stable K labK) ∧ LawA K labK L S k xv (.slice (some ⟨bh, 0, none⟩) L L) fx (fun _ => .slice none 0 0) (fun _ => slots (S - 1)) (fun _ => []) (fun _ => List.replicate S 0)) (fun _ u _ => L - (intOf u).toNat)
  case atStart => exact ⟨0, M3, lab3, K3, labK3, _, Nat.zero_le _, rfl, h, HM3.out, HB3.out, HS3.out, HA3.out⟩
  case round =>
    clear h w HM3 HB3 HS3 HA3 lab3 K3 labK3 M3 M2
    obtain ⟨w, rfl⟩ : ∃ x : World, x = wr := ⟨_, rfl⟩
    obtain ⟨k, M2, lab2, K2, labK2, fx, hk, rfl, h, hM2, hB2, hS2, hA2⟩ := hrel
    have hbf2 := hB2.le _ _ (stable_le _ _ _ _ (hS2 _ _ hbf))
    obtain ⟨xA, xc, rfl⟩ := hA2.xrow.form
    by_cases hlt : k < L
    · have RN2 := Lib.hid (fun (w : World) (h : Has σ M2 w) => RN.out M2 w h)
      have HM2 := Lib.hid hM2
      have HB2 := Lib.hid hB2
      have HS2 := Lib.hid hS2
      have HA2 := Lib.hid hA2
      have HLT := Lib.hid hlt
      have hlt' : (k : Int) < (L : Int) := by omega
      have k4 : k < 4 := by omega
      clear hM2 hB2 hS2 hA2 hlt hk
      go_upto_region 8 with (first
        | (with_reducible show wpList _ _ _ ({ dst := _, op := Op.load 3 _, type := _, pos := _, after := _, guard := _ } :: _) _ _; refine wpList_load1_has h rfl 3 _ rfl rfl hbf2 r0 Try.underlying3 rfl ?_)
        | ((with_reducible show wpList _ _ _ ({ dst := _, op := Op.load 24 _, type := _, pos := _, after := _, guard := _ } :: _) _ _); refine wpList_agg_has h rfl 24 _ rfl rfl hbf2 hx hz Try.underlying24 rfl (by kernel_rfl) ?_; try simp only [Act.put, List.setIfInBounds_toArray, List.set_cons_zero, List.set_cons_succ])
        | ((go_at_call 17; refine (RN2.out _ h).mono ?_; clear h; rintro _ w ⟨uL, uG, M5, rfl, h, hle5, oL, oG⟩; obtain ⟨A1, c1, rfl⟩ := oL.form; obtain ⟨A2, c2, rfl⟩ := oG.form; obtain ⟨lab5, hM5, hB5⟩ := HM2.out.learn HB2.out hle5; have hA5 := HA2.out.keep (learn_kp HB2.out.le M5 labK2); have rL := learn_rd HB2.out.le labK2 oL; have rG := learn_rd HB2.out.le labK2 oG; have hS5 := Mm.le_trans HS2.out (stable_kp (learn_kp HB2.out.le M5 labK2) (fun h => h)); have hO := hA5.xrow.up hB5.le; have hOle := outK_le (learn K2 M2 M5) M5 (relab K2 labK2 fun _ => 0) 1))
        | (at_builtin; refine wpList_append_lit h hOle rfl _ _ _ rfl rfl Try.underlying45 info_F rfl (by omega) rfl hO rfl rfl rfl (by omega) (by omega) ?_; clear h hOle hO; intro v w hacc))
      obtain ⟨M7, h, hle7, hown7⟩ := hacc
      obtain ⟨lab7, K7, labK7, hM7, hB7, hK7, hR7⟩ := hM5.rowTo hB5 hle7 hown7
      have hA7 := hA5.push hK7 hR7 (by rw [slots_len]; exact rL) rG
      have hS7 := Mm.le_trans hS5 (stable_kp hK7 (by omega))
      clear rL rG oL oG hA5 hM5 hB5 hK7 hR7 hS5 hle5 RN2
      go_wp2
      go_roundw
      case rel => exact ⟨k + 1, M7, lab7, K7, labK7, _, by have := HLT.out; omega, by go_num, h, hM7, hB7, hS7, hA7⟩
      case measure => have := HLT.out; simp [intOf]; omega
    · have e : L = k := by omega
      subst e
      have hAI := AlInv.first (T := T) HNU.out HC.out HG.out HN.out hM2.wsz
      obtain ⟨gx, cx, hxe⟩ := Own.pos hA2.xrow (by omega)
      cases hxe
      have HM2 := Lib.hid hM2
      have HB2 := Lib.hid hB2
      have HS2 := Lib.hid hS2
      have HA2 := Lib.hid hA2
      have HAI := Lib.hid hAI
      have hlt' : ¬ (L : Int) < (L : Int) := by omega
      obtain ⟨tp, HTP⟩ : ∃ tp, Hid (tp = s.tp) := ⟨_, rfl⟩
      obtain ⟨tlen, HTL⟩ : ∃ tl, Hid (tl = tp.length ∧ (tl : Int) = c 1) := ⟨_, Lib.hid ⟨rfl, by rw [HTP.out, hM2.tlen, HN.out.c]⟩⟩
      rw [← HTP.out] at HAI
      clear hM2 hB2 hS2 hA2 hk hlt hAI RN HHV
      go_upto_region 11 with (first
        | (with_reducible show wpList _ _ _ ({ dst := _, op := Op.load 3 _, type := _, pos := _, after := _, guard := _ } :: _) _ _; refine wpList_load1_has h rfl 3 _ rfl rfl hbf2 r0 Try.underlying3 rfl ?_))
      clear hbf2
      go_loopw [10] (fun u wr => ∃ (i : Nat) (M : Mm) (lab : Nat → Nat) (K : Mm) (labK : Nat → Nat) (s : MachS) (fx : Nat → Value × Value) (fh : Nat → Value) (Lf had gl : Nat → List Nat), i ≤ n ∧ u = .int .i64 (i : Nat) ∧ Has σ M wr ∧ Mach M lab p s ∧ Base K M lab ∧ M1.le (stable K labK) ∧ LawA K labK L S L (.slice (some ⟨gx, 0, none⟩) L xc) (.slice (some ⟨bh, 0, none⟩) L L) fx fh Lf had gl ∧ AlInv c S gens L T tp i s Lf had gl) (fun u _ => n - (intOf u).toNat)
      case atStart => exact ⟨0, M2, lab2, K2, labK2, s, _, _, _, _, _, Nat.zero_le _, rfl, h, HM2.out, HB2.out, HS2.out, HA2.out, HAI.out⟩
      case round =>
        clear h w HM2 HB2 HS2 HA2 HAI HN HTP lab2 K2 labK2 M2 fx
        obtain ⟨w, rfl⟩ : ∃ x : World, x = wr := ⟨_, rfl⟩
        obtain ⟨i, M2, lab2, K2, labK2, s, fx, fh, Lf, had, gl, hi, rfl, h, hM2, hB2, hS2, hA2, hAI⟩ := hrel
        have hKM := hB2.le
        have hbf2 := hKM _ _ (stable_le _ _ _ _ (hS2 _ _ hbf))
        have HM2 := Lib.hid hM2
        have HB2 := Lib.hid hB2
        have HS2 := Lib.hid hS2
        have HA2 := Lib.hid hA2
        have HAI := Lib.hid hAI
        have HKM := Lib.hid hKM
        clear hM2 hB2 hS2 hA2 hAI hKM
        by_cases hlt : i < n
        · have hrd : Rd M2 2 (.slice A n cap) n (lst.flatMap enc2) := HR.out.le (Mm.le_trans HLE1.out (Mm.le_trans HS2.out (Mm.le_trans (stable_le _ _) HKM.out)))
          obtain ⟨e, he⟩ : ∃ e, lst[i]? = some e := ⟨_, List.getElem?_eq_getElem (by rw [HL.out]; exact hlt)⟩
          obtain ⟨bl, ol, cl, csl, tl2, fzl, hle, hbl, hcl⟩ := hrd.elem (enc := enc2) (fun _ => rfl) hlt he
          obtain ⟨et, ew⟩ := e
          have e0 : csl[ol + i * 2 + 0]? = some (.int .i64 et) := hcl 0 _ rfl
          have e1 : csl[ol + i * 2 + 1]? = some (.int .i64 ew) := hcl 1 _ rfl
          rw [Nat.add_zero] at e0
          cases hle
          have hlt' : (i : Int) < (n : Int) := by omega
          have HLT := Lib.hid hlt
          clear hcl hrd he hlt hi
          go_upto_region 13 with (fail)
          refine wp_region_class (Has σ M2) (by kernel_rfl) (by kernel_rfl) h.drew ?_
          clear h
          repeat (first
            | go_big_quiet_skip
            | (go_big_quiet_want; first
              | (refine quiet_load_has 3 _ rfl rfl hbl e0 Try.underlying3 rfl ?_; simp only [Act.put, List.setIfInBounds_toArray, List.set_cons_zero, List.set_cons_succ]; go_big_quiet_on)
              | (refine quiet_load_has 3 _ rfl rfl hbl e1 Try.underlying3 rfl ?_; simp only [Act.put, List.setIfInBounds_toArray, List.set_cons_zero, List.set_cons_succ]; go_big_quiet_on)
              | (go_big_quiet_op; first | go_big_quiet_on | go_big_quiet_call (first | with_reducible exact fun _ => rfl))))
          refine wpQuiet_nil ?_
          try clear w
          intro w h
          clear e0 e1 hbl
          have LV := Lib.hid (fun (w : World) (h : Has σ M2 w) => mLevel_eq h HM2.out et)
          go_upto_region 15 with (first
            | (go_at_call 14; refine (LV.out _ h).mono ?_; clear h; rintro _ w ⟨rfl, h⟩))
          obtain ⟨a, m, g, ow, ev, ha, hA, hm, hI, hid, hgn, how⟩ := HAI.out.all
          by_cases htt : 0 ≤ et ∧ et < (T : Int)
          · obtain ⟨tn, rfl⟩ : ∃ tn : Nat, et = (tn : Nat) := ⟨et.toNat, by omega⟩
            have htn : tn < T := by omega
            obtain ⟨elv, ll⟩ := levT_of HC.out HNU.out HT.out htn
            rw [hA.cc, elv]
            obtain ⟨lv, hlv⟩ : ∃ lv, levT c tn = lv := ⟨_, rfl⟩
            rw [hlv] at ll elv ⊢
            obtain ⟨curH, hcb, hcu⟩ := Own.at_ HA2.out.hrow
            obtain ⟨Ah, ch, hfe⟩ := (HA2.out.each lv ll).form
            have eH : curH[lv]? = some (.slice Ah (had lv).length ch) := by
              rw [← hfe]
              exact hcu lv _ (by rw [List.getElem?_map, List.getElem?_range ll]; rfl)
            have hbm := HKM.out _ _ hcb
            obtain ⟨nh, hnh⟩ : ∃ nh, (had lv).length = nh := ⟨_, rfl⟩
            rw [hnh] at eH
            have g0 : ¬ (lv : Int) < 0 := by omega
            have hll : (lv : Int) < (L : Int) := by omega
            have HALL := Lib.hid (⟨ha, hA, hm, hI, hid, hgn, how⟩ : a ≤ 11 * i ∧ AbsG c tp a s g ∧ m ≤ 12 * i ∧ GInv S gens L T (levT c) id m g Lf ow had ev ∧ (∀ t, t < T → g.thr t = none) ∧ (∀ l, l < L → GensI S (g.lv l) (gl l)) ∧ OwAll ow)
            have HLV := Lib.hid hlv
            have HELV := Lib.hid elv
            have HNH := Lib.hid hnh
            have HFE := Lib.hid hfe
            have HHB := Lib.hid hcb
            have HTN := Lib.hid htn
            clear ha hA hm hI hid hgn how hlv elv hnh hfe hcb hcu htt LV htn
            by_cases hw : (nh : Int) ≤ ew
            · have hw2 : decide ((nh : Int) ≤ ew) = true := decide_eq_true hw
              go_wp2_with (first
                | (with_reducible show wpList _ _ _ ({ dst := _, op := Op.load 47 _, type := _, pos := _, after := _, guard := _ } :: _) _ _; refine wpList_load1_has h rfl 47 _ rfl rfl hbm eH Try.underlying47 rfl ?_))
              go_roundw
              case rel => exact ⟨i + 1, M2, lab2, K2, labK2, s, fx, fh, Lf, had, gl, by have := HLT.out; omega, by go_num, h, HM2.out, HB2.out, HS2.out, HA2.out, HAI.out.mono (Nat.le_succ _)⟩
              case measure => have := HLT.out; simp [intOf]; omega
            · have hw2 : decide ((nh : Int) ≤ ew) = false := decide_eq_false hw
              go_upto_region 16 with (first
                | (with_reducible show wpList _ _ _ ({ dst := _, op := Op.load 47 _, type := _, pos := _, after := _, guard := _ } :: _) _ _; refine wpList_load1_has h rfl 47 _ rfl rfl hbm eH Try.underlying47 rfl ?_))
              clear hw2 g0
              have hi1000 : a ≤ 1000 ∧ m ≤ 1000 := by have h1 := HALL.out.1; have h2 := HALL.out.2.2.1; have h3 := HLT.out; omega
              obtain ⟨q, hq⟩ : ∃ q, tp[tn]? = some q := ⟨_, List.getElem?_eq_getElem (by have h1 := HTL.out; have h2 := HT.out; have h3 := HTN.out; omega)⟩
              have HQ := Lib.hid hq
              have HI := Lib.hid hi1000
              clear hq hi1000 hbm eH hll
              by_cases hneg : ew < 0
              · as_aux_lemma =>
                  have TKL := Lib.hid (fun (w : World) (h : Has σ M2 w) => take_law h HM2.out HB2.out HC.out HNU.out HG.out HT.out HI.out.1 HI.out.2 HTN.out HQ.out HALL.out.2.1 HALL.out.2.2.2.1 HALL.out.2.2.2.2.1)
                  rw [HLV.out] at TKL
                  clear hw
                  go_upto_region 18 with (first
                    | ((go_at_call 18; refine (TKL.out _ h).mono ?_; clear h; rintro _ w ⟨ka, M3, lab3, s3, g3, ow3, ev3, rfl, h, hM3, hB3, hA3, hk4, e0, e1, hI3, hid3, hhd3, how3⟩)))
                  clear TKL
                  obtain ⟨curX, hxb, hcx⟩ := Own.at_ HA2.out.xrow
                  have hrL := HA2.out.xl lv ll
                  have hrG := HA2.out.xg lv ll
                  obtain ⟨AL, cL, hfL⟩ := hrL.form
                  obtain ⟨AG, cG, hfG⟩ := hrG.form
                  have hxx : curX.extract (lv * 2) (lv * 2 + 2) = #[(fx lv).1, (fx lv).2] := extract_of (xs := encF (fx lv)) (fun j u hu => hcx _ _ (by rw [flat_get encF_len _ lv (fx lv) (by rw [List.getElem?_map, List.getElem?_range ll]; rfl) j (by have := (List.getElem?_eq_some_iff.1 hu).1; simpa [encF] using this)]; exact hu)) rfl
                  have hxb3 := hB3.le _ _ hxb
                  have hst3 := Mm.le_trans (stable_le K2 labK2) hB3.le
                  have RT := Lib.hid (fun (w : World) (h : Has σ M3 w) => refTake_any h (hrL.le hst3) (hrG.le hst3) (HALL.out.2.2.2.2.2.1 lv ll) (fun x hx => (((HALL.out.2.2.2.1.lv lv ll).mem x).1 hx).imp id (fun h => h.1)) HNU.out.s0.2)
                  rw [hfL, hfG] at hxx RT
                  have HRL := Lib.hid hrL
                  have HRG := Lib.hid hrG
                  have HFL := Lib.hid hfL
                  have HFG := Lib.hid hfG
                  have HM3 := Lib.hid hM3
                  have HB3 := Lib.hid hB3
                  have HA3 := Lib.hid hA3
                  have HI3 := Lib.hid (⟨hI3, hid3, hhd3, hk4, how3⟩ : _ ∧ _ ∧ _ ∧ _ ∧ _)
                  clear hxb hcx hrL hrG hfL hfG hst3 hM3 hB3 hA3 hI3 hid3 hhd3 hk4 how3
                  obtain ⟨x0, hx0⟩ : ∃ x0, (Lf lv).headD 0 = x0 := ⟨_, rfl⟩
                  obtain ⟨y0, hy0⟩ : ∃ y0, toldG (g.lv lv) (Lf lv) = y0 := ⟨_, rfl⟩
                  rw [hx0] at e0
                  rw [hy0] at e1
                  obtain ⟨l2, hl2⟩ : ∃ l2, (Lf lv).tail = l2 := ⟨_, rfl⟩
                  rw [hx0, hy0, hl2] at RT
                  have HL2 := Lib.hid hl2
                  have HX0 := Lib.hid hx0
                  have HY0 := Lib.hid hy0
                  have HE := Lib.hid (⟨e0, e1⟩ : _ ∧ _)
                  clear hx0 hy0 e0 e1 hl2
                  have hxz : (#[.slice AL (Lf lv).length cL, .slice AG S cG] : Array Value).size = 2 := rfl
                  go_upto_region 19 with (first
                    | ((with_reducible show wpList _ _ _ ({ dst := _, op := Op.load 49 _, type := _, pos := _, after := _, guard := _ } :: _) _ _); refine wpList_agg_has h rfl 49 _ rfl rfl hxb3 hxx hxz Try.underlying49 rfl (by kernel_rfl) ?_; try simp only [Act.put, List.setIfInBounds_toArray, List.set_cons_zero, List.set_cons_succ])
                    | ((go_at_call 19; refine (RT.out _ h).mono ?_; clear h; rintro _ w ⟨u, rfl, h, hu⟩; have hu2 := hu _ (by rw [← HFL.out]; exact HRL.out); obtain ⟨Au, cu, rfl⟩ := hu2.form; have HU2 := Lib.hid hu2; clear hu hu2))
                    | ((with_reducible show wpList _ _ _ ({ dst := _, op := Op.alloc 49, type := _, pos := _, after := _, guard := _ } :: _) _ _); refine wpList_alloc_has h rfl 49 rfl _ zF ?_; clear h; intro b15 w h hn15; try simp only [Act.put, List.setIfInBounds_toArray, List.set_cons_zero, List.set_cons_succ])
                    | ((with_reducible show wpList _ _ _ ({ dst := _, op := Op.store 49 _ _, type := _, pos := _, after := _, guard := _ } :: _) _ _); (refine wpList_storeAll_has (cells := #[.slice Au l2.length cu, .slice AG S cG]) h rfl 49 _ _ rfl rfl rfl (Mm.upd_same _ _ _) rfl rfl rfl (by kernel_rfl) rfl ?_); clear h; intro w h))
                  rw [Mm.upd_upd] at h
                  have hle4 := Mm.le_upd' hn15 (.cells #[.slice Au l2.length cu, .slice AG S cG] 49)
                  have hb15 := Mm.upd_same M3 b15 (.cells #[.slice Au l2.length cu, .slice AG S cG] 49)
                  generalize M3.upd b15 _ = M4 at h hle4 hb15
                  have hM4 := HM3.out.keep (Kp.le hle4 fun _ => 0) fun _ _ h => h
                  have hB4 := HB3.out.keep (Kp.le hle4 fun _ => 0) fun h => h
                  have hO := HA2.out.xrow.up hB4.le
                  have hOle := outK_le K2 M4 labK2 1
                  have hx15 : (#[.slice Au l2.length cu, .slice AG S cG] : Array Value).extract 0 (0 + 2) = #[.slice Au l2.length cu, .slice AG S cG] := rfl
                  have HM4 := Lib.hid hM4
                  have HB4 := Lib.hid hB4
                  have oneu : ∀ u ∈ encF (.slice Au l2.length cu, .slice AG S cG), u.oneCell' = true := by
                    intro u hu
                    simp only [encF, List.mem_cons, List.not_mem_nil, or_false] at hu
                    rcases hu with rfl | rfl <;> rfl
                  clear hM4 hB4 RT hxx hxz hxb3 hn15
                  go_upto_region 20 with (first
                    | ((with_reducible show wpList _ _ _ ({ dst := _, op := Op.load 49 _, type := _, pos := _, after := _, guard := _ } :: _) _ _); refine wpList_agg_has h rfl 49 _ rfl rfl hb15 hx15 rfl Try.underlying49 rfl (by kernel_rfl) ?_; try simp only [Act.put, List.setIfInBounds_toArray, List.set_cons_zero, List.set_cons_succ])
                    | ((with_reducible show wpList _ _ _ ({ dst := _, op := Op.store 49 _ _, type := _, pos := _, after := _, guard := _ } :: _) _ _); (refine wpList_putRow (L := (List.range L).map fx) encF_len h hOle hO (by simp) rfl 49 _ _ rfl rfl (k := lv) rfl rfl ll (.slice Au l2.length cu, .slice AG S cG) rfl oneu (by kernel_rfl) ?_); clear h hOle hO; intro w M5 h hle5 hown5))
                  obtain ⟨lab5, K5, labK5, hM5, hB5, hK5, hR5⟩ := HM4.out.rowTo HB4.out hle5 hown5
                  have hA5 := HA2.out.setX hK5 hR5 HU2.out (by rw [← HFG.out]; exact HRG.out)
                  have hS5 := Mm.le_trans HS2.out (stable_kp hK5 (by omega))
                  have hq3 : s3.tp[tn]? = some q := by rw [HA3.out.ttp]; exact HQ.out
                  have TH := Lib.hid (fun (w : World) (h : Has σ M5 w) => mThread_yes h hM5 hq3)
                  obtain ⟨fv, hvv, fbs, hTh⟩ := hM5.each tn q hq3
                  have hqb := hTh.obj
                  have d0 : ((s3.thr tn).row fv hvv)[0]? = some (.int .u64 (x0 : Nat)) := by
                    show some (Value.int .u64 ((s3.thr tn).told 0)) = _
                    rw [(HA3.out.thr.told tn).1, HE.out.1]
                  have d1 : ((s3.thr tn).row fv hvv)[1]? = some (.int .u64 (y0 : Nat)) := by
                    show some (Value.int .u64 ((s3.thr tn).told 1)) = _
                    rw [(HA3.out.thr.told tn).2, HE.out.2]
                  generalize (s3.thr tn).row fv hvv = trow at hqb d0 d1
                  have hx60 : x0 ≤ S := by rw [← HX0.out]; exact headD_le fun x hx => (((HALL.out.2.2.2.1.lv lv ll).mem x).1 hx).2.1
                  have hS60 := HNU.out.s0.2
                  have hy32 : y0 < 4294967296 := by rw [← HY0.out]; exact toldG_lt _ _
                  have gka : ¬ (ka : Int) < 0 := by omega
                  have wx : IntKind.u64.wrap (x0 : Int) = (x0 : Int) := IntWalk.u64_in _ (by omega)
                  have wy : IntKind.u64.wrap (y0 : Int) = (y0 : Int) := IntWalk.u64_in _ (by omega)
                  have HM5 := Lib.hid hM5
                  have HB5 := Lib.hid hB5
                  have HA5 := Lib.hid hA5
                  have HS5 := Lib.hid hS5
                  clear hTh hM5 hB5 hA5 hS5 hq3 hK5 hR5 hx15 hb15 hle4 HM4 HB4
                  go_upto_region 22 with (first
                    | (go_at_call 12; refine (TH.out _ h).mono ?_; clear h; rintro _ w ⟨rfl, h⟩)
                    | (with_reducible show wpList _ _ _ ({ dst := _, op := Op.load 40 _, type := _, pos := _, after := _, guard := _ } :: _) _ _; refine wpList_load1_has h rfl 40 _ rfl rfl hqb d0 Try.underlying40 rfl ?_)
                    | (with_reducible show wpList _ _ _ ({ dst := _, op := Op.load 40 _, type := _, pos := _, after := _, guard := _ } :: _) _ _; refine wpList_load1_has h rfl 40 _ rfl rfl hqb d1 Try.underlying40 rfl ?_))
                  clear hqb d0 d1 TH wx wy gka hy32
                  by_cases hz0 : x0 = 0
                  · subst hz0
                    have hAI5 : AlInv c S gens L T tp (i + 1) s3 (put1 Lf lv l2) had (put1 gl lv (gl lv)) := ⟨⟨a + ka, m + 5, g3, ow3, ev3, by have h1 := HALL.out.1; have h2 := HI3.out.2.2.2.1; omega, HA3.out, by have := HALL.out.2.2.1; omega, by have h1 := HI3.out.1; rw [HX0.out, HL2.out, if_pos rfl] at h1; exact h1, HI3.out.2.1, fun l hl => by rw [put1_self]; exact (HALL.out.2.2.2.2.2.1 l hl).same (HI3.out.2.2.1 l), HI3.out.2.2.2.2 HALL.out.2.2.2.2.2.2⟩⟩
                    obtain ⟨M9, lab9, K9, labK9, fx9, fh9, Lf9, had9, gl9, HP9⟩ : ∃ M9 lab9 K9 labK9 fx9 fh9 Lf9 had9 gl9, Hid (Has σ M9 w ∧ Mach M9 lab9 p s3 ∧ Base K9 M9 lab9 ∧ M1.le (stable K9 labK9) ∧ LawA K9 labK9 L S L (.slice (some ⟨gx, 0, none⟩) L xc) (.slice (some ⟨bh, 0, none⟩) L L) fx9 fh9 Lf9 had9 gl9 ∧ AlInv c S gens L T tp (i + 1) s3 Lf9 had9 gl9) := ⟨_, _, _, _, _, _, _, _, _, Lib.hid ⟨h, HM5.out, HB5.out, HS5.out, HA5.out, hAI5⟩⟩
                    clear h hAI5
                    go_wp2_with (fail)
                    -- the free list, Fault, Odd
                    have h := HP9.out.1
                    obtain ⟨a9, m9, g9, ow9, ev9, ha9, hA9, hm9, hI9, hid9, hgn9, how9⟩ := HP9.out.2.2.2.2.2.all
                    have hb0 := HNU.out.b0
                    have hs0 := HNU.out.s0
                    have hN9 : s3.mem.N = L * (18 + B + 6 * S) := by
                      have h1 := hA9.memN
                      rw [HNU.out.lev, HNU.out.sz, ← Int.natCast_mul] at h1
                      exact Int.ofNat_inj.1 h1
                    have hN2 : L * (18 + B + 6 * S) ≤ 4 * (18 + 40 + 6 * 60) := Nat.mul_le_mul (by omega) (by omega)
                    have hbf9 := HP9.out.2.2.1.le _ _ (stable_le _ _ _ _ (HP9.out.2.2.2.1 _ _ hbf))
                    have ME9 := Lib.hid (fun (w : World) (h : Has σ M9 w) => mMem_eq h HP9.out.2.1)
                    have WO9 := Lib.hid (fun (w : World) (h : Has σ M9 w) => memWords_eq h HP9.out.2.1.mem (by omega))
                    have hQ60 : (Lf9 lv).length ≤ 60 := by have := free_busy (hI9.lv lv ll).nodup (hI9.lv lv ll).mem; omega
                    have CH9 : Hid (∀ (M' : Mm) (w : World) (bw : Nat), Has σ M' w → M' bw = some s3.mem.row → Calls Try.prog 21 #[.agg row, .slice (some ⟨bw, 0, none⟩) s3.mem.N s3.mem.N, .int .i64 (lv : Nat)] w fun r w' => ∃ v, r = .returned (.tuple #[v, .bool true]) ∧ Acc σ M' w' 3 1 v (Lf9 lv).length (natv (Lf9 lv))) := Lib.hid fun M' w bw h hb => by
                      have := refChain_eq h c HNU.out hb hN9 lv ll (hA9.words.top_n HNU.out ll) (fun i a b => hA9.words.lk_n HNU.out ll a b) (hI9.lv lv ll).lk (Q := Lf9 lv) (by rw [← slOf_eq]; exact (hI9.lv lv ll).chain) (fun x hx => (((hI9.lv lv ll).mem x).1 hx).2.1) (by have := free_busy (hI9.lv lv ll).nodup (hI9.lv lv ll).mem; omega)
                      unfold confV at this
                      rw [HRW.out] at this
                      exact this
                    have OD9 : Hid (∀ (M' : Mm) (w : World), Has σ M' w → M9.le M' → Calls Try.prog 23 #[.pointer (some ⟨p, 0, none⟩), .int .i64 (lv : Nat)] w fun r w' => r = .returned (.int .i64 0) ∧ ∃ M'', Has σ M'' w' ∧ M'.le M'') := Lib.hid fun M' w h hle => odd_eq h (HP9.out.2.1.keep (Kp.le hle fun _ => 0) fun _ _ h => h) hA9 (by have := HLT.out; omega) HNU.out HG.out ll (hI9.lv lv ll) (fun i _ _ => how9 lv i)
                    have FT9 : Hid (∀ (M' : Mm) (w : World), Has σ M' w → M9.le M' → Calls Try.prog 16 #[.pointer (some ⟨p, 0, none⟩)] w fun r w' => r = .returned (.bool false) ∧ Has σ M' w') := Lib.hid fun M' w h hle => by
                      have := mFault_eq h (HP9.out.2.1.keep (Kp.le hle fun _ => 0) fun _ _ h => h)
                      rw [hA9.good] at this
                      exact this
                    obtain ⟨curX9, hxb9, hcx9⟩ := Own.at_ HP9.out.2.2.2.2.1.xrow
                    have hrL9 := HP9.out.2.2.2.2.1.xl lv ll
                    obtain ⟨AL9, cL9, hfL9⟩ := hrL9.form
                    have eX9 : curX9[lv * 2]? = some (.slice AL9 (Lf9 lv).length cL9) := by
                      rw [← hfL9]
                      exact hcx9 (lv * 2) _ (by
                        have := flat_get encF_len ((List.range L).map fx9) lv (fx9 lv) (by rw [List.getElem?_map, List.getElem?_range ll]; rfl) 0 (by decide)
                        rw [Nat.add_zero] at this
                        rw [this]; rfl)
                    have hxb9' := HP9.out.2.2.1.le _ _ hxb9
                    have IN9 : Hid (∀ (M' : Mm) (w : World) (v : Value), Has σ M' w → M9.le M' → Rd M' 1 v (Lf9 lv).length (natv (Lf9 lv)) → Calls Try.prog 22 #[v, .slice AL9 (Lf9 lv).length cL9] w fun r w' => r = .returned (.bool true) ∧ Has σ M' w') := Lib.hid fun M' w v h hle hv => refInts_eq h hv (by rw [← hfL9]; exact hrL9.le (Mm.le_trans (stable_le _ _) (Mm.le_trans HP9.out.2.2.1.le hle))) (by omega)
                    clear ha9 hA9 hm9 hI9 hid9 hgn9 how9 hN9 hN2 hb0 hs0 hrL9 hfL9 hcx9 hxb9 hQ60
                    generalize hQn : Lf9 lv = Q9 at *
                    clear hQn
                    generalize s3.mem.row = wobj at *
                    generalize s3.mem.N = N9 at *
                    generalize Q9.length = qn at *
                    refine wp_region_held_drew (S := Has σ (M9)) (by kernel_rfl) (h.drew) (fun hHeld => ?_)
                    refine wpAnyH_take (i := 0) (v := _) rfl (by kernel_rfl) (by kernel_rfl) (by kernel_rfl) (fun _ _ _ h => h) (yields_agg rfl 24 _ rfl rfl hbf9 hx hz Try.underlying24 rfl (by kernel_rfl)) hHeld ?_
                    try simp only [List.getElem_toArray, List.getElem_cons_succ, List.getElem_cons_zero, Act.put, List.setIfInBounds_toArray, List.set_cons_zero, List.set_cons_succ]
                    refine wpAnyH_take (i := 1) (v := ?_) rfl (by kernel_rfl) (by kernel_rfl) (by kernel_rfl) (fun _ _ _ h => h) (Or.inl ⟨by rfl, ?_⟩) hHeld ?_
                    rotate_left
                    · (intro wz _; go_simp; try with_reducible rfl)
                    try simp only [List.getElem_toArray, List.getElem_cons_succ, List.getElem_cons_zero, Act.put, List.setIfInBounds_toArray, List.set_cons_zero, List.set_cons_succ]
                    refine wpAnyH_take (i := 4) (v := ?_) rfl (by kernel_rfl) (by kernel_rfl) (by kernel_rfl) (fun _ _ _ h => h) (Or.inl ⟨by rfl, ?_⟩) hHeld ?_
                    rotate_left
                    · (intro wz _; go_simp; try with_reducible rfl)
                    try simp only [List.getElem_toArray, List.getElem_cons_succ, List.getElem_cons_zero, Act.put, List.setIfInBounds_toArray, List.set_cons_zero, List.set_cons_succ]
                    replace h := h.drew
                    generalize w.drew = wq at h hHeld ⊢
                    obtain ⟨w, rfl⟩ : ∃ q : World, q = wq := ⟨_, rfl⟩
                    refine wpAnyH_ready (rs := [2]) (by kernel_rfl) (by simp) ?_
                    refine AllReadyH.cons rfl (fun K hK => ?_) AllReadyH.nil
                    (go_simp; go_wp2_with (go_at_call 10; refine (ME9.out _ h).mono ?_; clear h; rintro _ w ⟨rfl, h⟩))
                    refine hK.out _ _ (h) (fun hHeld => ?_)
                    clear hK K
                    try simp only [Act.put, List.setIfInBounds_toArray, List.set_cons_zero, List.set_cons_succ]
                    refine wpAnyH_ready (rs := [3]) (by kernel_rfl) (by simp) ?_
                    refine AllReadyH.cons rfl (fun K hK => ?_) AllReadyH.nil
                    (go_simp; go_wp2_with (go_at_call 11; refine (WO9.out _ h).mono ?_; clear h; rintro _ w ⟨bw, M10, rfl, h, hle10, hnw, hbw⟩))
                    refine hK.out _ _ (h.le hle10) (fun hHeld => ?_)
                    clear hK K
                    try simp only [Act.put, List.setIfInBounds_toArray, List.set_cons_zero, List.set_cons_succ]
                    refine wpAnyH_ready (rs := [5]) (by kernel_rfl) (by simp) ?_
                    refine AllReadyH.cons rfl (fun K hK => ?_) AllReadyH.nil
                    (go_simp; go_wp2_with (go_at_call 21; refine (CH9.out M10 _ bw h hbw).mono ?_; clear h; rintro _ w ⟨v9, rfl, M11, h, hle11, hown11⟩))
                    refine hK.out _ _ (h.le (Mm.le_trans hle10 hle11)) (fun hHeld => ?_)
                    clear hK K
                    try simp only [Act.put, List.setIfInBounds_toArray, List.set_cons_zero, List.set_cons_succ]
                    refine wpAnyH_take (i := 6) (v := ?_) rfl (by kernel_rfl) (by kernel_rfl) (by kernel_rfl) (fun _ _ _ h => h) (Or.inl ⟨by rfl, ?_⟩) hHeld ?_
                    rotate_left
                    · (intro wz _; go_simp; try with_reducible rfl)
                    try simp only [List.getElem_toArray, List.getElem_cons_succ, List.getElem_cons_zero, Act.put, List.setIfInBounds_toArray, List.set_cons_zero, List.set_cons_succ]
                    refine wpAnyH_take (i := 7) (v := ?_) rfl (by kernel_rfl) (by kernel_rfl) (by kernel_rfl) (fun _ _ _ h => h) (Or.inl ⟨by rfl, ?_⟩) hHeld ?_
                    rotate_left
                    · (intro wz _; go_simp; try with_reducible rfl)
                    try simp only [List.getElem_toArray, List.getElem_cons_succ, List.getElem_cons_zero, Act.put, List.setIfInBounds_toArray, List.set_cons_zero, List.set_cons_succ]
                    refine wpAnyH_take (i := 8) (v := ?_) rfl (by kernel_rfl) (by kernel_rfl) (by kernel_rfl) (fun _ _ _ h => h) (Or.inl ⟨by rfl, ?_⟩) hHeld ?_
                    rotate_left
                    · (intro wz _; go_simp; try with_reducible rfl)
                    try simp only [List.getElem_toArray, List.getElem_cons_succ, List.getElem_cons_zero, Act.put, List.setIfInBounds_toArray, List.set_cons_zero, List.set_cons_succ]
                    refine wpAnyH_take (i := 9) (v := ?_) rfl (by kernel_rfl) (by kernel_rfl) (by kernel_rfl) (fun _ _ _ h => h) (Or.inl ⟨by rfl, ?_⟩) hHeld ?_
                    rotate_left
                    · (intro wz _; go_simp; try with_reducible rfl)
                    try simp only [List.getElem_toArray, List.getElem_cons_succ, List.getElem_cons_zero, Act.put, List.setIfInBounds_toArray, List.set_cons_zero, List.set_cons_succ]
                    refine wpAnyH_take (i := 10) (v := ?_) rfl (by kernel_rfl) (by kernel_rfl) (by kernel_rfl) (fun _ _ _ h => h) (Or.inl ⟨by rfl, ?_⟩) hHeld ?_
                    rotate_left
                    · (intro wz _; go_simp; try with_reducible rfl)
                    try simp only [List.getElem_toArray, List.getElem_cons_succ, List.getElem_cons_zero, Act.put, List.setIfInBounds_toArray, List.set_cons_zero, List.set_cons_succ]
                    refine wpAnyH_done (by kernel_rfl) ?_ _
                    clear hHeld ME9 WO9 CH9
                    have hl11 := Mm.le_trans hle10 hle11
                    replace hxb9' := hl11 _ _ hxb9'
                    have IN11 := Lib.hid (fun (w : World) (h : Has σ M11 w) => IN9.out M11 w v9 h hl11 hown11.rd)
                    have FT11 := Lib.hid (fun (w : World) (h : Has σ M11 w) => FT9.out M11 w h hl11)
                    have OD11 := Lib.hid (fun (w : World) (h : Has σ M11 w) => OD9.out M11 w h hl11)
                    clear IN9 FT9 OD9 hown11 hbw hnw hbf9
                    go_wp2_with (first
                      | (with_reducible show wpList _ _ _ ({ dst := _, op := Op.load 47 _, type := _, pos := _, after := _, guard := _ } :: _) _ _; refine wpList_load1_has h rfl 47 _ rfl rfl hxb9' eX9 Try.underlying47 rfl ?_)
                      | (go_at_call 22; refine (IN11.out _ h).mono ?_; clear h; rintro _ w ⟨rfl, h⟩)
                      | (go_at_call 16; refine (FT11.out _ h).mono ?_; clear h; rintro _ w ⟨rfl, h⟩)
                      | (go_at_call 23; refine (OD11.out _ h).mono ?_; clear h; rintro _ w ⟨rfl, M12, h, hle12⟩))
                    go_roundw
                    case rel => exact ⟨i + 1, M12, _, K9, labK9, s3, fx9, fh9, Lf9, had9, gl9, by have := HLT.out; omega, by go_num, h, HP9.out.2.1.keep (Kp.le (Mm.le_trans hl11 hle12) fun _ => 0) (fun _ _ h => h), HP9.out.2.2.1.keep (Kp.le (Mm.le_trans hl11 hle12) fun _ => 0) (fun h => h), HP9.out.2.2.2.1, HP9.out.2.2.2.2.1, HP9.out.2.2.2.2.2⟩
                    case measure => have := HLT.out; simp [intOf]; omega
                  · obtain ⟨curH5, hcb5, hcu5⟩ := Own.at_ HA5.out.hrow
                    obtain ⟨Ah5, ch5, hfe5⟩ := (HA5.out.each lv ll).form
                    have eH5 : curH5[lv]? = some (.slice Ah5 (had lv).length ch5) := by
                      rw [← hfe5]
                      exact hcu5 lv _ (by rw [List.getElem?_map, List.getElem?_range ll]; rfl)
                    have hbm5 := HB5.out.le _ _ hcb5
                    have hO5 : Own (outK K5 M5 labK5 (10 + lv)) M5 3 1 (.slice Ah5 (had lv).length ch5) (had lv).length (natv (had lv)) := by rw [← hfe5]; exact (HA5.out.each lv ll).up HB5.out.le
                    have hOle5 := outK_le K5 M5 labK5 (10 + lv)
                    have hn60h : (had lv).length ≤ S := nodup_le (HALL.out.2.2.2.1.had lv).nodup fun x hx => ⟨((HALL.out.2.2.2.1.had lv).all x hx).1, ((HALL.out.2.2.2.1.had lv).all x hx).2.1⟩
                    rw [HNH.out] at eH5 hO5 hn60h
                    have gz : ((x0 : Int) != 0) = true := by simp; omega
                    have hll : (lv : Int) < (L : Int) := by omega
                    have HZ0 := Lib.hid hz0
                    clear hcb5 hcu5 hfe5 hz0
                    go_upto_region 29 with (first
                      | (with_reducible show wpList _ _ _ ({ dst := _, op := Op.load 47 _, type := _, pos := _, after := _, guard := _ } :: _) _ _; refine wpList_load1_has h rfl 47 _ rfl rfl hbm5 eH5 Try.underlying47 rfl ?_)
                      | ((at_builtin; (refine wpList_append_lit h hOle5 rfl _ _ _ rfl rfl Try.underlying47 info_int rfl (by omega) rfl hO5 rfl rfl rfl (by omega) (by omega) ?_); clear h hOle5 hO5; intro v w hacc; obtain ⟨M6, h, hle6, hown6⟩ := hacc; obtain ⟨A6, c6, rfl⟩ := hown6.form; obtain ⟨lab6, K6, labK6, hM6, hB6, hK6, hR6⟩ := HM5.out.rowTo HB5.out hle6 hown6; have hH6 := ((HA5.out.hrow).keep hK6 (by omega)).up hB6.le; have hHle6 := outK_le K6 M6 labK6 2))
                      | ((with_reducible show wpList _ _ _ ({ dst := _, op := Op.store 47 _ _, type := _, pos := _, after := _, guard := _ } :: _) _ _); (refine wpList_putOne h hHle6 hH6 rfl 47 _ _ rfl rfl (k := lv) rfl ll (u := .slice A6 (nh + 1) c6) rfl rfl (by kernel_rfl) ?_); clear h hHle6 hH6; intro w M7 h hle7 hown7))
                    obtain ⟨lab7, K7, labK7, hM7, hB7, hK7, hR7⟩ := hM6.rowTo hB6 hle7 hown7
                    have hA7 := HA5.out.setH ll hK6 (h2 := had lv ++ [x0]) (by rw [natv_snoc, List.length_append, HNH.out]; exact hR6) hK7 hR7
                    have hS7 := Mm.le_trans (Mm.le_trans HS5.out (stable_kp hK6 (by omega))) (stable_kp hK7 (by omega))
                    have hAI5 : AlInv c S gens L T tp (i + 1) s3 (put1 Lf lv l2) (put1 had lv (had lv ++ [x0])) (put1 gl lv (gl lv)) := ⟨⟨a + ka, m + 5, g3, ow3, ev3, by have h1 := HALL.out.1; have h2 := HI3.out.2.2.2.1; omega, HA3.out, by have := HALL.out.2.2.1; omega, by have h1 := HI3.out.1; rw [HX0.out, HL2.out, if_neg HZ0.out] at h1; exact h1, HI3.out.2.1, fun l hl => by rw [put1_self]; exact (HALL.out.2.2.2.2.2.1 l hl).same (HI3.out.2.2.1 l), HI3.out.2.2.2.2 HALL.out.2.2.2.2.2.2⟩⟩
                    obtain ⟨M9, lab9, K9, labK9, fx9, fh9, Lf9, had9, gl9, HP9⟩ : ∃ M9 lab9 K9 labK9 fx9 fh9 Lf9 had9 gl9, Hid (Has σ M9 w ∧ Mach M9 lab9 p s3 ∧ Base K9 M9 lab9 ∧ M1.le (stable K9 labK9) ∧ LawA K9 labK9 L S L (.slice (some ⟨gx, 0, none⟩) L xc) (.slice (some ⟨bh, 0, none⟩) L L) fx9 fh9 Lf9 had9 gl9 ∧ AlInv c S gens L T tp (i + 1) s3 Lf9 had9 gl9) := ⟨_, _, _, _, _, _, _, _, _, Lib.hid ⟨h, hM7, hB7, hS7, hA7, hAI5⟩⟩
                    clear h hAI5 hM6 hB6 hK6 hR6 hM7 hB7 hK7 hR7 hA7 hS7 hbm5 eH5 gz
                    -- the free list, Fault, Odd
                    have h := HP9.out.1
                    obtain ⟨a9, m9, g9, ow9, ev9, ha9, hA9, hm9, hI9, hid9, hgn9, how9⟩ := HP9.out.2.2.2.2.2.all
                    have hb0 := HNU.out.b0
                    have hs0 := HNU.out.s0
                    have hN9 : s3.mem.N = L * (18 + B + 6 * S) := by
                      have h1 := hA9.memN
                      rw [HNU.out.lev, HNU.out.sz, ← Int.natCast_mul] at h1
                      exact Int.ofNat_inj.1 h1
                    have hN2 : L * (18 + B + 6 * S) ≤ 4 * (18 + 40 + 6 * 60) := Nat.mul_le_mul (by omega) (by omega)
                    have hbf9 := HP9.out.2.2.1.le _ _ (stable_le _ _ _ _ (HP9.out.2.2.2.1 _ _ hbf))
                    have ME9 := Lib.hid (fun (w : World) (h : Has σ M9 w) => mMem_eq h HP9.out.2.1)
                    have WO9 := Lib.hid (fun (w : World) (h : Has σ M9 w) => memWords_eq h HP9.out.2.1.mem (by omega))
                    have hQ60 : (Lf9 lv).length ≤ 60 := by have := free_busy (hI9.lv lv ll).nodup (hI9.lv lv ll).mem; omega
                    have CH9 : Hid (∀ (M' : Mm) (w : World) (bw : Nat), Has σ M' w → M' bw = some s3.mem.row → Calls Try.prog 21 #[.agg row, .slice (some ⟨bw, 0, none⟩) s3.mem.N s3.mem.N, .int .i64 (lv : Nat)] w fun r w' => ∃ v, r = .returned (.tuple #[v, .bool true]) ∧ Acc σ M' w' 3 1 v (Lf9 lv).length (natv (Lf9 lv))) := Lib.hid fun M' w bw h hb => by
                      have := refChain_eq h c HNU.out hb hN9 lv ll (hA9.words.top_n HNU.out ll) (fun i a b => hA9.words.lk_n HNU.out ll a b) (hI9.lv lv ll).lk (Q := Lf9 lv) (by rw [← slOf_eq]; exact (hI9.lv lv ll).chain) (fun x hx => (((hI9.lv lv ll).mem x).1 hx).2.1) (by have := free_busy (hI9.lv lv ll).nodup (hI9.lv lv ll).mem; omega)
                      unfold confV at this
                      rw [HRW.out] at this
                      exact this
                    have OD9 : Hid (∀ (M' : Mm) (w : World), Has σ M' w → M9.le M' → Calls Try.prog 23 #[.pointer (some ⟨p, 0, none⟩), .int .i64 (lv : Nat)] w fun r w' => r = .returned (.int .i64 0) ∧ ∃ M'', Has σ M'' w' ∧ M'.le M'') := Lib.hid fun M' w h hle => odd_eq h (HP9.out.2.1.keep (Kp.le hle fun _ => 0) fun _ _ h => h) hA9 (by have := HLT.out; omega) HNU.out HG.out ll (hI9.lv lv ll) (fun i _ _ => how9 lv i)
                    have FT9 : Hid (∀ (M' : Mm) (w : World), Has σ M' w → M9.le M' → Calls Try.prog 16 #[.pointer (some ⟨p, 0, none⟩)] w fun r w' => r = .returned (.bool false) ∧ Has σ M' w') := Lib.hid fun M' w h hle => by
                      have := mFault_eq h (HP9.out.2.1.keep (Kp.le hle fun _ => 0) fun _ _ h => h)
                      rw [hA9.good] at this
                      exact this
                    obtain ⟨curX9, hxb9, hcx9⟩ := Own.at_ HP9.out.2.2.2.2.1.xrow
                    have hrL9 := HP9.out.2.2.2.2.1.xl lv ll
                    obtain ⟨AL9, cL9, hfL9⟩ := hrL9.form
                    have eX9 : curX9[lv * 2]? = some (.slice AL9 (Lf9 lv).length cL9) := by
                      rw [← hfL9]
                      exact hcx9 (lv * 2) _ (by
                        have := flat_get encF_len ((List.range L).map fx9) lv (fx9 lv) (by rw [List.getElem?_map, List.getElem?_range ll]; rfl) 0 (by decide)
                        rw [Nat.add_zero] at this
                        rw [this]; rfl)
                    have hxb9' := HP9.out.2.2.1.le _ _ hxb9
                    have IN9 : Hid (∀ (M' : Mm) (w : World) (v : Value), Has σ M' w → M9.le M' → Rd M' 1 v (Lf9 lv).length (natv (Lf9 lv)) → Calls Try.prog 22 #[v, .slice AL9 (Lf9 lv).length cL9] w fun r w' => r = .returned (.bool true) ∧ Has σ M' w') := Lib.hid fun M' w v h hle hv => refInts_eq h hv (by rw [← hfL9]; exact hrL9.le (Mm.le_trans (stable_le _ _) (Mm.le_trans HP9.out.2.2.1.le hle))) (by omega)
                    clear ha9 hA9 hm9 hI9 hid9 hgn9 how9 hN9 hN2 hb0 hs0 hrL9 hfL9 hcx9 hxb9 hQ60
                    generalize hQn : Lf9 lv = Q9 at *
                    clear hQn
                    generalize s3.mem.row = wobj at *
                    generalize s3.mem.N = N9 at *
                    generalize Q9.length = qn at *
                    refine wp_region_held_drew (S := Has σ (M9)) (by kernel_rfl) (h.drew) (fun hHeld => ?_)
                    refine wpAnyH_take (i := 0) (v := _) rfl (by kernel_rfl) (by kernel_rfl) (by kernel_rfl) (fun _ _ _ h => h) (yields_agg rfl 24 _ rfl rfl hbf9 hx hz Try.underlying24 rfl (by kernel_rfl)) hHeld ?_
                    try simp only [List.getElem_toArray, List.getElem_cons_succ, List.getElem_cons_zero, Act.put, List.setIfInBounds_toArray, List.set_cons_zero, List.set_cons_succ]
                    refine wpAnyH_take (i := 1) (v := ?_) rfl (by kernel_rfl) (by kernel_rfl) (by kernel_rfl) (fun _ _ _ h => h) (Or.inl ⟨by rfl, ?_⟩) hHeld ?_
                    rotate_left
                    · (intro wz _; go_simp; try with_reducible rfl)
                    try simp only [List.getElem_toArray, List.getElem_cons_succ, List.getElem_cons_zero, Act.put, List.setIfInBounds_toArray, List.set_cons_zero, List.set_cons_succ]
                    refine wpAnyH_take (i := 4) (v := ?_) rfl (by kernel_rfl) (by kernel_rfl) (by kernel_rfl) (fun _ _ _ h => h) (Or.inl ⟨by rfl, ?_⟩) hHeld ?_
                    rotate_left
                    · (intro wz _; go_simp; try with_reducible rfl)
                    try simp only [List.getElem_toArray, List.getElem_cons_succ, List.getElem_cons_zero, Act.put, List.setIfInBounds_toArray, List.set_cons_zero, List.set_cons_succ]
                    replace h := h.drew
                    generalize w.drew = wq at h hHeld ⊢
                    obtain ⟨w, rfl⟩ : ∃ q : World, q = wq := ⟨_, rfl⟩
                    refine wpAnyH_ready (rs := [2]) (by kernel_rfl) (by simp) ?_
                    refine AllReadyH.cons rfl (fun K hK => ?_) AllReadyH.nil
                    (go_simp; go_wp2_with (go_at_call 10; refine (ME9.out _ h).mono ?_; clear h; rintro _ w ⟨rfl, h⟩))
                    refine hK.out _ _ (h) (fun hHeld => ?_)
                    clear hK K
                    try simp only [Act.put, List.setIfInBounds_toArray, List.set_cons_zero, List.set_cons_succ]
                    refine wpAnyH_ready (rs := [3]) (by kernel_rfl) (by simp) ?_
                    refine AllReadyH.cons rfl (fun K hK => ?_) AllReadyH.nil
                    (go_simp; go_wp2_with (go_at_call 11; refine (WO9.out _ h).mono ?_; clear h; rintro _ w ⟨bw, M10, rfl, h, hle10, hnw, hbw⟩))
                    refine hK.out _ _ (h.le hle10) (fun hHeld => ?_)
                    clear hK K
                    try simp only [Act.put, List.setIfInBounds_toArray, List.set_cons_zero, List.set_cons_succ]
                    refine wpAnyH_ready (rs := [5]) (by kernel_rfl) (by simp) ?_
                    refine AllReadyH.cons rfl (fun K hK => ?_) AllReadyH.nil
                    (go_simp; go_wp2_with (go_at_call 21; refine (CH9.out M10 _ bw h hbw).mono ?_; clear h; rintro _ w ⟨v9, rfl, M11, h, hle11, hown11⟩))
                    refine hK.out _ _ (h.le (Mm.le_trans hle10 hle11)) (fun hHeld => ?_)
                    clear hK K
                    try simp only [Act.put, List.setIfInBounds_toArray, List.set_cons_zero, List.set_cons_succ]
                    refine wpAnyH_take (i := 6) (v := ?_) rfl (by kernel_rfl) (by kernel_rfl) (by kernel_rfl) (fun _ _ _ h => h) (Or.inl ⟨by rfl, ?_⟩) hHeld ?_
                    rotate_left
                    · (intro wz _; go_simp; try with_reducible rfl)
                    try simp only [List.getElem_toArray, List.getElem_cons_succ, List.getElem_cons_zero, Act.put, List.setIfInBounds_toArray, List.set_cons_zero, List.set_cons_succ]
                    refine wpAnyH_take (i := 7) (v := ?_) rfl (by kernel_rfl) (by kernel_rfl) (by kernel_rfl) (fun _ _ _ h => h) (Or.inl ⟨by rfl, ?_⟩) hHeld ?_
                    rotate_left
                    · (intro wz _; go_simp; try with_reducible rfl)
                    try simp only [List.getElem_toArray, List.getElem_cons_succ, List.getElem_cons_zero, Act.put, List.setIfInBounds_toArray, List.set_cons_zero, List.set_cons_succ]
                    refine wpAnyH_take (i := 8) (v := ?_) rfl (by kernel_rfl) (by kernel_rfl) (by kernel_rfl) (fun _ _ _ h => h) (Or.inl ⟨by rfl, ?_⟩) hHeld ?_
                    rotate_left
                    · (intro wz _; go_simp; try with_reducible rfl)
                    try simp only [List.getElem_toArray, List.getElem_cons_succ, List.getElem_cons_zero, Act.put, List.setIfInBounds_toArray, List.set_cons_zero, List.set_cons_succ]
                    refine wpAnyH_take (i := 9) (v := ?_) rfl (by kernel_rfl) (by kernel_rfl) (by kernel_rfl) (fun _ _ _ h => h) (Or.inl ⟨by rfl, ?_⟩) hHeld ?_
                    rotate_left
                    · (intro wz _; go_simp; try with_reducible rfl)
                    try simp only [List.getElem_toArray, List.getElem_cons_succ, List.getElem_cons_zero, Act.put, List.setIfInBounds_toArray, List.set_cons_zero, List.set_cons_succ]
                    refine wpAnyH_take (i := 10) (v := ?_) rfl (by kernel_rfl) (by kernel_rfl) (by kernel_rfl) (fun _ _ _ h => h) (Or.inl ⟨by rfl, ?_⟩) hHeld ?_
                    rotate_left
                    · (intro wz _; go_simp; try with_reducible rfl)
                    try simp only [List.getElem_toArray, List.getElem_cons_succ, List.getElem_cons_zero, Act.put, List.setIfInBounds_toArray, List.set_cons_zero, List.set_cons_succ]
                    refine wpAnyH_done (by kernel_rfl) ?_ _
                    clear hHeld ME9 WO9 CH9
                    have hl11 := Mm.le_trans hle10 hle11
                    replace hxb9' := hl11 _ _ hxb9'
                    have IN11 := Lib.hid (fun (w : World) (h : Has σ M11 w) => IN9.out M11 w v9 h hl11 hown11.rd)
                    have FT11 := Lib.hid (fun (w : World) (h : Has σ M11 w) => FT9.out M11 w h hl11)
                    have OD11 := Lib.hid (fun (w : World) (h : Has σ M11 w) => OD9.out M11 w h hl11)
                    clear IN9 FT9 OD9 hown11 hbw hnw hbf9
                    go_wp2_with (first
                      | (with_reducible show wpList _ _ _ ({ dst := _, op := Op.load 47 _, type := _, pos := _, after := _, guard := _ } :: _) _ _; refine wpList_load1_has h rfl 47 _ rfl rfl hxb9' eX9 Try.underlying47 rfl ?_)
                      | (go_at_call 22; refine (IN11.out _ h).mono ?_; clear h; rintro _ w ⟨rfl, h⟩)
                      | (go_at_call 16; refine (FT11.out _ h).mono ?_; clear h; rintro _ w ⟨rfl, h⟩)
                      | (go_at_call 23; refine (OD11.out _ h).mono ?_; clear h; rintro _ w ⟨rfl, M12, h, hle12⟩))
                    go_roundw
                    case rel => exact ⟨i + 1, M12, _, K9, labK9, s3, fx9, fh9, Lf9, had9, gl9, by have := HLT.out; omega, by go_num, h, HP9.out.2.1.keep (Kp.le (Mm.le_trans hl11 hle12) fun _ => 0) (fun _ _ h => h), HP9.out.2.2.1.keep (Kp.le (Mm.le_trans hl11 hle12) fun _ => 0) (fun h => h), HP9.out.2.2.2.1, HP9.out.2.2.2.2.1, HP9.out.2.2.2.2.2⟩
                    case measure => have := HLT.out; simp [intOf]; omega
              · obtain ⟨wn, rfl⟩ : ∃ wn : Nat, ew = (wn : Nat) := ⟨ew.toNat, by omega⟩
                have hwn : wn < nh := by omega
                have hneg' : ¬ (wn : Int) < 0 := by omega
                obtain ⟨curH5, hcb5, hcu5⟩ := Own.at_ HA2.out.hrow
                have hE := HA2.out.each lv ll
                obtain ⟨Ah5, ch5, hfe5⟩ := hE.form
                have eH5 : curH5[lv]? = some (.slice Ah5 (had lv).length ch5) := by
                  rw [← hfe5]
                  exact hcu5 lv _ (by rw [List.getElem?_map, List.getElem?_range ll]; rfl)
                rw [hfe5] at hE
                rw [HNH.out] at eH5 hE
                obtain ⟨gh, cgh, hce⟩ := Own.pos hE (by omega)
                cases hce
                obtain ⟨curE, hgE, hcE⟩ := Own.at_ hE
                obtain ⟨x, hxq⟩ : ∃ x, (had lv)[wn]? = some x := ⟨_, List.getElem?_eq_getElem (by rw [HNH.out]; exact hwn)⟩
                have ex : curE[wn]? = some (.int .i64 (x : Nat)) := hcE wn _ (natv_get hxq)
                have hbm5 := HKM.out _ _ hcb5
                have hgE5 := HKM.out _ _ hgE
                have hrdE : Rd M2 1 (.slice (some ⟨gh, 0, none⟩) nh ch5) nh (natv (had lv)) := hE.rd.le HKM.out
                have HXQ := Lib.hid hxq
                have HE5 := Lib.hid hE
                have hll : (lv : Int) < (L : Int) := by omega
                have hwn' : (wn : Int) < (nh : Int) := by omega
                have hn60h : nh ≤ 60 := by
                  have h1 := nodup_le (S := S) (HALL.out.2.2.2.1.had lv).nodup fun x hx => ⟨((HALL.out.2.2.2.1.had lv).all x hx).1, ((HALL.out.2.2.2.1.had lv).all x hx).2.1⟩
                  rw [HNH.out] at h1
                  have := HNU.out.s0.2
                  omega
                have HCUR := Lib.hid hcb5
                have hszH : lv < curH5.size := (Array.getElem?_eq_some_iff.1 eH5).1
                clear hw hneg hcu5 hfe5 hcE hgE hxq hE hcb5
                go_upto_region 25 with (first
                  | (with_reducible show wpList _ _ _ ({ dst := _, op := Op.load 47 _, type := _, pos := _, after := _, guard := _ } :: _) _ _; refine wpList_load1_has h rfl 47 _ rfl rfl hbm5 eH5 Try.underlying47 rfl ?_)
                  | (with_reducible show wpList _ _ _ ({ dst := _, op := Op.load 3 _, type := _, pos := _, after := _, guard := _ } :: _) _ _; refine wpList_load1_has h rfl 3 _ rfl rfl hgE5 ex Try.underlying3 rfl ?_))
                clear ex hgE5 hneg'
                have hr1 : Rd M2 1 (.slice (some ⟨gh, 0, none⟩) wn ch5) wn ((natv (had lv)).take wn) := by
                  have := hrdE.upto (k := wn) (by omega)
                  simpa [sliced, Addr.add_mid] using this
                have hr2 : Rd M2 1 (.slice (if ch5 = wn + 1 then some ⟨gh, 0, none⟩ else some ⟨gh, wn + 1, none⟩) (nh - (wn + 1)) (ch5 - (wn + 1))) (nh - (wn + 1)) ((natv (had lv)).drop (wn + 1)) := by
                  have := hrdE.from_ (l := wn + 1) (by omega)
                  simpa [sliced, Addr.add_mid] using this
                have one1 : ∀ v ∈ (natv (had lv)).take wn, v.oneCell' = true := fun v hv => natv_one _ v (List.mem_of_mem_take hv)
                have one2 : ∀ v ∈ (natv (had lv)).drop (wn + 1), v.oneCell' = true := fun v hv => natv_one _ v (List.mem_of_mem_drop hv)
                have hch : nh ≤ ch5 := by obtain ⟨_, A', c', e, hc, _⟩ := hrdE; cases e; exact hc
                have hKS : (outK K2 M2 labK2 2).le M2 := outK_le _ _ _ _
                have hKbh : outK K2 M2 labK2 2 bh = none := by
                  obtain ⟨_, ⟨hv, _⟩ | ⟨g', cap', cur', hv, hg', _⟩⟩ := HA2.out.hrow.up HKM.out
                  · cases hv
                  · cases hv; exact hg'
                generalize outK K2 M2 labK2 2 = KS at hKS hKbh
                have wq1 : IntKind.i64.wrap ((wn : Int) + 1) = ((wn + 1 : Nat) : Int) := by rw [show (wn : Int) + 1 = ((wn + 1 : Nat) : Int) by omega]; exact IntWalk.i64_in _ (by omega)
                have s1 : (0 : Int) ≤ (wn : Int) ∧ (wn : Int) ≤ (ch5 : Int) := by omega
                have s2 : ((wn + 1 : Nat) : Int) ≤ (nh : Int) := by omega
                have s4 : 0 ≤ (wn : Int) + 1 ∧ (wn : Int) + 1 ≤ (nh : Int) := by omega
                clear hrdE
                have HXS := Lib.hid (natv_erase (had lv) wn)
                generalize (natv (had lv)).take wn = xs1 at *
                generalize (natv (had lv)).drop (wn + 1) = xs2 at *
                go_cut [151] from 58 to 217 (fun _ wx => ∃ (M5 : Mm) (v : Value), M2.le M5 ∧ Own M2 M5 3 1 v (nh - 1) (xs1 ++ xs2) ∧ Has σ (M5.upd bh (.cells (curH5.setIfInBounds lv v) 47)) wx)
                case first =>
                  as_aux_lemma =>
                    refine wp_region_held_drew (S := Has σ (KS)) (by kernel_rfl) (h.drew.le hKS) (fun hHeld => ?_)
                    refine wpAnyH_take (i := 0) (v := ?_) rfl (by kernel_rfl) (by kernel_rfl) (by kernel_rfl) (fun _ _ _ h => h) (Or.inl ⟨by rfl, ?_⟩) hHeld ?_
                    rotate_left
                    · (intro wz _; go_simp; try with_reducible rfl)
                    try simp only [List.getElem_toArray, List.getElem_cons_succ, List.getElem_cons_zero, Act.put, List.setIfInBounds_toArray, List.set_cons_zero, List.set_cons_succ]
                    refine wpAnyH_take (i := 1) (v := ?_) rfl (by kernel_rfl) (by kernel_rfl) (by kernel_rfl) (fun _ _ _ h => h) (Or.inl ⟨by rfl, ?_⟩) hHeld ?_
                    rotate_left
                    · (intro wz _; go_simp; try with_reducible rfl)
                    try simp only [List.getElem_toArray, List.getElem_cons_succ, List.getElem_cons_zero, Act.put, List.setIfInBounds_toArray, List.set_cons_zero, List.set_cons_succ]
                    refine wpAnyH_take (i := 3) (v := ?_) rfl (by kernel_rfl) (by kernel_rfl) (by kernel_rfl) (fun _ _ _ h => h) (Or.inl ⟨by rfl, ?_⟩) hHeld ?_
                    rotate_left
                    · (intro wz _; go_simp; try with_reducible rfl)
                    try simp only [List.getElem_toArray, List.getElem_cons_succ, List.getElem_cons_zero, Act.put, List.setIfInBounds_toArray, List.set_cons_zero, List.set_cons_succ]
                    refine wpAnyH_take (i := 4) (v := ?_) rfl (by kernel_rfl) (by kernel_rfl) (by kernel_rfl) (fun _ _ _ h => h) (Or.inl ⟨by rfl, ?_⟩) hHeld ?_
                    rotate_left
                    · (intro wz _; go_simp; try with_reducible rfl)
                    try simp only [List.getElem_toArray, List.getElem_cons_succ, List.getElem_cons_zero, Act.put, List.setIfInBounds_toArray, List.set_cons_zero, List.set_cons_succ]
                    refine wpAnyH_take (i := 5) (v := ?_) rfl (by kernel_rfl) (by kernel_rfl) (by kernel_rfl) (fun _ _ _ h => h) (Or.inl ⟨by rfl, ?_⟩) hHeld ?_
                    rotate_left
                    · (intro wz _; go_simp; try with_reducible rfl)
                    try simp only [List.getElem_toArray, List.getElem_cons_succ, List.getElem_cons_zero, Act.put, List.setIfInBounds_toArray, List.set_cons_zero, List.set_cons_succ]
                    refine wpAnyH_take (i := 7) (v := ?_) rfl (by kernel_rfl) (by kernel_rfl) (by kernel_rfl) (fun _ _ _ h => h) (Or.inl ⟨by rfl, ?_⟩) hHeld ?_
                    rotate_left
                    · (intro wz _; go_simp; try with_reducible rfl)
                    try simp only [List.getElem_toArray, List.getElem_cons_succ, List.getElem_cons_zero, Act.put, List.setIfInBounds_toArray, List.set_cons_zero, List.set_cons_succ]
                    refine wpAnyH_take (i := 10) (v := ?_) rfl (by kernel_rfl) (by kernel_rfl) (by kernel_rfl) (fun _ _ _ h => h) (Or.inl ⟨by rfl, ?_⟩) hHeld ?_
                    rotate_left
                    · (intro wz _; go_simp; try with_reducible rfl)
                    try simp only [List.getElem_toArray, List.getElem_cons_succ, List.getElem_cons_zero, Act.put, List.setIfInBounds_toArray, List.set_cons_zero, List.set_cons_succ]
                    refine wpAnyH_take (i := 11) (v := ?_) rfl (by kernel_rfl) (by kernel_rfl) (by kernel_rfl) (fun _ _ _ h => h) (Or.inl ⟨by rfl, ?_⟩) hHeld ?_
                    rotate_left
                    · (intro wz _; go_simp; try with_reducible rfl)
                    try simp only [List.getElem_toArray, List.getElem_cons_succ, List.getElem_cons_zero, Act.put, List.setIfInBounds_toArray, List.set_cons_zero, List.set_cons_succ]
                    refine wpAnyH_take (i := 12) (v := ?_) rfl (by kernel_rfl) (by kernel_rfl) (by kernel_rfl) (fun _ _ _ h => h) (Or.inl ⟨by rfl, ?_⟩) hHeld ?_
                    rotate_left
                    · (intro wz _; go_simp; try with_reducible rfl)
                    try simp only [List.getElem_toArray, List.getElem_cons_succ, List.getElem_cons_zero, Act.put, List.setIfInBounds_toArray, List.set_cons_zero, List.set_cons_succ]
                    refine wpAnyH_take (i := 14) (v := ?_) rfl (by kernel_rfl) (by kernel_rfl) (by kernel_rfl) (fun _ _ _ h => h) (Or.inl ⟨by rfl, ?_⟩) hHeld ?_
                    rotate_left
                    · (intro wz _; go_simp; try with_reducible rfl)
                    try simp only [List.getElem_toArray, List.getElem_cons_succ, List.getElem_cons_zero, Act.put, List.setIfInBounds_toArray, List.set_cons_zero, List.set_cons_succ]
                    refine wpAnyH_take (i := 15) (v := ?_) rfl (by kernel_rfl) (by kernel_rfl) (by kernel_rfl) (fun _ _ _ h => h) (Or.inl ⟨by rfl, ?_⟩) hHeld ?_
                    rotate_left
                    · (intro wz _; go_simp; try with_reducible rfl)
                    try simp only [List.getElem_toArray, List.getElem_cons_succ, List.getElem_cons_zero, Act.put, List.setIfInBounds_toArray, List.set_cons_zero, List.set_cons_succ]
                    replace h := h.drew
                    generalize w.drew = wq at h hHeld ⊢
                    obtain ⟨w, rfl⟩ : ∃ q : World, q = wq := ⟨_, rfl⟩
                    have hbmC := hbm5
                    refine wpAnyH_ready (rs := [2, 6, 13]) (by kernel_rfl) (by simp) ?_
                    refine AllReadyH.cons rfl (fun K hK => ?_) (AllReadyH.cons rfl (fun K hK => ?_) (AllReadyH.cons rfl (fun K hK => ?_) AllReadyH.nil))
                    · skip
                      go_simp
                      refine hK.out _ _ ((h.quietAlloc _).le hKS) (fun hHeld => ?_)
                      clear hK K
                      try simp only [Act.put, List.setIfInBounds_toArray, List.set_cons_zero, List.set_cons_succ]
                      clear hHeld
                      obtain ⟨Mn, hbx, hlen, hb2, hn2⟩ := h.box (.cells #[] 3)
                      generalize w.alloc _ = wx at hbx ⊢
                      generalize w.heap.size = b2 at hb2 hn2 ⊢
                      clear h
                      try clear w
                      have h := hbx
                      clear hbx
                      obtain ⟨w, rfl⟩ : ∃ x : World, x = wx := ⟨_, rfl⟩
                      have hHeld := h.le (Mm.le_trans hKS hlen)
                      replace hbmC := hlen _ _ hbm5
                      have hown1 : Own M2 Mn 3 1 (.slice (some ⟨b2, 0, none⟩) 0 0) 0 [] := ⟨rfl, .inr ⟨b2, 0, #[], rfl, hn2, hb2, Nat.le_refl _, by unfold maxLen; omega, rfl, rfl⟩⟩
                      refine wpAnyH_ready (rs := [6, 13]) (by kernel_rfl) (by simp) ?_
                      refine AllReadyH.cons rfl (fun K hK => ?_) (AllReadyH.cons rfl (fun K hK => ?_) AllReadyH.nil)
                      · skip
                        refine step_yields rfl (yields_load1 rfl 47 _ rfl rfl hbmC eH5 Try.underlying47 rfl) h ?_
                        refine hK.out _ _ hHeld (fun hHeld => ?_)
                        clear hK K
                        simp only [Act.put, List.setIfInBounds_toArray, List.set_cons_zero, List.set_cons_succ]
                        refine wpAnyH_take (i := 8) (v := ?_) rfl (by kernel_rfl) (by kernel_rfl) (by kernel_rfl) (fun _ _ _ h => h) (Or.inl ⟨by rfl, ?_⟩) hHeld ?_
                        rotate_left
                        · (intro wz _; go_simp; try with_reducible rfl)
                        try simp only [List.getElem_toArray, List.getElem_cons_succ, List.getElem_cons_zero, Act.put, List.setIfInBounds_toArray, List.set_cons_zero, List.set_cons_succ]
                        refine wpAnyH_ready (rs := [9, 13]) (by kernel_rfl) (by simp) ?_
                        refine AllReadyH.cons rfl (fun K hK => ?_) (AllReadyH.cons rfl (fun K hK => ?_) AllReadyH.nil)
                        · skip
                          refine step_append_rd (M0 := M2) h hlen rfl _ _ 47 rfl Try.underlying47 info_int rfl (by omega) rfl hown1 rfl (hr1.le hlen) one1 (by omega) (by omega) ?_
                          clear h hHeld hown1 hb2 hn2 hbmC hlen
                          intro v4 w hacc4
                          obtain ⟨M4, h, hle4, hown4⟩ := hacc4
                          rw [Nat.zero_add, List.nil_append] at hown4
                          refine hK.out _ _ (h.le (Mm.le_trans hKS hle4)) (fun hHeld => ?_)
                          clear hK K
                          simp only [Act.put, List.setIfInBounds_toArray, List.set_cons_zero, List.set_cons_succ]
                          have hbmC := hle4 _ _ hbm5
                          refine wpAnyH_ready (rs := [13]) (by kernel_rfl) (by simp) ?_
                          refine AllReadyH.cons rfl (fun K hK => ?_) AllReadyH.nil
                          refine step_yields rfl (yields_load1 rfl 47 _ rfl rfl hbmC eH5 Try.underlying47 rfl) h ?_
                          refine hK.out _ _ hHeld (fun hHeld => ?_)
                          clear hK K
                          simp only [Act.put, List.setIfInBounds_toArray, List.set_cons_zero, List.set_cons_succ]
                          refine wpAnyH_take (i := 16) (v := ?_) rfl (by kernel_rfl) (by kernel_rfl) (by kernel_rfl) (fun _ _ _ h => h) (Or.inl ⟨by rfl, ?_⟩) hHeld ?_
                          rotate_left
                          · (intro wz _; go_simp; try with_reducible rfl)
                          try simp only [List.getElem_toArray, List.getElem_cons_succ, List.getElem_cons_zero, Act.put, List.setIfInBounds_toArray, List.set_cons_zero, List.set_cons_succ]
                          refine wpAnyH_ready (rs := [17]) (by kernel_rfl) (by simp) ?_
                          refine AllReadyH.cons rfl (fun K hK => ?_) AllReadyH.nil
                          refine step_append_rd (M0 := M2) h hle4 rfl _ _ 47 rfl Try.underlying47 info_int rfl (by omega) rfl hown4 rfl (hr2.le hle4) one2 (by omega) (by omega) ?_
                          clear h hHeld hown4 hbmC hle4
                          intro v6 w hacc6
                          obtain ⟨M6, h, hle6, hown6⟩ := hacc6
                          rw [show wn + (nh - (wn + 1)) = nh - 1 by omega] at hown6
                          obtain ⟨A6, c6, rfl⟩ := hown6.form
                          refine hK.out _ _ (h.le (Mm.le_trans hKS hle6)) (fun hHeld => ?_)
                          clear hK K
                          simp only [Act.put, List.setIfInBounds_toArray, List.set_cons_zero, List.set_cons_succ]
                          have hbmC := hle6 _ _ hbm5
                          refine wpAnyH_take (i := 18) (v := ?_) rfl (by kernel_rfl) (by kernel_rfl) (by kernel_rfl) (fun _ _ _ h => h) (Or.inl ⟨by rfl, ?_⟩) hHeld ?_
                          rotate_left
                          · (intro wz _; go_simp; try with_reducible rfl)
                          try simp only [List.getElem_toArray, List.getElem_cons_succ, List.getElem_cons_zero, Act.put, List.setIfInBounds_toArray, List.set_cons_zero, List.set_cons_succ]
                          refine wpAnyH_ready (rs := [19]) (by kernel_rfl) (by simp) ?_
                          refine AllReadyH.cons rfl (fun K hK => ?_) AllReadyH.nil
                          refine step_store1 h rfl 47 _ _ rfl rfl rfl hbmC hszH rfl rfl (by kernel_rfl) ?_
                          clear h hHeld
                          intro w h
                          refine hK.out _ _ (h.le (Mm.le_upd (Mm.le_trans hKS hle6) hKbh _)) (fun hHeld => ?_)
                          clear hK K
                          refine wpAnyH_done (by kernel_rfl) ?_ _
                          have hEnd := h
                          go_wp2
                          all_goals (go_meet; (case rel => exact ⟨M6, _, hle6, hown6, hEnd⟩))
                        · skip
                          refine step_yields rfl (yields_load1 rfl 47 _ rfl rfl hbmC eH5 Try.underlying47 rfl) h ?_
                          refine hK.out _ _ hHeld (fun hHeld => ?_)
                          clear hK K
                          simp only [Act.put, List.setIfInBounds_toArray, List.set_cons_zero, List.set_cons_succ]
                          refine wpAnyH_take (i := 16) (v := ?_) rfl (by kernel_rfl) (by kernel_rfl) (by kernel_rfl) (fun _ _ _ h => h) (Or.inl ⟨by rfl, ?_⟩) hHeld ?_
                          rotate_left
                          · (intro wz _; go_simp; try with_reducible rfl)
                          try simp only [List.getElem_toArray, List.getElem_cons_succ, List.getElem_cons_zero, Act.put, List.setIfInBounds_toArray, List.set_cons_zero, List.set_cons_succ]
                          refine wpAnyH_ready (rs := [9]) (by kernel_rfl) (by simp) ?_
                          refine AllReadyH.cons rfl (fun K hK => ?_) AllReadyH.nil
                          refine step_append_rd (M0 := M2) h hlen rfl _ _ 47 rfl Try.underlying47 info_int rfl (by omega) rfl hown1 rfl (hr1.le hlen) one1 (by omega) (by omega) ?_
                          clear h hHeld hown1 hb2 hn2 hbmC hlen
                          intro v4 w hacc4
                          obtain ⟨M4, h, hle4, hown4⟩ := hacc4
                          rw [Nat.zero_add, List.nil_append] at hown4
                          refine hK.out _ _ (h.le (Mm.le_trans hKS hle4)) (fun hHeld => ?_)
                          clear hK K
                          simp only [Act.put, List.setIfInBounds_toArray, List.set_cons_zero, List.set_cons_succ]
                          have hbmC := hle4 _ _ hbm5
                          refine wpAnyH_ready (rs := [17]) (by kernel_rfl) (by simp) ?_
                          refine AllReadyH.cons rfl (fun K hK => ?_) AllReadyH.nil
                          refine step_append_rd (M0 := M2) h hle4 rfl _ _ 47 rfl Try.underlying47 info_int rfl (by omega) rfl hown4 rfl (hr2.le hle4) one2 (by omega) (by omega) ?_
                          clear h hHeld hown4 hbmC hle4
                          intro v6 w hacc6
                          obtain ⟨M6, h, hle6, hown6⟩ := hacc6
                          rw [show wn + (nh - (wn + 1)) = nh - 1 by omega] at hown6
                          obtain ⟨A6, c6, rfl⟩ := hown6.form
                          refine hK.out _ _ (h.le (Mm.le_trans hKS hle6)) (fun hHeld => ?_)
                          clear hK K
                          simp only [Act.put, List.setIfInBounds_toArray, List.set_cons_zero, List.set_cons_succ]
                          have hbmC := hle6 _ _ hbm5
                          refine wpAnyH_take (i := 18) (v := ?_) rfl (by kernel_rfl) (by kernel_rfl) (by kernel_rfl) (fun _ _ _ h => h) (Or.inl ⟨by rfl, ?_⟩) hHeld ?_
                          rotate_left
                          · (intro wz _; go_simp; try with_reducible rfl)
                          try simp only [List.getElem_toArray, List.getElem_cons_succ, List.getElem_cons_zero, Act.put, List.setIfInBounds_toArray, List.set_cons_zero, List.set_cons_succ]
                          refine wpAnyH_ready (rs := [19]) (by kernel_rfl) (by simp) ?_
                          refine AllReadyH.cons rfl (fun K hK => ?_) AllReadyH.nil
                          refine step_store1 h rfl 47 _ _ rfl rfl rfl hbmC hszH rfl rfl (by kernel_rfl) ?_
                          clear h hHeld
                          intro w h
                          refine hK.out _ _ (h.le (Mm.le_upd (Mm.le_trans hKS hle6) hKbh _)) (fun hHeld => ?_)
                          clear hK K
                          refine wpAnyH_done (by kernel_rfl) ?_ _
                          have hEnd := h
                          go_wp2
                          all_goals (go_meet; (case rel => exact ⟨M6, _, hle6, hown6, hEnd⟩))
                      · skip
                        refine step_yields rfl (yields_load1 rfl 47 _ rfl rfl hbmC eH5 Try.underlying47 rfl) h ?_
                        refine hK.out _ _ hHeld (fun hHeld => ?_)
                        clear hK K
                        simp only [Act.put, List.setIfInBounds_toArray, List.set_cons_zero, List.set_cons_succ]
                        refine wpAnyH_take (i := 16) (v := ?_) rfl (by kernel_rfl) (by kernel_rfl) (by kernel_rfl) (fun _ _ _ h => h) (Or.inl ⟨by rfl, ?_⟩) hHeld ?_
                        rotate_left
                        · (intro wz _; go_simp; try with_reducible rfl)
                        try simp only [List.getElem_toArray, List.getElem_cons_succ, List.getElem_cons_zero, Act.put, List.setIfInBounds_toArray, List.set_cons_zero, List.set_cons_succ]
                        refine wpAnyH_ready (rs := [6]) (by kernel_rfl) (by simp) ?_
                        refine AllReadyH.cons rfl (fun K hK => ?_) AllReadyH.nil
                        refine step_yields rfl (yields_load1 rfl 47 _ rfl rfl hbmC eH5 Try.underlying47 rfl) h ?_
                        refine hK.out _ _ hHeld (fun hHeld => ?_)
                        clear hK K
                        simp only [Act.put, List.setIfInBounds_toArray, List.set_cons_zero, List.set_cons_succ]
                        refine wpAnyH_take (i := 8) (v := ?_) rfl (by kernel_rfl) (by kernel_rfl) (by kernel_rfl) (fun _ _ _ h => h) (Or.inl ⟨by rfl, ?_⟩) hHeld ?_
                        rotate_left
                        · (intro wz _; go_simp; try with_reducible rfl)
                        try simp only [List.getElem_toArray, List.getElem_cons_succ, List.getElem_cons_zero, Act.put, List.setIfInBounds_toArray, List.set_cons_zero, List.set_cons_succ]
                        refine wpAnyH_ready (rs := [9]) (by kernel_rfl) (by simp) ?_
                        refine AllReadyH.cons rfl (fun K hK => ?_) AllReadyH.nil
                        refine step_append_rd (M0 := M2) h hlen rfl _ _ 47 rfl Try.underlying47 info_int rfl (by omega) rfl hown1 rfl (hr1.le hlen) one1 (by omega) (by omega) ?_
                        clear h hHeld hown1 hb2 hn2 hbmC hlen
                        intro v4 w hacc4
                        obtain ⟨M4, h, hle4, hown4⟩ := hacc4
                        rw [Nat.zero_add, List.nil_append] at hown4
                        refine hK.out _ _ (h.le (Mm.le_trans hKS hle4)) (fun hHeld => ?_)
                        clear hK K
                        simp only [Act.put, List.setIfInBounds_toArray, List.set_cons_zero, List.set_cons_succ]
                        have hbmC := hle4 _ _ hbm5
                        refine wpAnyH_ready (rs := [17]) (by kernel_rfl) (by simp) ?_
                        refine AllReadyH.cons rfl (fun K hK => ?_) AllReadyH.nil
                        refine step_append_rd (M0 := M2) h hle4 rfl _ _ 47 rfl Try.underlying47 info_int rfl (by omega) rfl hown4 rfl (hr2.le hle4) one2 (by omega) (by omega) ?_
                        clear h hHeld hown4 hbmC hle4
                        intro v6 w hacc6
                        obtain ⟨M6, h, hle6, hown6⟩ := hacc6
                        rw [show wn + (nh - (wn + 1)) = nh - 1 by omega] at hown6
                        obtain ⟨A6, c6, rfl⟩ := hown6.form
                        refine hK.out _ _ (h.le (Mm.le_trans hKS hle6)) (fun hHeld => ?_)
                        clear hK K
                        simp only [Act.put, List.setIfInBounds_toArray, List.set_cons_zero, List.set_cons_succ]
                        have hbmC := hle6 _ _ hbm5
                        refine wpAnyH_take (i := 18) (v := ?_) rfl (by kernel_rfl) (by kernel_rfl) (by kernel_rfl) (fun _ _ _ h => h) (Or.inl ⟨by rfl, ?_⟩) hHeld ?_
                        rotate_left
                        · (intro wz _; go_simp; try with_reducible rfl)
                        try simp only [List.getElem_toArray, List.getElem_cons_succ, List.getElem_cons_zero, Act.put, List.setIfInBounds_toArray, List.set_cons_zero, List.set_cons_succ]
                        refine wpAnyH_ready (rs := [19]) (by kernel_rfl) (by simp) ?_
                        refine AllReadyH.cons rfl (fun K hK => ?_) AllReadyH.nil
                        refine step_store1 h rfl 47 _ _ rfl rfl rfl hbmC hszH rfl rfl (by kernel_rfl) ?_
                        clear h hHeld
                        intro w h
                        refine hK.out _ _ (h.le (Mm.le_upd (Mm.le_trans hKS hle6) hKbh _)) (fun hHeld => ?_)
                        clear hK K
                        refine wpAnyH_done (by kernel_rfl) ?_ _
                        have hEnd := h
                        go_wp2
                        all_goals (go_meet; (case rel => exact ⟨M6, _, hle6, hown6, hEnd⟩))
                    · skip
                      refine step_yields rfl (yields_load1 rfl 47 _ rfl rfl hbmC eH5 Try.underlying47 rfl) h ?_
                      refine hK.out _ _ hHeld (fun hHeld => ?_)
                      clear hK K
                      simp only [Act.put, List.setIfInBounds_toArray, List.set_cons_zero, List.set_cons_succ]
                      refine wpAnyH_take (i := 8) (v := ?_) rfl (by kernel_rfl) (by kernel_rfl) (by kernel_rfl) (fun _ _ _ h => h) (Or.inl ⟨by rfl, ?_⟩) hHeld ?_
                      rotate_left
                      · (intro wz _; go_simp; try with_reducible rfl)
                      try simp only [List.getElem_toArray, List.getElem_cons_succ, List.getElem_cons_zero, Act.put, List.setIfInBounds_toArray, List.set_cons_zero, List.set_cons_succ]
                      refine wpAnyH_ready (rs := [2, 13]) (by kernel_rfl) (by simp) ?_
                      refine AllReadyH.cons rfl (fun K hK => ?_) (AllReadyH.cons rfl (fun K hK => ?_) AllReadyH.nil)
                      · skip
                        go_simp
                        refine hK.out _ _ ((h.quietAlloc _).le hKS) (fun hHeld => ?_)
                        clear hK K
                        try simp only [Act.put, List.setIfInBounds_toArray, List.set_cons_zero, List.set_cons_succ]
                        clear hHeld
                        obtain ⟨Mn, hbx, hlen, hb2, hn2⟩ := h.box (.cells #[] 3)
                        generalize w.alloc _ = wx at hbx ⊢
                        generalize w.heap.size = b2 at hb2 hn2 ⊢
                        clear h
                        try clear w
                        have h := hbx
                        clear hbx
                        obtain ⟨w, rfl⟩ : ∃ x : World, x = wx := ⟨_, rfl⟩
                        have hHeld := h.le (Mm.le_trans hKS hlen)
                        replace hbmC := hlen _ _ hbm5
                        have hown1 : Own M2 Mn 3 1 (.slice (some ⟨b2, 0, none⟩) 0 0) 0 [] := ⟨rfl, .inr ⟨b2, 0, #[], rfl, hn2, hb2, Nat.le_refl _, by unfold maxLen; omega, rfl, rfl⟩⟩
                        refine wpAnyH_ready (rs := [9, 13]) (by kernel_rfl) (by simp) ?_
                        refine AllReadyH.cons rfl (fun K hK => ?_) (AllReadyH.cons rfl (fun K hK => ?_) AllReadyH.nil)
                        · skip
                          refine step_append_rd (M0 := M2) h hlen rfl _ _ 47 rfl Try.underlying47 info_int rfl (by omega) rfl hown1 rfl (hr1.le hlen) one1 (by omega) (by omega) ?_
                          clear h hHeld hown1 hb2 hn2 hbmC hlen
                          intro v4 w hacc4
                          obtain ⟨M4, h, hle4, hown4⟩ := hacc4
                          rw [Nat.zero_add, List.nil_append] at hown4
                          refine hK.out _ _ (h.le (Mm.le_trans hKS hle4)) (fun hHeld => ?_)
                          clear hK K
                          simp only [Act.put, List.setIfInBounds_toArray, List.set_cons_zero, List.set_cons_succ]
                          have hbmC := hle4 _ _ hbm5
                          refine wpAnyH_ready (rs := [13]) (by kernel_rfl) (by simp) ?_
                          refine AllReadyH.cons rfl (fun K hK => ?_) AllReadyH.nil
                          refine step_yields rfl (yields_load1 rfl 47 _ rfl rfl hbmC eH5 Try.underlying47 rfl) h ?_
                          refine hK.out _ _ hHeld (fun hHeld => ?_)
                          clear hK K
                          simp only [Act.put, List.setIfInBounds_toArray, List.set_cons_zero, List.set_cons_succ]
                          refine wpAnyH_take (i := 16) (v := ?_) rfl (by kernel_rfl) (by kernel_rfl) (by kernel_rfl) (fun _ _ _ h => h) (Or.inl ⟨by rfl, ?_⟩) hHeld ?_
                          rotate_left
                          · (intro wz _; go_simp; try with_reducible rfl)
                          try simp only [List.getElem_toArray, List.getElem_cons_succ, List.getElem_cons_zero, Act.put, List.setIfInBounds_toArray, List.set_cons_zero, List.set_cons_succ]
                          refine wpAnyH_ready (rs := [17]) (by kernel_rfl) (by simp) ?_
                          refine AllReadyH.cons rfl (fun K hK => ?_) AllReadyH.nil
                          refine step_append_rd (M0 := M2) h hle4 rfl _ _ 47 rfl Try.underlying47 info_int rfl (by omega) rfl hown4 rfl (hr2.le hle4) one2 (by omega) (by omega) ?_
                          clear h hHeld hown4 hbmC hle4
                          intro v6 w hacc6
                          obtain ⟨M6, h, hle6, hown6⟩ := hacc6
                          rw [show wn + (nh - (wn + 1)) = nh - 1 by omega] at hown6
                          obtain ⟨A6, c6, rfl⟩ := hown6.form
                          refine hK.out _ _ (h.le (Mm.le_trans hKS hle6)) (fun hHeld => ?_)
                          clear hK K
                          simp only [Act.put, List.setIfInBounds_toArray, List.set_cons_zero, List.set_cons_succ]
                          have hbmC := hle6 _ _ hbm5
                          refine wpAnyH_take (i := 18) (v := ?_) rfl (by kernel_rfl) (by kernel_rfl) (by kernel_rfl) (fun _ _ _ h => h) (Or.inl ⟨by rfl, ?_⟩) hHeld ?_
                          rotate_left
                          · (intro wz _; go_simp; try with_reducible rfl)
                          try simp only [List.getElem_toArray, List.getElem_cons_succ, List.getElem_cons_zero, Act.put, List.setIfInBounds_toArray, List.set_cons_zero, List.set_cons_succ]
                          refine wpAnyH_ready (rs := [19]) (by kernel_rfl) (by simp) ?_
                          refine AllReadyH.cons rfl (fun K hK => ?_) AllReadyH.nil
                          refine step_store1 h rfl 47 _ _ rfl rfl rfl hbmC hszH rfl rfl (by kernel_rfl) ?_
                          clear h hHeld
                          intro w h
                          refine hK.out _ _ (h.le (Mm.le_upd (Mm.le_trans hKS hle6) hKbh _)) (fun hHeld => ?_)
                          clear hK K
                          refine wpAnyH_done (by kernel_rfl) ?_ _
                          have hEnd := h
                          go_wp2
                          all_goals (go_meet; (case rel => exact ⟨M6, _, hle6, hown6, hEnd⟩))
                        · skip
                          refine step_yields rfl (yields_load1 rfl 47 _ rfl rfl hbmC eH5 Try.underlying47 rfl) h ?_
                          refine hK.out _ _ hHeld (fun hHeld => ?_)
                          clear hK K
                          simp only [Act.put, List.setIfInBounds_toArray, List.set_cons_zero, List.set_cons_succ]
                          refine wpAnyH_take (i := 16) (v := ?_) rfl (by kernel_rfl) (by kernel_rfl) (by kernel_rfl) (fun _ _ _ h => h) (Or.inl ⟨by rfl, ?_⟩) hHeld ?_
                          rotate_left
                          · (intro wz _; go_simp; try with_reducible rfl)
                          try simp only [List.getElem_toArray, List.getElem_cons_succ, List.getElem_cons_zero, Act.put, List.setIfInBounds_toArray, List.set_cons_zero, List.set_cons_succ]
                          refine wpAnyH_ready (rs := [9]) (by kernel_rfl) (by simp) ?_
                          refine AllReadyH.cons rfl (fun K hK => ?_) AllReadyH.nil
                          refine step_append_rd (M0 := M2) h hlen rfl _ _ 47 rfl Try.underlying47 info_int rfl (by omega) rfl hown1 rfl (hr1.le hlen) one1 (by omega) (by omega) ?_
                          clear h hHeld hown1 hb2 hn2 hbmC hlen
                          intro v4 w hacc4
                          obtain ⟨M4, h, hle4, hown4⟩ := hacc4
                          rw [Nat.zero_add, List.nil_append] at hown4
                          refine hK.out _ _ (h.le (Mm.le_trans hKS hle4)) (fun hHeld => ?_)
                          clear hK K
                          simp only [Act.put, List.setIfInBounds_toArray, List.set_cons_zero, List.set_cons_succ]
                          have hbmC := hle4 _ _ hbm5
                          refine wpAnyH_ready (rs := [17]) (by kernel_rfl) (by simp) ?_
                          refine AllReadyH.cons rfl (fun K hK => ?_) AllReadyH.nil
                          refine step_append_rd (M0 := M2) h hle4 rfl _ _ 47 rfl Try.underlying47 info_int rfl (by omega) rfl hown4 rfl (hr2.le hle4) one2 (by omega) (by omega) ?_
                          clear h hHeld hown4 hbmC hle4
                          intro v6 w hacc6
                          obtain ⟨M6, h, hle6, hown6⟩ := hacc6
                          rw [show wn + (nh - (wn + 1)) = nh - 1 by omega] at hown6
                          obtain ⟨A6, c6, rfl⟩ := hown6.form
                          refine hK.out _ _ (h.le (Mm.le_trans hKS hle6)) (fun hHeld => ?_)
                          clear hK K
                          simp only [Act.put, List.setIfInBounds_toArray, List.set_cons_zero, List.set_cons_succ]
                          have hbmC := hle6 _ _ hbm5
                          refine wpAnyH_take (i := 18) (v := ?_) rfl (by kernel_rfl) (by kernel_rfl) (by kernel_rfl) (fun _ _ _ h => h) (Or.inl ⟨by rfl, ?_⟩) hHeld ?_
                          rotate_left
                          · (intro wz _; go_simp; try with_reducible rfl)
                          try simp only [List.getElem_toArray, List.getElem_cons_succ, List.getElem_cons_zero, Act.put, List.setIfInBounds_toArray, List.set_cons_zero, List.set_cons_succ]
                          refine wpAnyH_ready (rs := [19]) (by kernel_rfl) (by simp) ?_
                          refine AllReadyH.cons rfl (fun K hK => ?_) AllReadyH.nil
                          refine step_store1 h rfl 47 _ _ rfl rfl rfl hbmC hszH rfl rfl (by kernel_rfl) ?_
                          clear h hHeld
                          intro w h
                          refine hK.out _ _ (h.le (Mm.le_upd (Mm.le_trans hKS hle6) hKbh _)) (fun hHeld => ?_)
                          clear hK K
                          refine wpAnyH_done (by kernel_rfl) ?_ _
                          have hEnd := h
                          go_wp2
                          all_goals (go_meet; (case rel => exact ⟨M6, _, hle6, hown6, hEnd⟩))
                      · skip
                        refine step_yields rfl (yields_load1 rfl 47 _ rfl rfl hbmC eH5 Try.underlying47 rfl) h ?_
                        refine hK.out _ _ hHeld (fun hHeld => ?_)
                        clear hK K
                        simp only [Act.put, List.setIfInBounds_toArray, List.set_cons_zero, List.set_cons_succ]
                        refine wpAnyH_take (i := 16) (v := ?_) rfl (by kernel_rfl) (by kernel_rfl) (by kernel_rfl) (fun _ _ _ h => h) (Or.inl ⟨by rfl, ?_⟩) hHeld ?_
                        rotate_left
                        · (intro wz _; go_simp; try with_reducible rfl)
                        try simp only [List.getElem_toArray, List.getElem_cons_succ, List.getElem_cons_zero, Act.put, List.setIfInBounds_toArray, List.set_cons_zero, List.set_cons_succ]
                        refine wpAnyH_ready (rs := [2]) (by kernel_rfl) (by simp) ?_
                        refine AllReadyH.cons rfl (fun K hK => ?_) AllReadyH.nil
                        go_simp
                        refine hK.out _ _ ((h.quietAlloc _).le hKS) (fun hHeld => ?_)
                        clear hK K
                        try simp only [Act.put, List.setIfInBounds_toArray, List.set_cons_zero, List.set_cons_succ]
                        clear hHeld
                        obtain ⟨Mn, hbx, hlen, hb2, hn2⟩ := h.box (.cells #[] 3)
                        generalize w.alloc _ = wx at hbx ⊢
                        generalize w.heap.size = b2 at hb2 hn2 ⊢
                        clear h
                        try clear w
                        have h := hbx
                        clear hbx
                        obtain ⟨w, rfl⟩ : ∃ x : World, x = wx := ⟨_, rfl⟩
                        have hHeld := h.le (Mm.le_trans hKS hlen)
                        replace hbmC := hlen _ _ hbm5
                        have hown1 : Own M2 Mn 3 1 (.slice (some ⟨b2, 0, none⟩) 0 0) 0 [] := ⟨rfl, .inr ⟨b2, 0, #[], rfl, hn2, hb2, Nat.le_refl _, by unfold maxLen; omega, rfl, rfl⟩⟩
                        refine wpAnyH_ready (rs := [9]) (by kernel_rfl) (by simp) ?_
                        refine AllReadyH.cons rfl (fun K hK => ?_) AllReadyH.nil
                        refine step_append_rd (M0 := M2) h hlen rfl _ _ 47 rfl Try.underlying47 info_int rfl (by omega) rfl hown1 rfl (hr1.le hlen) one1 (by omega) (by omega) ?_
                        clear h hHeld hown1 hb2 hn2 hbmC hlen
                        intro v4 w hacc4
                        obtain ⟨M4, h, hle4, hown4⟩ := hacc4
                        rw [Nat.zero_add, List.nil_append] at hown4
                        refine hK.out _ _ (h.le (Mm.le_trans hKS hle4)) (fun hHeld => ?_)
                        clear hK K
                        simp only [Act.put, List.setIfInBounds_toArray, List.set_cons_zero, List.set_cons_succ]
                        have hbmC := hle4 _ _ hbm5
                        refine wpAnyH_ready (rs := [17]) (by kernel_rfl) (by simp) ?_
                        refine AllReadyH.cons rfl (fun K hK => ?_) AllReadyH.nil
                        refine step_append_rd (M0 := M2) h hle4 rfl _ _ 47 rfl Try.underlying47 info_int rfl (by omega) rfl hown4 rfl (hr2.le hle4) one2 (by omega) (by omega) ?_
                        clear h hHeld hown4 hbmC hle4
                        intro v6 w hacc6
                        obtain ⟨M6, h, hle6, hown6⟩ := hacc6
                        rw [show wn + (nh - (wn + 1)) = nh - 1 by omega] at hown6
                        obtain ⟨A6, c6, rfl⟩ := hown6.form
                        refine hK.out _ _ (h.le (Mm.le_trans hKS hle6)) (fun hHeld => ?_)
                        clear hK K
                        simp only [Act.put, List.setIfInBounds_toArray, List.set_cons_zero, List.set_cons_succ]
                        have hbmC := hle6 _ _ hbm5
                        refine wpAnyH_take (i := 18) (v := ?_) rfl (by kernel_rfl) (by kernel_rfl) (by kernel_rfl) (fun _ _ _ h => h) (Or.inl ⟨by rfl, ?_⟩) hHeld ?_
                        rotate_left
                        · (intro wz _; go_simp; try with_reducible rfl)
                        try simp only [List.getElem_toArray, List.getElem_cons_succ, List.getElem_cons_zero, Act.put, List.setIfInBounds_toArray, List.set_cons_zero, List.set_cons_succ]
                        refine wpAnyH_ready (rs := [19]) (by kernel_rfl) (by simp) ?_
                        refine AllReadyH.cons rfl (fun K hK => ?_) AllReadyH.nil
                        refine step_store1 h rfl 47 _ _ rfl rfl rfl hbmC hszH rfl rfl (by kernel_rfl) ?_
                        clear h hHeld
                        intro w h
                        refine hK.out _ _ (h.le (Mm.le_upd (Mm.le_trans hKS hle6) hKbh _)) (fun hHeld => ?_)
                        clear hK K
                        refine wpAnyH_done (by kernel_rfl) ?_ _
                        have hEnd := h
                        go_wp2
                        all_goals (go_meet; (case rel => exact ⟨M6, _, hle6, hown6, hEnd⟩))
                    · skip
                      refine step_yields rfl (yields_load1 rfl 47 _ rfl rfl hbmC eH5 Try.underlying47 rfl) h ?_
                      refine hK.out _ _ hHeld (fun hHeld => ?_)
                      clear hK K
                      simp only [Act.put, List.setIfInBounds_toArray, List.set_cons_zero, List.set_cons_succ]
                      refine wpAnyH_take (i := 16) (v := ?_) rfl (by kernel_rfl) (by kernel_rfl) (by kernel_rfl) (fun _ _ _ h => h) (Or.inl ⟨by rfl, ?_⟩) hHeld ?_
                      rotate_left
                      · (intro wz _; go_simp; try with_reducible rfl)
                      try simp only [List.getElem_toArray, List.getElem_cons_succ, List.getElem_cons_zero, Act.put, List.setIfInBounds_toArray, List.set_cons_zero, List.set_cons_succ]
                      refine wpAnyH_ready (rs := [2, 6]) (by kernel_rfl) (by simp) ?_
                      refine AllReadyH.cons rfl (fun K hK => ?_) (AllReadyH.cons rfl (fun K hK => ?_) AllReadyH.nil)
                      · skip
                        go_simp
                        refine hK.out _ _ ((h.quietAlloc _).le hKS) (fun hHeld => ?_)
                        clear hK K
                        try simp only [Act.put, List.setIfInBounds_toArray, List.set_cons_zero, List.set_cons_succ]
                        clear hHeld
                        obtain ⟨Mn, hbx, hlen, hb2, hn2⟩ := h.box (.cells #[] 3)
                        generalize w.alloc _ = wx at hbx ⊢
                        generalize w.heap.size = b2 at hb2 hn2 ⊢
                        clear h
                        try clear w
                        have h := hbx
                        clear hbx
                        obtain ⟨w, rfl⟩ : ∃ x : World, x = wx := ⟨_, rfl⟩
                        have hHeld := h.le (Mm.le_trans hKS hlen)
                        replace hbmC := hlen _ _ hbm5
                        have hown1 : Own M2 Mn 3 1 (.slice (some ⟨b2, 0, none⟩) 0 0) 0 [] := ⟨rfl, .inr ⟨b2, 0, #[], rfl, hn2, hb2, Nat.le_refl _, by unfold maxLen; omega, rfl, rfl⟩⟩
                        refine wpAnyH_ready (rs := [6]) (by kernel_rfl) (by simp) ?_
                        refine AllReadyH.cons rfl (fun K hK => ?_) AllReadyH.nil
                        refine step_yields rfl (yields_load1 rfl 47 _ rfl rfl hbmC eH5 Try.underlying47 rfl) h ?_
                        refine hK.out _ _ hHeld (fun hHeld => ?_)
                        clear hK K
                        simp only [Act.put, List.setIfInBounds_toArray, List.set_cons_zero, List.set_cons_succ]
                        refine wpAnyH_take (i := 8) (v := ?_) rfl (by kernel_rfl) (by kernel_rfl) (by kernel_rfl) (fun _ _ _ h => h) (Or.inl ⟨by rfl, ?_⟩) hHeld ?_
                        rotate_left
                        · (intro wz _; go_simp; try with_reducible rfl)
                        try simp only [List.getElem_toArray, List.getElem_cons_succ, List.getElem_cons_zero, Act.put, List.setIfInBounds_toArray, List.set_cons_zero, List.set_cons_succ]
                        refine wpAnyH_ready (rs := [9]) (by kernel_rfl) (by simp) ?_
                        refine AllReadyH.cons rfl (fun K hK => ?_) AllReadyH.nil
                        refine step_append_rd (M0 := M2) h hlen rfl _ _ 47 rfl Try.underlying47 info_int rfl (by omega) rfl hown1 rfl (hr1.le hlen) one1 (by omega) (by omega) ?_
                        clear h hHeld hown1 hb2 hn2 hbmC hlen
                        intro v4 w hacc4
                        obtain ⟨M4, h, hle4, hown4⟩ := hacc4
                        rw [Nat.zero_add, List.nil_append] at hown4
                        refine hK.out _ _ (h.le (Mm.le_trans hKS hle4)) (fun hHeld => ?_)
                        clear hK K
                        simp only [Act.put, List.setIfInBounds_toArray, List.set_cons_zero, List.set_cons_succ]
                        have hbmC := hle4 _ _ hbm5
                        refine wpAnyH_ready (rs := [17]) (by kernel_rfl) (by simp) ?_
                        refine AllReadyH.cons rfl (fun K hK => ?_) AllReadyH.nil
                        refine step_append_rd (M0 := M2) h hle4 rfl _ _ 47 rfl Try.underlying47 info_int rfl (by omega) rfl hown4 rfl (hr2.le hle4) one2 (by omega) (by omega) ?_
                        clear h hHeld hown4 hbmC hle4
                        intro v6 w hacc6
                        obtain ⟨M6, h, hle6, hown6⟩ := hacc6
                        rw [show wn + (nh - (wn + 1)) = nh - 1 by omega] at hown6
                        obtain ⟨A6, c6, rfl⟩ := hown6.form
                        refine hK.out _ _ (h.le (Mm.le_trans hKS hle6)) (fun hHeld => ?_)
                        clear hK K
                        simp only [Act.put, List.setIfInBounds_toArray, List.set_cons_zero, List.set_cons_succ]
                        have hbmC := hle6 _ _ hbm5
                        refine wpAnyH_take (i := 18) (v := ?_) rfl (by kernel_rfl) (by kernel_rfl) (by kernel_rfl) (fun _ _ _ h => h) (Or.inl ⟨by rfl, ?_⟩) hHeld ?_
                        rotate_left
                        · (intro wz _; go_simp; try with_reducible rfl)
                        try simp only [List.getElem_toArray, List.getElem_cons_succ, List.getElem_cons_zero, Act.put, List.setIfInBounds_toArray, List.set_cons_zero, List.set_cons_succ]
                        refine wpAnyH_ready (rs := [19]) (by kernel_rfl) (by simp) ?_
                        refine AllReadyH.cons rfl (fun K hK => ?_) AllReadyH.nil
                        refine step_store1 h rfl 47 _ _ rfl rfl rfl hbmC hszH rfl rfl (by kernel_rfl) ?_
                        clear h hHeld
                        intro w h
                        refine hK.out _ _ (h.le (Mm.le_upd (Mm.le_trans hKS hle6) hKbh _)) (fun hHeld => ?_)
                        clear hK K
                        refine wpAnyH_done (by kernel_rfl) ?_ _
                        have hEnd := h
                        go_wp2
                        all_goals (go_meet; (case rel => exact ⟨M6, _, hle6, hown6, hEnd⟩))
                      · skip
                        refine step_yields rfl (yields_load1 rfl 47 _ rfl rfl hbmC eH5 Try.underlying47 rfl) h ?_
                        refine hK.out _ _ hHeld (fun hHeld => ?_)
                        clear hK K
                        simp only [Act.put, List.setIfInBounds_toArray, List.set_cons_zero, List.set_cons_succ]
                        refine wpAnyH_take (i := 8) (v := ?_) rfl (by kernel_rfl) (by kernel_rfl) (by kernel_rfl) (fun _ _ _ h => h) (Or.inl ⟨by rfl, ?_⟩) hHeld ?_
                        rotate_left
                        · (intro wz _; go_simp; try with_reducible rfl)
                        try simp only [List.getElem_toArray, List.getElem_cons_succ, List.getElem_cons_zero, Act.put, List.setIfInBounds_toArray, List.set_cons_zero, List.set_cons_succ]
                        refine wpAnyH_ready (rs := [2]) (by kernel_rfl) (by simp) ?_
                        refine AllReadyH.cons rfl (fun K hK => ?_) AllReadyH.nil
                        go_simp
                        refine hK.out _ _ ((h.quietAlloc _).le hKS) (fun hHeld => ?_)
                        clear hK K
                        try simp only [Act.put, List.setIfInBounds_toArray, List.set_cons_zero, List.set_cons_succ]
                        clear hHeld
                        obtain ⟨Mn, hbx, hlen, hb2, hn2⟩ := h.box (.cells #[] 3)
                        generalize w.alloc _ = wx at hbx ⊢
                        generalize w.heap.size = b2 at hb2 hn2 ⊢
                        clear h
                        try clear w
                        have h := hbx
                        clear hbx
                        obtain ⟨w, rfl⟩ : ∃ x : World, x = wx := ⟨_, rfl⟩
                        have hHeld := h.le (Mm.le_trans hKS hlen)
                        replace hbmC := hlen _ _ hbm5
                        have hown1 : Own M2 Mn 3 1 (.slice (some ⟨b2, 0, none⟩) 0 0) 0 [] := ⟨rfl, .inr ⟨b2, 0, #[], rfl, hn2, hb2, Nat.le_refl _, by unfold maxLen; omega, rfl, rfl⟩⟩
                        refine wpAnyH_ready (rs := [9]) (by kernel_rfl) (by simp) ?_
                        refine AllReadyH.cons rfl (fun K hK => ?_) AllReadyH.nil
                        refine step_append_rd (M0 := M2) h hlen rfl _ _ 47 rfl Try.underlying47 info_int rfl (by omega) rfl hown1 rfl (hr1.le hlen) one1 (by omega) (by omega) ?_
                        clear h hHeld hown1 hb2 hn2 hbmC hlen
                        intro v4 w hacc4
                        obtain ⟨M4, h, hle4, hown4⟩ := hacc4
                        rw [Nat.zero_add, List.nil_append] at hown4
                        refine hK.out _ _ (h.le (Mm.le_trans hKS hle4)) (fun hHeld => ?_)
                        clear hK K
                        simp only [Act.put, List.setIfInBounds_toArray, List.set_cons_zero, List.set_cons_succ]
                        have hbmC := hle4 _ _ hbm5
                        refine wpAnyH_ready (rs := [17]) (by kernel_rfl) (by simp) ?_
                        refine AllReadyH.cons rfl (fun K hK => ?_) AllReadyH.nil
                        refine step_append_rd (M0 := M2) h hle4 rfl _ _ 47 rfl Try.underlying47 info_int rfl (by omega) rfl hown4 rfl (hr2.le hle4) one2 (by omega) (by omega) ?_
                        clear h hHeld hown4 hbmC hle4
                        intro v6 w hacc6
                        obtain ⟨M6, h, hle6, hown6⟩ := hacc6
                        rw [show wn + (nh - (wn + 1)) = nh - 1 by omega] at hown6
                        obtain ⟨A6, c6, rfl⟩ := hown6.form
                        refine hK.out _ _ (h.le (Mm.le_trans hKS hle6)) (fun hHeld => ?_)
                        clear hK K
                        simp only [Act.put, List.setIfInBounds_toArray, List.set_cons_zero, List.set_cons_succ]
                        have hbmC := hle6 _ _ hbm5
                        refine wpAnyH_take (i := 18) (v := ?_) rfl (by kernel_rfl) (by kernel_rfl) (by kernel_rfl) (fun _ _ _ h => h) (Or.inl ⟨by rfl, ?_⟩) hHeld ?_
                        rotate_left
                        · (intro wz _; go_simp; try with_reducible rfl)
                        try simp only [List.getElem_toArray, List.getElem_cons_succ, List.getElem_cons_zero, Act.put, List.setIfInBounds_toArray, List.set_cons_zero, List.set_cons_succ]
                        refine wpAnyH_ready (rs := [19]) (by kernel_rfl) (by simp) ?_
                        refine AllReadyH.cons rfl (fun K hK => ?_) AllReadyH.nil
                        refine step_store1 h rfl 47 _ _ rfl rfl rfl hbmC hszH rfl rfl (by kernel_rfl) ?_
                        clear h hHeld
                        intro w h
                        refine hK.out _ _ (h.le (Mm.le_upd (Mm.le_trans hKS hle6) hKbh _)) (fun hHeld => ?_)
                        clear hK K
                        refine wpAnyH_done (by kernel_rfl) ?_ _
                        have hEnd := h
                        go_wp2
                        all_goals (go_meet; (case rel => exact ⟨M6, _, hle6, hown6, hEnd⟩))
                case rest =>
                  as_aux_lemma =>
                    obtain ⟨M5, v5, hle5, hown5, hC⟩ := hcut
                    clear h hr1 hr2 one1 one2 hKS hKbh wq1 s1 s2 s4 hbm5 eH5
                    obtain ⟨A5, c5, rfl⟩ := hown5.form
                    obtain ⟨lab6, K6, labK6, hM6, hB6, hK6, hR6⟩ := HM2.out.rowTo HB2.out (j := 10 + lv) (Mm.le_trans (outK_le _ _ _ _) hle5) (hown5.base fun b hb => Mm.none_of (outK_le _ _ _ _) hb)
                    have hH6 := ((HA2.out.hrow).keep hK6 (by omega)).up hB6.le
                    obtain ⟨curZ, hgZ, hltZ, hownZ, hngZ⟩ := hH6.put lv (.slice A5 (nh - 1) c5)
                    have eZ := (hle5 _ _ (HKM.out _ _ HCUR.out)).symm.trans hgZ
                    cases eZ
                    obtain ⟨lab7, K7, labK7, hM7, hB7, hK7, hR7⟩ := hM6.rowTo hB6 (j := 2) (Mm.le_upd (outK_le _ _ _ _) hngZ _) hownZ
                    have hA7 := HA2.out.setH ll hK6 (h2 := (had lv).eraseIdx wn) (by rw [HXS.out, List.length_eraseIdx, HNH.out, if_pos hwn]; exact hR6) hK7 hR7
                    have hS7 := Mm.le_trans (Mm.le_trans HS2.out (stable_kp hK6 (by omega))) (stable_kp hK7 (by omega))
                    clear hR6 hH6 hgZ hltZ hownZ hngZ hK7 hR7 hK6 hM6 hB6 hown5 hle5 HXS
                    obtain ⟨w, rfl⟩ : ∃ q : World, q = wc := ⟨_, rfl⟩
                    have h := hC
                    clear hC
                    generalize M5.upd bh _ = M7 at *
                    clear HCUR HE5
                    have GVL : Hid (∀ w, Has σ M7 w → Calls Try.prog 18 #[.pointer (some ⟨p, 0, none⟩), .int .i64 (tn : Nat), .func (.func 6) #[] #[], .int .i64 10, .int .i64 2, .slice (some ⟨w.heap.size, 0, none⟩) 1 1] (w.alloc (.cells #[.int .u64 (x : Nat)] 40)) fun r w' => ∃ k M' lab' s' g' ow', r = .returned (.int .i64 (k : Nat)) ∧ Has σ M' w' ∧ Mach M' lab' p s' ∧ Base K7 M' lab' ∧ AbsG c tp (a + k) s' g' ∧ k ≤ 10 ∧
                        GInv S gens L T (levT c) id (m + 11) g' (if genOf ((g.lv (levT c tn)).hd x) + 1 < gens then put1 Lf (levT c tn) (x :: Lf (levT c tn)) else Lf) ow' (put1 had (levT c tn) ((had (levT c tn)).eraseIdx wn)) ev ∧ (∀ t, t < T → g'.thr t = none) ∧ (∀ l i, genOf ((g'.lv l).hd i) = if l = levT c tn ∧ i = x then genOf ((g.lv l).hd i) + 1 else genOf ((g.lv l).hd i)) ∧ (OwAll ow → OwAll ow')) := Lib.hid fun w h => by
                      obtain ⟨M8, h8, hle8, hb8, hn8⟩ := h.box (.cells #[.int .u64 (x : Nat)] 40)
                      refine give_law h8 (hM7.keep (Kp.le hle8 fun _ => 0) fun _ _ h => h) (hB7.keep (Kp.le hle8 fun _ => 0) fun h => h) HC.out HNU.out HG.out HT.out HI.out.1 HI.out.2 HTN.out HQ.out HALL.out.2.1 HALL.out.2.2.2.1 HALL.out.2.2.2.2.1 (by rw [HLV.out]; exact HXQ.out) (rv := .slice (some ⟨w.heap.size, 0, none⟩) 1 1) ?_
                      exact ⟨rfl, some ⟨w.heap.size, 0, none⟩, 1, rfl, Nat.le_refl _, fun _ => ⟨w.heap.size, 0, _, _, _, rfl, hb8, fun j y hy => by rw [Nat.zero_add]; simpa [u64s] using hy⟩⟩
                    rw [HLV.out] at GVL
                    have hI5 := HALL.out.2.2.2.1.had lv
                    obtain ⟨x1, x2, _⟩ := hI5.all x (List.mem_of_getElem? HXQ.out)
                    have hS60 := HNU.out.s0.2
                    have wx : IntKind.u64.wrap (x : Int) = (x : Int) := IntWalk.u64_in _ (by omega)
                    have hgen := (((HALL.out.2.2.2.1.lv lv ll).hd x x1 x2).2)
                    have HA7 := Lib.hid hA7
                    have HM7 := Lib.hid hM7
                    have HB7 := Lib.hid hB7
                    have HS7 := Lib.hid hS7
                    clear hA7 hM7 hB7 hS7 hI5
                    go_upto_region 28 with (first
                      | ((go_at_call 18; refine (GVL.out _ h).mono ?_; clear h; rintro _ w ⟨ka, M8, lab8, s3, g3, ow3, rfl, h, hM8, hB8, hA8, hk10, hI8, hid8, hgn8, how8⟩; have gka : ¬ (ka : Int) < 0 := by omega)))
                    have hbf8 := hB8.le _ _ (stable_le _ _ _ _ (HS7.out _ _ hbf))
                    obtain ⟨curX, hxb, hcx⟩ := Own.at_ HA7.out.xrow
                    have hrL := HA7.out.xl lv ll
                    have hrG := HA7.out.xg lv ll
                    obtain ⟨AL, cL, hfL⟩ := hrL.form
                    obtain ⟨AG, cG, hfG⟩ := hrG.form
                    have hxx : curX.extract (lv * 2) (lv * 2 + 2) = #[(fx lv).1, (fx lv).2] := extract_of (xs := encF (fx lv)) (fun j u hu => hcx _ _ (by rw [flat_get encF_len _ lv (fx lv) (by rw [List.getElem?_map, List.getElem?_range ll]; rfl) j (by have := (List.getElem?_eq_some_iff.1 hu).1; simpa [encF] using this)]; exact hu)) rfl
                    have hxb8 := hB8.le _ _ hxb
                    have hG0 := HALL.out.2.2.2.2.2.1 lv ll
                    have hLl : (Lf lv).length ≤ 60 := by have := free_busy (HALL.out.2.2.2.1.lv lv ll).nodup (HALL.out.2.2.2.1.lv lv ll).mem; omega
                    have RGV := Lib.hid fun (w : World) (h : Has σ M8 w) => refGive_any h c HG.out hB8.le hrL hrG hG0 x1 x2 hS60 hLl (by have := HI.out.2; omega)
                    unfold confV at RGV
                    rw [HRW.out] at RGV
                    rw [hfL, hfG] at hxx RGV
                    obtain ⟨l2, hl2⟩ : ∃ l2, (if genOf ((g.lv lv).hd x) + 1 < gens then x :: Lf lv else Lf lv) = l2 := ⟨_, rfl⟩
                    have eI : (if genOf ((g.lv lv).hd x) + 1 < gens then put1 Lf lv (x :: Lf lv) else Lf) = put1 Lf lv l2 := by
                      rw [← hl2]
                      split
                      · rfl
                      · rw [put1_self]
                    rw [eI] at hI8
                    rw [hl2] at RGV
                    have hgl : ∀ l, l < L → GensI S (g3.lv l) (put1 gl lv ((gl lv).set (x - 1) (genOf ((g.lv lv).hd x) + 1)) l) := fun l hl => by
                      have h0 := HALL.out.2.2.2.2.2.1 l hl
                      by_cases e : l = lv
                      · subst e
                        rw [put1_same]
                        exact h0.more x1 x2 fun i => by rw [hgn8]; simp
                      · rw [put1_ne e]
                        exact ⟨h0.len, fun i a b => by rw [hgn8, if_neg (fun h => e h.1)]; exact h0.all i a b⟩
                    have hAI5 : AlInv c S gens L T tp (i + 1) s3 (put1 Lf lv l2) (put1 had lv ((had lv).eraseIdx wn)) (put1 gl lv ((gl lv).set (x - 1) (genOf ((g.lv lv).hd x) + 1))) := ⟨⟨a + ka, m + 11, g3, ow3, ev, by have h1 := HALL.out.1; omega, hA8, by have := HALL.out.2.2.1; omega, hI8, hid8, hgl, how8 HALL.out.2.2.2.2.2.2⟩⟩
                    have HAI5 := Lib.hid hAI5
                    have HM8 := Lib.hid hM8
                    have HB8 := Lib.hid hB8
                    have hxz : (#[.slice AL (Lf lv).length cL, .slice AG S cG] : Array Value).size = 2 := rfl
                    clear hAI5 hgl eI hl2 hI8 hid8 hgn8 how8 hA8 hM8 hB8 hG0 hLl hxb hcx hrL hrG hfL hfG hgen
                    refine wp_region_held_drew (S := Has σ (M1)) (by kernel_rfl) (h.drew.le (Mm.le_trans HS7.out (Mm.le_trans (stable_le _ _) HB8.out.le))) (fun hHeld => ?_)
                    refine wpAnyH_take (i := 0) (v := ?_) rfl (by kernel_rfl) (by kernel_rfl) (by kernel_rfl) (fun _ _ _ h => h) (Or.inl ⟨by rfl, ?_⟩) hHeld ?_
                    rotate_left
                    · (intro wz _; go_simp; try with_reducible rfl)
                    try simp only [List.getElem_toArray, List.getElem_cons_succ, List.getElem_cons_zero, Act.put, List.setIfInBounds_toArray, List.set_cons_zero, List.set_cons_succ]
                    refine wpAnyH_take (i := 1) (v := ?_) rfl (by kernel_rfl) (by kernel_rfl) (by kernel_rfl) (fun _ _ _ h => h) (Or.inl ⟨by rfl, ?_⟩) hHeld ?_
                    rotate_left
                    · (intro wz _; go_simp; try with_reducible rfl)
                    try simp only [List.getElem_toArray, List.getElem_cons_succ, List.getElem_cons_zero, Act.put, List.setIfInBounds_toArray, List.set_cons_zero, List.set_cons_succ]
                    refine wpAnyH_take (i := 2) (v := _) rfl (by kernel_rfl) (by kernel_rfl) (by kernel_rfl) (fun _ _ _ h => h) (yields_agg rfl 24 _ rfl rfl hbf hx hz Try.underlying24 rfl (by kernel_rfl)) hHeld ?_
                    try simp only [List.getElem_toArray, List.getElem_cons_succ, List.getElem_cons_zero, Act.put, List.setIfInBounds_toArray, List.set_cons_zero, List.set_cons_succ]
                    refine wpAnyH_take (i := 3) (v := ?_) rfl (by kernel_rfl) (by kernel_rfl) (by kernel_rfl) (fun _ _ _ h => h) (Or.inl ⟨by rfl, ?_⟩) hHeld ?_
                    rotate_left
                    · (intro wz _; go_simp; try with_reducible rfl)
                    try simp only [List.getElem_toArray, List.getElem_cons_succ, List.getElem_cons_zero, Act.put, List.setIfInBounds_toArray, List.set_cons_zero, List.set_cons_succ]
                    refine wpAnyH_take (i := 4) (v := ?_) rfl (by kernel_rfl) (by kernel_rfl) (by kernel_rfl) (fun _ _ _ h => h) (Or.inl ⟨by rfl, ?_⟩) hHeld ?_
                    rotate_left
                    · (intro wz _; go_simp; try with_reducible rfl)
                    try simp only [List.getElem_toArray, List.getElem_cons_succ, List.getElem_cons_zero, Act.put, List.setIfInBounds_toArray, List.set_cons_zero, List.set_cons_succ]
                    refine wpAnyH_take (i := 5) (v := ?_) rfl (by kernel_rfl) (by kernel_rfl) (by kernel_rfl) (fun _ _ _ h => h) (Or.inl ⟨by rfl, ?_⟩) hHeld ?_
                    rotate_left
                    · (intro wz _; go_simp; try with_reducible rfl)
                    try simp only [List.getElem_toArray, List.getElem_cons_succ, List.getElem_cons_zero, Act.put, List.setIfInBounds_toArray, List.set_cons_zero, List.set_cons_succ]
                    refine wpAnyH_take (i := 7) (v := ?_) rfl (by kernel_rfl) (by kernel_rfl) (by kernel_rfl) (fun _ _ _ h => h) (Or.inl ⟨by rfl, ?_⟩) hHeld ?_
                    rotate_left
                    · (intro wz _; go_simp; try with_reducible rfl)
                    try simp only [List.getElem_toArray, List.getElem_cons_succ, List.getElem_cons_zero, Act.put, List.setIfInBounds_toArray, List.set_cons_zero, List.set_cons_succ]
                    replace h := h.drew
                    generalize w.drew = wq at h hHeld ⊢
                    obtain ⟨w, rfl⟩ : ∃ q : World, q = wq := ⟨_, rfl⟩
                    refine wpAnyH_ready (rs := [6]) (by kernel_rfl) (by simp) ?_
                    refine AllReadyH.cons rfl (fun K hK => ?_) AllReadyH.nil
                    (refine step_yields rfl (yields_agg rfl 49 _ rfl rfl hxb8 hxx hxz Try.underlying49 rfl (by kernel_rfl)) h ?_)
                    refine hK.out _ _ (hHeld) (fun hHeld => ?_)
                    clear hK K
                    try simp only [Act.put, List.setIfInBounds_toArray, List.set_cons_zero, List.set_cons_succ]
                    refine wpAnyH_ready (rs := [8]) (by kernel_rfl) (by simp) ?_
                    refine AllReadyH.cons rfl (fun K hK => ?_) AllReadyH.nil
                    (go_simp; go_wp2_with (go_at_call 20; refine (RGV.out _ h).mono ?_; clear h; rintro _ w ⟨uL, uG, M9, rfl, h, hle9, rL, rG⟩))
                    refine hK.out _ _ ((h.le (Mm.le_trans (Mm.le_trans HS7.out (Mm.le_trans (stable_le _ _) HB8.out.le)) hle9))) (fun hHeld => ?_)
                    clear hK K
                    try simp only [Act.put, List.setIfInBounds_toArray, List.set_cons_zero, List.set_cons_succ]
                    obtain ⟨AL2, cL2, rfl⟩ := rL.form
                    obtain ⟨AG2, cG2, rfl⟩ := rG.form
                    obtain ⟨lab9, hM9, hB9⟩ := HM8.out.learn HB8.out hle9
                    have hA9 := HA7.out.keep (learn_kp HB8.out.le M9 labK7)
                    have hS9 := Mm.le_trans HS7.out (stable_kp (learn_kp HB8.out.le M9 labK7) fun h => h)
                    have hO := hA9.xrow.up hB9.le
                    have hOle := outK_le (learn K7 M8 M9) M9 (relab K7 labK7 fun _ => 0) 1
                    have hcls := Mm.le_trans hS9 (stable_outK (j := 1) hB9.le (by decide))
                    have oneu : ∀ u ∈ encF (.slice AL2 l2.length cL2, .slice AG2 S cG2), u.oneCell' = true := by
                      intro u hu
                      simp only [encF, List.mem_cons, List.not_mem_nil, or_false] at hu
                      rcases hu with rfl | rfl <;> rfl
                    refine wpAnyH_take (i := 9) (v := ?_) rfl (by kernel_rfl) (by kernel_rfl) (by kernel_rfl) (fun _ _ _ h => h) (Or.inl ⟨by rfl, ?_⟩) hHeld ?_
                    rotate_left
                    · (intro wz _; go_simp; try with_reducible rfl)
                    try simp only [List.getElem_toArray, List.getElem_cons_succ, List.getElem_cons_zero, Act.put, List.setIfInBounds_toArray, List.set_cons_zero, List.set_cons_succ]
                    refine wpAnyH_ready (rs := [10]) (by kernel_rfl) (by simp) ?_
                    refine AllReadyH.cons rfl (fun K hK => ?_) AllReadyH.nil
                    refine step_putRow (L := (List.range L).map fx) encF_len h hOle hO (by simp) rfl 49 _ _ rfl rfl (k := lv) rfl rfl ll (.slice AL2 l2.length cL2, .slice AG2 S cG2) rfl oneu (by kernel_rfl) ?_
                    clear h hHeld hOle hO
                    intro w M10 h hle10 hown10
                    refine hK.out _ _ (h.le (Mm.le_trans hcls hle10)) (fun hHeld => ?_)
                    clear hK K hHeld hcls
                    refine wpAnyH_done (by kernel_rfl) ?_ _
                    obtain ⟨lab10, K10, labK10, hM10, hB10, hK10, hR10⟩ := hM9.rowTo hB9 hle10 hown10
                    have hA10 := hA9.setX hK10 hR10 rL rG
                    have hS10 := Mm.le_trans hS9 (stable_kp hK10 (by omega))
                    obtain ⟨M9, lab9, K9, labK9, fx9, fh9, Lf9, had9, gl9, HP9⟩ : ∃ M9 lab9 K9 labK9 fx9 fh9 Lf9 had9 gl9, Hid (Has σ M9 w ∧ Mach M9 lab9 p s3 ∧ Base K9 M9 lab9 ∧ M1.le (stable K9 labK9) ∧ LawA K9 labK9 L S L (.slice (some ⟨gx, 0, none⟩) L xc) (.slice (some ⟨bh, 0, none⟩) L L) fx9 fh9 Lf9 had9 gl9 ∧ AlInv c S gens L T tp (i + 1) s3 Lf9 had9 gl9) := ⟨_, _, _, _, _, _, _, _, _, Lib.hid ⟨h, hM10, hB10, hS10, hA10, HAI5.out⟩⟩
                    clear h hM10 hB10 hS10 hA10 hK10 hR10 rL rG hle10 hown10 hM9 hB9 hA9 hS9 hle9 hxb8 hxx hxz oneu RGV GVL HAI5 HM8 HB8 hbf8 wx gka
                    go_wp2_with (fail)
                    -- the free list, Fault, Odd
                    have h := HP9.out.1
                    obtain ⟨a9, m9, g9, ow9, ev9, ha9, hA9, hm9, hI9, hid9, hgn9, how9⟩ := HP9.out.2.2.2.2.2.all
                    have hb0 := HNU.out.b0
                    have hs0 := HNU.out.s0
                    have hN9 : s3.mem.N = L * (18 + B + 6 * S) := by
                      have h1 := hA9.memN
                      rw [HNU.out.lev, HNU.out.sz, ← Int.natCast_mul] at h1
                      exact Int.ofNat_inj.1 h1
                    have hN2 : L * (18 + B + 6 * S) ≤ 4 * (18 + 40 + 6 * 60) := Nat.mul_le_mul (by omega) (by omega)
                    have hbf9 := HP9.out.2.2.1.le _ _ (stable_le _ _ _ _ (HP9.out.2.2.2.1 _ _ hbf))
                    have ME9 := Lib.hid (fun (w : World) (h : Has σ M9 w) => mMem_eq h HP9.out.2.1)
                    have WO9 := Lib.hid (fun (w : World) (h : Has σ M9 w) => memWords_eq h HP9.out.2.1.mem (by omega))
                    have hQ60 : (Lf9 lv).length ≤ 60 := by have := free_busy (hI9.lv lv ll).nodup (hI9.lv lv ll).mem; omega
                    have CH9 : Hid (∀ (M' : Mm) (w : World) (bw : Nat), Has σ M' w → M' bw = some s3.mem.row → Calls Try.prog 21 #[.agg row, .slice (some ⟨bw, 0, none⟩) s3.mem.N s3.mem.N, .int .i64 (lv : Nat)] w fun r w' => ∃ v, r = .returned (.tuple #[v, .bool true]) ∧ Acc σ M' w' 3 1 v (Lf9 lv).length (natv (Lf9 lv))) := Lib.hid fun M' w bw h hb => by
                      have := refChain_eq h c HNU.out hb hN9 lv ll (hA9.words.top_n HNU.out ll) (fun i a b => hA9.words.lk_n HNU.out ll a b) (hI9.lv lv ll).lk (Q := Lf9 lv) (by rw [← slOf_eq]; exact (hI9.lv lv ll).chain) (fun x hx => (((hI9.lv lv ll).mem x).1 hx).2.1) (by have := free_busy (hI9.lv lv ll).nodup (hI9.lv lv ll).mem; omega)
                      unfold confV at this
                      rw [HRW.out] at this
                      exact this
                    have OD9 : Hid (∀ (M' : Mm) (w : World), Has σ M' w → M9.le M' → Calls Try.prog 23 #[.pointer (some ⟨p, 0, none⟩), .int .i64 (lv : Nat)] w fun r w' => r = .returned (.int .i64 0) ∧ ∃ M'', Has σ M'' w' ∧ M'.le M'') := Lib.hid fun M' w h hle => odd_eq h (HP9.out.2.1.keep (Kp.le hle fun _ => 0) fun _ _ h => h) hA9 (by have := HLT.out; omega) HNU.out HG.out ll (hI9.lv lv ll) (fun i _ _ => how9 lv i)
                    have FT9 : Hid (∀ (M' : Mm) (w : World), Has σ M' w → M9.le M' → Calls Try.prog 16 #[.pointer (some ⟨p, 0, none⟩)] w fun r w' => r = .returned (.bool false) ∧ Has σ M' w') := Lib.hid fun M' w h hle => by
                      have := mFault_eq h (HP9.out.2.1.keep (Kp.le hle fun _ => 0) fun _ _ h => h)
                      rw [hA9.good] at this
                      exact this
                    obtain ⟨curX9, hxb9, hcx9⟩ := Own.at_ HP9.out.2.2.2.2.1.xrow
                    have hrL9 := HP9.out.2.2.2.2.1.xl lv ll
                    obtain ⟨AL9, cL9, hfL9⟩ := hrL9.form
                    have eX9 : curX9[lv * 2]? = some (.slice AL9 (Lf9 lv).length cL9) := by
                      rw [← hfL9]
                      exact hcx9 (lv * 2) _ (by
                        have := flat_get encF_len ((List.range L).map fx9) lv (fx9 lv) (by rw [List.getElem?_map, List.getElem?_range ll]; rfl) 0 (by decide)
                        rw [Nat.add_zero] at this
                        rw [this]; rfl)
                    have hxb9' := HP9.out.2.2.1.le _ _ hxb9
                    have IN9 : Hid (∀ (M' : Mm) (w : World) (v : Value), Has σ M' w → M9.le M' → Rd M' 1 v (Lf9 lv).length (natv (Lf9 lv)) → Calls Try.prog 22 #[v, .slice AL9 (Lf9 lv).length cL9] w fun r w' => r = .returned (.bool true) ∧ Has σ M' w') := Lib.hid fun M' w v h hle hv => refInts_eq h hv (by rw [← hfL9]; exact hrL9.le (Mm.le_trans (stable_le _ _) (Mm.le_trans HP9.out.2.2.1.le hle))) (by omega)
                    clear ha9 hA9 hm9 hI9 hid9 hgn9 how9 hN9 hN2 hb0 hs0 hrL9 hfL9 hcx9 hxb9 hQ60
                    generalize hQn : Lf9 lv = Q9 at *
                    clear hQn
                    generalize s3.mem.row = wobj at *
                    generalize s3.mem.N = N9 at *
                    generalize Q9.length = qn at *
                    refine wp_region_held_drew (S := Has σ (M9)) (by kernel_rfl) (h.drew) (fun hHeld => ?_)
                    refine wpAnyH_take (i := 0) (v := _) rfl (by kernel_rfl) (by kernel_rfl) (by kernel_rfl) (fun _ _ _ h => h) (yields_agg rfl 24 _ rfl rfl hbf9 hx hz Try.underlying24 rfl (by kernel_rfl)) hHeld ?_
                    try simp only [List.getElem_toArray, List.getElem_cons_succ, List.getElem_cons_zero, Act.put, List.setIfInBounds_toArray, List.set_cons_zero, List.set_cons_succ]
                    refine wpAnyH_take (i := 1) (v := ?_) rfl (by kernel_rfl) (by kernel_rfl) (by kernel_rfl) (fun _ _ _ h => h) (Or.inl ⟨by rfl, ?_⟩) hHeld ?_
                    rotate_left
                    · (intro wz _; go_simp; try with_reducible rfl)
                    try simp only [List.getElem_toArray, List.getElem_cons_succ, List.getElem_cons_zero, Act.put, List.setIfInBounds_toArray, List.set_cons_zero, List.set_cons_succ]
                    refine wpAnyH_take (i := 4) (v := ?_) rfl (by kernel_rfl) (by kernel_rfl) (by kernel_rfl) (fun _ _ _ h => h) (Or.inl ⟨by rfl, ?_⟩) hHeld ?_
                    rotate_left
                    · (intro wz _; go_simp; try with_reducible rfl)
                    try simp only [List.getElem_toArray, List.getElem_cons_succ, List.getElem_cons_zero, Act.put, List.setIfInBounds_toArray, List.set_cons_zero, List.set_cons_succ]
                    replace h := h.drew
                    generalize w.drew = wq at h hHeld ⊢
                    obtain ⟨w, rfl⟩ : ∃ q : World, q = wq := ⟨_, rfl⟩
                    refine wpAnyH_ready (rs := [2]) (by kernel_rfl) (by simp) ?_
                    refine AllReadyH.cons rfl (fun K hK => ?_) AllReadyH.nil
                    (go_simp; go_wp2_with (go_at_call 10; refine (ME9.out _ h).mono ?_; clear h; rintro _ w ⟨rfl, h⟩))
                    refine hK.out _ _ (h) (fun hHeld => ?_)
                    clear hK K
                    try simp only [Act.put, List.setIfInBounds_toArray, List.set_cons_zero, List.set_cons_succ]
                    refine wpAnyH_ready (rs := [3]) (by kernel_rfl) (by simp) ?_
                    refine AllReadyH.cons rfl (fun K hK => ?_) AllReadyH.nil
                    (go_simp; go_wp2_with (go_at_call 11; refine (WO9.out _ h).mono ?_; clear h; rintro _ w ⟨bw, M10, rfl, h, hle10, hnw, hbw⟩))
                    refine hK.out _ _ (h.le hle10) (fun hHeld => ?_)
                    clear hK K
                    try simp only [Act.put, List.setIfInBounds_toArray, List.set_cons_zero, List.set_cons_succ]
                    refine wpAnyH_ready (rs := [5]) (by kernel_rfl) (by simp) ?_
                    refine AllReadyH.cons rfl (fun K hK => ?_) AllReadyH.nil
                    (go_simp; go_wp2_with (go_at_call 21; refine (CH9.out M10 _ bw h hbw).mono ?_; clear h; rintro _ w ⟨v9, rfl, M11, h, hle11, hown11⟩))
                    refine hK.out _ _ (h.le (Mm.le_trans hle10 hle11)) (fun hHeld => ?_)
                    clear hK K
                    try simp only [Act.put, List.setIfInBounds_toArray, List.set_cons_zero, List.set_cons_succ]
                    refine wpAnyH_take (i := 6) (v := ?_) rfl (by kernel_rfl) (by kernel_rfl) (by kernel_rfl) (fun _ _ _ h => h) (Or.inl ⟨by rfl, ?_⟩) hHeld ?_
                    rotate_left
                    · (intro wz _; go_simp; try with_reducible rfl)
                    try simp only [List.getElem_toArray, List.getElem_cons_succ, List.getElem_cons_zero, Act.put, List.setIfInBounds_toArray, List.set_cons_zero, List.set_cons_succ]
                    refine wpAnyH_take (i := 7) (v := ?_) rfl (by kernel_rfl) (by kernel_rfl) (by kernel_rfl) (fun _ _ _ h => h) (Or.inl ⟨by rfl, ?_⟩) hHeld ?_
                    rotate_left
                    · (intro wz _; go_simp; try with_reducible rfl)
                    try simp only [List.getElem_toArray, List.getElem_cons_succ, List.getElem_cons_zero, Act.put, List.setIfInBounds_toArray, List.set_cons_zero, List.set_cons_succ]
                    refine wpAnyH_take (i := 8) (v := ?_) rfl (by kernel_rfl) (by kernel_rfl) (by kernel_rfl) (fun _ _ _ h => h) (Or.inl ⟨by rfl, ?_⟩) hHeld ?_
                    rotate_left
                    · (intro wz _; go_simp; try with_reducible rfl)
                    try simp only [List.getElem_toArray, List.getElem_cons_succ, List.getElem_cons_zero, Act.put, List.setIfInBounds_toArray, List.set_cons_zero, List.set_cons_succ]
                    refine wpAnyH_take (i := 9) (v := ?_) rfl (by kernel_rfl) (by kernel_rfl) (by kernel_rfl) (fun _ _ _ h => h) (Or.inl ⟨by rfl, ?_⟩) hHeld ?_
                    rotate_left
                    · (intro wz _; go_simp; try with_reducible rfl)
                    try simp only [List.getElem_toArray, List.getElem_cons_succ, List.getElem_cons_zero, Act.put, List.setIfInBounds_toArray, List.set_cons_zero, List.set_cons_succ]
                    refine wpAnyH_take (i := 10) (v := ?_) rfl (by kernel_rfl) (by kernel_rfl) (by kernel_rfl) (fun _ _ _ h => h) (Or.inl ⟨by rfl, ?_⟩) hHeld ?_
                    rotate_left
                    · (intro wz _; go_simp; try with_reducible rfl)
                    try simp only [List.getElem_toArray, List.getElem_cons_succ, List.getElem_cons_zero, Act.put, List.setIfInBounds_toArray, List.set_cons_zero, List.set_cons_succ]
                    refine wpAnyH_done (by kernel_rfl) ?_ _
                    clear hHeld ME9 WO9 CH9
                    have hl11 := Mm.le_trans hle10 hle11
                    replace hxb9' := hl11 _ _ hxb9'
                    have IN11 := Lib.hid (fun (w : World) (h : Has σ M11 w) => IN9.out M11 w v9 h hl11 hown11.rd)
                    have FT11 := Lib.hid (fun (w : World) (h : Has σ M11 w) => FT9.out M11 w h hl11)
                    have OD11 := Lib.hid (fun (w : World) (h : Has σ M11 w) => OD9.out M11 w h hl11)
                    clear IN9 FT9 OD9 hown11 hbw hnw hbf9
                    go_wp2_with (first
                      | (with_reducible show wpList _ _ _ ({ dst := _, op := Op.load 47 _, type := _, pos := _, after := _, guard := _ } :: _) _ _; refine wpList_load1_has h rfl 47 _ rfl rfl hxb9' eX9 Try.underlying47 rfl ?_)
                      | (go_at_call 22; refine (IN11.out _ h).mono ?_; clear h; rintro _ w ⟨rfl, h⟩)
                      | (go_at_call 16; refine (FT11.out _ h).mono ?_; clear h; rintro _ w ⟨rfl, h⟩)
                      | (go_at_call 23; refine (OD11.out _ h).mono ?_; clear h; rintro _ w ⟨rfl, M12, h, hle12⟩))
                    go_roundw
                    case rel => exact ⟨i + 1, M12, _, K9, labK9, s3, fx9, fh9, Lf9, had9, gl9, by have := HLT.out; omega, by go_num, h, HP9.out.2.1.keep (Kp.le (Mm.le_trans hl11 hle12) fun _ => 0) (fun _ _ h => h), HP9.out.2.2.1.keep (Kp.le (Mm.le_trans hl11 hle12) fun _ => 0) (fun h => h), HP9.out.2.2.2.1, HP9.out.2.2.2.2.1, HP9.out.2.2.2.2.2⟩
                    case measure => have := HLT.out; simp [intOf]; omega
          · have elv : levelOf s.c et = -1 := by rw [hA.cc]; exact levT_out HT.out htt
            rw [elv]
            clear elv htt hA hI hgn hid how LV
            go_wp2
            go_roundw
            case rel => exact ⟨i + 1, M2, lab2, K2, labK2, s, fx, fh, Lf, had, gl, by have := HLT.out; omega, by go_num, h, HM2.out, HB2.out, HS2.out, HA2.out, HAI.out.mono (Nat.le_succ _)⟩
            case measure => have := HLT.out; simp [intOf]; omega
        · obtain rfl : i = n := by omega
          have LI2 := Lib.hid (fun (w : World) (h : Has σ M2 w) => LI.out M2 w h)
          have hlt3 : ¬ (i : Int) < (i : Int) := by omega
          clear hbf2
          go_wp2_with (first
            | (go_at_call 9; refine (LI2.out _ h).mono ?_; clear h; rintro _ w ⟨rfl, h⟩))
          go_ret
          exact ⟨rfl, h.le (Mm.le_trans HLE1.out (Mm.le_trans HS2.out (Mm.le_trans (stable_le _ _) HKM.out)))⟩
end
end Go.Proofs.Ytefjjagejgeedaa
