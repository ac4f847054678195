import Derived.Test.YtjeeldacnllipaaGreatLpE
namespace Go.Proofs.YtjeeldacnllipaaGreat
set_option maxHeartbeats 100000000
set_option maxRecDepth 20000
set_option linter.unusedVariables false
set_option linter.unusedSimpArgs false
set_option linter.unnecessarySimpa false
open List renaming setIfInBounds_toArray → qD, set_cons_zero → qE, set_cons_succ → qF
section
open Go.RowKit
theorem tO {σ w : World} {M : Mm} (h : Has σ M w) (c : Nat → Int) {L B S : Nat} (hn : Nums c L B S) (k : Nat) (hk : k ≤ 4) : Calls Tryz.prog 109 #[yM c, .int .i64 (k : Nat)] w fun r w' => r = .returned (.int .i64 ((k * (18 + B + 6 * S) : Nat) : Int)) ∧ Has σ M w' := by
 have r11 : (ints .i64 14 c)[11]? = some (.int .i64 (B : Nat)) := by rw [← hn.lim]; rfl
 have r10 : (ints .i64 14 c)[10]? = some (.int .i64 (S : Nat)) := by rw [← hn.slo]; rfl
 have hb := hn.b0
 have hs := hn.s0
 have w1 : IntKind.i64.wrap (18 + (B : Int)) = 18 + (B : Int) := IntWalk.i64_in _ (by omega)
 have w2 : IntKind.i64.wrap (6 * (S : Int)) = 6 * (S : Int) := IntWalk.i64_in _ (by omega)
 have w3 : IntKind.i64.wrap (18 + (B : Int) + 6 * (S : Int)) = 18 + (B : Int) + 6 * (S : Int) := IntWalk.i64_in _ (by omega)
 have hm : k * (18 + B + 6 * S) ≤ 4 * (18 + 40 + 6 * 60) := Nat.mul_le_mul hk (by omega)
 have w4 : IntKind.i64.wrap ((k : Int) * (18 + (B : Int) + 6 * (S : Int))) = (k : Int) * (18 + (B : Int) + 6 * (S : Int)) := by
  have e : (k : Int) * (18 + (B : Int) + 6 * (S : Int)) = ((k * (18 + B + 6 * S) : Nat) : Int) := by push_cast; rfl
  rw [e]
  exact IntWalk.i64_in _ (by omega)
 have E : Hid (((k * (18 + B + 6 * S) : Nat) : Int) = (k : Int) * (18 + (B : Int) + 6 * (S : Int))) := by show _ = _; push_cast; rfl
 rw [E.out]
 clear hb hs hm hn hk E
 unfold yM
 generalize ints .i64 14 c = row at r11 r10
 go_enter Tryz.func109, Tryz.ntmps109
 go_upto_region 1 with (fail)
 obtain ⟨M1, hbx, hle, hbf, hnf⟩ := h.box (.cells row 24)
 generalize w.alloc _ = wx at hbx ⊢
 generalize w.heap.size = bf at hbf hnf ⊢
 clear h
 try clear w
 have h := hbx
 clear hbx
 obtain ⟨w, rfl⟩ : ∃ x : World, x = wx := ⟨_, rfl⟩
 go_wp2_with (first
  | (with_reducible show wpList _ _ _ (⟨_, .load 3 _, _, _, _, _⟩ :: _) _ _; refine zZ h rfl 3 _ rfl rfl hbf r11 Tryz.underlying3 rfl ?_)
  | (with_reducible show wpList _ _ _ (⟨_, .load 3 _, _, _, _, _⟩ :: _) _ _; refine zZ h rfl 3 _ rfl rfl hbf r10 Tryz.underlying3 rfl ?_))
 go_ret
 exact ⟨rfl, h.le hle⟩
end
section
open Go.RowKit
theorem zE : (Tryz.prog.info? 133).bind (·.zero) = some (.agg (ints .u64 9 fun _ => 0)) := by kernel_rfl
def eN (ep : Int) (act : Nat → Int) : Nat → Int := fun i => if i = 0 then ep else act (i - 1)
def eUp (ep : Int) (act : Nat → Int) (k : Nat) : Nat → Int := fun i => if i = 0 then ep else if i ≤ k then act (i - 1) else 0
theorem eUp_succ (ep : Int) (act : Nat → Int) (k : Nat) : upd (eUp ep act k) (1 + k) (act k) = eUp ep act (k + 1) := by
 funext i
 unfold upd eUp
 by_cases h : i = 1 + k
 ·subst h; rw [if_pos rfl, if_neg (by omega), if_pos (by omega)]; congr 1; omega
 rw [if_neg h]
 by_cases h0 : i = 0
 ·rw [if_pos h0, if_pos h0]
 rw [if_neg h0, if_neg h0]
 by_cases h2 : i ≤ k
 ·rw [if_pos h2, if_pos (by omega)]
 rw [if_neg h2, if_neg (by omega)]
theorem eUp_all (ep : Int) (act : Nat → Int) : ints .u64 9 (eUp ep act 8) = ints .u64 9 (eN ep act) := vE fun i hi => by
 unfold eUp eN
 by_cases h0 : i = 0
 ·rw [if_pos h0, if_pos h0]
 rw [if_neg h0, if_neg h0, if_pos (by omega)]
theorem refRead_eq {σ w : World} {M : Mm} (h : Has σ M w) (c : Nat → Int) {L B S N bw l : Nat} (hn : Nums c L B S) (hN : N = L * (18 + B + 6 * S)) {f : Nat → Int} (hb : M bw = some (.cells (ints .u64 N f) 42)) (hl : l < L) : Calls Tryz.prog 67 #[yM c, .slice (some ⟨bw, 0, none⟩) N N, .int .i64 (l : Nat)] w fun r w' => r = .returned (.agg (ints .u64 9 (eN (f (l * (18 + B + 6 * S) + 1)) fun t => f (l * (18 + B + 6 * S) + (10 + t))))) ∧ Has σ M w' := by
 have hl0 := hn.l0
 have hb0 := hn.b0
 have hs0 := hn.s0
 have FI := Lib.hid (fun (M' : Mm) (w : World) (h : Has σ M' w) => tO h c hn l (by omega))
 have hN2 : N ≤ 4 * (18 + 40 + 6 * 60) := by subst hN; exact Nat.mul_le_mul (by omega) (by omega)
 have hlt : l * (18 + B + 6 * S) + (18 + B + 6 * S) ≤ N := by
  subst hN
  have := Nat.mul_le_mul_right (18 + B + 6 * S) (show l + 1 ≤ L by omega)
  rw [Nat.succ_mul] at this
  exact this
 obtain ⟨a, ha⟩ : ∃ a, l * (18 + B + 6 * S) = a := ⟨_, rfl⟩
 rw [ha] at FI hlt ⊢
 have hx : (ints .i64 14 c).extract 0 (0 + 14) = ints .i64 14 c := rfl
 have hz : (ints .i64 14 c).size = 14 := rfl
 have G : Hid (∀ i, i < 18 → (ints .u64 N f)[a + i]? = some (.int .u64 (f (a + i)))) := Lib.hid fun i hi => yH (by omega)
 have g1 := G.out 1 (by omega)
 have gl0 : ¬ (l : Int) < 0 := by omega
 have ga : ¬ (N : Int) < (a : Int) + 18 := by omega
 have w18 : IntKind.i64.wrap ((a : Int) + 18) = (a : Int) + 18 := IntWalk.i64_in _ (by omega)
 have w1 : IntKind.i64.wrap ((a : Int) + 1) = ((a + 1 : Nat) : Int) := by rw [show (a : Int) + 1 = ((a + 1 : Nat) : Int) by omega]; exact IntWalk.i64_in _ (by omega)
 have w10 : IntKind.i64.wrap ((a : Int) + 10) = (a : Int) + 10 := IntWalk.i64_in _ (by omega)
 have haN : ((a + 1 : Nat) : Int) < (N : Int) := by omega
 have HA := Lib.hid (⟨hlt, hN2⟩ : a + (18 + B + 6 * S) ≤ N ∧ N ≤ 4 * (18 + 40 + 6 * 60))
 unfold yM at FI ⊢
 generalize ints .i64 14 c = row at *
 generalize hwr : ints .u64 N f = wrow at *
 clear hwr hlt hN2 hN ha hn
 go_enter Tryz.func67, Tryz.ntmps67
 go_upto_region 1 with (first
  | ((with_reducible show wpList _ _ _ (⟨_, .box 24 _, _, _, _, _⟩ :: _) _ _); refine wL h rfl 24 _ rfl ?_; clear h; intro bf w h hnf; try simp only [Act.put, qD, qE, qF])
  | ((with_reducible show wpList _ _ _ (⟨_, .alloc 133, _, _, _, _⟩ :: _) _ _); refine zK h rfl 133 rfl _ zE ?_; clear h; intro b6 w h hn6; try simp only [Act.put, qD, qE, qF]))
 have hle1 : M.le ((M.upd bf (.cells row 24)).upd b6 (.cells (ints .u64 9 fun _ => 0) 133)) := Mm.le_trans (Mm.le_upd' hnf _) (Mm.le_upd' hn6 _)
 have hbf : ((M.upd bf (.cells row 24)).upd b6 (.cells (ints .u64 9 fun _ => 0) 133)) bf = some (.cells row 24) := Mm.upd_of hn6 (Mm.upd_same _ _ _)
 have hb6 : ((M.upd bf (.cells row 24)).upd b6 (.cells (ints .u64 9 fun _ => 0) 133)) b6 = some (.cells (ints .u64 9 fun _ => 0) 133) := Mm.upd_same _ _ _
 have hn0 : M b6 = none := Mm.none_of (Mm.le_upd' hnf _) hn6
 replace h : Has σ ((M.upd bf (.cells row 24)).upd b6 (.cells (ints .u64 9 fun _ => 0) 133)) w := h
 generalize (M.upd bf (.cells row 24)).upd b6 _ = M2 at h hle1 hbf hb6
 go_upto_region 2 with (first
  | ((with_reducible show wpList _ _ _ (⟨_, .alloc 133, _, _, _, _⟩ :: _) _ _); refine zK h rfl 133 rfl _ zE ?_; clear h; intro b7 w h hn7; try simp only [Act.put, qD, qE, qF])
  | ((with_reducible show wpList _ _ _ (⟨_, .store 133 _ _, _, _, _, _⟩ :: _) _ _); (refine zP (cells := ints .u64 9 fun _ => 0) h rfl 133 _ _ rfl rfl rfl (Mm.upd_same _ _ _) rfl rfl rfl (by kernel_rfl) rfl ?_); clear h; intro w h))
 rw [Mm.upd_upd] at h
 have n67 : b6 ≠ b7 := Mm.ne_of hn7 hb6
 have nf7 : bf ≠ b7 := Mm.ne_of hn7 hbf
 have hbw2 := hle1 _ _ hb
 have nw7 : bw ≠ b7 := Mm.ne_of hn7 hbw2
 have hbf3 := Mm.upd_of (o := .cells (ints .u64 9 fun _ => 0) 133) hn7 hbf
 go_upto_region 3 with (first
  | ((with_reducible show wpList _ _ _ (⟨_, .load 24 _, _, _, _, _⟩ :: _) _ _); refine zR h rfl 24 _ rfl rfl hbf3 hx hz Tryz.underlying24 rfl (by kernel_rfl) ?_; try simp only [Act.put, qD, qE, qF])
  | (go_at_call 109; refine (FI.out _ _ h).mono ?_; clear h; rintro _ w ⟨rfl, h⟩))
 have e0 : (ints .u64 9 fun _ => (0 : Int)).setIfInBounds 0 (.int .u64 (f (a + 1))) = ints .u64 9 (eUp (f (a + 1)) (fun t => f (a + (10 + t))) 0) := by
  rw [ints_set]
  refine vE fun i hi => ?_
  unfold upd eUp
  by_cases e : i = 0
  ·rw [if_pos e, if_pos e]
  rw [if_neg e, if_neg e, if_neg (by omega)]
 have hb7 : (M2.upd b7 (.cells (ints .u64 9 fun _ => 0) 133)) b7 = some (.cells (ints .u64 9 fun _ => 0) 133) := Mm.upd_same _ _ _
 have hbw3 : (M2.upd b7 (.cells (ints .u64 9 fun _ => 0) 133)) bw = some (.cells wrow 42) := Mm.upd_of hn7 hbw2
 have hs9 : 0 < (ints .u64 9 fun _ => (0 : Int)).size := by rw [zJ]; decide
 go_upto_region 6 with (first
  | (with_reducible show wpList _ _ _ (⟨_, .load 42 _, _, _, _, _⟩ :: _) _ _; refine zZ h rfl 42 _ rfl rfl hbw3 g1 Tryz.underlying42 rfl ?_)
  | (with_reducible show wpList _ _ _ (⟨_, .store 42 _ _, _, _, _, _⟩ :: _) _ _; refine zV h rfl 42 _ _ rfl rfl rfl hb7 hs9 rfl (by kernel_rfl) ?_; clear h; intro w h))
 have h4 : Has σ ((M2.upd b7 (.cells (ints .u64 9 fun _ => 0) 133)).upd b7 (.cells ((ints .u64 9 fun _ => (0 : Int)).setIfInBounds 0 (.int .u64 (f (a + 1)))) 133)) w := h
 rw [Mm.upd_upd, e0] at h4
 clear h hb7 hbw3 hs9 e0 g1
 have h := h4
 clear h4
 go_upto_region 7 with (fail)
 go_loopw [9] (fun i wr => ∃ k : Nat, k ≤ 8 ∧ i = .int .i64 (k : Nat) ∧ Has σ (M2.upd b7 (.cells (ints .u64 9 (eUp (f (a + 1)) (fun t => f (a + (10 + t))) k)) 133)) wr) (fun i _ => 8 - (intOf i).toNat)
 case atStart => exact ⟨0, Nat.zero_le _, rfl, h⟩
 clear h w
 obtain ⟨w, rfl⟩ : ∃ x : World, x = wr := ⟨_, rfl⟩
 obtain ⟨k, hk, rfl, h⟩ := hrel
 have hb7 : (M2.upd b7 (.cells (ints .u64 9 (eUp (f (a + 1)) (fun t => f (a + (10 + t))) k)) 133)) b7 = some (.cells (ints .u64 9 (eUp (f (a + 1)) (fun t => f (a + (10 + t))) k)) 133) := Mm.upd_same _ _ _
 have hbw3 : (M2.upd b7 (.cells (ints .u64 9 (eUp (f (a + 1)) (fun t => f (a + (10 + t))) k)) 133)) bw = some (.cells wrow 42) := Mm.upd_of hn7 hbw2
 by_cases hlt : k < 8
 ·have gk := G.out (10 + k) (by omega)
  have hA := HA.out
  have wk : IntKind.i64.wrap ((a : Int) + 10 + k) = ((a + (10 + k) : Nat) : Int) := by rw [show (a : Int) + 10 + k = ((a + (10 + k) : Nat) : Int) by omega]; exact IntWalk.i64_in _ (by omega)
  have wi : IntKind.i64.wrap ((k : Int) + 1) = ((k + 1 : Nat) : Int) := by rw [show (k : Int) + 1 = ((k + 1 : Nat) : Int) by omega]; exact IntWalk.i64_in _ (by omega)
  have hk8 : (k : Int) < 8 := by omega
  have hkN : ((a + (10 + k) : Nat) : Int) < (N : Int) := by omega
  have hs9 : 1 + k < (ints .u64 9 (eUp (f (a + 1)) (fun t => f (a + (10 + t))) k)).size := by rw [zJ]; omega
  have S := Lib.hid (eUp_succ (f (a + 1)) (fun t => f (a + (10 + t))) k)
  have HLT := Lib.hid hlt
  clear hA hk hlt
  generalize hrow : ints .u64 9 (eUp (f (a + 1)) (fun t => f (a + (10 + t))) k) = erow at *
  go_wp2_with (first
   | (with_reducible show wpList _ _ _ (⟨_, .load 42 _, _, _, _, _⟩ :: _) _ _; refine zZ h rfl 42 _ rfl rfl hbw3 gk Tryz.underlying42 rfl ?_)
   | (with_reducible show wpList _ _ _ (⟨_, .store 42 _ _, _, _, _, _⟩ :: _) _ _; refine zV h rfl 42 _ _ rfl rfl rfl hb7 hs9 rfl (by kernel_rfl) ?_; clear h; intro w h))
  have h4 : Has σ ((M2.upd b7 (.cells erow 133)).upd b7 (.cells (erow.setIfInBounds (1 + k) (.int .u64 (f (a + (10 + k))))) 133)) w := h
  rw [Mm.upd_upd, ← hrow, ints_set, S.out] at h4
  clear h
  have h := h4
  clear h4
  go_roundw
  case rel => exact ⟨k + 1, by have := HLT.out; omega, by go_num, h⟩
  case measure => have := HLT.out; simp [intOf]; omega
 obtain rfl : k = 8 := by omega
 rw [eUp_all] at h hb7 hbw3
 have hb6' : (M2.upd b7 (.cells (ints .u64 9 (eN (f (a + 1)) fun t => f (a + (10 + t)))) 133)) b6 = some (.cells (ints .u64 9 fun _ => 0) 133) := Mm.upd_of hn7 hb6
 have dx : (ints .u64 9 (eN (f (a + 1)) fun t => f (a + (10 + t)))).extract 0 (0 + 9) = ints .u64 9 (eN (f (a + 1)) fun t => f (a + (10 + t))) := rfl
 have dz : (ints .u64 9 (eN (f (a + 1)) fun t => f (a + (10 + t)))).size = 9 := zJ _ _ _
 have d1 : (ints .u64 9 (eN (f (a + 1)) fun t => f (a + (10 + t)))).toList.all (·.oneCell') = true := rfl
 have dzz : (ints .u64 9 fun _ => (0 : Int)).size = 9 := zJ _ _ _
 clear hbw3 hk hlt
 generalize hrow : ints .u64 9 (eN (f (a + 1)) fun t => f (a + (10 + t))) = erow at *
 have HROW := Lib.hid hrow
 clear hrow
 have hle4 := Mm.le_trans hle1 (Mm.le_upd' hn7 (.cells erow 133))
 generalize M2.upd b7 _ = M4 at *
 go_wp2_with (first
  | ((with_reducible show wpList _ _ _ (⟨_, .load 133 _, _, _, _, _⟩ :: _) _ _); refine zR h rfl 133 _ rfl rfl hb7 dx dz Tryz.underlying133 rfl (by kernel_rfl) ?_; try simp only [Act.put, qD, qE, qF])
  | ((with_reducible show wpList _ _ _ (⟨_, .store 133 _ _, _, _, _, _⟩ :: _) _ _); (refine zP (cells := erow) h rfl 133 _ _ rfl rfl rfl hb6' rfl dzz dz (by kernel_rfl) d1 ?_); clear h; intro w h))
 exact bodyPost_ret (results_cell_row rfl _ _ _ _ _ _ _ rfl (h.at_ b6 _ (Mm.upd_same _ _ _)) Tryz.underlying133 rfl (by rw [dz]; kernel_rfl)) rfl ⟨by rw [HROW.out], h.le (Mm.le_upd hle4 hn0 _)⟩
end
section
open Go.RowKit
theorem nT (x : Nat) (hx : x < 18446744073709551616) (w : World) : Calls Tryz.prog 68 #[.int .u64 x] w fun r w' => r = .returned (.int .i64 (yY x : Nat)) ∧ w = w' := by
 by_cases h0 : x = 0
 ·subst h0
  go_enter Tryz.func68, Tryz.ntmps68
  go_wp2
  go_ret
  exact ⟨rfl, rfl⟩
 have g : ((x : Int) == 0) = false := beq_eq_false_iff_ne.2 (by omega)
 by_cases h1 : 9223372036854775808 ≤ x
 ·have g1 : decide ((9223372036854775808 : Int) ≤ (x : Int)) = true := decide_eq_true (by omega)
  have g2 : decide (9223372036854775808 ≤ x) = true := decide_eq_true h1
  have E : Hid (yY x = 1) := Lib.hid (by
   unfold yY; rw [if_neg h0, if_pos (by unfold oneB cutN; exact decide_eq_true (by omega))])
  clear h0 h1 hx
  go_enter Tryz.func68, Tryz.ntmps68
  go_wp2
  go_ret
  exact ⟨by rw [E.out]; rfl, rfl⟩
 have g1 : decide ((9223372036854775808 : Int) ≤ (x : Int)) = false := decide_eq_false (by omega)
 have g2 : decide (9223372036854775808 ≤ x) = false := decide_eq_false h1
 have E : Hid (yY x = 2) := Lib.hid (by
  have e : oneB x 63 = false := by unfold oneB cutN; exact decide_eq_false (by omega)
  unfold yY; rw [if_neg h0, e]; rfl)
 clear h0 h1 hx
 go_enter Tryz.func68, Tryz.ntmps68
 go_wp2
 go_ret
 exact ⟨by rw [E.out]; rfl, rfl⟩
theorem zE3 : (Tryz.prog.info? 58).bind (·.zero) = some (.agg #[.int .i64 0, .int .i64 0, .int .u64 0]) := by kernel_rfl
theorem refWhat_eq {σ w : World} {M : Mm} (h : Has σ M w) (x : Nat) (hx : x < 18446744073709551616) : Calls Tryz.prog 55 #[.int .u64 x] w fun r w' => r = .returned (.agg (pU x)) ∧ Has σ M w' := by
 have KD := Lib.hid (nT x hx)
 have E : Hid (pU x = if yY x = 2 then #[.int .i64 (x % 256 : Nat), .int .i64 (x / 256 % 16777216 : Nat), .int .u64 (x / 4294967296 % 1073741824 : Nat)] else #[.int .i64 0, .int .i64 0, .int .u64 0]) := Lib.hid (by
  have a1 : cutN x 0 8 = x % 256 := by unfold cutN; omega
  have a2 : cutN x 8 24 = x / 256 % 16777216 := by unfold cutN; omega
  have a3 : cutN x 32 30 = x / 4294967296 % 1073741824 := by unfold cutN; omega
  unfold pU
  rw [a1, a2, a3])
 have w0 : IntKind.i64.wrap ((x % 256 : Nat) : Int) = ((x % 256 : Nat) : Int) := IntWalk.i64_in _ (by omega)
 have w2 : IntKind.i64.wrap ((x / 256 % 16777216 : Nat) : Int) = ((x / 256 % 16777216 : Nat) : Int) := IntWalk.i64_in _ (by omega)
 have q1 : (x : Int).tmod 256 = ((x % 256 : Nat) : Int) := rfl
 have q2 : (x : Int).tdiv 256 = ((x / 256 : Nat) : Int) := rfl
 have q3 : ((x / 256 : Nat) : Int).tmod 16777216 = ((x / 256 % 16777216 : Nat) : Int) := rfl
 have q4 : (x : Int).tdiv 4294967296 = ((x / 4294967296 : Nat) : Int) := rfl
 have q5 : ((x / 4294967296 : Nat) : Int).tmod 1073741824 = ((x / 4294967296 % 1073741824 : Nat) : Int) := rfl
 have u1 : IntKind.u64.wrap ((x % 256 : Nat) : Int) = ((x % 256 : Nat) : Int) := IntWalk.u64_in _ (by omega)
 have u2 : IntKind.u64.wrap ((x / 256 : Nat) : Int) = ((x / 256 : Nat) : Int) := IntWalk.u64_in _ (by omega)
 have u3 : IntKind.u64.wrap ((x / 256 % 16777216 : Nat) : Int) = ((x / 256 % 16777216 : Nat) : Int) := IntWalk.u64_in _ (by omega)
 have u4 : IntKind.u64.wrap ((x / 4294967296 : Nat) : Int) = ((x / 4294967296 : Nat) : Int) := IntWalk.u64_in _ (by omega)
 have u5 : IntKind.u64.wrap ((x / 4294967296 % 1073741824 : Nat) : Int) = ((x / 4294967296 % 1073741824 : Nat) : Int) := IntWalk.u64_in _ (by omega)
 generalize x % 256 = y1 at *
 generalize x / 256 % 16777216 = y2 at *
 generalize x / 4294967296 % 1073741824 = y3 at *
 generalize x / 256 = z1 at *
 generalize x / 4294967296 = z2 at *
 generalize yY x = k at *
 clear hx
 by_cases hk : k = 2
 ·subst hk
  rw [if_pos rfl] at E
  go_enter Tryz.func55, Tryz.ntmps55
  go_upto_region 1 with (first
   | ((with_reducible show wpList _ _ _ (⟨_, .alloc 58, _, _, _, _⟩ :: _) _ _); refine zK h rfl 58 rfl _ zE3 ?_; clear h; intro b4 w h hn4; try simp only [Act.put, qD, qE, qF]))
  have hle := Mm.le_upd' hn4 (.cells #[.int .i64 0, .int .i64 0, .int .u64 0] 58)
  have hb4 := Mm.upd_same M b4 (.cells #[.int .i64 0, .int .i64 0, .int .u64 0] 58)
  replace h : Has σ (M.upd b4 (.cells #[.int .i64 0, .int .i64 0, .int .u64 0] 58)) w := h
  generalize M.upd b4 _ = M1 at h hle hb4
  go_wp2_with (first
   | ((go_at_call 68; refine (KD.out _).mono ?_; rintro r w' ⟨rfl, rfl⟩))
   | ((with_reducible show wpList _ _ _ (⟨_, .store 58 _ _, _, _, _, _⟩ :: _) _ _); (refine zP h rfl 58 _ _ rfl rfl rfl hb4 rfl rfl rfl (by kernel_rfl) rfl ?_); clear h; intro w h))
  exact bodyPost_ret (results_cell_row rfl _ _ _ _ _ _ _ rfl (h.at_ b4 _ (Mm.upd_same _ _ _)) Tryz.underlying58 rfl (by kernel_rfl)) rfl ⟨by rw [E.out], h.le (Mm.le_upd hle hn4 _)⟩
 have g : ((k : Int) != 2) = true := by simp; omega
 rw [if_neg hk] at E
 clear hk
 go_enter Tryz.func55, Tryz.ntmps55
 go_upto_region 1 with (first
  | ((with_reducible show wpList _ _ _ (⟨_, .alloc 58, _, _, _, _⟩ :: _) _ _); refine zK h rfl 58 rfl _ zE3 ?_; clear h; intro b4 w h hn4; try simp only [Act.put, qD, qE, qF]))
 have hle := Mm.le_upd' hn4 (.cells #[.int .i64 0, .int .i64 0, .int .u64 0] 58)
 have hb4 := Mm.upd_same M b4 (.cells #[.int .i64 0, .int .i64 0, .int .u64 0] 58)
 replace h : Has σ (M.upd b4 (.cells #[.int .i64 0, .int .i64 0, .int .u64 0] 58)) w := h
 generalize M.upd b4 _ = M1 at h hle hb4
 go_wp2_with (first
  | ((go_at_call 68; refine (KD.out _).mono ?_; rintro r w' ⟨rfl, rfl⟩))
  | ((with_reducible show wpList _ _ _ (⟨_, .store 58 _ _, _, _, _, _⟩ :: _) _ _); (refine zP h rfl 58 _ _ rfl rfl rfl hb4 rfl rfl rfl (by kernel_rfl) rfl ?_); clear h; intro w h))
 exact bodyPost_ret (results_cell_row rfl _ _ _ _ _ _ _ rfl (h.at_ b4 _ (Mm.upd_same _ _ _)) Tryz.underlying58 rfl (by kernel_rfl)) rfl ⟨by rw [E.out], h.le (Mm.le_upd hle hn4 _)⟩
def cu (C : List Nat) : List Value := u64s (C.map fun u : Nat => (u : Int))
theorem cu_get {C : List Nat} {i x : Nat} (h : C[i]? = some x) : (cu C)[i]? = some (.int .u64 (x : Nat)) := by simp [cu, u64s, h]
def filN (C : List Nat) : Nat := (C.filter fun v => yY v == 2).length
theorem filN_take (C : List Nat) {k x : Nat} (h : C[k]? = some x) : filN (C.take (k + 1)) = filN (C.take k) + if yY x = 2 then 1 else 0 := by
 unfold filN
 rw [List.take_add_one, h, List.filter_append, List.length_append]
 by_cases e : yY x = 2
 ·rw [if_pos e]; simp [e]
 rw [if_neg e]; simp [e]
theorem refFilled_eq {σ w : World} {M : Mm} (h : Has σ M w) {v : Value} {n : Nat} {C : List Nat} (hr : Rd M 1 v n (cu C)) (hn : n ≤ 1000) (hC : ∀ u ∈ C, u < 18446744073709551616) : Calls Tryz.prog 28 #[v] w fun r w' => r = .returned (.int .i64 (filN C : Nat)) ∧ Has σ M w' := by
 have hl : C.length = n := by have := hr.1; simp [cu, u64s] at this; exact this
 obtain ⟨_, A, ca, rfl, _, hA⟩ := hr
 have HA := Lib.hid hA
 have HC := Lib.hid hC
 have HL := Lib.hid hl
 have hfl : ∀ k, filN (C.take k) ≤ k := fun k => Nat.le_trans (List.length_filter_le _ _) (by rw [List.length_take]; omega)
 have HFL := Lib.hid hfl
 clear hA hC hl hfl
 go_enter Tryz.func28, Tryz.ntmps28
 go_wp2
 go_loopw [3, 4] (fun m i wr => ∃ k : Nat, k ≤ n ∧ m = .int .i64 (filN (C.take k) : Nat) ∧ i = .int .i64 (k : Nat) ∧ Has σ M wr) (fun m i _ => n - (intOf i).toNat)
 case atStart => exact ⟨0, Nat.zero_le _, rfl, rfl, h⟩
 clear h w
 obtain ⟨w, rfl⟩ : ∃ x : World, x = wr := ⟨_, rfl⟩
 obtain ⟨k, hk, rfl, rfl, h⟩ := hrel
 by_cases hlt : k < n
 ·have hlt' : (k : Int) < (n : Int) := by omega
  obtain ⟨ba, oa, csa, ta, fa, rfl, hMa, hxa⟩ := HA.out (by omega)
  obtain ⟨x, hx⟩ : ∃ x, C[k]? = some x := ⟨_, List.getElem?_eq_getElem (by rw [HL.out]; omega)⟩
  have ga : csa[oa + k]? = some (.int .u64 (x : Nat)) := hxa k _ (cu_get hx)
  have KD := Lib.hid (nT x (HC.out x (List.mem_of_getElem? hx)))
  have hE := filN_take C hx
  have hf := HFL.out k
  generalize yY x = kk at *
  have HE := Lib.hid hE
  have HLT := Lib.hid hlt
  have KDH : Hid (∀ w : World, Has σ M w → Calls Tryz.prog 68 #[.int .u64 x] w fun r w' => r = .returned (.int .i64 (kk : Nat)) ∧ Has σ M w') := Lib.hid fun w h => (KD.out w).mono fun r w' ⟨e1, e2⟩ => ⟨e1, e2 ▸ h⟩
  obtain ⟨f, hfe⟩ : ∃ f, filN (C.take k) = f := ⟨_, rfl⟩
  rw [hfe] at hf HE ⊢
  have w1 : IntKind.i64.wrap ((f : Int) + 1) = ((f + 1 : Nat) : Int) := by rw [show (f : Int) + 1 = ((f + 1 : Nat) : Int) by omega]; exact IntWalk.i64_in _ (by omega)
  clear hxa hx hE hlt hfe KD hk hf
  by_cases e2 : kk = 2
  ·subst e2
   rw [if_pos rfl] at HE
   go_wp2_with (first
    | (with_reducible show wpList _ _ _ (⟨_, .load 42 _, _, _, _, _⟩ :: _) _ _; refine zZ h rfl 42 _ rfl rfl hMa ga Tryz.underlying42 rfl ?_)
    | (go_at_call 68; refine (KDH.out _ h).mono ?_; clear h; rintro _ w ⟨rfl, h⟩))
   go_roundw
   case rel => exact ⟨k + 1, by have := HLT.out; omega, by rw [HE.out]; rfl, by go_num, h⟩
   case measure => have := HLT.out; simp [intOf]; omega
  rw [if_neg e2] at HE
  have g2 : ((kk : Int) == 2) = false := beq_eq_false_iff_ne.2 (by omega)
  clear e2
  go_wp2_with (first
   | (with_reducible show wpList _ _ _ (⟨_, .load 42 _, _, _, _, _⟩ :: _) _ _; refine zZ h rfl 42 _ rfl rfl hMa ga Tryz.underlying42 rfl ?_)
   | (go_at_call 68; refine (KDH.out _ h).mono ?_; clear h; rintro _ w ⟨rfl, h⟩))
  go_roundw
  case rel => exact ⟨k + 1, by have := HLT.out; omega, by rw [HE.out]; rfl, by go_num, h⟩
  case measure => have := HLT.out; simp [intOf]; omega
 obtain rfl : k = n := by omega
 have e : Hid (filN (C.take k) = filN C) := Lib.hid (by rw [List.take_of_length_le (by rw [HL.out]; omega)])
 go_wp2
 go_ret
 exact ⟨by rw [e.out]; rfl, h⟩
theorem rd_part {M : Mm} {bw N a B : Nat} {f : Nat → Int} {C : List Nat} {ty : TypeId} {fz : Nat × Nat} (hb : M bw = some (.cells (ints .u64 N f) ty fz)) (ha : a + B ≤ N) (hC : C.length = B) (hw : ∀ i, i < B → f (a + i) = (C.getD i 0 : Nat)) : Rd M 1 (.slice (some ⟨bw, a, none⟩) B (N - a)) B (cu C) := by
 refine ⟨by simp [cu, u64s, hC], _, _, rfl, by omega, fun h0 => ⟨bw, a, _, _, _, rfl, hb, fun j u hu => ?_⟩⟩
 have hj : j < C.length := by
  have := (List.getElem?_eq_some_iff.1 hu).1
  simpa [cu, u64s] using this
 have e : C.getD j 0 = C[j] := by rw [List.getD_eq_getElem?_getD, List.getElem?_eq_getElem hj]; rfl
 rw [cu_get (List.getElem?_eq_getElem hj), ← e, ← hw j (by omega)] at hu
 rw [yH (by omega)]
 exact hu
theorem refCells_eq {σ w : World} {M : Mm} (h : Has σ M w) (c : Nat → Int) {L B S N bw l : Nat} (hn : Nums c L B S) (hN : N = L * (18 + B + 6 * S)) {f : Nat → Int} (hb : M bw = some (.cells (ints .u64 N f) 42)) (hl : l < L) {C : List Nat} (hC : C.length = B) (hw : ∀ i, i < B → f (l * (18 + B + 6 * S) + 18 + i) = (C.getD i 0 : Nat)) : Calls Tryz.prog 72 #[yM c, .slice (some ⟨bw, 0, none⟩) N N, .int .i64 (l : Nat)] w fun r w' => ∃ v, r = .returned v ∧ Has σ M w' ∧ Rd M 1 v B (cu C) := by
 have hl0 := hn.l0
 have hb0 := hn.b0
 have hs0 := hn.s0
 have FI := Lib.hid (fun (M' : Mm) (w : World) (h : Has σ M' w) => tO h c hn l (by omega))
 have hN2 : N ≤ 4 * (18 + 40 + 6 * 60) := by subst hN; exact Nat.mul_le_mul (by omega) (by omega)
 have hlt : l * (18 + B + 6 * S) + (18 + B + 6 * S) ≤ N := by
  subst hN
  have := Nat.mul_le_mul_right (18 + B + 6 * S) (show l + 1 ≤ L by omega)
  rw [Nat.succ_mul] at this
  exact this
 obtain ⟨a, ha⟩ : ∃ a, l * (18 + B + 6 * S) = a := ⟨_, rfl⟩
 rw [ha] at FI hlt hw
 have RD := Lib.hid (rd_part hb (a := a + 18) (by omega) hC hw)
 have r11 : (ints .i64 14 c)[11]? = some (.int .i64 (B : Nat)) := by rw [← hn.lim]; rfl
 have hx : (ints .i64 14 c).extract 0 (0 + 14) = ints .i64 14 c := rfl
 have hz : (ints .i64 14 c).size = 14 := rfl
 have gl0 : ¬ (l : Int) < 0 := by omega
 have w18 : IntKind.i64.wrap ((a : Int) + 18) = ((a + 18 : Nat) : Int) := by rw [show (a : Int) + 18 = ((a + 18 : Nat) : Int) by omega]; exact IntWalk.i64_in _ (by omega)
 have w1 : IntKind.i64.wrap (((a + 18 : Nat) : Int) + (B : Int)) = ((a + 18 + B : Nat) : Int) := by rw [show ((a + 18 : Nat) : Int) + (B : Int) = ((a + 18 + B : Nat) : Int) by omega]; exact IntWalk.i64_in _ (by omega)
 have ga : ¬ (N : Int) < ((a + 18 + B : Nat) : Int) := by omega
 have gb : a + 18 ≤ N := by omega
 have hB : a + 18 + B ≤ N := by omega
 have hne : N ≠ a + 18 := by omega
 clear hw hC hb hN2 hlt hN hn ha hs0 hb0 hl0 hl
 generalize ha1 : a + 18 = a1 at *
 generalize ha2 : a1 + B = a2 at *
 have e2 : a2 - a1 = B := by omega
 have le1 : a1 ≤ a2 := by omega
 have le2 : (a1 : Int) ≤ (a2 : Int) := by omega
 have le3 : (a2 : Int) ≤ (N : Int) := by omega
 have HA := Lib.hid ha2
 clear ha2 ha1
 unfold yM at FI ⊢
 generalize ints .i64 14 c = row at *
 go_enter Tryz.func72, Tryz.ntmps72
 go_upto_region 1 with (fail)
 obtain ⟨M1, hbx, hle, hbf, hnf⟩ := h.box (.cells row 24)
 generalize w.alloc _ = wx at hbx ⊢
 generalize w.heap.size = bf at hbf hnf ⊢
 clear h
 try clear w
 have h := hbx
 clear hbx
 obtain ⟨w, rfl⟩ : ∃ x : World, x = wx := ⟨_, rfl⟩
 go_wp2_with (first
  | ((with_reducible show wpList _ _ _ (⟨_, .load 24 _, _, _, _, _⟩ :: _) _ _); refine zR h rfl 24 _ rfl rfl hbf hx hz Tryz.underlying24 rfl (by kernel_rfl) ?_; try simp only [Act.put, qD, qE, qF])
  | (go_at_call 109; refine (FI.out _ _ h).mono ?_; clear h; rintro _ w ⟨rfl, h⟩)
  | (with_reducible show wpList _ _ _ (⟨_, .load 3 _, _, _, _, _⟩ :: _) _ _; refine zZ h rfl 3 _ rfl rfl hbf r11 Tryz.underlying3 rfl ?_))
 go_ret
 refine ⟨_, rfl, h.le hle, ?_⟩
 exact RD.out
theorem now24_eq {σ w : World} {M : Mm} {lab : Nat → Nat} {p n l L B S : Nat} {s : MachS} {c : Nat → Int} {tp : List Nat} {g : GM} (h : Has σ M w) (hM : Mach M lab p s) (hA : AbsM c tp n s g) (hn : Nums c L B S) (hl : l < L) : Calls Tryz.prog 22 #[.pointer (some ⟨p, 0, none⟩), .int .i64 (l : Nat)] w fun r w' => r = .returned (.int .u64 (g.w l 1 : Nat)) ∧ Has σ M w' := by
 obtain rfl := hA.cc
 have hl0 := hn.l0
 have hb0 := hn.b0
 have hs0 := hn.s0
 have hN1 : s.mem.N = L * (18 + B + 6 * S) := by
  have h1 := hM.memN
  rw [hn.lev, hn.sz, ← Int.natCast_mul] at h1
  exact Int.ofNat_inj.1 h1
 have hN2 : L * (18 + B + 6 * S) ≤ 4 * (18 + 40 + 6 * 60) := Nat.mul_le_mul (by omega) (by omega)
 have PL := Lib.hid (fun (w : World) (h : Has σ M w) => wU h hM)
 have CF := Lib.hid (fun (w : World) (h : Has σ M w) => wR h s.c hM.plan)
 have ME := Lib.hid (fun (w : World) (h : Has σ M w) => yJ h hM)
 have WO := Lib.hid (fun (w : World) (h : Has σ M w) => rG h hM.mem (by omega))
 have wd : ∀ o, o < 18 + B → s.mem.f (l * (18 + B + 6 * S) + o) = (g.w l o : Int) := fun o ho => by
  have := hA.words l o (by rw [hn.lev]; omega) (by rw [hn.sz]; omega)
  rw [hn.sz, Int.toNat_natCast] at this
  exact this
 have RD : Hid (∀ (M' : Mm) (w : World) (bw : Nat), Has σ M' w → M' bw = some (.cells (ints .u64 s.mem.N s.mem.f) 42) → Calls Tryz.prog 67 #[.agg (ints .i64 14 s.c), .slice (some ⟨bw, 0, none⟩) s.mem.N s.mem.N, .int .i64 (l : Nat)] w fun r w' => ∃ erow, r = .returned (.agg erow) ∧ Has σ M' w' ∧ ∀ w, (Instr.field 133 (.agg erow) 0).run Tryz.prog w = .ok (.int .u64 (g.w l 1 : Nat)) w) := Lib.hid fun M' w bw h hb => by
  refine (refRead_eq h s.c hn hN1 hb hl).mono fun r w' ⟨e, h'⟩ => ⟨_, e, h', fun w => ?_⟩
  rw [← wd 1 (by omega)]
  generalize s.mem.f (l * (18 + B + 6 * S) + 1) = x
  rfl
 clear wd hA hn hM hN1 hN2 hl hl0 hb0 hs0
 have eR : s.mem.row = .cells (ints .u64 s.mem.N s.mem.f) 42 := rfl
 rw [eR] at WO
 clear eR
 generalize ints .i64 14 s.c = row at *
 generalize ints .u64 s.mem.N s.mem.f = wrow at *
 generalize s.mem.N = N at *
 go_enter Tryz.func22, Tryz.ntmps22
 go_wp2_with (first
  | (go_at_call 57; refine (PL.out _ h).mono ?_; clear h; rintro _ w ⟨rfl, h⟩)
  | (go_at_call 58; refine (CF.out _ h).mono ?_; clear h; rintro _ w ⟨rfl, h⟩)
  | (go_at_call 46; refine (ME.out _ h).mono ?_; clear h; rintro _ w ⟨rfl, h⟩)
  | ((go_at_call 47; refine (WO.out _ h).mono ?_; clear h; rintro _ w ⟨bw, M3, rfl, h, hle3, hnw, hbw⟩))
  | ((go_at_call 67; refine (RD.out M3 _ bw h hbw).mono ?_; clear h; rintro _ w ⟨erow, rfl, h, FD⟩)))
 go_ret
 exact ⟨rfl, h.le hle3⟩
theorem kZ {σ w : World} {M : Mm} {lab : Nat → Nat} {p n l L B S : Nat} {s : MachS} {c : Nat → Int} {tp : List Nat} {g : GM} (h : Has σ M w) (hM : Mach M lab p s) (hA : AbsM c tp n s g) (hn : Nums c L B S) (hl : l < L) {C : List Nat} (hC : C.length = B) (hw : ∀ i, i < B → g.w l (18 + i) = C.getD i 0) : Calls Tryz.prog 26 #[.pointer (some ⟨p, 0, none⟩), .int .i64 (l : Nat)] w fun r w' => ∃ v M', r = .returned v ∧ Has σ M' w' ∧ M.le M' ∧ Rd M' 1 v B (cu C) := by
 obtain rfl := hA.cc
 have hl0 := hn.l0
 have hb0 := hn.b0
 have hs0 := hn.s0
 have hN1 : s.mem.N = L * (18 + B + 6 * S) := by
  have h1 := hM.memN
  rw [hn.lev, hn.sz, ← Int.natCast_mul] at h1
  exact Int.ofNat_inj.1 h1
 have hN2 : L * (18 + B + 6 * S) ≤ 4 * (18 + 40 + 6 * 60) := Nat.mul_le_mul (by omega) (by omega)
 have PL := Lib.hid (fun (w : World) (h : Has σ M w) => wU h hM)
 have CF := Lib.hid (fun (w : World) (h : Has σ M w) => wR h s.c hM.plan)
 have ME := Lib.hid (fun (w : World) (h : Has σ M w) => yJ h hM)
 have WO := Lib.hid (fun (w : World) (h : Has σ M w) => rG h hM.mem (by omega))
 have wd : ∀ o, o < 18 + B → s.mem.f (l * (18 + B + 6 * S) + o) = (g.w l o : Int) := fun o ho => by
  have := hA.words l o (by rw [hn.lev]; omega) (by rw [hn.sz]; omega)
  rw [hn.sz, Int.toNat_natCast] at this
  exact this
 have RD : Hid (∀ (M' : Mm) (w : World) (bw : Nat), Has σ M' w → M' bw = some (.cells (ints .u64 s.mem.N s.mem.f) 42) → Calls Tryz.prog 72 #[.agg (ints .i64 14 s.c), .slice (some ⟨bw, 0, none⟩) s.mem.N s.mem.N, .int .i64 (l : Nat)] w fun r w' => ∃ v, r = .returned v ∧ Has σ M' w' ∧ Rd M' 1 v B (cu C)) := Lib.hid fun M' w bw h hb =>
  refCells_eq h s.c hn hN1 hb hl hC fun i hi => by rw [Nat.add_assoc, wd (18 + i) (by omega), hw i hi]
 clear wd hA hn hM hN1 hN2 hl hl0 hb0 hs0 hC hw
 have eR : s.mem.row = .cells (ints .u64 s.mem.N s.mem.f) 42 := rfl
 rw [eR] at WO
 clear eR
 generalize ints .i64 14 s.c = row at *
 generalize ints .u64 s.mem.N s.mem.f = wrow at *
 generalize s.mem.N = N at *
 go_enter Tryz.func26, Tryz.ntmps26
 go_wp2_with (first
  | (go_at_call 57; refine (PL.out _ h).mono ?_; clear h; rintro _ w ⟨rfl, h⟩)
  | (go_at_call 58; refine (CF.out _ h).mono ?_; clear h; rintro _ w ⟨rfl, h⟩)
  | (go_at_call 46; refine (ME.out _ h).mono ?_; clear h; rintro _ w ⟨rfl, h⟩)
  | ((go_at_call 47; refine (WO.out _ h).mono ?_; clear h; rintro _ w ⟨bw, M3, rfl, h, hle3, hnw, hbw⟩))
  | ((go_at_call 72; refine (RD.out M3 _ bw h hbw).mono ?_; clear h; rintro _ w ⟨v, rfl, h, hv⟩)))
 go_ret
 exact ⟨_, _, rfl, h, hle3, hv⟩
end
section
section
open Go.RowKit
section
variable {σ w : World} {M : Mm} {it bm since c0 clock : Nat} {seen : Array Nat} {es : Array MapEntry}
theorem run_next_has (h : Has σ M w) (ty : TypeId) (hit : M it = some (.mapIter (some bm) since seen c0)) (hb : M bm = some (.map es clock)) (hold : ∀ x ∈ es.toList, x.born < since) (hsc : since ≤ c0) :
  ((leftOf es seen).size = 0 ∧ (Instr.next (.pointer (some ⟨it, 0, none⟩)) false ty).run Tryz.prog w = .ok (.tuple #[.bool false]) w) ∨
  ∃ e ∈ (leftOf es seen).toList, ∃ w1 : World, Has σ (M.upd it (.mapIter (some bm) since (seen.push e.born) clock)) w1 ∧ (Instr.next (.pointer (some ⟨it, 0, none⟩)) false ty).run Tryz.prog w = .ok (.tuple #[.bool true, e.key, e.val]) w1 := by
 have hwi := h.at_ _ _ hit
 have hwb := h.at_ _ _ hb
 simp only [Instr.next, getObj, Sem.run_bind, Sem.run, hwi, hwb, Result.andThen, next_test_false seen es since c0 hold hsc, Bool.false_eq_true, if_false]
 have hmem : ∀ x ∈ (Array.filter (fun e => !seen.contains e.born) es).toList, x.born < since := fun x hx => hold x (by simp at hx ⊢; exact hx.1)
 unfold leftOf
 generalize Array.filter (fun e => !seen.contains e.born) es = L at hmem ⊢
 have e1 : L.filter (fun x => decide (x.born < since)) = L := Array.filter_eq_self.2 (fun x hx => by simpa using hmem x (by simpa using hx))
 have e2 : L.filter (fun x => decide (x.born ≥ since)) = #[] := by
  rw [Array.filter_eq_empty_iff]
  intro x hx
  have := hmem x (by simpa using hx)
  simp
  omega
 simp only [e1, e2, Array.append_empty]
 by_cases h0 : L.size = 0
 ·left
  have : L = #[] := Array.eq_empty_of_size_eq_zero h0
  subst this
  refine ⟨rfl, ?_⟩
  simp [choose, Sem.run, Question.forced]
 right
 have hne : L.isEmpty = false := by simp [Array.isEmpty, h0]
 simp only [hne, Bool.false_eq_true, if_false, Array.empty_append, Array.size_map]
 have hch : ∃ (j : Nat) (w1 : World), j < L.size ∧ Has σ M w1 ∧ (choose (Question.mapNext L.size)).run Tryz.prog w = .ok j w1 := by
  by_cases hf : L.size ≤ 1
  ·exact ⟨0, w, by omega, h, by simp [choose, Sem.run, Question.forced, hf]⟩
  exact ⟨_, w.drew, Nat.mod_lt _ (by omega), h.drew, by
   simp only [choose, Sem.run, Question.forced, decide_eq_true_eq, hf, if_false, Question.cut]
   rfl⟩
 obtain ⟨j, w1, hj, h1, hrun⟩ := hch
 have hw1 := h1.at_ _ _ hit
 have hlt : it < w1.heap.size := lt_of_block hw1
 have fin : ∀ o : Obj, Has σ (M.upd it o) { w1 with heap := w1.heap.setIfInBounds it o } := fun o => h1.put ⟨rfl, rfl, rfl, by simp, fun k hk => by simp [Array.getElem?_setIfInBounds, Ne.symm hk]⟩ (by simp [hlt])
 refine ⟨L[j], by simp, _, fin _, ?_⟩
 have hset : ∀ (o' : Obj), (setObj it o').run Tryz.prog w1 = .ok () { w1 with heap := w1.heap.setIfInBounds it o' } := fun o' => by
  simp only [setObj, Sem.run]
  rw [hw1]
 simp only [hrun, Array.getElem?_map, Array.getElem?_eq_getElem hj, Option.map_some, Sem.run_bind, hset, Result.andThen]
 rfl
theorem kR (h : Has σ M w) {e : MapEntry} (hit : M it = some (.mapIter (some bm) since (seen.push e.born) clock)) (hb : M bm = some (.map es clock)) (he : e ∈ es.toList) (hn : (es.toList.map (·.born)).Nodup) :
  (Instr.entry (.pointer (some ⟨it, 0, none⟩))).run Tryz.prog w = .ok (.tuple #[e.key, e.val]) w := by
 have hwi := h.at_ _ _ hit
 have hwb := h.at_ _ _ hb
 have hf : es.find? (·.born == e.born) = some e := by rw [← Array.find?_toList]; exact find_born e es.toList hn he
 simp only [Instr.entry, getObj, Sem.run_bind, Sem.run, hwi, hwb, Result.andThen, Array.back?_push, bne_self_eq_false, Bool.false_eq_true, if_false, hf]
 rfl
theorem kS (h : Has σ M w) (hb : M bm = some (.map es clock)) : (Instr.range 128 (.map (some bm))).run Tryz.prog w = .ok (.pointer (some ⟨w.heap.size, 0, none⟩)) (w.alloc (.mapIter (some bm) clock #[] clock)) :=
 run_range_map w 128 _ _ bm es clock Tryz.underlying128 (h.at_ _ _ hb)
theorem sG (h : Has σ M w) {a : Option Nat} {b c : Nat} (hit : M it = some (.mapIter a b seen c)) : w.iterSeen it = seen := by
 unfold World.iterSeen
 rw [h.at_ _ _ hit]
end
def cntE (l : Int) (seen : Array Nat) : List Ent → Nat
 | [] => 0
 | x :: r => (if seen.contains x.born = true ∧ x.l = l then 1 else 0) + cntE l seen r
theorem jN (l : Int) : ∀ es : List Ent, cntE l #[] es = 0
 | [] => rfl
 | x :: r => by
  have : (#[] : Array Nat).contains x.born = false := by simp
  simp only [cntE, this, jN l r]
  rfl
theorem lD (l : Int) (seen : Array Nat) (b : Nat) : ∀ es : List Ent, b ∉ es.map (·.born) → cntE l (seen.push b) es = cntE l seen es
 | [], _ => rfl
 | x :: r, h => by
  have hx : (x.born == b) = false := by
   cases hc : x.born == b with
   | false => rfl
   | true => exact absurd (List.mem_cons.2 (Or.inl (beq_iff_eq.1 hc).symm)) h
  simp only [cntE, contains_push, hx, Bool.or_false, lD l seen b r (fun e => h (List.mem_cons.2 (Or.inr e)))]
theorem jO (l : Int) (seen : Array Nat) (e : Ent) (hs : seen.contains e.born = false) : ∀ es : List Ent, (es.map (·.born)).Nodup → e ∈ es → cntE l (seen.push e.born) es = cntE l seen es + (if e.l = l then 1 else 0)
 | x :: r, hn, he => by
  have hn' : x.born ∉ r.map (·.born) ∧ (r.map (·.born)).Nodup := List.nodup_cons.1 hn
  rcases List.mem_cons.1 he with rfl | h
  ·simp only [cntE, contains_push, hs, beq_self_eq_true, Bool.or_true, true_and, Bool.false_eq_true, false_and, if_false, lD l seen e.born r hn'.1]
   omega
  have hx : (x.born == e.born) = false := by
   cases hc : x.born == e.born with
   | false => rfl
   | true => exact absurd (by rw [beq_iff_eq.1 hc]; exact List.mem_map.2 ⟨e, h, rfl⟩) hn'.1
  simp only [cntE, contains_push, hx, Bool.or_false, jO l seen e hs r hn'.2 h]
  omega
theorem cntE_le (l : Int) (seen : Array Nat) : ∀ es : List Ent, cntE l seen es ≤ es.length
 | [] => Nat.le_refl _
 | x :: r => by
  have := cntE_le l seen r
  simp only [cntE, List.length_cons]
  split <;> omega
def allE (l : Int) (es : List Ent) : Nat := (es.filter fun x => x.l == l).length
theorem cntE_all (l : Int) (seen : Array Nat) : ∀ es : List Ent, (∀ x ∈ es, seen.contains x.born = true) → cntE l seen es = allE l es
 | [], _ => rfl
 | x :: r, h => by
  have ih := cntE_all l seen r fun y hy => h y (List.mem_cons.2 (Or.inr hy))
  unfold allE at ih ⊢
  simp only [cntE, h x (List.mem_cons.2 (Or.inl rfl)), true_and, List.filter_cons, ih]
  by_cases e : x.l = l
  ·simp [e]; omega
  simp [e]
theorem zspot : (Tryz.prog.info? 126).bind (·.zero) = some (.agg #[.int .i64 0, .int .i64 0]) := by kernel_rfl
theorem left_mem {es : List Ent} {seen : Array Nat} {e : MapEntry} (h : e ∈ (leftOf (es.map Ent.e).toArray seen).toList) : ∃ x ∈ es, e = x.e ∧ seen.contains x.born = false := by
 obtain ⟨h1, h2⟩ := mem_left h
 simp only [List.mem_map] at h1
 obtain ⟨x, hx, rfl⟩ := h1
 exact ⟨x, hx, rfl, h2⟩
theorem wardHeld_eq {σ w : World} {M : Mm} {p : Nat} {s : WardS} (h : Has σ M w) (hM : IsWard M p s) (l : Int) (hn : (s.held.map (·.born)).Nodup) (hold : ∀ x ∈ s.held, x.born < s.hclk) (hlen : s.held.length ≤ 1000) :
  Calls Tryz.prog 27 #[.pointer (some ⟨p, 0, none⟩), .int .i64 l] w fun r w' => r = .returned (.int .i64 (allE l s.held : Nat)) ∧ Has σ M w' := by
 have hh := hM.held
 have c2 : w.cell? ⟨p, 2, none⟩ = some (.map (some s.hb)) := h.cell hM.obj 2
 unfold zH at hh
 generalize s.held = es at *
 generalize s.hclk = clock at *
 have HN := Lib.hid hn
 have HO := Lib.hid hold
 have HL := Lib.hid hlen
 have RR := kS h hh
 clear hM hn hold hlen
 go_enter Tryz.func27, Tryz.ntmps27
 go_upto_region 5 with (fail)
 clear RR c2
 obtain ⟨M1, hbx, hle, hit, hnit⟩ := h.box (.mapIter (some s.hb) clock #[] clock)
 generalize w.alloc _ = wx at hbx ⊢
 generalize w.heap.size = it at hit hnit ⊢
 clear h
 try clear w
 have h := hbx
 clear hbx
 obtain ⟨w, rfl⟩ : ∃ x : World, x = wx := ⟨_, rfl⟩
 have hb1 := hle _ _ hh
 go_loopw [5] (fun n wr => ∃ (M' : Mm) (seen : Array Nat), Has σ M' wr ∧ M.le M' ∧ M' it = some (.mapIter (some s.hb) clock seen clock) ∧ M' s.hb = some (.map (es.map Ent.e).toArray clock) ∧ n = .int .i64 (cntE l seen es : Nat)) (fun _ w' => (leftOf (es.map Ent.e).toArray (w'.iterSeen it)).size)
 case atStart => exact ⟨M1, #[], h, hle, hit, hb1, by rw [jN]; rfl⟩
 clear h w hit hb1 hle M1 hh
 obtain ⟨w, rfl⟩ : ∃ x : World, x = wr := ⟨_, rfl⟩
 obtain ⟨M', seen, h, hle, hit, hb, rfl⟩ := hrel
 have IS := Lib.hid (sG h hit)
 have law := fun ty => run_next_has h ty hit hb (fun x hx => by
  simp only [List.mem_map] at hx
  obtain ⟨y, hy, rfl⟩ := hx
  exact HO.out y hy) (Nat.le_refl _)
 have cle := cntE_le l seen es
 have hl2 := HL.out
 rcases law 0 with ⟨h0, hrun⟩ | ⟨e, he, w1, h1, hrun⟩
 ·have hnx : ∀ ty, (Instr.next (.pointer (some ⟨it, 0, none⟩)) false ty).run Tryz.prog w = _ := fun _ => hrun
  have HC := Lib.hid (cntE_all l seen es fun x hx => all_seen _ _ h0 x.e (by simp only [List.mem_map]; exact ⟨x, hx, rfl⟩))
  clear law h0 hrun hb hit cle hl2
  go_wp2
  go_ret
  exact ⟨by rw [HC.out]; rfl, h.le hle⟩
 obtain ⟨x, hx, rfl, hs⟩ := left_mem he
 have hnx : ∀ ty, (Instr.next (.pointer (some ⟨it, 0, none⟩)) false ty).run Tryz.prog w = .ok (.tuple #[.bool true, .agg #[.int .i64 x.l, .int .i64 x.s], .int .i64 x.v]) w1 := fun _ => hrun
 have SH := Lib.hid (left_shrinks _ _ _ he)
 have hit1 := Mm.upd_same M' it (.mapIter (some s.hb) clock (seen.push x.e.born) clock)
 have hne : s.hb ≠ it := fun e => by rw [e, hit] at hb; cases hb
 have hb1 : (M'.upd it (.mapIter (some s.hb) clock (seen.push x.e.born) clock)) s.hb = some (.map (es.map Ent.e).toArray clock) := (Mm.upd_ne hne).trans hb
 have hen : (Instr.entry (.pointer (some ⟨it, 0, none⟩))).run Tryz.prog w1 = .ok (.tuple #[.agg #[.int .i64 x.l, .int .i64 x.s], .int .i64 x.v]) w1 := kR h1 hit1 hb1 (by simp only [List.mem_map]; exact ⟨x, hx, rfl⟩) (by simpa [List.map_map, Function.comp_def, Ent.e] using HN.out)
 have CP := Lib.hid (jO l seen x hs es HN.out hx)
 have hle1 : M.le (M'.upd it (.mapIter (some s.hb) clock (seen.push x.e.born) clock)) := Mm.le_upd hle hnit _
 clear law hrun he hb hs hit hle
 generalize M'.upd it _ = M2 at h1 hit1 hb1 hle1
 go_upto_region 6 with (fail)
 clear hnx h
 have h := h1
 clear h1
 go_upto_region 7 with (first
  | ((with_reducible show wpList _ _ _ (⟨_, .alloc 126, _, _, _, _⟩ :: _) _ _); refine zK h rfl 126 rfl _ zspot ?_; clear h; intro bx w h hnx; try simp only [Act.put, qD, qE, qF])
  | ((with_reducible show wpList _ _ _ (⟨_, .store 126 _ _, _, _, _, _⟩ :: _) _ _); refine zP (cells := #[.int .i64 x.l, .int .i64 x.s]) h rfl 126 _ _ rfl rfl rfl (Mm.upd_same _ _ _) rfl rfl rfl (by kernel_rfl) rfl ?_; clear h; intro w h))
 rw [Mm.upd_upd] at h
 have hit2 := Mm.upd_of (o := .cells #[.int .i64 x.l, .int .i64 x.s] 126) hnx hit1
 have hb2 := Mm.upd_of (o := .cells #[.int .i64 x.l, .int .i64 x.s] 126) hnx hb1
 have hbx := Mm.upd_same M2 bx (.cells #[.int .i64 x.l, .int .i64 x.s] 126)
 have hle2 : M.le (M2.upd bx (.cells #[.int .i64 x.l, .int .i64 x.s] 126)) := Mm.le_trans hle1 (Mm.le_upd' hnx _)
 clear hen hit1 hb1 hle1 hnx
 generalize M2.upd bx _ = M3 at h hit2 hb2 hbx hle2
 have d0 : (#[.int .i64 x.l, .int .i64 x.s] : Array Value)[0]? = some (.int .i64 x.l) := rfl
 by_cases hxl : x.l = l
 ·rw [if_pos hxl] at CP
  replace d0 : (#[.int .i64 x.l, .int .i64 x.s] : Array Value)[0]? = some (.int .i64 l) := by rw [hxl]; rfl
  clear hxl
  go_wp2_with (first
   | (with_reducible show wpList _ _ _ (⟨_, .load 3 _, _, _, _, _⟩ :: _) _ _; refine zZ h rfl 3 _ rfl rfl hbx d0 Tryz.underlying3 rfl ?_))
  go_roundw
  case rel => exact ⟨M3, seen.push x.e.born, h, hle2, hit2, hb2, by rw [show cntE l (seen.push x.e.born) es = cntE l seen es + 1 from CP.out]; go_num⟩
  case measure => rw [sG h hit2, IS.out]; exact SH.out
 rw [if_neg hxl] at CP
 have hxb : (x.l == l) = false := beq_eq_false_iff_ne.2 hxl
 clear hxl
 go_wp2_with (first
  | (with_reducible show wpList _ _ _ (⟨_, .load 3 _, _, _, _, _⟩ :: _) _ _; refine zZ h rfl 3 _ rfl rfl hbx d0 Tryz.underlying3 rfl ?_))
 go_roundw
 case rel => exact ⟨M3, seen.push x.e.born, h, hle2, hit2, hb2, by rw [show cntE l (seen.push x.e.born) es = cntE l seen es + 0 from CP.out]; rfl⟩
 case measure => rw [sG h hit2, IS.out]; exact SH.out
end
end
section
open Go.RowKit
theorem nU : ∀ {es : List Ent}, OnceE es → ∀ x ∈ es, valE x.l x.s es = x.v
 | y :: r, h, x, hx => by
  unfold OnceE at h
  simp only [List.map_cons, List.nodup_cons] at h
  unfold valE
  rcases List.mem_cons.1 hx with e | hx
  ·subst e; simp
  have hne : (x.l == y.l && x.s == y.s) = false := by
   cases e : (x.l == y.l && x.s == y.s) with
   | false => rfl
   | true =>
    simp only [Bool.and_eq_true, beq_iff_eq] at e
    exact absurd (List.mem_map.2 ⟨x, hx, by rw [e.1, e.2]⟩) h.1
  rw [hne]
  simp only [Bool.false_eq_true, if_false]
  exact nU h.2 x hx
theorem nS {l t : Int} : ∀ {es : List Ent}, valE l t es ≠ 0 → ∃ x ∈ es, x.l = l ∧ x.s = t
 | [], h => absurd rfl h
 | y :: r, h => by
  unfold valE at h
  split at h
  ·next e =>
   simp only [Bool.and_eq_true, beq_iff_eq] at e
   exact ⟨y, List.mem_cons_self, e.1.symm, e.2.symm⟩
  obtain ⟨x, hx, e⟩ := nS h
  exact ⟨x, List.mem_cons_of_mem _ hx, e⟩
def mF (held : Nat → Bool) (S : Nat) : Nat := ((List.range S).filter fun i => held (i + 1)).length
theorem allE_held {lv sl : Int} {es : List Ent} {held : Nat → Bool} {l S : Nat} (hk : KeysE lv sl es) (ho : OnceE es) (hS : sl = (S : Nat)) (hl : (l : Int) < lv) (hh : ∀ i : Nat, 1 ≤ i → (i : Int) ≤ sl → valE (l : Nat) (i : Nat) es = if held i then 1 else 0) : allE (l : Nat) es = mF held S := by
 unfold allE mF
 have e1 : (es.filter fun x => x.l == (l : Int)).length = ((es.filter fun x => x.l == (l : Int)).map fun x => (x.s - 1).toNat).length := by rw [List.length_map]
 rw [e1]
 refine List.Perm.length_eq ((List.perm_ext_iff_of_nodup ?_ ?_).2 fun i => ?_)
 ·have hn : ((es.filter fun x => x.l == (l : Int)).map fun x => (x.l, x.s)).Nodup := List.Nodup.sublist (List.Sublist.map _ List.filter_sublist) ho
  rw [List.nodup_iff_pairwise_ne, List.pairwise_map] at hn ⊢
  refine List.Pairwise.imp_of_mem (fun {a b} ha hb hab e => hab ?_) hn
  obtain ⟨ha, ea⟩ := List.mem_filter.1 ha
  obtain ⟨hb, eb⟩ := List.mem_filter.1 hb
  have ka := hk a ha
  have kb := hk b hb
  have ea : a.l = (l : Int) := by simpa using ea
  have eb : b.l = (l : Int) := by simpa using eb
  exact Prod.ext (by rw [ea, eb]) (by show a.s = b.s; omega)
 ·exact List.Nodup.sublist List.filter_sublist List.nodup_range
 rw [List.mem_map, List.mem_filter, List.mem_range]
 constructor
 ·rintro ⟨x, hx, e⟩
  obtain ⟨hx, ex⟩ := List.mem_filter.1 hx
  have kx := hk x hx
  have ex : x.l = (l : Int) := by simpa using ex
  have hv := nU ho x hx
  have hs : x.s = ((i + 1 : Nat) : Int) := by omega
  rw [ex, hs, kx.2.2.2.2, hh (i + 1) (by omega) (by omega)] at hv
  refine ⟨by omega, ?_⟩
  cases hb : held (i + 1) with
  | true => rfl
  | false => rw [hb] at hv; simp at hv
 rintro ⟨hi, hb⟩
 have hv := hh (i + 1) (by omega) (by omega)
 rw [hb] at hv
 obtain ⟨x, hx, e1, e2⟩ := nS (l := (l : Int)) (t := ((i + 1 : Nat) : Int)) (es := es) (by rw [hv]; decide)
 exact ⟨x, List.mem_filter.2 ⟨hx, by simpa using e1⟩, by omega⟩
end
section
open Go.RowKit
theorem nodup_lt {m : Nat} {l : List Nat} (h : l.Nodup) (hl : ∀ x ∈ l, x < m) : l.length ≤ m := by
 have e : l.length = ((List.range m).filter fun x => decide (x ∈ l)).length := List.Perm.length_eq ((List.perm_ext_iff_of_nodup h (List.Nodup.sublist List.filter_sublist List.nodup_range)).2 fun x => by
  rw [List.mem_filter, List.mem_range, decide_eq_true_eq]
  exact ⟨fun hx => ⟨hl x hx, hx⟩, fun hx => hx.2⟩)
 rw [e]
 exact Nat.le_trans (List.length_filter_le _ _) (by simp)
theorem held_eq {σ w : World} {M : Mm} {lab : Nat → Nat} {p n l L B S : Nat} {s : MachS} {c : Nat → Int} {tp : List Nat} {g : GM} (h : Has σ M w) (hM : Mach M lab p s) (hA : AbsM c tp n s g) (hn : Nums c L B S) (hl : l < L) : Calls Tryz.prog 27 #[.pointer (some ⟨s.wp, 0, none⟩), .int .i64 (l : Nat)] w fun r w' => r = .returned (.int .i64 (mF (g.held l) S : Nat)) ∧ Has σ M w' := by
 have e := allE_held (held := g.held l) (l := l) (S := S) hA.ward.keys hA.ward.once hn.slo (by rw [hn.lev]; omega) (fun i h1 h2 => hA.ward.held l i (by rw [hn.lev]; omega) h1 h2)
 have hlen : s.ward.held.length ≤ 1000 := by
  have hk := hA.ward.keys
  have ho := hA.ward.once
  have hl0 := hn.l0
  have hs0 := hn.s0
  rw [hn.lev, hn.slo] at hk
  have hsub : (s.ward.held.map fun x => (x.l.toNat * 64 + x.s.toNat)).Nodup := by
   unfold OnceE at ho
   rw [List.nodup_iff_pairwise_ne, List.pairwise_map] at ho ⊢
   refine List.Pairwise.imp_of_mem (fun {a b} ha hb hab e => hab ?_) ho
   have ka := hk a ha
   have kb := hk b hb
   exact Prod.ext (by show a.l = b.l; omega) (by show a.s = b.s; omega)
  have hle := nodup_lt hsub (m := 320) (fun y hy => by
   obtain ⟨x, hx, rfl⟩ := List.mem_map.1 hy
   have := hk x hx
   omega)
  rw [List.length_map] at hle
  omega
 rw [← e]
 exact wardHeld_eq h hM.ward (l : Nat) hA.ward.hst.2 hA.ward.hst.1 hlen
end
section
open Go.RowKit
theorem uQ (l : Nat) (hl : l < 18446744073709551616) (w : World) : Calls Tryz.prog 35 #[.int .u64 l] w fun r w' => r = .returned (.int .i64 (cutN l 0 8 : Nat)) ∧ w = w' := by
 have C := Lib.hid (yN l 0 8 (by omega) (by omega) (by omega))
 have hx : cutN l 0 8 < 256 := yG l 0 8
 have u0 : IntKind.u64.wrap (l : Int) = (l : Int) := IntWalk.u64_in _ (by omega)
 have u1 : IntKind.i64.wrap ((cutN l 0 8 : Nat) : Int) = ((cutN l 0 8 : Nat) : Int) := IntWalk.i64_in _ (by omega)
 generalize cutN l 0 8 = x at *
 clear hl hx
 go_enter Tryz.func35, Tryz.ntmps35
 go_wp2_with (first
  | (go_at_call 66; refine (C.out _).mono ?_; rintro r w' ⟨rfl, rfl⟩))
 go_ret
 exact ⟨rfl, rfl⟩
theorem nQ (l : Nat) (hl : l < 18446744073709551616) (w : World) : Calls Tryz.prog 19 #[.int .u64 l] w fun r w' => r = .returned (.int .i64 (cutN l 8 32 : Nat)) ∧ w = w' := by
 have C := Lib.hid (yN l 8 32 (by omega) (by omega) (by omega))
 have hx : cutN l 8 32 < 4294967296 := yG l 8 32
 have u0 : IntKind.u64.wrap (l : Int) = (l : Int) := IntWalk.u64_in _ (by omega)
 have u1 : IntKind.i64.wrap ((cutN l 8 32 : Nat) : Int) = ((cutN l 8 32 : Nat) : Int) := IntWalk.i64_in _ (by omega)
 generalize cutN l 8 32 = x at *
 clear hl hx
 go_enter Tryz.func19, Tryz.ntmps19
 go_wp2_with (first
  | (go_at_call 66; refine (C.out _).mono ?_; rintro r w' ⟨rfl, rfl⟩))
 go_ret
 exact ⟨rfl, rfl⟩
theorem kN (l : Nat) (hl : l < 18446744073709551616) (w : World) : Calls Tryz.prog 113 #[.int .u64 l] w fun r w' => r = .returned (.int .u64 (xQ (cutN l 0 8) (cutN l 8 32) : Nat)) ∧ w = w' := by
 have C1 := Lib.hid (uQ l hl)
 have C2 := Lib.hid (nQ l hl)
 have hx : cutN l 0 8 < 256 := yG l 0 8
 have hy : cutN l 8 32 < 4294967296 := yG l 8 32
 have C3 := Lib.hid (sJ (cutN l 0 8) (cutN l 8 32) (by omega) (by omega))
 generalize xQ (cutN l 0 8) (cutN l 8 32) = z at *
 generalize cutN l 0 8 = x at *
 generalize cutN l 8 32 = y at *
 clear hl hx hy
 go_enter Tryz.func113, Tryz.ntmps113
 go_wp2_with (first
  | (go_at_call 35; refine (C1.out _).mono ?_; rintro r w' ⟨rfl, rfl⟩)
  | (go_at_call 19; refine (C2.out _).mono ?_; rintro r w' ⟨rfl, rfl⟩)
  | (go_at_call 65; refine (C3.out _).mono ?_; rintro r w' ⟨rfl, rfl⟩))
 go_ret
 exact ⟨rfl, rfl⟩
theorem kP (l : Nat) (hl : l < 18446744073709551616) (w : World) : Calls Tryz.prog 80 #[.int .u64 l, .int .u64 l] w fun r w' => r = .returned (.bool true) ∧ w = w' := by
 have P := Lib.hid (kN l hl)
 generalize xQ (cutN l 0 8) (cutN l 8 32) = z at *
 have e : ((z : Int) == (z : Int)) = true := by simp
 clear hl
 go_enter Tryz.func80, Tryz.ntmps80
 go_wp2_with (first
  | (go_at_call 113; refine (P.out _).mono ?_; rintro r w' ⟨rfl, rfl⟩))
 go_ret
 exact ⟨rfl, rfl⟩
theorem uM (a g : Nat) : xQ a g = 256 * (g % 4294967296) + a % 256 := by
 unfold xQ setN cutN
 have h1 : a / 2 ^ 0 % 2 ^ 8 / 2 ^ (8 + 32) = 0 := Nat.div_eq_of_lt (by omega)
 rw [h1]
 omega
theorem leads_eq {σ w : World} {M : Mm} {p : Nat} {s : WardS} (h : Has σ M w) (hM : IsWard M p s) (l : Int) (t : Nat) (ht : s.there l t = true) (hsl : s.sl ≤ 60) (hg : 0 ≤ valE l t s.gens ∧ valE l t s.gens < 1000000000) : Calls Tryz.prog 36 #[.pointer (some ⟨p, 0, none⟩), .int .i64 l, .int .u64 (s.link l t)] w fun r w' => r = .returned (.bool (decide (0 < valE l t s.held))) ∧ Has σ M w' := by
 obtain ⟨a1, a2, a3, a4⟩ := WardS.there_iff.1 ht
 obtain ⟨k, hk⟩ : ∃ k : Nat, s.link l t = (k : Int) ∧ k < 18446744073709551616 ∧ cutN k 0 8 = t := by
  unfold WardS.link
  rw [if_pos ht, Int.toNat_natCast]
  refine ⟨_, rfl, ?_, ?_⟩
  ·rw [uM]; omega
  rw [uM]; unfold cutN; omega
 obtain ⟨hk, hk1, hk2⟩ := hk
 rw [hk]
 have SL := Lib.hid (uQ k hk1)
 rw [hk2] at SL
 have SA := Lib.hid (fun (M' : Mm) (w : World) (h : Has σ M' w) => (kP k hk1 w).mono (R' := fun r w' => r = .returned (.bool true) ∧ Has σ M' w') fun r w' hr => ⟨hr.1, hr.2 ▸ h⟩)
 have TH := Lib.hid (fun (M' : Mm) (w : World) (h : Has σ M' w) (hM : IsWard M' p s) => rO h hM l t)
 rw [ht] at TH
 have LK := Lib.hid (fun (M' : Mm) (w : World) (h : Has σ M' w) (hM : IsWard M' p s) => tZ h hM l t (by omega) hg)
 rw [hk] at LK
 have hp := hM.obj
 have hh := hM.held
 have e2 : s.cells[2]? = some (.map (some s.hb)) := rfl
 have HM := Lib.hid hM
 have dx : (#[.int .i64 l, .int .i64 (t : Nat)] : Array Value).extract 0 (0 + 2) = #[.int .i64 l, .int .i64 (t : Nat)] := rfl
 have d1 : (#[.int .i64 l, .int .i64 (t : Nat)] : Array Value)[1]? = some (.int .i64 (t : Nat)) := rfl
 obtain ⟨v, hv⟩ : ∃ v, valE l t s.held = v := ⟨_, rfl⟩
 have HV := Lib.hid hv
 rw [hv]
 unfold yF at TH
 clear hM ht hsl hg hk1 hk2 hk a1 a2 a3 a4 hv
 cases hb : decide (0 < v)
 all_goals
  go_enter Tryz.func36, Tryz.ntmps36
  go_upto_region 2 with (first
   | ((go_at_call 35; refine (SL.out _).mono ?_; rintro r w' ⟨rfl, rfl⟩)))
  obtain ⟨M1, hbx, hle, hbq, hnx⟩ := h.box (.cells #[.int .i64 l, .int .i64 (t : Nat)] 126)
  generalize w.alloc _ = wx at hbx ⊢
  generalize w.heap.size = bx at hbq hnx ⊢
  clear h
  try clear w
  have h := hbx
  clear hbx
  obtain ⟨w, rfl⟩ : ∃ x : World, x = wx := ⟨_, rfl⟩
  replace hp := hle _ _ hp
  replace hh := hle _ _ hh
  have hM1 : IsWard M1 p s := HM.out.le hle
  have TH1 := Lib.hid (fun (w : World) (h : Has σ M1 w) => TH.out M1 w h hM1)
  have LK1 := Lib.hid (fun (w : World) (h : Has σ M1 w) => LK.out M1 w h hM1)
  clear TH LK hM1
  refine zS (Has σ M1) (by kernel_rfl) (by kernel_rfl) h.drew ?_
  clear h
  repeat (first
   | go_big_quiet_skip
   | (go_big_quiet_want; first
    | (refine zL 126 _ rfl rfl hbq dx rfl Tryz.underlying126 rfl (by kernel_rfl) ?_; simp only [Act.put, qD, qE, qF]; go_big_quiet_on)
    | (refine zX 3 _ rfl rfl hbq d1 Tryz.underlying3 rfl ?_; simp only [Act.put, qD, qE, qF]; go_big_quiet_on)
    | (refine zX 128 _ rfl rfl hp e2 Tryz.underlying128 rfl ?_; simp only [Act.put, qD, qE, qF]; go_big_quiet_on)
    | ((refine xG (l := l) (s := t) _ _ rfl rfl rfl hh ?_; rw [HV.out]); simp only [Act.put, qD, qE, qF]; go_big_quiet_on)
    | (go_big_quiet_op; first | go_big_quiet_on | go_big_quiet_call (first | with_reducible exact fun _ => rfl | with_reducible exact TH1.out _ | with_reducible exact LK1.out _ | with_reducible exact SA.out M1 _))))
  refine wpQuiet_nil ?_
  try clear w
  intro w h
  go_wp2
  go_ret
  exact ⟨rfl, h.le hle⟩
end
section
open Go.RowKit
theorem mJ {σ w : World} {M : Mm} (h : Has σ M w) (c : Nat → Int) {L B S : Nat} (hn : Nums c L B S) (k : Nat) (hk : k < L) (i j : Nat) (hi : 1 ≤ i) (hi2 : i ≤ S) (hj : j < 5) : Calls Tryz.prog 110 #[yM c, .int .i64 (k : Nat), .int .i64 (i : Nat), .int .i64 (j : Nat)] w fun r w' => r = .returned (.int .i64 (((k * (18 + B + 6 * S) + (18 + B + S + (i - 1) * 5 + j) : Nat)) : Int)) ∧ Has σ M w' := by
 have r11 : (ints .i64 14 c)[11]? = some (.int .i64 (B : Nat)) := by rw [← hn.lim]; rfl
 have r10 : (ints .i64 14 c)[10]? = some (.int .i64 (S : Nat)) := by rw [← hn.slo]; rfl
 have hb := hn.b0
 have hs := hn.s0
 have hl := hn.l0
 have hm : k * (18 + B + 6 * S) ≤ 4 * (18 + 40 + 6 * 60) := Nat.mul_le_mul (by omega) (by omega)
 have e : (k : Int) * (18 + (B : Int) + 6 * (S : Int)) = ((k * (18 + B + 6 * S) : Nat) : Int) := by push_cast; rfl
 obtain ⟨z, hz⟩ : ∃ z : Nat, k * (18 + B + 6 * S) = z := ⟨_, rfl⟩
 rw [hz] at e hm
 rw [hz]
 have w1 : IntKind.i64.wrap (18 + (B : Int)) = 18 + (B : Int) := IntWalk.i64_in _ (by omega)
 have w2 : IntKind.i64.wrap (6 * (S : Int)) = 6 * (S : Int) := IntWalk.i64_in _ (by omega)
 have w3 : IntKind.i64.wrap (18 + (B : Int) + 6 * (S : Int)) = 18 + (B : Int) + 6 * (S : Int) := IntWalk.i64_in _ (by omega)
 have w4 : IntKind.i64.wrap ((k : Int) * (18 + (B : Int) + 6 * (S : Int))) = (z : Int) := by rw [e]; exact IntWalk.i64_in _ (by omega)
 have w5 : IntKind.i64.wrap ((z : Int) + 18) = (z : Int) + 18 := IntWalk.i64_in _ (by omega)
 have w6 : IntKind.i64.wrap ((z : Int) + 18 + (B : Int)) = (z : Int) + 18 + (B : Int) := IntWalk.i64_in _ (by omega)
 have w7 : IntKind.i64.wrap ((z : Int) + 18 + (B : Int) + (S : Int)) = (z : Int) + 18 + (B : Int) + (S : Int) := IntWalk.i64_in _ (by omega)
 obtain ⟨y, hy⟩ : ∃ y : Nat, i = y + 1 := ⟨i - 1, by omega⟩
 subst hy
 have w8 : IntKind.i64.wrap (((y + 1 : Nat) : Int) - 1) = (y : Int) := by rw [show ((y + 1 : Nat) : Int) - 1 = y by omega]; exact IntWalk.i64_in _ (by omega)
 have w9 : IntKind.i64.wrap (5 * (y : Int)) = 5 * (y : Int) := IntWalk.i64_in _ (by omega)
 have w10 : IntKind.i64.wrap ((z : Int) + 18 + (B : Int) + (S : Int) + 5 * (y : Int)) = (z : Int) + 18 + (B : Int) + (S : Int) + 5 * (y : Int) := IntWalk.i64_in _ (by omega)
 have w11 : IntKind.i64.wrap ((z : Int) + 18 + (B : Int) + (S : Int) + 5 * (y : Int) + (j : Int)) = (z : Int) + 18 + (B : Int) + (S : Int) + 5 * (y : Int) + (j : Int) := IntWalk.i64_in _ (by omega)
 have E : Hid (((z + (18 + B + S + (y + 1 - 1) * 5 + j) : Nat) : Int) = (z : Int) + 18 + (B : Int) + (S : Int) + 5 * (y : Int) + (j : Int)) := Lib.hid (by omega)
 rw [E.out]
 clear hb hs hl hm hn hk E e hz hi hi2 hj
 unfold yM
 generalize ints .i64 14 c = row at r11 r10
 generalize ((y + 1 : Nat) : Int) = iz at *
 go_enter Tryz.func110, Tryz.ntmps110
 go_upto_region 1 with (fail)
 obtain ⟨M1, hbx, hle, hbf, hnf⟩ := h.box (.cells row 24)
 generalize w.alloc _ = wx at hbx ⊢
 generalize w.heap.size = bf at hbf hnf ⊢
 clear h
 try clear w
 have h := hbx
 clear hbx
 obtain ⟨w, rfl⟩ : ∃ x : World, x = wx := ⟨_, rfl⟩
 go_wp2_with (first
  | (with_reducible show wpList _ _ _ (⟨_, .load 3 _, _, _, _, _⟩ :: _) _ _; refine zZ h rfl 3 _ rfl rfl hbf r11 Tryz.underlying3 rfl ?_)
  | (with_reducible show wpList _ _ _ (⟨_, .load 3 _, _, _, _, _⟩ :: _) _ _; refine zZ h rfl 3 _ rfl rfl hbf r10 Tryz.underlying3 rfl ?_))
 go_ret
 exact ⟨rfl, h.le hle⟩
theorem uA {f : Nat → Int} {N k : Nat} (hk : k < N) {v : Int} (hv : f k = v) : (ints .u64 N f)[k]? = some (.int .u64 v) := by rw [yH hk, hv]
end
section

end
section
open Go.RowKit
theorem refClean_eq {σ w : World} {M : Mm} (h : Has σ M w) (c : Nat → Int) {L B S N bw : Nat} {f : Nat → Int} (hn : Nums c L B S) (hb : M bw = some (.cells (ints .u64 N f) 42)) (hN : N = L * (18 + B + 6 * S)) (k : Nat) (hk : k < L) (i : Nat) (h1 : 1 ≤ i) (h2 : i ≤ S) {hd : Nat} (e0 : f (k * (18 + B + 6 * S) + (18 + B + S + (i - 1) * 5)) = (hd : Int)) (hd4 : hd % 4 = 0) (hd64 : hd < 18446744073709551616) (e : ∀ j, 1 ≤ j → j < 5 → f (k * (18 + B + 6 * S) + (18 + B + S + (i - 1) * 5 + j)) = 0) :
  Calls Tryz.prog 74 #[yM c, .slice (some ⟨bw, 0, none⟩) N N, .int .i64 (k : Nat), .int .i64 (i : Nat)] w fun r w' => r = .returned (.bool true) ∧ Has σ M w' := by
 have hx : (ints .i64 14 c).extract 0 (0 + 14) = ints .i64 14 c := rfl
 have hz : (ints .i64 14 c).size = 14 := rfl
 have W0 := Lib.hid (fun (M' : Mm) (w : World) (h : Has σ M' w) => mJ h c hn k hk i 0 h1 h2 (by omega))
 have hb0 := hn.b0
 have hs0 := hn.s0
 have hl0 := hn.l0
 have hm : k * (18 + B + 6 * S) + (18 + B + 6 * S) ≤ L * (18 + B + 6 * S) := by
  have := Nat.mul_le_mul_right (18 + B + 6 * S) (show k + 1 ≤ L by omega)
  rw [Nat.succ_mul] at this
  exact this
 have hm2 : L * (18 + B + 6 * S) ≤ 4 * (18 + 40 + 6 * 60) := Nat.mul_le_mul (by omega) (by omega)
 rw [← hN] at hm hm2
 obtain ⟨a, ha⟩ : ∃ a : Nat, k * (18 + B + 6 * S) + (18 + B + S + (i - 1) * 5 + 0) = a := ⟨_, rfl⟩
 rw [ha] at W0
 have f0 : (ints .u64 N f)[a]? = some (.int .u64 (hd : Int)) := uA (by omega) (by rw [← ha]; exact e0)
 have f1 : (ints .u64 N f)[a + 1]? = some (.int .u64 0) := uA (by omega) (by rw [← ha]; exact e 1 (by omega) (by omega))
 have f2 : (ints .u64 N f)[a + 2]? = some (.int .u64 0) := uA (by omega) (by rw [← ha]; exact e 2 (by omega) (by omega))
 have f3 : (ints .u64 N f)[a + 3]? = some (.int .u64 0) := uA (by omega) (by rw [← ha]; exact e 3 (by omega) (by omega))
 have f4 : (ints .u64 N f)[a + 4]? = some (.int .u64 0) := uA (by omega) (by rw [← ha]; exact e 4 (by omega) (by omega))
 have g0 : decide (0 ≤ (a : Int)) = true := decide_eq_true (by omega)
 have g1 : decide ((a : Int) + 5 ≤ (N : Int)) = true := decide_eq_true (by omega)
 have w1 : IntKind.i64.wrap ((a : Int) + 1) = ((a + 1 : Nat) : Int) := by rw [show (a : Int) + 1 = ((a + 1 : Nat) : Int) by omega]; exact IntWalk.i64_in _ (by omega)
 have w2 : IntKind.i64.wrap ((a : Int) + 2) = ((a + 2 : Nat) : Int) := by rw [show (a : Int) + 2 = ((a + 2 : Nat) : Int) by omega]; exact IntWalk.i64_in _ (by omega)
 have w3 : IntKind.i64.wrap ((a : Int) + 3) = ((a + 3 : Nat) : Int) := by rw [show (a : Int) + 3 = ((a + 3 : Nat) : Int) by omega]; exact IntWalk.i64_in _ (by omega)
 have w4 : IntKind.i64.wrap ((a : Int) + 4) = ((a + 4 : Nat) : Int) := by rw [show (a : Int) + 4 = ((a + 4 : Nat) : Int) by omega]; exact IntWalk.i64_in _ (by omega)
 have w5 : IntKind.i64.wrap ((a : Int) + 5) = (a : Int) + 5 := IntWalk.i64_in _ (by omega)
 have m0 : IntKind.u64.wrap ((hd : Int).tmod 4) = 0 := by rw [Int.tmod_eq_emod_of_nonneg (by omega), show (hd : Int) % 4 = 0 by omega]; rfl
 have m1 : (hd : Int).tmod 4 = 0 := by rw [Int.tmod_eq_emod_of_nonneg (by omega)]; omega
 have l0 : a < N := by omega
 have l1 : a + 1 < N := by omega
 have l2 : a + 2 < N := by omega
 have l3 : a + 3 < N := by omega
 have l4 : a + 4 < N := by omega
 clear hb0 hs0 hl0 hm hm2 ha hn hk hN e0 e hd4 h1 h2
 unfold yM at W0 ⊢
 generalize ints .i64 14 c = row at W0 hx hz ⊢
 generalize ints .u64 N f = wrow at *
 generalize a + 1 = a1 at *
 generalize a + 2 = a2 at *
 generalize a + 3 = a3 at *
 generalize a + 4 = a4 at *
 go_enter Tryz.func74, Tryz.ntmps74
 go_upto_region 1 with (fail)
 obtain ⟨M1, hbx, hle, hbf, hnf⟩ := h.box (.cells row 24)
 generalize w.alloc _ = wx at hbx ⊢
 generalize w.heap.size = bf at hbf hnf ⊢
 clear h
 try clear w
 have h := hbx
 clear hbx
 obtain ⟨w, rfl⟩ : ∃ x : World, x = wx := ⟨_, rfl⟩
 replace hb := hle _ _ hb
 go_wp2_with (first
  | ((with_reducible show wpList _ _ _ (⟨_, .load 24 _, _, _, _, _⟩ :: _) _ _); refine zR h rfl 24 _ rfl rfl hbf hx hz Tryz.underlying24 rfl (by kernel_rfl) ?_; try simp only [Act.put, qD, qE, qF])
  | (go_at_call 110; refine (W0.out _ _ h).mono ?_; clear h; rintro _ w ⟨rfl, h⟩)
  | (with_reducible show wpList _ _ _ (⟨_, .load 42 _, _, _, _, _⟩ :: _) _ _; refine zZ h rfl 42 _ rfl rfl hb f0 Tryz.underlying42 rfl ?_)
  | (with_reducible show wpList _ _ _ (⟨_, .load 42 _, _, _, _, _⟩ :: _) _ _; refine zZ h rfl 42 _ rfl rfl hb f1 Tryz.underlying42 rfl ?_)
  | (with_reducible show wpList _ _ _ (⟨_, .load 42 _, _, _, _, _⟩ :: _) _ _; refine zZ h rfl 42 _ rfl rfl hb f2 Tryz.underlying42 rfl ?_)
  | (with_reducible show wpList _ _ _ (⟨_, .load 42 _, _, _, _, _⟩ :: _) _ _; refine zZ h rfl 42 _ rfl rfl hb f3 Tryz.underlying42 rfl ?_)
  | (with_reducible show wpList _ _ _ (⟨_, .load 42 _, _, _, _, _⟩ :: _) _ _; refine zZ h rfl 42 _ rfl rfl hb f4 Tryz.underlying42 rfl ?_))
 go_ret
 exact ⟨rfl, h.le hle⟩
theorem refWorn_eq {σ w : World} {M : Mm} (h : Has σ M w) (c : Nat → Int) {L B S N bw : Nat} {f : Nat → Int} (hn : Nums c L B S) (hb : M bw = some (.cells (ints .u64 N f) 42)) (hN : N = L * (18 + B + 6 * S)) (k : Nat) (hk : k < L) (i : Nat) (h1 : 1 ≤ i) (h2 : i ≤ S) {hd gens : Nat} (e0 : f (k * (18 + B + 6 * S) + (18 + B + S + (i - 1) * 5)) = (hd : Int)) (hd64 : hd < 18446744073709551616) (hg : c 12 = (gens : Int)) (hg2 : gens < 10000000) :
  Calls Tryz.prog 75 #[yM c, .slice (some ⟨bw, 0, none⟩) N N, .int .i64 (k : Nat), .int .i64 (i : Nat)] w fun r w' => r = .returned (.bool (decide (gens ≤ hd / 4))) ∧ Has σ M w' := by
 have hx : (ints .i64 14 c).extract 0 (0 + 14) = ints .i64 14 c := rfl
 have hz : (ints .i64 14 c).size = 14 := rfl
 have W0 := Lib.hid (fun (M' : Mm) (w : World) (h : Has σ M' w) => mJ h c hn k hk i 0 h1 h2 (by omega))
 have hb0 := hn.b0
 have hs0 := hn.s0
 have hl0 := hn.l0
 have hm : k * (18 + B + 6 * S) + (18 + B + 6 * S) ≤ L * (18 + B + 6 * S) := by
  have := Nat.mul_le_mul_right (18 + B + 6 * S) (show k + 1 ≤ L by omega)
  rw [Nat.succ_mul] at this
  exact this
 have hm2 : L * (18 + B + 6 * S) ≤ 4 * (18 + 40 + 6 * 60) := Nat.mul_le_mul (by omega) (by omega)
 rw [← hN] at hm hm2
 obtain ⟨a, ha⟩ : ∃ a : Nat, k * (18 + B + 6 * S) + (18 + B + S + (i - 1) * 5 + 0) = a := ⟨_, rfl⟩
 rw [ha] at W0
 have f0 : (ints .u64 N f)[a]? = some (.int .u64 (hd : Int)) := uA (by omega) (by rw [← ha]; exact e0)
 have r12 : (ints .i64 14 c)[12]? = some (.int .i64 (gens : Nat)) := by rw [← hg]; rfl
 have g0 : decide (0 ≤ (a : Int)) = true := decide_eq_true (by omega)
 have g1 : decide ((a : Int) < (N : Int)) = true := decide_eq_true (by omega)
 have m1 : (hd : Int).tdiv 4 = ((hd / 4 : Nat) : Int) := by rw [Int.tdiv_eq_ediv_of_nonneg (by omega)]; omega
 have w1 : IntKind.u64.wrap ((hd / 4 : Nat) : Int) = ((hd / 4 : Nat) : Int) := IntWalk.u64_in _ (by omega)
 have w2 : IntKind.u64.wrap ((gens : Nat) : Int) = ((gens : Nat) : Int) := IntWalk.u64_in _ (by omega)
 have l0 : a < N := by omega
 clear hb0 hs0 hl0 hm hm2 ha hn hk hN e0 h1 h2 hg hg2 hd64
 unfold yM at W0 ⊢
 generalize ints .i64 14 c = row at W0 hx hz r12 ⊢
 generalize ints .u64 N f = wrow at *
 generalize hd / 4 = hd4 at *
 go_enter Tryz.func75, Tryz.ntmps75
 go_upto_region 1 with (fail)
 obtain ⟨M1, hbx, hle, hbf, hnf⟩ := h.box (.cells row 24)
 generalize w.alloc _ = wx at hbx ⊢
 generalize w.heap.size = bf at hbf hnf ⊢
 clear h
 try clear w
 have h := hbx
 clear hbx
 obtain ⟨w, rfl⟩ : ∃ x : World, x = wx := ⟨_, rfl⟩
 replace hb := hle _ _ hb
 go_upto_region 2 with (first
  | ((with_reducible show wpList _ _ _ (⟨_, .load 24 _, _, _, _, _⟩ :: _) _ _); refine zR h rfl 24 _ rfl rfl hbf hx hz Tryz.underlying24 rfl (by kernel_rfl) ?_; try simp only [Act.put, qD, qE, qF])
  | (go_at_call 110; refine (W0.out _ _ h).mono ?_; clear h; rintro _ w ⟨rfl, h⟩))
 refine zS (Has σ M1) (by kernel_rfl) (by kernel_rfl) h.drew ?_
 clear h
 repeat (first
  | go_big_quiet_skip
  | (go_big_quiet_want; first
   | (refine zX 42 _ rfl rfl hb f0 Tryz.underlying42 rfl ?_; simp only [Act.put, qD, qE, qF]; go_big_quiet_on)
   | (refine zX 3 _ rfl rfl hbf r12 Tryz.underlying3 rfl ?_; simp only [Act.put, qD, qE, qF]; go_big_quiet_on)
   | (go_big_quiet_op; first | go_big_quiet_on | go_big_quiet_call (first | with_reducible exact fun _ => rfl))))
 refine wpQuiet_nil ?_
 try clear w
 intro w h
 go_wp2
 go_ret
 exact ⟨rfl, h.le hle⟩
def lenV : Value → Nat
 | .slice _ n _ => n
 | _ => 0
theorem jM {lk : Nat → Nat} : ∀ (Q : List Nat) (s : Nat), vX lk s Q → s = Q.getD 0 0 ∧ ∀ k, k < Q.length → 1 ≤ Q.getD k 0 ∧ lk (Q.getD k 0) = Q.getD (k + 1) 0
 | [], s, h => ⟨h, fun k hk => absurd hk (Nat.not_lt_zero _)⟩
 | x :: r, s, h => by
  obtain ⟨h1, h2, h3⟩ := h
  obtain ⟨h4, h5⟩ := jM r _ h3
  refine ⟨h1, fun k hk => ?_⟩
  cases k with
  | zero => exact ⟨h2, by simpa using h4⟩
  | succ k => simpa using h5 k (by simpa using hk)
theorem refChain_eq {σ w : World} {M : Mm} (h : Has σ M w) (c : Nat → Int) {L B S N bw : Nat} {f : Nat → Int} (hn : Nums c L B S) (hb : M bw = some (.cells (ints .u64 N f) 42)) (hN : N = L * (18 + B + 6 * S)) (l : Nat) (hl : l < L) {top : Nat} {lk : Nat → Nat} (e0 : f (l * (18 + B + 6 * S)) = (top : Int)) (e8 : ∀ i, 1 ≤ i → i ≤ S → f (l * (18 + B + 6 * S) + (18 + B + (i - 1))) = (lk i : Int)) (hlk : ∀ i, 1 ≤ i → i ≤ S → lk i ≤ S) {Q : List Nat} (hQ : vX lk (top % 256) Q) (hQS : ∀ x ∈ Q, x ≤ S) (hQl : Q.length ≤ S) :
  Calls Tryz.prog 73 #[yM c, .slice (some ⟨bw, 0, none⟩) N N, .int .i64 (l : Nat)] w fun r w' => ∃ v, r = .returned (.tuple #[v, .bool true]) ∧ Acc σ M w' 3 1 v Q.length (natv Q) := by
 have hx : (ints .i64 14 c).extract 0 (0 + 14) = ints .i64 14 c := rfl
 have hz : (ints .i64 14 c).size = 14 := rfl
 have r0 : (ints .i64 14 c)[0]? = some (.int .i64 (L : Nat)) := by rw [← hn.lev]; rfl
 have r10 : (ints .i64 14 c)[10]? = some (.int .i64 (S : Nat)) := by rw [← hn.slo]; rfl
 have r11 : (ints .i64 14 c)[11]? = some (.int .i64 (B : Nat)) := by rw [← hn.lim]; rfl
 have hb0 := hn.b0
 have hs0 := hn.s0
 have hl0 := hn.l0
 have FL := Lib.hid (fun (M' : Mm) (w : World) (h : Has σ M' w) => tO h c hn L (by omega))
 have Fl := Lib.hid (fun (M' : Mm) (w : World) (h : Has σ M' w) => tO h c hn l (by omega))
 have hm : l * (18 + B + 6 * S) + (18 + B + 6 * S) ≤ L * (18 + B + 6 * S) := by
  have := Nat.mul_le_mul_right (18 + B + 6 * S) (show l + 1 ≤ L by omega)
  rw [Nat.succ_mul] at this
  exact this
 have hm2 : L * (18 + B + 6 * S) ≤ 4 * (18 + 40 + 6 * 60) := Nat.mul_le_mul (by omega) (by omega)
 rw [← hN] at hm hm2 FL
 generalize hfr : l * (18 + B + 6 * S) = fr at *
 have f0 : (ints .u64 N f)[fr]? = some (.int .u64 (top : Int)) := uA (by omega) e0
 have f8 : Hid (∀ i, 1 ≤ i → i ≤ S → (ints .u64 N f)[fr + (18 + B + (i - 1))]? = some (.int .u64 (lk i : Int)) ∧ fr + (18 + B + (i - 1)) < N) := Lib.hid fun i a b => ⟨uA (by omega) (e8 i a b), by omega⟩
 obtain ⟨q0, qk⟩ := jM Q _ hQ
 have QK := Lib.hid qk
 have hq60 : ∀ k, Q.getD k 0 ≤ S := fun k => by
  by_cases hk : k < Q.length
  ·rw [List.getD_eq_getElem?_getD, List.getElem?_eq_getElem hk]; exact hQS _ (List.getElem_mem hk)
  rw [List.getD_eq_getElem?_getD, List.getElem?_eq_none (by omega)]; exact Nat.zero_le _
 have Q60 := Lib.hid hq60
 have HLK := Lib.hid hlk
 have g0 : decide ((l : Int) < 0) = false := decide_eq_false (by omega)
 have g1 : decide ((L : Int) ≤ (l : Int)) = false := decide_eq_false (by omega)
 have g2 : ((N : Int) != (N : Int)) = false := by simp
 have g3 : ¬ L ≤ l := by omega
 have m1 : (top : Int).tmod 256 = ((top % 256 : Nat) : Int) := by rw [Int.tmod_eq_emod_of_nonneg (by omega)]; omega
 have w1 : IntKind.u64.wrap ((top % 256 : Nat) : Int) = ((top % 256 : Nat) : Int) := IntWalk.u64_in _ (by omega)
 have w2 : IntKind.i64.wrap ((top % 256 : Nat) : Int) = ((top % 256 : Nat) : Int) := IntWalk.i64_in _ (by omega)
 have l0 : fr < N := by omega
 have lfr : fr < 2000 := by omega
 have Q0 := Lib.hid q0
 clear e0 e8 hlk hQ hQS hm hm2 hn hN qk hq60 hl hl0 hfr q0
 unfold yM at FL Fl ⊢
 generalize ints .i64 14 c = row at *
 generalize ints .u64 N f = wrow at *
 generalize top % 256 = t0 at *
 go_enter Tryz.func73, Tryz.ntmps73
 go_upto_region 1 with (fail)
 obtain ⟨M1, hbx, hle, hbf, hnf⟩ := h.box (.cells row 24)
 generalize w.alloc _ = wx at hbx ⊢
 generalize w.heap.size = bf at hbf hnf ⊢
 clear h
 try clear w
 have h := hbx
 clear hbx
 obtain ⟨w, rfl⟩ : ∃ x : World, x = wx := ⟨_, rfl⟩
 replace hb := hle _ _ hb
 go_upto_region 4 with (first
  | (with_reducible show wpList _ _ _ (⟨_, .load 3 _, _, _, _, _⟩ :: _) _ _; refine zZ h rfl 3 _ rfl rfl hbf r0 Tryz.underlying3 rfl ?_)
  | ((with_reducible show wpList _ _ _ (⟨_, .load 24 _, _, _, _, _⟩ :: _) _ _); refine zR h rfl 24 _ rfl rfl hbf hx hz Tryz.underlying24 rfl (by kernel_rfl) ?_; try simp only [Act.put, qD, qE, qF])
  | (go_at_call 109; refine (FL.out _ _ h).mono ?_; clear h; rintro _ w ⟨rfl, h⟩))
 clear FL g0 g1 g2 g3 r0
 go_upto_region 6 with (first
  | ((with_reducible show wpList _ _ _ (⟨_, .load 24 _, _, _, _, _⟩ :: _) _ _); refine zR h rfl 24 _ rfl rfl hbf hx hz Tryz.underlying24 rfl (by kernel_rfl) ?_; try simp only [Act.put, qD, qE, qF])
  | (go_at_call 109; refine (Fl.out _ _ h).mono ?_; clear h; rintro _ w ⟨rfl, h⟩)
  | (with_reducible show wpList _ _ _ (⟨_, .load 42 _, _, _, _, _⟩ :: _) _ _; refine zZ h rfl 42 _ rfl rfl hb f0 Tryz.underlying42 rfl ?_))
 clear Fl hx hz f0 m1 w1 w2 l0
 go_loopw [8, 10, 11] (fun v x _ wr => ∃ k : Nat, k ≤ Q.length ∧ x = .int .i64 (Q.getD k 0 : Nat) ∧ Acc σ M1 wr 3 1 v k (natv (Q.take k))) (fun v _ _ _ => Q.length - lenV v)
 case atStart => exact ⟨0, Nat.zero_le _, by rw [Q0.out], Acc.nil h _ _⟩
 clear h w
 obtain ⟨w, rfl⟩ : ∃ x : World, x = wr := ⟨_, rfl⟩
 obtain ⟨k, hk, rfl, M', h, hle2, hown⟩ := hrel
 obtain ⟨A, cap, rfl⟩ := hown.form
 by_cases hlt : k < Q.length
 ·have hq := QK.out k hlt
  have hqS := Q60.out k
  obtain ⟨e8, l8⟩ := f8.out (Q.getD k 0) hq.1 hqS
  rw [hq.2] at e8
  have hn60 := Q60.out (k + 1)
  have T : Hid (natv (Q.take (k + 1)) = natv (Q.take k) ++ [.int .i64 (Q.getD k 0 : Nat)]) := by
   show _ = _
   rw [List.take_succ_eq_append_getElem hlt, List.getD_eq_getElem?_getD, List.getElem?_eq_getElem hlt]
   unfold natv
   rw [List.map_append]
   rfl
  have hq1 := hq.1
  generalize Q.getD k 0 = x at *
  generalize hxn : Q.getD (k + 1) 0 = xn at *
  have HX := Lib.hid hxn
  have c1 : ((x : Int) != 0) = true := by simp; omega
  have c2 : ¬ S < x := by omega
  have c3 : ¬ S < k := by omega
  have c4 : decide ((255 : Int) < (xn : Int)) = false := decide_eq_false (by omega)
  have w3 : IntKind.i64.wrap ((fr : Int) + 18) = (fr : Int) + 18 := IntWalk.i64_in _ (by omega)
  have w4 : IntKind.i64.wrap ((fr : Int) + 18 + (B : Int)) = (fr : Int) + 18 + (B : Int) := IntWalk.i64_in _ (by omega)
  have w5 : IntKind.i64.wrap ((fr : Int) + 18 + (B : Int) + (x : Int)) = (fr : Int) + 18 + (B : Int) + (x : Int) := IntWalk.i64_in _ (by omega)
  have w6 : IntKind.i64.wrap ((fr : Int) + 18 + (B : Int) + (x : Int) - 1) = ((fr + (18 + B + (x - 1)) : Nat) : Int) := by rw [show (fr : Int) + 18 + (B : Int) + (x : Int) - 1 = ((fr + (18 + B + (x - 1)) : Nat) : Int) by omega]; exact IntWalk.i64_in _ (by omega)
  have w7 : IntKind.i64.wrap ((xn : Nat) : Int) = ((xn : Nat) : Int) := IntWalk.i64_in _ (by omega)
  have hb2 := hle2 _ _ hb
  have hbf2 := hle2 _ _ hbf
  have HK := Lib.hid (show k + 1 ≤ Q.length by omega)
  have k60 : k < 60 := by omega
  clear hq hqS hn60 hq1 hlt hk hxn
  generalize fr + (18 + B + (x - 1)) = ax at *
  go_upto_region 9 with (first
   | (with_reducible show wpList _ _ _ (⟨_, .load 3 _, _, _, _, _⟩ :: _) _ _; refine zZ h rfl 3 _ rfl rfl hbf2 r10 Tryz.underlying3 rfl ?_))
  go_upto_region 10 with (first
   | (at_builtin; refine xH h hle2 rfl _ _ _ rfl rfl Tryz.underlying47 sQ rfl (by omega) rfl hown rfl rfl rfl (by omega) (by omega) ?_; clear h hle2 hown; intro v w hacc))
  obtain ⟨M7, h, hle7, hown⟩ := hacc
  obtain ⟨A7, cap7, rfl⟩ := hown.form
  have hb7 := hle7 _ _ hb
  have hbf7 := hle7 _ _ hbf
  go_wp2_with (first
   | (with_reducible show wpList _ _ _ (⟨_, .load 3 _, _, _, _, _⟩ :: _) _ _; refine zZ h rfl 3 _ rfl rfl hbf7 r11 Tryz.underlying3 rfl ?_)
   | (with_reducible show wpList _ _ _ (⟨_, .load 42 _, _, _, _, _⟩ :: _) _ _; refine zZ h rfl 42 _ rfl rfl hb7 e8 Tryz.underlying42 rfl ?_))
  go_roundw
  case rel => exact ⟨k + 1, HK.out, by rw [HX.out], M7, h, hle7, by rw [T.out]; simpa using hown⟩
  case measure => have := HK.out; simp [lenV]; omega
 obtain rfl : k = Q.length := by omega
 have c1 : ((Q.getD Q.length 0 : Nat) : Int) = 0 := by rw [List.getD_eq_getElem?_getD, List.getElem?_eq_none (Nat.le_refl _)]; rfl
 rw [c1]
 rw [List.take_length] at hown
 clear c1 hlt hk
 go_wp2
 go_ret2
 exact ⟨_, rfl, M', h, Mm.le_trans hle hle2, hown.base fun b hb => Mm.none_of hle hb⟩
end
section
open Go.RowKit
section
variable {c : Nat → Int} {L B S n : Nat} {tp : List Nat} {s : MachS} {g : GM} {z : StG}
theorem mZ (hA : AbsM c tp n s g) (hn : Nums c L B S) {l o : Nat} (hl : l < L) (ho : o < 18 + B + 6 * S) : s.mem.f (l * (18 + B + 6 * S) + o) = (g.w l o : Int) := by
 have := hA.words l o (by rw [hn.lev]; omega) (by rw [hn.sz]; omega)
 rw [hn.sz, Int.toNat_natCast] at this
 exact this
theorem top_m (hA : AbsM c tp n s g) (A : StA B S L g z) (hn : Nums c L B S) {l : Nat} (hl : l < L) : s.mem.f (l * (18 + B + 6 * S)) = ((z.lv l).top : Int) := by
 rw [A.top l hl]
 exact mZ hA hn hl (o := 0) (by omega)
theorem lk_m (hA : AbsM c tp n s g) (A : StA B S L g z) (hn : Nums c L B S) {l i : Nat} (hl : l < L) (h1 : 1 ≤ i) (h2 : i ≤ S) : s.mem.f (l * (18 + B + 6 * S) + (18 + B + (i - 1))) = ((z.lv l).lk i : Int) := by
 rw [A.lk l i hl h1 h2]
 exact mZ hA hn hl (by omega)
theorem hd_m (hA : AbsM c tp n s g) (A : StA B S L g z) (hn : Nums c L B S) {l i : Nat} (hl : l < L) (h1 : 1 ≤ i) (h2 : i ≤ S) : s.mem.f (l * (18 + B + 6 * S) + (18 + B + S + (i - 1) * 5)) = ((z.lv l).hd i : Int) := by
 rw [A.hd l i hl h1 h2]
 exact mZ hA hn hl (by omega)
theorem fld_m (hA : AbsM c tp n s g) (hn : Nums c L B S) {l i j : Nat} (hl : l < L) (h1 : 1 ≤ i) (h2 : i ≤ S) (h4 : j < 5) (hz : g.w l (oNd B S i j) = 0) : s.mem.f (l * (18 + B + 6 * S) + (18 + B + S + (i - 1) * 5 + j)) = 0 := by
 have h := mZ hA hn hl (o := oNd B S i j) (by unfold oNd; omega)
 rw [hz] at h
 exact h
end
def busy (o : Nat → Nat × Nat) : Nat → Nat
 | 0 => 0
 | k + 1 => busy o k + if (o (k + 1)).1 = 1 then 0 else 1
theorem busy_le (o : Nat → Nat × Nat) : ∀ k, busy o k ≤ k
 | 0 => Nat.le_refl _
 | k + 1 => by have := busy_le o k; unfold busy; split <;> omega
theorem busy_len (o : Nat → Nat × Nat) : ∀ k, ((List.range k).filter fun i => (o (i + 1)).1 == 1).length + busy o k = k
 | 0 => rfl
 | k + 1 => by
  have ih := busy_len o k
  rw [List.range_succ, List.filter_append, List.length_append]
  unfold busy
  by_cases h : (o (k + 1)).1 = 1
  ·rw [if_pos h]; simp [h]; omega
  rw [if_neg h]; simp [h]; omega
theorem oD {S : Nat} {o : Nat → Nat × Nat} {Q : List Nat} (hnd : Q.Nodup) (hm : ∀ x, x ∈ Q ↔ 1 ≤ x ∧ x ≤ S ∧ (o x).1 = 1) : Q.length + busy o S = S := by
 have hp : Q.Perm (((List.range S).filter fun i => (o (i + 1)).1 == 1).map (· + 1)) := by
  refine (List.perm_ext_iff_of_nodup hnd ?_).2 fun x => ?_
  ·refine List.Pairwise.map _ (fun a b hab e => hab (by omega)) ((List.nodup_range (n := S)).filter _)
  rw [hm x, List.mem_map]
  constructor
  ·rintro ⟨a, b, d⟩
   exact ⟨x - 1, List.mem_filter.2 ⟨List.mem_range.2 (by omega), by rw [show x - 1 + 1 = x by omega]; simp [d]⟩, by omega⟩
  rintro ⟨y, hy, rfl⟩
  obtain ⟨a, b⟩ := List.mem_filter.1 hy
  have := List.mem_range.1 a
  exact ⟨by omega, by omega, by simpa using b⟩
 rw [hp.length_eq, List.length_map]
 exact busy_len o S
theorem lT (c : Nat → Int) : (ints .i64 14 c).toList.all (·.oneCell') = true := rfl
theorem odd_gm {σ w : World} {M : Mm} {lab : Nat → Nat} {p l n m gens : Nat} {s : MachS} {c : Nat → Int} {tp : List Nat} {g : GM} {z : StG} {o : Nat → Nat × Nat} {Q : List Nat} {L B S : Nat} (h : Has σ M w) (hM : Mach M lab p s) (hA : AbsM c tp n s g) (hn4 : n < 100000) (hn : Nums c L B S) (hg : c 12 = (gens : Nat)) (hl : l < L) (hAA : StA B S L g z) (hV : LvI S gens m (z.lv l) o Q) (hfz : ∀ x ∈ Q, ∀ j, 1 ≤ j → j < 5 → g.w l (oNd B S x j) = 0) (hr : ∀ i, 1 ≤ i → i ≤ S → (o i).1 ≤ 2) :
  Calls Tryz.prog 29 #[.pointer (some ⟨p, 0, none⟩), .int .i64 (l : Nat)] w fun r w' => r = .returned (.int .i64 0) ∧ ∃ M', Has σ M' w' ∧ M.le M' := by
 obtain rfl := hA.cc
 have hb0 := hn.b0
 have hs0 := hn.s0
 have hl0 := hn.l0
 have hN0 := hM.memN
 have hN1 : s.mem.N = L * (18 + B + 6 * S) := by
  have h1 := hM.memN
  rw [hn.lev, hn.sz, ← Int.natCast_mul] at h1
  exact Int.ofNat_inj.1 h1
 have hN2 : L * (18 + B + 6 * S) ≤ 4 * (18 + 40 + 6 * 60) := Nat.mul_le_mul (by omega) (by omega)
 have hgens : gens ≤ 1048576 := by have := hA.may.2.2.2.2.2.2.1; omega
 have PL := Lib.hid (fun (w : World) (h : Has σ M w) => wU h hM)
 have CF := Lib.hid (fun (w : World) (h : Has σ M w) => wR h s.c hM.plan)
 have MK : Hid (∀ M', M.le M' → ∃ lab', Mach M' lab' p s) := Lib.hid fun M' hle => ⟨_, hM.keep (Kp.le hle fun _ => 0) fun _ _ h => h⟩
 have HA := Lib.hid hA
 have HAA := Lib.hid hAA
 have HFZ := Lib.hid hfz
 have HN := Lib.hid hn
 have HV := Lib.hid hV
 have HR := Lib.hid hr
 have HG := Lib.hid hg
 have hlS : (l : Int) < s.c 0 := by rw [hn.lev]; omega
 have HLS := Lib.hid hlS
 have hQ60 : Q.length ≤ 60 := by have := oD hV.nodup hV.mem; omega
 have hx : (ints .i64 14 s.c).extract 0 (0 + 14) = ints .i64 14 s.c := rfl
 have hz : (ints .i64 14 s.c).size = 14 := rfl
 have r10 : (ints .i64 14 s.c)[10]? = some (.int .i64 (S : Nat)) := by rw [← hn.slo]; rfl
 have O14 := lT s.c
 have zconf : (Tryz.prog.info? 24).bind (·.zero) = some (.agg #[.int .i64 0, .int .i64 0, .int .i64 0, .int .i64 0, .int .i64 0, .int .i64 0, .int .i64 0, .int .i64 0, .int .i64 0, .int .i64 0, .int .i64 0, .int .i64 0, .int .i64 0, .int .i64 0]) := by kernel_rfl
 clear hM hA hn hV hr hg hN0 hlS hAA hfz
 have HRW : Hid (∃ row, row = ints .i64 14 s.c) := Lib.hid ⟨_, rfl⟩
 have CHQ : Hid (∀ (M' : Mm) (w : World) (bw : Nat), Has σ M' w → M' bw = some (.cells (ints .u64 s.mem.N s.mem.f) 42) → Calls Tryz.prog 73 #[.agg (ints .i64 14 s.c), .slice (some ⟨bw, 0, none⟩) s.mem.N s.mem.N, .int .i64 (l : Nat)] w fun r w' => ∃ v, r = .returned (.tuple #[v, .bool true]) ∧ Acc σ M' w' 3 1 v Q.length (natv Q)) := Lib.hid fun M' w bw h hb => refChain_eq h s.c HN.out hb hN1 l hl (top_m HA.out HAA.out HN.out hl) (fun i a b => lk_m HA.out HAA.out HN.out hl a b) HV.out.lk (by rw [← slOf_eq]; exact HV.out.chain) (fun x hx => ((HV.out.mem x).1 hx).2.1) (by have := oD HV.out.nodup HV.out.mem; omega)
 have CLQ : Hid (∀ (M' : Mm) (w : World) (bw i : Nat), Has σ M' w → M' bw = some (.cells (ints .u64 s.mem.N s.mem.f) 42) → i ∈ Q → Calls Tryz.prog 74 #[.agg (ints .i64 14 s.c), .slice (some ⟨bw, 0, none⟩) s.mem.N s.mem.N, .int .i64 (l : Nat), .int .i64 (i : Nat)] w fun r w' => r = .returned (.bool true) ∧ Has σ M' w') := Lib.hid fun M' w bw i h hb hi => by
  obtain ⟨a1, a2, a3⟩ := (HV.out.mem i).1 hi
  have a4 := HV.out.off i a1 a2 (.inl a3)
  have a5 := (HV.out.hd i a1 a2).1
  exact refClean_eq h s.c HN.out hb hN1 l hl i a1 a2 (hd_m HA.out HAA.out HN.out hl a1 a2) a4.2.1 (by omega) (fun j h3 h4 => fld_m HA.out HN.out hl a1 a2 h4 (HFZ.out i hi j h3 h4))
 have WOQ : Hid (∀ (M' : Mm) (w : World) (bw i : Nat), Has σ M' w → M' bw = some (.cells (ints .u64 s.mem.N s.mem.f) 42) → 1 ≤ i → i ≤ S → Calls Tryz.prog 75 #[.agg (ints .i64 14 s.c), .slice (some ⟨bw, 0, none⟩) s.mem.N s.mem.N, .int .i64 (l : Nat), .int .i64 (i : Nat)] w fun r w' => r = .returned (.bool (decide (gens ≤ (z.lv l).hd i / 4))) ∧ Has σ M' w') := Lib.hid fun M' w bw i h hb a1 a2 => by
  have a5 := (HV.out.hd i a1 a2).1
  exact refWorn_eq h s.c HN.out hb hN1 l hl i a1 a2 (hd_m HA.out HAA.out HN.out hl a1 a2) (by omega) HG.out (by omega)
 have hWs : Hid (∀ i : Nat, 1 ≤ i → i ≤ S → s.ward.there (l : Nat) (i : Nat) = true) := Lib.hid fun i a b => WardS.there_iff.2 ⟨by omega, by rw [HA.out.ward.lv]; exact HLS.out, by omega, by rw [HA.out.ward.sl, HN.out.slo]; omega⟩
 have LKQ : Hid (∀ (M' : Mm) (w : World) (i : Nat), Has σ M' w → IsWard M' s.wp s.ward → Calls Tryz.prog 18 #[.pointer (some ⟨s.wp, 0, none⟩), .int .i64 (l : Nat), .int .i64 (i : Nat)] w fun r w' => r = .returned (.int .u64 (s.ward.link (l : Nat) (i : Nat))) ∧ Has σ M' w') := Lib.hid fun M' w i h hW => tZ h hW _ _ (by rw [HA.out.ward.sl, HN.out.slo]; omega) (by have := HA.out.ward.gens (l : Nat) (i : Nat); omega)
 have LEQ : Hid (∀ (M' : Mm) (w : World) (i : Nat), Has σ M' w → IsWard M' s.wp s.ward → 1 ≤ i → i ≤ S → Calls Tryz.prog 36 #[.pointer (some ⟨s.wp, 0, none⟩), .int .i64 (l : Nat), .int .u64 (s.ward.link (l : Nat) (i : Nat))] w fun r w' => r = .returned (.bool ((z.lv l).held i)) ∧ Has σ M' w') := Lib.hid fun M' w i h hW a b => by
  have := leads_eq h hW (l : Nat) i (hWs.out i a b) (by rw [HA.out.ward.sl, HN.out.slo]; omega) (by have := HA.out.ward.gens (l : Nat) (i : Nat); omega)
  have e : decide (0 < valE (l : Nat) (i : Nat) s.ward.held) = (z.lv l).held i := by
   rw [HAA.out.held l i hl a b, HA.out.ward.held l i HLS.out a (by rw [HN.out.slo]; omega)]
   cases g.held l i <;> rfl
  rw [e] at this
  exact this
 have hN10 : s.mem.N ≤ 10000 := by omega
 clear hN1 hN2 hWs hgens
 unfold yM at *
 go_enter Tryz.func29, Tryz.ntmps29
 go_upto_region 2 with (first
  | (go_at_call 57; refine (PL.out _ h).mono ?_; clear h; rintro _ w ⟨rfl, h⟩)
  | (go_at_call 58; refine (CF.out _ h).mono ?_; clear h; rintro _ w ⟨rfl, h⟩)
  | ((with_reducible show wpList _ _ _ (⟨_, .alloc 24, _, _, _, _⟩ :: _) _ _); refine zK h rfl 24 rfl _ zconf ?_; clear h; intro bc w h hnc; try simp only [Act.put, qD, qE, qF])
  | ((with_reducible show wpList _ _ _ (⟨_, .store 24 _ _, _, _, _, _⟩ :: _) _ _); refine zP (cells := ints .i64 14 s.c) h rfl 24 _ _ rfl rfl rfl (Mm.upd_same _ _ _) rfl hz.symm rfl (by rw [hz]; kernel_rfl) O14 ?_; clear h; intro w h))
 rw [Mm.upd_upd] at h
 have hle1 := Mm.le_upd' hnc (.cells (ints .i64 14 s.c) 24)
 have hbc := Mm.upd_same M bc (.cells (ints .i64 14 s.c) 24)
 generalize M.upd bc _ = M1 at h hle1 hbc
 clear PL CF O14 hnc
 generalize ints .i64 14 s.c = row at *
 obtain ⟨lab1, hM1⟩ := MK.out M1 hle1
 have ME := Lib.hid (fun (w : World) (h : Has σ M1 w) => yJ h hM1)
 have WO := Lib.hid (fun (w : World) (h : Has σ M1 w) => rG h hM1.mem (by omega))
 have eR : s.mem.row = .cells (ints .u64 s.mem.N s.mem.f) 42 := rfl
 rw [eR] at WO
 generalize s.mem.N = N at *
 generalize s.mem.f = ff at *
 generalize ints .u64 N ff = wrow at *
 clear hM1 eR
 go_upto_region 3 with (first
  | (go_at_call 46; refine (ME.out _ h).mono ?_; clear h; rintro _ w ⟨rfl, h⟩)
  | (go_at_call 47; refine (WO.out _ h).mono ?_; clear h; rintro _ w ⟨bw, M3, rfl, h, hle3, hnw, hbw⟩))
 replace hbc := hle3 _ _ hbc
 have CH := Lib.hid (fun (w : World) (h : Has σ M3 w) => CHQ.out M3 w bw h hbw)
 clear ME WO CHQ hnw
 go_upto_region 4 with (first
  | ((with_reducible show wpList _ _ _ (⟨_, .load 24 _, _, _, _, _⟩ :: _) _ _); refine zR h rfl 24 _ rfl rfl hbc hx hz Tryz.underlying24 rfl (by kernel_rfl) ?_; try simp only [Act.put, qD, qE, qF])
  | (go_at_call 73; refine (CH.out _ h).mono ?_; clear h; rintro _ w ⟨v, rfl, M5, h, hle5, hown⟩))
 clear CH
 replace hbc := hle5 _ _ hbc
 replace hbw := hle5 _ _ hbw
 have hle15 := Mm.le_trans hle1 (Mm.le_trans hle3 hle5)
 obtain ⟨lab5, hM5⟩ := MK.out M5 hle15
 have WD := Lib.hid (fun (w : World) (h : Has σ M5 w) => vF h hM5)
 have hW5 := hM5.ward
 have LK5 := Lib.hid (fun (w : World) (i : Nat) (h : Has σ M5 w) => LKQ.out M5 w i h hW5)
 have LE5 := Lib.hid (fun (w : World) (i : Nat) (h : Has σ M5 w) => LEQ.out M5 w i h hW5)
 have CL5 := Lib.hid (fun (w : World) (i : Nat) (h : Has σ M5 w) => CLQ.out M5 w bw i h hbw)
 have WO5 := Lib.hid (fun (w : World) (i : Nat) (h : Has σ M5 w) => WOQ.out M5 w bw i h hbw)
 have HL5 := Lib.hid hle15
 clear hM5 hW5 LKQ LEQ CLQ WOQ MK hle1 hle3 hle5 hle15 hN10 hbw
 obtain ⟨A, cap, rfl⟩ := hown.form
 have hrd := Lib.hid hown
 clear hown
 have FB := Lib.hid (oD HV.out.nodup HV.out.mem)
 have hql : Q.length = Q.length := rfl
 generalize hqn : Q.length = qn at *
 have QN := Lib.hid hqn
 clear hqn hql
 go_upto_region 8 with (fail)
 go_loopw [10, 11] (fun i _ wr => ∃ j : Nat, j ≤ qn ∧ i = .int .i64 (j : Nat) ∧ Has σ M5 wr) (fun i _ _ => qn - (intOf i).toNat)
 case atStart => exact ⟨0, Nat.zero_le _, rfl, h⟩
 clear h w
 obtain ⟨w, rfl⟩ : ∃ x : World, x = wr := ⟨_, rfl⟩
 obtain ⟨j, hj, rfl, h⟩ := hrel
 by_cases hlt : j < qn
 ·obtain ⟨gb, cc, hvv⟩ := Own.pos hrd.out (by omega)
  cases hvv
  obtain ⟨cur, hgb, hcur⟩ := Own.at_ hrd.out
  obtain ⟨x, hxq⟩ : ∃ x, Q[j]? = some x := ⟨_, List.getElem?_eq_getElem (by rw [QN.out]; exact hlt)⟩
  have hxm : x ∈ Q := List.mem_of_getElem? hxq
  have ex : cur[j]? = some (.int .i64 (x : Nat)) := hcur j _ (by simp [natv, hxq])
  obtain ⟨a1, a2, a3⟩ := (HV.out.mem x).1 hxm
  have a4 := (HV.out.off x a1 a2 (.inl a3)).1
  have LKx := Lib.hid (fun (w : World) (h : Has σ M5 w) => LK5.out w x h)
  have LEx := Lib.hid (fun (w : World) (h : Has σ M5 w) => LE5.out w x h a1 a2)
  rw [a4] at LEx
  have CLx := Lib.hid (fun (w : World) (h : Has σ M5 w) => CL5.out w x h hxm)
  have HC := Lib.hid hcur
  have HXQ := Lib.hid hxq
  clear a1 a2 a3 a4 hxm hcur hxq
  generalize s.ward.link (l : Nat) (x : Nat) = lk at LKx LEx
  go_upto_region 10 with (fail)
  refine zS (Has σ M5) (by kernel_rfl) (by kernel_rfl) h.drew ?_
  clear h
  repeat (first
   | go_big_quiet_skip
   | (go_big_quiet_want; first
    | (refine zX 3 _ rfl rfl hgb ex Tryz.underlying3 rfl ?_; simp only [Act.put, qD, qE, qF]; go_big_quiet_on)
    | (refine zL 24 _ rfl rfl hbc hx hz Tryz.underlying24 rfl (by kernel_rfl) ?_; simp only [Act.put, qD, qE, qF]; go_big_quiet_on)
    | (go_big_quiet_op; first | go_big_quiet_on | go_big_quiet_call (first | with_reducible exact fun _ => rfl | with_reducible exact WD.out _ | with_reducible exact LKx.out _ | with_reducible exact LEx.out _ | with_reducible exact CLx.out _))))
  refine wpQuiet_nil ?_
  try clear w
  intro w h
  go_upto_region 13 with (fail)
  clear LKx LEx CLx
  go_loopw [11] (fun u wr => ∃ k : Nat, k ≤ j ∧ u = .int .i64 (k : Nat) ∧ Has σ M5 wr) (fun u _ => j - (intOf u).toNat)
  case atStart => exact ⟨0, Nat.zero_le _, rfl, h⟩
  clear h w
  obtain ⟨w, rfl⟩ : ∃ x : World, x = wr := ⟨_, rfl⟩
  obtain ⟨k, hk, rfl, h⟩ := hrel
  by_cases hlt2 : k < j
  ·obtain ⟨y, hyq⟩ : ∃ y, Q[k]? = some y := ⟨_, List.getElem?_eq_getElem (by rw [QN.out]; omega)⟩
   have ey : cur[k]? = some (.int .i64 (y : Nat)) := HC.out k _ (by simp [natv, hyq])
   have hyx : ((y : Int) == (x : Int)) = false := by
    have hne : y ≠ x := fun e => by
     have h1 := HV.out.nodup
     have h2 := (List.getElem?_inj (by rw [QN.out]; omega) h1).1 (hyq.trans (by rw [e]; exact HXQ.out.symm))
     omega
    exact beq_eq_false_iff_ne.2 (by omega)
   have HK := Lib.hid hlt2
   clear hlt2 hyq hk
   go_upto_region 15 with (fail)
   refine zS (Has σ M5) (by kernel_rfl) (by kernel_rfl) h.drew ?_
   clear h
   repeat (first
    | go_big_quiet_skip
    | (go_big_quiet_want; first
     | (refine zX 3 _ rfl rfl hgb ey Tryz.underlying3 rfl ?_; simp only [Act.put, qD, qE, qF]; go_big_quiet_on)
     | (refine zX 3 _ rfl rfl hgb ex Tryz.underlying3 rfl ?_; simp only [Act.put, qD, qE, qF]; go_big_quiet_on)
     | (go_big_quiet_op; first | go_big_quiet_on | go_big_quiet_call (first | with_reducible exact fun _ => rfl))))
   refine wpQuiet_nil ?_
   try clear w
   intro w h
   go_wp2
   go_roundw
   case rel => exact ⟨k + 1, by have := HK.out; omega, by go_num, h⟩
   case measure => have := HK.out; simp [intOf]; omega
  obtain rfl : k = j := by omega
  have hlt3 : ¬ k < k := by omega
  clear ex
  go_wp2
  go_roundw
  case rel => exact ⟨k + 1, by omega, by go_num, h⟩
  case measure => simp [intOf]; omega
 obtain rfl : j = qn := by omega
 clear CL5 hlt hj
 have hS60 : S ≤ 60 := by omega
 go_upto_region 18 with (fail)
 go_loopw [9, 12] (fun u v wr => ∃ i : Nat, i ≤ S ∧ u = .int .i64 ((j + busy o i : Nat) : Int) ∧ v = .int .i64 ((i + 1 : Nat) : Int) ∧ Has σ M5 wr) (fun u v _ => S + 1 - (intOf v).toNat)
 case atStart => exact ⟨0, Nat.zero_le _, rfl, rfl, h⟩
 clear h w
 obtain ⟨w, rfl⟩ : ∃ x : World, x = wr := ⟨_, rfl⟩
 obtain ⟨i, hi, rfl, rfl, h⟩ := hrel
 by_cases hlt2 : i < S
 ·have LKx := Lib.hid (fun (w : World) (h : Has σ M5 w) => LK5.out w (i + 1) h)
  have LEx := Lib.hid (fun (w : World) (h : Has σ M5 w) => LE5.out w (i + 1) h (by omega) (by omega))
  have WOx := Lib.hid (fun (w : World) (h : Has σ M5 w) => WO5.out w (i + 1) h (by omega) (by omega))
  have hdl := (HV.out.hd (i + 1) (by omega) (by omega)).1
  have eg : zB ((z.lv l).hd (i + 1)) = (z.lv l).hd (i + 1) / 4 := by rw [genOf_eq]; omega
  have v1 := HV.out.on (i + 1) (by omega) (by omega)
  have v2 := HV.out.off (i + 1) (by omega) (by omega)
  have v3 := HV.out.none (i + 1) (by omega) (by omega)
  have v4 := HR.out (i + 1) (by omega) (by omega)
  rw [eg] at v2 v3
  have hbu := busy_le o i
  have g18 : ((i + 1 : Nat) : Int) ≤ (S : Int) := by omega
  have w1 : IntKind.i64.wrap (((j + busy o i : Nat) : Int) + 1) = ((j + busy o i + 1 : Nat) : Int) := by rw [show (((j + busy o i : Nat) : Int) + 1) = ((j + busy o i + 1 : Nat) : Int) by omega]; exact IntWalk.i64_in _ (by omega)
  have w2 : IntKind.i64.wrap (((i + 1 : Nat) : Int) + 1) = ((i + 1 + 1 : Nat) : Int) := by rw [show (((i + 1 : Nat) : Int) + 1) = ((i + 1 + 1 : Nat) : Int) by omega]; exact IntWalk.i64_in _ (by omega)
  have HI := Lib.hid hlt2
  generalize s.ward.link (l : Nat) ((i + 1 : Nat) : Int) = lk at LKx LEx
  by_cases hf : (o (i + 1)).1 = 1
  ·obtain ⟨q1, q2, q3⟩ := v2 (.inl hf)
   have hbz : Hid (busy o (i + 1) = busy o i) := Lib.hid (by show busy o i + (if (o (i + 1)).1 = 1 then 0 else 1) = _; rw [if_pos hf]; rfl)
   rw [decide_eq_false (by omega : ¬ gens ≤ (z.lv l).hd (i + 1) / 4)] at WOx
   rw [q1] at LEx
   clear v1 v2 v3 v4 q1 q2 q3 hf eg hdl hbu hlt2 hi w1
   generalize hnb : j + busy o i = nb at *
   have HNB := Lib.hid hnb
   clear hnb
   generalize hiz : ((i + 1 : Nat) : Int) = iz at *
   have HIZ := Lib.hid hiz
   clear hiz
   go_wp2_with (first
    | (with_reducible show wpList _ _ _ (⟨_, .load 3 _, _, _, _, _⟩ :: _) _ _; refine zZ h rfl 3 _ rfl rfl hbc r10 Tryz.underlying3 rfl ?_)
    | ((with_reducible show wpList _ _ _ (⟨_, .load 24 _, _, _, _, _⟩ :: _) _ _); refine zR h rfl 24 _ rfl rfl hbc hx hz Tryz.underlying24 rfl (by kernel_rfl) ?_; try simp only [Act.put, qD, qE, qF])
    | (go_at_call 17; refine (WD.out _ h).mono ?_; clear h; rintro _ w ⟨rfl, h⟩)
    | (go_at_call 18; refine (LKx.out _ h).mono ?_; clear h; rintro _ w ⟨rfl, h⟩)
    | (go_at_call 36; refine (LEx.out _ h).mono ?_; clear h; rintro _ w ⟨rfl, h⟩)
    | (go_at_call 75; refine (WOx.out _ h).mono ?_; clear h; rintro _ w ⟨rfl, h⟩))
   go_roundw
   case rel => exact ⟨i + 1, by have := HI.out; omega, by rw [hbz.out, HNB.out], by go_num, h⟩
   case measure => rw [← HIZ.out]; have := HI.out; simp [intOf]; omega
  have hbz : Hid (busy o (i + 1) = busy o i + 1) := Lib.hid (by show busy o i + (if (o (i + 1)).1 = 1 then 0 else 1) = _; rw [if_neg hf])
  cases hh : (z.lv l).held (i + 1)
  ·have q3 : gens ≤ (z.lv l).hd (i + 1) / 4 := by
    rcases (by omega : (o (i + 1)).1 = 0 ∨ (o (i + 1)).1 = 2) with h0 | h0
    ·rcases v3 h0 with h1 | h1
     ·rw [hh] at h1; cases h1
     exact h1
    rw [v1 (.inl h0)] at hh; cases hh
   rw [decide_eq_true q3] at WOx
   rw [hh] at LEx
   clear v1 v2 v3 v4 q3 hf eg hdl hbu hlt2 hi hh
   generalize hnb : j + busy o i = nb at *
   have HNB := Lib.hid hnb
   clear hnb
   generalize hiz : ((i + 1 : Nat) : Int) = iz at *
   have HIZ := Lib.hid hiz
   clear hiz
   go_wp2_with (first
    | (with_reducible show wpList _ _ _ (⟨_, .load 3 _, _, _, _, _⟩ :: _) _ _; refine zZ h rfl 3 _ rfl rfl hbc r10 Tryz.underlying3 rfl ?_)
    | ((with_reducible show wpList _ _ _ (⟨_, .load 24 _, _, _, _, _⟩ :: _) _ _); refine zR h rfl 24 _ rfl rfl hbc hx hz Tryz.underlying24 rfl (by kernel_rfl) ?_; try simp only [Act.put, qD, qE, qF])
    | (go_at_call 17; refine (WD.out _ h).mono ?_; clear h; rintro _ w ⟨rfl, h⟩)
    | (go_at_call 18; refine (LKx.out _ h).mono ?_; clear h; rintro _ w ⟨rfl, h⟩)
    | (go_at_call 36; refine (LEx.out _ h).mono ?_; clear h; rintro _ w ⟨rfl, h⟩)
    | (go_at_call 75; refine (WOx.out _ h).mono ?_; clear h; rintro _ w ⟨rfl, h⟩))
   go_roundw
   case rel => exact ⟨i + 1, by have := HI.out; omega, by rw [hbz.out, ← HNB.out]; exact congrArg (Value.int IntKind.i64) (by omega), by go_num, h⟩
   case measure => rw [← HIZ.out]; have := HI.out; simp [intOf]; omega
  rw [hh] at LEx
  clear v1 v2 v3 v4 hf eg hdl hbu hlt2 hi hh
  generalize hnb : j + busy o i = nb at *
  have HNB := Lib.hid hnb
  clear hnb
  generalize hiz : ((i + 1 : Nat) : Int) = iz at *
  have HIZ := Lib.hid hiz
  clear hiz
  go_wp2_with (first
   | (with_reducible show wpList _ _ _ (⟨_, .load 3 _, _, _, _, _⟩ :: _) _ _; refine zZ h rfl 3 _ rfl rfl hbc r10 Tryz.underlying3 rfl ?_)
   | ((with_reducible show wpList _ _ _ (⟨_, .load 24 _, _, _, _, _⟩ :: _) _ _); refine zR h rfl 24 _ rfl rfl hbc hx hz Tryz.underlying24 rfl (by kernel_rfl) ?_; try simp only [Act.put, qD, qE, qF])
   | (go_at_call 17; refine (WD.out _ h).mono ?_; clear h; rintro _ w ⟨rfl, h⟩)
   | (go_at_call 18; refine (LKx.out _ h).mono ?_; clear h; rintro _ w ⟨rfl, h⟩)
   | (go_at_call 36; refine (LEx.out _ h).mono ?_; clear h; rintro _ w ⟨rfl, h⟩)
   | (go_at_call 75; refine (WOx.out _ h).mono ?_; clear h; rintro _ w ⟨rfl, h⟩))
  go_roundw
  case rel => exact ⟨i + 1, by have := HI.out; omega, by rw [hbz.out, ← HNB.out]; exact congrArg (Value.int IntKind.i64) (by omega), by go_num, h⟩
  case measure => rw [← HIZ.out]; have := HI.out; simp [intOf]; omega
 obtain rfl : i = S := by omega
 have g19 : ¬ ((i + 1 : Nat) : Int) ≤ (i : Int) := by omega
 have g20 : ¬ i + 1 ≤ i := by omega
 have g21 : ((j + busy o i : Nat) : Int) = (i : Int) := by rw [FB.out]
 rw [g21]
 clear g21 WO5 LE5 LK5 WD
 have r10' : row[10]? = some (.int .i64 (i : Nat)) := r10
 go_wp2_with (first
  | (with_reducible show wpList _ _ _ (⟨_, .load 3 _, _, _, _, _⟩ :: _) _ _; refine zZ h rfl 3 _ rfl rfl hbc r10' Tryz.underlying3 rfl ?_))
 go_ret
 exact ⟨rfl, M5, h, HL5.out⟩
end
section
open Go.RowKit
theorem m_told {M : Mm} {lab : Nat → Nat} {p t q n : Nat} {s : MachS} {c : Nat → Int} {tp : List Nat} {g : GM} (hM : Mach M lab p s) (hA : AbsM c tp n s g) (hq : tp[t]? = some q) : ∃ row ty, M q = some (.cells row ty (0, 0)) ∧ row[0]? = some (.int .u64 (g.told t 0 : Nat)) ∧ row[1]? = some (.int .u64 (g.told t 1 : Nat)) := by
 obtain ⟨fv, hv, fbs, hTh⟩ := hM.each t q (by rw [hA.ttp]; exact hq)
 refine ⟨_, _, hTh.obj, ?_, ?_⟩
 ·show some (Value.int .u64 ((s.thr t).told 0)) = _
  rw [hA.thr.told t 0]
 show some (Value.int .u64 ((s.thr t).told 1)) = _
 rw [hA.thr.told t 1]
end
section
open Go.RowKit
theorem HX.count {S : Nat} {hd : Nat → Bool} {H : List Nat} (h : HX S hd H) : mF hd S = H.length := by
 unfold mF
 have hp : (((List.range S).filter fun i => hd (i + 1)).map (· + 1)).Perm H := by
  refine (List.perm_ext_iff_of_nodup ?_ h.nodup).2 fun x => ?_
  ·exact List.Pairwise.map _ (fun a b hab e => hab (by omega)) ((List.nodup_range (n := S)).filter _)
  rw [List.mem_map]
  constructor
  ·rintro ⟨y, hy, rfl⟩
   obtain ⟨a, b⟩ := List.mem_filter.1 hy
   have := List.mem_range.1 a
   exact (h.iff (y + 1) (by omega) (by omega)).1 b
  intro hx
  obtain ⟨a, b⟩ := h.rng x hx
  refine ⟨x - 1, List.mem_filter.2 ⟨List.mem_range.2 (by omega), ?_⟩, by omega⟩
  rw [show x - 1 + 1 = x by omega]
  exact (h.iff x a b).2 hx
 rw [← hp.length_eq, List.length_map]
def e3Ks : List Kd := [some (some .i64), some (some .i64), some (some .u64)]
def exL : Nat → Int := fun i => if i = 0 then 1 else if i = 1 then 1 else if i = 10 then 3 else if i = 11 then 2 else if i = 12 then 9 else 0
theorem oU : zF exL := by decide
theorem sO : Nums exL 1 2 3 := ⟨rfl, rfl, rfl, by omega, by omega, by omega⟩
theorem exL_lev : levT exL 0 = 0 := by decide
section
variable {σ w : World} {K M : Mm} {lab : Nat → Nat} {p q n : Nat} {s : MachS} {tp : List Nat} {g : GM}
theorem lbx_take (h : Has σ M w) (hM : Mach M lab p s) (hB : Base K M lab) (hA : AbsM exL tp n s g) (hn : n ≤ 100) (hq : tp[0]? = some q) (I : LiI 3 2 9 1 1 0 g (fun _ => yB 2 (3 - 1)) (fun _ => List.replicate 2 0) (fun _ => []) (fun _ => 2)) :
  Calls Tryz.prog 14 #[.pointer (some ⟨p, 0, none⟩), .int .i64 0, (.func (.func 15) #[] #[]), .int .i64 9, .int .i64 1, .slice none 0 0] w fun r w' => ∃ (k : Nat) (g2 : GM) (n2 : Nat), r = .returned (.int .i64 (k : Nat)) ∧ n2 ≤ n + 9 ∧ ∃ M' lab' s', Has σ M' w' ∧ Mach M' lab' p s' ∧ Base K M' lab' ∧ AbsM exL tp n2 s' g2 ∧ (fun g2 => LiI 3 2 9 1 1 1 g2 (put1 (fun _ => yB 2 (3 - 1)) 0 [3]) (fun _ => List.replicate 2 0) (put1 (fun _ => []) 0 [2]) (fun _ => 2)) g2 := by
 refine (li_take (t := 0) (m := 0) h hM hB hA oU sO (T := 1) (gens := 9) rfl rfl (by omega) (by omega) (by omega) hq I (most := 9) (by omega) (by omega)).mono ?_
 rw [exL_lev]
 rintro r w' ⟨k, g2, e, k0, k9, M', lab', s', a1, a2, a3, a4, a5⟩
 refine ⟨k, g2, n + k, e, by omega, M', lab', s', a1, a2, a3, a4, ?_⟩
 rcases a5 with ⟨b1, _⟩ | ⟨x, r, b1, _, _, _, _, b2⟩
 ·cases b1
 have e1 : x = 2 ∧ r = [3] := by
  have : ([2, 3] : List Nat) = x :: r := b1
  simp at this; exact ⟨this.1.symm, this.2.symm⟩
 obtain ⟨rfl, rfl⟩ := e1
 exact b2
theorem lbx_rsv (h : Has σ M w) (hM : Mach M lab p s) (hB : Base K M lab) (hA : AbsM exL tp n s g) (hn : n ≤ 100) (hq : tp[0]? = some q) (I : (fun g2 => LiI 3 2 9 1 1 1 g2 (put1 (fun _ => yB 2 (3 - 1)) 0 [3]) (fun _ => List.replicate 2 0) (put1 (fun _ => []) 0 [2]) (fun _ => 2)) g) :
  Calls Tryz.prog 14 #[.pointer (some ⟨p, 0, none⟩), .int .i64 0, (.func (.func 15) #[] #[]), .int .i64 9, .int .i64 20, .slice none 0 0] w fun r w' => ∃ (k : Nat) (g2 : GM) (n2 : Nat), r = .returned (.int .i64 (k : Nat)) ∧ n2 ≤ n + 9 ∧ ∃ M' lab' s', Has σ M' w' ∧ Mach M' lab' p s' ∧ Base K M' lab' ∧ AbsM exL tp n2 s' g2 ∧ g2 = (g.set 0 (18 + 0) (zI 0)).back 0 [] [1, 0] := by
 refine (li_rsv (t := 0) (m := 1) h hM hB hA oU sO (T := 1) (gens := 9) rfl rfl (by omega) (by omega) (by omega) hq I (most := 9) (by omega) (by omega) (by omega)).mono ?_
 rw [exL_lev]
 rintro r w' ⟨k, g2, e, k0, k9, M', lab', s', a1, a2, a3, a4, a5⟩
 refine ⟨k, g2, n + k, e, by omega, M', lab', s', a1, a2, a3, a4, ?_⟩
 rcases a5 with ⟨b1, _⟩ | ⟨j, b1, b2, _, b3⟩
 ·exact absurd rfl (b1 0 (by omega))
 have e0 : j = 0 := by
  by_cases e : j = 0
  ·exact e
  exact absurd rfl (b2 0 (by omega))
 subst e0
 exact b3
theorem lbx_fill (h : Has σ M w) (hM : Mach M lab p s) (hB : Base K M lab) (hA : AbsM exL tp n s ((g.set 0 (18 + 0) (zI 0)).back 0 [] [1, 0])) (hn : n ≤ 100) (hq : tp[0]? = some q) (I : (fun g2 => LiI 3 2 9 1 1 1 g2 (put1 (fun _ => yB 2 (3 - 1)) 0 [3]) (fun _ => List.replicate 2 0) (put1 (fun _ => []) 0 [2]) (fun _ => 2)) g) {b : Nat} (hb : M b = some (.cells #[.int .u64 0, .int .u64 2, .int .u64 0] 42)) :
  Calls Tryz.prog 14 #[.pointer (some ⟨p, 0, none⟩), .int .i64 0, (.func (.func 15) #[] #[]), .int .i64 9, .int .i64 22, .slice (some ⟨b, 0, none⟩) 3 3] w fun r w' => ∃ (k : Nat) (g2 : GM) (n2 : Nat), r = .returned (.int .i64 (k : Nat)) ∧ n2 ≤ n + 9 ∧ ∃ M' lab' s', Has σ M' w' ∧ Mach M' lab' p s' ∧ Base K M' lab' ∧ AbsM exL tp n2 s' g2 ∧ ∃ had, LbX 3 2 9 1 g2 0 [3] [xY 2 0 2, 0] had := by
 have hrd : Rd M 1 (.slice (some ⟨b, 0, none⟩) 3 3) 3 (u64s ([0, 2, 0].map fun u : Nat => (u : Int))) := ⟨rfl, _, _, rfl, Nat.le_refl _, fun _ => ⟨b, 0, _, _, _, rfl, hb, fun j u hu => by simpa [u64s] using hu⟩⟩
 have I' := I
 have hl0 : levT exL 0 = 0 := exL_lev
 refine (li_fill (t := 0) (m := 1) (j := 0) (z := zI 0) (us := [1, 0]) (sl := 2) (gn := 0) (had2 := []) h hM hB (by rw [hl0]; exact hA) oU sO (T := 1) (gens := 9) rfl rfl (by omega) (by omega) (by omega) hq I (most := 9) (by omega) (by omega) (by rfl) (by omega) (by omega) (by rw [hl0]; exact List.Perm.refl _) hrd).mono ?_
 rw [hl0]
 rintro r w' ⟨k, g2, e, k0, k9, M', lab', s', a1, a2, a3, a4, a5⟩
 exact ⟨k, g2, n + k, e, by omega, M', lab', s', a1, a2, a3, a4, _, a5.lv 0 (by omega)⟩
end
theorem ex_what : pU (xY 2 0 2) = #[.int .i64 2, .int .i64 0, .int .u64 2] := by kernel_rfl
theorem lV {σ w : World} {M : Mm} (h : Has σ M w) : Calls Tryz.prog 11 #[] w fun r w' => r = .returned (.bool true) ∧ Has σ M w' := by
 have NW := Lib.hid (fun (w : World) (h : Has σ M w) => lX h exL oU sO)
 have EC : yM exL = .agg #[.int .i64 1, .int .i64 1, .int .i64 0, .int .i64 0, .int .i64 0, .int .i64 0, .int .i64 0, .int .i64 0, .int .i64 0, .int .i64 0, .int .i64 3, .int .i64 2, .int .i64 9, .int .i64 0] := rfl
 rw [EC] at NW
 clear EC
 go_enter Tryz.func11, Tryz.ntmps11
 go_upto_region 2 with (first
  | (go_at_call 9; refine (NW.out _ h).mono ?_; clear h; rintro _ w ⟨p, M1, lab1, s1, rfl, h, hB1, hM1, hN⟩))
 clear NW
 obtain ⟨q, hq0⟩ : ∃ q, s1.tp[0]? = some q := ⟨_, List.getElem?_eq_getElem (by have := hM1.tlen; rw [hN.c] at this; have h2 : exL 1 = 1 := rfl; omega)⟩
 have hA1 := kU sO oU hN hM1.wsz
 have I1 : LiI 3 2 9 1 1 0 (gm0 2 3) (fun _ => yB 2 (3 - 1)) (fun _ => List.replicate 2 0) (fun _ => []) (fun _ => 2) := LiI.first (S := 3) (gens := 9) (by omega) (by omega)
 generalize s1.tp = tp at hA1 hq0
 have HQ := Lib.hid hq0
 have P1 := Lib.hid (fun (w : World) (h : Has σ M1 w) => lbx_take h hM1 hB1 hA1 (by omega) HQ.out I1)
 clear hB1 hM1 hA1 hN hq0 I1
 go_upto_region 3 with (first
  | ((go_at_call 14; (with_reducible refine (P1.out _ h).mono ?_); clear h P1; rintro _ w ⟨k, g2, n2, rfl, hn2, M2, lab2, s2, h, hM2, hB2, hA2, I2⟩; (have P2 := Lib.hid (fun (w : World) (h : Has σ M2 w) => lbx_rsv h hM2 hB2 hA2 (by omega) HQ.out I2)); (have gk1 : decide ((k : Int) < 0) = false := decide_eq_false (by omega)); clear hM2 hB2 hA2)))
 refine (P2.out _ h).mono ?_
 clear h P2
 rintro _ w ⟨k2, g3, n3, rfl, hn3, M3, lab3, s3, h, hM3, hB3, hA3, rfl⟩
 have gk2 : decide ((k2 : Int) < 0) = false := decide_eq_false (by omega)
 obtain ⟨row, ty, hqb, d0, d1⟩ := m_told hM3 hA3 HQ.out
 have TH : Hid (∀ w : World, Has σ M3 w → Calls Tryz.prog 13 #[.pointer (some ⟨p, 0, none⟩), .int .i64 0] w fun r w' => r = .returned (.pointer (some ⟨q, 0, none⟩)) ∧ Has σ M3 w') := Lib.hid fun w h => yT (t := 0) h hM3 (by rw [hA3.ttp]; exact HQ.out)
 replace d0 : row[0]? = some (.int .u64 1) := d0
 replace d1 : row[1]? = some (.int .u64 0) := d1
 go_upto_region 4 with (first
  | (go_at_call 13; refine (TH.out _ h).mono ?_; clear h; rintro _ w ⟨rfl, h⟩)
  | (with_reducible show wpList _ _ _ (⟨_, .load 42 _, _, _, _, _⟩ :: _) _ _; refine zZ h rfl 42 _ rfl rfl hqb d0 Tryz.underlying42 rfl ?_)
  | (with_reducible show wpList _ _ _ (⟨_, .load 42 _, _, _, _, _⟩ :: _) _ _; refine zZ h rfl 42 _ rfl rfl hqb d1 Tryz.underlying42 rfl ?_))
 have I3 := I2
 have HM3 := Lib.hid hM3
 have HB3 := Lib.hid hB3
 have HA3 := Lib.hid hA3
 have HI3 := Lib.hid I2
 have HN3 := Lib.hid (show n3 ≤ 18 by omega)
 clear TH hqb d0 d1 hM3 hB3 hA3 I2 I3 gk1 gk2 hn2 hn3
 go_wp2_with (fail)
 obtain ⟨M4, hbx, hle4, hbl, hnl⟩ := h.box (.cells #[.int .u64 0, .int .u64 2, .int .u64 0] 42)
 generalize w.alloc _ = wx at hbx ⊢
 generalize w.heap.size = bl at hbl hnl ⊢
 clear h
 try clear w
 have h := hbx
 clear hbx
 obtain ⟨w, rfl⟩ : ∃ x : World, x = wx := ⟨_, rfl⟩
 have P3 := Lib.hid (fun (w : World) (h : Has σ M4 w) => lbx_fill h (HM3.out.keep (Kp.le hle4 fun _ => 0) fun _ _ h => h) (HB3.out.keep (Kp.le hle4 fun _ => 0) fun h => h) HA3.out (by have := HN3.out; omega) HQ.out HI3.out hbl)
 clear hbl hle4 hnl
 go_upto_region 6 with (first
  | ((go_at_call 14; (with_reducible refine (P3.out _ h).mono ?_); clear h P3; rintro _ w ⟨k3, g4, n4, rfl, hn4, M5, lab5, s5, h, hM5, hB5, hA5, had, I5⟩; (have gk3 : decide ((k3 : Int) < 0) = false := decide_eq_false (by omega)))))
 have CE := Lib.hid (fun (w : World) (h : Has σ M5 w) => kZ h hM5 hA5 sO (l := 0) (by omega) I5.len I5.w)
 have HB5 := Lib.hid hB5.le
 clear hM5 hB5 hA5 I5 gk3 HM3 HB3 HA3 HI3
 go_upto_region 7 with (first
  | ((go_at_call 26; refine (CE.out _ h).mono ?_; clear h; rintro _ w ⟨v, M6, rfl, h, hle6, hrd⟩)))
 obtain ⟨_, A, cap, rfl, _, hA⟩ := hrd
 obtain ⟨b, o, cs, t, fz, rfl, hb, hx⟩ := hA (by omega)
 have g0 : cs[o]? = some (.int .u64 (xY 2 0 2 : Nat)) := hx 0 _ rfl
 have WT := Lib.hid (fun (w : World) (h : Has σ M6 w) => refWhat_eq h (xY 2 0 2) (cell_lt _ _ _))
 rw [ex_what] at WT
 generalize xY 2 0 2 = x at *
 clear CE hA hx
 have ks : fits e3Ks [.int .i64 2, .int .i64 0, .int .u64 2] := ⟨rfl, rfl, rfl, trivial⟩
 go_wp2_with (first
  | (with_reducible show wpList _ _ _ (⟨_, .load 42 _, _, _, _, _⟩ :: _) _ _; refine zZ h rfl 42 _ rfl rfl hb g0 Tryz.underlying42 rfl ?_)
  | (go_at_call 55; refine (WT.out _ h).mono ?_; clear h; rintro _ w ⟨rfl, h⟩)
  | ((with_reducible show wpList _ _ _ (⟨_, .binOp BinOp.eql 58 _ _ _, _, _, _, _⟩ :: _) _ _); (refine nE rfl 58 _ _ _ rfl (xs := #[.int .i64 2, .int .i64 0, .int .u64 2]) (ys := #[.int .i64 2, .int .i64 0, .int .u64 2]) rfl rfl 10 (by omega) (ks := e3Ks) (by kernel_rfl) rfl (by kernel_rfl) Tryz.underlying58 rfl (by kernel_rfl) ks ks ?_); try simp only [Act.put, qD, qE, qF]))
 go_ret
 exact ⟨rfl, h.le (Mm.le_trans HB5.out hle6)⟩
end
section
theorem nodup_len {S : Nat} {l : List Nat} (h : l.Nodup) (hl : ∀ x ∈ l, 1 ≤ x ∧ x ≤ S) : l.length ≤ S := by
 have e : l.length = ((yB 1 S).filter fun x => decide (x ∈ l)).length := List.Perm.length_eq ((List.perm_ext_iff_of_nodup h (List.Nodup.sublist List.filter_sublist (List.Pairwise.map _ (fun a b hab e => hab (by omega)) (List.nodup_range (n := S))))).2 fun x => by
  rw [List.mem_filter, decide_eq_true_eq]
  refine ⟨fun hx => ⟨List.mem_map.2 ⟨x - 1, List.mem_range.2 (by have := hl x hx; omega), by have := hl x hx; omega⟩, hx⟩, fun hx => hx.2⟩)
 rw [e]
 exact Nat.le_trans (List.length_filter_le _ _) (by simp [yB])
end
section
open Go.RowKit
section
variable {B S gens NL T m t : Nat} {N lev : Nat → Nat} {g g2 : GM} {md : Nat → List Nat}
theorem nO : ∀ C : List Nat, (∀ v ∈ C, yY v ≠ 2) → xL C = []
 | [], _ => rfl
 | a :: R, h => by rw [xU R (h a List.mem_cons_self)]; exact nO R fun v hv => h v (List.mem_cons_of_mem _ hv)
theorem LcI.first (hS : 2 ≤ S) (hg : 1 ≤ gens) : LcI B S gens NL T N lev 0 (gm0 B S) (fun _ => []) := by
 have hz : ∀ l j, j < B → (gm0 B S).w l (18 + j) = 0 := fun l j hj => by
  show (w0 B S S (18 + j)).toNat = 0
  unfold w0
  rw [if_neg (by omega), if_neg (by omega), if_neg (by omega), if_neg (by omega)]; rfl
 refine ⟨g00 S, _, _, _, _, fun _ => false, ⟨ginv_first hS hg, fun l x h => ?_, fun t _ F hF => by cases hF⟩, ⟨⟨fun l _ => rfl, fun l i _ a b => ?_, fun l i _ a b => ?_, fun l i _ a b => rfl⟩, fun l _ x a b j j1 j5 => w0_fld B S x j a j1 j5, fun l hl o o1 o2 => ?_, fun l hl => ?_, fun t _ => .inl ⟨rfl, rfl, rfl⟩, fun l hl j hj => .inl (hz l j hj), fun l hl => ?_⟩, fun l => ⟨rfl, rfl, fun i hi h => ?_⟩, fun l i h => ?_⟩
 ·unfold ow0 at h
  split at h
  ·have h' : 3 ≤ 0 := h; omega
  have h' : 3 ≤ 1 := h; omega
 ·exact (w0_lk B S i a b).symm
 ·exact (w0_nd B S i a).symm
 ·show (w0 B S S o).toNat = 0
  unfold w0
  rw [if_neg (by omega), if_neg (by omega), if_neg (by omega), if_neg (by omega)]; rfl
 ·show (w0 B S S 1).toNat ≤ 2
  unfold w0
  rw [if_pos (by omega)]; decide
 ·rw [nO _ fun v hv => ?_]
  obtain ⟨j, hj, rfl⟩ := List.mem_map.1 hv
  rw [hz l j (List.mem_range.1 hj)]; exact qU
 ·have h' : (ow0 l i).1 = 0 := h
  unfold ow0 at h'
  rw [if_neg hi] at h'; cases h'
 have h' : (ow0 l i).1 = 2 := h
 unfold ow0 at h'
 split at h' <;> cases h'
theorem LcI.begin (h : LcI B S gens NL T N lev m g md) (hT8 : T ≤ 8) (ht : t < T) (hlev : ∀ u, u < T → lev u < NL) (hi : g.thr t = []) {fn : Nat} (hfn : fn = 1 ∨ fn = 12 ∨ (fn = 20 ∧ md t ≠ []) ∨ fn = 23) : LcI B S gens NL T N lev (m + 1) (g.top t [] ⟨fn, 0, fun i => ([] : List Nat).getD i 0⟩) md := by
 obtain ⟨z, L, ow, had, ev, emp, hI, hZ, hK, hH⟩ := h.ex
 obtain ⟨hf, hhad⟩ : z.thr t = none ∧ had t = md t := by
  rcases hZ.thr t ht with ⟨_, a, b⟩ | ⟨_, a, _⟩ | ⟨_, a, _⟩ | ⟨_, _, a, _⟩ | ⟨_, _, a, _⟩
  ·exact ⟨a, b⟩
  all_goals (rw [hi] at a; cases a)
 have hthr : ∀ u, u ≠ t → (g.top t [] ⟨fn, 0, fun i => ([] : List Nat).getD i 0⟩).thr u = g.thr u := fun u hu => zW hu
 have hthrT : (g.top t [] ⟨fn, 0, fun i => ([] : List Nat).getD i 0⟩).thr t = [⟨fn, 0, fun i => ([] : List Nat).getD i 0⟩] := zY _ _ _
 by_cases h1 : fn = 1
 ·subst h1
  exact ⟨_, L, ow, had, ev, _, hI.take (t := t) hf, hZ.self hT8 hthr rfl rfl (fun u hu => zW hu) rfl (Nat.le_succ _) hlev (.inr (.inl ⟨_, hthrT, rfl, zY _ _ _, hhad⟩)), hK, hH⟩
 refine ⟨z, L, ow, had, ev, emp, hI.up, hZ.self hT8 hthr rfl rfl (fun _ _ => rfl) rfl (Nat.le_succ _) hlev (.inr (.inr (.inl ⟨_, hthrT, hf, hhad, ?_⟩))), hK, hH⟩
 rcases hfn with h | h | ⟨h, hm⟩ | h
 ·exact absurd h h1
 ·exact .inl ⟨h, .inl ⟨rfl, rfl⟩⟩
 ·exact .inr (.inl ⟨h, hm, .inl ⟨rfl, Nat.zero_le _⟩⟩)
 exact .inr (.inr (.inr ⟨h, .inl ⟨rfl, rfl, rfl⟩⟩))
theorem AwH.begin {a : AwE} {F : Fr} (h : AwH S NL T B lev g a) (hi : g.thr t = []) : AwH S NL T B lev (g.top t [] F) a :=
 ⟨h.hl, h.x1, h.x2, h.held, h.gen, h.at_.keep (fun u hu => zW hu) (Nat.le_refl _) (fun _ _ _ => .inl rfl) (fun _ _ F' e => by rw [hi] at e; cases e) fun _ _ F' G e => by rw [hi] at e; cases e⟩
theorem LcI.fill (h : LcI B S gens NL T N lev m g md) (hT8 : T ≤ 8) (ht : t < T) (hlev : ∀ u, u < T → lev u < NL) (hi : g.thr t = []) {j x gn : Nat} {r : List Nat} (hj : j < B) (hw : g.w (lev t) (18 + j) = zI t) (hmd : md t = x :: r) (hgn : gn < 4294967296) : LcI B S gens NL T N lev m (g.top t [] ⟨22, 0, fun i => [j, x, gn].getD i 0⟩) (put1 md t r) := by
 obtain ⟨z, L, ow, had, ev, emp, hI, hZ, hK, hH⟩ := h.ex
 obtain ⟨hf, hhad⟩ : z.thr t = none ∧ had t = md t := by
  rcases hZ.thr t ht with ⟨_, a, b⟩ | ⟨_, a, _⟩ | ⟨_, a, _⟩ | ⟨_, _, a, _⟩ | ⟨_, _, a, _⟩
  ·exact ⟨a, b⟩
  all_goals (rw [hi] at a; cases a)
 have hthrT : (g.top t [] ⟨22, 0, fun i => [j, x, gn].getD i 0⟩).thr t = [⟨22, 0, fun i => [j, x, gn].getD i 0⟩] := zY _ _ _
 refine ⟨z, L, ow, had, ev, emp, hI, ?_, hK, hH⟩
 exact hZ.upd hT8 (Nat.le_refl _) (fun u hu => zW hu) (fun _ _ => rfl) ⟨hZ.abs.top, hZ.abs.lk, hZ.abs.hd, hZ.abs.held⟩ (fun _ _ _ => rfl) (fun u hu => zW hu) (fun _ _ _ _ => .inl rfl) (fun l hl => ⟨Nat.le_refl _, hZ.ep l hl⟩) (fun _ _ _ _ _ _ _ _ e => e) hZ.cell hZ.lim hlev (.inr (.inr (.inr (.inl ⟨_, x, hthrT, hf, by rw [hhad, hmd, zY], rfl, hj, hw, rfl, hgn, .inl rfl⟩))))
theorem LcI.rel (h : LcI B S gens NL T N lev m g md) (hT8 : T ≤ 8) (ht : t < T) (hlev : ∀ u, u < T → lev u < NL) (hi : g.thr t = []) {j : Nat} (hj : j < B) (hw : g.w (lev t) (18 + j) = zI t) : LcI B S gens NL T N lev m (g.top t [] ⟨21, 0, fun i => [j].getD i 0⟩) md := by
 obtain ⟨z, L, ow, had, ev, emp, hI, hZ, hK, hH⟩ := h.ex
 obtain ⟨hf, hhad⟩ : z.thr t = none ∧ had t = md t := by
  rcases hZ.thr t ht with ⟨_, a, b⟩ | ⟨_, a, _⟩ | ⟨_, a, _⟩ | ⟨_, _, a, _⟩ | ⟨_, _, a, _⟩
  ·exact ⟨a, b⟩
  all_goals (rw [hi] at a; cases a)
 have hthrT : (g.top t [] ⟨21, 0, fun i => [j].getD i 0⟩).thr t = [⟨21, 0, fun i => [j].getD i 0⟩] := zY _ _ _
 exact ⟨z, L, ow, had, ev, emp, hI, hZ.self hT8 (fun u hu => zW hu) rfl rfl (fun _ _ => rfl) rfl (Nat.le_refl _) hlev (.inr (.inr (.inl ⟨_, hthrT, hf, hhad, .inr (.inr (.inl ⟨rfl, hj, hw⟩))⟩))), hK, hH⟩
theorem LcI.has (h : LcI B S gens NL T N lev m g md) (hT8 : T ≤ 8) (ht : t < T) (hNL : lev t < NL) : (md t).length ≤ S ∧ ∀ x ∈ md t, 1 ≤ x ∧ x ≤ S ∧ g.held (lev t) x = true := by
 obtain ⟨z, L, ow, had, ev, emp, hI, hZ, hK, hH⟩ := h.ex
 have hsub : (∀ x ∈ md t, x ∈ had t) ∧ (md t).length ≤ (had t).length := by
  rcases hZ.thr t ht with ⟨_, _, e⟩ | ⟨_, _, _, _, e⟩ | ⟨_, _, _, e, _⟩ | ⟨_, _, _, _, e, _⟩ | ⟨_, _, _, _, _, e, _⟩
  ·rw [e]; exact ⟨fun x hx => hx, Nat.le_refl _⟩
  ·rw [e]; exact ⟨fun x hx => hx, Nat.le_refl _⟩
  ·rw [e]; exact ⟨fun x hx => hx, Nat.le_refl _⟩
  ·rw [e]; exact ⟨fun x hx => List.mem_cons_of_mem _ hx, by simp⟩
  rw [e]; exact ⟨fun x hx => hx, Nat.le_refl _⟩
 have hd := hI.inv.had t
 have hl : (had t).length ≤ S := nodup_len hd.nodup fun x hx => ⟨(hd.all x hx).1, (hd.all x hx).2.1⟩
 refine ⟨by omega, fun x hx => ?_⟩
 obtain ⟨a, b, c⟩ := hd.all x (hsub.1 x hx)
 rw [vK (by omega)] at c
 refine ⟨a, b, ?_⟩
 rw [← hZ.abs.held _ _ hNL a b]
 exact (hI.inv.lv _ hNL).on x a b (.inl (by rw [c]))
theorem LcI.kinds (h : LcI B S gens NL T N lev m g md) (hT8 : T ≤ 8) {l j : Nat} (hl : l < NL) (hj : j < B) : g.w l (18 + j) < 18446744073709551616 := by
 obtain ⟨z, L, ow, had, ev, emp, hI, hZ, hK, hH⟩ := h.ex
 rcases hZ.cell l hl j hj with e | ⟨u, hu, e⟩ | ⟨e, _⟩
 ·rw [e]; decide
 ·rw [e, sD (by omega)]; omega
 exact e
theorem LcI.len (h : LcI B S gens NL T N lev m g md) (ht : t < T) : (g.thr t).length ≤ 2 := by
 obtain ⟨z, L, ow, had, ev, emp, hI, hZ, hK, hH⟩ := h.ex
 exact (hZ.thr t ht).len
theorem LcI.epoch (h : LcI B S gens NL T N lev m g md) {l : Nat} (hl : l < NL) : g.w l 1 ≤ m + 2 := by
 obtain ⟨z, L, ow, had, ev, emp, hI, hZ, hK, hH⟩ := h.ex
 exact hZ.ep l hl
theorem LcI.mono {m2 : Nat} (h : LcI B S gens NL T N lev m g md) (hm : m ≤ m2) : LcI B S gens NL T N lev m2 g md := by
 obtain ⟨z, L, ow, had, ev, emp, hI, hZ, hK, hH⟩ := h.ex
 have hI2 : CrI S gens NL T (levH lev) m2 z L ow had ev emp := by
  obtain ⟨k, rfl⟩ : ∃ k, m2 = m + k := ⟨m2 - m, by omega⟩
  clear hm h hZ
  induction k with
  | zero => exact hI
  | succ k ih => exact ih.up
 exact ⟨z, L, ow, had, ev, emp, hI2, ⟨hZ.abs, hZ.fz, hZ.act, fun l hl => by have := hZ.ep l hl; omega, hZ.thr, hZ.cell, hZ.lim⟩, hK, hH⟩
theorem AwH.new (h : LcI B S gens NL T N lev m g md) (hT8 : T ≤ 8) (ht : t < T) (hNL : lev t < NL) (hi : g.thr t = []) {j x gn : Nat} {r : List Nat} (hmd : md t = x :: r) : AwH S NL T B lev (g.top t [] ⟨22, 0, fun i => [j, x, gn].getD i 0⟩) ⟨lev t, x, g.wg (lev t) x, g.w (lev t) 1⟩ := by
 obtain ⟨a, b, c⟩ := (h.has hT8 ht hNL).2 x (by rw [hmd]; exact List.mem_cons_self)
 exact ⟨hNL, a, b, c, rfl, .inl ⟨t, _, ht, rfl, zY _ _ _, rfl, rfl, .inl ⟨rfl, Nat.le_refl _⟩⟩⟩
def vW (md : Nat → List Nat) (lev : Nat → Nat) (l : Nat) : Nat → Nat
 | 0 => 0
 | k + 1 => vW md lev l k + if lev k = l then (md k).length else 0
def sM (md : Nat → List Nat) (lev : Nat → Nat) (l : Nat) : Nat → List Nat
 | 0 => []
 | k + 1 => sM md lev l k ++ if lev k = l then md k else []
theorem jH (l : Nat) : ∀ k, (sM md lev l k).length = vW md lev l k
 | 0 => rfl
 | k + 1 => by
  unfold sM vW
  rw [List.length_append, jH l k]
  split <;> rfl
theorem uK {l x : Nat} : ∀ k, x ∈ sM md lev l k ↔ ∃ u, u < k ∧ lev u = l ∧ x ∈ md u
 | 0 => ⟨fun h => (nomatch h), fun ⟨u, h, _⟩ => absurd h (Nat.not_lt_zero _)⟩
 | k + 1 => by
  unfold sM
  rw [List.mem_append, uK k]
  constructor
  ·rintro (⟨u, a, b, c⟩ | h)
   ·exact ⟨u, by omega, b, c⟩
   split at h
   ·next e => exact ⟨k, Nat.lt_succ_self _, e, h⟩
   cases h
  rintro ⟨u, a, b, c⟩
  by_cases e : u = k
  ·subst e; right; rw [if_pos b]; exact c
  exact .inl ⟨u, by omega, b, c⟩
theorem nH {l : Nat} (h1 : ∀ u, lev u = l → (md u).Nodup) (h2 : ∀ u v x, lev u = l → lev v = l → x ∈ md u → x ∈ md v → u = v) : ∀ k, (sM md lev l k).Nodup
 | 0 => List.nodup_nil
 | k + 1 => by
  unfold sM
  refine List.nodup_append.2 ⟨nH h1 h2 k, ?_, fun a ha b hb e => ?_⟩
  ·split
   ·next e => exact h1 k e
   exact List.nodup_nil
  subst e
  obtain ⟨u, x1, x2, x3⟩ := (uK k).1 ha
  split at hb
  ·next e =>
   have := h2 u k a x2 e x3 hb
   omega
  cases hb
theorem LcI.count (h : LcI B S gens NL T N lev m g md) (hS : 2 ≤ S) (hT8 : T ≤ 8) (hr : ∀ t, t < T → g.thr t = []) {l : Nat} (hl : l < NL) : mF (g.held l) S = 1 + vW md lev l T + (xL (cellsOf g B l)).length := by
 obtain ⟨z, L, ow, had, ev, emp, hI, hZ, hK, hH⟩ := h.ex
 have hmd : ∀ t, t < T → z.thr t = none ∧ had t = md t := fun t ht => by
  rcases hZ.thr t ht with ⟨_, a, b⟩ | ⟨_, a, _⟩ | ⟨_, a, _⟩ | ⟨_, _, a, _⟩ | ⟨_, _, a, _⟩
  ·exact ⟨a, b⟩
  all_goals (rw [hr t ht] at a; cases a)
 have hrest := hI.rest fun t ht => (hmd t ht).1
 have hV := hI.inv.lv l hl
 have hhad : ∀ u, u < T → ∀ x ∈ md u, 1 ≤ x ∧ x ≤ S ∧ ow (lev u) x = (2, u) := fun u hu x hx => by
  have := (hI.inv.had u).all x (by rw [(hmd u hu).2]; exact hx)
  rw [vK (by omega)] at this; exact this
 have hlim : ∀ x ∈ had (100 + l), 1 ≤ x ∧ x ≤ S ∧ ow l x = (2, 100 + l) := fun x hx => by
  have := (hI.inv.had (100 + l)).all x hx
  rw [uF] at this; exact this
 obtain ⟨k1, k2, k3⟩ := hK l
 have hmdT : sM (fun u => if u < T then md u else []) lev l T = sM md lev l T := by
  have : ∀ k, k ≤ T → sM (fun u => if u < T then md u else []) lev l k = sM md lev l k := fun k => by
   induction k with
   | zero => intro _; rfl
   | succ k ih =>
    intro hk
    unfold sM
    rw [ih (by omega)]
    show _ ++ (if lev k = l then (if k < T then md k else []) else []) = _
    rw [if_pos (show k < T by omega)]
  exact this T (Nat.le_refl _)
 have H : HX S (g.held l) (1 :: (sM md lev l T ++ had (100 + l))) := by
  refine ⟨List.nodup_cons.2 ⟨fun hm => ?_, List.nodup_append.2 ⟨?_, (hI.inv.had _).nodup, fun a ha b hb e => ?_⟩⟩, fun x hx => ?_, fun i i1 i2 => ?_⟩
  ·rcases List.mem_append.1 hm with hm | hm
   ·obtain ⟨u, a, b, c⟩ := (uK T).1 hm
    have := (hhad u a 1 c).2.2
    rw [b] at this
    rw [this] at k1; cases k1
   have := (hlim 1 hm).2.2
   rw [this] at k1; cases k1
  ·rw [← hmdT]
   refine nH (fun u hu => ?_) (fun u v x hu hv hxu hxv => ?_) T
   ·show (if u < T then md u else []).Nodup
    split
    ·next h => rw [← (hmd u h).2]; exact (hI.inv.had u).nodup
    exact List.nodup_nil
   have hxu : x ∈ (if u < T then md u else []) := hxu
   have hxv : x ∈ (if v < T then md v else []) := hxv
   split at hxu
   ·next h1 =>
    split at hxv
    ·next h2 =>
     have a := (hhad u h1 x hxu).2.2
     have b := (hhad v h2 x hxv).2.2
     rw [hu] at a
     rw [hv, a] at b
     exact congrArg Prod.snd b
    cases hxv
   cases hxu
  ·subst e
   obtain ⟨u, a1, a2, a3⟩ := (uK T).1 ha
   have p := (hhad u a1 a a3).2.2
   have q := (hlim a hb).2.2
   rw [a2, q] at p
   have : 100 + l = u := congrArg Prod.snd p
   omega
  ·rcases List.mem_cons.1 hx with rfl | hx
   ·exact ⟨Nat.le_refl _, by omega⟩
   rcases List.mem_append.1 hx with hx | hx
   ·obtain ⟨u, a, b, c⟩ := (uK T).1 hx
    exact ⟨(hhad u a x c).1, (hhad u a x c).2.1⟩
   exact ⟨(hlim x hx).1, (hlim x hx).2.1⟩
  rw [← hZ.abs.held l i hl i1 i2, List.mem_cons, List.mem_append, uK]
  constructor
  ·intro hh
   by_cases e1 : i = 1
   ·exact .inl e1
   refine .inr ?_
   have c0 : (ow l i).1 ≠ 0 := fun e => by rw [k3 i e1 e] at hh; cases hh
   have c1 : (ow l i).1 ≠ 1 := fun e => by rw [(hV.off i i1 i2 (.inl e)).1] at hh; cases hh
   have c2 : (ow l i).1 = 2 := by have := hrest l i; omega
   obtain ⟨a, b, d⟩ := hH l i c2
   rcases a with a | a
   ·rw [(hmd _ a).2] at d
    rw [vK (by omega)] at b
    exact .inl ⟨_, a, b, d⟩
   have e : (ow l i).2 = 100 + l := by
    unfold levH at b
    rw [if_neg (by omega)] at b
    omega
   rw [e] at d
   exact .inr d
  rintro (rfl | ⟨u, a, b, d⟩ | hx)
  ·exact k2
  ·have p := (hhad u a i d).2.2
   rw [b] at p
   exact hV.on i i1 i2 (.inl (by rw [p]))
  exact hV.on i i1 i2 (.inl (by rw [(hlim i hx).2.2]))
 rw [H.count, List.length_cons, List.length_append, jH, (hZ.lim l hl).length_eq]
 omega
end
section
variable {L B S gens T m t q n : Nat} {c : Nat → Int} {tp : List Nat} {g : GM} {md : Nat → List Nat}
def nThr (c : Nat → Int) (T l : Nat) : Nat := (atC c T l).length
theorem uE (hc : zF c) (hn : Nums c L B S) (hg : c 12 = (gens : Nat)) (hT : c 1 = (T : Nat)) (ha : n < 100000) (hm : m < 100000) (ht : t < T) (hq : tp[t]? = some q) : LcC c tp B S gens L T (nThr c T) (levT c) t q n m := by
 obtain ⟨elv, ll⟩ := uP hc hn hT ht
 obtain ⟨p1, p2, p3⟩ := atC_pos hc hn hT ht
 have hT8 : T ≤ 8 := by have := hc.2.1; omega
 exact ⟨ha, hm, by rw [hT]; omega, hq, elv, by rw [hn.lev]; omega, hn.lim, hn.slo, hg, hT, rfl, ⟨p1, p2⟩, fun y hy => by have := p3 y hy; omega, hn.s0.2, by have h1 := yU hc; have h2 := hn.lim; omega, ht, hT8, ll, fun u hu => (uP hc hn hT hu).2⟩
theorem LcI.pot {NL : Nat} {N lev : Nat → Nat} (h : LcI B S gens NL T N lev m g md) (ht : t < T) (hN : N (lev t) ≤ 8) : 1 ≤ potL B (N (lev t)) (lev t) t g ∧ potL B (N (lev t)) (lev t) t g ≤ 20 * B + 60 := by
 obtain ⟨z, L, ow, had, ev, emp, hI, hZ, hK, hH⟩ := h.ex
 rcases hZ.thr t ht with ⟨h0, _⟩ | ⟨F, h0, h1, _⟩ | ⟨F, h0, _, _, hF⟩ | ⟨F, x, h0, _, _, hF⟩ | ⟨F, G, h0, h2, _, _, _, _, hS⟩
 ·unfold potL
  rw [h0]
  exact ⟨Nat.le_refl _, by show 1 ≤ _; omega⟩
 ·rw [yI h0]
  unfold pot1
  rw [if_pos h1]
  have := pot_pos (g.w (lev t) 0) (frS F)
  have := pot_le (g.w (lev t) 0) (frS F)
  omega
 ·rw [yI h0]
  unfold pot1
  rcases hF with ⟨k, hF⟩ | ⟨k, _, hF⟩ | ⟨k, _⟩ | ⟨k, hF⟩
  ·rw [if_neg (by omega), if_pos k]
   rcases hF with ⟨p, _⟩ | ⟨p, r, _⟩ | ⟨p, _⟩
   ·rw [if_pos p]; omega
   ·rw [if_neg (by omega), if_pos p]; omega
   rw [if_neg (by omega), if_neg (by omega)]; omega
  ·rw [if_neg (by omega), if_neg (by omega), if_pos k]
   rcases hF with ⟨p, r⟩ | ⟨p, r⟩
   ·rw [if_pos p]; omega
   rw [if_neg (by omega)]; omega
  ·rw [if_neg (by omega), if_neg (by omega), if_neg (by omega), if_neg (by omega), if_neg (by omega)]; omega
  rw [if_neg (by omega), if_neg (by omega), if_neg (by omega), if_neg (by omega), if_pos k]
  rcases hF with ⟨p, _⟩ | ⟨p, r, _⟩ | ⟨p, r, _⟩ | ⟨p, r, _⟩
  ·rw [if_pos p]; omega
  ·rw [if_neg (by omega), if_pos p]; omega
  ·rw [if_neg (by omega), if_neg (by omega), if_pos p]; omega
  rw [if_neg (by omega), if_neg (by omega), if_neg (by omega)]; omega
 ·rw [yI h0]
  obtain ⟨k, _, _, _, _, hF⟩ := hF
  unfold pot1
  rw [if_neg (by omega), if_neg (by omega), if_neg (by omega), if_pos k]
  rcases hF with p | ⟨p, _⟩ <;> omega
 rw [rH h0]
 have := pot_pos (g.w (lev t) 0) (frS G)
 have := pot_le (g.w (lev t) 0) (frS G)
 have := hS.1
 omega
end
theorem lc_step {σ w : World} {K M : Mm} {lab : Nat → Nat} {p t q n m L B S T gens : Nat} {c : Nat → Int} {tp : List Nat} {s : MachS} {g : GM} {md : Nat → List Nat} (h : Has σ M w) (hM : Mach M lab p s) (hB : Base K M lab) (hc : zF c) (hn : Nums c L B S) (hg : c 12 = (gens : Nat)) (hT : c 1 = (T : Nat)) (ha : n < 90000) (hm : m < 90000) (ht : t < T) (hq : tp[t]? = some q)
  (hA : AbsM c tp n s g) (hI : LcI B S gens L T (nThr c T) (levT c) m g md) (hfr : g.thr t ≠ []) :
  Calls Tryz.prog 33 #[.pointer (some ⟨p, 0, none⟩), .int .i64 (t : Nat), (.func (.func 15) #[] #[])] w fun r w' => ∃ M' lab' s' g' md' m', r = .returned (.bool (!(g'.thr t).isEmpty)) ∧ Has σ M' w' ∧ Mach M' lab' p s' ∧ Base K M' lab' ∧ AbsM c tp (n + 1) s' g' ∧ m' ≤ m + 1 ∧ LcI B S gens L T (nThr c T) (levT c) m' g' md' ∧ (∀ u, u ≠ t → g'.thr u = g.thr u) ∧ LcO B S (levT c) t g g' md md' ∧ (g'.thr t = [] ∨ potL B (nThr c T (levT c t)) (levT c t) t g' + 1 ≤ potL B (nThr c T (levT c t)) (levT c t) t g)
   ∧ (∀ a, AwH S L T B (levT c) g a → AwH S L T B (levT c) g' a ∨ uC (levT c) t g g' a) ∧ (g'.thr t = [] ∨ botF g' t = botF g t) := by
 have C := uE (gens := gens) (m := m) (n := n) hc hn hg hT (by omega) (by omega) ht hq
 have hlen := hI.len ht
 obtain ⟨g2, md2, m2, hD, h1, h2, h3, h4, h5, h6, h7, h8⟩ := lc_next (σ := σ) (p := p) C hI hfr
 refine (kF h hM hB hA (by omega) C.ht hq C.hl hfr (by omega) (by omega) (by kernel_rfl) hD).mono fun r w' hr => ?_
 obtain ⟨M', lab', s', hr, hw', hM', hB', hA'⟩ := hr
 exact ⟨M', lab', s', g2, md2, m2, hr, hw', hM', hB', hA', h1, h2, h3, h5, h6, h7, h8⟩
theorem lc_odd {σ w : World} {M : Mm} {lab : Nat → Nat} {p n m l L B S T gens : Nat} {c : Nat → Int} {tp : List Nat} {s : MachS} {g : GM} {md : Nat → List Nat} {N : Nat → Nat} (h : Has σ M w) (hM : Mach M lab p s) (hA : AbsM c tp n s g) (hn4 : n < 100000) (hn : Nums c L B S) (hg : c 12 = (gens : Nat)) (hl : l < L) (hI : LcI B S gens L T N (levT c) m g md) (hr : ∀ t, t < T → g.thr t = []) :
  Calls Tryz.prog 29 #[.pointer (some ⟨p, 0, none⟩), .int .i64 (l : Nat)] w fun r w' => r = .returned (.int .i64 0) ∧ ∃ M', Has σ M' w' ∧ M.le M' := by
 obtain ⟨z, Lf, ow, had, ev, emp, hC, hZ, hK, hH⟩ := hI.ex
 have hz : ∀ t, t < T → z.thr t = none := fun t ht => by
  have h0 := hr t ht
  rcases hZ.thr t ht with ⟨_, h, _⟩ | ⟨_, h, _⟩ | ⟨_, h, _⟩ | ⟨_, _, h, _⟩ | ⟨_, _, h, _⟩
  ·exact h
  all_goals (rw [h0] at h; cases h)
 have hV := hC.inv.lv l hl
 refine odd_gm h hM hA hn4 hn hg hl hZ.abs hV (fun x hx j j1 j5 => ?_) fun i _ _ => hC.rest hz l i
 obtain ⟨a, b, d⟩ := (hV.mem x).1 hx
 exact hZ.fz l hl x a b j j1 j5
end
section
open Go.RowKit
def OwnF (M0 M : Mm) (e : TypeId) (v : Value) (n : Nat) (xs : List Value) : Prop :=
 xs.length = n ∧ ((v = .slice none 0 0 ∧ n = 0) ∨ ∃ g o cap cur, v = .slice (some ⟨g, o, none⟩) n cap ∧ M0 g = none ∧ M g = some (.cells cur e (0, 0)) ∧ n ≤ cap ∧ cap ≤ maxLen ∧ o + cap ≤ cur.size ∧ ∀ j u, xs[j]? = some u → cur[o + j]? = some u)
section
variable {P : Program} {σ w : World} {M M' M0 K K' : Mm} {lab lab' labK labK' : Nat → Nat} {A : Nat → Prop} {e : TypeId} {v x : Value} {n p j : Nat} {xs : List Value} {s : MachS}
theorem OwnF.nil (M0 M : Mm) (e : TypeId) : OwnF M0 M e (.slice none 0 0) 0 [] := ⟨rfl, .inl ⟨rfl, rfl⟩⟩
theorem OwnF.of (h : Own M0 M e 1 v n xs) : OwnF M0 M e v n xs := by
 obtain ⟨hl, ⟨hv, h0⟩ | ⟨g, cap, cur, hv, hg, hh, hc, hm, hs, ht⟩⟩ := h
 ·exact ⟨by omega, .inl ⟨hv, h0⟩⟩
 refine ⟨by omega, .inr ⟨g, 0, cap, cur, hv, hg, hh, hc, hm, by omega, fun j u hu => ?_⟩⟩
 rw [← ht, List.getElem?_take] at hu
 split at hu
 ·rw [Nat.zero_add]; simpa using hu
 cases hu
theorem OwnF.rd (h : OwnF M0 M e v n xs) : Rd M 1 v n xs := by
 obtain ⟨hl, ⟨hv, h0⟩ | ⟨g, o, cap, cur, hv, hg, hh, hc, hm, hs, ht⟩⟩ := h
 ·subst h0
  exact ⟨by omega, none, 0, hv, Nat.le_refl _, fun h => absurd h (by omega)⟩
 exact ⟨by omega, _, cap, hv, hc, fun _ => ⟨g, o, cur, e, _, rfl, hh, ht⟩⟩
theorem OwnF.tail {B : Option Addr} {c : Nat} (h : OwnF M0 M e (.slice B (n + 1) c) (n + 1) (x :: xs)) : OwnF M0 M e (sliced B 1 (n + 1) c 1) n xs := by
 obtain ⟨hl, ⟨hv, h0⟩ | ⟨g, o, cap, cur, hv, hg, hh, hc, hm, hs, ht⟩⟩ := h
 ·omega
 cases hv
 refine ⟨by simpa using hl, .inr ?_⟩
 by_cases h1 : c = 1
 ·subst h1
  have h0 : n = 0 := by omega
  subst h0
  have hx : xs = [] := by cases xs with | nil => rfl | cons a r => simp at hl
  subst hx
  exact ⟨g, o, 0, cur, rfl, hg, hh, Nat.le_refl _, Nat.zero_le _, by omega, fun j u hu => by simp at hu⟩
 refine ⟨g, o + 1, c - 1, cur, ?_, hg, hh, by omega, by omega, by omega, fun j u hu => ?_⟩
 ·unfold sliced
  rw [if_neg h1]
  simp [Addr.add_mid]
 rw [show o + 1 + j = o + (j + 1) by omega]
 exact ht (j + 1) u (by simpa using hu)
theorem run_append_ownF (h : Has σ M w) (hle : M0.le M) (t ty : TypeId) {i : TypeInfo} {z : Value} (ht : P.underlying t = some (.slice e)) (hi : P.info? e = some i) (hz : i.zero = some z) (hsize : i.size = 1) (hzs : z.cells.size = 1)
  (hown : OwnF M0 M e v n xs) (hx1 : x.oneCell' = true) {ad : Addr} {c : Nat} (hc : w.cell? ad = some x) (h63 : n + 1 ≤ 1000000) (hby : (n + 1) * i.bytes ≤ 140737488355328) :
  ∃ v' w', (Builtin.append_ #[t, t] ty #[v, .slice (some ad) 1 c]).run P w = .ok v' w' ∧ ∃ M', Has σ M' w' ∧ M0.le M' ∧ OwnF M0 M' e v' (n + 1) (xs ++ [x]) := by
 have hnew : ∀ k u, [x][k]? = some u → w.cell? (ad.add k) = some u := fun k u hu => by
  cases k with
  | zero =>
   have : x = u := by simpa using hu
   subst this
   rw [show ad.add 0 = ad from by cases ad with | mk b o q => cases q <;> rfl]
   exact hc
  | succ k => simp at hu
 obtain ⟨hl, ⟨hv, h0⟩ | ⟨g, o, cap, cur, hv, hg, hh, hnc, hm, hs, hcs⟩⟩ := hown
 ·subst hv h0
  have hxs : xs = [] := List.eq_nil_of_length_eq_zero hl
  subst hxs
  obtain ⟨v', w', hr, M', a1, a2, a3, _⟩ := vZ (P := P) h hle t ty e i z 1 i.bytes ht hi hz hsize rfl hzs (by omega) (Own.nil M0 M e 1) (.slice (some ad) 1 c) (m := 1) (news := [x]) (.inr ⟨_, _, rfl, hnew⟩) rfl (fun u hu => by
   have : u = x := by simpa using hu
   subst this; exact hx1) (by unfold maxLen; omega) (by omega)
  exact ⟨v', w', hr, M', a1, a2, OwnF.of a3⟩
 subst hv
 by_cases hroom : n + 1 ≤ cap
 ·have hlt : o + n < cur.size := by omega
  have hr := run_append_room_cells (P := P) w t ty e i ht hi g o n cap ad 1 c [x] (by rw [hsize]; rfl) hnew (fun u hu => by
   have : u = x := by simpa using hu
   subst this; exact hx1) hroom (fun k hk => by
   have : k = 0 := by simpa using hk
   subst this
   rw [hsize, h.cell hh, Nat.mul_one, Nat.add_zero, Array.getElem?_eq_getElem hlt]; rfl) (fun k hk => h.free hh _)
  have hset : w.setCells g (o + n * i.size) [x] = w.setCell ⟨g, o + n, none⟩ x := by rw [hsize, Nat.mul_one]; rfl
  rw [hset] at hr
  refine ⟨_, _, hr, _, h.setCell hh (o + n) x, Mm.le_upd hle hg _, by simp [hl], .inr ⟨g, o, cap, _, rfl, hg, Mm.upd_same _ _ _, hroom, hm, by simpa using hs, fun k u hu => ?_⟩⟩
  rw [Array.getElem?_setIfInBounds]
  by_cases e1 : k = n
  ·subst e1
   rw [if_pos rfl, if_pos hlt]
   rw [List.getElem?_append_right (by omega), hl, Nat.sub_self] at hu
   simpa using hu
  rw [if_neg (by omega)]
  have hk : k < n := by
   have := (List.getElem?_eq_some_iff.1 hu).1
   simp at this
   omega
  rw [List.getElem?_append_left (by omega)] at hu
  exact hcs k u hu
 obtain ⟨v', w', hr, ho, hgb⟩ := run_append_arg_grows (P := P) w t ty e i z 1 i.bytes ht hi hz hsize rfl hzs (by omega) ⟨g, o, none⟩ n cap xs (by omega) (fun k u hu => by rw [Addr.add_mid, h.cell hh]; exact hcs k u hu) ad 1 c [x] rfl hnew (by omega) (by unfold maxLen; omega) (by omega)
 refine ⟨v', w', hr, ?_⟩
 obtain ⟨hl2, ⟨_, h0⟩ | ⟨g2, cap2, cur2, hv2, hb2, hh2, r2⟩⟩ := ho
 ·omega
 have hne : ∀ b o', M b = some o' → b ≠ g2 := fun b o' hb e1 => by subst e1; exact absurd (h.lt hb) (by omega)
 refine ⟨M.upd g2 (.cells cur2 e), ⟨hgb.os.trans h.os, hgb.tape.trans h.tape, hgb.output.trans h.output, Nat.le_trans h.size hgb.size, fun b o' hb => ?_⟩, fun b o' hb => ?_, OwnF.of ⟨hl2, .inr ⟨g2, cap2, cur2, hv2, ?_, Mm.upd_same _ _ _, r2⟩⟩⟩
 ·by_cases e1 : b = g2
  ·subst e1
   rw [Mm.upd_same] at hb
   cases hb
   exact hh2
  rw [Mm.upd_ne e1] at hb
  rw [hgb.block b (h.lt hb) (by simp)]
  exact h.at_ b o' hb
 ·rw [Mm.upd_ne (hne b o' (hle b o' hb))]
  exact hle b o' hb
 cases hk : M0 g2 with
 | none => rfl
 | some o' => exact absurd rfl (hne g2 o' (hle g2 o' hk))
theorem uR {op : Oper} {a : Act} {ops : Array Oper} {Q : Exit → Act → World → Prop} {KK : Act → World → Prop} {E : Prop} {w1 : World} {e' : TypeId} (h : Has σ M w) (hle : M0.le M) (hg : op.guard = none) (r y : Operand) (t : TypeId)
  (ho : op.op = .call { callee := .builtin .append, args := #[r, y], argTypes := #[t, t] })
  (hww : w1 = w.alloc (.cells #[x] e'))
  {z : Value} {bytes : Nat} (ht : P.underlying t = some (.slice e)) (hi : (P.info? e).map (fun i => (i.zero, i.size, i.bytes)) = some (some z, 1, bytes)) (hzs : z.cells.size = 1)
  (hs : a.eval r = v) (hown : OwnF M0 M e v n xs) (hx : a.eval y = .slice (some ⟨w.heap.size, 0, none⟩) 1 1) (h1 : x.oneCell' = true)
  (h63 : n + 1 ≤ 1000000) (hbytes : (n + 1) * bytes ≤ 140737488355328)
  (hk : ∀ v' w' M', Has σ M' w' → M0.le M' → OwnF M0 M' e v' (n + 1) (xs ++ [x]) → KK (a.put op.dst v') w') : if Region.wanted op (yielded ops a.tmps) = true then Oper.wp P op a w1 KK Q else E := by
 have hw : Region.wanted op (yielded ops a.tmps) = true := by simp [Region.wanted, hg]
 rw [if_pos hw]
 subst hww
 obtain ⟨i, hi1, hz, hsize, hby⟩ := info_parts hi
 have hc : (w.alloc (.cells #[x] e')).cell? ⟨w.heap.size, 0, none⟩ = some x := by
  rw [cell_of_row _ _ 0 #[x] e' (0, 0) (heap_alloc_new w _)]; rfl
 obtain ⟨v', w', hr, M', hH, hl', hO⟩ := run_append_ownF (P := P) (h.quietAlloc (.cells #[x] e')) hle t op.type ht hi1 hz hsize hzs hown h1 (c := 1) hc h63 (by rw [hby]; exact hbytes)
 unfold Oper.wp execOp
 simp only [ho, resolve, invoke, builtin, Sem.run_bind, Sem.run_pure, Result.andThen_ok, List.map_toArray, List.map_cons, List.map_nil, hs, hx, hr]
 exact hk v' w' M' hH hl' hO
def RowF (M : Mm) (lab : Nat → Nat) (k : Nat) (e : TypeId) (v : Value) (n : Nat) (xs : List Value) : Prop := OwnF (M.out lab k) M e v n xs
theorem RowF.nil (M : Mm) (lab : Nat → Nat) (k : Nat) (e : TypeId) : RowF M lab k e (.slice none 0 0) 0 [] := OwnF.nil _ _ _
theorem RowF.tail {B : Option Addr} {c : Nat} (h : RowF M lab j e (.slice B (n + 1) c) (n + 1) (x :: xs)) : RowF M lab j e (sliced B 1 (n + 1) c 1) n xs := OwnF.tail h
theorem RowF.rd (h : RowF M lab j e v n xs) : Rd M 1 v n xs := OwnF.rd h
theorem RowF.form (h : RowF M lab j e v n xs) : ∃ A c, v = .slice A n c := h.rd.form
theorem RowF.keep (h : RowF M lab j e v n xs) (hK : Kp A M lab M' lab') (hA : ¬ A j) : RowF M' lab' j e v n xs := by
 obtain ⟨hl, ⟨hv, h0⟩ | ⟨g, o, cap, cur, hv, hg, hh, r⟩⟩ := h
 ·exact ⟨hl, .inl ⟨hv, h0⟩⟩
 have hgk : lab g = j := by
  by_cases e : lab g = j
  ·exact e
  rw [Mm.out_of hh e] at hg; cases hg
 obtain ⟨h1, h2⟩ := hK.get hh hgk hA
 exact ⟨hl, .inr ⟨g, o, cap, cur, hv, Mm.out_none h2, h1, r⟩⟩
theorem RowF.up (h : RowF K labK j e v n xs) (hB : K.le M) : OwnF (outK K M labK j) M e v n xs := by
 obtain ⟨hl, ⟨hv, h0⟩ | ⟨g, o, cap, cur, hv, hg, hh, r⟩⟩ := h
 ·exact ⟨hl, .inl ⟨hv, h0⟩⟩
 have hgk : labK g = j := by
  by_cases e : labK g = j
  ·exact e
  rw [Mm.out_of hh e] at hg; cases hg
 refine ⟨hl, .inr ⟨g, o, cap, cur, hv, ?_, hB _ _ hh, r⟩⟩
 unfold outK
 rw [hh]
 simp only [if_pos hgk]
theorem Mach.rowToF (hM : Mach M lab p s) (hB : Base K M lab) (hle : (outK K M labK j).le M') (ho : OwnF (outK K M labK j) M' e v n xs) : ∃ lab' K' labK', Mach M' lab' p s ∧ Base K' M' lab' ∧ Kp (fun k => k = j) K labK K' labK' ∧ RowF K' labK' j e v n xs := by
 have hO : ∀ c o, K c = some o → labK c ≠ j → outK K M labK j c = some o := fun c o hc hl => outK_of hB.le hc hl
 have hMO : ∀ c o, M c = some o → lab c ≠ 0 → outK K M labK j c = some o := fun c o hc hl => by
  have hk : K c = none := by
   cases h : K c with
   | none => rfl
   | some x => exact absurd (hB c x h).2 hl
  unfold outK
  rw [hk]
  exact hc
 obtain ⟨hl, ⟨hv, h0⟩ | ⟨g, o, cap, cur, hv, hg, hh, r⟩⟩ := ho
 ·refine ⟨lab, K.out labK j, labK, hM.keep (A := fun k => k = 0) (fun c o hc hA => ⟨hle _ _ (hMO c o hc hA), rfl⟩) (fun k hk => by omega), fun c o hc => ?_, fun c o hc hA => ⟨Mm.out_of hc hA, rfl⟩, hl, .inl ⟨hv, h0⟩⟩
  have hl2 : labK c ≠ j := fun e => by rw [Mm.out_none e] at hc; cases hc
  have hc2 := Mm.out_le _ _ _ _ _ hc
  exact ⟨hle _ _ (hO c o hc2 hl2), (hB c o hc2).2⟩
 have hne : ∀ c o, outK K M labK j c = some o → c ≠ g := fun c o hc e => by subst e; rw [hc] at hg; cases hg
 refine ⟨fun c => if c = g then 0 else lab c, fun c => if c = g then M' g else K.out labK j c, fun c => if c = g then j else labK c, hM.keep (A := fun k => k = 0) (fun c o hc hA => ⟨hle _ _ (hMO c o hc hA), if_neg (hne c o (hMO c o hc hA))⟩) (fun k hk => by omega), fun c o hc => ?_, fun c o hc hA => ?_, hl, .inr ⟨g, o, cap, cur, hv, ?_, ?_, r⟩⟩
 ·by_cases h1 : c = g
  ·subst h1; simp only [if_true] at hc ⊢; exact ⟨hc, trivial⟩
  simp only [if_neg h1] at hc ⊢
  have hl2 : labK c ≠ j := fun e => by rw [Mm.out_none e] at hc; cases hc
  have hc2 := Mm.out_le _ _ _ _ _ hc
  exact ⟨hle _ _ (hO c o hc2 hl2), (hB c o hc2).2⟩
 ·have h1 := hne c o (hO c o hc hA)
  simp only [if_neg h1]
  exact ⟨Mm.out_of hc hA, trivial⟩
 ·exact Mm.out_none (by simp)
 simp only [if_true]; exact hh
end
end
section
theorem map_set {α : Type} (f : Nat → α) (n k : Nat) (y : α) : ((List.range n).map f).set k y = (List.range n).map (put1 f k y) := by
 apply List.ext_getElem?
 intro i
 rw [List.getElem?_set, List.getElem?_map, List.getElem?_map]
 by_cases hi : i < n
 ·rw [List.getElem?_range hi]
  by_cases e : k = i
  ·subst e; rw [if_pos rfl, if_pos (by simpa using hi)]; simp [put1]
  rw [if_neg e]; simp [put1, show ¬ i = k from fun h => e h.symm]
 rw [List.getElem?_eq_none (by simpa using hi)]
 simp [hi]
 omega
end
section
open Go.RowKit
section
variable {P : Program} {op : Oper} {a : Act} {ops : Array Oper} {σ w : World} {M M0 : Mm} {Q : Exit → Act → World → Prop} {K : Act → World → Prop} {E : Prop}
theorem tV {e : TypeId} {n g cap : Nat} {xs : List Value} (h : Has σ M w) (hle : M0.le M) (hown : Own M0 M e 1 (.slice (some ⟨g, 0, none⟩) n cap) n xs)
  (hgd : op.guard = none) (t : TypeId) (x y : Operand) (ho : op.op = .store t x y) (hdst : op.dst = none) {k : Nat} (hx : a.eval x = .pointer (some ⟨g, k, none⟩)) (hk : k < n) {u : Value} (hy : a.eval y = u) (h1 : u.oneCell' = true) (hi : (P.info? t).map (·.size) = some 1)
  (hK : ∀ w' M', Has σ M' w' → M0.le M' → Own M0 M' e 1 (.slice (some ⟨g, 0, none⟩) n cap) n (xs.set k u) → K a w') : if Region.wanted op (yielded ops a.tmps) = true then Oper.wp P op a w K Q else E := by
 obtain ⟨cur, hg, hlt, hown', hng⟩ := hown.put k u
 exact yR h hgd t x y ho hdst hx hg (by omega) hy h1 hi fun w' h' => hK w' _ h' (Mm.le_upd hle hng _) hown'
end
def Mm.one (b : Nat) (o : Obj) : Mm := fun c => if c = b then some o else none
theorem Mm.one_get (b : Nat) (o : Obj) : Mm.one b o b = some o := if_pos rfl
theorem Mm.one_le {b : Nat} {o : Obj} {M : Mm} (h : M b = some o) : (Mm.one b o).le M := fun c o' hc => by
 unfold Mm.one at hc
 split at hc
 ·next e => subst e; cases hc; exact h
 cases hc
end
section
open Go.RowKit
theorem lc_top {σ : World} {M : Mm} {lab : Nat → Nat} {p t q n : Nat} {c : Nat → Int} {tp : List Nat} {s : MachS} {g : GM} {fs : List Fr} {F : Fr} (hM : Mach M lab p s) (hA : AbsM c tp n s g) (ht : (t : Int) < c 1) (hq : tp[t]? = some q) (hF : g.thr t = fs ++ [F]) (hfs : fs.length < 1000) :
  ∃ b, (∀ w, Has σ M w → Calls Tryz.prog 32 #[.pointer (some ⟨q, 0, none⟩)] w fun r w' => r = .returned (.pointer (some ⟨b, 0, none⟩)) ∧ Has σ M w') ∧ ∃ cs ty, M b = some (.cells cs ty (0, 0)) ∧ cs[0]? = some (.int .i64 (F.fn : Nat)) := by
 obtain ⟨fv, hv, fbs, hTh⟩ := hM.each t q (by rw [hA.ttp]; exact hq)
 have hfr : (s.thr t).frames = fs.map Fr.enc ++ [F.enc] := by rw [hA.thr.fr t ht, hF, List.map_append]; rfl
 have hl := hTh.flen
 rw [hfr, List.length_append, List.length_map, List.length_singleton] at hl
 obtain ⟨fb1, b, rfl⟩ : ∃ fb1 b, fbs = fb1 ++ [b] := by
  rcases List.eq_nil_or_concat fbs with e | ⟨l, x, e⟩
  ·rw [e] at hl; simp at hl
  exact ⟨l, x, by rw [e, List.concat_eq_append]⟩
 rw [List.length_append, List.length_singleton] at hl
 refine ⟨b, fun w h => xI h hTh (by omega), _, _, (hTh.frame fb1.length b F.enc (by rw [List.getElem?_append_right (Nat.le_refl _), Nat.sub_self]; rfl) ?_).1, rfl⟩
 rw [hfr, List.getElem?_append_right (by rw [List.length_map]; omega), List.length_map, show fb1.length - fs.length = 0 by omega]
 rfl
def fnB (what : Int) (nh : Nat) : Nat := if what = 0 then 1 else if what = 1 then (if 0 < nh then 20 else 12) else if what = 2 then 23 else 12
theorem lcBegin_eq {σ w : World} {K M : Mm} {lab : Nat → Nat} {p t q n : Nat} {c : Nat → Int} {tp : List Nat} {s : MachS} {g : GM} (h : Has σ M w) (hM : Mach M lab p s) (hB : Base K M lab) (hA : AbsM c tp n s g) (ht : (t : Int) < c 1) (hq : tp[t]? = some q) (hi : g.thr t = []) (what : Int) (nh : Nat) :
  Calls Tryz.prog 31 #[.pointer (some ⟨p, 0, none⟩), .int .i64 (t : Nat), .int .i64 what, .int .i64 (nh : Nat)] w fun r w' => r = .returned (.tuple #[]) ∧ ∃ M' lab' s', Has σ M' w' ∧ Mach M' lab' p s' ∧ Base K M' lab' ∧ AbsM c tp n s' (g.top t [] ⟨fnB what nh, 0, fun i => ([] : List Nat).getD i 0⟩) := by
 unfold fnB
 by_cases h0 : what = 0
 ·subst h0
  rw [if_pos rfl]
  have TH := Lib.hid (fun (w : World) (h : Has σ M w) => yT h hM (t := t) (q := q) (by rw [hA.ttp]; exact hq))
  have CL : Hid (∀ w, Has σ M w → Calls Tryz.prog 34 #[.pointer (some ⟨q, 0, none⟩), .int .i64 1, .slice none 0 0] w fun r w' => r = .returned (.tuple #[]) ∧ ∃ M' lab' s', Has σ M' w' ∧ Mach M' lab' p s' ∧ Base K M' lab' ∧ AbsM c tp n s' (g.top t [] ⟨1, 0, fun i => ([] : List Nat).getD i 0⟩)) := Lib.hid fun w h => qR h hM hB hA ht hq hi 1 (us := []) (rv := .slice none 0 0) (Rd.nil _ _ _) (by simp)
  clear hM hB hA hi
  go_enter Tryz.func31, Tryz.ntmps31
  go_wp2_with (first
   | (go_at_call 13; refine (TH.out _ h).mono ?_; clear h; rintro _ w ⟨rfl, h⟩)
   | ((go_at_call 34; refine (CL.out _ h).mono ?_; clear h; rintro _ w ⟨rfl, M3, lab3, s3, h, hM3, hB3, hA3⟩)))
  go_end0
  exact ⟨rfl, M3, lab3, s3, h, hM3, hB3, hA3⟩
 have f0 : (what == 0) = false := by simpa using h0
 rw [if_neg h0]
 by_cases h1 : what = 1
 ·subst h1
  rw [if_pos rfl]
  by_cases hn : 0 < nh
  ·have g1 : decide ((0 : Int) < (nh : Int)) = true := decide_eq_true (by omega)
   have g2 : (0 : Int) < (nh : Int) := by omega
   rw [if_pos hn]
   have TH := Lib.hid (fun (w : World) (h : Has σ M w) => yT h hM (t := t) (q := q) (by rw [hA.ttp]; exact hq))
   have CL : Hid (∀ w, Has σ M w → Calls Tryz.prog 34 #[.pointer (some ⟨q, 0, none⟩), .int .i64 20, .slice none 0 0] w fun r w' => r = .returned (.tuple #[]) ∧ ∃ M' lab' s', Has σ M' w' ∧ Mach M' lab' p s' ∧ Base K M' lab' ∧ AbsM c tp n s' (g.top t [] ⟨20, 0, fun i => ([] : List Nat).getD i 0⟩)) := Lib.hid fun w h => qR h hM hB hA ht hq hi 20 (us := []) (rv := .slice none 0 0) (Rd.nil _ _ _) (by simp)
   clear hM hB hA hi
   go_enter Tryz.func31, Tryz.ntmps31
   go_wp2_with (first
    | (go_at_call 13; refine (TH.out _ h).mono ?_; clear h; rintro _ w ⟨rfl, h⟩)
    | ((go_at_call 34; refine (CL.out _ h).mono ?_; clear h; rintro _ w ⟨rfl, M3, lab3, s3, h, hM3, hB3, hA3⟩)))
   go_end0
   exact ⟨rfl, M3, lab3, s3, h, hM3, hB3, hA3⟩
  have g1 : decide ((0 : Int) < (nh : Int)) = false := decide_eq_false (by omega)
  have g2 : ¬ (0 : Int) < (nh : Int) := by omega
  rw [if_neg hn]
  have TH := Lib.hid (fun (w : World) (h : Has σ M w) => yT h hM (t := t) (q := q) (by rw [hA.ttp]; exact hq))
  have CL : Hid (∀ w, Has σ M w → Calls Tryz.prog 34 #[.pointer (some ⟨q, 0, none⟩), .int .i64 12, .slice none 0 0] w fun r w' => r = .returned (.tuple #[]) ∧ ∃ M' lab' s', Has σ M' w' ∧ Mach M' lab' p s' ∧ Base K M' lab' ∧ AbsM c tp n s' (g.top t [] ⟨12, 0, fun i => ([] : List Nat).getD i 0⟩)) := Lib.hid fun w h => qR h hM hB hA ht hq hi 12 (us := []) (rv := .slice none 0 0) (Rd.nil _ _ _) (by simp)
  clear hM hB hA hi
  go_enter Tryz.func31, Tryz.ntmps31
  go_wp2_with (first
   | (go_at_call 13; refine (TH.out _ h).mono ?_; clear h; rintro _ w ⟨rfl, h⟩)
   | ((go_at_call 34; refine (CL.out _ h).mono ?_; clear h; rintro _ w ⟨rfl, M3, lab3, s3, h, hM3, hB3, hA3⟩)))
  go_end0
  exact ⟨rfl, M3, lab3, s3, h, hM3, hB3, hA3⟩
 have f1 : (what == 1) = false := by simpa using h1
 rw [if_neg h1]
 by_cases h2 : what = 2
 ·subst h2
  rw [if_pos rfl]
  clear h0 h1
  have TH := Lib.hid (fun (w : World) (h : Has σ M w) => yT h hM (t := t) (q := q) (by rw [hA.ttp]; exact hq))
  have CL : Hid (∀ w, Has σ M w → Calls Tryz.prog 34 #[.pointer (some ⟨q, 0, none⟩), .int .i64 23, .slice none 0 0] w fun r w' => r = .returned (.tuple #[]) ∧ ∃ M' lab' s', Has σ M' w' ∧ Mach M' lab' p s' ∧ Base K M' lab' ∧ AbsM c tp n s' (g.top t [] ⟨23, 0, fun i => ([] : List Nat).getD i 0⟩)) := Lib.hid fun w h => qR h hM hB hA ht hq hi 23 (us := []) (rv := .slice none 0 0) (Rd.nil _ _ _) (by simp)
  clear hM hB hA hi
  go_enter Tryz.func31, Tryz.ntmps31
  go_wp2_with (first
   | (go_at_call 13; refine (TH.out _ h).mono ?_; clear h; rintro _ w ⟨rfl, h⟩)
   | ((go_at_call 34; refine (CL.out _ h).mono ?_; clear h; rintro _ w ⟨rfl, M3, lab3, s3, h, hM3, hB3, hA3⟩)))
  go_end0
  exact ⟨rfl, M3, lab3, s3, h, hM3, hB3, hA3⟩
 have f2 : (what == 2) = false := by simpa using h2
 rw [if_neg h2]
 clear h0 h1 h2
 have TH := Lib.hid (fun (w : World) (h : Has σ M w) => yT h hM (t := t) (q := q) (by rw [hA.ttp]; exact hq))
 have CL : Hid (∀ w, Has σ M w → Calls Tryz.prog 34 #[.pointer (some ⟨q, 0, none⟩), .int .i64 12, .slice none 0 0] w fun r w' => r = .returned (.tuple #[]) ∧ ∃ M' lab' s', Has σ M' w' ∧ Mach M' lab' p s' ∧ Base K M' lab' ∧ AbsM c tp n s' (g.top t [] ⟨12, 0, fun i => ([] : List Nat).getD i 0⟩)) := Lib.hid fun w h => qR h hM hB hA ht hq hi 12 (us := []) (rv := .slice none 0 0) (Rd.nil _ _ _) (by simp)
 clear hM hB hA hi
 go_enter Tryz.func31, Tryz.ntmps31
 go_wp2_with (first
  | (go_at_call 13; refine (TH.out _ h).mono ?_; clear h; rintro _ w ⟨rfl, h⟩)
  | ((go_at_call 34; refine (CL.out _ h).mono ?_; clear h; rintro _ w ⟨rfl, M3, lab3, s3, h, hM3, hB3, hA3⟩)))
 go_end0
 exact ⟨rfl, M3, lab3, s3, h, hM3, hB3, hA3⟩
theorem fnB_ok (what : Int) (md : List Nat) : fnB what md.length = 1 ∨ fnB what md.length = 12 ∨ (fnB what md.length = 20 ∧ md ≠ []) ∨ fnB what md.length = 23 := by
 unfold fnB
 split
 ·exact .inl rfl
 split
 ·split
  ·next h => exact .inr (.inr (.inl ⟨rfl, fun e => by rw [e] at h; simp at h⟩))
  exact .inr (.inl rfl)
 split
 ·exact .inr (.inr (.inr rfl))
 exact .inr (.inl rfl)
theorem lc_release {σ w : World} {K M : Mm} {lab : Nat → Nat} {p t q n m j L B S T gens : Nat} {c : Nat → Int} {tp : List Nat} {s : MachS} {g : GM} {md : Nat → List Nat} (h : Has σ M w) (hM : Mach M lab p s) (hB : Base K M lab) (hc : zF c) (hn : Nums c L B S) (hg : c 12 = (gens : Nat)) (hT : c 1 = (T : Nat)) (ha : n < 80000) (hm : m < 80000) (ht : t < T) (hq : tp[t]? = some q)
  (hA : AbsM c tp n s g) (hI : LcI B S gens L T (nThr c T) (levT c) m g md) (hi : g.thr t = []) (hj : j < B) (hw : g.w (levT c t) (18 + j) = zI t) {rv : Value} (hr : Rd M 1 rv 1 (u64s ([j].map fun u : Nat => (u : Int)))) :
  Calls Tryz.prog 14 #[.pointer (some ⟨p, 0, none⟩), .int .i64 (t : Nat), (.func (.func 15) #[] #[]), .int .i64 (2 : Nat), .int .i64 (21 : Nat), rv] w fun r w' => ∃ k : Nat, r = .returned (.int .i64 (k : Nat)) ∧ ∃ M' lab' s' g', Has σ M' w' ∧ Mach M' lab' p s' ∧ Base K M' lab' ∧ AbsM c tp (n + 1) s' g' ∧ LcI B S gens L T (nThr c T) (levT c) (m + 1) g' md ∧ (∀ u, u ≠ t → g'.thr u = g.thr u) ∧ g'.thr t = [] := by
 have C := uE (gens := gens) (m := m) (n := n) hc hn hg hT (by omega) (by omega) ht hq
 have hR := hI.rel C.hT8 ht C.lev hi hj hw
 have hthrT : (g.top t [] ⟨21, 0, fun i => [j].getD i 0⟩).thr t = [⟨21, 0, fun i => [j].getD i 0⟩] := zY _ _ _
 obtain ⟨g2, md2, m2, hD, h1, h2, h3, h4, h5, h6, h7, h8⟩ := lc_next (σ := σ) (p := p) C hR (by rw [hthrT]; simp)
 have he : g2.thr t = [] := by
  rcases h6 with h6 | h6
  ·exact h6
  have := (h2.pot ht C.hN8.2).1
  rw [yI hthrT] at h6
  unfold pot1 at h6
  rw [if_neg (show ¬ (21 = 1) by decide), if_neg (show ¬ (21 = 12) by decide), if_neg (show ¬ (21 = 20) by decide), if_neg (show ¬ (21 = 22) by decide), if_neg (show ¬ (21 = 23) by decide)] at h6
  omega
 have hmd : md2 = md := by
  rcases h5 with ⟨a, _⟩ | ⟨F, _, a, b, _⟩
  ·exact a
  rw [hthrT] at a; cases a; cases b
 rw [hmd] at h2
 have S1 : Steps (fun n g g2 => zG 15 σ p t c tp n (levT c t) g g2) t 0 n 1 (g.top t [] ⟨21, 0, fun i => [j].getD i 0⟩) g2 := .cons hD (by rw [hthrT]; simp) (by rw [hthrT]; simp) rfl
 refine (S1.alone h hM hB hA (by omega) C.ht hq C.hl hi (us := [j]) hr (by simp) he (by decide) (by decide) (by decide) (by kernel_rfl)).mono fun r w' ⟨hr, M', lab', s', a1, a2, a3, a4⟩ => ⟨1, hr, M', lab', s', g2, a1, a2, a3, a4, ?_, fun u hu => (h3 u hu).trans (zW hu), he⟩
 exact h2.mono h1
theorem leads_off {σ w : World} {M : Mm} {p : Nat} {s : WardS} (h : Has σ M w) (hM : IsWard M p s) (l : Int) (t k : Nat) (ht : s.there l t = true) (hk1 : k < 18446744073709551616) (hk2 : cutN k 0 8 = t) (hv : decide (0 < valE l t s.held) = false) : Calls Tryz.prog 36 #[.pointer (some ⟨p, 0, none⟩), .int .i64 l, .int .u64 (k : Nat)] w fun r w' => r = .returned (.bool false) ∧ Has σ M w' := by
 have SL := Lib.hid (uQ k hk1)
 rw [hk2] at SL
 have TH := Lib.hid (fun (M' : Mm) (w : World) (h : Has σ M' w) (hM : IsWard M' p s) => rO h hM l t)
 rw [ht] at TH
 have hp := hM.obj
 have hh := hM.held
 have e2 : s.cells[2]? = some (.map (some s.hb)) := rfl
 have HM := Lib.hid hM
 have dx : (#[.int .i64 l, .int .i64 (t : Nat)] : Array Value).extract 0 (0 + 2) = #[.int .i64 l, .int .i64 (t : Nat)] := rfl
 have d1 : (#[.int .i64 l, .int .i64 (t : Nat)] : Array Value)[1]? = some (.int .i64 (t : Nat)) := rfl
 obtain ⟨v, hv0⟩ : ∃ v, valE l t s.held = v := ⟨_, rfl⟩
 have HV := Lib.hid hv0
 rw [hv0] at hv
 unfold yF at TH
 clear hM ht hk1 hk2 hv0
 go_enter Tryz.func36, Tryz.ntmps36
 go_upto_region 2 with (first
  | ((go_at_call 35; refine (SL.out _).mono ?_; rintro r w' ⟨rfl, rfl⟩)))
 obtain ⟨M1, hbx, hle, hbq, hnx⟩ := h.box (.cells #[.int .i64 l, .int .i64 (t : Nat)] 126)
 generalize w.alloc _ = wx at hbx ⊢
 generalize w.heap.size = bx at hbq hnx ⊢
 clear h
 try clear w
 have h := hbx
 clear hbx
 obtain ⟨w, rfl⟩ : ∃ x : World, x = wx := ⟨_, rfl⟩
 replace hp := hle _ _ hp
 replace hh := hle _ _ hh
 have hM1 : IsWard M1 p s := HM.out.le hle
 have TH1 := Lib.hid (fun (w : World) (h : Has σ M1 w) => TH.out M1 w h hM1)
 clear TH hM1
 refine zS (Has σ M1) (by kernel_rfl) (by kernel_rfl) h.drew ?_
 clear h
 repeat (first
  | go_big_quiet_skip
  | (go_big_quiet_want; first
   | (refine zL 126 _ rfl rfl hbq dx rfl Tryz.underlying126 rfl (by kernel_rfl) ?_; simp only [Act.put, qD, qE, qF]; go_big_quiet_on)
   | (refine zX 3 _ rfl rfl hbq d1 Tryz.underlying3 rfl ?_; simp only [Act.put, qD, qE, qF]; go_big_quiet_on)
   | (refine zX 128 _ rfl rfl hp e2 Tryz.underlying128 rfl ?_; simp only [Act.put, qD, qE, qF]; go_big_quiet_on)
   | ((refine xG (l := l) (s := t) _ _ rfl rfl rfl hh ?_; rw [HV.out]); simp only [Act.put, qD, qE, qF]; go_big_quiet_on)
   | (go_big_quiet_op; first | go_big_quiet_on | go_big_quiet_call (first | with_reducible exact fun _ => rfl | with_reducible exact TH1.out _))))
 refine wpQuiet_nil ?_
 try clear w
 intro w h
 go_wp2
 go_ret
 exact ⟨rfl, h.le hle⟩
structure LawV (K : Mm) (labK : Nat → Nat) (T : Nat) (hv : Value) (fh : Nat → Value) (had : Nat → List Nat) : Prop where
 hrow : Row K labK 2 47 1 hv T ((List.range T).map fh)
 each : ∀ k, k < T → RowF K labK (10 + k) 3 (fh k) (had k).length (natv (had k))
section
variable {K K' K2 M : Mm} {labK labK' labK2 : Nat → Nat} {T k : Nat} {hv v : Value} {fh : Nat → Value} {had : Nat → List Nat} {h2 : List Nat} {A : Nat → Prop}
theorem LawV.keep (h : LawV K labK T hv fh had) (hK : Kp A K labK K' labK') (h2 : ¬ A 2) (h10 : ∀ k, ¬ A (10 + k)) : LawV K' labK' T hv fh had := ⟨h.hrow.keep hK h2, fun k hk => (h.each k hk).keep hK (h10 k)⟩
theorem LawV.setH (h : LawV K labK T hv fh had) (hk : k < T) (hK : Kp (fun j => j = 10 + k) K labK K' labK') (hr : RowF K' labK' (10 + k) 3 v h2.length (natv h2)) (hK2 : Kp (fun j => j = 2) K' labK' K2 labK2) (hr2 : Row K2 labK2 2 47 1 hv T (((List.range T).map fh).set k v)) : LawV K2 labK2 T hv (put1 fh k v) (put1 had k h2) := by
 refine ⟨by rw [← map_set]; exact hr2, fun i hi => ?_⟩
 by_cases e : i = k
 ·subst e; rw [zY, zY]; exact hr.keep hK2 (by omega)
 rw [zW e, zW e]; exact ((h.each i hi).keep hK (by omega)).keep hK2 (by omega)
theorem LawV.have_ (h : LawV K labK T hv fh had) (hB : K.le M) {g cap : Nat} (e : hv = .slice (some ⟨g, 0, none⟩) T cap) (hk : k < T) : ∃ cur A c, M g = some (.cells cur 47) ∧ cur[k]? = some (.slice A (had k).length c) ∧ fh k = .slice A (had k).length c := by
 subst e
 obtain ⟨cur, hg, hc⟩ := Own.at_ h.hrow
 obtain ⟨A, c, hf⟩ := (h.each k hk).form
 exact ⟨cur, A, c, hB _ _ hg, by rw [← hf]; exact hc k _ (by rw [List.getElem?_map, List.getElem?_range hk]; rfl), hf⟩
end
end
section
open Go.RowKit
theorem info_ints : (Tryz.prog.info? 47).map (fun i => (i.zero, i.size, i.bytes)) = some (some (.slice none 0 0), 1, 24) := by kernel_rfl
def nils (n : Nat) : List Value := (List.range n).map fun _ => .slice none 0 0
theorem made_ints (n : Nat) : madeCells (Value.slice none 0 0).cells (n * 1) = (nils n).toArray := by
 apply Array.ext_getElem?
 intro i
 unfold madeCells nils
 by_cases hi : i < n
 ·simp [Value.cells, hi, Nat.mod_one]
 simp [Value.cells, hi]
theorem mk_ints (N : Nat) (h : N ≤ 1000) (W : World) : (Instr.makeSlice 33 (.int .i64 N) (.int .i64 N)).run Tryz.prog W = .ok (.slice (some ⟨W.heap.size, 0, none⟩) N N) (W.alloc (.cells (nils N).toArray 47)) := by
 obtain ⟨i, hi, he⟩ := Option.map_eq_some_iff.1 info_ints
 simp only [Prod.mk.injEq] at he
 obtain ⟨h1, h2, h3⟩ := he
 rw [run_makeSlice W 33 47 i (.slice none 0 0) Tryz.underlying33 hi h1 .i64 .i64 N N (by omega) (by omega) (by rw [h2, Int.toNat_natCast]; omega) (by rw [h3]; omega) (by omega), Int.toNat_natCast, h2, made_ints]
end
section
open Go.RowKit
theorem uI {K M : Mm} {lab labK : Nat → Nat} {p t q j : Nat} {s : MachS} {o : Obj} (hM : Mach M lab p s) (hB : Base K M lab) (ht : s.tp[t]? = some q) (hq : M q = some o) : outK K M labK j q = some o := by
 obtain ⟨fv, hv, fbs, hTh⟩ := hM.each t q ht
 have hk : K q = none := by
  cases e : K q with
  | none => rfl
  | some x => have := (hB q x e).2; rw [hTh.mark] at this; omega
 unfold outK
 rw [hk]
 exact hq
def Mm.nil : Mm := fun _ => none
theorem Mm.nil_le (M : Mm) : Mm.nil.le M := fun _ _ h => by cases h
theorem RowF.tail1 {K : Mm} {labK : Nat → Nat} {j g o c n x : Nat} {l : List Nat} (h : RowF K labK j 3 (.slice (some ⟨g, o, none⟩) (n + 1) c) (n + 1) (natv (x :: l))) : RowF K labK j 3 (.slice (if c = 1 then some ⟨g, o, none⟩ else some ⟨g, o + 1, none⟩) n (c - 1)) n (natv l) := by
 have := RowF.tail (x := .int .i64 (x : Nat)) (xs := natv l) h
 unfold sliced at this
 simp only [Option.map_some, Addr.add_mid, Nat.one_mul, Nat.add_sub_cancel] at this
 exact this
end
end Go.Proofs.YtjeeldacnllipaaGreat
