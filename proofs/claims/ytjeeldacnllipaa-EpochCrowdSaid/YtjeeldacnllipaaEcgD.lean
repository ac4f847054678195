/- Law 23: the chapter's example; EpochGoes: each round has the epoch go on. -/
import Derived.Test.YtjeeldacnllipaaEcgA
import Derived.Test.YtjeeldacnllipaaWords
import Derived.Test.YtjeeldacnllipaaEcgC
import Derived.Test.YtjeeldacnllipaaConfLevel
import Derived.Test.YtjeeldacnllipaaPlanA
namespace Go.Proofs.Ytjeeldacnllipaa
section
open Go.RowKit
set_option linter.unusedVariables false
set_option linter.unusedSimpArgs false
set_option linter.unnecessarySimpa false
theorem refFirst_eq {σ w : World} {M : Mm} (h : Has σ M w) (c : Nat → Int) {L B S : Nat} (hn : Nums c L B S) (k : Nat) (hk : k ≤ 4) : Calls Try.prog 70 #[confV c, .int .i64 (k : Nat)] w fun r w' => r = .returned (.int .i64 ((k * (18 + B + 6 * S) : Nat) : Int)) ∧ Has σ M w' := by
  have r11 : (ints .i64 14 c)[11]? = some (.int .i64 (B : Nat)) := by rw [← hn.lim]; rfl
  have r10 : (ints .i64 14 c)[10]? = some (.int .i64 (S : Nat)) := by rw [← hn.slo]; rfl
  have hb := hn.b0
  have hs := hn.s0
  have w1 : IntKind.i64.wrap (18 + (B : Int)) = 18 + (B : Int) := IntWalk.i64_in _ (by omega)
  have w2 : IntKind.i64.wrap (6 * (S : Int)) = 6 * (S : Int) := IntWalk.i64_in _ (by omega)
  have w3 : IntKind.i64.wrap (18 + (B : Int) + 6 * (S : Int)) = 18 + (B : Int) + 6 * (S : Int) := IntWalk.i64_in _ (by omega)
  have hm : k * (18 + B + 6 * S) ≤ 4 * (18 + 40 + 6 * 60) := Nat.mul_le_mul hk (by omega)
  have w4 : IntKind.i64.wrap ((k : Int) * (18 + (B : Int) + 6 * (S : Int))) = (k : Int) * (18 + (B : Int) + 6 * (S : Int)) := by
    have e : (k : Int) * (18 + (B : Int) + 6 * (S : Int)) = ((k * (18 + B + 6 * S) : Nat) : Int) := by push_cast; rfl
    rw [e]
    exact IntWalk.i64_in _ (by omega)
  have E : Hid (((k * (18 + B + 6 * S) : Nat) : Int) = (k : Int) * (18 + (B : Int) + 6 * (S : Int))) := by show _ = _; push_cast; rfl
  rw [E.out]
  clear hb hs hm hn hk E
  unfold confV
  generalize ints .i64 14 c = row at r11 r10
  go_enter Try.func70, Try.ntmps70
  go_upto_region 1 with (fail)
  obtain ⟨M1, hbx, hle, hbf, hnf⟩ := h.box (.cells row 24)
  generalize w.alloc _ = wx at hbx ⊢
  generalize w.heap.size = bf at hbf hnf ⊢
  clear h
  try clear w
  have h := hbx
  clear hbx
  obtain ⟨w, rfl⟩ : ∃ x : World, x = wx := ⟨_, rfl⟩
  go_wp2_with (first
    | (with_reducible show wpList _ _ _ ({ dst := _, op := Op.load 3 _, type := _, pos := _, after := _, guard := _ } :: _) _ _; refine wpList_load1_has h rfl 3 _ rfl rfl hbf r11 Try.underlying3 rfl ?_)
    | (with_reducible show wpList _ _ _ ({ dst := _, op := Op.load 3 _, type := _, pos := _, after := _, guard := _ } :: _) _ _; refine wpList_load1_has h rfl 3 _ rfl rfl hbf r10 Try.underlying3 rfl ?_))
  go_ret
  exact ⟨rfl, h.le hle⟩
end
section
open Go.RowKit
set_option linter.unusedVariables false
set_option linter.unusedSimpArgs false
set_option linter.unnecessarySimpa false
theorem zE : (Try.prog.info? 37).bind (·.zero) = some (.agg (ints .u64 9 fun _ => 0)) := by kernel_rfl
/-- An epoch and eight announcements. -/
def eN (ep : Int) (act : Nat → Int) : Nat → Int := fun i => if i = 0 then ep else act (i - 1)
def eUp (ep : Int) (act : Nat → Int) (k : Nat) : Nat → Int := fun i => if i = 0 then ep else if i ≤ k then act (i - 1) else 0
theorem eUp_succ (ep : Int) (act : Nat → Int) (k : Nat) : upd (eUp ep act k) (1 + k) (act k) = eUp ep act (k + 1) := by
  funext i
  unfold upd eUp
  by_cases h : i = 1 + k
  · subst h; rw [if_pos rfl, if_neg (by omega), if_pos (by omega)]; congr 1; omega
  · rw [if_neg h]
    by_cases h0 : i = 0
    · rw [if_pos h0, if_pos h0]
    · rw [if_neg h0, if_neg h0]
      by_cases h2 : i ≤ k
      · rw [if_pos h2, if_pos (by omega)]
      · rw [if_neg h2, if_neg (by omega)]
theorem eUp_all (ep : Int) (act : Nat → Int) : ints .u64 9 (eUp ep act 8) = ints .u64 9 (eN ep act) := ints_congr fun i hi => by
  unfold eUp eN
  by_cases h0 : i = 0
  · rw [if_pos h0, if_pos h0]
  · rw [if_neg h0, if_neg h0, if_pos (by omega)]
set_option maxHeartbeats 4000000 in
set_option maxRecDepth 20000 in
theorem refRead_eq {σ w : World} {M : Mm} (h : Has σ M w) (c : Nat → Int) {L B S N bw l : Nat} (hn : Nums c L B S) (hN : N = L * (18 + B + 6 * S)) {f : Nat → Int} (hb : M bw = some (.cells (ints .u64 N f) 34)) (hl : l < L) : Calls Try.prog 39 #[confV c, .slice (some ⟨bw, 0, none⟩) N N, .int .i64 (l : Nat)] w fun r w' => r = .returned (.agg (ints .u64 9 (eN (f (l * (18 + B + 6 * S) + 1)) fun t => f (l * (18 + B + 6 * S) + (10 + t))))) ∧ Has σ M w' := by
  have hl0 := hn.l0
  have hb0 := hn.b0
  have hs0 := hn.s0
  have FI := Lib.hid (fun (M' : Mm) (w : World) (h : Has σ M' w) => refFirst_eq h c hn l (by omega))
  have hN2 : N ≤ 4 * (18 + 40 + 6 * 60) := by subst hN; exact Nat.mul_le_mul (by omega) (by omega)
  have hlt : l * (18 + B + 6 * S) + (18 + B + 6 * S) ≤ N := by
    subst hN
    have := Nat.mul_le_mul_right (18 + B + 6 * S) (show l + 1 ≤ L by omega)
    rw [Nat.succ_mul] at this
    exact this
  obtain ⟨a, ha⟩ : ∃ a, l * (18 + B + 6 * S) = a := ⟨_, rfl⟩
  rw [ha] at FI hlt ⊢
  have hx : (ints .i64 14 c).extract 0 (0 + 14) = ints .i64 14 c := rfl
  have hz : (ints .i64 14 c).size = 14 := rfl
  have G : Hid (∀ i, i < 18 → (ints .u64 N f)[a + i]? = some (.int .u64 (f (a + i)))) := Lib.hid fun i hi => ints_get (by omega)
  have g1 := G.out 1 (by omega)
  have gl0 : ¬ (l : Int) < 0 := by omega
  have ga : ¬ (N : Int) < (a : Int) + 18 := by omega
  have w18 : IntKind.i64.wrap ((a : Int) + 18) = (a : Int) + 18 := IntWalk.i64_in _ (by omega)
  have w1 : IntKind.i64.wrap ((a : Int) + 1) = ((a + 1 : Nat) : Int) := by rw [show (a : Int) + 1 = ((a + 1 : Nat) : Int) by omega]; exact IntWalk.i64_in _ (by omega)
  have w10 : IntKind.i64.wrap ((a : Int) + 10) = (a : Int) + 10 := IntWalk.i64_in _ (by omega)
  have haN : ((a + 1 : Nat) : Int) < (N : Int) := by omega
  have HA := Lib.hid (⟨hlt, hN2⟩ : a + (18 + B + 6 * S) ≤ N ∧ N ≤ 4 * (18 + 40 + 6 * 60))
  unfold confV at FI ⊢
  generalize ints .i64 14 c = row at *
  generalize hwr : ints .u64 N f = wrow at *
  clear hwr hlt hN2 hN ha hn
  go_enter Try.func39, Try.ntmps39
  go_upto_region 1 with (first
    | ((with_reducible show wpList _ _ _ ({ dst := _, op := Op.box 24 _, type := _, pos := _, after := _, guard := _ } :: _) _ _); refine wpList_box_has h rfl 24 _ rfl ?_; clear h; intro bf w h hnf; try simp only [Act.put, List.setIfInBounds_toArray, List.set_cons_zero, List.set_cons_succ])
    | ((with_reducible show wpList _ _ _ ({ dst := _, op := Op.alloc 37, type := _, pos := _, after := _, guard := _ } :: _) _ _); refine wpList_alloc_has h rfl 37 rfl _ zE ?_; clear h; intro b6 w h hn6; try simp only [Act.put, List.setIfInBounds_toArray, List.set_cons_zero, List.set_cons_succ]))
  have hle1 : M.le ((M.upd bf (.cells row 24)).upd b6 (.cells (ints .u64 9 fun _ => 0) 37)) := Mm.le_trans (Mm.le_upd' hnf _) (Mm.le_upd' hn6 _)
  have hbf : ((M.upd bf (.cells row 24)).upd b6 (.cells (ints .u64 9 fun _ => 0) 37)) bf = some (.cells row 24) := Mm.upd_of hn6 (Mm.upd_same _ _ _)
  have hb6 : ((M.upd bf (.cells row 24)).upd b6 (.cells (ints .u64 9 fun _ => 0) 37)) b6 = some (.cells (ints .u64 9 fun _ => 0) 37) := Mm.upd_same _ _ _
  have hn0 : M b6 = none := Mm.none_of (Mm.le_upd' hnf _) hn6
  replace h : Has σ ((M.upd bf (.cells row 24)).upd b6 (.cells (ints .u64 9 fun _ => 0) 37)) w := h
  generalize (M.upd bf (.cells row 24)).upd b6 _ = M2 at h hle1 hbf hb6
  go_upto_region 2 with (first
    | ((with_reducible show wpList _ _ _ ({ dst := _, op := Op.alloc 37, type := _, pos := _, after := _, guard := _ } :: _) _ _); refine wpList_alloc_has h rfl 37 rfl _ zE ?_; clear h; intro b7 w h hn7; try simp only [Act.put, List.setIfInBounds_toArray, List.set_cons_zero, List.set_cons_succ])
    | ((with_reducible show wpList _ _ _ ({ dst := _, op := Op.store 37 _ _, type := _, pos := _, after := _, guard := _ } :: _) _ _); (refine wpList_storeAll_has (cells := ints .u64 9 fun _ => 0) h rfl 37 _ _ rfl rfl rfl (Mm.upd_same _ _ _) rfl rfl rfl (by kernel_rfl) rfl ?_); clear h; intro w h))
  rw [Mm.upd_upd] at h
  have n67 : b6 ≠ b7 := Mm.ne_of hn7 hb6
  have nf7 : bf ≠ b7 := Mm.ne_of hn7 hbf
  have hbw2 := hle1 _ _ hb
  have nw7 : bw ≠ b7 := Mm.ne_of hn7 hbw2
  have hbf3 := Mm.upd_of (o := .cells (ints .u64 9 fun _ => 0) 37) hn7 hbf
  go_upto_region 3 with (first
    | ((with_reducible show wpList _ _ _ ({ dst := _, op := Op.load 24 _, type := _, pos := _, after := _, guard := _ } :: _) _ _); refine wpList_agg_has h rfl 24 _ rfl rfl hbf3 hx hz Try.underlying24 rfl (by kernel_rfl) ?_; try simp only [Act.put, List.setIfInBounds_toArray, List.set_cons_zero, List.set_cons_succ])
    | (go_at_call 70; refine (FI.out _ _ h).mono ?_; clear h; rintro _ w ⟨rfl, h⟩))
  have e0 : (ints .u64 9 fun _ => (0 : Int)).setIfInBounds 0 (.int .u64 (f (a + 1))) = ints .u64 9 (eUp (f (a + 1)) (fun t => f (a + (10 + t))) 0) := by
    rw [ints_set]
    refine ints_congr fun i hi => ?_
    unfold upd eUp
    by_cases e : i = 0
    · rw [if_pos e, if_pos e]
    · rw [if_neg e, if_neg e, if_neg (by omega)]
  have hb7 : (M2.upd b7 (.cells (ints .u64 9 fun _ => 0) 37)) b7 = some (.cells (ints .u64 9 fun _ => 0) 37) := Mm.upd_same _ _ _
  have hbw3 : (M2.upd b7 (.cells (ints .u64 9 fun _ => 0) 37)) bw = some (.cells wrow 34) := Mm.upd_of hn7 hbw2
  have hs9 : 0 < (ints .u64 9 fun _ => (0 : Int)).size := by rw [ints_size]; decide
  go_upto_region 6 with (first
    | (with_reducible show wpList _ _ _ ({ dst := _, op := Op.load 34 _, type := _, pos := _, after := _, guard := _ } :: _) _ _; refine wpList_load1_has h rfl 34 _ rfl rfl hbw3 g1 Try.underlying34 rfl ?_)
    | (with_reducible show wpList _ _ _ ({ dst := _, op := Op.store 34 _ _, type := _, pos := _, after := _, guard := _ } :: _) _ _; refine wpList_store1_has h rfl 34 _ _ rfl rfl rfl hb7 hs9 rfl (by kernel_rfl) ?_; clear h; intro w h))
  have h4 : Has σ ((M2.upd b7 (.cells (ints .u64 9 fun _ => 0) 37)).upd b7 (.cells ((ints .u64 9 fun _ => (0 : Int)).setIfInBounds 0 (.int .u64 (f (a + 1)))) 37)) w := h
  rw [Mm.upd_upd, e0] at h4
  clear h hb7 hbw3 hs9 e0 g1
  have h := h4
  clear h4
  go_upto_region 7 with (fail)
  go_loopw [9] (fun i wr => ∃ k : Nat, k ≤ 8 ∧ i = .int .i64 (k : Nat) ∧ Has σ (M2.upd b7 (.cells (ints .u64 9 (eUp (f (a + 1)) (fun t => f (a + (10 + t))) k)) 37)) wr) (fun i _ => 8 - (intOf i).toNat)
  case atStart => exact ⟨0, Nat.zero_le _, rfl, h⟩
  case round =>
    clear h w
    obtain ⟨w, rfl⟩ : ∃ x : World, x = wr := ⟨_, rfl⟩
    obtain ⟨k, hk, rfl, h⟩ := hrel
    have hb7 : (M2.upd b7 (.cells (ints .u64 9 (eUp (f (a + 1)) (fun t => f (a + (10 + t))) k)) 37)) b7 = some (.cells (ints .u64 9 (eUp (f (a + 1)) (fun t => f (a + (10 + t))) k)) 37) := Mm.upd_same _ _ _
    have hbw3 : (M2.upd b7 (.cells (ints .u64 9 (eUp (f (a + 1)) (fun t => f (a + (10 + t))) k)) 37)) bw = some (.cells wrow 34) := Mm.upd_of hn7 hbw2
    by_cases hlt : k < 8
    · have gk := G.out (10 + k) (by omega)
      have hA := HA.out
      have wk : IntKind.i64.wrap ((a : Int) + 10 + k) = ((a + (10 + k) : Nat) : Int) := by rw [show (a : Int) + 10 + k = ((a + (10 + k) : Nat) : Int) by omega]; exact IntWalk.i64_in _ (by omega)
      have wi : IntKind.i64.wrap ((k : Int) + 1) = ((k + 1 : Nat) : Int) := by rw [show (k : Int) + 1 = ((k + 1 : Nat) : Int) by omega]; exact IntWalk.i64_in _ (by omega)
      have hk8 : (k : Int) < 8 := by omega
      have hkN : ((a + (10 + k) : Nat) : Int) < (N : Int) := by omega
      have hs9 : 1 + k < (ints .u64 9 (eUp (f (a + 1)) (fun t => f (a + (10 + t))) k)).size := by rw [ints_size]; omega
      have S := Lib.hid (eUp_succ (f (a + 1)) (fun t => f (a + (10 + t))) k)
      have HLT := Lib.hid hlt
      clear hA hk hlt
      generalize hrow : ints .u64 9 (eUp (f (a + 1)) (fun t => f (a + (10 + t))) k) = erow at *
      go_wp2_with (first
        | (with_reducible show wpList _ _ _ ({ dst := _, op := Op.load 34 _, type := _, pos := _, after := _, guard := _ } :: _) _ _; refine wpList_load1_has h rfl 34 _ rfl rfl hbw3 gk Try.underlying34 rfl ?_)
        | (with_reducible show wpList _ _ _ ({ dst := _, op := Op.store 34 _ _, type := _, pos := _, after := _, guard := _ } :: _) _ _; refine wpList_store1_has h rfl 34 _ _ rfl rfl rfl hb7 hs9 rfl (by kernel_rfl) ?_; clear h; intro w h))
      have h4 : Has σ ((M2.upd b7 (.cells erow 37)).upd b7 (.cells (erow.setIfInBounds (1 + k) (.int .u64 (f (a + (10 + k))))) 37)) w := h
      rw [Mm.upd_upd, ← hrow, ints_set, S.out] at h4
      clear h
      have h := h4
      clear h4
      go_roundw
      case rel => exact ⟨k + 1, by have := HLT.out; omega, by go_num, h⟩
      case measure => have := HLT.out; simp [intOf]; omega
    · obtain rfl : k = 8 := by omega
      rw [eUp_all] at h hb7 hbw3
      have hb6' : (M2.upd b7 (.cells (ints .u64 9 (eN (f (a + 1)) fun t => f (a + (10 + t)))) 37)) b6 = some (.cells (ints .u64 9 fun _ => 0) 37) := Mm.upd_of hn7 hb6
      have dx : (ints .u64 9 (eN (f (a + 1)) fun t => f (a + (10 + t)))).extract 0 (0 + 9) = ints .u64 9 (eN (f (a + 1)) fun t => f (a + (10 + t))) := rfl
      have dz : (ints .u64 9 (eN (f (a + 1)) fun t => f (a + (10 + t)))).size = 9 := ints_size _ _ _
      have d1 : (ints .u64 9 (eN (f (a + 1)) fun t => f (a + (10 + t)))).toList.all (·.oneCell') = true := rfl
      have dzz : (ints .u64 9 fun _ => (0 : Int)).size = 9 := ints_size _ _ _
      clear hbw3 hk hlt
      generalize hrow : ints .u64 9 (eN (f (a + 1)) fun t => f (a + (10 + t))) = erow at *
      have HROW := Lib.hid hrow
      clear hrow
      have hle4 := Mm.le_trans hle1 (Mm.le_upd' hn7 (.cells erow 37))
      generalize M2.upd b7 _ = M4 at *
      go_wp2_with (first
        | ((with_reducible show wpList _ _ _ ({ dst := _, op := Op.load 37 _, type := _, pos := _, after := _, guard := _ } :: _) _ _); refine wpList_agg_has h rfl 37 _ rfl rfl hb7 dx dz Try.underlying37 rfl (by kernel_rfl) ?_; try simp only [Act.put, List.setIfInBounds_toArray, List.set_cons_zero, List.set_cons_succ])
        | ((with_reducible show wpList _ _ _ ({ dst := _, op := Op.store 37 _ _, type := _, pos := _, after := _, guard := _ } :: _) _ _); (refine wpList_storeAll_has (cells := erow) h rfl 37 _ _ rfl rfl rfl hb6' rfl dzz dz (by kernel_rfl) d1 ?_); clear h; intro w h))
      exact bodyPost_ret (results_cell_row rfl _ _ _ _ _ _ _ rfl (h.at_ b6 _ (Mm.upd_same _ _ _)) Try.underlying37 rfl (by rw [dz]; kernel_rfl)) rfl ⟨by rw [HROW.out], h.le (Mm.le_upd hle4 hn0 _)⟩
set_option maxHeartbeats 4000000 in
set_option maxRecDepth 20000 in
/-- What the law reads of a level. -/
theorem nowL_eq {σ w : World} {M : Mm} {lab : Nat → Nat} {p n l L B S : Nat} {s : MachS} {c : Nat → Int} {tp : List Nat} {e : EpG} (h : Has σ M w) (hM : Mach M lab p s) (hA : AbsE c tp n s e) (hn : Nums c L B S) (hl : l < L) : Calls Try.prog 16 #[.pointer (some ⟨p, 0, none⟩), .int .i64 (l : Nat)] w fun r w' => r = .returned (.agg (ints .u64 9 (eN (e.ep l) fun t => e.act l t))) ∧ Has σ M w' := by
  obtain rfl := hA.cc
  obtain ⟨g, hG, rfl, _, _⟩ := hA
  have hl0 := hn.l0
  have hb0 := hn.b0
  have hs0 := hn.s0
  have hN1 : s.mem.N = L * (18 + B + 6 * S) := by
    have h1 := hM.memN
    rw [hn.lev, hn.sz, ← Int.natCast_mul] at h1
    exact Int.ofNat_inj.1 h1
  have hN2 : L * (18 + B + 6 * S) ≤ 4 * (18 + 40 + 6 * 60) := Nat.mul_le_mul (by omega) (by omega)
  have PL := Lib.hid (fun (M' : Mm) (hle : M.le M') (w : World) (h : Has σ M' w) => mPlan_eq h (hM.keep (Kp.le hle fun _ => 0) fun _ _ h => h))
  have CF := Lib.hid (fun (M' : Mm) (hle : M.le M') (w : World) (h : Has σ M' w) => conf_has h s.c (hM.keep (Kp.le hle fun _ => 0) fun _ _ h => h).plan)
  have ME := Lib.hid (fun (M' : Mm) (hle : M.le M') (w : World) (h : Has σ M' w) => mMem_eq h (hM.keep (Kp.le hle fun _ => 0) fun _ _ h => h))
  have WO := Lib.hid (fun (M' : Mm) (hle : M.le M') (w : World) (h : Has σ M' w) => memWords_eq h (hM.keep (Kp.le hle fun _ => 0) fun _ _ h => h).mem (by omega))
  have wd : ∀ o, o < 18 → s.mem.f (l * (18 + B + 6 * S) + o) = (g.w l o : Int) := fun o ho => by
    have := hG.words l o (by rw [hn.lev]; omega) (by rw [hn.sz]; omega)
    rw [hn.sz, Int.toNat_natCast] at this
    exact this
  have hval : ints .u64 9 (eN (s.mem.f (l * (18 + B + 6 * S) + 1)) fun t => s.mem.f (l * (18 + B + 6 * S) + (10 + t))) = ints .u64 9 (eN ((eOf g).ep l : Int) fun t => ((eOf g).act l t : Int)) := ints_congr fun i hi => by
    unfold eN
    by_cases e : i = 0
    · rw [if_pos e, if_pos e, wd 1 (by omega)]; rfl
    · rw [if_neg e, if_neg e]; exact wd (10 + (i - 1)) (by omega)
  have RD : Hid (∀ (M' : Mm) (w : World) (bw : Nat), Has σ M' w → M' bw = some (.cells (ints .u64 s.mem.N s.mem.f) 34) → Calls Try.prog 39 #[.agg (ints .i64 14 s.c), .slice (some ⟨bw, 0, none⟩) s.mem.N s.mem.N, .int .i64 (l : Nat)] w fun r w' => r = .returned (.agg (ints .u64 9 (eN ((eOf g).ep l : Int) fun t => ((eOf g).act l t : Int)))) ∧ Has σ M' w') := Lib.hid fun M' w bw h hb => by
    rw [← hval]
    exact refRead_eq h s.c hn hN1 hb hl
  clear wd hval hG hn hM hN1 hN2 hl hl0 hb0 hs0
  have eR : s.mem.row = .cells (ints .u64 s.mem.N s.mem.f) 34 := rfl
  rw [eR] at WO
  clear eR
  have d1 : (ints .u64 9 (eN ((eOf g).ep l : Int) fun t => ((eOf g).act l t : Int))).toList.all (·.oneCell') = true := rfl
  have dz : (ints .u64 9 (eN ((eOf g).ep l : Int) fun t => ((eOf g).act l t : Int))).size = 9 := ints_size _ _ _
  have dzz : (ints .u64 9 fun _ => (0 : Int)).size = 9 := ints_size _ _ _
  generalize ints .u64 9 (eN ((eOf g).ep l : Int) fun t => ((eOf g).act l t : Int)) = erow at *
  generalize ints .i64 14 s.c = row at *
  generalize ints .u64 s.mem.N s.mem.f = wrow at *
  generalize s.mem.N = N at *
  go_enter Try.func16, Try.ntmps16
  go_upto_region 1 with (first
    | ((with_reducible show wpList _ _ _ ({ dst := _, op := Op.alloc 37, type := _, pos := _, after := _, guard := _ } :: _) _ _); refine wpList_alloc_has h rfl 37 rfl _ zE ?_; clear h; intro b4 w h hn4; try simp only [Act.put, List.setIfInBounds_toArray, List.set_cons_zero, List.set_cons_succ]))
  have hle := Mm.le_upd' hn4 (.cells (ints .u64 9 fun _ => 0) 37)
  have hb4 := Mm.upd_same M b4 (.cells (ints .u64 9 fun _ => 0) 37)
  replace h : Has σ (M.upd b4 (.cells (ints .u64 9 fun _ => 0) 37)) w := h
  generalize M.upd b4 _ = M1 at h hle hb4
  have PL1 := Lib.hid (PL.out M1 hle)
  have CF1 := Lib.hid (CF.out M1 hle)
  have ME1 := Lib.hid (ME.out M1 hle)
  have WO1 := Lib.hid (WO.out M1 hle)
  clear PL CF ME WO
  go_wp2_with (first
    | (go_at_call 31; refine (PL1.out _ h).mono ?_; clear h; rintro _ w ⟨rfl, h⟩)
    | (go_at_call 32; refine (CF1.out _ h).mono ?_; clear h; rintro _ w ⟨rfl, h⟩)
    | (go_at_call 40; refine (ME1.out _ h).mono ?_; clear h; rintro _ w ⟨rfl, h⟩)
    | ((go_at_call 41; refine (WO1.out _ h).mono ?_; clear h; rintro _ w ⟨bw, M3, rfl, h, hle3, hnw, hbw⟩; have hb43 := hle3 _ _ hb4))
    | ((go_at_call 39; refine (RD.out M3 _ bw h hbw).mono ?_; clear h; rintro _ w ⟨rfl, h⟩))
    | ((with_reducible show wpList _ _ _ ({ dst := _, op := Op.store 37 _ _, type := _, pos := _, after := _, guard := _ } :: _) _ _); (refine wpList_storeAll_has (cells := erow) h rfl 37 _ _ rfl rfl rfl hb43 rfl dzz dz (by kernel_rfl) d1 ?_); clear h; intro w h))
  exact bodyPost_ret (results_cell_row rfl _ _ _ _ _ _ _ rfl (h.at_ b4 _ (Mm.upd_same _ _ _)) Try.underlying37 rfl (by rw [dz]; kernel_rfl)) rfl ⟨rfl, h.le (Mm.le_upd (Mm.le_trans hle hle3) hn4 _)⟩
end
section
open Go.RowKit
set_option linter.unusedVariables false
def levT (c : Nat → Int) (t : Nat) : Nat := (levelOf c t).toNat
theorem levT_of {c : Nat → Int} {L B S T : Nat} (hc : ConfMay c) (hn : Nums c L B S) (hT : c 1 = (T : Nat)) {t : Nat} (ht : t < T) : levelOf c (t : Nat) = (levT c t : Nat) ∧ levT c t < L := by
  obtain ⟨_, ⟨a3, a4⟩, _, a5, _⟩ := id hc
  have h8 := a5 t (by omega)
  have hl : levelOf c (t : Nat) = c (2 + t) := by
    unfold levelOf
    rw [if_pos ⟨decide_eq_true hc, by omega, by omega⟩, Int.toNat_natCast]
  have hlev := hn.lev
  unfold levT
  rw [hl]
  omega
theorem levT_out {c : Nat → Int} {T : Nat} (hT : c 1 = (T : Nat)) {t : Int} (ht : ¬ (0 ≤ t ∧ t < T)) : levelOf c t = -1 := by
  unfold levelOf
  exact if_neg fun g => ht ⟨g.2.1, by have := g.2.2; omega⟩
theorem lev_cell {c : Nat → Int} {L B S T : Nat} (hc : ConfMay c) (hn : Nums c L B S) (hT : c 1 = (T : Nat)) {y : Nat} (hy : y < T) : c (2 + y) = (levT c y : Nat) := by
  rw [← (levT_of hc hn hT hy).1]
  unfold levelOf
  rw [if_pos ⟨decide_eq_true hc, by omega, by omega⟩, Int.toNat_natCast]
end
section
open Go.RowKit
set_option linter.unusedVariables false
set_option linter.unusedSimpArgs false
set_option linter.unnecessarySimpa false
theorem atC_atL {c : Nat → Int} {L B S T l : Nat} (hc : ConfMay c) (hn : Nums c L B S) (hT : c 1 = (T : Nat)) : atC c T l = atL T (levT c) l := by
  unfold atC atL
  refine List.filter_congr fun t ht => ?_
  rw [lev_cell hc hn hT (List.mem_range.1 ht), Bool.eq_iff_iff, beq_iff_eq, beq_iff_eq]
  exact Int.ofNat_inj
theorem w0_le (B S r : Nat) (hS : S ≤ 60) : w0 B S S r ≤ 100 := by
  unfold w0
  repeat' split
  all_goals omega
/-- Epochs and announcements at first. -/
def e00 (B S : Nat) : EpG := eOf (gm0 B S)
theorem absE_first {c : Nat → Int} {L B S : Nat} {s : MachS} (hn : Nums c L B S) (hc : ConfMay c) (h : s.New c L B S) (hw : s.ward.lv = s.c 0 ∧ s.ward.sl = s.c 10) : AbsE c s.tp 0 s (e00 B S) :=
  ⟨gm0 B S, absM_first hn hc h hw, rfl, fun t => Nat.zero_le _, fun l y => by
    show (w0 B S S (10 + y)).toNat < _
    have := w0_le B S (10 + y) hn.s0.2
    have := w0_nn B S S (10 + y)
    omega⟩
theorem e00_ep (B S l : Nat) : (e00 B S).ep l = 2 := rfl
theorem e00_act {B S : Nat} (l : Nat) {t : Nat} (ht : t < 8) : (e00 B S).act l t = 0 := by
  show (w0 B S S (10 + t)).toNat = 0
  unfold w0
  rw [if_neg (by omega), if_neg (by omega), if_neg (by omega), if_neg (by omega)]
  rfl
theorem e00_thr (B S t : Nat) : (e00 B S).thr t = none := rfl
/-- A routine alone, over a row of its states. -/
theorem ep_alone {σ w : World} {K M : Mm} {lab : Nat → Nat} {p t q n L B S T : Nat} {s : MachS} {c : Nat → Int} {tp : List Nat} {e : EpG} (h : Has σ M w) (hM : Mach M lab p s) (hB : Base K M lab) (hA : AbsE c tp n s e) (hc : ConfMay c) (hn : Nums c L B S) (hT : c 1 = (T : Nat)) (hn9 : n < 90000) (ht : t < T) (hq : tp[t]? = some q) (hi : e.thr t = none) {fn k most : Nat} {es : Nat → EpG} (h0 : es 0 = e.go t ⟨fn, 0, 0, 0⟩) (hR : RowE (atL T (levT c) (levT c t)) t (levT c t) k es) (hk0 : 0 < k) (hk : k < 100) (hkm : k ≤ most) (hm : most < 1000) :
    Calls Try.prog 13 #[.pointer (some ⟨p, 0, none⟩), .int .i64 (t : Nat), (.func (.func 14) #[] #[]), .int .i64 (most : Nat), .int .i64 (fn : Nat), .slice none 0 0] w fun r w' => r = .returned (.int .i64 (k : Nat)) ∧ ∃ M' lab' s', Has σ M' w' ∧ Mach M' lab' p s' ∧ Base K M' lab' ∧ AbsE c tp (n + k) s' (es k) := by
  obtain ⟨elv, ll⟩ := levT_of hc hn hT ht
  have ht1 : (t : Int) < c 1 := by rw [hT]; omega
  have hfr : (s.thr t).frames.length = 0 := by rw [hA.frames ht1, hi]; rfl
  rw [← atC_atL hc hn hT] at hR
  have TR := hR.trail (σ := σ) (K := K) (p := p) (n := n) hk (by omega) ht1 hq elv (by rw [hn.lev]; omega) hT
  rw [← hfr] at TR
  refine (alone_rel h hM hB (by rw [hA.ttp]; exact hq) (us := []) (Rd.nil _ _ _) (by simp) (by omega) fn (P := fun i s => AbsE c tp (n + i) s (es i)) (by rw [h0]; exact hA.begun ht1 hi fn) hk0 hkm (by omega) TR).mono fun r w' hr => hr
theorem ep_pin {σ w : World} {K M : Mm} {lab : Nat → Nat} {p t q n L B S T : Nat} {s : MachS} {c : Nat → Int} {tp : List Nat} {e : EpG} (h : Has σ M w) (hM : Mach M lab p s) (hB : Base K M lab) (hA : AbsE c tp n s e) (hc : ConfMay c) (hn : Nums c L B S) (hT : c 1 = (T : Nat)) (hn9 : n < 90000) (ht : t < T) (hq : tp[t]? = some q) (hi : e.thr t = none) (hb : e.ep (levT c t) < 1000000000) {most : Nat} (h3 : 3 ≤ most) (hm : most < 1000) : Calls Try.prog 13 #[.pointer (some ⟨p, 0, none⟩), .int .i64 (t : Nat), (.func (.func 14) #[] #[]), .int .i64 (most : Nat), .int .i64 (10 : Nat), .slice none 0 0] w fun r w' => ∃ k : Nat, r = .returned (.int .i64 (k : Nat)) ∧ 0 < k ∧ k ≤ 20 ∧ ∃ M' lab' s', Has σ M' w' ∧ Mach M' lab' p s' ∧ Base K M' lab' ∧ AbsE c tp (n + k) s' ((e.setA (levT c t) t (2 * e.ep (levT c t) + 1)).back t (e.ep (levT c t))) := by
  obtain ⟨es, h0, hR, ek⟩ := pin_row (al := atL T (levT c) (levT c t)) (t := t) hb
  refine (ep_alone h hM hB hA hc hn hT hn9 ht hq hi h0 hR (by omega) (by omega) h3 hm).mono fun r w' ⟨hr, M', lab', s', a⟩ => ⟨3, hr, by omega, by omega, M', lab', s', ?_⟩
  rw [ek] at a; exact a
theorem ep_unpin {σ w : World} {K M : Mm} {lab : Nat → Nat} {p t q n L B S T : Nat} {s : MachS} {c : Nat → Int} {tp : List Nat} {e : EpG} (h : Has σ M w) (hM : Mach M lab p s) (hB : Base K M lab) (hA : AbsE c tp n s e) (hc : ConfMay c) (hn : Nums c L B S) (hT : c 1 = (T : Nat)) (hn9 : n < 90000) (ht : t < T) (hq : tp[t]? = some q) (hi : e.thr t = none) {most : Nat} (h1 : 1 ≤ most) (hm : most < 1000) : Calls Try.prog 13 #[.pointer (some ⟨p, 0, none⟩), .int .i64 (t : Nat), (.func (.func 14) #[] #[]), .int .i64 (most : Nat), .int .i64 (11 : Nat), .slice none 0 0] w fun r w' => ∃ k : Nat, r = .returned (.int .i64 (k : Nat)) ∧ 0 < k ∧ k ≤ 20 ∧ ∃ M' lab' s', Has σ M' w' ∧ Mach M' lab' p s' ∧ Base K M' lab' ∧ AbsE c tp (n + k) s' ((e.setA (levT c t) t 0).back t 0) := by
  obtain ⟨es, h0, hR, ek⟩ := unpin_row (al := atL T (levT c) (levT c t)) (t := t) (l := levT c t) (e := e)
  refine (ep_alone h hM hB hA hc hn hT hn9 ht hq hi h0 hR (by omega) (by omega) h1 hm).mono fun r w' ⟨hr, M', lab', s', a⟩ => ⟨1, hr, by omega, by omega, M', lab', s', ?_⟩
  rw [ek] at a; exact a
theorem ep_adv {σ w : World} {K M : Mm} {lab : Nat → Nat} {p t q n L B S T : Nat} {s : MachS} {c : Nat → Int} {tp : List Nat} {e : EpG} (h : Has σ M w) (hM : Mach M lab p s) (hB : Base K M lab) (hA : AbsE c tp n s e) (hc : ConfMay c) (hn : Nums c L B S) (hT : c 1 = (T : Nat)) (hn9 : n < 90000) (ht : t < T) (hq : tp[t]? = some q) (hi : e.thr t = none) (hb : e.ep (levT c t) < 1000000000) {most : Nat} (h2 : (atL T (levT c) (levT c t)).length + 2 ≤ most) (hm : most < 1000) : Calls Try.prog 13 #[.pointer (some ⟨p, 0, none⟩), .int .i64 (t : Nat), (.func (.func 14) #[] #[]), .int .i64 (most : Nat), .int .i64 (12 : Nat), .slice none 0 0] w fun r w' => ∃ k : Nat, r = .returned (.int .i64 (k : Nat)) ∧ 0 < k ∧ k ≤ 20 ∧ ∃ M' lab' s', Has σ M' w' ∧ Mach M' lab' p s' ∧ Base K M' lab' ∧ AbsE c tp (n + k) s' (advE (atL T (levT c) (levT c t)) t (levT c t) e) := by
  have hT8 : T ≤ 8 := by have := hc.2.1; omega
  have h8 : (atL T (levT c) (levT c t)).length ≤ 8 := Nat.le_trans atL_len hT8
  obtain ⟨k, es, k1, k2, h0, hR, ek⟩ := adv_row (al := atL T (levT c) (levT c t)) (t := t) hb h8 (atL_pos ht)
  refine (ep_alone h hM hB hA hc hn hT hn9 ht hq hi h0 hR k2 (by omega) (by omega) hm).mono fun r w' ⟨hr, M', lab', s', a⟩ => ⟨k, hr, k2, by omega, M', lab', s', ?_⟩
  rw [ek] at a; exact a
/-- What a thread was told last. -/
theorem ep_told {M : Mm} {lab : Nat → Nat} {p t q n : Nat} {s : MachS} {c : Nat → Int} {tp : List Nat} {e : EpG} (hM : Mach M lab p s) (hA : AbsE c tp n s e) (hq : tp[t]? = some q) : ∃ row ty, M q = some (.cells row ty (0, 0)) ∧ row[0]? = some (.int .u64 (e.t0 t : Nat)) := by
  obtain ⟨fv, hv, fbs, hTh⟩ := hM.each t q (by rw [hA.ttp]; exact hq)
  refine ⟨_, _, hTh.obj, ?_⟩
  show some (Value.int .u64 ((s.thr t).told 0)) = _
  rw [hA.told t]
end
section
open Go.RowKit
set_option linter.unusedVariables false
set_option linter.unusedSimpArgs false
set_option linter.unnecessarySimpa false

def okOf (c : Nat → Int) (t : Nat) : Prop := (c 1 ≤ (t : Int) → c (2 + t) = 0) ∧ 0 ≤ c (2 + t) ∧ c (2 + t) < c 0
theorem confMay_iff (c : Nat → Int) : ConfMay c ↔ (1 ≤ c 0 ∧ c 0 ≤ 4) ∧ (1 ≤ c 1 ∧ c 1 ≤ 8) ∧ (∀ t, t < 8 → okOf c t) ∧ (2 ≤ c 10 ∧ c 10 ≤ 60) ∧ (1 ≤ c 11 ∧ c 11 ≤ 40) ∧ (1 ≤ c 12 ∧ c 12 ≤ 1048576) ∧ (0 ≤ c 13 ∧ c 13 ≤ 60) := by
  unfold ConfMay okOf
  constructor
  · rintro ⟨h0, h1, h2, h3, h4, h5, h6, h7⟩
    refine ⟨h0, h1, fun t ht => ⟨fun hc => ?_, (h3 t ht).1, by have := h3 t ht; omega⟩, h4, h5, h6, h7⟩
    rw [h2 t ht, clearedOf, if_pos (by omega)]
  · rintro ⟨h0, h1, h2, h4, h5, h6, h7⟩
    refine ⟨h0, h1, fun t ht => ?_, fun t ht => ?_, h4, h5, h6, h7⟩
    · unfold clearedOf
      split
      · exact (h2 t ht).1 (by omega)
      · rfl
    · have := h2 t ht
      omega
theorem confMayB_false {c : Nat → Int} (h : ¬ ConfMay c) : confMayB c = false := decide_eq_false h

set_option maxHeartbeats 4000000 in
theorem refMay_has {σ w : World} {M : Mm} (h : Has σ M w) (c : Nat → Int) : Calls Try.prog 7 #[confV c] w fun e w' => e = .returned (.bool (confMayB c)) ∧ Has σ M w' := by
  have NO : Hid (¬ ConfMay c → confMayB c = false) := confMayB_false
  have YES : Hid (ConfMay c → confMayB c = true) := fun h => decide_eq_true h
  have IFF := Lib.hid (confMay_iff c)
  simp only [confV, ints14_lit]
  go_enter Try.func7, Try.ntmps7
  go_upto_region 1 with (fail)
  obtain ⟨M1, hbx, hle, hb, hn⟩ := h.box (.cells #[.int .i64 (c 0), .int .i64 (c 1), .int .i64 (c 2), .int .i64 (c 3), .int .i64 (c 4), .int .i64 (c 5), .int .i64 (c 6), .int .i64 (c 7), .int .i64 (c 8), .int .i64 (c 9), .int .i64 (c 10), .int .i64 (c 11), .int .i64 (c 12), .int .i64 (c 13)] 24)
  generalize w.alloc _ = wx at hbx ⊢
  generalize w.heap.size = b at hb hn ⊢
  clear h
  try clear w
  have h := hbx
  clear hbx
  obtain ⟨w, rfl⟩ : ∃ x : World, x = wx := ⟨_, rfl⟩
  have c0 : w.cell? ⟨b, 0, none⟩ = some (.int .i64 (c 0)) := h.cell hb 0
  have c1 : w.cell? ⟨b, 1, none⟩ = some (.int .i64 (c 1)) := h.cell hb 1
  by_cases hr : (1 ≤ c 0 ∧ c 0 ≤ 4) ∧ (1 ≤ c 1 ∧ c 1 ≤ 8)
  · obtain ⟨⟨r0, r1⟩, r2, r3⟩ := hr
    have q0 : ¬ c 0 < 1 := by omega
    have q1 : ¬ 4 < c 0 := by omega
    have q2 : ¬ c 1 < 1 := by omega
    have q3 : ¬ 8 < c 1 := by omega
    go_wp2
    clear c0 c1 q0 q1 q2 q3
    go_loopw [3] (fun i wr => ∃ k : Nat, k ≤ 8 ∧ i = .int .i64 k ∧ Has σ M1 wr ∧ ∀ t, t < k → okOf c t) (fun i _ => 8 - (intOf i).toNat)
    case atStart => exact ⟨0, by omega, rfl, h, fun t ht => absurd ht (by omega)⟩
    case round =>
      clear h w
      obtain ⟨w, rfl⟩ : ∃ x : World, x = wr := ⟨_, rfl⟩
      obtain ⟨k, hk, rfl, h, hall⟩ := hrel
      have HA := Lib.hid hall
      clear hall
      by_cases hlt : k < 8
      · have e0 : (#[.int .i64 (c 0), .int .i64 (c 1), .int .i64 (c 2), .int .i64 (c 3), .int .i64 (c 4), .int .i64 (c 5), .int .i64 (c 6), .int .i64 (c 7), .int .i64 (c 8), .int .i64 (c 9), .int .i64 (c 10), .int .i64 (c 11), .int .i64 (c 12), .int .i64 (c 13)] : Array Value)[0]? = some (.int .i64 (c 0)) := rfl
        have e1 : (#[.int .i64 (c 0), .int .i64 (c 1), .int .i64 (c 2), .int .i64 (c 3), .int .i64 (c 4), .int .i64 (c 5), .int .i64 (c 6), .int .i64 (c 7), .int .i64 (c 8), .int .i64 (c 9), .int .i64 (c 10), .int .i64 (c 11), .int .i64 (c 12), .int .i64 (c 13)] : Array Value)[1]? = some (.int .i64 (c 1)) := rfl
        have e2 : (#[.int .i64 (c 0), .int .i64 (c 1), .int .i64 (c 2), .int .i64 (c 3), .int .i64 (c 4), .int .i64 (c 5), .int .i64 (c 6), .int .i64 (c 7), .int .i64 (c 8), .int .i64 (c 9), .int .i64 (c 10), .int .i64 (c 11), .int .i64 (c 12), .int .i64 (c 13)] : Array Value)[2 + k]? = some (.int .i64 (c (2 + k))) := by rw [← ints14_lit, ints_get (by omega)]
        have OK : Hid (okOf c k ↔ (c 1 ≤ (k : Int) → c (2 + k) = 0) ∧ 0 ≤ c (2 + k) ∧ c (2 + k) < c 0) := Iff.rfl
        generalize c (2 + k) = x at e2 OK
        generalize (#[.int .i64 (c 0), .int .i64 (c 1), .int .i64 (c 2), .int .i64 (c 3), .int .i64 (c 4), .int .i64 (c 5), .int .i64 (c 6), .int .i64 (c 7), .int .i64 (c 8), .int .i64 (c 9), .int .i64 (c 10), .int .i64 (c 11), .int .i64 (c 12), .int .i64 (c 13)] : Array Value) = cs at hb e0 e1 e2
        go_upto_region 6 with (fail)
        by_cases hok : okOf c k
        · obtain ⟨p1, p2, p3⟩ := OK.out.1 hok
          have HN : Hid (∀ t, t < k + 1 → okOf c t) := fun t ht => by
            rcases Nat.lt_or_ge t k with h1 | h1
            · exact HA.out t h1
            · obtain rfl : t = k := by omega
              exact hok
          have n2 : ¬ x < 0 := by omega
          have n3 : ¬ c 0 ≤ x := by omega
          clear hok
          by_cases hc1 : c 1 ≤ (k : Int)
          · have hx0 := p1 hc1
            clear p1
            have hx0' : (x != 0) = false := by simp [hx0]
            have H0 := Lib.hid hx0
            clear hx0
            refine wp_region_class (Has σ M1) (by kernel_rfl) (by kernel_rfl) h.drew ?_
            clear h
            repeat (first
              | go_big_quiet_skip
              | (go_big_quiet_want; first
                | (refine quiet_load_has 3 _ rfl rfl hb e0 Try.underlying3 rfl ?_; simp only [Act.put, List.setIfInBounds_toArray, List.set_cons_zero, List.set_cons_succ]; go_big_quiet_on)
                | (refine quiet_load_has 3 _ rfl rfl hb e1 Try.underlying3 rfl ?_; simp only [Act.put, List.setIfInBounds_toArray, List.set_cons_zero, List.set_cons_succ]; go_big_quiet_on)
                | (refine quiet_load_has 3 _ rfl rfl hb e2 Try.underlying3 rfl ?_; simp only [Act.put, List.setIfInBounds_toArray, List.set_cons_zero, List.set_cons_succ]; go_big_quiet_on)
                | (go_big_quiet_op; first | go_big_quiet_on | go_big_quiet_call (first | with_reducible exact fun _ => rfl))))
            refine wpQuiet_nil ?_
            try clear w
            intro w h
            go_wp2
            go_roundw
            case rel => exact ⟨k + 1, by omega, by go_num, h, HN.out⟩
            case measure => simp [intOf]; omega
          · clear p1
            refine wp_region_class (Has σ M1) (by kernel_rfl) (by kernel_rfl) h.drew ?_
            clear h
            repeat (first
              | go_big_quiet_skip
              | (go_big_quiet_want; first
                | (refine quiet_load_has 3 _ rfl rfl hb e0 Try.underlying3 rfl ?_; simp only [Act.put, List.setIfInBounds_toArray, List.set_cons_zero, List.set_cons_succ]; go_big_quiet_on)
                | (refine quiet_load_has 3 _ rfl rfl hb e1 Try.underlying3 rfl ?_; simp only [Act.put, List.setIfInBounds_toArray, List.set_cons_zero, List.set_cons_succ]; go_big_quiet_on)
                | (refine quiet_load_has 3 _ rfl rfl hb e2 Try.underlying3 rfl ?_; simp only [Act.put, List.setIfInBounds_toArray, List.set_cons_zero, List.set_cons_succ]; go_big_quiet_on)
                | (go_big_quiet_op; first | go_big_quiet_on | go_big_quiet_call (first | with_reducible exact fun _ => rfl))))
            refine wpQuiet_nil ?_
            try clear w
            intro w h
            go_wp2
            go_roundw
            case rel => exact ⟨k + 1, by omega, by go_num, h, HN.out⟩
            case measure => simp [intOf]; omega
        · have N := Lib.hid (NO.out fun h1 => hok ((IFF.out.1 h1).2.2.1 k hlt))
          have hcase : (c 1 ≤ (k : Int) ∧ x ≠ 0) ∨ ((c 1 ≤ (k : Int) → x = 0) ∧ x < 0) ∨ ((c 1 ≤ (k : Int) → x = 0) ∧ ¬ x < 0 ∧ c 0 ≤ x) := by
            by_cases a1 : c 1 ≤ (k : Int) ∧ x ≠ 0
            · exact .inl a1
            · by_cases a2 : x < 0
              · exact .inr (.inl ⟨fun h1 => Classical.byContradiction fun h2 => a1 ⟨h1, h2⟩, a2⟩)
              · refine .inr (.inr ⟨fun h1 => Classical.byContradiction fun h2 => a1 ⟨h1, h2⟩, a2, ?_⟩)
                apply Classical.byContradiction
                intro h3
                exact hok (OK.out.2 ⟨fun h1 => Classical.byContradiction fun h2 => a1 ⟨h1, h2⟩, by omega, by omega⟩)
          clear hok
          rcases hcase with ⟨a1, a2⟩ | ⟨a1, a2⟩ | ⟨a1, a2, a3⟩
          · have hx0' : (x != 0) = true := by simpa using a2
            clear a2
            refine wp_region_class (Has σ M1) (by kernel_rfl) (by kernel_rfl) h.drew ?_
            clear h
            repeat (first
              | go_big_quiet_skip
              | (go_big_quiet_want; first
                | (refine quiet_load_has 3 _ rfl rfl hb e0 Try.underlying3 rfl ?_; simp only [Act.put, List.setIfInBounds_toArray, List.set_cons_zero, List.set_cons_succ]; go_big_quiet_on)
                | (refine quiet_load_has 3 _ rfl rfl hb e1 Try.underlying3 rfl ?_; simp only [Act.put, List.setIfInBounds_toArray, List.set_cons_zero, List.set_cons_succ]; go_big_quiet_on)
                | (refine quiet_load_has 3 _ rfl rfl hb e2 Try.underlying3 rfl ?_; simp only [Act.put, List.setIfInBounds_toArray, List.set_cons_zero, List.set_cons_succ]; go_big_quiet_on)
                | (go_big_quiet_op; first | go_big_quiet_on | go_big_quiet_call (first | with_reducible exact fun _ => rfl))))
            refine wpQuiet_nil ?_
            try clear w
            intro w h
            go_wp2
            go_ret
            exact ⟨by rw [N.out]; rfl, h.le hle⟩
          · by_cases hc1 : c 1 ≤ (k : Int)
            · have hx0 := a1 hc1
              omega
            · clear a1
              refine wp_region_class (Has σ M1) (by kernel_rfl) (by kernel_rfl) h.drew ?_
              clear h
              repeat (first
                | go_big_quiet_skip
                | (go_big_quiet_want; first
                  | (refine quiet_load_has 3 _ rfl rfl hb e0 Try.underlying3 rfl ?_; simp only [Act.put, List.setIfInBounds_toArray, List.set_cons_zero, List.set_cons_succ]; go_big_quiet_on)
                  | (refine quiet_load_has 3 _ rfl rfl hb e1 Try.underlying3 rfl ?_; simp only [Act.put, List.setIfInBounds_toArray, List.set_cons_zero, List.set_cons_succ]; go_big_quiet_on)
                  | (refine quiet_load_has 3 _ rfl rfl hb e2 Try.underlying3 rfl ?_; simp only [Act.put, List.setIfInBounds_toArray, List.set_cons_zero, List.set_cons_succ]; go_big_quiet_on)
                  | (go_big_quiet_op; first | go_big_quiet_on | go_big_quiet_call (first | with_reducible exact fun _ => rfl))))
              refine wpQuiet_nil ?_
              try clear w
              intro w h
              go_wp2
              go_ret
              exact ⟨by rw [N.out]; rfl, h.le hle⟩
          · by_cases hc1 : c 1 ≤ (k : Int)
            · have hx0 := a1 hc1
              omega
            · clear a1
              refine wp_region_class (Has σ M1) (by kernel_rfl) (by kernel_rfl) h.drew ?_
              clear h
              repeat (first
                | go_big_quiet_skip
                | (go_big_quiet_want; first
                  | (refine quiet_load_has 3 _ rfl rfl hb e0 Try.underlying3 rfl ?_; simp only [Act.put, List.setIfInBounds_toArray, List.set_cons_zero, List.set_cons_succ]; go_big_quiet_on)
                  | (refine quiet_load_has 3 _ rfl rfl hb e1 Try.underlying3 rfl ?_; simp only [Act.put, List.setIfInBounds_toArray, List.set_cons_zero, List.set_cons_succ]; go_big_quiet_on)
                  | (refine quiet_load_has 3 _ rfl rfl hb e2 Try.underlying3 rfl ?_; simp only [Act.put, List.setIfInBounds_toArray, List.set_cons_zero, List.set_cons_succ]; go_big_quiet_on)
                  | (go_big_quiet_op; first | go_big_quiet_on | go_big_quiet_call (first | with_reducible exact fun _ => rfl))))
              refine wpQuiet_nil ?_
              try clear w
              intro w h
              go_wp2
              go_ret
              exact ⟨by rw [N.out]; rfl, h.le hle⟩
      · obtain rfl : k = 8 := by omega
        have c10 : w.cell? ⟨b, 10, none⟩ = some (.int .i64 (c 10)) := h.cell hb 10
        have c11 : w.cell? ⟨b, 11, none⟩ = some (.int .i64 (c 11)) := h.cell hb 11
        have c12 : w.cell? ⟨b, 12, none⟩ = some (.int .i64 (c 12)) := h.cell hb 12
        have c13 : w.cell? ⟨b, 13, none⟩ = some (.int .i64 (c 13)) := h.cell hb 13
        have hmay : confMayB c = decide ((2 ≤ c 10 ∧ c 10 ≤ 60) ∧ (1 ≤ c 11 ∧ c 11 ≤ 40) ∧ (1 ≤ c 12 ∧ c 12 ≤ 1048576) ∧ (0 ≤ c 13 ∧ c 13 ≤ 60)) := by
          by_cases hm : (2 ≤ c 10 ∧ c 10 ≤ 60) ∧ (1 ≤ c 11 ∧ c 11 ≤ 40) ∧ (1 ≤ c 12 ∧ c 12 ≤ 1048576) ∧ (0 ≤ c 13 ∧ c 13 ≤ 60)
          · rw [YES.out (IFF.out.2 ⟨⟨r0, r1⟩, ⟨r2, r3⟩, HA.out, hm⟩), decide_eq_true hm]
          · rw [NO.out fun h1 => hm (IFF.out.1 h1).2.2.2, decide_eq_false hm]
        have HM := Lib.hid hmay
        clear hmay
        generalize c 10 = x at c10 HM
        generalize c 11 = y at c11 HM
        generalize c 12 = z at c12 HM
        generalize c 13 = v at c13 HM
        by_cases b1 : x < 2
        · go_wp2
          go_ret
          exact ⟨by rw [HM.out, decide_eq_false (by omega)]; rfl, h.le hle⟩
        · skip
          by_cases b2 : 60 < x
          · go_wp2
            go_ret
            exact ⟨by rw [HM.out, decide_eq_false (by omega)]; rfl, h.le hle⟩
          · skip
            by_cases b3 : y < 1
            · go_wp2
              go_ret
              exact ⟨by rw [HM.out, decide_eq_false (by omega)]; rfl, h.le hle⟩
            · skip
              by_cases b4 : 40 < y
              · go_wp2
                go_ret
                exact ⟨by rw [HM.out, decide_eq_false (by omega)]; rfl, h.le hle⟩
              · skip
                by_cases b5 : ¬ 1 ≤ z
                · go_wp2
                  go_ret
                  exact ⟨by rw [HM.out, decide_eq_false (by omega)]; rfl, h.le hle⟩
                · skip
                  by_cases b6 : ¬ z ≤ 1048576
                  · go_wp2
                    go_ret
                    exact ⟨by rw [HM.out, decide_eq_false (by omega)]; rfl, h.le hle⟩
                  · skip
                    by_cases b7 : ¬ 0 ≤ v
                    · go_wp2
                      go_ret
                      exact ⟨by rw [HM.out, decide_eq_false (by omega)]; rfl, h.le hle⟩
                    · skip
                      by_cases b8 : ¬ v ≤ 60
                      · go_wp2
                        go_ret
                        exact ⟨by rw [HM.out, decide_eq_false (by omega)]; rfl, h.le hle⟩
                      · skip
                        go_wp2
                        go_ret
                        exact ⟨by rw [HM.out, decide_eq_true (by omega)]; rfl, h.le hle⟩
  · skip
    by_cases b1 : c 0 < 1
    · have N := Lib.hid (NO.out fun h1 => by have := IFF.out.1 h1; omega)
      go_wp2
      go_ret
      exact ⟨by rw [N.out]; rfl, h.le hle⟩
    · skip
      by_cases b2 : 4 < c 0
      · have N := Lib.hid (NO.out fun h1 => by have := IFF.out.1 h1; omega)
        go_wp2
        go_ret
        exact ⟨by rw [N.out]; rfl, h.le hle⟩
      · skip
        by_cases b3 : c 1 < 1
        · have N := Lib.hid (NO.out fun h1 => by have := IFF.out.1 h1; omega)
          go_wp2
          go_ret
          exact ⟨by rw [N.out]; rfl, h.le hle⟩
        · skip
          by_cases b4 : 8 < c 1
          · have N := Lib.hid (NO.out fun h1 => by have := IFF.out.1 h1; omega)
            go_wp2
            go_ret
            exact ⟨by rw [N.out]; rfl, h.le hle⟩
          · skip
            omega
end
section
open Go.RowKit
set_option linter.unusedVariables false
set_option linter.unusedSimpArgs false
set_option linter.unnecessarySimpa false
theorem late_no {al : List Nat} {l : Nat} {e : EpG} (h : ∀ y ∈ al, e.act l y = 0 ∨ e.act l y = 2 * e.ep l + 1) : lateN al l e = false := by
  unfold lateN
  rw [List.any_eq_false]
  intro y hy
  unfold lagsN
  rcases h y hy with a | a <;> rw [a] <;> simp
theorem adv_on {al : List Nat} {t l : Nat} {e : EpG} (h : ∀ y ∈ al, e.act l y = 0 ∨ e.act l y = 2 * e.ep l + 1) : advE al t l e = (e.setE l (e.ep l + 1)).back t 1 := by
  unfold advE
  rw [late_no h]; rfl
theorem setA_act (e : EpG) (l t a l' u : Nat) : (e.setA l t a).act l' u = if l' = l ∧ u = t then a else e.act l' u := by
  show put1 e.act l (put1 (e.act l) t a) l' u = _
  by_cases h1 : l' = l
  · subst h1
    rw [put1_same]
    by_cases h2 : u = t
    · subst h2; rw [put1_same, if_pos ⟨rfl, rfl⟩]
    · rw [put1_ne h2, if_neg (fun h => h2 h.2)]
  · rw [put1_ne h1, if_neg (fun h => h1 h.1)]
theorem setE_ep (e : EpG) (l v l' : Nat) : (e.setE l v).ep l' = if l' = l then v else e.ep l' := rfl
def exE : Nat → Int := fun i => if i = 0 then 1 else if i = 1 then 1 else if i = 10 then 2 else if i = 11 then 1 else if i = 12 then 1 else 0
theorem exE_may : ConfMay exE := by decide
theorem exE_nums : Nums exE 1 1 2 := ⟨rfl, rfl, rfl, by omega, by omega, by omega⟩
theorem exE_lev : levT exE 0 = 0 := by decide
theorem exE_at : atL 1 (levT exE) 0 = [0] := by decide
def exE1 : EpG := ((e00 1 2).setA 0 0 5).back 0 2
def exE2 : EpG := (exE1.setE 0 3).back 0 1
theorem exE2_of : advE (atL 1 (levT exE) 0) 0 0 exE1 = exE2 := by
  rw [exE_at, adv_on]
  · rfl
  · intro y hy
    obtain rfl : y = 0 := by simpa using hy
    right; rfl
theorem exE3_of : advE (atL 1 (levT exE) 0) 0 0 exE2 = exE2.back 0 0 := by
  rw [exE_at]
  unfold advE
  rw [show lateN [0] 0 exE2 = true from rfl]; rfl
set_option maxHeartbeats 4000000 in
set_option maxRecDepth 20000 in
theorem ep_lives {σ w : World} {M : Mm} (h : Has σ M w) : Calls Try.prog 8 #[] w fun r w' => r = .returned (.bool true) ∧ Has σ M w' := by
  have NW := Lib.hid (fun (w : World) (h : Has σ M w) => mNew_yes h exE exE_may exE_nums)
  have EC : confV exE = .agg #[.int .i64 1, .int .i64 1, .int .i64 0, .int .i64 0, .int .i64 0, .int .i64 0, .int .i64 0, .int .i64 0, .int .i64 0, .int .i64 0, .int .i64 2, .int .i64 1, .int .i64 1, .int .i64 0] := rfl
  rw [EC] at NW
  clear EC
  go_enter Try.func8, Try.ntmps8
  go_upto_region 2 with (first
    | (go_at_call 6; refine (NW.out _ h).mono ?_; clear h; rintro _ w ⟨p, M1, lab1, s1, rfl, h, hB1, hM1, hN⟩))
  clear NW
  obtain ⟨q, hq0⟩ : ∃ q, s1.tp[0]? = some q := ⟨_, List.getElem?_eq_getElem (by have := hM1.tlen; rw [hN.c] at this; have h2 : exE 1 = 1 := rfl; omega)⟩
  have hA1 := absE_first exE_nums exE_may hN hM1.wsz
  generalize s1.tp = tp at hA1 hq0
  have HQ := Lib.hid hq0
  have P1 : Hid (∀ w : World, Has σ M1 w → Calls Try.prog 13 #[.pointer (some ⟨p, 0, none⟩), .int .i64 0, (.func (.func 14) #[] #[]), .int .i64 9, .int .i64 10, .slice none 0 0] w fun r w' => ∃ k : Nat, r = .returned (.int .i64 (k : Nat)) ∧ 0 < k ∧ k ≤ 20 ∧ ∃ M' lab' s', Has σ M' w' ∧ Mach M' lab' p s' ∧ Base M M' lab' ∧ AbsE exE tp (0 + k) s' exE1) := Lib.hid fun w h => ep_pin (t := 0) (most := 9) h hM1 hB1 hA1 exE_may exE_nums (T := 1) rfl (by omega) (by omega) HQ.out rfl (by decide) (by omega) (by omega)
  clear hN hq0 hA1 hM1 hB1
  go_wp2_with (fail)
  go_at_call 13
  refine (P1.out _ h).mono ?_
  clear h P1
  rintro _ w ⟨k, rfl, hk0, hk, M2, lab2, s2, h, hM, hB, hA⟩
  have HM := Lib.hid hM
  obtain ⟨row, ty, hqb, d0⟩ := ep_told hM hA HQ.out
  have TH : Hid (∀ w : World, Has σ M2 w → Calls Try.prog 15 #[.pointer (some ⟨p, 0, none⟩), .int .i64 0] w fun r w' => r = .returned (.pointer (some ⟨q, 0, none⟩)) ∧ Has σ M2 w') := Lib.hid fun w h => mThread_yes (t := 0) h HM.out (by rw [hA.ttp]; exact HQ.out)
  replace d0 : row[0]? = some (.int .u64 2) := d0
  have gk : ¬ (k : Int) < 0 := by omega
  have gl : (0 : Int) < (k : Int) := by omega
  clear HM
  have P2 : Hid (∀ w : World, Has σ M2 w → Calls Try.prog 13 #[.pointer (some ⟨p, 0, none⟩), .int .i64 0, (.func (.func 14) #[] #[]), .int .i64 9, .int .i64 12, .slice none 0 0] w fun r w' => ∃ k' : Nat, r = .returned (.int .i64 (k' : Nat)) ∧ 0 < k' ∧ k' ≤ 20 ∧ ∃ M' lab' s', Has σ M' w' ∧ Mach M' lab' p s' ∧ Base M M' lab' ∧ AbsE exE tp (0 + k + k') s' exE2) := Lib.hid fun w h => by
    have := ep_adv (t := 0) (most := 9) h hM hB hA exE_may exE_nums (T := 1) rfl (by omega) (by omega) HQ.out rfl (by rw [exE_lev]; decide) (by rw [exE_lev, exE_at]; decide) (by omega)
    rw [exE_lev, exE2_of] at this
    exact this
  have HK := Lib.hid hk
  clear hM hB hA hk0 hk
  go_wp2_with (first | (go_at_call 13; fail) | (with_reducible show wpList _ _ _ ({ dst := _, op := Op.load 34 _, type := _, pos := _, after := _, guard := _ } :: _) _ _; refine wpList_load1_has h rfl 34 _ rfl rfl hqb d0 Try.underlying34 rfl ?_) | (go_at_call 15; refine (TH.out _ h).mono ?_; clear h; rintro _ w ⟨rfl, h⟩))
  clear hqb d0 TH gk gl
  go_at_call 13
  refine (P2.out _ h).mono ?_
  clear h P2
  rintro _ w ⟨k2, rfl, hk0, hk, M3, lab3, s3, h, hM, hB, hA⟩
  obtain ⟨kk, hkk⟩ : ∃ kk, 0 + k + k2 = kk := ⟨_, rfl⟩
  rw [hkk] at hA
  have hkk2 : kk < 90000 := by have := HK.out; omega
  clear hkk HK
  have HM := Lib.hid hM
  obtain ⟨row, ty, hqb, d0⟩ := ep_told hM hA HQ.out
  have TH : Hid (∀ w : World, Has σ M3 w → Calls Try.prog 15 #[.pointer (some ⟨p, 0, none⟩), .int .i64 0] w fun r w' => r = .returned (.pointer (some ⟨q, 0, none⟩)) ∧ Has σ M3 w') := Lib.hid fun w h => mThread_yes (t := 0) h HM.out (by rw [hA.ttp]; exact HQ.out)
  replace d0 : row[0]? = some (.int .u64 1) := d0
  have gk : ¬ (k2 : Int) < 0 := by omega
  have gl : (0 : Int) < (k2 : Int) := by omega
  clear HM
  have P3 : Hid (∀ w : World, Has σ M3 w → Calls Try.prog 13 #[.pointer (some ⟨p, 0, none⟩), .int .i64 0, (.func (.func 14) #[] #[]), .int .i64 9, .int .i64 12, .slice none 0 0] w fun r w' => ∃ k' : Nat, r = .returned (.int .i64 (k' : Nat)) ∧ 0 < k' ∧ k' ≤ 20 ∧ ∃ M' lab' s', Has σ M' w' ∧ Mach M' lab' p s' ∧ Base M M' lab' ∧ AbsE exE tp (kk + k') s' (exE2.back 0 0)) := Lib.hid fun w h => by
    have := ep_adv (t := 0) (most := 9) h hM hB hA exE_may exE_nums (T := 1) rfl hkk2 (by omega) HQ.out rfl (by rw [exE_lev]; decide) (by rw [exE_lev, exE_at]; decide) (by omega)
    rw [exE_lev, exE3_of] at this
    exact this
  clear hM hB hA hk0 hk hkk2
  go_wp2_with (first | (go_at_call 13; fail) | (with_reducible show wpList _ _ _ ({ dst := _, op := Op.load 34 _, type := _, pos := _, after := _, guard := _ } :: _) _ _; refine wpList_load1_has h rfl 34 _ rfl rfl hqb d0 Try.underlying34 rfl ?_) | (go_at_call 15; refine (TH.out _ h).mono ?_; clear h; rintro _ w ⟨rfl, h⟩))
  clear hqb d0 TH gk gl
  go_at_call 13
  refine (P3.out _ h).mono ?_
  clear h P3
  rintro _ w ⟨k3, rfl, hk0, hk, M4, lab4, s4, h, hM, hB, hA⟩
  have HM := Lib.hid hM
  obtain ⟨row, ty, hqb, d0⟩ := ep_told hM hA HQ.out
  have TH : Hid (∀ w : World, Has σ M4 w → Calls Try.prog 15 #[.pointer (some ⟨p, 0, none⟩), .int .i64 0] w fun r w' => r = .returned (.pointer (some ⟨q, 0, none⟩)) ∧ Has σ M4 w') := Lib.hid fun w h => mThread_yes (t := 0) h HM.out (by rw [hA.ttp]; exact HQ.out)
  replace d0 : row[0]? = some (.int .u64 0) := d0
  have gk : ¬ (k3 : Int) < 0 := by omega
  have gl : (0 : Int) < (k3 : Int) := by omega
  clear HM
  have hle := hB.le
  clear hM hB hA hk0 hk
  go_wp2_with (first | (with_reducible show wpList _ _ _ ({ dst := _, op := Op.load 34 _, type := _, pos := _, after := _, guard := _ } :: _) _ _; refine wpList_load1_has h rfl 34 _ rfl rfl hqb d0 Try.underlying34 rfl ?_) | (go_at_call 15; refine (TH.out _ h).mono ?_; clear h; rintro _ w ⟨rfl, h⟩))
  go_ret
  exact ⟨rfl, h.le hle⟩
end
end Go.Proofs.Ytjeeldacnllipaa
