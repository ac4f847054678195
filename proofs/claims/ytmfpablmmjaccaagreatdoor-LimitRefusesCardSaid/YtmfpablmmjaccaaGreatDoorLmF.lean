/- Law 39, LimitRefuses: the law's walk. -/
import Derived.Test.YtmfpablmmjaccaaGreatDoorLmE
import Derived.Test.YtmfpablmmjaccaaGreatDoorSame
import Derived.Test.YtmfpablmmjaccaaGreatDoorRefMay
namespace Go.Proofs.YtmfpablmmjaccaaGreatDoor
open Go.RowKit
set_option linter.unusedVariables false
set_option linter.unusedSimpArgs false
set_option linter.unnecessarySimpa false
def x3R (a b c : Int) : Array Value := #[.int .i64 a, .int .i64 b, .int .i64 c]
theorem rd_wordsL {M : Mm} {b N : Nat} {f : Nat → Int} {T : TypeId} (hb : M b = some (.cells (ints .u64 N f) T)) : Rd M 1 (.slice (some ⟨b, 0, none⟩) N N) N (u64s ((List.range N).map f)) :=
  ⟨by simp [u64s], _, _, rfl, Nat.le_refl _, fun _ => ⟨b, 0, _, _, _, rfl, hb, fun j u hu => by
    rw [Nat.zero_add]
    simp only [u64s, List.getElem?_map] at hu
    by_cases hj : j < N
    · rw [List.getElem?_range hj] at hu
      rw [ints_get hj]
      simpa using hu
    · rw [List.getElem?_eq_none (by simpa using Nat.not_lt.1 hj)] at hu
      cases hu⟩⟩
set_option maxHeartbeats 2000000 in
set_option maxRecDepth 20000 in
theorem lmRef_no {σ w : World} {M : Mm} (h : Has σ M w) (c : Nat → Int) (lv x0 x1 x2 : Int) (hm : confMayB c = false) :
    Calls Tryz.prog 3 #[confV c, .int .i64 lv, .agg (x3R x0 x1 x2)] w fun r w' => r = .returned (.bool true) ∧ Has σ M w' := by
  have NW := Lib.hid (fun (M' : Mm) (w : World) (h : Has σ M' w) => mNew_no h c hm)
  have MY := Lib.hid (fun (M' : Mm) (w : World) (h : Has σ M' w) => refMay_has h c)
  rw [hm] at MY
  have LI := Lib.hid (fun (M' : Mm) (w : World) (h : Has σ M' w) => lm_lives h)
  have hx : (ints .i64 14 c).extract 0 (0 + 14) = ints .i64 14 c := rfl
  have hz : (ints .i64 14 c).size = 14 := rfl
  unfold errV at NW
  unfold confV at NW MY ⊢
  generalize ints .i64 14 c = row at NW MY hx hz ⊢
  generalize x3R x0 x1 x2 = xr at *
  clear hm
  go_enter Tryz.func3, Tryz.ntmps3
  go_upto_region 1 with (first
    | ((with_reducible show wpList _ _ _ ({ dst := _, op := Op.box 24 _, type := _, pos := _, after := _, guard := _ } :: _) _ _); go_loud (refine wpList_box_has h rfl 24 _ rfl ?_); clear h; intro bf w h hnf; try simp only [Act.put, List.setIfInBounds_toArray, List.set_cons_zero, List.set_cons_succ])
    | ((with_reducible show wpList _ _ _ ({ dst := _, op := Op.box 25 _, type := _, pos := _, after := _, guard := _ } :: _) _ _); go_loud (refine wpList_box_has h rfl 25 _ rfl ?_); clear h; intro bx w h hnx; try simp only [Act.put, List.setIfInBounds_toArray, List.set_cons_zero, List.set_cons_succ]))
  replace hnf : M bf = none := hnf
  replace hnx : (M.upd bf (.cells row 24)) bx = none := hnx
  replace h : Has σ ((M.upd bf (.cells row 24)).upd bx (.cells xr 25)) w := h
  have hle : M.le ((M.upd bf (.cells row 24)).upd bx (.cells xr 25)) := Mm.le_trans (Mm.le_upd' hnf _) (Mm.le_upd' hnx _)
  have hbf : ((M.upd bf (.cells row 24)).upd bx (.cells xr 25)) bf = some (.cells row 24) := (Mm.le_upd' hnx _) _ _ (Mm.upd_same _ _ _)
  have hbx : ((M.upd bf (.cells row 24)).upd bx (.cells xr 25)) bx = some (.cells xr 25) := (Mm.le_refl _) _ _ (Mm.upd_same _ _ _)
  have n_bf_bx : bf ≠ bx := Mm.ne_of hnx ((Mm.le_refl _) _ _ (Mm.upd_same _ _ _))
  replace hnx : M bx = none := Mm.none_of (Mm.le_upd' hnf _) hnx
  replace hnf : M bf = none := Mm.none_of (Mm.le_refl _) hnf
  generalize ((M.upd bf (.cells row 24)).upd bx (.cells xr 25)) = M1 at h hle hbf hbx
  go_wp2_with (first
    | ((with_reducible show wpList _ _ _ ({ dst := _, op := Op.load 24 _, type := _, pos := _, after := _, guard := _ } :: _) _ _); go_loud (refine wpList_agg_has h rfl 24 _ rfl rfl hbf hx hz Tryz.underlying24 rfl (by kernel_rfl) ?_); try simp only [Act.put, List.setIfInBounds_toArray, List.set_cons_zero, List.set_cons_succ])
    | ((go_at_call 4; refine (NW.out _ _ h).mono ?_; clear h; rintro _ w ⟨b, M2, rfl, h, hle2, hn⟩; have hbf := hle2 _ _ hbf))
    | (go_at_call 5; go_loud (refine (MY.out _ _ h).mono ?_); clear h; rintro _ w ⟨rfl, h⟩)
    | (go_at_call 6; go_loud (refine (LI.out _ _ h).mono ?_); clear h; rintro _ w ⟨rfl, h⟩))
  go_ret
  exact ⟨rfl, h.le (Mm.le_trans hle hle2)⟩
/-- What the law's end needs of a machine. -/
structure EndM (c : Nat → Int) (p : Nat) (K M : Mm) (lab : Nat → Nat) (s : MachS) (N : Nat) (f : Nat → Int) : Prop where
  mach : Mach M lab p s
  base : Base K M lab
  cc : s.c = c
  N : s.mem.N = N
  f : s.mem.f = f
theorem EndM.round {σ : World} {K M : Mm} {lab : Nat → Nat} {p N T B : Nat} {c : Nat → Int} {s : MachS} {f : Nat → Int} (hE : EndM c p K M lab s N f) (hT : c 1 = (T : Nat)) (hB : c 11 = (B : Nat)) (lv wd : Int) (hwd : wd ≤ 1000) (hN : N ≤ 10000)
    (hz : ∀ i : Nat, 0 ≤ lv → lv < c 0 → i < B → ∃ j : Nat, atK c lv 7 (i : Nat) 0 = (j : Int) ∧ j < N ∧ f j = 0) (x2 : Int) {b : Bool} (hb : (decide (1 ≤ wd) && (decide ((((atCi c T lv).length : Nat) : Int) ≤ wd) && ((atCi c T lv).all (idleT s) && decide (0 < (atCi c T lv).length)))) = b) :
    Hid (∀ (M' : Mm) (w : World), M.le M' → Has σ M' w → Calls Tryz.prog 12 #[.pointer (some ⟨p, 0, none⟩), .int .i64 lv, .slice (some ⟨w.heap.size, 0, none⟩) 1 1, .int .i64 wd] (w.alloc (.cells #[.int .i64 x2] 3)) fun r w' => r = .returned (.tuple #[.int .i64 0, .bool b]) ∧ Has σ M' w') := Lib.hid fun M' w hle h => by
  obtain ⟨hM, hB', rfl, rfl, rfl⟩ := hE
  have := limitRound_eq (h.alloc (.cells #[.int .i64 x2] 3)) (hM.keep (Kp.le (Mm.le_trans hle (Mm.le_upd' h.fresh _)) fun _ => 0) fun _ _ h => h) hT hB lv wd hwd hN hz (some ⟨w.heap.size, 0, none⟩) 1 1
  rw [hb] at this
  exact this.mono fun _ _ ⟨e, h2⟩ => ⟨e, h2.le (Mm.le_upd' h.fresh _)⟩
set_option maxHeartbeats 8000000 in
set_option maxRecDepth 20000 in
theorem lmRef_yes {σ w : World} {M : Mm} (h : Has σ M w) (c : Nat → Int) (hc : ConfMay c) {L B S T : Nat} (hn : Nums c L B S) (hT : c 1 = (T : Nat)) (lv x0 x1 x2 : Int) :
    Calls Tryz.prog 3 #[confV c, .int .i64 lv, .agg (x3R x0 x1 x2)] w fun r w' => r = .returned (.bool true) ∧ Has σ M w' := by
  have NW := Lib.hid (fun (M' : Mm) (w : World) (h : Has σ M' w) => mNew_yes h c hc hn)
  have RA := Lib.hid (fun (M' : Mm) (w : World) (h : Has σ M' w) => refAti_eq h c lv)
  rw [atRi_all hc hn hT] at RA
  have LI := Lib.hid (fun (M' : Mm) (w : World) (h : Has σ M' w) => lm_lives h)
  have hs0 := hn.s0
  have hb0 := hn.b0
  have hl0 := hn.l0
  have hT8 : T ≤ 8 := by have := hc.2.1; omega
  obtain ⟨N, hN⟩ : ∃ N, L * (18 + B + 6 * S) = N := ⟨_, rfl⟩
  have hN0 : N ≤ 10000 := by
    have : L * (18 + B + 6 * S) ≤ 4 * (18 + 40 + 6 * 60) := Nat.mul_le_mul (by omega) (by omega)
    omega
  obtain ⟨f0, hf0⟩ : ∃ f0, wl B S L = f0 := ⟨_, rfl⟩
  have hz : ∀ i : Nat, 0 ≤ lv → lv < c 0 → i < B → ∃ j : Nat, atK c lv 7 (i : Nat) 0 = (j : Int) ∧ j < N ∧ f0 j = 0 := fun i h0 h1 hi => by
    rw [hn.lev] at h1
    obtain ⟨l, rfl⟩ : ∃ l : Nat, lv = (l : Int) := ⟨lv.toNat, (Int.toNat_of_nonneg h0).symm⟩
    have hsz : 18 + i < 18 + B + 6 * S := by omega
    refine ⟨l * (18 + B + 6 * S) + (18 + i), ?_, ?_, ?_⟩
    · unfold atK
      rw [hn.sz]
      unfold firsts numK baseK
      simp
      omega
    · rw [← hN]
      have h3 : (l + 1) * (18 + B + 6 * S) ≤ L * (18 + B + 6 * S) := Nat.mul_le_mul_right _ (by omega)
      rw [Nat.add_mul, Nat.one_mul] at h3
      omega
    · obtain ⟨e1, e2⟩ := (idx_iff (l := l) hsz).1 rfl
      rw [← hf0]
      unfold wl
      rw [e1, e2, if_pos (by omega)]
      unfold w0
      rw [if_neg (by omega), if_neg (by omega), if_neg (by omega), if_neg (by omega)]
  have SM : Hid (∀ (M' : Mm) (b1 b2 : Nat) (w : World), Has σ M' w → M' b1 = some (.cells (ints .u64 N f0) 37) → M' b2 = some (.cells (ints .u64 N f0) 37) → Calls Tryz.prog 13 #[.slice (some ⟨b1, 0, none⟩) N N, .slice (some ⟨b2, 0, none⟩) N N] w fun r w' => r = .returned (.bool true) ∧ Has σ M' w') := Lib.hid fun M' b1 b2 w h h1 h2 => refSame_eq h (rd_wordsL h1) (rd_wordsL h2) (by omega)
  obtain ⟨wrow, hwr⟩ : ∃ x, ints .u64 N f0 = x := ⟨_, rfl⟩
  rw [hwr] at SM
  have HWR := Lib.hid hwr
  clear hwr
  have hx : (ints .i64 14 c).extract 0 (0 + 14) = ints .i64 14 c := rfl
  have hzz : (ints .i64 14 c).size = 14 := rfl
  have y0 : (x3R x0 x1 x2)[0]? = some (.int .i64 x0) := rfl
  have y1 : (x3R x0 x1 x2)[1]? = some (.int .i64 x1) := rfl
  have y2 : (x3R x0 x1 x2)[2]? = some (.int .i64 x2) := rfl
  obtain ⟨wd, hwd⟩ : ∃ wd, x0.tmod 10 = wd := ⟨_, rfl⟩
  have hwd9 : wd ≤ 1000 ∧ -1000 ≤ wd := by
    have g1 := Int.tmod_lt_of_pos x0 (b := 10) (by decide)
    have g2 := Int.lt_tmod_of_pos x0 (b := 10) (by decide)
    omega
  have ww : IntKind.i64.wrap wd = wd := IntWalk.i64_in _ (by omega)
  have lenT : (atCi c T lv).length ≤ 8 := Nat.le_trans (atCi_le c T lv) hT8
  have HIN : Hid (∀ t ∈ atCi c T lv, t < T) := Lib.hid fun t ht => List.mem_range.1 (List.mem_filter.1 ht).1
  have HLV : Hid (∀ t ∈ atCi c T lv, 0 ≤ lv ∧ lv ≤ 3) := Lib.hid fun t ht => by
    have h1 := List.mem_range.1 (List.mem_filter.1 ht).1
    have h2 : c (2 + t) = lv := by simpa using (List.mem_filter.1 ht).2
    have h3 := hc.2.2.2.1 t (by omega)
    have h4 := hc.1
    omega
  have HN0 := Lib.hid hN0
  have HNN := Lib.hid hN
  have HF0 := Lib.hid hf0
  have HZ := Lib.hid hz
  have HT := Lib.hid hT
  have HBB := Lib.hid hn.lim
  have HWD := Lib.hid hwd9.1
  have EWD := Lib.hid hwd
  clear hs0 hb0 hl0 hT8 hN hN0 hf0 hz hwd9
  unfold confV at NW RA ⊢
  generalize hcr : ints .i64 14 c = crow at NW RA hx hzz ⊢
  clear hcr
  generalize x3R x0 x1 x2 = xr at *
  go_enter Tryz.func3, Tryz.ntmps3
  go_upto_region 1 with (first
    | ((with_reducible show wpList _ _ _ ({ dst := _, op := Op.box 24 _, type := _, pos := _, after := _, guard := _ } :: _) _ _); go_loud (refine wpList_box_has h rfl 24 _ rfl ?_); clear h; intro bf w h hnf; try simp only [Act.put, List.setIfInBounds_toArray, List.set_cons_zero, List.set_cons_succ])
    | ((with_reducible show wpList _ _ _ ({ dst := _, op := Op.box 25 _, type := _, pos := _, after := _, guard := _ } :: _) _ _); go_loud (refine wpList_box_has h rfl 25 _ rfl ?_); clear h; intro bx w h hnx; try simp only [Act.put, List.setIfInBounds_toArray, List.set_cons_zero, List.set_cons_succ]))
  replace hnf : M bf = none := hnf
  replace hnx : (M.upd bf (.cells crow 24)) bx = none := hnx
  replace h : Has σ ((M.upd bf (.cells crow 24)).upd bx (.cells xr 25)) w := h
  have hle1 : M.le ((M.upd bf (.cells crow 24)).upd bx (.cells xr 25)) := Mm.le_trans (Mm.le_upd' hnf _) (Mm.le_upd' hnx _)
  have hbf : ((M.upd bf (.cells crow 24)).upd bx (.cells xr 25)) bf = some (.cells crow 24) := (Mm.le_upd' hnx _) _ _ (Mm.upd_same _ _ _)
  have hbx : ((M.upd bf (.cells crow 24)).upd bx (.cells xr 25)) bx = some (.cells xr 25) := (Mm.le_refl _) _ _ (Mm.upd_same _ _ _)
  have n_bf_bx : bf ≠ bx := Mm.ne_of hnx ((Mm.le_refl _) _ _ (Mm.upd_same _ _ _))
  replace hnx : M bx = none := Mm.none_of (Mm.le_upd' hnf _) hnx
  replace hnf : M bf = none := Mm.none_of (Mm.le_refl _) hnf
  generalize ((M.upd bf (.cells crow 24)).upd bx (.cells xr 25)) = M1 at h hle1 hbf hbx
  go_upto_region 2 with (first
    | ((with_reducible show wpList _ _ _ ({ dst := _, op := Op.load 24 _, type := _, pos := _, after := _, guard := _ } :: _) _ _); go_loud (refine wpList_agg_has h rfl 24 _ rfl rfl hbf hx hzz Tryz.underlying24 rfl (by kernel_rfl) ?_); try simp only [Act.put, List.setIfInBounds_toArray, List.set_cons_zero, List.set_cons_succ])
    | ((go_at_call 4; refine (NW.out _ _ h).mono ?_; clear h; rintro _ w ⟨p, M2, lab2, s, rfl, h, hB2, hM2, hN2⟩)))
  have hbf2 := hB2.le _ _ hbf
  go_upto_region 5 with (first
    | ((with_reducible show wpList _ _ _ ({ dst := _, op := Op.load 24 _, type := _, pos := _, after := _, guard := _ } :: _) _ _); go_loud (refine wpList_agg_has h rfl 24 _ rfl rfl hbf2 hx hzz Tryz.underlying24 rfl (by kernel_rfl) ?_); try simp only [Act.put, List.setIfInBounds_toArray, List.set_cons_zero, List.set_cons_succ])
    | ((go_at_call 7; refine (RA.out _ _ h).mono ?_; clear h; rintro _ w ⟨va, rfl, M3, h, hle3, hown⟩; obtain ⟨Ao, co, rfl⟩ := hown.form)))
  obtain ⟨lab3, hM3, hB3⟩ := hM2.more hB2 (K' := M1) hle3 fun c o hc => ⟨hle3 _ _ (hB2 c o hc).1, .inl hc⟩
  obtain ⟨wb, hmem⟩ := hN2.mem
  have E3 : EndM c p M1 M3 lab3 s N f0 := ⟨hM3, hB3, hN2.c, by rw [hmem, ← HNN.out]; rfl, by rw [hmem, ← HF0.out]; rfl⟩
  have HTHR := Lib.hid hN2.thr
  have hrd := Lib.hid hown.rd
  have hbx3 := hB3.le _ _ hbx
  have HTL : Hid (s.tp.length = T) := Lib.hid (by have h1 := hM3.tlen; rw [hN2.c, HT.out] at h1; exact Int.ofNat_inj.1 h1)
  have HE3 := Lib.hid E3
  clear NW RA hB2 hM2 hN2 hle3 hown hM3 hB3 hmem E3 hbf2 hnf hnx
  go_upto_region 6 with (first
    | (with_reducible show wpList _ _ _ ({ dst := _, op := Op.load 3 _, type := _, pos := _, after := _, guard := _ } :: _) _ _; go_loud (refine wpList_load1_has h rfl 3 _ rfl rfl hbx3 y0 Tryz.underlying3 rfl ?_)))
  obtain ⟨n, hnl⟩ : ∃ n, (atCi c T lv).length = n := ⟨_, rfl⟩
  have HNL := Lib.hid hnl
  rw [hnl] at lenT hrd
  rw [hnl]
  clear hnl
  by_cases hn0 : n = 0
  · subst hn0
    have HE := HE3
    have RO := HE.out.round (σ := σ) HT.out HBB.out lv wd HWD.out HN0.out HZ.out x2 (b := false) (by rw [HNL.out]; simp)
    clear HE3 hbx3
    have hbx4 := HE.out.base.le _ _ hbx
    have ME := Lib.hid (fun (w : World) (h : Has σ M3 w) => mMem_eq h HE.out.mach)
    have WO := Lib.hid (fun (w : World) (h : Has σ M3 w) => memWords_eq h HE.out.mach.mem (by rw [HE.out.N]; exact HN0.out))
    have eR : (s).mem.row = .cells (ints .u64 (s).mem.N (s).mem.f) 37 := rfl
    rw [eR, HE.out.N, HE.out.f, HWR.out] at WO
    clear eR
    have ME7 := Lib.hid (fun (M' : Mm) (w : World) (hle : (M3).le M') (h : Has σ M' w) => mMem_eq h (HE.out.mach.keep (Kp.le hle fun _ => 0) fun _ _ h => h))
    have WO7 := Lib.hid (fun (M' : Mm) (w : World) (hle : (M3).le M') (h : Has σ M' w) => by
      have := memWords_eq h (HE.out.mach.keep (Kp.le hle fun _ => 0) fun _ _ h => h).mem (by rw [HE.out.N]; exact HN0.out)
      have eR : (s).mem.row = .cells (ints .u64 (s).mem.N (s).mem.f) 37 := rfl
      rw [eR, HE.out.N, HE.out.f, HWR.out] at this
      exact this)
    have hleE := HE.out.base.le
    go_upto_region 18 with (first
      | (go_at_call 10; go_loud (refine (ME.out _ h).mono ?_); clear h; rintro _ w ⟨rfl, h⟩)
      | ((go_at_call 11; refine (WO.out _ h).mono ?_; clear h; rintro _ w ⟨bw, M7, rfl, h, hle7, hnw, hbw⟩)))
    clear ME WO
    have hbx7 := hle7 _ _ hbx4
    have RO7 := Lib.hid (fun (w : World) (h : Has σ M7 w) => RO.out M7 w hle7 h)
    have ME8 := Lib.hid (fun (w : World) (h : Has σ M7 w) => ME7.out M7 w hle7 h)
    have WO8 := Lib.hid (fun (w : World) (h : Has σ M7 w) => WO7.out M7 w hle7 h)
    clear ME7 WO7
    go_wp2_with (first
      | (with_reducible show wpList _ _ _ ({ dst := _, op := Op.load 3 _, type := _, pos := _, after := _, guard := _ } :: _) _ _; go_loud (refine wpList_load1_has h rfl 3 _ rfl rfl hbx7 y2 Tryz.underlying3 rfl ?_))
      | ((go_at_call 12; refine (RO7.out _ h).mono ?_; clear h; rintro _ w ⟨rfl, h⟩))
      | (with_reducible show wpList _ _ _ ({ dst := _, op := Op.load 3 _, type := _, pos := _, after := _, guard := _ } :: _) _ _; go_loud (refine wpList_load1_has h rfl 3 _ rfl rfl hbx7 y1 Tryz.underlying3 rfl ?_))
      | (go_at_call 10; go_loud (refine (ME8.out _ h).mono ?_); clear h; rintro _ w ⟨rfl, h⟩)
      | ((go_at_call 11; refine (WO8.out _ h).mono ?_; clear h; rintro _ w ⟨bw2, M8, rfl, h, hle8, hnw8, hbw8⟩; have hbw78 := hle8 _ _ hbw))
      | ((go_at_call 13; refine (SM.out M8 bw2 bw _ h hbw8 hbw78).mono ?_; clear h; rintro _ w ⟨rfl, h⟩))
      | (go_at_call 6; go_loud (refine (LI.out _ _ h).mono ?_); clear h; rintro _ w ⟨rfl, h⟩))
    go_ret
    exact ⟨rfl, h.le (Mm.le_trans hle1 (Mm.le_trans hleE (Mm.le_trans hle7 hle8)))⟩
  · have g0 : decide ((0 : Int) < (n : Int)) = true := decide_eq_true (by omega)
    have g0' : decide (0 < n) = true := decide_eq_true (by omega)
    have gN : 0 < n := by omega
    obtain ⟨t0, ht0⟩ : ∃ t, (atCi c T lv)[0]? = some t := ⟨_, List.getElem?_eq_getElem (by have := HNL.out; omega)⟩
    have hmem := List.mem_of_getElem? ht0
    obtain ⟨q, hq⟩ : ∃ q, s.tp[t0]? = some q := ⟨_, List.getElem?_eq_getElem (by have := HTL.out; have := HIN.out t0 hmem; omega)⟩
    obtain ⟨_, B', d', e, hd, hB'⟩ := hrd.out
    cases e
    obtain ⟨b1, o1, cs1, t1, f1, rfl, hO1, hx1⟩ := hB' (by omega)
    have e1 := hx1 0 (.int .i64 (t0 : Nat)) (by simp [natv, ht0])
    have TH := Lib.hid (fun (w : World) (h : Has σ M3 w) => mThread_yes h HE3.out.mach hq)
    have lvb := HLV.out t0 hmem
    have HLB := Lib.hid lvb
    have HQ := Lib.hid hq
    have HMEM := Lib.hid hmem
    have HN00 := Lib.hid hn0
    have NOT : Hid (∀ s' : MachS, idleT s' t0 = false → (atCi c T lv).all (idleT s') = false) := Lib.hid fun s' e => List.all_eq_false.2 ⟨t0, HMEM.out, by rw [e]; decide⟩
    clear hx1 hB' hd hrd hq hmem ht0 lvb hn0
    go_upto_region 11 with (first
      | (with_reducible show wpList _ _ _ ({ dst := _, op := Op.load 3 _, type := _, pos := _, after := _, guard := _ } :: _) _ _; go_loud (refine wpList_load1_has h rfl 3 _ rfl rfl hO1 e1 Tryz.underlying3 rfl ?_))
      | (go_at_call 8; go_loud (refine (TH.out _ h).mono ?_); clear h; rintro _ w ⟨rfl, h⟩)
      | (with_reducible show wpList _ _ _ ({ dst := _, op := Op.load 3 _, type := _, pos := _, after := _, guard := _ } :: _) _ _; go_loud (refine wpList_load1_has h rfl 3 _ rfl rfl hbx3 y1 Tryz.underlying3 rfl ?_)))
    have ez1 : x1 = x1 := rfl
    clear ez1
    by_cases h0 : x1 = 0
    · subst h0
      obtain ⟨fv, hv, hqb, hM4, hB4⟩ := HE3.out.mach.flag HE3.out.base HQ.out { s.thr t0 with st := true } ⟨rfl, rfl⟩
      have HE : Hid (EndM c p M1 (M3.upd q (.cells (ThrS.row { s.thr t0 with st := true } fv hv) 42)) lab3 { s with thr := fun j => if j = t0 then { s.thr t0 with st := true } else s.thr j } N f0) := Lib.hid ⟨hM4, hB4, HE3.out.cc, HE3.out.N, HE3.out.f⟩
      have ID : Hid (idleT { s with thr := fun j => if j = t0 then { s.thr t0 with st := true } else s.thr j } t0 = false) := Lib.hid (by unfold idleT; simp)
      have RW : Hid (((s.thr t0).row fv hv).setIfInBounds 9 (.bool true) = ThrS.row { s.thr t0 with st := true } fv hv) := Lib.hid rfl
      have hsz : 9 < ((s.thr t0).row fv hv).size := by show 9 < 13; omega
      clear hM4 hB4 hbx3
      generalize (s.thr t0).row fv hv = tr0 at *
      go_upto_region 17 with (first
        | (with_reducible show wpList _ _ _ ({ dst := _, op := Op.store 4 _ _, type := _, pos := _, after := _, guard := _ } :: _) _ _; go_loud (refine wpList_store1_has h rfl 4 _ _ rfl rfl rfl hqb hsz rfl (by kernel_rfl) ?_); clear h; intro w h))
      replace h : Has σ (M3.upd q (.cells (tr0.setIfInBounds 9 (.bool true)) 42)) w := h
      rw [RW.out] at h
      clear RW hsz hqb
      generalize hs4 : ({ s with thr := fun j => if j = t0 then { s.thr t0 with st := true } else s.thr j } : MachS) = s4 at *
      clear hs4
      generalize M3.upd q (.cells (ThrS.row { s.thr t0 with st := true } fv hv) 42) = M4 at *
      have RO := HE.out.round (σ := σ) HT.out HBB.out lv wd HWD.out HN0.out HZ.out x2 (b := false) (by rw [NOT.out _ ID.out]; simp)
      by_cases hw : (n : Int) ≤ wd
      · have dw : decide ((n : Int) ≤ wd) = true := decide_eq_true hw
        clear hw
        have hbx4 := HE.out.base.le _ _ hbx
        have ME := Lib.hid (fun (w : World) (h : Has σ M4 w) => mMem_eq h HE.out.mach)
        have WO := Lib.hid (fun (w : World) (h : Has σ M4 w) => memWords_eq h HE.out.mach.mem (by rw [HE.out.N]; exact HN0.out))
        have eR : (s4).mem.row = .cells (ints .u64 (s4).mem.N (s4).mem.f) 37 := rfl
        rw [eR, HE.out.N, HE.out.f, HWR.out] at WO
        clear eR
        have ME7 := Lib.hid (fun (M' : Mm) (w : World) (hle : (M4).le M') (h : Has σ M' w) => mMem_eq h (HE.out.mach.keep (Kp.le hle fun _ => 0) fun _ _ h => h))
        have WO7 := Lib.hid (fun (M' : Mm) (w : World) (hle : (M4).le M') (h : Has σ M' w) => by
          have := memWords_eq h (HE.out.mach.keep (Kp.le hle fun _ => 0) fun _ _ h => h).mem (by rw [HE.out.N]; exact HN0.out)
          have eR : (s4).mem.row = .cells (ints .u64 (s4).mem.N (s4).mem.f) 37 := rfl
          rw [eR, HE.out.N, HE.out.f, HWR.out] at this
          exact this)
        have hleE := HE.out.base.le
        go_upto_region 18 with (first
          | (go_at_call 10; go_loud (refine (ME.out _ h).mono ?_); clear h; rintro _ w ⟨rfl, h⟩)
          | ((go_at_call 11; refine (WO.out _ h).mono ?_; clear h; rintro _ w ⟨bw, M7, rfl, h, hle7, hnw, hbw⟩)))
        clear ME WO
        have hbx7 := hle7 _ _ hbx4
        have RO7 := Lib.hid (fun (w : World) (h : Has σ M7 w) => RO.out M7 w hle7 h)
        have ME8 := Lib.hid (fun (w : World) (h : Has σ M7 w) => ME7.out M7 w hle7 h)
        have WO8 := Lib.hid (fun (w : World) (h : Has σ M7 w) => WO7.out M7 w hle7 h)
        clear ME7 WO7
        go_wp2_with (first
          | (with_reducible show wpList _ _ _ ({ dst := _, op := Op.load 3 _, type := _, pos := _, after := _, guard := _ } :: _) _ _; go_loud (refine wpList_load1_has h rfl 3 _ rfl rfl hbx7 y2 Tryz.underlying3 rfl ?_))
          | ((go_at_call 12; refine (RO7.out _ h).mono ?_; clear h; rintro _ w ⟨rfl, h⟩))
          | (with_reducible show wpList _ _ _ ({ dst := _, op := Op.load 3 _, type := _, pos := _, after := _, guard := _ } :: _) _ _; go_loud (refine wpList_load1_has h rfl 3 _ rfl rfl hbx7 y1 Tryz.underlying3 rfl ?_))
          | (go_at_call 10; go_loud (refine (ME8.out _ h).mono ?_); clear h; rintro _ w ⟨rfl, h⟩)
          | ((go_at_call 11; refine (WO8.out _ h).mono ?_; clear h; rintro _ w ⟨bw2, M8, rfl, h, hle8, hnw8, hbw8⟩; have hbw78 := hle8 _ _ hbw))
          | ((go_at_call 13; refine (SM.out M8 bw2 bw _ h hbw8 hbw78).mono ?_; clear h; rintro _ w ⟨rfl, h⟩))
          | (go_at_call 6; go_loud (refine (LI.out _ _ h).mono ?_); clear h; rintro _ w ⟨rfl, h⟩))
        go_ret
        exact ⟨rfl, h.le (Mm.le_trans hle1 (Mm.le_trans hleE (Mm.le_trans hle7 hle8)))⟩
      · have dw : decide ((n : Int) ≤ wd) = false := decide_eq_false hw
        clear hw
        have hbx4 := HE.out.base.le _ _ hbx
        have ME := Lib.hid (fun (w : World) (h : Has σ M4 w) => mMem_eq h HE.out.mach)
        have WO := Lib.hid (fun (w : World) (h : Has σ M4 w) => memWords_eq h HE.out.mach.mem (by rw [HE.out.N]; exact HN0.out))
        have eR : (s4).mem.row = .cells (ints .u64 (s4).mem.N (s4).mem.f) 37 := rfl
        rw [eR, HE.out.N, HE.out.f, HWR.out] at WO
        clear eR
        have ME7 := Lib.hid (fun (M' : Mm) (w : World) (hle : (M4).le M') (h : Has σ M' w) => mMem_eq h (HE.out.mach.keep (Kp.le hle fun _ => 0) fun _ _ h => h))
        have WO7 := Lib.hid (fun (M' : Mm) (w : World) (hle : (M4).le M') (h : Has σ M' w) => by
          have := memWords_eq h (HE.out.mach.keep (Kp.le hle fun _ => 0) fun _ _ h => h).mem (by rw [HE.out.N]; exact HN0.out)
          have eR : (s4).mem.row = .cells (ints .u64 (s4).mem.N (s4).mem.f) 37 := rfl
          rw [eR, HE.out.N, HE.out.f, HWR.out] at this
          exact this)
        have hleE := HE.out.base.le
        go_upto_region 18 with (first
          | (go_at_call 10; go_loud (refine (ME.out _ h).mono ?_); clear h; rintro _ w ⟨rfl, h⟩)
          | ((go_at_call 11; refine (WO.out _ h).mono ?_; clear h; rintro _ w ⟨bw, M7, rfl, h, hle7, hnw, hbw⟩)))
        clear ME WO
        have hbx7 := hle7 _ _ hbx4
        have RO7 := Lib.hid (fun (w : World) (h : Has σ M7 w) => RO.out M7 w hle7 h)
        have ME8 := Lib.hid (fun (w : World) (h : Has σ M7 w) => ME7.out M7 w hle7 h)
        have WO8 := Lib.hid (fun (w : World) (h : Has σ M7 w) => WO7.out M7 w hle7 h)
        clear ME7 WO7
        go_wp2_with (first
          | (with_reducible show wpList _ _ _ ({ dst := _, op := Op.load 3 _, type := _, pos := _, after := _, guard := _ } :: _) _ _; go_loud (refine wpList_load1_has h rfl 3 _ rfl rfl hbx7 y2 Tryz.underlying3 rfl ?_))
          | ((go_at_call 12; refine (RO7.out _ h).mono ?_; clear h; rintro _ w ⟨rfl, h⟩))
          | (with_reducible show wpList _ _ _ ({ dst := _, op := Op.load 3 _, type := _, pos := _, after := _, guard := _ } :: _) _ _; go_loud (refine wpList_load1_has h rfl 3 _ rfl rfl hbx7 y1 Tryz.underlying3 rfl ?_))
          | (go_at_call 10; go_loud (refine (ME8.out _ h).mono ?_); clear h; rintro _ w ⟨rfl, h⟩)
          | ((go_at_call 11; refine (WO8.out _ h).mono ?_; clear h; rintro _ w ⟨bw2, M8, rfl, h, hle8, hnw8, hbw8⟩; have hbw78 := hle8 _ _ hbw))
          | ((go_at_call 13; refine (SM.out M8 bw2 bw _ h hbw8 hbw78).mono ?_; clear h; rintro _ w ⟨rfl, h⟩))
          | (go_at_call 6; go_loud (refine (LI.out _ _ h).mono ?_); clear h; rintro _ w ⟨rfl, h⟩))
        go_ret
        exact ⟨rfl, h.le (Mm.le_trans hle1 (Mm.le_trans hleE (Mm.le_trans hle7 hle8)))⟩
    by_cases h1 : x1 = 1
    · subst h1
      obtain ⟨fv, hv, hqb, hM4, hB4⟩ := HE3.out.mach.flag HE3.out.base HQ.out { s.thr t0 with ki := true } ⟨rfl, rfl⟩
      have HE : Hid (EndM c p M1 (M3.upd q (.cells (ThrS.row { s.thr t0 with ki := true } fv hv) 42)) lab3 { s with thr := fun j => if j = t0 then { s.thr t0 with ki := true } else s.thr j } N f0) := Lib.hid ⟨hM4, hB4, HE3.out.cc, HE3.out.N, HE3.out.f⟩
      have ID : Hid (idleT { s with thr := fun j => if j = t0 then { s.thr t0 with ki := true } else s.thr j } t0 = false) := Lib.hid (by unfold idleT; simp)
      have RW : Hid (((s.thr t0).row fv hv).setIfInBounds 10 (.bool true) = ThrS.row { s.thr t0 with ki := true } fv hv) := Lib.hid rfl
      have hsz : 10 < ((s.thr t0).row fv hv).size := by show 10 < 13; omega
      clear hM4 hB4 hbx3
      generalize (s.thr t0).row fv hv = tr0 at *
      go_upto_region 17 with (first
        | (with_reducible show wpList _ _ _ ({ dst := _, op := Op.store 4 _ _, type := _, pos := _, after := _, guard := _ } :: _) _ _; go_loud (refine wpList_store1_has h rfl 4 _ _ rfl rfl rfl hqb hsz rfl (by kernel_rfl) ?_); clear h; intro w h))
      replace h : Has σ (M3.upd q (.cells (tr0.setIfInBounds 10 (.bool true)) 42)) w := h
      rw [RW.out] at h
      clear RW hsz hqb
      generalize hs4 : ({ s with thr := fun j => if j = t0 then { s.thr t0 with ki := true } else s.thr j } : MachS) = s4 at *
      clear hs4
      generalize M3.upd q (.cells (ThrS.row { s.thr t0 with ki := true } fv hv) 42) = M4 at *
      have RO := HE.out.round (σ := σ) HT.out HBB.out lv wd HWD.out HN0.out HZ.out x2 (b := false) (by rw [NOT.out _ ID.out]; simp)
      by_cases hw : (n : Int) ≤ wd
      · have dw : decide ((n : Int) ≤ wd) = true := decide_eq_true hw
        clear hw
        have hbx4 := HE.out.base.le _ _ hbx
        have ME := Lib.hid (fun (w : World) (h : Has σ M4 w) => mMem_eq h HE.out.mach)
        have WO := Lib.hid (fun (w : World) (h : Has σ M4 w) => memWords_eq h HE.out.mach.mem (by rw [HE.out.N]; exact HN0.out))
        have eR : (s4).mem.row = .cells (ints .u64 (s4).mem.N (s4).mem.f) 37 := rfl
        rw [eR, HE.out.N, HE.out.f, HWR.out] at WO
        clear eR
        have ME7 := Lib.hid (fun (M' : Mm) (w : World) (hle : (M4).le M') (h : Has σ M' w) => mMem_eq h (HE.out.mach.keep (Kp.le hle fun _ => 0) fun _ _ h => h))
        have WO7 := Lib.hid (fun (M' : Mm) (w : World) (hle : (M4).le M') (h : Has σ M' w) => by
          have := memWords_eq h (HE.out.mach.keep (Kp.le hle fun _ => 0) fun _ _ h => h).mem (by rw [HE.out.N]; exact HN0.out)
          have eR : (s4).mem.row = .cells (ints .u64 (s4).mem.N (s4).mem.f) 37 := rfl
          rw [eR, HE.out.N, HE.out.f, HWR.out] at this
          exact this)
        have hleE := HE.out.base.le
        go_upto_region 18 with (first
          | (go_at_call 10; go_loud (refine (ME.out _ h).mono ?_); clear h; rintro _ w ⟨rfl, h⟩)
          | ((go_at_call 11; refine (WO.out _ h).mono ?_; clear h; rintro _ w ⟨bw, M7, rfl, h, hle7, hnw, hbw⟩)))
        clear ME WO
        have hbx7 := hle7 _ _ hbx4
        have RO7 := Lib.hid (fun (w : World) (h : Has σ M7 w) => RO.out M7 w hle7 h)
        have ME8 := Lib.hid (fun (w : World) (h : Has σ M7 w) => ME7.out M7 w hle7 h)
        have WO8 := Lib.hid (fun (w : World) (h : Has σ M7 w) => WO7.out M7 w hle7 h)
        clear ME7 WO7
        go_wp2_with (first
          | (with_reducible show wpList _ _ _ ({ dst := _, op := Op.load 3 _, type := _, pos := _, after := _, guard := _ } :: _) _ _; go_loud (refine wpList_load1_has h rfl 3 _ rfl rfl hbx7 y2 Tryz.underlying3 rfl ?_))
          | ((go_at_call 12; refine (RO7.out _ h).mono ?_; clear h; rintro _ w ⟨rfl, h⟩))
          | (with_reducible show wpList _ _ _ ({ dst := _, op := Op.load 3 _, type := _, pos := _, after := _, guard := _ } :: _) _ _; go_loud (refine wpList_load1_has h rfl 3 _ rfl rfl hbx7 y1 Tryz.underlying3 rfl ?_))
          | (go_at_call 10; go_loud (refine (ME8.out _ h).mono ?_); clear h; rintro _ w ⟨rfl, h⟩)
          | ((go_at_call 11; refine (WO8.out _ h).mono ?_; clear h; rintro _ w ⟨bw2, M8, rfl, h, hle8, hnw8, hbw8⟩; have hbw78 := hle8 _ _ hbw))
          | ((go_at_call 13; refine (SM.out M8 bw2 bw _ h hbw8 hbw78).mono ?_; clear h; rintro _ w ⟨rfl, h⟩))
          | (go_at_call 6; go_loud (refine (LI.out _ _ h).mono ?_); clear h; rintro _ w ⟨rfl, h⟩))
        go_ret
        exact ⟨rfl, h.le (Mm.le_trans hle1 (Mm.le_trans hleE (Mm.le_trans hle7 hle8)))⟩
      · have dw : decide ((n : Int) ≤ wd) = false := decide_eq_false hw
        clear hw
        have hbx4 := HE.out.base.le _ _ hbx
        have ME := Lib.hid (fun (w : World) (h : Has σ M4 w) => mMem_eq h HE.out.mach)
        have WO := Lib.hid (fun (w : World) (h : Has σ M4 w) => memWords_eq h HE.out.mach.mem (by rw [HE.out.N]; exact HN0.out))
        have eR : (s4).mem.row = .cells (ints .u64 (s4).mem.N (s4).mem.f) 37 := rfl
        rw [eR, HE.out.N, HE.out.f, HWR.out] at WO
        clear eR
        have ME7 := Lib.hid (fun (M' : Mm) (w : World) (hle : (M4).le M') (h : Has σ M' w) => mMem_eq h (HE.out.mach.keep (Kp.le hle fun _ => 0) fun _ _ h => h))
        have WO7 := Lib.hid (fun (M' : Mm) (w : World) (hle : (M4).le M') (h : Has σ M' w) => by
          have := memWords_eq h (HE.out.mach.keep (Kp.le hle fun _ => 0) fun _ _ h => h).mem (by rw [HE.out.N]; exact HN0.out)
          have eR : (s4).mem.row = .cells (ints .u64 (s4).mem.N (s4).mem.f) 37 := rfl
          rw [eR, HE.out.N, HE.out.f, HWR.out] at this
          exact this)
        have hleE := HE.out.base.le
        go_upto_region 18 with (first
          | (go_at_call 10; go_loud (refine (ME.out _ h).mono ?_); clear h; rintro _ w ⟨rfl, h⟩)
          | ((go_at_call 11; refine (WO.out _ h).mono ?_; clear h; rintro _ w ⟨bw, M7, rfl, h, hle7, hnw, hbw⟩)))
        clear ME WO
        have hbx7 := hle7 _ _ hbx4
        have RO7 := Lib.hid (fun (w : World) (h : Has σ M7 w) => RO.out M7 w hle7 h)
        have ME8 := Lib.hid (fun (w : World) (h : Has σ M7 w) => ME7.out M7 w hle7 h)
        have WO8 := Lib.hid (fun (w : World) (h : Has σ M7 w) => WO7.out M7 w hle7 h)
        clear ME7 WO7
        go_wp2_with (first
          | (with_reducible show wpList _ _ _ ({ dst := _, op := Op.load 3 _, type := _, pos := _, after := _, guard := _ } :: _) _ _; go_loud (refine wpList_load1_has h rfl 3 _ rfl rfl hbx7 y2 Tryz.underlying3 rfl ?_))
          | ((go_at_call 12; refine (RO7.out _ h).mono ?_; clear h; rintro _ w ⟨rfl, h⟩))
          | (with_reducible show wpList _ _ _ ({ dst := _, op := Op.load 3 _, type := _, pos := _, after := _, guard := _ } :: _) _ _; go_loud (refine wpList_load1_has h rfl 3 _ rfl rfl hbx7 y1 Tryz.underlying3 rfl ?_))
          | (go_at_call 10; go_loud (refine (ME8.out _ h).mono ?_); clear h; rintro _ w ⟨rfl, h⟩)
          | ((go_at_call 11; refine (WO8.out _ h).mono ?_; clear h; rintro _ w ⟨bw2, M8, rfl, h, hle8, hnw8, hbw8⟩; have hbw78 := hle8 _ _ hbw))
          | ((go_at_call 13; refine (SM.out M8 bw2 bw _ h hbw8 hbw78).mono ?_; clear h; rintro _ w ⟨rfl, h⟩))
          | (go_at_call 6; go_loud (refine (LI.out _ _ h).mono ?_); clear h; rintro _ w ⟨rfl, h⟩))
        go_ret
        exact ⟨rfl, h.le (Mm.le_trans hle1 (Mm.le_trans hleE (Mm.le_trans hle7 hle8)))⟩
    by_cases h2 : x1 = 2
    · subst h2
      have PB := Lib.hid (fun (w : World) (h : Has σ M3 w) => poolBeginT h HE3.out.mach HE3.out.base HQ.out (by rw [HTHR.out]; rfl) lv HLB.out.1 HLB.out.2)
      clear hbx3
      go_upto_region 17 with (first
        | (with_reducible show wpList _ _ _ ({ dst := _, op := Op.load 3 _, type := _, pos := _, after := _, guard := _ } :: _) _ _; go_loud (refine wpList_load1_has h rfl 3 _ rfl rfl hO1 e1 Tryz.underlying3 rfl ?_))
        | ((with_reducible show wpList _ _ _ ({ dst := _, op := Op.build 47 _, type := _, pos := _, after := _, guard := _ } :: _) _ _); (refine wpList_build_has rfl 47 _ rfl (callT lv) (by kernel_rfl) ?_; try simp only [Act.put, List.setIfInBounds_toArray, List.set_cons_zero, List.set_cons_succ]))
        | ((go_at_call 9; refine (PB.out _ h).mono ?_; clear h; rintro _ w ⟨rfl, M4, lab4, h, hM4, hB4⟩)))
      have HE : Hid (EndM c p M1 M4 lab4 { s with thr := fun j => if j = t0 then (s.thr t0).call 110 [12, lv, 0, 0, 0, 0] else s.thr j } N f0) := Lib.hid ⟨hM4, hB4, HE3.out.cc, HE3.out.N, HE3.out.f⟩
      have ID : Hid (idleT { s with thr := fun j => if j = t0 then (s.thr t0).call 110 [12, lv, 0, 0, 0, 0] else s.thr j } t0 = false) := Lib.hid (by unfold idleT ThrS.call; simp)
      clear hM4 hB4 PB
      generalize hs4 : ({ s with thr := fun j => if j = t0 then (s.thr t0).call 110 [12, lv, 0, 0, 0, 0] else s.thr j } : MachS) = s4 at *
      clear hs4
      have RO := HE.out.round (σ := σ) HT.out HBB.out lv wd HWD.out HN0.out HZ.out x2 (b := false) (by rw [NOT.out _ ID.out]; simp)
      by_cases hw : (n : Int) ≤ wd
      · have dw : decide ((n : Int) ≤ wd) = true := decide_eq_true hw
        clear hw
        have hbx4 := HE.out.base.le _ _ hbx
        have ME := Lib.hid (fun (w : World) (h : Has σ M4 w) => mMem_eq h HE.out.mach)
        have WO := Lib.hid (fun (w : World) (h : Has σ M4 w) => memWords_eq h HE.out.mach.mem (by rw [HE.out.N]; exact HN0.out))
        have eR : (s4).mem.row = .cells (ints .u64 (s4).mem.N (s4).mem.f) 37 := rfl
        rw [eR, HE.out.N, HE.out.f, HWR.out] at WO
        clear eR
        have ME7 := Lib.hid (fun (M' : Mm) (w : World) (hle : (M4).le M') (h : Has σ M' w) => mMem_eq h (HE.out.mach.keep (Kp.le hle fun _ => 0) fun _ _ h => h))
        have WO7 := Lib.hid (fun (M' : Mm) (w : World) (hle : (M4).le M') (h : Has σ M' w) => by
          have := memWords_eq h (HE.out.mach.keep (Kp.le hle fun _ => 0) fun _ _ h => h).mem (by rw [HE.out.N]; exact HN0.out)
          have eR : (s4).mem.row = .cells (ints .u64 (s4).mem.N (s4).mem.f) 37 := rfl
          rw [eR, HE.out.N, HE.out.f, HWR.out] at this
          exact this)
        have hleE := HE.out.base.le
        go_upto_region 18 with (first
          | (go_at_call 10; go_loud (refine (ME.out _ h).mono ?_); clear h; rintro _ w ⟨rfl, h⟩)
          | ((go_at_call 11; refine (WO.out _ h).mono ?_; clear h; rintro _ w ⟨bw, M7, rfl, h, hle7, hnw, hbw⟩)))
        clear ME WO
        have hbx7 := hle7 _ _ hbx4
        have RO7 := Lib.hid (fun (w : World) (h : Has σ M7 w) => RO.out M7 w hle7 h)
        have ME8 := Lib.hid (fun (w : World) (h : Has σ M7 w) => ME7.out M7 w hle7 h)
        have WO8 := Lib.hid (fun (w : World) (h : Has σ M7 w) => WO7.out M7 w hle7 h)
        clear ME7 WO7
        go_wp2_with (first
          | (with_reducible show wpList _ _ _ ({ dst := _, op := Op.load 3 _, type := _, pos := _, after := _, guard := _ } :: _) _ _; go_loud (refine wpList_load1_has h rfl 3 _ rfl rfl hbx7 y2 Tryz.underlying3 rfl ?_))
          | ((go_at_call 12; refine (RO7.out _ h).mono ?_; clear h; rintro _ w ⟨rfl, h⟩))
          | (with_reducible show wpList _ _ _ ({ dst := _, op := Op.load 3 _, type := _, pos := _, after := _, guard := _ } :: _) _ _; go_loud (refine wpList_load1_has h rfl 3 _ rfl rfl hbx7 y1 Tryz.underlying3 rfl ?_))
          | (go_at_call 10; go_loud (refine (ME8.out _ h).mono ?_); clear h; rintro _ w ⟨rfl, h⟩)
          | ((go_at_call 11; refine (WO8.out _ h).mono ?_; clear h; rintro _ w ⟨bw2, M8, rfl, h, hle8, hnw8, hbw8⟩; have hbw78 := hle8 _ _ hbw))
          | ((go_at_call 13; refine (SM.out M8 bw2 bw _ h hbw8 hbw78).mono ?_; clear h; rintro _ w ⟨rfl, h⟩))
          | (go_at_call 6; go_loud (refine (LI.out _ _ h).mono ?_); clear h; rintro _ w ⟨rfl, h⟩))
        go_ret
        exact ⟨rfl, h.le (Mm.le_trans hle1 (Mm.le_trans hleE (Mm.le_trans hle7 hle8)))⟩
      · have dw : decide ((n : Int) ≤ wd) = false := decide_eq_false hw
        clear hw
        have hbx4 := HE.out.base.le _ _ hbx
        have ME := Lib.hid (fun (w : World) (h : Has σ M4 w) => mMem_eq h HE.out.mach)
        have WO := Lib.hid (fun (w : World) (h : Has σ M4 w) => memWords_eq h HE.out.mach.mem (by rw [HE.out.N]; exact HN0.out))
        have eR : (s4).mem.row = .cells (ints .u64 (s4).mem.N (s4).mem.f) 37 := rfl
        rw [eR, HE.out.N, HE.out.f, HWR.out] at WO
        clear eR
        have ME7 := Lib.hid (fun (M' : Mm) (w : World) (hle : (M4).le M') (h : Has σ M' w) => mMem_eq h (HE.out.mach.keep (Kp.le hle fun _ => 0) fun _ _ h => h))
        have WO7 := Lib.hid (fun (M' : Mm) (w : World) (hle : (M4).le M') (h : Has σ M' w) => by
          have := memWords_eq h (HE.out.mach.keep (Kp.le hle fun _ => 0) fun _ _ h => h).mem (by rw [HE.out.N]; exact HN0.out)
          have eR : (s4).mem.row = .cells (ints .u64 (s4).mem.N (s4).mem.f) 37 := rfl
          rw [eR, HE.out.N, HE.out.f, HWR.out] at this
          exact this)
        have hleE := HE.out.base.le
        go_upto_region 18 with (first
          | (go_at_call 10; go_loud (refine (ME.out _ h).mono ?_); clear h; rintro _ w ⟨rfl, h⟩)
          | ((go_at_call 11; refine (WO.out _ h).mono ?_; clear h; rintro _ w ⟨bw, M7, rfl, h, hle7, hnw, hbw⟩)))
        clear ME WO
        have hbx7 := hle7 _ _ hbx4
        have RO7 := Lib.hid (fun (w : World) (h : Has σ M7 w) => RO.out M7 w hle7 h)
        have ME8 := Lib.hid (fun (w : World) (h : Has σ M7 w) => ME7.out M7 w hle7 h)
        have WO8 := Lib.hid (fun (w : World) (h : Has σ M7 w) => WO7.out M7 w hle7 h)
        clear ME7 WO7
        go_wp2_with (first
          | (with_reducible show wpList _ _ _ ({ dst := _, op := Op.load 3 _, type := _, pos := _, after := _, guard := _ } :: _) _ _; go_loud (refine wpList_load1_has h rfl 3 _ rfl rfl hbx7 y2 Tryz.underlying3 rfl ?_))
          | ((go_at_call 12; refine (RO7.out _ h).mono ?_; clear h; rintro _ w ⟨rfl, h⟩))
          | (with_reducible show wpList _ _ _ ({ dst := _, op := Op.load 3 _, type := _, pos := _, after := _, guard := _ } :: _) _ _; go_loud (refine wpList_load1_has h rfl 3 _ rfl rfl hbx7 y1 Tryz.underlying3 rfl ?_))
          | (go_at_call 10; go_loud (refine (ME8.out _ h).mono ?_); clear h; rintro _ w ⟨rfl, h⟩)
          | ((go_at_call 11; refine (WO8.out _ h).mono ?_; clear h; rintro _ w ⟨bw2, M8, rfl, h, hle8, hnw8, hbw8⟩; have hbw78 := hle8 _ _ hbw))
          | ((go_at_call 13; refine (SM.out M8 bw2 bw _ h hbw8 hbw78).mono ?_; clear h; rintro _ w ⟨rfl, h⟩))
          | (go_at_call 6; go_loud (refine (LI.out _ _ h).mono ?_); clear h; rintro _ w ⟨rfl, h⟩))
        go_ret
        exact ⟨rfl, h.le (Mm.le_trans hle1 (Mm.le_trans hleE (Mm.le_trans hle7 hle8)))⟩
    have z0 : (x1 == 0) = false := beq_eq_false_iff_ne.2 h0
    have z1 : (x1 == 1) = false := beq_eq_false_iff_ne.2 h1
    have z2 : (x1 == 2) = false := beq_eq_false_iff_ne.2 h2
    have HE := HE3
    have ALL : Hid ((atCi c T lv).all (idleT s) = true) := Lib.hid (List.all_eq_true.2 fun t ht => by unfold idleT; rw [HTHR.out]; rfl)
    have HSG : Hid (x1 < 0 ∨ 2 < x1) := Lib.hid (by omega)
    clear h0 h1 h2 hbx3
    by_cases hw : (n : Int) ≤ wd
    · have dw : decide ((n : Int) ≤ wd) = true := decide_eq_true hw
      have RO := HE.out.round (σ := σ) HT.out HBB.out lv wd HWD.out HN0.out HZ.out x2 (b := true) (by rw [ALL.out, HNL.out]; have := HN00.out; simp; omega)
      clear hw
      by_cases hs : x1 < 0
      · have ds : decide (x1 < 0) = true := decide_eq_true hs
        clear hs
        have hbx4 := HE.out.base.le _ _ hbx
        have ME := Lib.hid (fun (w : World) (h : Has σ M3 w) => mMem_eq h HE.out.mach)
        have WO := Lib.hid (fun (w : World) (h : Has σ M3 w) => memWords_eq h HE.out.mach.mem (by rw [HE.out.N]; exact HN0.out))
        have eR : (s).mem.row = .cells (ints .u64 (s).mem.N (s).mem.f) 37 := rfl
        rw [eR, HE.out.N, HE.out.f, HWR.out] at WO
        clear eR
        have ME7 := Lib.hid (fun (M' : Mm) (w : World) (hle : (M3).le M') (h : Has σ M' w) => mMem_eq h (HE.out.mach.keep (Kp.le hle fun _ => 0) fun _ _ h => h))
        have WO7 := Lib.hid (fun (M' : Mm) (w : World) (hle : (M3).le M') (h : Has σ M' w) => by
          have := memWords_eq h (HE.out.mach.keep (Kp.le hle fun _ => 0) fun _ _ h => h).mem (by rw [HE.out.N]; exact HN0.out)
          have eR : (s).mem.row = .cells (ints .u64 (s).mem.N (s).mem.f) 37 := rfl
          rw [eR, HE.out.N, HE.out.f, HWR.out] at this
          exact this)
        have hleE := HE.out.base.le
        go_upto_region 18 with (first
          | (go_at_call 10; go_loud (refine (ME.out _ h).mono ?_); clear h; rintro _ w ⟨rfl, h⟩)
          | ((go_at_call 11; refine (WO.out _ h).mono ?_; clear h; rintro _ w ⟨bw, M7, rfl, h, hle7, hnw, hbw⟩)))
        clear ME WO
        have hbx7 := hle7 _ _ hbx4
        have RO7 := Lib.hid (fun (w : World) (h : Has σ M7 w) => RO.out M7 w hle7 h)
        have ME8 := Lib.hid (fun (w : World) (h : Has σ M7 w) => ME7.out M7 w hle7 h)
        have WO8 := Lib.hid (fun (w : World) (h : Has σ M7 w) => WO7.out M7 w hle7 h)
        clear ME7 WO7
        go_wp2_with (first
          | (with_reducible show wpList _ _ _ ({ dst := _, op := Op.load 3 _, type := _, pos := _, after := _, guard := _ } :: _) _ _; go_loud (refine wpList_load1_has h rfl 3 _ rfl rfl hbx7 y2 Tryz.underlying3 rfl ?_))
          | ((go_at_call 12; refine (RO7.out _ h).mono ?_; clear h; rintro _ w ⟨rfl, h⟩))
          | (with_reducible show wpList _ _ _ ({ dst := _, op := Op.load 3 _, type := _, pos := _, after := _, guard := _ } :: _) _ _; go_loud (refine wpList_load1_has h rfl 3 _ rfl rfl hbx7 y1 Tryz.underlying3 rfl ?_))
          | (go_at_call 10; go_loud (refine (ME8.out _ h).mono ?_); clear h; rintro _ w ⟨rfl, h⟩)
          | ((go_at_call 11; refine (WO8.out _ h).mono ?_; clear h; rintro _ w ⟨bw2, M8, rfl, h, hle8, hnw8, hbw8⟩; have hbw78 := hle8 _ _ hbw))
          | ((go_at_call 13; refine (SM.out M8 bw2 bw _ h hbw8 hbw78).mono ?_; clear h; rintro _ w ⟨rfl, h⟩))
          | (go_at_call 6; go_loud (refine (LI.out _ _ h).mono ?_); clear h; rintro _ w ⟨rfl, h⟩))
        go_ret
        exact ⟨rfl, h.le (Mm.le_trans hle1 (Mm.le_trans hleE (Mm.le_trans hle7 hle8)))⟩
      · have ds : decide (x1 < 0) = false := decide_eq_false hs
        have ds2 : decide (2 < x1) = true := decide_eq_true (by have := HSG.out; omega)
        clear hs
        have hbx4 := HE.out.base.le _ _ hbx
        have ME := Lib.hid (fun (w : World) (h : Has σ M3 w) => mMem_eq h HE.out.mach)
        have WO := Lib.hid (fun (w : World) (h : Has σ M3 w) => memWords_eq h HE.out.mach.mem (by rw [HE.out.N]; exact HN0.out))
        have eR : (s).mem.row = .cells (ints .u64 (s).mem.N (s).mem.f) 37 := rfl
        rw [eR, HE.out.N, HE.out.f, HWR.out] at WO
        clear eR
        have ME7 := Lib.hid (fun (M' : Mm) (w : World) (hle : (M3).le M') (h : Has σ M' w) => mMem_eq h (HE.out.mach.keep (Kp.le hle fun _ => 0) fun _ _ h => h))
        have WO7 := Lib.hid (fun (M' : Mm) (w : World) (hle : (M3).le M') (h : Has σ M' w) => by
          have := memWords_eq h (HE.out.mach.keep (Kp.le hle fun _ => 0) fun _ _ h => h).mem (by rw [HE.out.N]; exact HN0.out)
          have eR : (s).mem.row = .cells (ints .u64 (s).mem.N (s).mem.f) 37 := rfl
          rw [eR, HE.out.N, HE.out.f, HWR.out] at this
          exact this)
        have hleE := HE.out.base.le
        go_upto_region 18 with (first
          | (go_at_call 10; go_loud (refine (ME.out _ h).mono ?_); clear h; rintro _ w ⟨rfl, h⟩)
          | ((go_at_call 11; refine (WO.out _ h).mono ?_; clear h; rintro _ w ⟨bw, M7, rfl, h, hle7, hnw, hbw⟩)))
        clear ME WO
        have hbx7 := hle7 _ _ hbx4
        have RO7 := Lib.hid (fun (w : World) (h : Has σ M7 w) => RO.out M7 w hle7 h)
        have ME8 := Lib.hid (fun (w : World) (h : Has σ M7 w) => ME7.out M7 w hle7 h)
        have WO8 := Lib.hid (fun (w : World) (h : Has σ M7 w) => WO7.out M7 w hle7 h)
        clear ME7 WO7
        go_wp2_with (first
          | (with_reducible show wpList _ _ _ ({ dst := _, op := Op.load 3 _, type := _, pos := _, after := _, guard := _ } :: _) _ _; go_loud (refine wpList_load1_has h rfl 3 _ rfl rfl hbx7 y2 Tryz.underlying3 rfl ?_))
          | ((go_at_call 12; refine (RO7.out _ h).mono ?_; clear h; rintro _ w ⟨rfl, h⟩))
          | (with_reducible show wpList _ _ _ ({ dst := _, op := Op.load 3 _, type := _, pos := _, after := _, guard := _ } :: _) _ _; go_loud (refine wpList_load1_has h rfl 3 _ rfl rfl hbx7 y1 Tryz.underlying3 rfl ?_))
          | (go_at_call 10; go_loud (refine (ME8.out _ h).mono ?_); clear h; rintro _ w ⟨rfl, h⟩)
          | ((go_at_call 11; refine (WO8.out _ h).mono ?_; clear h; rintro _ w ⟨bw2, M8, rfl, h, hle8, hnw8, hbw8⟩; have hbw78 := hle8 _ _ hbw))
          | ((go_at_call 13; refine (SM.out M8 bw2 bw _ h hbw8 hbw78).mono ?_; clear h; rintro _ w ⟨rfl, h⟩))
          | (go_at_call 6; go_loud (refine (LI.out _ _ h).mono ?_); clear h; rintro _ w ⟨rfl, h⟩))
        go_ret
        exact ⟨rfl, h.le (Mm.le_trans hle1 (Mm.le_trans hleE (Mm.le_trans hle7 hle8)))⟩
    · have dw : decide ((n : Int) ≤ wd) = false := decide_eq_false hw
      have RO := HE.out.round (σ := σ) HT.out HBB.out lv wd HWD.out HN0.out HZ.out x2 (b := false) (by rw [HNL.out, dw]; simp)
      clear hw
      have hbx4 := HE.out.base.le _ _ hbx
      have ME := Lib.hid (fun (w : World) (h : Has σ M3 w) => mMem_eq h HE.out.mach)
      have WO := Lib.hid (fun (w : World) (h : Has σ M3 w) => memWords_eq h HE.out.mach.mem (by rw [HE.out.N]; exact HN0.out))
      have eR : (s).mem.row = .cells (ints .u64 (s).mem.N (s).mem.f) 37 := rfl
      rw [eR, HE.out.N, HE.out.f, HWR.out] at WO
      clear eR
      have ME7 := Lib.hid (fun (M' : Mm) (w : World) (hle : (M3).le M') (h : Has σ M' w) => mMem_eq h (HE.out.mach.keep (Kp.le hle fun _ => 0) fun _ _ h => h))
      have WO7 := Lib.hid (fun (M' : Mm) (w : World) (hle : (M3).le M') (h : Has σ M' w) => by
        have := memWords_eq h (HE.out.mach.keep (Kp.le hle fun _ => 0) fun _ _ h => h).mem (by rw [HE.out.N]; exact HN0.out)
        have eR : (s).mem.row = .cells (ints .u64 (s).mem.N (s).mem.f) 37 := rfl
        rw [eR, HE.out.N, HE.out.f, HWR.out] at this
        exact this)
      have hleE := HE.out.base.le
      go_upto_region 18 with (first
        | (go_at_call 10; go_loud (refine (ME.out _ h).mono ?_); clear h; rintro _ w ⟨rfl, h⟩)
        | ((go_at_call 11; refine (WO.out _ h).mono ?_; clear h; rintro _ w ⟨bw, M7, rfl, h, hle7, hnw, hbw⟩)))
      clear ME WO
      have hbx7 := hle7 _ _ hbx4
      have RO7 := Lib.hid (fun (w : World) (h : Has σ M7 w) => RO.out M7 w hle7 h)
      have ME8 := Lib.hid (fun (w : World) (h : Has σ M7 w) => ME7.out M7 w hle7 h)
      have WO8 := Lib.hid (fun (w : World) (h : Has σ M7 w) => WO7.out M7 w hle7 h)
      clear ME7 WO7
      go_wp2_with (first
        | (with_reducible show wpList _ _ _ ({ dst := _, op := Op.load 3 _, type := _, pos := _, after := _, guard := _ } :: _) _ _; go_loud (refine wpList_load1_has h rfl 3 _ rfl rfl hbx7 y2 Tryz.underlying3 rfl ?_))
        | ((go_at_call 12; refine (RO7.out _ h).mono ?_; clear h; rintro _ w ⟨rfl, h⟩))
        | (with_reducible show wpList _ _ _ ({ dst := _, op := Op.load 3 _, type := _, pos := _, after := _, guard := _ } :: _) _ _; go_loud (refine wpList_load1_has h rfl 3 _ rfl rfl hbx7 y1 Tryz.underlying3 rfl ?_))
        | (go_at_call 10; go_loud (refine (ME8.out _ h).mono ?_); clear h; rintro _ w ⟨rfl, h⟩)
        | ((go_at_call 11; refine (WO8.out _ h).mono ?_; clear h; rintro _ w ⟨bw2, M8, rfl, h, hle8, hnw8, hbw8⟩; have hbw78 := hle8 _ _ hbw))
        | ((go_at_call 13; refine (SM.out M8 bw2 bw _ h hbw8 hbw78).mono ?_; clear h; rintro _ w ⟨rfl, h⟩))
        | (go_at_call 6; go_loud (refine (LI.out _ _ h).mono ?_); clear h; rintro _ w ⟨rfl, h⟩))
      go_ret
      exact ⟨rfl, h.le (Mm.le_trans hle1 (Mm.le_trans hleE (Mm.le_trans hle7 hle8)))⟩
end Go.Proofs.YtmfpablmmjaccaaGreatDoor
