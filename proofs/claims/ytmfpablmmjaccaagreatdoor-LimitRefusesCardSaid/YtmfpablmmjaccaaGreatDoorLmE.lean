/- Layer 33 (pool): a thread within nothing begins a Tend; a thread is stalled, or killed. -/
import Derived.Test.YtmfpablmmjaccaaGreatDoorLmD
import Derived.Test.YtmfpablmmjaccaaGreatDoorThrB
import Derived.Test.YtmfpablmmjaccaaGreatDoorMachT
namespace Go.Proofs.YtmfpablmmjaccaaGreatDoor
open Go.RowKit
set_option linter.unusedVariables false
set_option linter.unusedSimpArgs false
set_option linter.unnecessarySimpa false
def callT (lv : Int) : Array Value := #[.int .i64 12, .int .i64 lv, .int .i64 0, .int .u64 0, .int .u64 0, .int .u64 0, .int .i64 0]
def callZ : Array Value := #[.int .i64 0, .int .i64 0, .int .i64 0, .int .u64 0, .int .u64 0, .int .u64 0, .int .i64 0]
theorem zcallL : (Tryz.prog.info? 47).bind (·.zero) = some (.agg callZ) := by kernel_rfl
/-- A thread is stalled, or killed, or not. -/
theorem Mach.flag {K M : Mm} {lab : Nat → Nat} {p t q : Nat} {s : MachS} (hM : Mach M lab p s) (hB : Base K M lab) (hq : s.tp[t]? = some q) (x' : ThrS) (hx : x'.frames = (s.thr t).frames ∧ x'.handles = (s.thr t).handles) :
    ∃ fv hv, M q = some (.cells ((s.thr t).row fv hv) 42) ∧ Mach (M.upd q (.cells (x'.row fv hv) 42)) lab p { s with thr := fun j => if j = t then x' else s.thr j } ∧ Base K (M.upd q (.cells (x'.row fv hv) 42)) lab := by
  obtain ⟨fv, hv, fbs, hT⟩ := hM.each t q hq
  have hK1 : Kp (fun j => j = 10 + 4 * t) M lab (M.upd q (.cells (x'.row fv hv) 42)) lab := Kp.upd hT.mark _
  have hK2 : Kp (OfThr t) M lab (M.upd q (.cells (x'.row fv hv) 42)) lab := fun c o hc hA => hK1 c o hc fun e => hA ⟨by omega, by omega⟩
  have hT' : IsThr (M.upd q (.cells (x'.row fv hv) 42)) lab t q x' := by
    refine ⟨fv, hv, fbs, Mm.upd_same _ _ _, hT.mark, hT.frow.keep hK1 (by omega), by rw [hx.1]; exact hT.flen, hT.nodup, fun i b f hb hf => hK1.get (hT.frame i b f hb (by rw [← hx.1]; exact hf)).1 (hT.frame i b f hb (by rw [← hx.1]; exact hf)).2 (by omega), by rw [hx.2]; exact hT.hrow.keep hK1 (by omega)⟩
  obtain ⟨h1, h2⟩ := hM.thrTo hB hq hK2 hT'
  exact ⟨fv, hv, hT.obj, h1, h2⟩
section
variable {σ w : World} {M : Mm}
theorem callIn_any (h : Has σ M w) (n lo hi : Int) : Calls Tryz.prog 47 #[.int .i64 n, .int .i64 lo, .int .i64 hi] w fun r w' => r = .returned (.bool (decide (lo ≤ n) && decide (n ≤ hi))) ∧ Has σ M w' := by
  obtain ⟨b1, h1⟩ : ∃ b, decide (lo ≤ n) = b := ⟨_, rfl⟩
  obtain ⟨b2, h2⟩ : ∃ b, decide (n ≤ hi) = b := ⟨_, rfl⟩
  rw [h1, h2]
  cases b1
  · go_enter Tryz.func47, Tryz.ntmps47
    go_wp2
    go_ret
    exact ⟨rfl, h⟩
  · go_enter Tryz.func47, Tryz.ntmps47
    go_wp2
    go_ret
    exact ⟨rfl, h⟩
theorem fieldBits_0 (h : Has σ M w) : Calls Tryz.prog 28 #[.int .i64 0] w fun r w' => r = .returned (.int .u64 0) ∧ Has σ M w' := by
  go_enter Tryz.func28, Tryz.ntmps28
  go_wp2
  go_ret
  exact ⟨rfl, h⟩
set_option maxHeartbeats 1000000 in
set_option maxRecDepth 20000 in
theorem callMayT (h : Has σ M w) (lv : Int) (h0 : 0 ≤ lv) (h1 : lv ≤ 3) : Calls Tryz.prog 25 #[.agg (callT lv)] w fun r w' => r = .returned (.bool true) ∧ Has σ M w' := by
  have cz : (callT lv).size = 7 := rfl
  have cx : (callT lv).extract 0 (0 + 7) = callT lv := rfl
  have c0 : (callT lv)[0]? = some (.int .i64 12) := rfl
  have c1 : (callT lv)[1]? = some (.int .i64 lv) := rfl
  have c2 : (callT lv)[2]? = some (.int .i64 0) := rfl
  have c3 : (callT lv)[3]? = some (.int .u64 0) := rfl
  have c4 : (callT lv)[4]? = some (.int .u64 0) := rfl
  have c5 : (callT lv)[5]? = some (.int .u64 0) := rfl
  have c6 : (callT lv)[6]? = some (.int .i64 0) := rfl
  have CO : Hid ((callT lv).toList.all (·.oneCell') = true) := Lib.hid rfl
  generalize callT lv = cc at *
  have d1 : decide (0 ≤ lv) = true := decide_eq_true h0
  have d2 : decide (lv ≤ 3) = true := decide_eq_true h1
  have IN := Lib.hid (fun (M : Mm) (n lo hi : Int) (w : World) (h : Has σ M w) => callIn_any h n lo hi)
  clear h0 h1
  go_enter Tryz.func25, Tryz.ntmps25
  go_upto_region 1 with (first
    | ((with_reducible show wpList _ _ _ ({ dst := _, op := Op.box 47 _, type := _, pos := _, after := _, guard := _ } :: _) _ _); go_loud (refine wpList_box_has h rfl 47 _ rfl ?_); clear h; intro b1 w h hn1; try simp only [Act.put, List.setIfInBounds_toArray, List.set_cons_zero, List.set_cons_succ]))
  replace hn1 : M b1 = none := hn1
  replace h : Has σ (M.upd b1 (.cells cc 47)) w := h
  have hle2 : M.le (M.upd b1 (.cells cc 47)) := Mm.le_upd' hn1 _
  have hb1 : (M.upd b1 (.cells cc 47)) b1 = some (.cells cc 47) := (Mm.le_refl _) _ _ (Mm.upd_same _ _ _)
  replace hn1 : M b1 = none := Mm.none_of (Mm.le_refl _) hn1
  generalize (M.upd b1 (.cells cc 47)) = M2 at h hle2 hb1
  go_wp2_with (first
    | (with_reducible show wpList _ _ _ ({ dst := _, op := Op.load 3 _, type := _, pos := _, after := _, guard := _ } :: _) _ _; go_loud (refine wpList_load1_has h rfl 3 _ rfl rfl hb1 c0 Tryz.underlying3 rfl ?_))
    | (with_reducible show wpList _ _ _ ({ dst := _, op := Op.load 3 _, type := _, pos := _, after := _, guard := _ } :: _) _ _; go_loud (refine wpList_load1_has h rfl 3 _ rfl rfl hb1 c1 Tryz.underlying3 rfl ?_))
    | (with_reducible show wpList _ _ _ ({ dst := _, op := Op.load 3 _, type := _, pos := _, after := _, guard := _ } :: _) _ _; go_loud (refine wpList_load1_has h rfl 3 _ rfl rfl hb1 c6 Tryz.underlying3 rfl ?_))
    | (go_at_call 47; go_loud (refine (IN.out _ _ _ _ _ h).mono ?_); clear h; rintro _ w ⟨rfl, h⟩))
  go_ret
  exact ⟨rfl, h.le hle2⟩
set_option maxHeartbeats 2000000 in
set_option maxRecDepth 20000 in
theorem poolMeantT (h : Has σ M w) (lv : Int) {p t q : Nat}
    (TH : Hid (∀ (M' : Mm) (w : World), M.le M' → Has σ M' w → Calls Tryz.prog 8 #[.pointer (some ⟨p, 0, none⟩), .int .i64 (t : Nat)] w fun r w' => r = .returned (.pointer (some ⟨q, 0, none⟩)) ∧ Has σ M' w')) :
    Calls Tryz.prog 26 #[.pointer (some ⟨p, 0, none⟩), .int .i64 (t : Nat), .agg (callT lv)] w fun r w' => r = .returned (.agg (callT lv)) ∧ Has σ M w' := by
  have cz : (callT lv).size = 7 := rfl
  have cx : (callT lv).extract 0 (0 + 7) = callT lv := rfl
  have c0 : (callT lv)[0]? = some (.int .i64 12) := rfl
  have c1 : (callT lv)[1]? = some (.int .i64 lv) := rfl
  have c2 : (callT lv)[2]? = some (.int .i64 0) := rfl
  have c3 : (callT lv)[3]? = some (.int .u64 0) := rfl
  have c4 : (callT lv)[4]? = some (.int .u64 0) := rfl
  have c5 : (callT lv)[5]? = some (.int .u64 0) := rfl
  have c6 : (callT lv)[6]? = some (.int .i64 0) := rfl
  have CO : Hid ((callT lv).toList.all (·.oneCell') = true) := Lib.hid rfl
  have zc := zcallL
  have HZ : Hid (callZ.size = 7) := Lib.hid rfl
  generalize callZ = z0 at *
  generalize callT lv = cc at *
  go_enter Tryz.func26, Tryz.ntmps26
  go_upto_region 1 with (first
    | ((with_reducible show wpList _ _ _ ({ dst := _, op := Op.box 47 _, type := _, pos := _, after := _, guard := _ } :: _) _ _); go_loud (refine wpList_box_has h rfl 47 _ rfl ?_); clear h; intro b5 w h hn5; try simp only [Act.put, List.setIfInBounds_toArray, List.set_cons_zero, List.set_cons_succ])
    | ((with_reducible show wpList _ _ _ ({ dst := some 6, op := Op.alloc 47, type := _, pos := _, after := _, guard := _ } :: _) _ _); go_loud (refine wpList_alloc_has h rfl 47 rfl _ zc ?_); clear h; intro b6 w h hn6; try simp only [Act.put, List.setIfInBounds_toArray, List.set_cons_zero, List.set_cons_succ]))
  replace hn5 : M b5 = none := hn5
  replace hn6 : (M.upd b5 (.cells cc 47)) b6 = none := hn6
  replace h : Has σ ((M.upd b5 (.cells cc 47)).upd b6 (.cells z0 47)) w := h
  have hle2 : M.le ((M.upd b5 (.cells cc 47)).upd b6 (.cells z0 47)) := Mm.le_trans (Mm.le_upd' hn5 _) (Mm.le_upd' hn6 _)
  have hb5 : ((M.upd b5 (.cells cc 47)).upd b6 (.cells z0 47)) b5 = some (.cells cc 47) := (Mm.le_upd' hn6 _) _ _ (Mm.upd_same _ _ _)
  have hb6 : ((M.upd b5 (.cells cc 47)).upd b6 (.cells z0 47)) b6 = some (.cells z0 47) := (Mm.le_refl _) _ _ (Mm.upd_same _ _ _)
  have n_b5_b6 : b5 ≠ b6 := Mm.ne_of hn6 ((Mm.le_refl _) _ _ (Mm.upd_same _ _ _))
  replace hn6 : M b6 = none := Mm.none_of (Mm.le_upd' hn5 _) hn6
  replace hn5 : M b5 = none := Mm.none_of (Mm.le_refl _) hn5
  generalize ((M.upd b5 (.cells cc 47)).upd b6 (.cells z0 47)) = M2 at h hle2 hb5 hb6
  have TH2 := Lib.hid (TH.out M2)
  go_upto_region 4 with (first
    | (go_at_call 8; go_loud (refine (TH2.out _ hle2 h).mono ?_); clear h; rintro _ w ⟨rfl, h⟩)
    | (with_reducible show wpList _ _ _ ({ dst := _, op := Op.load 3 _, type := _, pos := _, after := _, guard := _ } :: _) _ _; go_loud (refine wpList_load1_has h rfl 3 _ rfl rfl hb5 c6 Tryz.underlying3 rfl ?_)))
  refine wp_region_class (Has σ M2) (by kernel_rfl) (by kernel_rfl) h.drew ?_
  clear h
  repeat (first
    | go_big_quiet_skip
    | (go_big_quiet_want; first
      | (refine quiet_load_has 3 _ rfl rfl hb5 c0 Tryz.underlying3 rfl ?_; simp only [Act.put, List.setIfInBounds_toArray, List.set_cons_zero, List.set_cons_succ]; go_big_quiet_on)
      | (go_big_quiet_op; first | go_big_quiet_on | go_big_quiet_call (first | with_reducible exact fun _ => rfl))))
  refine wpQuiet_nil ?_
  try clear w
  intro w h
  go_wp2_with (first
    | ((with_reducible show wpList _ _ _ ({ dst := _, op := Op.load 47 _, type := _, pos := _, after := _, guard := _ } :: _) _ _); go_loud (refine wpList_agg_has h rfl 47 _ rfl rfl hb5 cx cz Tryz.underlying47 rfl (by kernel_rfl) ?_); try simp only [Act.put, List.setIfInBounds_toArray, List.set_cons_zero, List.set_cons_succ])
    | ((with_reducible show wpList _ _ _ ({ dst := _, op := Op.store 47 _ _, type := _, pos := _, after := _, guard := _ } :: _) _ _); refine wpList_storeAll_has (cells := cc) h rfl 47 _ _ rfl rfl rfl hb6 rfl HZ.out cz (by kernel_rfl) CO.out ?_; clear h; intro w h))
  exact bodyPost_ret (results_cell_row rfl _ _ _ _ _ _ _ rfl (h.at_ b6 _ (Mm.upd_same _ _ _)) Tryz.underlying47 rfl (by rw [cz]; kernel_rfl)) rfl ⟨rfl, h.le (Mm.le_upd hle2 hn6 _)⟩
end
set_option maxHeartbeats 2000000 in
set_option maxRecDepth 20000 in
theorem poolBeginT {σ w : World} {K M : Mm} {lab : Nat → Nat} {p t q : Nat} {s : MachS} (h : Has σ M w) (hM : Mach M lab p s) (hB : Base K M lab) (hq : s.tp[t]? = some q) (hf : (s.thr t).frames = []) (lv : Int) (h0 : 0 ≤ lv) (h1 : lv ≤ 3) :
    Calls Tryz.prog 9 #[.pointer (some ⟨p, 0, none⟩), .int .i64 (t : Nat), .agg (callT lv)] w fun r w' => r = .returned (.bool true) ∧ ∃ M' lab', Has σ M' w' ∧ Mach M' lab' p { s with thr := fun j => if j = t then (s.thr t).call 110 [12, lv, 0, 0, 0, 0] else s.thr j } ∧ Base K M' lab' := by
  have TH : Hid (∀ (M' : Mm) (w : World), M.le M' → Has σ M' w → Calls Tryz.prog 8 #[.pointer (some ⟨p, 0, none⟩), .int .i64 (t : Nat)] w fun r w' => r = .returned (.pointer (some ⟨q, 0, none⟩)) ∧ Has σ M' w') := Lib.hid fun M' w hle h => mThread_yes h (hM.keep (Kp.le hle fun _ => 0) fun _ _ h => h) hq
  have DP : Hid (∀ (M' : Mm) (w : World), M.le M' → Has σ M' w → Calls Tryz.prog 24 #[.pointer (some ⟨q, 0, none⟩)] w fun r w' => r = .returned (.int .i64 0) ∧ Has σ M' w') := Lib.hid fun M' w hle h => by
    obtain ⟨fv, hv, fbs, hT⟩ := (hM.keep (Kp.le hle fun _ => 0) fun _ _ h => h).each t q hq
    have hl : fbs.length = 0 := by rw [hT.flen, hf]; rfl
    have := thrDeep_eq h hT
    rw [hl] at this
    exact this
  have MT := Lib.hid (fun (M' : Mm) (w : World) (hle : M.le M') (h : Has σ M' w) => poolMeantT h lv (p := p) (t := t) (q := q) (Lib.hid fun M2 w hle2 h => TH.out M2 w (Mm.le_trans hle hle2) h))
  have MY := Lib.hid (fun (M' : Mm) (w : World) (h : Has σ M' w) => callMayT h lv h0 h1)
  have FB := Lib.hid (fun (M' : Mm) (w : World) (h : Has σ M' w) => fieldBits_0 (M := M') h)
  have CL : Hid (∀ (M' : Mm) (bl : Nat) (w : World), M.le M' → M' bl = some (.cells #[.int .u64 12, .int .u64 lv, .int .u64 0, .int .u64 0, .int .u64 0, .int .u64 0] 37) → Has σ M' w → Calls Tryz.prog 27 #[.pointer (some ⟨q, 0, none⟩), .int .i64 110, .slice (some ⟨bl, 0, none⟩) 6 6] w fun r w' => r = .returned (.tuple #[]) ∧ ∃ M' lab', Has σ M' w' ∧ Mach M' lab' p { s with thr := fun j => if j = t then (s.thr t).call 110 [12, lv, 0, 0, 0, 0] else s.thr j } ∧ Base K M' lab') := Lib.hid fun M' bl w hle hb h => by
    obtain ⟨lab', hM', hB'⟩ := hM.more hB (K' := K) hle fun c o hc => ⟨hle _ _ (hB c o hc).1, .inl hc⟩
    obtain ⟨fv, hv, fbs, hT⟩ := hM'.each t q hq
    have hl : fbs.length = 0 := by rw [hT.flen, hf]; rfl
    have hrd : Rd M' 1 (.slice (some ⟨bl, 0, none⟩) 6 6) 6 (u64s [12, lv, 0, 0, 0, 0]) := ⟨rfl, _, _, rfl, Nat.le_refl _, fun _ => ⟨bl, 0, _, _, _, rfl, hb, fun j u hu => by simpa [u64s] using hu⟩⟩
    refine (thrCall_eq h hT 110 hrd (by simp) (by omega)).mono fun r w' ⟨e, M2, lab2, h2, hK, hI⟩ => ?_
    obtain ⟨h4, h5⟩ := hM'.thrTo hB' hq hK hI
    exact ⟨e, M2, lab2, h2, h4, h5⟩
  have wl : IntKind.u64.wrap lv = lv := IntWalk.u64_in _ (by omega)
  have cz : (callT lv).size = 7 := rfl
  have cx : (callT lv).extract 0 (0 + 7) = callT lv := rfl
  have c0 : (callT lv)[0]? = some (.int .i64 12) := rfl
  have c1 : (callT lv)[1]? = some (.int .i64 lv) := rfl
  have c2 : (callT lv)[2]? = some (.int .i64 0) := rfl
  have c3 : (callT lv)[3]? = some (.int .u64 0) := rfl
  have c4 : (callT lv)[4]? = some (.int .u64 0) := rfl
  have c5 : (callT lv)[5]? = some (.int .u64 0) := rfl
  have c6 : (callT lv)[6]? = some (.int .i64 0) := rfl
  have CO : Hid ((callT lv).toList.all (·.oneCell') = true) := Lib.hid rfl
  generalize callT lv = cc at *
  clear hM hB hq hf h0 h1
  go_enter Tryz.func9, Tryz.ntmps9
  go_upto_region 1 with (first
    | ((with_reducible show wpList _ _ _ ({ dst := _, op := Op.box 47 _, type := _, pos := _, after := _, guard := _ } :: _) _ _); go_loud (refine wpList_box_has h rfl 47 _ rfl ?_); clear h; intro b5 w h hn5; try simp only [Act.put, List.setIfInBounds_toArray, List.set_cons_zero, List.set_cons_succ]))
  replace hn5 : M b5 = none := hn5
  replace h : Has σ (M.upd b5 (.cells cc 47)) w := h
  have hle2 : M.le (M.upd b5 (.cells cc 47)) := Mm.le_upd' hn5 _
  have hb5 : (M.upd b5 (.cells cc 47)) b5 = some (.cells cc 47) := (Mm.le_refl _) _ _ (Mm.upd_same _ _ _)
  replace hn5 : M b5 = none := Mm.none_of (Mm.le_refl _) hn5
  generalize (M.upd b5 (.cells cc 47)) = M2 at h hle2 hb5
  have TH2 := Lib.hid (fun (w : World) (h : Has σ M2 w) => TH.out M2 w hle2 h)
  have DP2 := Lib.hid (fun (w : World) (h : Has σ M2 w) => DP.out M2 w hle2 h)
  have MT2 := Lib.hid (fun (w : World) (h : Has σ M2 w) => MT.out M2 w hle2 h)
  have e5 : Hid (M2.upd b5 (.cells cc 47) = M2) := Lib.hid (funext fun x => by unfold Mm.upd; split <;> simp_all)
  go_upto_region 5 with (first
    | (go_at_call 8; go_loud (refine (TH2.out _ h).mono ?_); clear h; rintro _ w ⟨rfl, h⟩)
    | (go_at_call 24; go_loud (refine (DP2.out _ h).mono ?_); clear h; rintro _ w ⟨rfl, h⟩)
    | ((with_reducible show wpList _ _ _ ({ dst := _, op := Op.load 47 _, type := _, pos := _, after := _, guard := _ } :: _) _ _); go_loud (refine wpList_agg_has h rfl 47 _ rfl rfl hb5 cx cz Tryz.underlying47 rfl (by kernel_rfl) ?_); try simp only [Act.put, List.setIfInBounds_toArray, List.set_cons_zero, List.set_cons_succ])
    | (go_at_call 25; go_loud (refine (MY.out _ _ h).mono ?_); clear h; rintro _ w ⟨rfl, h⟩)
    | (go_at_call 26; go_loud (refine (MT2.out _ h).mono ?_); clear h; rintro _ w ⟨rfl, h⟩)
    | ((with_reducible show wpList _ _ _ ({ dst := _, op := Op.store 47 _ _, type := _, pos := _, after := _, guard := _ } :: _) _ _); refine wpList_storeAll_has (cells := cc) h rfl 47 _ _ rfl rfl rfl hb5 rfl cz cz (by kernel_rfl) CO.out ?_; clear h; intro w h))
  rw [e5.out] at h
  have FB2 := Lib.hid (FB.out M2)
  refine wp_region_head (Has σ M2) 18 (by kernel_rfl) (by kernel_rfl) (fun _ _ _ _ _ h => h) h.drew ?_
  clear h
  simp only [List.take_succ_cons, List.take_zero, List.drop_succ_cons, List.drop_zero]
  repeat (first
    | go_big_quiet_skip
    | (go_big_quiet_want; first
      | (refine quiet_load_has 3 _ rfl rfl hb5 c0 Tryz.underlying3 rfl ?_; simp only [Act.put, List.setIfInBounds_toArray, List.set_cons_zero, List.set_cons_succ]; go_big_quiet_on)
      | (refine quiet_load_has 3 _ rfl rfl hb5 c1 Tryz.underlying3 rfl ?_; simp only [Act.put, List.setIfInBounds_toArray, List.set_cons_zero, List.set_cons_succ]; go_big_quiet_on)
      | (refine quiet_load_has 2 _ rfl rfl hb5 c2 Tryz.underlying2 rfl ?_; simp only [Act.put, List.setIfInBounds_toArray, List.set_cons_zero, List.set_cons_succ]; go_big_quiet_on)
      | (refine quiet_load_has 37 _ rfl rfl hb5 c3 Tryz.underlying37 rfl ?_; simp only [Act.put, List.setIfInBounds_toArray, List.set_cons_zero, List.set_cons_succ]; go_big_quiet_on)
      | (refine quiet_load_has 37 _ rfl rfl hb5 c4 Tryz.underlying37 rfl ?_; simp only [Act.put, List.setIfInBounds_toArray, List.set_cons_zero, List.set_cons_succ]; go_big_quiet_on)
      | (refine quiet_load_has 37 _ rfl rfl hb5 c5 Tryz.underlying37 rfl ?_; simp only [Act.put, List.setIfInBounds_toArray, List.set_cons_zero, List.set_cons_succ]; go_big_quiet_on)
      | (go_big_quiet_op; first | go_big_quiet_on | go_big_quiet_call (first | with_reducible exact fun _ => rfl | with_reducible exact FB2.out _))))
  refine wpQuiet_nil ?_
  try clear w
  intro w h
  go_wp2_with (fail)
  obtain ⟨M3, hbx, hle3, hbl, hnl⟩ := h.box (.cells #[.int .u64 12, .int .u64 lv, .int .u64 0, .int .u64 0, .int .u64 0, .int .u64 0] 37)
  generalize w.alloc _ = wx at hbx ⊢
  generalize w.heap.size = bl at hbl hnl ⊢
  clear h
  try clear w
  have h := hbx
  clear hbx
  obtain ⟨w, rfl⟩ : ∃ x : World, x = wx := ⟨_, rfl⟩
  have CL3 := Lib.hid (fun (w : World) (h : Has σ M3 w) => CL.out M3 bl w (Mm.le_trans hle2 hle3) hbl h)
  go_wp2_with (first
    | ((go_at_call 27; refine (CL3.out _ h).mono ?_; clear h; rintro _ w ⟨rfl, M4, lab4, h, hM4, hB4⟩)))
  go_ret
  exact ⟨rfl, M4, lab4, h, hM4, hB4⟩
end Go.Proofs.YtmfpablmmjaccaaGreatDoor
