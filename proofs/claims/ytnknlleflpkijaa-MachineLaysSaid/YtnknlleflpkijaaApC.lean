/- Law 21: Spot; the chapter's example. -/
import Derived.Test.YtnknlleflpkijaaApB
namespace Go.Proofs.Ytnknlleflpkijaa
open Go.RowKit
set_option linter.unusedVariables false
set_option linter.unusedSimpArgs false
set_option linter.unnecessarySimpa false
set_option maxHeartbeats 1000000 in
theorem mSpot_yes {σ w : World} {M : Mm} {lab : Nat → Nat} {p : Nat} {s : MachS} (h : Has σ M w) (hM : Mach M lab p s) (t lv : Int) (hlv : levelOf s.c t = lv) (hl0 : 0 ≤ lv) (hl1 : lv < s.c 0) (k : Nat) (x i j : Int) (hk : InK s.c k i j) :
    Calls Try.prog 33 #[.pointer (some ⟨p, 0, none⟩), .int .i64 t, .agg #[.int .i64 x, .int .i64 k, .int .i64 i, .int .i64 j]] w fun r w' => r = .returned (.int .i64 (atK s.c lv k i j)) ∧ Has σ M w' := by
  have LV := Lib.hid (fun (M' : Mm) (w : World) (h : Has σ M' w) (hle : M.le M') => mLevel_eq h (hM.keep (Kp.le hle fun _ => 0) fun _ _ h => h) t)
  have PL := Lib.hid (fun (M' : Mm) (w : World) (h : Has σ M' w) (hle : M.le M') => mPlan_eq h (hM.keep (Kp.le hle fun _ => 0) fun _ _ h => h))
  have AT := Lib.hid (fun (M' : Mm) (w : World) (h : Has σ M' w) (hle : M.le M') => at_yes h s.c hM.may (hle _ _ hM.plan) lv k i j hl0 hl1 hk)
  rw [hlv] at LV
  unfold plc at AT
  clear hM hlv hl0 hl1 hk
  go_enter Try.func33, Try.ntmps33
  go_upto_region 1 with (fail)
  obtain ⟨M1, hbx, hle, hbx1, hnx⟩ := h.box (.cells #[.int .i64 x, .int .i64 k, .int .i64 i, .int .i64 j] 69)
  generalize w.alloc _ = wx at hbx ⊢
  generalize w.heap.size = bx at hbx1 hnx ⊢
  clear h
  try clear w
  have h := hbx
  clear hbx
  obtain ⟨w, rfl⟩ : ∃ x : World, x = wx := ⟨_, rfl⟩
  have hlt : 0 < (#[.int .i64 x, .int .i64 k, .int .i64 i, .int .i64 j] : Array Value).size := show 0 < 4 by omega
  go_upto_region 2 with (first
    | (go_at_call 9; refine (LV.out _ _ h hle).mono ?_; clear h; rintro _ w ⟨rfl, h⟩)
    | (with_reducible show wpList _ _ _ ({ dst := _, op := Op.store 3 _ _, type := _, pos := _, after := _, guard := _ } :: _) _ _; refine wpList_store1_has h rfl 3 _ _ rfl rfl rfl hbx1 hlt rfl (by kernel_rfl) ?_; clear h; intro w h))
  have h2 : Has σ (M1.upd bx (.cells #[.int .i64 lv, .int .i64 k, .int .i64 i, .int .i64 j] 69)) w := h
  have hle2 : M.le (M1.upd bx (.cells #[.int .i64 lv, .int .i64 k, .int .i64 i, .int .i64 j] 69)) := Mm.le_upd hle hnx _
  have hbx2 := Mm.upd_same M1 bx (.cells #[.int .i64 lv, .int .i64 k, .int .i64 i, .int .i64 j] 69)
  clear h hbx1 hlt hle
  have h := h2
  clear h2
  generalize M1.upd bx _ = M2 at h hle2 hbx2
  have dx : (#[.int .i64 lv, .int .i64 k, .int .i64 i, .int .i64 j] : Array Value).extract 0 (0 + 4) = #[.int .i64 lv, .int .i64 k, .int .i64 i, .int .i64 j] := rfl
  have PL2 := Lib.hid (fun (w : World) (h : Has σ M2 w) => PL.out M2 w h hle2)
  have AT2 := Lib.hid (fun (w : World) (h : Has σ M2 w) => AT.out M2 w h hle2)
  refine wp_region_class (Has σ M2) (by kernel_rfl) (by kernel_rfl) h.drew ?_
  clear h
  repeat (first
    | go_big_quiet_skip
    | (go_big_quiet_want; first
      | (refine quiet_agg_has 69 _ rfl rfl hbx2 dx rfl Try.underlying69 rfl (by kernel_rfl) ?_; simp only [Act.put, List.setIfInBounds_toArray, List.set_cons_zero, List.set_cons_succ]; go_big_quiet_on)
      | (go_big_quiet_op; first | go_big_quiet_on | go_big_quiet_call (first | with_reducible exact fun _ => rfl | with_reducible exact PL2.out _ | with_reducible exact AT2.out _))))
  refine wpQuiet_nil ?_
  try clear w
  intro w h
  go_wp2
  go_ret
  exact ⟨rfl, h.le hle2⟩
def exL : Nat → Int := fun i => if i = 0 then 1 else if i = 1 then 1 else if i = 10 then 2 else if i = 11 then 1 else if i = 12 then 1 else 0
theorem exL_may : ConfMay exL := by decide
theorem exL_nums : Nums exL 1 1 2 := ⟨rfl, rfl, rfl, by omega, by omega, by omega⟩
set_option maxHeartbeats 2000000 in
theorem lives_eq {σ w : World} {M : Mm} (h : Has σ M w) : Calls Try.prog 8 #[] w fun r w' => r = .returned (.bool true) ∧ Has σ M w' := by
  have NW := Lib.hid (fun (w : World) (h : Has σ M w) => mNew_yes h exL exL_may exL_nums)
  have EC : confV exL = .agg #[.int .i64 1, .int .i64 1, .int .i64 0, .int .i64 0, .int .i64 0, .int .i64 0, .int .i64 0, .int .i64 0, .int .i64 0, .int .i64 0, .int .i64 2, .int .i64 1, .int .i64 1, .int .i64 0] := rfl
  rw [EC] at NW
  clear EC
  go_enter Try.func8, Try.ntmps8
  go_upto_region 2 with (first
    | (go_at_call 6; refine (NW.out _ h).mono ?_; clear h; rintro _ w ⟨p, M1, lab, s, rfl, h, hB, hM, hN⟩))
  clear NW
  obtain ⟨wb, hmem⟩ := hN.mem
  have hc := hN.c
  have hlv : levelOf s.c 0 = 0 := by rw [hc]; decide
  have hl1 : (0 : Int) < s.c 0 := by rw [hc]; decide
  have k2 : InK s.c 2 0 0 := by rw [hc]; exact ⟨by decide, by decide, by decide, by decide, fun _ => rfl, by decide⟩
  have k0 : InK s.c 0 0 0 := by rw [hc]; exact ⟨by decide, by decide, by decide, by decide, fun _ => rfl, by decide⟩
  have a2 : atK s.c 0 (2 : Nat) 0 0 = 2 := by rw [hc]; decide
  have a0 : atK s.c 0 (0 : Nat) 0 0 = 0 := by rw [hc]; decide
  have hacc : s.mem.acc < 1000000000 := by rw [hmem, show (memNew wb (1 * (18 + 1 + 6 * 2)) (wl 1 2 1)).acc = 0 from rfl]; decide
  have hacc2 : (s.mem.at_ 2).acc < 1000000000 := by rw [hmem, show ((memNew wb (1 * (18 + 1 + 6 * 2)) (wl 1 2 1)).at_ 2).acc = 1 from by kernel_rfl]; decide
  have v2 : s.mem.load 2 = 1 := by rw [hmem]; kernel_rfl
  have v0 : (s.mem.at_ 2).load 0 = 2 := by rw [hmem]; kernel_rfl
  obtain ⟨hM2, hB2⟩ := hM.load hB 2 rfl
  obtain ⟨hM3, hB3⟩ := hM2.load hB2 0 rfl
  have hbad : MachS.bad { s with mem := (s.mem.at_ 2).at_ 0 } = false := by
    unfold MachS.bad
    rw [hmem]
    show (s.fault || _) = false
    rw [hN.fault]
    show (false || ((MemS.at_ (MemS.at_ (memNew wb (1 * (18 + 1 + 6 * 2)) (wl 1 2 1)) 2) 0).flt || decide (0 < s.ward.slips))) = false
    rw [hN.slips]
    rfl
  have S1 := Lib.hid (fun (w : World) (h : Has σ M1 w) => mSpot_yes h hM 0 0 hlv (by omega) hl1 2 0 0 0 k2)
  have L1 := Lib.hid (fun (w : World) (h : Has σ M1 w) => memLoad_eq h hM.mem hacc 2)
  have Q1 := Lib.hid (fun (w : World) (h : Has σ M1 w) => mMem_eq h hM)
  have S2 := Lib.hid (fun (w : World) (h : Has σ _ w) => mSpot_yes h hM2 0 0 hlv (by omega) hl1 0 0 0 0 k0)
  have L2 := Lib.hid (fun (w : World) (h : Has σ _ w) => memLoad_eq h hM2.mem hacc2 0)
  have Q2 := Lib.hid (fun (w : World) (h : Has σ _ w) => mMem_eq h hM2)
  have F3 := Lib.hid (fun (w : World) (h : Has σ _ w) => mFault_eq h hM3)
  have LE := Lib.hid hB3.le
  rw [a2] at S1
  rw [v2] at L1
  rw [hbad] at F3
  simp only at S2 L2 Q2 F3 LE
  rw [a0] at S2
  rw [v0] at L2
  clear hM hB hM2 hB2 hM3 hB3 hbad hmem hc hlv hl1 k2 k0 a2 a0 hacc hacc2 v2 v0 hN
  generalize M1.upd s.mp (.cells (s.mem.at_ 2).cells 98) = M2 at L1 S2 L2 Q2 F3 LE
  generalize M2.upd s.mp (.cells ((s.mem.at_ 2).at_ 0).cells 98) = M3 at L2 F3 LE
  go_wp2_with (first
    | (go_at_call 12; refine (Q1.out _ h).mono ?_; clear h; rintro _ w ⟨rfl, h⟩)
    | (go_at_call 12; refine (Q2.out _ h).mono ?_; clear h; rintro _ w ⟨rfl, h⟩)
    | (go_at_call 33; refine (S1.out _ h).mono ?_; clear h; rintro _ w ⟨rfl, h⟩)
    | (go_at_call 33; refine (S2.out _ h).mono ?_; clear h; rintro _ w ⟨rfl, h⟩)
    | (go_at_call 18; refine (L1.out _ h).mono ?_; clear h; rintro _ w ⟨rfl, h⟩)
    | (go_at_call 18; refine (L2.out _ h).mono ?_; clear h; rintro _ w ⟨rfl, h⟩)
    | (go_at_call 19; refine (F3.out _ h).mono ?_; clear h; rintro _ w ⟨rfl, h⟩))
  go_ret
  exact ⟨rfl, h.le LE.out⟩
end Go.Proofs.Ytnknlleflpkijaa
