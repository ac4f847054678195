/- Walks of layer 21 (machine): Spot. -/
import Derived.Test.YtjeeldacnllipaaGreatMachT
namespace Go.Proofs.YtjeeldacnllipaaGreat
open Go.RowKit
set_option linter.unusedVariables false
set_option linter.unusedSimpArgs false
set_option linter.unnecessarySimpa false
set_option maxHeartbeats 1000000 in
theorem mSpot_yes {σ w : World} {M : Mm} {lab : Nat → Nat} {p : Nat} {s : MachS} (h : Has σ M w) (hM : Mach M lab p s) (t lv : Int) (hlv : levelOf s.c t = lv) (hl0 : 0 ≤ lv) (hl1 : lv < s.c 0) (k : Nat) (x i j : Int) (hk : InK s.c k i j) :
    Calls Tryz.prog 120 #[.pointer (some ⟨p, 0, none⟩), .int .i64 t, .agg #[.int .i64 x, .int .i64 k, .int .i64 i, .int .i64 j]] w fun r w' => r = .returned (.int .i64 (atK s.c lv k i j)) ∧ Has σ M w' := by
  have LV := Lib.hid (fun (M' : Mm) (w : World) (h : Has σ M' w) (hle : M.le M') => mLevel_eq h (hM.keep (Kp.le hle fun _ => 0) fun _ _ h => h) t)
  have PL := Lib.hid (fun (M' : Mm) (w : World) (h : Has σ M' w) (hle : M.le M') => mPlan_eq h (hM.keep (Kp.le hle fun _ => 0) fun _ _ h => h))
  have AT := Lib.hid (fun (M' : Mm) (w : World) (h : Has σ M' w) (hle : M.le M') => at_yes h s.c hM.may (hle _ _ hM.plan) lv k i j hl0 hl1 hk)
  rw [hlv] at LV
  unfold plc at AT
  clear hM hlv hl0 hl1 hk
  go_enter Tryz.func120, Tryz.ntmps120
  go_upto_region 1 with (fail)
  obtain ⟨M1, hbx, hle, hbx1, hnx⟩ := h.box (.cells #[.int .i64 x, .int .i64 k, .int .i64 i, .int .i64 j] 157)
  generalize w.alloc _ = wx at hbx ⊢
  generalize w.heap.size = bx at hbx1 hnx ⊢
  clear h
  try clear w
  have h := hbx
  clear hbx
  obtain ⟨w, rfl⟩ : ∃ x : World, x = wx := ⟨_, rfl⟩
  have hlt : 0 < (#[.int .i64 x, .int .i64 k, .int .i64 i, .int .i64 j] : Array Value).size := show 0 < 4 by omega
  go_upto_region 2 with (first
    | (go_at_call 12; refine (LV.out _ _ h hle).mono ?_; clear h; rintro _ w ⟨rfl, h⟩)
    | (with_reducible show wpList _ _ _ ({ dst := _, op := Op.store 3 _ _, type := _, pos := _, after := _, guard := _ } :: _) _ _; refine wpList_store1_has h rfl 3 _ _ rfl rfl rfl hbx1 hlt rfl (by kernel_rfl) ?_; clear h; intro w h))
  have h2 : Has σ (M1.upd bx (.cells #[.int .i64 lv, .int .i64 k, .int .i64 i, .int .i64 j] 157)) w := h
  have hle2 : M.le (M1.upd bx (.cells #[.int .i64 lv, .int .i64 k, .int .i64 i, .int .i64 j] 157)) := Mm.le_upd hle hnx _
  have hbx2 := Mm.upd_same M1 bx (.cells #[.int .i64 lv, .int .i64 k, .int .i64 i, .int .i64 j] 157)
  clear h hbx1 hlt hle
  have h := h2
  clear h2
  generalize M1.upd bx _ = M2 at h hle2 hbx2
  have dx : (#[.int .i64 lv, .int .i64 k, .int .i64 i, .int .i64 j] : Array Value).extract 0 (0 + 4) = #[.int .i64 lv, .int .i64 k, .int .i64 i, .int .i64 j] := rfl
  have PL2 := Lib.hid (fun (w : World) (h : Has σ M2 w) => PL.out M2 w h hle2)
  have AT2 := Lib.hid (fun (w : World) (h : Has σ M2 w) => AT.out M2 w h hle2)
  refine wp_region_class (Has σ M2) (by kernel_rfl) (by kernel_rfl) h.drew ?_
  clear h
  repeat (first
    | go_big_quiet_skip
    | (go_big_quiet_want; first
      | (refine quiet_agg_has 157 _ rfl rfl hbx2 dx rfl Tryz.underlying157 rfl (by kernel_rfl) ?_; simp only [Act.put, List.setIfInBounds_toArray, List.set_cons_zero, List.set_cons_succ]; go_big_quiet_on)
      | (go_big_quiet_op; first | go_big_quiet_on | go_big_quiet_call (first | with_reducible exact fun _ => rfl | with_reducible exact PL2.out _ | with_reducible exact AT2.out _))))
  refine wpQuiet_nil ?_
  try clear w
  intro w h
  go_wp2
  go_ret
  exact ⟨rfl, h.le hle2⟩
end Go.Proofs.YtjeeldacnllipaaGreat
