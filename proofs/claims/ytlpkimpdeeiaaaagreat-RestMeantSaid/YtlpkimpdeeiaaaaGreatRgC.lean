/- Layer 37 (rest): a looker at the queue. -/
import Derived.Test.YtlpkimpdeeiaaaaGreatRng
import Derived.Test.YtlpkimpdeeiaaaaGreatRgB
import Derived.Test.YtlpkimpdeeiaaaaGreatRegion
import Derived.OwnWalkIn
import Derived.LoopNIn
import Derived.LoopIn
import Derived.RangeFuncCalls
import Derived.Deep.RegionHeld
import Derived.Test.YtlpkimpdeeiaaaaGreatMachW
namespace Go.Proofs.YtlpkimpdeeiaaaaGreat
section
open Go.RowKit
set_option linter.unusedVariables false
set_option linter.unusedSimpArgs false
def markD (D : Nat) : Deferred := { target := .collected D, args := #[] }
theorem leaves_marks {P : Program} {σ : World} {fn : Func} {R : Ending → World → Prop} {tmps : Array Value} : ∀ (ds : List Nat) (M : Mm) (w : World), Has σ M w → ds.Nodup → (∀ D ∈ ds, M D = some (.deferred (some []))) →
    (∀ (M' : Mm) (w' : World), Has σ M' w' → (∀ c, c ∉ ds → M' c = M c) → ∃ v, (results fn tmps).run P w' = .ok v w' ∧ R (.returned v) w') →
    LeavesInM Fence.wide 0 P fn tmps R (ds.map markD) .returning w
  | [], M, w, h, _, _, hv => by
    obtain ⟨v, e, hr⟩ := hv M w h fun _ _ => rfl
    exact ⟨v, e, hr⟩
  | D :: ds, M, w, h, hn, hd, hv => by
    have hD := hd D List.mem_cons_self
    have h2 := h.putObj hD (.deferred none)
    obtain ⟨hn1, hn2⟩ := List.nodup_cons.1 hn
    refine ⟨by simp, .inl ⟨D, _, rfl, run_takeDeferred (h.at_ _ _ hD), ?_⟩⟩
    refine leaves_marks ds _ _ h2 hn2 (fun D' hm => ?_) (fun M' w' h' he => hv M' w' h' fun c hc => ?_)
    · rw [Mm.upd_ne (fun e => hn1 (by rw [← e]; exact hm))]
      exact hd D' (List.mem_cons_of_mem _ hm)
    · have h3 : c ≠ D ∧ c ∉ ds := by simpa using hc
      rw [he c h3.2, Mm.upd_ne h3.1]
theorem leaves_keep {P : Program} {σ : World} {fn : Func} {R : Ending → World → Prop} {tmps : Array Value} (M0 : Mm) (ds : List Nat) (M : Mm) (w : World) (h : Has σ M w) (hle : M0.le M) (hn : ds.Nodup) (hd : ∀ D ∈ ds, M D = some (.deferred (some []))) (h0 : ∀ D ∈ ds, M0 D = none)
    (hv : ∀ w', Has σ M0 w' → ∃ v, (results fn tmps).run P w' = .ok v w' ∧ R (.returned v) w') : LeavesInM Fence.wide 0 P fn tmps R (ds.map markD) .returning w :=
  leaves_marks ds M w h hn hd fun M' w' h' he => hv w' (h'.le fun c o hc => by
    rw [he c (fun hm => by rw [h0 c hm] at hc; exact nomatch hc)]
    exact hle c o hc)
/-- Neither a panic nor more. -/
def NoPanic (Q : Exit → Act → World → Prop) : Exit → Act → World → Prop
  | .panic _, _, _ => False
  | .outgrown, _, _ => False
  | .normal, a, w => Q .normal a w
  | .ret, a, w => Q .ret a w
  | .exit i, a, w => Q (.exit i) a w
  | .goto t, a, w => Q (.goto t) a w
theorem calls_marksN {P : Program} {f : FuncId} {fn : Func} {c : Code} {args : Array Value} {w : World} {R : Ending → World → Prop} (hf : P.funcs[f]? = some fn) (hb : fn.body = some c)
    (h : c.wp P (NoPanic (bodyPostM Fence.wide 0 P fn R)) { tmps := args ++ Array.replicate (fn.ntmps - args.size) undef, defers := [] } w) : Calls P f args w R :=
  calls_marks hf hb (wp_mono h fun e a w hq => by cases e <;> first | exact False.elim hq | exact hq)
end
section
open Go.RowKit
set_option linter.unusedVariables false
set_option linter.unusedSimpArgs false
set_option linter.unnecessarySimpa false
set_option maxHeartbeats 1000000 in
theorem lkChain_eq {σ w : World} {M : Mm} (h : Has σ M w) (bl : Nat) (slot : Int) (fid : FuncId) (xs ys : Array Value) : Calls Tryz.prog 47 #[.pointer (some ⟨bl, 0, none⟩), .int .i64 slot, .func (.func fid) xs ys] w fun r w' => ∃ (bs bx bn : Nat) (M' : Mm), r = .returned (.func (.func 74) #[] #[.pointer (some ⟨bs, 0, none⟩), .pointer (some ⟨bx, 0, none⟩), .pointer (some ⟨bn, 0, none⟩)]) ∧ Has σ M' w' ∧ M.le M' ∧ M' bs = some (.cells #[.int .i64 slot] 3) ∧ M' bx = some (.cells #[.pointer (some ⟨bl, 0, none⟩)] 79) ∧ M' bn = some (.cells #[.func (.func fid) xs ys] 120) ∧ M bs = none ∧ bs ≠ bx ∧ bs ≠ bn := by
  go_enter Tryz.func47, Tryz.ntmps47
  go_upto_region 1 with (first
    | ((with_reducible show wpList _ _ _ ({ dst := _, op := Op.box 79 _, type := _, pos := _, after := _, guard := _ } :: _) _ _); go_loud (refine wpList_box_has h rfl 79 _ rfl ?_); clear h; intro b3 w h hn3; try simp only [Act.put, List.setIfInBounds_toArray, List.set_cons_zero, List.set_cons_succ])
    | ((with_reducible show wpList _ _ _ ({ dst := _, op := Op.box 3 _, type := _, pos := _, after := _, guard := _ } :: _) _ _); go_loud (refine wpList_box_has h rfl 3 _ rfl ?_); clear h; intro b4 w h hn4; try simp only [Act.put, List.setIfInBounds_toArray, List.set_cons_zero, List.set_cons_succ])
    | ((with_reducible show wpList _ _ _ ({ dst := _, op := Op.box 120 _, type := _, pos := _, after := _, guard := _ } :: _) _ _); refine wpList_box_has h rfl 120 _ rfl ?_; clear h; intro b5 w h hn5; try simp only [Act.put, List.setIfInBounds_toArray, List.set_cons_zero, List.set_cons_succ]))
  replace hn3 : M b3 = none := hn3
  replace hn4 : (M.upd b3 (.cells #[.pointer (some ⟨bl, 0, none⟩)] 79)) b4 = none := hn4
  replace hn5 : ((M.upd b3 (.cells #[.pointer (some ⟨bl, 0, none⟩)] 79)).upd b4 (.cells #[.int .i64 slot] 3)) b5 = none := hn5
  replace h : Has σ (((M.upd b3 (.cells #[.pointer (some ⟨bl, 0, none⟩)] 79)).upd b4 (.cells #[.int .i64 slot] 3)).upd b5 (.cells #[.func (.func fid) xs ys] 120)) w := h
  have hle2 : M.le (((M.upd b3 (.cells #[.pointer (some ⟨bl, 0, none⟩)] 79)).upd b4 (.cells #[.int .i64 slot] 3)).upd b5 (.cells #[.func (.func fid) xs ys] 120)) := Mm.le_trans (Mm.le_upd' hn3 _) (Mm.le_trans (Mm.le_upd' hn4 _) (Mm.le_upd' hn5 _))
  have hb3 : (((M.upd b3 (.cells #[.pointer (some ⟨bl, 0, none⟩)] 79)).upd b4 (.cells #[.int .i64 slot] 3)).upd b5 (.cells #[.func (.func fid) xs ys] 120)) b3 = some (.cells #[.pointer (some ⟨bl, 0, none⟩)] 79) := (Mm.le_trans (Mm.le_upd' hn4 _) (Mm.le_upd' hn5 _)) _ _ (Mm.upd_same _ _ _)
  have hb4 : (((M.upd b3 (.cells #[.pointer (some ⟨bl, 0, none⟩)] 79)).upd b4 (.cells #[.int .i64 slot] 3)).upd b5 (.cells #[.func (.func fid) xs ys] 120)) b4 = some (.cells #[.int .i64 slot] 3) := (Mm.le_upd' hn5 _) _ _ (Mm.upd_same _ _ _)
  have hb5 : (((M.upd b3 (.cells #[.pointer (some ⟨bl, 0, none⟩)] 79)).upd b4 (.cells #[.int .i64 slot] 3)).upd b5 (.cells #[.func (.func fid) xs ys] 120)) b5 = some (.cells #[.func (.func fid) xs ys] 120) := (Mm.le_refl _) _ _ (Mm.upd_same _ _ _)
  have n_b3_b4 : b3 ≠ b4 := Mm.ne_of hn4 ((Mm.le_refl _) _ _ (Mm.upd_same _ _ _))
  have n_b3_b5 : b3 ≠ b5 := Mm.ne_of hn5 ((Mm.le_upd' hn4 _) _ _ (Mm.upd_same _ _ _))
  have n_b4_b5 : b4 ≠ b5 := Mm.ne_of hn5 ((Mm.le_refl _) _ _ (Mm.upd_same _ _ _))
  replace hn5 : M b5 = none := Mm.none_of (Mm.le_trans (Mm.le_upd' hn3 _) (Mm.le_upd' hn4 _)) hn5
  replace hn4 : M b4 = none := Mm.none_of (Mm.le_upd' hn3 _) hn4
  replace hn3 : M b3 = none := Mm.none_of (Mm.le_refl _) hn3
  generalize (((M.upd b3 (.cells #[.pointer (some ⟨bl, 0, none⟩)] 79)).upd b4 (.cells #[.int .i64 slot] 3)).upd b5 (.cells #[.func (.func fid) xs ys] 120)) = M2 at h hle2 hb3 hb4 hb5
  go_wp2
  go_ret
  exact ⟨b4, b3, b5, M2, rfl, h, hle2, hb4, hb3, hb5, hn4, Ne.symm n_b3_b4, n_b4_b5⟩
set_option maxHeartbeats 1000000 in
theorem chain1_none {σ w : World} {M : Mm} (h : Has σ M w) (yv : Value) {bs bx bn : Nat} (hb : M bs = some (.cells #[.int .i64 0] 3)) : Calls Tryz.prog 74 #[yv, .pointer (some ⟨bs, 0, none⟩), .pointer (some ⟨bx, 0, none⟩), .pointer (some ⟨bn, 0, none⟩)] w fun r w' => r = .returned (.tuple #[]) ∧ Has σ M w' := by
  have q0 : (#[.int .i64 0] : Array Value)[0]? = some (.int .i64 0) := rfl
  go_enter Tryz.func74, Tryz.ntmps74
  go_upto_region 1 with (fail)
  go_loopw [5] (fun i wr => i = .int .i64 0 ∧ Has σ M wr) (fun i _ => 0)
  case atStart => exact ⟨rfl, h⟩
  case round =>
    clear h w
    obtain ⟨w, rfl⟩ : ∃ x : World, x = wr := ⟨_, rfl⟩
    obtain ⟨rfl, h⟩ := hrel
    go_wp2_with (first
      | (with_reducible show wpList _ _ _ ({ dst := _, op := Op.load 3 _, type := _, pos := _, after := _, guard := _ } :: _) _ _; go_loud (refine wpList_load1_has h rfl 3 _ rfl rfl hb q0 Tryz.underlying3 rfl ?_)))
    go_end0
    exact ⟨rfl, h⟩
theorem inR_bucket (b : Nat) (h : b < 4) : InK exR 4 (b : Nat) 0 := ⟨by omega, by unfold baseK; simp <;> omega, by omega, by omega, fun _ => rfl, by unfold numK many baseK; simp <;> omega⟩
theorem wordR_bucket (b : Nat) (h : b < 4) : wordR 4 (b : Nat) 0 = 0 := by
  rcases (show b = 0 ∨ b = 1 ∨ b = 2 ∨ b = 3 by omega) with rfl | rfl | rfl | rfl <;> decide
set_option maxHeartbeats 4000000 in
set_option maxRecDepth 20000 in
theorem lkSessions_eq {σ w : World} {M : Mm} {lab : Nat → Nat} {p bw bl : Nat} {s : MachS} (h : Has σ M w) (hS : Seen M lab p bw s) {fr li re he wo : Int} {ti cl lo : Bool} (hl : M bl = some (.cells (lkR p bw fr li re he wo ti cl lo) 83)) : Calls Tryz.prog 28 #[.pointer (some ⟨bl, 0, none⟩)] w fun r w' => r = .returned (.tuple #[]) ∧ Has σ M w' := by
  refine calls_marksN Tryz.func28 rfl ?_
  simp only [Tryz.ntmps28, List.size_toArray, List.length_cons, List.length_nil, Nat.reduceAdd, Nat.reduceSub, Array.replicate_succ,
     Array.replicate_zero, List.push_toArray, List.append_toArray, List.nil_append, List.cons_append]
  go_upto_region 1 with (first
    | ((with_reducible show wpList _ _ _ ({ dst := _, op := Op.box 79 _, type := _, pos := _, after := _, guard := _ } :: _) _ _); go_loud (refine wpList_box_has h rfl 79 _ rfl ?_); clear h; intro b1 w h hn1; try simp only [Act.put, List.setIfInBounds_toArray, List.set_cons_zero, List.set_cons_succ]))
  replace hn1 : M b1 = none := hn1
  replace h : Has σ (M.upd b1 (.cells #[.pointer (some ⟨bl, 0, none⟩)] 79)) w := h
  have hle1 : M.le (M.upd b1 (.cells #[.pointer (some ⟨bl, 0, none⟩)] 79)) := Mm.le_upd' hn1 _
  have hb1 : (M.upd b1 (.cells #[.pointer (some ⟨bl, 0, none⟩)] 79)) b1 = some (.cells #[.pointer (some ⟨bl, 0, none⟩)] 79) := (Mm.le_refl _) _ _ (Mm.upd_same _ _ _)
  replace hn1 : M b1 = none := Mm.none_of (Mm.le_refl _) hn1
  generalize (M.upd b1 (.cells #[.pointer (some ⟨bl, 0, none⟩)] 79)) = M1 at h hle1 hb1
  have q1 : (#[.pointer (some ⟨bl, 0, none⟩)] : Array Value)[0]? = some (.pointer (some ⟨bl, 0, none⟩)) := rfl
  have AT : Hid (∀ (M' : Mm) (b : Nat) (bi : Int) (w : World), bi = (b : Int) → b < 4 → M1.le M' → Has σ M' w → Calls Tryz.prog 48 #[.pointer (some ⟨bl, 0, none⟩), .int .i64 4, .int .i64 bi, .int .i64 0] w fun r w' => r = .returned (.int .u64 0) ∧ Has σ M' w') := Lib.hid fun M' b bi w hbi hb hle h => by
    subst hbi
    obtain ⟨lab', hS'⟩ := hS.le (Mm.le_trans hle1 hle)
    have := lkAt_eq h hS' (hle _ _ (hle1 _ _ hl)) 4 (b : Nat) 0 (inR_bucket b hb) (a := 4 + b) (by unfold atK firsts numK baseK exR; simp) (by omega)
    rw [wordR_bucket b hb] at this
    exact this
  have SL := Lib.hid (fun (M' : Mm) (w : World) (h : Has σ M' w) => linkSlot_0 h)
  have hM1 := Mm.le_refl M1
  clear hS hl
  go_upto_region 2 with (fail)
  refine wp_loop_rounds 5 ?_
  rw [rounds_succ]
  go_upto_region 4 with (fail)
  have AT4 := Lib.hid (fun (w : World) (h : Has σ M1 w) => AT.out M1 0 0 w rfl (by omega) hM1 h)
  have hb1i := hM1 _ _ hb1
  refine wp_region_held_drew (S := Has σ (M1)) (by kernel_rfl) (h.drew) (fun hHeld => ?_)
  replace h := h.drew
  refine wpAnyH_take (i := 0) (v := _) rfl (by kernel_rfl) (by kernel_rfl) (by kernel_rfl) (fun _ _ _ h => h) (yields_load1 rfl 79 _ rfl rfl hb1i q1 Tryz.underlying79 rfl) hHeld ?_
  try simp only [List.getElem_toArray, List.getElem_cons_succ, List.getElem_cons_zero, Act.put, List.setIfInBounds_toArray, List.set_cons_zero, List.set_cons_succ]
  refine wpAnyH_take (i := 1) (v := _) rfl (by kernel_rfl) (by kernel_rfl) (by kernel_rfl) (fun _ _ _ h => h) (yields_load1 rfl 79 _ rfl rfl hb1i q1 Tryz.underlying79 rfl) hHeld ?_
  try simp only [List.getElem_toArray, List.getElem_cons_succ, List.getElem_cons_zero, Act.put, List.setIfInBounds_toArray, List.set_cons_zero, List.set_cons_succ]
  refine wpAnyH_take (i := 2) (v := ?_) rfl (by kernel_rfl) (by kernel_rfl) (by kernel_rfl) (fun _ _ _ h => h) (Or.inl ⟨by rfl, ?_⟩) hHeld ?_
  rotate_left
  · (intro wz _; go_simp; try with_reducible rfl)
  try simp only [List.getElem_toArray, List.getElem_cons_succ, List.getElem_cons_zero, Act.put, List.setIfInBounds_toArray, List.set_cons_zero, List.set_cons_succ]
  refine wpAnyH_take (i := 5) (v := _) rfl (by kernel_rfl) (by kernel_rfl) (by kernel_rfl) (fun _ _ _ h => h) (yields_load1 rfl 79 _ rfl rfl hb1i q1 Tryz.underlying79 rfl) hHeld ?_
  try simp only [List.getElem_toArray, List.getElem_cons_succ, List.getElem_cons_zero, Act.put, List.setIfInBounds_toArray, List.set_cons_zero, List.set_cons_succ]
  refine wpAnyH_take (i := 6) (v := ?_) rfl (by kernel_rfl) (by kernel_rfl) (by kernel_rfl) (fun _ _ _ h => h) (Or.inl ⟨by rfl, ?_⟩) hHeld ?_
  rotate_left
  · (intro wz _; go_simp; try with_reducible rfl)
  try simp only [List.getElem_toArray, List.getElem_cons_succ, List.getElem_cons_zero, Act.put, List.setIfInBounds_toArray, List.set_cons_zero, List.set_cons_succ]
  refine wpAnyH_ready (rs := [3]) (by kernel_rfl) (by simp) ?_
  refine AllReadyH.cons rfl (fun K hK => ?_) AllReadyH.nil
  (go_simp; go_wp2_with (go_at_call 48; refine (AT4.out _ h).mono ?_; clear h; rintro _ w ⟨rfl, h⟩))
  refine hK.out _ _ (h) (fun hHeld => ?_)
  clear hK K
  try simp only [Act.put, List.setIfInBounds_toArray, List.set_cons_zero, List.set_cons_succ]
  refine wpAnyH_ready (rs := [4]) (by kernel_rfl) (by simp) ?_
  refine AllReadyH.cons rfl (fun K hK => ?_) AllReadyH.nil
  (go_simp; go_wp2_with (go_at_call 49; refine (SL.out _ _ h).mono ?_; clear h; rintro _ w ⟨rfl, h⟩))
  refine hK.out _ _ (h) (fun hHeld => ?_)
  clear hK K
  try simp only [Act.put, List.setIfInBounds_toArray, List.set_cons_zero, List.set_cons_succ]
  refine wpAnyH_ready (rs := [7]) (by kernel_rfl) (by simp) ?_
  refine AllReadyH.cons rfl (fun K hK => ?_) AllReadyH.nil
  (go_simp; go_wp2_with (go_at_call 47; refine (lkChain_eq h bl 0 50 #[.pointer (some ⟨bl, 0, none⟩)] #[]).mono ?_; clear h hHeld; rintro _ w ⟨bs, bx, bn, MC, rfl, h, hleC, hbs, hbx, hbn, hns, hq1, hq2⟩))
  refine hK.out _ _ (h.le hleC) (fun hHeld => ?_)
  clear hK K
  try simp only [Act.put, List.setIfInBounds_toArray, List.set_cons_zero, List.set_cons_succ]
  refine wpAnyH_done (by kernel_rfl) ?_ _
  clear hHeld
  go_wp2_with (fail)
  refine wp_range_none h (gf := 74) rfl (Go.Proofs.enters_of Tryz.func74 (by kernel_rfl) rfl) (fun y M4 w2 hl h => (chain1_none h y (hl _ _ hbs)).mono fun r w3 ⟨e, h'⟩ => ⟨_, e, h'⟩) ?_
  clear h
  intro D1 M2 w h hl4 hD1 hDn
  have hM2 : M1.le M2 := Mm.le_trans hM1 (Mm.le_trans hleC hl4)
  have hN1 : M1 D1 = none := Mm.none_of hleC hDn
  have hI1 : (M1).le M2 := Mm.le_trans hleC hl4
  clear hl4 hDn hleC hbs hbx hbn hns AT4 hb1i hq1 hq2
  go_wp2
  rw [rounds_succ]
  go_upto_region 4 with (fail)
  have AT4 := Lib.hid (fun (w : World) (h : Has σ M2 w) => AT.out M2 1 1 w rfl (by omega) hM2 h)
  have hb1i := hM2 _ _ hb1
  refine wp_region_held_drew (S := Has σ (M2)) (by kernel_rfl) (h.drew) (fun hHeld => ?_)
  replace h := h.drew
  refine wpAnyH_take (i := 0) (v := _) rfl (by kernel_rfl) (by kernel_rfl) (by kernel_rfl) (fun _ _ _ h => h) (yields_load1 rfl 79 _ rfl rfl hb1i q1 Tryz.underlying79 rfl) hHeld ?_
  try simp only [List.getElem_toArray, List.getElem_cons_succ, List.getElem_cons_zero, Act.put, List.setIfInBounds_toArray, List.set_cons_zero, List.set_cons_succ]
  refine wpAnyH_take (i := 1) (v := _) rfl (by kernel_rfl) (by kernel_rfl) (by kernel_rfl) (fun _ _ _ h => h) (yields_load1 rfl 79 _ rfl rfl hb1i q1 Tryz.underlying79 rfl) hHeld ?_
  try simp only [List.getElem_toArray, List.getElem_cons_succ, List.getElem_cons_zero, Act.put, List.setIfInBounds_toArray, List.set_cons_zero, List.set_cons_succ]
  refine wpAnyH_take (i := 2) (v := ?_) rfl (by kernel_rfl) (by kernel_rfl) (by kernel_rfl) (fun _ _ _ h => h) (Or.inl ⟨by rfl, ?_⟩) hHeld ?_
  rotate_left
  · (intro wz _; go_simp; try with_reducible rfl)
  try simp only [List.getElem_toArray, List.getElem_cons_succ, List.getElem_cons_zero, Act.put, List.setIfInBounds_toArray, List.set_cons_zero, List.set_cons_succ]
  refine wpAnyH_take (i := 5) (v := _) rfl (by kernel_rfl) (by kernel_rfl) (by kernel_rfl) (fun _ _ _ h => h) (yields_load1 rfl 79 _ rfl rfl hb1i q1 Tryz.underlying79 rfl) hHeld ?_
  try simp only [List.getElem_toArray, List.getElem_cons_succ, List.getElem_cons_zero, Act.put, List.setIfInBounds_toArray, List.set_cons_zero, List.set_cons_succ]
  refine wpAnyH_take (i := 6) (v := ?_) rfl (by kernel_rfl) (by kernel_rfl) (by kernel_rfl) (fun _ _ _ h => h) (Or.inl ⟨by rfl, ?_⟩) hHeld ?_
  rotate_left
  · (intro wz _; go_simp; try with_reducible rfl)
  try simp only [List.getElem_toArray, List.getElem_cons_succ, List.getElem_cons_zero, Act.put, List.setIfInBounds_toArray, List.set_cons_zero, List.set_cons_succ]
  refine wpAnyH_ready (rs := [3]) (by kernel_rfl) (by simp) ?_
  refine AllReadyH.cons rfl (fun K hK => ?_) AllReadyH.nil
  (go_simp; go_wp2_with (go_at_call 48; refine (AT4.out _ h).mono ?_; clear h; rintro _ w ⟨rfl, h⟩))
  refine hK.out _ _ (h) (fun hHeld => ?_)
  clear hK K
  try simp only [Act.put, List.setIfInBounds_toArray, List.set_cons_zero, List.set_cons_succ]
  refine wpAnyH_ready (rs := [4]) (by kernel_rfl) (by simp) ?_
  refine AllReadyH.cons rfl (fun K hK => ?_) AllReadyH.nil
  (go_simp; go_wp2_with (go_at_call 49; refine (SL.out _ _ h).mono ?_; clear h; rintro _ w ⟨rfl, h⟩))
  refine hK.out _ _ (h) (fun hHeld => ?_)
  clear hK K
  try simp only [Act.put, List.setIfInBounds_toArray, List.set_cons_zero, List.set_cons_succ]
  refine wpAnyH_ready (rs := [7]) (by kernel_rfl) (by simp) ?_
  refine AllReadyH.cons rfl (fun K hK => ?_) AllReadyH.nil
  (go_simp; go_wp2_with (go_at_call 47; refine (lkChain_eq h bl 0 50 #[.pointer (some ⟨bl, 0, none⟩)] #[]).mono ?_; clear h hHeld; rintro _ w ⟨bs, bx, bn, MC, rfl, h, hleC, hbs, hbx, hbn, hns, hq1, hq2⟩))
  refine hK.out _ _ (h.le hleC) (fun hHeld => ?_)
  clear hK K
  try simp only [Act.put, List.setIfInBounds_toArray, List.set_cons_zero, List.set_cons_succ]
  refine wpAnyH_done (by kernel_rfl) ?_ _
  clear hHeld
  go_wp2_with (fail)
  refine wp_range_none h (gf := 74) rfl (Go.Proofs.enters_of Tryz.func74 (by kernel_rfl) rfl) (fun y M4 w2 hl h => (chain1_none h y (hl _ _ hbs)).mono fun r w3 ⟨e, h'⟩ => ⟨_, e, h'⟩) ?_
  clear h
  intro D2 M3 w h hl4 hD2 hDn
  have hM3 : M1.le M3 := Mm.le_trans hM2 (Mm.le_trans hleC hl4)
  have hN2 : M2 D2 = none := Mm.none_of hleC hDn
  have hI2 : (M2).le M3 := Mm.le_trans hleC hl4
  clear hl4 hDn hleC hbs hbx hbn hns AT4 hb1i hq1 hq2
  go_wp2
  rw [rounds_succ]
  go_upto_region 4 with (fail)
  have AT4 := Lib.hid (fun (w : World) (h : Has σ M3 w) => AT.out M3 2 2 w rfl (by omega) hM3 h)
  have hb1i := hM3 _ _ hb1
  refine wp_region_held_drew (S := Has σ (M3)) (by kernel_rfl) (h.drew) (fun hHeld => ?_)
  replace h := h.drew
  refine wpAnyH_take (i := 0) (v := _) rfl (by kernel_rfl) (by kernel_rfl) (by kernel_rfl) (fun _ _ _ h => h) (yields_load1 rfl 79 _ rfl rfl hb1i q1 Tryz.underlying79 rfl) hHeld ?_
  try simp only [List.getElem_toArray, List.getElem_cons_succ, List.getElem_cons_zero, Act.put, List.setIfInBounds_toArray, List.set_cons_zero, List.set_cons_succ]
  refine wpAnyH_take (i := 1) (v := _) rfl (by kernel_rfl) (by kernel_rfl) (by kernel_rfl) (fun _ _ _ h => h) (yields_load1 rfl 79 _ rfl rfl hb1i q1 Tryz.underlying79 rfl) hHeld ?_
  try simp only [List.getElem_toArray, List.getElem_cons_succ, List.getElem_cons_zero, Act.put, List.setIfInBounds_toArray, List.set_cons_zero, List.set_cons_succ]
  refine wpAnyH_take (i := 2) (v := ?_) rfl (by kernel_rfl) (by kernel_rfl) (by kernel_rfl) (fun _ _ _ h => h) (Or.inl ⟨by rfl, ?_⟩) hHeld ?_
  rotate_left
  · (intro wz _; go_simp; try with_reducible rfl)
  try simp only [List.getElem_toArray, List.getElem_cons_succ, List.getElem_cons_zero, Act.put, List.setIfInBounds_toArray, List.set_cons_zero, List.set_cons_succ]
  refine wpAnyH_take (i := 5) (v := _) rfl (by kernel_rfl) (by kernel_rfl) (by kernel_rfl) (fun _ _ _ h => h) (yields_load1 rfl 79 _ rfl rfl hb1i q1 Tryz.underlying79 rfl) hHeld ?_
  try simp only [List.getElem_toArray, List.getElem_cons_succ, List.getElem_cons_zero, Act.put, List.setIfInBounds_toArray, List.set_cons_zero, List.set_cons_succ]
  refine wpAnyH_take (i := 6) (v := ?_) rfl (by kernel_rfl) (by kernel_rfl) (by kernel_rfl) (fun _ _ _ h => h) (Or.inl ⟨by rfl, ?_⟩) hHeld ?_
  rotate_left
  · (intro wz _; go_simp; try with_reducible rfl)
  try simp only [List.getElem_toArray, List.getElem_cons_succ, List.getElem_cons_zero, Act.put, List.setIfInBounds_toArray, List.set_cons_zero, List.set_cons_succ]
  refine wpAnyH_ready (rs := [3]) (by kernel_rfl) (by simp) ?_
  refine AllReadyH.cons rfl (fun K hK => ?_) AllReadyH.nil
  (go_simp; go_wp2_with (go_at_call 48; refine (AT4.out _ h).mono ?_; clear h; rintro _ w ⟨rfl, h⟩))
  refine hK.out _ _ (h) (fun hHeld => ?_)
  clear hK K
  try simp only [Act.put, List.setIfInBounds_toArray, List.set_cons_zero, List.set_cons_succ]
  refine wpAnyH_ready (rs := [4]) (by kernel_rfl) (by simp) ?_
  refine AllReadyH.cons rfl (fun K hK => ?_) AllReadyH.nil
  (go_simp; go_wp2_with (go_at_call 49; refine (SL.out _ _ h).mono ?_; clear h; rintro _ w ⟨rfl, h⟩))
  refine hK.out _ _ (h) (fun hHeld => ?_)
  clear hK K
  try simp only [Act.put, List.setIfInBounds_toArray, List.set_cons_zero, List.set_cons_succ]
  refine wpAnyH_ready (rs := [7]) (by kernel_rfl) (by simp) ?_
  refine AllReadyH.cons rfl (fun K hK => ?_) AllReadyH.nil
  (go_simp; go_wp2_with (go_at_call 47; refine (lkChain_eq h bl 0 50 #[.pointer (some ⟨bl, 0, none⟩)] #[]).mono ?_; clear h hHeld; rintro _ w ⟨bs, bx, bn, MC, rfl, h, hleC, hbs, hbx, hbn, hns, hq1, hq2⟩))
  refine hK.out _ _ (h.le hleC) (fun hHeld => ?_)
  clear hK K
  try simp only [Act.put, List.setIfInBounds_toArray, List.set_cons_zero, List.set_cons_succ]
  refine wpAnyH_done (by kernel_rfl) ?_ _
  clear hHeld
  go_wp2_with (fail)
  refine wp_range_none h (gf := 74) rfl (Go.Proofs.enters_of Tryz.func74 (by kernel_rfl) rfl) (fun y M4 w2 hl h => (chain1_none h y (hl _ _ hbs)).mono fun r w3 ⟨e, h'⟩ => ⟨_, e, h'⟩) ?_
  clear h
  intro D3 M4 w h hl4 hD3 hDn
  have hM4 : M1.le M4 := Mm.le_trans hM3 (Mm.le_trans hleC hl4)
  have hN3 : M3 D3 = none := Mm.none_of hleC hDn
  have hI3 : (M3).le M4 := Mm.le_trans hleC hl4
  clear hl4 hDn hleC hbs hbx hbn hns AT4 hb1i hq1 hq2
  go_wp2
  rw [rounds_succ]
  go_upto_region 4 with (fail)
  have AT4 := Lib.hid (fun (w : World) (h : Has σ M4 w) => AT.out M4 3 3 w rfl (by omega) hM4 h)
  have hb1i := hM4 _ _ hb1
  refine wp_region_held_drew (S := Has σ (M4)) (by kernel_rfl) (h.drew) (fun hHeld => ?_)
  replace h := h.drew
  refine wpAnyH_take (i := 0) (v := _) rfl (by kernel_rfl) (by kernel_rfl) (by kernel_rfl) (fun _ _ _ h => h) (yields_load1 rfl 79 _ rfl rfl hb1i q1 Tryz.underlying79 rfl) hHeld ?_
  try simp only [List.getElem_toArray, List.getElem_cons_succ, List.getElem_cons_zero, Act.put, List.setIfInBounds_toArray, List.set_cons_zero, List.set_cons_succ]
  refine wpAnyH_take (i := 1) (v := _) rfl (by kernel_rfl) (by kernel_rfl) (by kernel_rfl) (fun _ _ _ h => h) (yields_load1 rfl 79 _ rfl rfl hb1i q1 Tryz.underlying79 rfl) hHeld ?_
  try simp only [List.getElem_toArray, List.getElem_cons_succ, List.getElem_cons_zero, Act.put, List.setIfInBounds_toArray, List.set_cons_zero, List.set_cons_succ]
  refine wpAnyH_take (i := 2) (v := ?_) rfl (by kernel_rfl) (by kernel_rfl) (by kernel_rfl) (fun _ _ _ h => h) (Or.inl ⟨by rfl, ?_⟩) hHeld ?_
  rotate_left
  · (intro wz _; go_simp; try with_reducible rfl)
  try simp only [List.getElem_toArray, List.getElem_cons_succ, List.getElem_cons_zero, Act.put, List.setIfInBounds_toArray, List.set_cons_zero, List.set_cons_succ]
  refine wpAnyH_take (i := 5) (v := _) rfl (by kernel_rfl) (by kernel_rfl) (by kernel_rfl) (fun _ _ _ h => h) (yields_load1 rfl 79 _ rfl rfl hb1i q1 Tryz.underlying79 rfl) hHeld ?_
  try simp only [List.getElem_toArray, List.getElem_cons_succ, List.getElem_cons_zero, Act.put, List.setIfInBounds_toArray, List.set_cons_zero, List.set_cons_succ]
  refine wpAnyH_take (i := 6) (v := ?_) rfl (by kernel_rfl) (by kernel_rfl) (by kernel_rfl) (fun _ _ _ h => h) (Or.inl ⟨by rfl, ?_⟩) hHeld ?_
  rotate_left
  · (intro wz _; go_simp; try with_reducible rfl)
  try simp only [List.getElem_toArray, List.getElem_cons_succ, List.getElem_cons_zero, Act.put, List.setIfInBounds_toArray, List.set_cons_zero, List.set_cons_succ]
  refine wpAnyH_ready (rs := [3]) (by kernel_rfl) (by simp) ?_
  refine AllReadyH.cons rfl (fun K hK => ?_) AllReadyH.nil
  (go_simp; go_wp2_with (go_at_call 48; refine (AT4.out _ h).mono ?_; clear h; rintro _ w ⟨rfl, h⟩))
  refine hK.out _ _ (h) (fun hHeld => ?_)
  clear hK K
  try simp only [Act.put, List.setIfInBounds_toArray, List.set_cons_zero, List.set_cons_succ]
  refine wpAnyH_ready (rs := [4]) (by kernel_rfl) (by simp) ?_
  refine AllReadyH.cons rfl (fun K hK => ?_) AllReadyH.nil
  (go_simp; go_wp2_with (go_at_call 49; refine (SL.out _ _ h).mono ?_; clear h; rintro _ w ⟨rfl, h⟩))
  refine hK.out _ _ (h) (fun hHeld => ?_)
  clear hK K
  try simp only [Act.put, List.setIfInBounds_toArray, List.set_cons_zero, List.set_cons_succ]
  refine wpAnyH_ready (rs := [7]) (by kernel_rfl) (by simp) ?_
  refine AllReadyH.cons rfl (fun K hK => ?_) AllReadyH.nil
  (go_simp; go_wp2_with (go_at_call 47; refine (lkChain_eq h bl 0 50 #[.pointer (some ⟨bl, 0, none⟩)] #[]).mono ?_; clear h hHeld; rintro _ w ⟨bs, bx, bn, MC, rfl, h, hleC, hbs, hbx, hbn, hns, hq1, hq2⟩))
  refine hK.out _ _ (h.le hleC) (fun hHeld => ?_)
  clear hK K
  try simp only [Act.put, List.setIfInBounds_toArray, List.set_cons_zero, List.set_cons_succ]
  refine wpAnyH_done (by kernel_rfl) ?_ _
  clear hHeld
  go_wp2_with (fail)
  refine wp_range_none h (gf := 74) rfl (Go.Proofs.enters_of Tryz.func74 (by kernel_rfl) rfl) (fun y M4 w2 hl h => (chain1_none h y (hl _ _ hbs)).mono fun r w3 ⟨e, h'⟩ => ⟨_, e, h'⟩) ?_
  clear h
  intro D4 M5 w h hl4 hD4 hDn
  have hM5 : M1.le M5 := Mm.le_trans hM4 (Mm.le_trans hleC hl4)
  have hN4 : M4 D4 = none := Mm.none_of hleC hDn
  have hI4 : (M4).le M5 := Mm.le_trans hleC hl4
  clear hl4 hDn hleC hbs hbx hbn hns AT4 hb1i hq1 hq2
  go_wp2
  rw [rounds_succ]
  go_wp2
  have k21 := hI2 _ _ hD1
  have k31 := hI3 _ _ k21
  have k41 := hI4 _ _ k31
  have k32 := hI3 _ _ hD2
  have k42 := hI4 _ _ k32
  have k43 := hI4 _ _ hD3
  refine leaves_keep M [D4, D3, D2, D1] M5 w h (Mm.le_trans hle1 hM5) ?_ ?_ ?_ fun w' h' => ⟨_, results_none rfl _ _ _, rfl, h'⟩
  · have e1 := Mm.ne_of hN2 hD1
    have e2 := Mm.ne_of hN3 hD2
    have e3 := Mm.ne_of hN3 k21
    have e4 := Mm.ne_of hN4 hD3
    have e5 := Mm.ne_of hN4 k32
    have e6 := Mm.ne_of hN4 k31
    simp only [List.nodup_cons, List.mem_cons, List.not_mem_nil, or_false, not_or, List.nodup_nil, and_true, not_false_eq_true]
    repeat (first | constructor | with_reducible assumption | (with_reducible apply Ne.symm; with_reducible assumption) | trivial)
  · intro D hm
    simp only [List.mem_cons, List.not_mem_nil, or_false] at hm
    rcases hm with rfl | rfl | rfl | rfl <;> with_reducible assumption
  · intro D hm
    simp only [List.mem_cons, List.not_mem_nil, or_false] at hm
    rcases hm with rfl | rfl | rfl | rfl
    · exact Mm.none_of (Mm.le_trans hle1 hM4) hN4
    · exact Mm.none_of (Mm.le_trans hle1 hM3) hN3
    · exact Mm.none_of (Mm.le_trans hle1 hM2) hN2
    · exact Mm.none_of hle1 hN1
end
section
open Go.RowKit
set_option linter.unusedVariables false
set_option linter.unusedSimpArgs false
section
variable {P : Program} {n L : Nat} {ops : Array Oper} {Q : Exit → Act → World → Prop}
def noDefer (l : List Oper) : Bool := l.all fun o => match o.op with | .defer _ => false | _ => true
theorem noDefer_at {l : List Oper} (h : noDefer l = true) {o : Oper} (ho : o ∈ l) : ∀ c, o.op ≠ .defer c := fun c e => by
  have := List.all_eq_true.1 h o ho
  rw [e] at this
  cases this
theorem opIn_of_wp (hQ : ∀ a w, ¬ Q .outgrown a w) {o : Oper} {a : Act} {w : World} {K : Act → World → Prop} (hd : ∀ c, o.op ≠ .defer c) (h : o.wp P a w K Q ∨ (o.asks P a w ∧ LetsOut Q)) : o.wpIn (Fence.wide.inRound L) n P a w K Q := by
  rcases h with h | ⟨_, a', w', h⟩
  · refine ⟨fun _ _ => trivial, ?_⟩
    rw [Oper.semAt_eq _ _ _ hd]
    unfold Oper.wp at h
    generalize (execOp a.eval o).run P w = r at *
    cases r with
    | ok nx w' =>
      cases nx <;> simp only [Oper.upon] at h <;> try exact h.elim
      case value v => exact h
      case skip => exact h
      case defer d => exact h
      case enter f args =>
        refine ⟨fun e => (by cases e), CallsIn.inRound L (callsIn_wide.2 (Calls.mono h fun e w'' he => ?_))⟩
        cases e <;> exact he
      case row row args =>
        refine ⟨fun e => (by cases e), fun c cs _ => ?_⟩
        obtain ⟨v, w'', hr, hs⟩ := h c cs
        exact ⟨v, w'', hr, stepsIn_wide.2 hs⟩
    | halt x w' =>
      cases x <;> simp only [Oper.upon] at h <;> try exact h.elim
      case panic v => exact h
  · exact absurd h (hQ a' w')
theorem listIn_of_wp (hQ : ∀ a w, ¬ Q .outgrown a w) : ∀ (l : List Oper) (a : Act) (w : World), noDefer l = true → wpList P ops Q l a w → wpListIn (Fence.wide.inRound L) n P ops Q l a w
  | [], _, _, _, h => h
  | o :: rest, a, w, hd, h => by
    have hr : noDefer rest = true := by
      unfold noDefer at hd ⊢
      simp only [List.all_cons, Bool.and_eq_true] at hd
      exact hd.2
    have ho := noDefer_at hd (List.mem_cons_self (a := o))
    unfold wpList at h
    unfold wpListIn
    by_cases hw : Region.wanted o (yielded ops a.tmps) = true
    · rw [if_pos hw] at h ⊢
      refine Oper.wpIn_mono (fun a w h => listIn_of_wp hQ rest a w hr h) (opIn_of_wp hQ ho h)
    · rw [if_neg hw] at h ⊢
      exact ⟨fun _ _ => trivial, listIn_of_wp hQ rest _ _ hr h⟩
theorem anyIn_of_wp (hQ : ∀ a w, ¬ Q .outgrown a w) (hd : noDefer ops.toList = true) {md : Region.Mode} : ∀ (fuel : Nat) (listed : Array Bool) (a : Act) (w : World), wpAny P md ops Q fuel listed a w → wpAnyIn (Fence.wide.inRound L) n P md ops Q fuel listed a w
  | 0, _, _, _, h => h
  | fuel + 1, listed, a, w, h => ⟨h.1, fun i hi => by
    have h2 := h.2 i hi
    unfold wpOp at h2
    unfold wpOpIn
    cases ho : ops[i]? with
    | none =>
      simp only [ho] at h2
      exact anyIn_of_wp hQ hd fuel _ _ _ h2
    | some o =>
      simp only [ho] at h2
      show if Region.wanted o (yielded ops a.tmps) = true then _ else _
      have hm : o ∈ ops.toList := by
        obtain ⟨h1, h2⟩ := Array.getElem?_eq_some_iff.1 ho
        rw [← h2]
        exact Array.getElem_mem_toList h1
      by_cases hw : Region.wanted o (yielded ops a.tmps) = true
      · rw [if_pos hw] at h2 ⊢
        exact Oper.wpIn_mono (fun a w h => anyIn_of_wp hQ hd fuel _ a w h) (opIn_of_wp hQ (noDefer_at hd hm) h2)
      · rw [if_neg hw] at h2 ⊢
        exact ⟨fun _ _ => trivial, anyIn_of_wp hQ hd fuel _ _ _ h2⟩⟩
/-- A region within a round: one that draws nothing. -/
theorem inR_list (hQ : ∀ a w, ¬ Q .outgrown a w) {id : Nat} {l : List Oper} {a : Act} {w : World} (hd : noDefer l = true) (h : wpList P l.toArray Q l a w) : (Code.region id l.toArray false).wpIn (Fence.wide.inRound L) n P Q a w :=
  wpIn_region_lit (listIn_of_wp hQ l a w hd h)
/-- One that draws, all of its operations quiet in a class. -/
theorem inR_class (C : World → Prop) (hQ : ∀ a w, ¬ Q .outgrown a w) {id : Nat} {l : List Oper} {a : Act} {w : World} (hd : noDefer l = true) (hm : P.follows .mixedOrders = true) (hB : Region.lexB .any l.toArray = true) (hC : C w.drew)
    (h : wpQuiet P l.toArray C (fun a' => ∀ w', C w' → Q .normal a' w') l a) : (Code.region id l.toArray true).wpIn (Fence.wide.inRound L) n P Q a w := by
  refine wpIn_region_any hm (anyIn_of_wp hQ (by simpa using hd) _ _ _ _ ?_)
  simp only [Region.lexB, Bool.and_eq_true] at hB
  refine wpAny_of_quiet (Q := fun a' => ∀ w', C w' → Q .normal a' w') (fun _ w' hw' h => h w' hw') _ _ _ _ hC ?_
  have := wpAnyQ_lex (C := C) (md := .any) hB.1 l.toArray.toList 0 (Array.replicate l.toArray.size false) a (by simp) (by simpa using hB.2) (by simpa using h)
  simpa using this
/-- One that draws: the first operations quiet, the others one by one. -/
theorem inR_head (C : World → Prop) (m : Nat) (hQ : ∀ a w, ¬ Q .outgrown a w) {id : Nat} {l : List Oper} {a : Act} {w : World} (hd : noDefer l = true) (hm : P.follows .mixedOrders = true) (hB : headB l m = true) (hQp : ∀ c (t t' : Array Value) (ds : List Deferred) w, Q (.panic c) ⟨t', ds⟩ w → Q (.panic c) ⟨t, ds⟩ w) (hC : C w.drew)
    (h : wpQuiet P l.toArray C (fun a' => ∀ w', C w' → wpList P l.toArray Q (l.drop m) a' w') (l.take m) a) : (Code.region id l.toArray true).wpIn (Fence.wide.inRound L) n P Q a w := by
  refine wpIn_region_any hm (anyIn_of_wp hQ (by simpa using hd) _ _ _ _ ?_)
  have hk := headB_ok hB
  have hle := hk.le
  obtain ⟨vs, ac, h0, hs, hQ2⟩ := vals_of_quiet (l := l) m 0 a (by omega) (by simpa using h)
  subst h0
  rw [Nat.zero_add] at hQ2
  have hf : late m (Array.replicate l.toArray.size false) = m := by
    unfold late
    have : (List.range m).countP (fun j => !(Array.replicate l.toArray.size false).getD j false) = (List.range m).length := by
      refine List.countP_eq_length.2 fun j hj => ?_
      have := List.mem_range.1 hj
      simp [show j < l.length by omega]
    simpa using this
  have hfalse : ∀ j, (Array.replicate l.toArray.size false).getD j false = false := fun j => by
    rw [Array.getD_eq_getD_getElem?, Array.getElem?_replicate]
    split <;> rfl
  have := any_head (C := C) (Q := Q) hk hQp (fun i hi => hs i (Nat.zero_le _) (by omega)) hQ2 m (Array.replicate l.toArray.size false) (ac 0) w.drew hC
    ⟨by simp, fun i hi => (by rw [hfalse] at hi; cases hi)⟩ (fun j _ => hfalse j)
    ⟨rfl, rfl, fun j d _ hj => (by rw [hfalse] at hj; cases hj), fun d _ => rfl⟩ hf
  rw [show m + (l.length - m) = l.toArray.size by simp; omega] at this
  exact this
end
/-- The record of a loop whose rounds go on. -/
def recR (fn : FuncId) (tmps : Array Value) (ps : Array Tmp) (assign body : Code) (D : Nat) (st : LoopState) : Loop := { state := st, pending := none, fn, tmps, params := ps, assign, body, defers := D }
theorem wp_range_has {P : Program} {σ w : World} {M : Mm} {g : Operand} {ps : Array Tmp} {assign body : Code} {Q : Exit → Act → World → Prop} {a : Act} (h : Has σ M w) {gf : Nat} {lb : Array Value} (hg : a.eval g = .func (.func gf) #[] lb) (eg : ∀ args w, (callFunc gf args).run P w = .ok (.enter gf args) w)
    (hc : ∀ (fn : FuncId) (D Lr : Nat) (M2 : Mm) (w2 : World), Has σ M2 w2 → M.le M2 → M D = none → M Lr = none → D ≠ Lr → M2 D = some (.deferred (some [])) → M2 Lr = some (.loop (recR fn a.tmps ps assign body D .ready)) →
      CallsIn Fence.wide 0 P gf (#[.func (.yield Lr) #[] #[]] ++ lb) w2 fun r w3 => (∃ v, r = .returned v) ∧ ∃ M3, Has σ M3 w3 ∧ M3 Lr = some (.loop (recR fn a.tmps ps assign body D .ready)) ∧
        ∀ (oL : Obj) (w4 : World), Has σ (M3.upd Lr oL) w4 → Q .normal { a with defers := { target := .collected D, args := #[] } :: a.defers } w4) :
    (Code.rangeFunc g ps assign body).wp P Q a w := by
  refine (wpIn_wide (n := 0)).1 (wpIn_rangeFunc fun fn _ => ?_)
  have h1 := h.alloc (.deferred (some []))
  have hf1 := h1.fresh
  have e1 : (w.alloc (.deferred (some []))).heap.size = w.heap.size + 1 := by simp
  rw [e1] at hf1
  have h2 := h1.alloc (.loop (recR fn a.tmps ps assign body w.heap.size .ready))
  rw [e1] at h2
  have hle1 := Mm.le_upd' h.fresh (.deferred (some []))
  have hle2 := Mm.le_upd' hf1 (.loop (recR fn a.tmps ps assign body w.heap.size .ready))
  have hD := hle2 _ _ (Mm.upd_same M w.heap.size (.deferred (some [])))
  have hne : w.heap.size ≠ w.heap.size + 1 := Nat.ne_of_lt (Nat.lt_succ_self _)
  have hen := run_enterLoop_outer (P := P) (w := w) fn a.tmps ps assign body
  have hfr := h.fresh
  have hf2 : M (w.heap.size + 1) = none := Mm.none_of hle1 hf1
  change _ = Result.ok _ ((w.alloc (.deferred (some []))).alloc (.loop (recR fn a.tmps ps assign body w.heap.size .ready))) at hen
  generalize (w.alloc (.deferred (some []))).alloc (.loop (recR fn a.tmps ps assign body w.heap.size .ready)) = W1 at h2 hen
  refine ⟨w.heap.size + 1, [{ target := .collected w.heap.size, args := #[] }], W1, { target := .fn (.func gf) lb, args := #[.func (.yield (w.heap.size + 1)) #[] #[]] }, W1, gf, #[.func (.yield (w.heap.size + 1)) #[] #[]] ++ lb, W1, hen, ?_, fun _ _ => trivial, ?_, fun e => (by cases e), ?_⟩
  · simp only [resolve, hg]
    simp [go_sem]
  · simp [invoke, go_sem, eg]
  · refine (hc fn w.heap.size (w.heap.size + 1) _ _ h2 (Mm.le_trans hle1 hle2) hfr hf2 hne hD (Mm.upd_same _ _ _)).mono ?_
    rintro r w3 ⟨⟨v, rfl⟩, M3, h3, hL3, hk⟩
    have hL := h3.at_ _ _ hL3
    exact ⟨none, _, run_endLoop hL (by unfold recR; simp), hk _ _ (h3.putObj hL3 _)⟩
/-- One call of yield, at a loop that goes on. -/
theorem yield_has {P : Program} {σ w : World} {M : Mm} (h : Has σ M w) {Lr : Nat} {fn : FuncId} {tmps : Array Value} {p : Tmp} {assign body : Code} {D : Nat} (hL : M Lr = some (.loop (recR fn tmps #[p] assign body D .ready))) (x : Value) :
    (Instr.yield Lr #[x]).run P w = .ok (.round Lr fn (tmps.setIfInBounds p x) assign body) w := by
  have := run_yield (P := P) (args := #[x]) (r := recR fn tmps #[p] assign body D .ready) (h.at_ _ _ hL) rfl
  simpa [recR] using this
theorem round_has {P : Program} {σ w : World} {M M0 : Mm} {m : Nat} (h : Has σ M w) {Lr : Nat} {fn : FuncId} {tmps t0 : Array Value} {ps : Array Tmp} {assign body : Code} {D : Nat} (hL : M Lr = some (.loop (recR fn t0 ps assign body D .ready))) (hL0 : M0 Lr = some (.loop (recR fn t0 ps assign body D .ready)))
    (ha : ∀ K : Act → World → Prop, (∀ a1, (∀ (oB : Obj) w2, Has σ (M.upd Lr oB) w2 → body.wpIn (Fence.wide.inRound Lr) m P (fun e _ w3 => e = .normal ∧ Has σ (M0.upd Lr oB) w3) a1 w2) → K a1 w) →
      assign.wpIn (Fence.wide.inRound Lr) m P (Exit.then K (fun _ _ _ => False)) { tmps := tmps, defers := [] } w) :
    RoundIn Fence.wide m P Lr fn tmps assign body w fun e w' => e = .returned (.bool true) ∧ Has σ M0 w' := by
  refine roundIn_of_wpIn trivial (ha _ fun a1 hb => ⟨_, run_beginRound (h.at_ _ _ hL) rfl, ?_⟩)
  have h2 := h.putObj hL (.loop (recR fn t0 ps assign body D .busy))
  refine wpIn_mono (hb _ _ h2) fun e a w3 he => ?_
  obtain ⟨rfl, h3⟩ := he
  have hL3 := h3.at_ _ _ (Mm.upd_same _ _ _)
  refine ⟨_, _, run_endRound (P := P) none hL3, rfl, ?_⟩
  have h4 := h3.putObj (Mm.upd_same _ _ _) (.loop (recR fn t0 ps assign body D .ready))
  rw [Mm.upd_upd] at h4
  refine h4.le fun c o hc => ?_
  by_cases e : c = Lr
  · subst e
    rw [Mm.upd_same, ← hc, hL0]
  · rw [Mm.upd_ne e]
    exact hc
end
section
open Go.RowKit
attribute [local go_sem] Oper.semAt_some
set_option linter.unusedVariables false
set_option linter.unusedSimpArgs false
set_option linter.unnecessarySimpa false
structure ChainR (σ : World) (Lr bs bx bn bl : Nat) (fid : FuncId) (xs ys : Array Value) (len : Nat) (s : Nat → Int) (Mf Mr : Nat → Mm) : Prop where
  cs : ∀ k, k ≤ len → Mf k bs = some (.cells #[.int .i64 (s k)] 3)
  cx : ∀ k, k ≤ len → Mf k bx = some (.cells #[.pointer (some ⟨bl, 0, none⟩)] 79)
  cl : ∀ k, k ≤ len → ∃ row, Mf k bl = some (.cells row 83) ∧ row[11]? = some (.int .i64 5)
  rs : ∀ k, k < len → Mr k bs = some (.cells #[.int .i64 (s k)] 3)
  rn : ∀ k, k < len → Mr k bn = some (.cells #[.func (.func fid) xs ys] 120)
  st : ∀ k, k < len → Mf (k + 1) = (Mr k).upd bs (.cells #[.int .i64 (s (k + 1))] 3)
  lo : ∀ k, k < len → 0 < s k
  hi : ∀ k, k < len → s k ≤ 5
  fin : s len = 0
  many : len ≤ 5
  ent : ∀ args w, (callFunc fid args).run Tryz.prog w = .ok (.enter fid args) w
  yld : ∀ k, k < len → ∀ W, Has σ (Mf k) W → ∃ fn tmps assign body, (Instr.yield Lr #[.int .i64 (s k)]).run Tryz.prog W = .ok (.round Lr fn tmps assign body) W ∧ RoundIn Fence.wide 0 Tryz.prog Lr fn tmps assign body W fun e w' => e = .returned (.bool true) ∧ Has σ (Mr k) w'
  nxt : ∀ k, k < len → ∀ W, Has σ (Mr k) W → Calls Tryz.prog fid (xs.push (.int .i64 (s k)) ++ ys) W fun e w' => e = .returned (.int .i64 (s (k + 1))) ∧ Has σ (Mr k) w'
def intOf' : Value → Nat
  | .int _ k => k.toNat
  | _ => 0
set_option maxHeartbeats 4000000 in
set_option maxRecDepth 20000 in
theorem chain1_has {σ w : World} {Lr bs bx bn bl : Nat} {fid : FuncId} {xs ys : Array Value} {len : Nat} {s : Nat → Int} {Mf Mr : Nat → Mm} (C : ChainR σ Lr bs bx bn bl fid xs ys len s Mf Mr) (h : Has σ (Mf 0) w) :
    CallsIn Fence.wide 0 Tryz.prog 74 #[.func (.yield Lr) #[] #[], .pointer (some ⟨bs, 0, none⟩), .pointer (some ⟨bx, 0, none⟩), .pointer (some ⟨bn, 0, none⟩)] w fun e w' => (∃ v, e = .returned v) ∧ Has σ (Mf len) w' := by
  refine callsIn_of_wp Tryz.func74 rfl trivial ?_ rfl
  simp only [Tryz.ntmps74, List.size_toArray, List.length_cons, List.length_nil, Nat.reduceAdd, Nat.reduceSub, Array.replicate_succ, Array.replicate_zero, List.push_toArray, List.append_toArray, List.nil_append, List.cons_append]
  gi_wp2
  gi_loopw [5] (fun i wr => ∃ k : Nat, i = .int .i64 k ∧ k ≤ len ∧ Has σ (Mf k) wr) (fun i _ => len - intOf' i)
  case atStart => exact ⟨0, rfl, Nat.zero_le _, h⟩
  case round =>
    clear h w
    obtain ⟨k, rfl, hk, h⟩ := hrel
    obtain ⟨w, rfl⟩ : ∃ x : World, x = wr := ⟨_, rfl⟩
    have c1 := h.cell (C.cs k hk) 0
    by_cases e : k = len
    · subst e
      rw [C.fin] at c1
      have c1' : w.cell? ⟨bs, 0, none⟩ = some (.int .i64 0) := c1
      clear c1
      gi_wp2
      go_end0
      exact ⟨⟨_, rfl⟩, h⟩
    · have hlt : k < len := by omega
      have X := C.cx k hk
      obtain ⟨row, R, q11⟩ := C.cl k hk
      have lo := C.lo k hlt
      have hi := C.hi k hlt
      have hk5 : k < 5 := Nat.lt_of_lt_of_le hlt C.many
      have EN := Lib.hid C.ent
      have YY := Lib.hid (C.yld k hlt)
      have NX := Lib.hid (C.nxt k hlt)
      have ST := Lib.hid (C.st k hlt)
      have RS := Lib.hid (C.rs k hlt)
      have RN := Lib.hid (C.rn k hlt)
      have CS := C.cs k hk
      have q1 : (#[.int .i64 (s k)] : Array Value)[0]? = some (.int .i64 (s k)) := rfl
      have q2 : (#[.pointer (some ⟨bl, 0, none⟩)] : Array Value)[0]? = some (.pointer (some ⟨bl, 0, none⟩)) := rfl
      have hM := Lib.hid (fun W (h : Has σ (Mf (k + 1)) W) => (⟨k + 1, rfl, hlt, h⟩ : ∃ j : Nat, Value.int .i64 ((k + 1 : Nat) : Int) = .int .i64 (j : Nat) ∧ j ≤ len ∧ Has σ (Mf j) W))
      clear C
      generalize s k = x at *
      generalize s (k + 1) = y at *
      have c1' : w.cell? ⟨bs, 0, none⟩ = some (.int .i64 x) := c1
      clear c1
      have g0 : (x == 0) = false := by simp; omega
      have g1 : decide (x < 0) = false := by simp; omega
      have g2 : decide (5 < x) = false := by simp; omega
      have g3 : decide ((5 : Int) ≤ (k : Int)) = false := by simp; omega
      have g4 : decide (5 ≤ k) = false := by simp; omega
      gi_wp2
      refine wpIn_wide.2 ?_
      clear c1'
      refine wp_region_class (Has σ (Mf k)) (by kernel_rfl) (by kernel_rfl) h.drew ?_
      clear h
      repeat (first
        | go_big_quiet_skip
        | (go_big_quiet_want; first
          | (refine quiet_load_has 3 _ rfl rfl CS q1 Tryz.underlying3 rfl ?_; simp only [Act.put, List.setIfInBounds_toArray, List.set_cons_zero, List.set_cons_succ]; go_big_quiet_on)
          | (refine quiet_load_has 79 _ rfl rfl X q2 Tryz.underlying79 rfl ?_; simp only [Act.put, List.setIfInBounds_toArray, List.set_cons_zero, List.set_cons_succ]; go_big_quiet_on)
          | (refine quiet_load_has 3 _ rfl rfl R q11 Tryz.underlying3 rfl ?_; simp only [Act.put, List.setIfInBounds_toArray, List.set_cons_zero, List.set_cons_succ]; go_big_quiet_on)
          | (go_big_quiet_op; first | go_big_quiet_on | go_big_quiet_call (first | with_reducible exact fun _ => rfl))))
      refine wpQuiet_nil ?_
      try clear w
      intro w h
      have c1' : w.cell? ⟨bs, 0, none⟩ = some (.int .i64 x) := h.cell CS 0
      obtain ⟨fn, tmps, assign, body, hy, hR⟩ := YY.out w h
      gi_wp2
      refine ⟨rfl, hR.mono ?_⟩
      clear hR hy c1' h
      rintro e w ⟨rfl, h⟩
      have c2 : w.cell? ⟨bs, 0, none⟩ = some (.int .i64 x) := h.cell RS.out 0
      have f2 : w.frozen? ⟨bs, 0, none⟩ = false := h.free RS.out 0
      have c3 : w.cell? ⟨bn, 0, none⟩ = some (.func (.func fid) xs ys) := h.cell RN.out 0
      gi_wp2
      refine ⟨trivial, ?_⟩
      rw [EN.out]
      refine ⟨fun e => (by cases e), callsIn_wide.2 ((NX.out w h).mono ?_)⟩
      clear h c2 f2 c3
      rintro e w ⟨rfl, h⟩
      have c2 : w.cell? ⟨bs, 0, none⟩ = some (.int .i64 x) := h.cell RS.out 0
      have f2 : w.frozen? ⟨bs, 0, none⟩ = false := h.free RS.out 0
      have h5 := h.setCell RS.out 0 (.int .i64 y)
      have e5 : ((#[.int .i64 x] : Array Value).setIfInBounds 0 (.int .i64 y)) = #[.int .i64 y] := rfl
      rw [e5, ← ST.out] at h5
      generalize hw5 : w.setCell ⟨bs, 0, none⟩ (.int .i64 y) = w5 at h5
      show _
      gi_wp2
      refine ⟨⟨k + 1, by simp, hlt, h5⟩, ?_⟩
      show len - ((k : Int) + 1).toNat < len - ((k : Int)).toNat
      omega
end
section
open Go.RowKit
attribute [local go_sem] Oper.semAt_some
set_option linter.unusedVariables false
set_option linter.unusedSimpArgs false
set_option linter.unnecessarySimpa false
theorem inR_one (k : Nat) (h : k < 4) : InK exR k 0 0 := ⟨by omega, by unfold baseK; rcases (show k = 0 ∨ k = 1 ∨ k = 2 ∨ k = 3 by omega) with rfl | rfl | rfl | rfl <;> simp, by omega, by omega, fun _ => rfl, by rcases (show k = 0 ∨ k = 1 ∨ k = 2 ∨ k = 3 by omega) with rfl | rfl | rfl | rfl <;> (unfold numK many baseK; simp)⟩
theorem atR_one (k : Nat) (h : k < 4) : atK exR 0 k 0 0 = (k : Int) := by
  rcases (show k = 0 ∨ k = 1 ∨ k = 2 ∨ k = 3 by omega) with rfl | rfl | rfl | rfl <;> (unfold atK firsts numK baseK exR; simp)
theorem wordR_front : wordR 2 0 0 = 1 := by decide
theorem wordR_back : wordR 3 0 0 = 1 := by decide
theorem wordR_free : wordR 0 0 0 = 2 := by decide
theorem linkSlot_1 {σ w : World} {M : Mm} (h : Has σ M w) : Calls Tryz.prog 49 #[.int .u64 1] w fun r w' => r = .returned (.int .i64 1) ∧ Has σ M w' :=
  (linkSlot_any 1 (by decide) w).mono fun r w' ⟨e1, e2⟩ => ⟨e1, e2 ▸ h⟩
theorem Mm.upd_comm {M : Mm} {b c : Nat} {o o' : Obj} (hne : b ≠ c) : (M.upd b o).upd c o' = (M.upd c o').upd b o := by
  funext x
  by_cases e : x = b
  · subst e
    rw [Mm.upd_ne hne, Mm.upd_same, Mm.upd_same]
  · rw [Mm.upd_ne e]
    by_cases e2 : x = c
    · subst e2
      rw [Mm.upd_same, Mm.upd_same]
    · rw [Mm.upd_ne e2, Mm.upd_ne e2, Mm.upd_ne e]
theorem zintR : (Tryz.prog.info? 3).bind (·.zero) = some (.int .i64 0) := by kernel_rfl
/-- A word of which there is one, of whatever memory beyond. -/
theorem lkOne {σ w : World} {M : Mm} {lab : Nat → Nat} {p bw bl : Nat} {s : MachS} (h : Has σ M w) (hS : Seen M lab p bw s) {fr li re he wo : Int} {ti cl lo : Bool} (hl : M bl = some (.cells (lkR p bw fr li re he wo ti cl lo) 83)) (k : Nat) (hk : k < 4) {v : Int} (hv : wordR k 0 0 = v) : Calls Tryz.prog 48 #[.pointer (some ⟨bl, 0, none⟩), .int .i64 (k : Nat), .int .i64 0, .int .i64 0] w fun r w' => r = .returned (.int .u64 v) ∧ Has σ M w' := by
  have := lkAt_eq h hS hl k 0 0 (inR_one k hk) (a := k) (atR_one k hk) (by omega)
  rwa [hv] at this
set_option maxHeartbeats 4000000 in
set_option maxRecDepth 20000 in
theorem lkQueue_eq {σ w : World} {M : Mm} {lab : Nat → Nat} {p bw bl : Nat} {s : MachS} (h : Has σ M w) (hS : Seen M lab p bw s) {fr li re he wo : Int} {cl : Bool} (hl : M bl = some (.cells (lkR p bw fr li re he wo true cl false) 83)) : Calls Tryz.prog 30 #[.pointer (some ⟨bl, 0, none⟩)] w fun r w' => r = .returned (.tuple #[]) ∧ Has σ M w' := by
  have AT : Hid (∀ (M' : Mm) (k : Nat) (v : Int) (w : World), k < 4 → wordR k 0 0 = v → M.le M' → Has σ M' w → Calls Tryz.prog 48 #[.pointer (some ⟨bl, 0, none⟩), .int .i64 (k : Nat), .int .i64 0, .int .i64 0] w fun r w' => r = .returned (.int .u64 v) ∧ Has σ M' w') := Lib.hid fun M' k v w hk hv hle h => by
    obtain ⟨lab', hS'⟩ := hS.le hle
    exact lkOne h hS' (hle _ _ hl) k hk hv
  have NX : Hid (∀ (M' : Mm) (w : World), M.le M' → Has σ M' w → Calls Tryz.prog 50 #[.pointer (some ⟨bl, 0, none⟩), .int .i64 1] w fun r w' => r = .returned (.int .i64 0) ∧ Has σ M' w') := Lib.hid fun M' w hle h => by
    obtain ⟨lab', hS'⟩ := hS.le hle
    exact lkNext_eq h hS' (hle _ _ hl) 1 (by omega) (by omega)
  have SL := Lib.hid (fun (M' : Mm) (w : World) (h : Has σ M' w) => linkSlot_1 h)
  clear hS
  refine calls_marksN Tryz.func30 rfl ?_
  simp only [Tryz.ntmps30, List.size_toArray, List.length_cons, List.length_nil, Nat.reduceAdd, Nat.reduceSub, Array.replicate_succ,
     Array.replicate_zero, List.push_toArray, List.append_toArray, List.nil_append, List.cons_append]
  have hmm := Mm.le_refl M
  go_upto_region 1 with (first
    | ((with_reducible show wpList _ _ _ ({ dst := _, op := Op.box 79 _, type := _, pos := _, after := _, guard := _ } :: _) _ _); go_loud (refine wpList_box_has h rfl 79 _ rfl ?_); clear h; intro b1 w h hn1; try simp only [Act.put, List.setIfInBounds_toArray, List.set_cons_zero, List.set_cons_succ]))
  replace hn1 : M b1 = none := hn1
  replace h : Has σ (M.upd b1 (.cells #[.pointer (some ⟨bl, 0, none⟩)] 79)) w := h
  have hle1 : M.le (M.upd b1 (.cells #[.pointer (some ⟨bl, 0, none⟩)] 79)) := Mm.le_upd' hn1 _
  have hb1 : (M.upd b1 (.cells #[.pointer (some ⟨bl, 0, none⟩)] 79)) b1 = some (.cells #[.pointer (some ⟨bl, 0, none⟩)] 79) := (Mm.le_refl _) _ _ (Mm.upd_same _ _ _)
  replace hn1 : M b1 = none := Mm.none_of (Mm.le_refl _) hn1
  generalize (M.upd b1 (.cells #[.pointer (some ⟨bl, 0, none⟩)] 79)) = M1 at h hle1 hb1
  have q1 : (#[.pointer (some ⟨bl, 0, none⟩)] : Array Value)[0]? = some (.pointer (some ⟨bl, 0, none⟩)) := rfl
  have zi := zintR
  have l1 : 0 < (#[.int .i64 0] : Array Value).size := by decide
  go_upto_region 2 with (first
    | (with_reducible show wpList _ _ _ ({ dst := _, op := Op.load 79 _, type := _, pos := _, after := _, guard := _ } :: _) _ _; go_loud (refine wpList_load1_has h rfl 79 _ rfl rfl hb1 q1 Tryz.underlying79 rfl ?_))
    | (go_at_call 48; go_loud (refine (AT.out _ 2 _ _ (by omega) wordR_front hle1 h).mono ?_); clear h; rintro _ w ⟨rfl, h⟩)
    | (go_at_call 49; go_loud (refine (SL.out _ _ h).mono ?_); clear h; rintro _ w ⟨rfl, h⟩)
    | ((with_reducible show wpList _ _ _ ({ dst := some 2, op := Op.alloc 3, type := _, pos := _, after := _, guard := _ } :: _) _ _); go_loud (refine wpList_alloc_has h rfl 3 rfl _ zi ?_); clear h; intro b3 w h hn3; try simp only [Act.put, List.setIfInBounds_toArray, List.set_cons_zero, List.set_cons_succ])
    | ((with_reducible show wpList _ _ _ ({ dst := some 3, op := Op.alloc 3, type := _, pos := _, after := _, guard := _ } :: _) _ _); go_loud (refine wpList_alloc_has h rfl 3 rfl _ zi ?_); clear h; intro b4 w h hn4; try simp only [Act.put, List.setIfInBounds_toArray, List.set_cons_zero, List.set_cons_succ])
    | ((with_reducible show wpList _ _ _ ({ dst := _, op := Op.store 3 (.tmp 2) _, type := _, pos := _, after := _, guard := _ } :: _) _ _); have hx3 := Mm.le_upd' hn4 (.cells #[.int .i64 0] 3) _ _ (Mm.upd_same M1 b3 (.cells #[.int .i64 0] 3)); refine wpList_store1_has h rfl 3 _ _ rfl rfl rfl hx3 l1 rfl (by kernel_rfl) ?_; clear h; intro w h)
    | ((with_reducible show wpList _ _ _ ({ dst := _, op := Op.store 3 (.tmp 3) _, type := _, pos := _, after := _, guard := _ } :: _) _ _); have n34 : b3 ≠ b4 := (fun e => by subst e; rw [Mm.upd_same] at hn4; cases hn4); have hx4 := (Mm.upd_ne (o := .cells #[.int .i64 1] 3) (Ne.symm n34)).trans (Mm.upd_same (M1.upd b3 (.cells #[.int .i64 0] 3)) b4 (.cells #[.int .i64 0] 3)); refine wpList_store1_has h rfl 3 _ _ rfl rfl rfl hx4 l1 rfl (by kernel_rfl) ?_; clear h; intro w h))
  replace h : Has σ ((((M1.upd b3 (.cells #[.int .i64 0] 3)).upd b4 (.cells #[.int .i64 0] 3)).upd b3 (.cells #[.int .i64 1] 3)).upd b4 (.cells #[.int .i64 0] 3)) w := h
  replace hn4 : (M1.upd b3 (.cells #[.int .i64 0] 3)) b4 = none := hn4
  obtain ⟨hle2, hb3, hb4⟩ := Mm.again (o' := .cells #[.int .i64 0] 3) hn3 hn4 (.cells #[.int .i64 1] 3) (.cells #[.int .i64 0] 3)
  have n34 : b3 ≠ b4 := Mm.ne_of hn4 (Mm.upd_same _ _ _)
  have hm4 := Mm.none_of (Mm.le_upd' hn3 (.cells #[.int .i64 0] 3)) hn4
  generalize ((((M1.upd b3 (.cells #[.int .i64 0] 3)).upd b4 (.cells #[.int .i64 0] 3)).upd b3 (.cells #[.int .i64 1] 3)).upd b4 (.cells #[.int .i64 0] 3)) = M2 at h hle2 hb3 hb4
  clear hn4
  have q3 : (#[.int .i64 1] : Array Value)[0]? = some (.int .i64 1) := rfl
  have hb12 := hle2 _ _ hb1
  go_wp2_with (first | (refine wpList_load1_has h rfl 79 _ rfl rfl hb12 q1 Tryz.underlying79 rfl ?_) | (refine wpList_load1_has h rfl 3 _ rfl rfl hb3 q3 Tryz.underlying3 rfl ?_) | (go_at_call 47; refine (lkChain_eq h bl 1 50 #[.pointer (some ⟨bl, 0, none⟩)] #[]).mono ?_; clear h; rintro _ w ⟨bs, bx, bn, MC, rfl, h, hleC, hbs, hbx, hbn, hns, hq1, hq2⟩))
  have hb4C := hleC _ _ hb4
  have hb3C := hleC _ _ hb3
  have hlMC := Mm.le_trans hle1 (Mm.le_trans hle2 hleC)
  have n4s : b4 ≠ bs := Mm.ne_of hns hb4
  have hq1' : bx ≠ bs := Ne.symm hq1
  have hq2' : bn ≠ bs := Ne.symm hq2
  refine wp_range_has h (gf := 74) rfl (Go.Proofs.enters_of Tryz.func74 (by kernel_rfl) rfl) ?_
  clear h
  intro fn D Lr MD w h hleD hDn hLn hDL hD hL
  have nL4 : b4 ≠ Lr := Mm.ne_of hLn hb4C
  have nL3 : b3 ≠ Lr := Mm.ne_of hLn hb3C
  have nLs : bs ≠ Lr := Mm.ne_of hLn hbs
  have nD4 : b4 ≠ D := Mm.ne_of hDn hb4C
  have nDs : bs ≠ D := Mm.ne_of hDn hbs
  have hleMD := Mm.le_trans hlMC hleD
  have nx4 : bx ≠ b4 := fun e => by subst e; rw [hb4C] at hbx; cases hbx
  have nn4 : bn ≠ b4 := fun e => by subst e; rw [hb4C] at hbn; cases hbn
  have nl4 : bl ≠ b4 := Mm.ne_of hm4 (hle1 _ _ hl)
  have nls : bl ≠ bs := Mm.ne_of hns (hle2 _ _ (hle1 _ _ hl))
  have ML0 : (MD.upd b4 (.cells #[.int .i64 1] 3)) Lr = _ := (Mm.upd_ne (Ne.symm nL4)).trans hL
  have hleR : M.le (MD.upd b4 (.cells #[.int .i64 1] 3)) := Mm.le_upd hleMD (Mm.none_of hle1 hm4) _
  refine (chain1_has (Lr := Lr) (len := 1) (bl := bl) (xs := #[.pointer (some ⟨bl, 0, none⟩)]) (ys := #[]) (fid := 50) (s := fun k => if k = 0 then 1 else 0) (Mf := fun k => if k = 0 then MD else (MD.upd b4 (.cells #[.int .i64 1] 3)).upd bs (.cells #[.int .i64 0] 3)) (Mr := fun _ => MD.upd b4 (.cells #[.int .i64 1] 3)) ⟨?_, ?_, ?_, ?_, ?_, ?_, ?_, ?_, rfl, by omega, ?_, ?_, ?_⟩ h).mono ?_
  · intro k hk
    rcases (show k = 0 ∨ k = 1 by omega) with rfl | rfl
    · exact hleD _ _ hbs
    · exact Mm.upd_same _ _ _
  · intro k hk
    rcases (show k = 0 ∨ k = 1 by omega) with rfl | rfl
    · exact hleD _ _ hbx
    · exact (Mm.upd_ne hq1').trans ((Mm.upd_ne nx4).trans (hleD _ _ hbx))
  · intro k hk
    refine ⟨_, ?_, (rfl : (lkR p bw fr li re he wo true cl false)[11]? = _)⟩
    rcases (show k = 0 ∨ k = 1 by omega) with rfl | rfl
    · exact hleMD _ _ hl
    · exact (Mm.upd_ne nls).trans ((Mm.upd_ne nl4).trans (hleMD _ _ hl))
  · intro k hk
    obtain rfl : k = 0 := by omega
    exact (Mm.upd_ne (Ne.symm n4s)).trans (hleD _ _ hbs)
  · intro k hk
    exact (Mm.upd_ne nn4).trans (hleD _ _ hbn)
  · intro k hk
    obtain rfl : k = 0 := by omega
    rfl
  · intro k hk
    obtain rfl : k = 0 := by omega
    decide
  · intro k hk
    obtain rfl : k = 0 := by omega
    decide
  · exact Go.Proofs.enters_of Tryz.func50 (by kernel_rfl) rfl
  · intro k hk W hW
    obtain rfl : k = 0 := by omega
    have hW : Has σ MD W := hW
    refine ⟨fn, _, _, _, yield_has hW hL _, round_has hW hL ML0 ?_⟩
    · intro K hK
      simp only [List.setIfInBounds_toArray, List.set_cons_zero, List.set_cons_succ]
      clear hL ML0
      gi_wp2
      intro oB w2 h2
      have c4 : w2.cell? ⟨b4, 0, none⟩ = some (.int .i64 0) := h2.cell ((Mm.upd_ne nL4).trans (hleD _ _ hb4C)) 0
      have f4 : w2.frozen? ⟨b4, 0, none⟩ = false := h2.free ((Mm.upd_ne nL4).trans (hleD _ _ hb4C)) 0
      have c3 : w2.cell? ⟨b3, 0, none⟩ = some (.int .i64 1) := h2.cell ((Mm.upd_ne nL3).trans (hleD _ _ hb3C)) 0
      have h5 := h2.setCell ((Mm.upd_ne nL4).trans (hleD _ _ hb4C)) 0 (.int .i64 1)
      have c35 := h5.cell ((Mm.upd_ne n34).trans ((Mm.upd_ne nL3).trans (hleD _ _ hb3C))) 0
      have c35' : (w2.setCell ⟨b4, 0, none⟩ (.int .i64 1)).cell? ⟨b3, 0, none⟩ = some (.int .i64 1) := c35
      rw [Mm.upd_comm (Ne.symm nL4)] at h5
      gi_wp2
      exact h5
  · intro k hk W hW
    obtain rfl : k = 0 := by omega
    exact NX.out _ W hleR hW
  · rintro r w3 ⟨hv, h3⟩
    have h3 : Has σ ((MD.upd b4 (.cells #[.int .i64 1] 3)).upd bs (.cells #[.int .i64 0] 3)) w3 := h3
    refine ⟨hv, _, h3, (Mm.upd_ne (Ne.symm nLs)).trans ML0, ?_⟩
    clear h3 hv
    intro oL w h
    have hleX : M.le (((MD.upd b4 (.cells #[.int .i64 1] 3)).upd bs (.cells #[.int .i64 0] 3)).upd Lr oL) := Mm.le_upd (Mm.le_upd hleR (Mm.none_of (Mm.le_trans hle1 hle2) hns) _) (Mm.none_of hlMC hLn) _
    have nL1 : b1 ≠ Lr := Mm.ne_of hLn (hleC _ _ hb12)
    have n1s : b1 ≠ bs := Mm.ne_of hns hb12
    have n14 : b1 ≠ b4 := Mm.ne_of hm4 hb1
    have n3s : b3 ≠ bs := Mm.ne_of hns hb3
    have x1 := (Mm.upd_ne (o := oL) nL1).trans ((Mm.upd_ne (o := .cells #[.int .i64 0] 3) n1s).trans ((Mm.upd_ne (o := .cells #[.int .i64 1] 3) n14).trans (hleD _ _ (hleC _ _ hb12))))
    have x3 := (Mm.upd_ne (o := oL) nL3).trans ((Mm.upd_ne (o := .cells #[.int .i64 0] 3) n3s).trans ((Mm.upd_ne (o := .cells #[.int .i64 1] 3) n34).trans (hleD _ _ hb3C)))
    have x4 := (Mm.upd_ne (o := oL) nL4).trans ((Mm.upd_ne (o := .cells #[.int .i64 0] 3) n4s).trans (Mm.upd_same MD b4 (.cells #[.int .i64 1] 3)))
    have xD := (Mm.upd_ne (o := oL) hDL).trans ((Mm.upd_ne (o := .cells #[.int .i64 0] 3) (Ne.symm nDs)).trans ((Mm.upd_ne (o := .cells #[.int .i64 1] 3) (Ne.symm nD4)).trans hD))
    generalize ((MD.upd b4 (.cells #[.int .i64 1] 3)).upd bs (.cells #[.int .i64 0] 3)).upd Lr oL = MX at h hleX x1 x3 x4 xD
    have hDM : M D = none := Mm.none_of hlMC hDn
    clear hL ML0 hleR hb4C hb3C hlMC n4s hq1' hq2' nL4 nL3 nLs nD4 nDs hleMD nx4 nn4 nl4 nls hleD hDn hLn hDL hD hb3 hb4 hb1 hb12 hn1 hn3 hm4 hbs hbx hbn hns hq1 hq2 hleC hle2 hle1 nL1 n1s n14 n3s n34 NX h3
    have hlX := hleX _ _ hl
    have e28 : (lkR p bw fr li re he wo true cl false)[28]? = some (.bool false) := rfl
    have e26 : (lkR p bw fr li re he wo true cl false)[26]? = some (.bool true) := rfl
    have l28 : 28 < (lkR p bw fr li re he wo true cl false).size := by show 28 < 29; decide
    have l26 : 26 < (lkR p bw fr li re he wo true cl false).size := by show 26 < 29; decide
    have s28 : (lkR p bw fr li re he wo true cl false).setIfInBounds 28 (.bool false) = lkR p bw fr li re he wo true cl false := rfl
    have s26 : (lkR p bw fr li re he wo true cl false).setIfInBounds 26 (.bool true) = lkR p bw fr li re he wo true cl false := rfl
    generalize lkR p bw fr li re he wo true cl false = row at *
    have q4 : (#[.int .i64 1] : Array Value)[0]? = some (.int .i64 1) := rfl
    go_wp2
    refine wp_region_head (Has σ MX) 11 (by kernel_rfl) (by kernel_rfl) (fun _ _ _ _ _ h => h) h.drew ?_
    clear h
    simp only [List.take_succ_cons, List.take_zero, List.drop_succ_cons, List.drop_zero]
    repeat (first
      | go_big_quiet_skip
      | (go_big_quiet_want; first
        | (refine quiet_load_has 79 _ rfl rfl x1 q1 Tryz.underlying79 rfl ?_; simp only [Act.put, List.setIfInBounds_toArray, List.set_cons_zero, List.set_cons_succ]; go_big_quiet_on)
        | (refine quiet_load_has 4 _ rfl rfl hlX e28 Tryz.underlying4 rfl ?_; simp only [Act.put, List.setIfInBounds_toArray, List.set_cons_zero, List.set_cons_succ]; go_big_quiet_on)
        | (refine quiet_load_has 3 _ rfl rfl x3 q4 Tryz.underlying3 rfl ?_; simp only [Act.put, List.setIfInBounds_toArray, List.set_cons_zero, List.set_cons_succ]; go_big_quiet_on)
        | (go_big_quiet_op; first | go_big_quiet_on | go_big_quiet_call (first | with_reducible exact fun _ => rfl))))
    refine wpQuiet_nil ?_
    try clear w
    intro w h
    go_wp2_with (first
      | (with_reducible show wpList _ _ _ ({ dst := _, op := Op.store 4 _ _, type := _, pos := _, after := _, guard := _ } :: _) _ _; go_loud (refine wpList_store1_has h rfl 4 _ _ rfl rfl rfl hlX l28 rfl (by kernel_rfl) ?_); clear h; intro w h))
    replace h : Has σ (MX.upd bl (.cells (row.setIfInBounds 28 (.bool false)) 83)) w := h
    rw [s28, Mm.upd_self hlX] at h
    have AT3 : Hid (∀ (w : World), Has σ MX w → Calls Tryz.prog 48 #[.pointer (some ⟨bl, 0, none⟩), .int .i64 3, .int .i64 0, .int .i64 0] w fun r w' => r = .returned (.int .u64 1) ∧ Has σ MX w') := Lib.hid (fun (w : World) (h : Has σ MX w) => AT.out MX 3 1 w (by omega) wordR_back hleX h)
    have SL3 := Lib.hid (fun (w : World) (h : Has σ MX w) => SL.out MX w h)
    refine wp_region_head (Has σ MX) 16 (by kernel_rfl) (by kernel_rfl) (fun _ _ _ _ _ h => h) h.drew ?_
    clear h
    simp only [List.take_succ_cons, List.take_zero, List.drop_succ_cons, List.drop_zero]
    repeat (first
      | go_big_quiet_skip
      | (go_big_quiet_want; first
        | (refine quiet_load_has 79 _ rfl rfl x1 q1 Tryz.underlying79 rfl ?_; simp only [Act.put, List.setIfInBounds_toArray, List.set_cons_zero, List.set_cons_succ]; go_big_quiet_on)
        | (refine quiet_load_has 4 _ rfl rfl hlX e26 Tryz.underlying4 rfl ?_; simp only [Act.put, List.setIfInBounds_toArray, List.set_cons_zero, List.set_cons_succ]; go_big_quiet_on)
        | (refine quiet_load_has 3 _ rfl rfl x4 q4 Tryz.underlying3 rfl ?_; simp only [Act.put, List.setIfInBounds_toArray, List.set_cons_zero, List.set_cons_succ]; go_big_quiet_on)
        | (go_big_quiet_op; first | go_big_quiet_on | go_big_quiet_call (first | with_reducible exact fun _ => rfl | with_reducible exact AT3.out _ | with_reducible exact SL3.out _))))
    refine wpQuiet_nil ?_
    try clear w
    intro w h
    go_wp2_with (first
      | (with_reducible show wpList _ _ _ ({ dst := _, op := Op.store 4 _ _, type := _, pos := _, after := _, guard := _ } :: _) _ _; go_loud (refine wpList_store1_has h rfl 4 _ _ rfl rfl rfl hlX l26 rfl (by kernel_rfl) ?_); clear h; intro w h))
    replace h : Has σ (MX.upd bl (.cells (row.setIfInBounds 26 (.bool true)) 83)) w := h
    rw [s26, Mm.upd_self hlX] at h
    exact leaves_keep M [D] MX w h hleX (by simp) (fun D' hm => by obtain rfl := List.mem_singleton.1 hm; exact xD) (fun D' hm => by obtain rfl := List.mem_singleton.1 hm; exact hDM) fun w' h' => ⟨_, results_none rfl _ _ _, rfl, h'⟩
end
end Go.Proofs.YtlpkimpdeeiaaaaGreat
