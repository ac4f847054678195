/- Walks of layer 5 (plan): a plan is made. -/
import Derived.Test.YtlpkimpdeeiaaaaGreatPlanA
namespace Go.Proofs.YtlpkimpdeeiaaaaGreat
open Go.RowKit
set_option linter.unusedVariables false
set_option linter.unusedSimpArgs false
set_option linter.unnecessarySimpa false

def manyRow (c : Nat → Int) : Array Value := #[.int .i64 1, .int .i64 1, .int .i64 1, .int .i64 1, .int .i64 4, .int .i64 2, .int .i64 8, .int .i64 (c 11), .int .i64 (c 10), .int .i64 (c 10 * 5)]
theorem manyRow_get (c : Nat → Int) {k : Nat} (h : k < 10) : (manyRow c)[(k : Int).toNat]? = some (.int .i64 (many c k)) := by
  rcases k with _ | _ | _ | _ | _ | _ | _ | _ | _ | _ | k
  all_goals first | rfl | omega
theorem planAt_zero (c : Nat → Int) : ints .i64 35 (planAt c 0) = #[.int .i64 (c 0), .int .i64 (c 1), .int .i64 (c 2), .int .i64 (c 3), .int .i64 (c 4), .int .i64 (c 5), .int .i64 (c 6), .int .i64 (c 7), .int .i64 (c 8), .int .i64 (c 9), .int .i64 (c 10), .int .i64 (c 11), .int .i64 (c 12), .int .i64 (c 13),
    .int .i64 1, .int .i64 1, .int .i64 1, .int .i64 1, .int .i64 4, .int .i64 2, .int .i64 8, .int .i64 (c 11), .int .i64 (c 10), .int .i64 (c 10 * 5), .int .i64 0, .int .i64 0, .int .i64 0, .int .i64 0, .int .i64 0, .int .i64 0, .int .i64 0, .int .i64 0, .int .i64 0, .int .i64 0, .int .i64 0] := rfl

set_option maxHeartbeats 2000000 in
theorem planNew_yes {σ w : World} {M : Mm} (h : Has σ M w) (c : Nat → Int) (hc : ConfMay c) :
    Calls Tryz.prog 17 #[confV c] w fun e w' => ∃ p M', e = .returned (.tuple #[.pointer (some ⟨p, 0, none⟩), .int .i64 0]) ∧ Has σ M' w' ∧ M.le M' ∧ M' p = some (planRow c) ∧ M p = none := by
  have hmay : confMayB c = true := decide_eq_true hc
  obtain ⟨⟨h0, h1⟩, _, _, _, ⟨h2, h3⟩, ⟨h4, h5⟩, _⟩ := hc
  have CM : Hid (∀ (M : Mm) (w : World), Has σ M w → Calls Tryz.prog 38 #[confV c] w fun e w' => e = .returned (.bool true) ∧ Has σ M w') := fun M w h => by
    have := may_has h c
    rwa [hmay] at this
  simp only [confV, ints14_lit] at CM ⊢
  clear hmay
  have D0 : Hid (c 0 = c 0) := rfl
  go_enter Tryz.func17, Tryz.ntmps17
  go_upto_region 1 with (fail)
  obtain ⟨M2, hbx, hle2, hb1, hn1⟩ := h.box (.cells #[.int .i64 (c 0), .int .i64 (c 1), .int .i64 (c 2), .int .i64 (c 3), .int .i64 (c 4), .int .i64 (c 5), .int .i64 (c 6), .int .i64 (c 7), .int .i64 (c 8), .int .i64 (c 9), .int .i64 (c 10), .int .i64 (c 11), .int .i64 (c 12), .int .i64 (c 13)] 29)
  generalize w.alloc _ = wx at hbx ⊢
  generalize w.heap.size = b1 at hb1 hn1 ⊢
  clear h
  try clear w
  have h := hbx
  clear hbx
  obtain ⟨w, rfl⟩ : ∃ x : World, x = wx := ⟨_, rfl⟩
  have hx : (#[.int .i64 (c 0), .int .i64 (c 1), .int .i64 (c 2), .int .i64 (c 3), .int .i64 (c 4), .int .i64 (c 5), .int .i64 (c 6), .int .i64 (c 7), .int .i64 (c 8), .int .i64 (c 9), .int .i64 (c 10), .int .i64 (c 11), .int .i64 (c 12), .int .i64 (c 13)] : Array Value).extract 0 (0 + 14) = #[.int .i64 (c 0), .int .i64 (c 1), .int .i64 (c 2), .int .i64 (c 3), .int .i64 (c 4), .int .i64 (c 5), .int .i64 (c 6), .int .i64 (c 7), .int .i64 (c 8), .int .i64 (c 9), .int .i64 (c 10), .int .i64 (c 11), .int .i64 (c 12), .int .i64 (c 13)] := rfl
  go_upto_region 4 with (first
    | ((with_reducible show wpList _ _ _ ({ dst := _, op := Op.load 29 _, type := _, pos := _, after := _, guard := _ } :: _) _ _); refine wpList_agg_has h rfl 29 _ rfl rfl hb1 hx rfl Tryz.underlying29 rfl (by kernel_rfl) ?_; try simp only [Act.put, List.setIfInBounds_toArray, List.set_cons_zero, List.set_cons_succ])
    | (go_at_call 38; refine (CM.out _ _ h).mono ?_; clear h; rintro e w ⟨rfl, h⟩; have c10 : w.cell? ⟨b1, 10, none⟩ = some (.int .i64 (c 10)) := h.cell hb1 10; have c11 : w.cell? ⟨b1, 11, none⟩ = some (.int .i64 (c 11)) := h.cell hb1 11))
  rw [← planAt_zero c]
  clear c10 c11
  obtain ⟨M3, hbx, hle3, hp, hnp⟩ := h.box (.cells (ints .i64 35 (planAt c 0)) 91)
  generalize w.alloc _ = wx at hbx ⊢
  generalize w.heap.size = p at hp hnp ⊢
  clear h
  try clear w
  have h := hbx
  clear hbx
  obtain ⟨w, rfl⟩ : ∃ x : World, x = wx := ⟨_, rfl⟩
  have hle := Mm.le_trans hle2 hle3
  have hnp : M p = none := Mm.none_of hle2 hnp
  have hxm : (ints .i64 35 (planAt c 0)).extract 14 (14 + 10) = manyRow c := rfl
  clear hb1 hn1 hx CM hle2 hle3 D0
  unfold manyRow at hxm
  go_upto_region 5 with (first
    | ((with_reducible show wpList _ _ _ ({ dst := _, op := Op.load 88 _, type := _, pos := _, after := _, guard := _ } :: _) _ _); refine wpList_agg_has h rfl 88 _ rfl rfl hp hxm rfl Tryz.underlying88 rfl (by kernel_rfl) ?_; try simp only [Act.put, List.setIfInBounds_toArray, List.set_cons_zero, List.set_cons_succ]))
  rw [show (#[.int .i64 1, .int .i64 1, .int .i64 1, .int .i64 1, .int .i64 4, .int .i64 2, .int .i64 8, .int .i64 (c 11), .int .i64 (c 10), .int .i64 (c 10 * 5)] : Array Value) = manyRow c from rfl]
  have HN := Lib.hid hnp
  clear hnp hxm
  go_loopw [25] (fun i wr => ∃ k : Nat, k ≤ 10 ∧ i = .int .i64 k ∧ ∃ M', Has σ M' wr ∧ M.le M' ∧ M' p = some (.cells (ints .i64 35 (planAt c k)) 91)) (fun i _ => 10 - (intOf i).toNat)
  case atStart => exact ⟨0, by omega, rfl, M3, h, hle, hp⟩
  case round =>
    clear h hle hp
    obtain ⟨w, rfl⟩ : ∃ x : World, x = wr := ⟨_, rfl⟩
    obtain ⟨k, hk, rfl, M', h, hle, hp⟩ := hrel
    by_cases hlt : k < 10
    · have hidx := fun (w : World) => run_index_one (P := Tryz.prog) w (t := 88) (e := 3) (n := 10) Tryz.underlying88 Tryz.underlying3 rfl (by kernel_rfl) (manyRow c) .i64 (k : Int) (by omega) (by omega) (manyRow_get c hlt)
      have e0 : (ints .i64 35 (planAt c k))[24 + k]? = some (.int .i64 (firsts c k)) := by
        rw [ints_get (by omega)]
        unfold planAt
        rw [if_neg (by omega), if_neg (by omega), if_pos (by omega), Nat.add_sub_cancel_left]
      have S := Lib.hid (firsts_succ c hlt)
      have U := Lib.hid (planAt_upd c hlt)
      have fb : 0 ≤ firsts c k ∧ firsts c k ≤ 418 ∧ 0 ≤ many c k ∧ many c k ≤ 300 := by
        unfold firsts many
        rcases k with _ | _ | _ | _ | _ | _ | _ | _ | _ | _ | k <;> simp <;> omega
      obtain ⟨f0, f1, f2, f3⟩ := fb
      have hsz : 24 + (k + 1) < (ints .i64 35 (planAt c k)).size := by rw [ints_size]; omega
      generalize firsts c k = f at e0 S f0 f1
      generalize many c k = m at hidx S f2 f3
      go_upto_region 7 with (fail)
      clear hidx
      refine wp_region_head (Has σ M') 14 (by kernel_rfl) (by kernel_rfl) (fun _ _ _ _ _ h => h) h.drew ?_
      clear h
      simp only [List.take_succ_cons, List.take_zero, List.drop_succ_cons, List.drop_zero]
      repeat (first
        | go_big_quiet_skip
        | (go_big_quiet_want; first
          | (refine quiet_load_has 3 _ rfl rfl hp e0 Tryz.underlying3 rfl ?_; simp only [Act.put, List.setIfInBounds_toArray, List.set_cons_zero, List.set_cons_succ]; go_big_quiet_on)
          | (go_big_quiet_op; first | go_big_quiet_on | go_big_quiet_call (first | with_reducible exact fun _ => rfl))))
      refine wpQuiet_nil ?_
      try clear w
      intro w h
      go_wp2_with (first
        | (with_reducible show wpList _ _ _ ({ dst := _, op := Op.store 3 _ _, type := _, pos := _, after := _, guard := _ } :: _) _ _; refine wpList_store1_has h rfl 3 _ _ rfl rfl rfl hp hsz rfl (by kernel_rfl) ?_; clear h; intro w h))
      go_roundw
      case rel => exact ⟨k + 1, by omega, by go_num, _, h, Mm.le_upd hle HN.out _, by rw [Mm.upd_same, ← U.out, S.out]; exact congrArg (fun x => some (Obj.cells x 91)) (ints_set _ _ _ _ _)⟩
      case measure => simp [intOf]; omega
    · obtain rfl : k = 10 := by omega
      go_wp2
      go_ret2
      exact ⟨p, M', rfl, h, hle, hp, HN.out⟩

set_option maxHeartbeats 1000000 in
theorem planNew_no {σ w : World} {M : Mm} (h : Has σ M w) (c : Nat → Int) (hc : confMayB c = false) :
    Calls Tryz.prog 17 #[confV c] w fun e w' => e = .returned (.tuple #[.pointer none, .int .i64 1]) ∧ Has σ M w' := by
  have CM : Hid (∀ (M : Mm) (w : World), Has σ M w → Calls Tryz.prog 38 #[confV c] w fun e w' => e = .returned (.bool false) ∧ Has σ M w') := fun M w h => by
    have := may_has h c
    rwa [hc] at this
  simp only [confV, ints14_lit] at CM ⊢
  clear hc
  go_enter Tryz.func17, Tryz.ntmps17
  go_upto_region 1 with (fail)
  obtain ⟨M2, hbx, hle2, hb1, hn1⟩ := h.box (.cells #[.int .i64 (c 0), .int .i64 (c 1), .int .i64 (c 2), .int .i64 (c 3), .int .i64 (c 4), .int .i64 (c 5), .int .i64 (c 6), .int .i64 (c 7), .int .i64 (c 8), .int .i64 (c 9), .int .i64 (c 10), .int .i64 (c 11), .int .i64 (c 12), .int .i64 (c 13)] 29)
  generalize w.alloc _ = wx at hbx ⊢
  generalize w.heap.size = b1 at hb1 hn1 ⊢
  clear h
  try clear w
  have h := hbx
  clear hbx
  obtain ⟨w, rfl⟩ : ∃ x : World, x = wx := ⟨_, rfl⟩
  have hx : (#[.int .i64 (c 0), .int .i64 (c 1), .int .i64 (c 2), .int .i64 (c 3), .int .i64 (c 4), .int .i64 (c 5), .int .i64 (c 6), .int .i64 (c 7), .int .i64 (c 8), .int .i64 (c 9), .int .i64 (c 10), .int .i64 (c 11), .int .i64 (c 12), .int .i64 (c 13)] : Array Value).extract 0 (0 + 14) = #[.int .i64 (c 0), .int .i64 (c 1), .int .i64 (c 2), .int .i64 (c 3), .int .i64 (c 4), .int .i64 (c 5), .int .i64 (c 6), .int .i64 (c 7), .int .i64 (c 8), .int .i64 (c 9), .int .i64 (c 10), .int .i64 (c 11), .int .i64 (c 12), .int .i64 (c 13)] := rfl
  go_wp2_with (first
    | ((with_reducible show wpList _ _ _ ({ dst := _, op := Op.load 29 _, type := _, pos := _, after := _, guard := _ } :: _) _ _); refine wpList_agg_has h rfl 29 _ rfl rfl hb1 hx rfl Tryz.underlying29 rfl (by kernel_rfl) ?_; try simp only [Act.put, List.setIfInBounds_toArray, List.set_cons_zero, List.set_cons_succ])
    | (go_at_call 38; refine (CM.out _ _ h).mono ?_; clear h; rintro e w ⟨rfl, h⟩))
  go_ret2
  exact ⟨rfl, h.le hle2⟩
end Go.Proofs.YtlpkimpdeeiaaaaGreat
