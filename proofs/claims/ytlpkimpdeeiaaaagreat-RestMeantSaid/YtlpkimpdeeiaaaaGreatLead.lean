/- Walks of layers 2, 7 (link, warden): Slot, Gen, Plain, Same of itself; Leads of a slot's own link. -/
import Derived.Test.YtlpkimpdeeiaaaaGreatDropK
import Derived.Test.YtlpkimpdeeiaaaaGreatLinksB
namespace Go.Proofs.YtlpkimpdeeiaaaaGreat
open Go.RowKit
set_option linter.unusedVariables false
set_option linter.unusedSimpArgs false
set_option linter.unnecessarySimpa false
theorem linkSlot_any (l : Nat) (hl : l < 18446744073709551616) (w : World) : Calls Tryz.prog 49 #[.int .u64 l] w fun r w' => r = .returned (.int .i64 (cutN l 0 8 : Nat)) ∧ w = w' := by
  have C := Lib.hid (fieldCut_any l 0 8 (by omega) (by omega) (by omega))
  have hx : cutN l 0 8 < 256 := cutN_lt l 0 8
  have u0 : IntKind.u64.wrap (l : Int) = (l : Int) := IntWalk.u64_in _ (by omega)
  have u1 : IntKind.i64.wrap ((cutN l 0 8 : Nat) : Int) = ((cutN l 0 8 : Nat) : Int) := IntWalk.i64_in _ (by omega)
  generalize cutN l 0 8 = x at *
  clear hl hx
  go_enter Tryz.func49, Tryz.ntmps49
  go_wp2_with (first
    | (go_at_call 34; refine (C.out _).mono ?_; rintro r w' ⟨rfl, rfl⟩))
  go_ret
  exact ⟨rfl, rfl⟩
theorem linkGen_any (l : Nat) (hl : l < 18446744073709551616) (w : World) : Calls Tryz.prog 102 #[.int .u64 l] w fun r w' => r = .returned (.int .i64 (cutN l 8 32 : Nat)) ∧ w = w' := by
  have C := Lib.hid (fieldCut_any l 8 32 (by omega) (by omega) (by omega))
  have hx : cutN l 8 32 < 4294967296 := cutN_lt l 8 32
  have u0 : IntKind.u64.wrap (l : Int) = (l : Int) := IntWalk.u64_in _ (by omega)
  have u1 : IntKind.i64.wrap ((cutN l 8 32 : Nat) : Int) = ((cutN l 8 32 : Nat) : Int) := IntWalk.i64_in _ (by omega)
  generalize cutN l 8 32 = x at *
  clear hl hx
  go_enter Tryz.func102, Tryz.ntmps102
  go_wp2_with (first
    | (go_at_call 34; refine (C.out _).mono ?_; rintro r w' ⟨rfl, rfl⟩))
  go_ret
  exact ⟨rfl, rfl⟩
theorem linkPlain_any (l : Nat) (hl : l < 18446744073709551616) (w : World) : Calls Tryz.prog 87 #[.int .u64 l] w fun r w' => r = .returned (.int .u64 (mkLink (cutN l 0 8) (cutN l 8 32) : Nat)) ∧ w = w' := by
  have C1 := Lib.hid (linkSlot_any l hl)
  have C2 := Lib.hid (linkGen_any l hl)
  have hx : cutN l 0 8 < 256 := cutN_lt l 0 8
  have hy : cutN l 8 32 < 4294967296 := cutN_lt l 8 32
  have C3 := Lib.hid (linkMake_any (cutN l 0 8) (cutN l 8 32) (by omega) (by omega))
  generalize mkLink (cutN l 0 8) (cutN l 8 32) = z at *
  generalize cutN l 0 8 = x at *
  generalize cutN l 8 32 = y at *
  clear hl hx hy
  go_enter Tryz.func87, Tryz.ntmps87
  go_wp2_with (first
    | (go_at_call 49; refine (C1.out _).mono ?_; rintro r w' ⟨rfl, rfl⟩)
    | (go_at_call 102; refine (C2.out _).mono ?_; rintro r w' ⟨rfl, rfl⟩)
    | (go_at_call 41; refine (C3.out _).mono ?_; rintro r w' ⟨rfl, rfl⟩))
  go_ret
  exact ⟨rfl, rfl⟩
theorem linkSame_self (l : Nat) (hl : l < 18446744073709551616) (w : World) : Calls Tryz.prog 78 #[.int .u64 l, .int .u64 l] w fun r w' => r = .returned (.bool true) ∧ w = w' := by
  have P := Lib.hid (linkPlain_any l hl)
  generalize mkLink (cutN l 0 8) (cutN l 8 32) = z at *
  have e : ((z : Int) == (z : Int)) = true := by simp
  clear hl
  go_enter Tryz.func78, Tryz.ntmps78
  go_wp2_with (first
    | (go_at_call 87; refine (P.out _).mono ?_; rintro r w' ⟨rfl, rfl⟩))
  go_ret
  exact ⟨rfl, rfl⟩
theorem mkLink_eq (a g : Nat) : mkLink a g = 256 * (g % 4294967296) + a % 256 := by
  unfold mkLink setN cutN
  have h1 : a / 2 ^ 0 % 2 ^ 8 / 2 ^ (8 + 32) = 0 := Nat.div_eq_of_lt (by omega)
  rw [h1]
  omega
set_option maxHeartbeats 2000000 in
set_option maxRecDepth 20000 in
/-- Whether a slot's own link leads to it: whether it is held. -/
theorem leads_eq {σ w : World} {M : Mm} {p : Nat} {s : WardS} (h : Has σ M w) (hM : IsWard M p s) (l : Int) (t : Nat) (ht : s.there l t = true) (hsl : s.sl ≤ 60) (hg : 0 ≤ valE l t s.gens ∧ valE l t s.gens < 1000000000) : Calls Tryz.prog 61 #[.pointer (some ⟨p, 0, none⟩), .int .i64 l, .int .u64 (s.link l t)] w fun r w' => r = .returned (.bool (decide (0 < valE l t s.held))) ∧ Has σ M w' := by
  obtain ⟨a1, a2, a3, a4⟩ := WardS.there_iff.1 ht
  obtain ⟨k, hk⟩ : ∃ k : Nat, s.link l t = (k : Int) ∧ k < 18446744073709551616 ∧ cutN k 0 8 = t := by
    unfold WardS.link
    rw [if_pos ht, Int.toNat_natCast]
    refine ⟨_, rfl, ?_, ?_⟩
    · rw [mkLink_eq]; omega
    · rw [mkLink_eq]; unfold cutN; omega
  obtain ⟨hk, hk1, hk2⟩ := hk
  rw [hk]
  have SL := Lib.hid (linkSlot_any k hk1)
  rw [hk2] at SL
  have SA := Lib.hid (fun (M' : Mm) (w : World) (h : Has σ M' w) => (linkSame_self k hk1 w).mono (R' := fun r w' => r = .returned (.bool true) ∧ Has σ M' w') fun r w' hr => ⟨hr.1, hr.2 ▸ h⟩)
  have TH := Lib.hid (fun (M' : Mm) (w : World) (h : Has σ M' w) (hM : IsWard M' p s) => there_eq h hM l t)
  rw [ht] at TH
  have LK := Lib.hid (fun (M' : Mm) (w : World) (h : Has σ M' w) (hM : IsWard M' p s) => wardLink_eq h hM l t (by omega) hg)
  rw [hk] at LK
  have hp := hM.obj
  have hh := hM.held
  have e2 : s.cells[2]? = some (.map (some s.hb)) := rfl
  have HM := Lib.hid hM
  have dx : (#[.int .i64 l, .int .i64 (t : Nat)] : Array Value).extract 0 (0 + 2) = #[.int .i64 l, .int .i64 (t : Nat)] := rfl
  have d1 : (#[.int .i64 l, .int .i64 (t : Nat)] : Array Value)[1]? = some (.int .i64 (t : Nat)) := rfl
  obtain ⟨v, hv⟩ : ∃ v, valE l t s.held = v := ⟨_, rfl⟩
  have HV := Lib.hid hv
  rw [hv]
  unfold spotV at TH
  clear hM ht hsl hg hk1 hk2 hk a1 a2 a3 a4 hv
  cases hb : decide (0 < v)
  all_goals
    go_enter Tryz.func61, Tryz.ntmps61
    go_upto_region 2 with (first
      | ((go_at_call 49; refine (SL.out _).mono ?_; rintro r w' ⟨rfl, rfl⟩)))
    obtain ⟨M1, hbx, hle, hbq, hnx⟩ := h.box (.cells #[.int .i64 l, .int .i64 (t : Nat)] 114)
    generalize w.alloc _ = wx at hbx ⊢
    generalize w.heap.size = bx at hbq hnx ⊢
    clear h
    try clear w
    have h := hbx
    clear hbx
    obtain ⟨w, rfl⟩ : ∃ x : World, x = wx := ⟨_, rfl⟩
    replace hp := hle _ _ hp
    replace hh := hle _ _ hh
    have hM1 : IsWard M1 p s := HM.out.le hle
    have TH1 := Lib.hid (fun (w : World) (h : Has σ M1 w) => TH.out M1 w h hM1)
    have LK1 := Lib.hid (fun (w : World) (h : Has σ M1 w) => LK.out M1 w h hM1)
    clear TH LK hM1
    refine wp_region_class (Has σ M1) (by kernel_rfl) (by kernel_rfl) h.drew ?_
    clear h
    repeat (first
      | go_big_quiet_skip
      | (go_big_quiet_want; first
        | (refine quiet_agg_has 114 _ rfl rfl hbq dx rfl Tryz.underlying114 rfl (by kernel_rfl) ?_; simp only [Act.put, List.setIfInBounds_toArray, List.set_cons_zero, List.set_cons_succ]; go_big_quiet_on)
        | (refine quiet_load_has 3 _ rfl rfl hbq d1 Tryz.underlying3 rfl ?_; simp only [Act.put, List.setIfInBounds_toArray, List.set_cons_zero, List.set_cons_succ]; go_big_quiet_on)
        | (refine quiet_load_has 106 _ rfl rfl hp e2 Tryz.underlying106 rfl ?_; simp only [Act.put, List.setIfInBounds_toArray, List.set_cons_zero, List.set_cons_succ]; go_big_quiet_on)
        | ((refine quiet_lookup_spot (l := l) (s := t) _ _ rfl rfl rfl hh ?_; rw [HV.out]); simp only [Act.put, List.setIfInBounds_toArray, List.set_cons_zero, List.set_cons_succ]; go_big_quiet_on)
        | (go_big_quiet_op; first | go_big_quiet_on | go_big_quiet_call (first | with_reducible exact fun _ => rfl | with_reducible exact TH1.out _ | with_reducible exact LK1.out _ | with_reducible exact SA.out M1 _))))
    refine wpQuiet_nil ?_
    try clear w
    intro w h
    go_wp2
    go_ret
    exact ⟨rfl, h.le hle⟩
end Go.Proofs.YtlpkimpdeeiaaaaGreat
