/- A struct, a slice of one struct, made within a region that draws. -/
import Derived.Test.YtjeeldacnllipaaGreatMgA
import Derived.Test.YtjeeldacnllipaaGreatLinksB
import Derived.Test.YtjeeldacnllipaaGreatMgC
import Derived.Test.YtjeeldacnllipaaGreatMgB
import Derived.Test.YtjeeldacnllipaaGreatMachE
import Derived.Test.YtjeeldacnllipaaGreatPlanA
import Derived.Great.BuildSlice
namespace Go.Proofs.YtjeeldacnllipaaGreat
set_option linter.unusedVariables false
set_option linter.unusedSimpArgs false
set_option linter.unnecessarySimpa false
section
open Go.RowKit
theorem linkSlot_any (l : Nat) (hl : l < 18446744073709551616) (w : World) : Calls Tryz.prog 35 #[.int .u64 l] w fun r w' => r = .returned (.int .i64 (cutN l 0 8 : Nat)) ∧ w = w' := by
 have C := Lib.hid (fieldCut_any l 0 8 (by omega) (by omega) (by omega))
 have hx : cutN l 0 8 < 256 := cutN_lt l 0 8
 have u0 : IntKind.u64.wrap (l : Int) = (l : Int) := IntWalk.u64_in _ (by omega)
 have u1 : IntKind.i64.wrap ((cutN l 0 8 : Nat) : Int) = ((cutN l 0 8 : Nat) : Int) := IntWalk.i64_in _ (by omega)
 generalize cutN l 0 8 = x at *
 clear hl hx
 go_enter Tryz.func35, Tryz.ntmps35
 go_wp2_with (first
  | (go_at_call 66; refine (C.out _).mono ?_; rintro r w' ⟨rfl, rfl⟩))
 go_ret
 exact ⟨rfl, rfl⟩
theorem linkGen_any (l : Nat) (hl : l < 18446744073709551616) (w : World) : Calls Tryz.prog 19 #[.int .u64 l] w fun r w' => r = .returned (.int .i64 (cutN l 8 32 : Nat)) ∧ w = w' := by
 have C := Lib.hid (fieldCut_any l 8 32 (by omega) (by omega) (by omega))
 have hx : cutN l 8 32 < 4294967296 := cutN_lt l 8 32
 have u0 : IntKind.u64.wrap (l : Int) = (l : Int) := IntWalk.u64_in _ (by omega)
 have u1 : IntKind.i64.wrap ((cutN l 8 32 : Nat) : Int) = ((cutN l 8 32 : Nat) : Int) := IntWalk.i64_in _ (by omega)
 generalize cutN l 8 32 = x at *
 clear hl hx
 go_enter Tryz.func19, Tryz.ntmps19
 go_wp2_with (first
  | (go_at_call 66; refine (C.out _).mono ?_; rintro r w' ⟨rfl, rfl⟩))
 go_ret
 exact ⟨rfl, rfl⟩
theorem linkPlain_any (l : Nat) (hl : l < 18446744073709551616) (w : World) : Calls Tryz.prog 113 #[.int .u64 l] w fun r w' => r = .returned (.int .u64 (mkLink (cutN l 0 8) (cutN l 8 32) : Nat)) ∧ w = w' := by
 have C1 := Lib.hid (linkSlot_any l hl)
 have C2 := Lib.hid (linkGen_any l hl)
 have hx : cutN l 0 8 < 256 := cutN_lt l 0 8
 have hy : cutN l 8 32 < 4294967296 := cutN_lt l 8 32
 have C3 := Lib.hid (linkMake_any (cutN l 0 8) (cutN l 8 32) (by omega) (by omega))
 generalize mkLink (cutN l 0 8) (cutN l 8 32) = z at *
 generalize cutN l 0 8 = x at *
 generalize cutN l 8 32 = y at *
 clear hl hx hy
 go_enter Tryz.func113, Tryz.ntmps113
 go_wp2_with (first
  | (go_at_call 35; refine (C1.out _).mono ?_; rintro r w' ⟨rfl, rfl⟩)
  | (go_at_call 19; refine (C2.out _).mono ?_; rintro r w' ⟨rfl, rfl⟩)
  | (go_at_call 65; refine (C3.out _).mono ?_; rintro r w' ⟨rfl, rfl⟩))
 go_ret
 exact ⟨rfl, rfl⟩
theorem linkSame_self (l : Nat) (hl : l < 18446744073709551616) (w : World) : Calls Tryz.prog 80 #[.int .u64 l, .int .u64 l] w fun r w' => r = .returned (.bool true) ∧ w = w' := by
 have P := Lib.hid (linkPlain_any l hl)
 generalize mkLink (cutN l 0 8) (cutN l 8 32) = z at *
 have e : ((z : Int) == (z : Int)) = true := by simp
 clear hl
 go_enter Tryz.func80, Tryz.ntmps80
 go_wp2_with (first
  | (go_at_call 113; refine (P.out _).mono ?_; rintro r w' ⟨rfl, rfl⟩))
 go_ret
 exact ⟨rfl, rfl⟩
theorem mkLink_eq (a g : Nat) : mkLink a g = 256 * (g % 4294967296) + a % 256 := by
 unfold mkLink setN cutN
 have h1 : a / 2 ^ 0 % 2 ^ 8 / 2 ^ (8 + 32) = 0 := Nat.div_eq_of_lt (by omega)
 rw [h1]
 omega
set_option maxHeartbeats 2000000 in
set_option maxRecDepth 20000 in
/-- Whether a slot's own link leads to it: whether it is held. -/
theorem leads_eq {σ w : World} {M : Mm} {p : Nat} {s : WardS} (h : Has σ M w) (hM : IsWard M p s) (l : Int) (t : Nat) (ht : s.there l t = true) (hsl : s.sl ≤ 60) (hg : 0 ≤ valE l t s.gens ∧ valE l t s.gens < 1000000000) : Calls Tryz.prog 36 #[.pointer (some ⟨p, 0, none⟩), .int .i64 l, .int .u64 (s.link l t)] w fun r w' => r = .returned (.bool (decide (0 < valE l t s.held))) ∧ Has σ M w' := by
 obtain ⟨a1, a2, a3, a4⟩ := WardS.there_iff.1 ht
 obtain ⟨k, hk⟩ : ∃ k : Nat, s.link l t = (k : Int) ∧ k < 18446744073709551616 ∧ cutN k 0 8 = t := by
  unfold WardS.link
  rw [if_pos ht, Int.toNat_natCast]
  refine ⟨_, rfl, ?_, ?_⟩
  ·rw [mkLink_eq]; omega
  ·rw [mkLink_eq]; unfold cutN; omega
 obtain ⟨hk, hk1, hk2⟩ := hk
 rw [hk]
 have SL := Lib.hid (linkSlot_any k hk1)
 rw [hk2] at SL
 have SA := Lib.hid (fun (M' : Mm) (w : World) (h : Has σ M' w) => (linkSame_self k hk1 w).mono (R' := fun r w' => r = .returned (.bool true) ∧ Has σ M' w') fun r w' hr => ⟨hr.1, hr.2 ▸ h⟩)
 have TH := Lib.hid (fun (M' : Mm) (w : World) (h : Has σ M' w) (hM : IsWard M' p s) => there_eq h hM l t)
 rw [ht] at TH
 have LK := Lib.hid (fun (M' : Mm) (w : World) (h : Has σ M' w) (hM : IsWard M' p s) => wardLink_eq h hM l t (by omega) hg)
 rw [hk] at LK
 have hp := hM.obj
 have hh := hM.held
 have e2 : s.cells[2]? = some (.map (some s.hb)) := rfl
 have HM := Lib.hid hM
 have dx : (#[.int .i64 l, .int .i64 (t : Nat)] : Array Value).extract 0 (0 + 2) = #[.int .i64 l, .int .i64 (t : Nat)] := rfl
 have d1 : (#[.int .i64 l, .int .i64 (t : Nat)] : Array Value)[1]? = some (.int .i64 (t : Nat)) := rfl
 obtain ⟨v, hv⟩ : ∃ v, valE l t s.held = v := ⟨_, rfl⟩
 have HV := Lib.hid hv
 rw [hv]
 unfold spotV at TH
 clear hM ht hsl hg hk1 hk2 hk a1 a2 a3 a4 hv
 cases hb : decide (0 < v)
 all_goals
  go_enter Tryz.func36, Tryz.ntmps36
  go_upto_region 2 with (first
   | ((go_at_call 35; refine (SL.out _).mono ?_; rintro r w' ⟨rfl, rfl⟩)))
  obtain ⟨M1, hbx, hle, hbq, hnx⟩ := h.box (.cells #[.int .i64 l, .int .i64 (t : Nat)] 126)
  generalize w.alloc _ = wx at hbx ⊢
  generalize w.heap.size = bx at hbq hnx ⊢
  clear h
  try clear w
  have h := hbx
  clear hbx
  obtain ⟨w, rfl⟩ : ∃ x : World, x = wx := ⟨_, rfl⟩
  replace hp := hle _ _ hp
  replace hh := hle _ _ hh
  have hM1 : IsWard M1 p s := HM.out.le hle
  have TH1 := Lib.hid (fun (w : World) (h : Has σ M1 w) => TH.out M1 w h hM1)
  have LK1 := Lib.hid (fun (w : World) (h : Has σ M1 w) => LK.out M1 w h hM1)
  clear TH LK hM1
  refine wp_region_class (Has σ M1) (by kernel_rfl) (by kernel_rfl) h.drew ?_
  clear h
  repeat (first
   | go_big_quiet_skip
   | (go_big_quiet_want; first
    | (refine quiet_agg_has 126 _ rfl rfl hbq dx rfl Tryz.underlying126 rfl (by kernel_rfl) ?_; simp only [Act.put, List.setIfInBounds_toArray, List.set_cons_zero, List.set_cons_succ]; go_big_quiet_on)
    | (refine quiet_load_has 3 _ rfl rfl hbq d1 Tryz.underlying3 rfl ?_; simp only [Act.put, List.setIfInBounds_toArray, List.set_cons_zero, List.set_cons_succ]; go_big_quiet_on)
    | (refine quiet_load_has 128 _ rfl rfl hp e2 Tryz.underlying128 rfl ?_; simp only [Act.put, List.setIfInBounds_toArray, List.set_cons_zero, List.set_cons_succ]; go_big_quiet_on)
    | ((refine quiet_lookup_spot (l := l) (s := t) _ _ rfl rfl rfl hh ?_; rw [HV.out]); simp only [Act.put, List.setIfInBounds_toArray, List.set_cons_zero, List.set_cons_succ]; go_big_quiet_on)
    | (go_big_quiet_op; first | go_big_quiet_on | go_big_quiet_call (first | with_reducible exact fun _ => rfl | with_reducible exact TH1.out _ | with_reducible exact LK1.out _ | with_reducible exact SA.out M1 _))))
  refine wpQuiet_nil ?_
  try clear w
  intro w h
  go_wp2
  go_ret
  exact ⟨rfl, h.le hle⟩
end
section
theorem natv_len (l : List Nat) : (natv l).length = l.length := by simp [natv]
end
section
open Go.RowKit
set_option maxRecDepth 20000 in
theorem refClean_eq {σ w : World} {M : Mm} (h : Has σ M w) (c : Nat → Int) {L B S N bw : Nat} {f : Nat → Int} (hn : Nums c L B S) (hb : M bw = some (.cells (ints .u64 N f) 42)) (hN : N = L * (18 + B + 6 * S)) (k : Nat) (hk : k < L) (i : Nat) (h1 : 1 ≤ i) (h2 : i ≤ S) {hd : Nat} (e0 : f (k * (18 + B + 6 * S) + (18 + B + S + (i - 1) * 5)) = (hd : Int)) (hd4 : hd % 4 = 0) (hd64 : hd < 18446744073709551616) (e : ∀ j, 1 ≤ j → j < 5 → f (k * (18 + B + 6 * S) + (18 + B + S + (i - 1) * 5 + j)) = 0) :
  Calls Tryz.prog 74 #[confV c, .slice (some ⟨bw, 0, none⟩) N N, .int .i64 (k : Nat), .int .i64 (i : Nat)] w fun r w' => r = .returned (.bool true) ∧ Has σ M w' := by
 have hx : (ints .i64 14 c).extract 0 (0 + 14) = ints .i64 14 c := rfl
 have hz : (ints .i64 14 c).size = 14 := rfl
 have W0 := Lib.hid (fun (M' : Mm) (w : World) (h : Has σ M' w) => refWord_eq h c hn k hk i 0 h1 h2 (by omega))
 have hb0 := hn.b0
 have hs0 := hn.s0
 have hl0 := hn.l0
 have hm : k * (18 + B + 6 * S) + (18 + B + 6 * S) ≤ L * (18 + B + 6 * S) := by
  have := Nat.mul_le_mul_right (18 + B + 6 * S) (show k + 1 ≤ L by omega)
  rw [Nat.succ_mul] at this
  exact this
 have hm2 : L * (18 + B + 6 * S) ≤ 4 * (18 + 40 + 6 * 60) := Nat.mul_le_mul (by omega) (by omega)
 rw [← hN] at hm hm2
 obtain ⟨a, ha⟩ : ∃ a : Nat, k * (18 + B + 6 * S) + (18 + B + S + (i - 1) * 5 + 0) = a := ⟨_, rfl⟩
 rw [ha] at W0
 have f0 : (ints .u64 N f)[a]? = some (.int .u64 (hd : Int)) := word_at (by omega) (by rw [← ha]; exact e0)
 have f1 : (ints .u64 N f)[a + 1]? = some (.int .u64 0) := word_at (by omega) (by rw [← ha]; exact e 1 (by omega) (by omega))
 have f2 : (ints .u64 N f)[a + 2]? = some (.int .u64 0) := word_at (by omega) (by rw [← ha]; exact e 2 (by omega) (by omega))
 have f3 : (ints .u64 N f)[a + 3]? = some (.int .u64 0) := word_at (by omega) (by rw [← ha]; exact e 3 (by omega) (by omega))
 have f4 : (ints .u64 N f)[a + 4]? = some (.int .u64 0) := word_at (by omega) (by rw [← ha]; exact e 4 (by omega) (by omega))
 have g0 : decide (0 ≤ (a : Int)) = true := decide_eq_true (by omega)
 have g1 : decide ((a : Int) + 5 ≤ (N : Int)) = true := decide_eq_true (by omega)
 have w1 : IntKind.i64.wrap ((a : Int) + 1) = ((a + 1 : Nat) : Int) := by rw [show (a : Int) + 1 = ((a + 1 : Nat) : Int) by omega]; exact IntWalk.i64_in _ (by omega)
 have w2 : IntKind.i64.wrap ((a : Int) + 2) = ((a + 2 : Nat) : Int) := by rw [show (a : Int) + 2 = ((a + 2 : Nat) : Int) by omega]; exact IntWalk.i64_in _ (by omega)
 have w3 : IntKind.i64.wrap ((a : Int) + 3) = ((a + 3 : Nat) : Int) := by rw [show (a : Int) + 3 = ((a + 3 : Nat) : Int) by omega]; exact IntWalk.i64_in _ (by omega)
 have w4 : IntKind.i64.wrap ((a : Int) + 4) = ((a + 4 : Nat) : Int) := by rw [show (a : Int) + 4 = ((a + 4 : Nat) : Int) by omega]; exact IntWalk.i64_in _ (by omega)
 have w5 : IntKind.i64.wrap ((a : Int) + 5) = (a : Int) + 5 := IntWalk.i64_in _ (by omega)
 have m0 : IntKind.u64.wrap ((hd : Int).tmod 4) = 0 := by rw [Int.tmod_eq_emod_of_nonneg (by omega), show (hd : Int) % 4 = 0 by omega]; rfl
 have m1 : (hd : Int).tmod 4 = 0 := by rw [Int.tmod_eq_emod_of_nonneg (by omega)]; omega
 have l0 : a < N := by omega
 have l1 : a + 1 < N := by omega
 have l2 : a + 2 < N := by omega
 have l3 : a + 3 < N := by omega
 have l4 : a + 4 < N := by omega
 clear hb0 hs0 hl0 hm hm2 ha hn hk hN e0 e hd4 h1 h2
 unfold confV at W0 ⊢
 generalize ints .i64 14 c = row at W0 hx hz ⊢
 generalize ints .u64 N f = wrow at *
 generalize a + 1 = a1 at *
 generalize a + 2 = a2 at *
 generalize a + 3 = a3 at *
 generalize a + 4 = a4 at *
 go_enter Tryz.func74, Tryz.ntmps74
 go_upto_region 1 with (fail)
 obtain ⟨M1, hbx, hle, hbf, hnf⟩ := h.box (.cells row 24)
 generalize w.alloc _ = wx at hbx ⊢
 generalize w.heap.size = bf at hbf hnf ⊢
 clear h
 try clear w
 have h := hbx
 clear hbx
 obtain ⟨w, rfl⟩ : ∃ x : World, x = wx := ⟨_, rfl⟩
 replace hb := hle _ _ hb
 go_wp2_with (first
  | ((with_reducible show wpList _ _ _ ({ dst := _, op := Op.load 24 _, type := _, pos := _, after := _, guard := _ } :: _) _ _); refine wpList_agg_has h rfl 24 _ rfl rfl hbf hx hz Tryz.underlying24 rfl (by kernel_rfl) ?_; try simp only [Act.put, List.setIfInBounds_toArray, List.set_cons_zero, List.set_cons_succ])
  | (go_at_call 110; refine (W0.out _ _ h).mono ?_; clear h; rintro _ w ⟨rfl, h⟩)
  | (with_reducible show wpList _ _ _ ({ dst := _, op := Op.load 42 _, type := _, pos := _, after := _, guard := _ } :: _) _ _; refine wpList_load1_has h rfl 42 _ rfl rfl hb f0 Tryz.underlying42 rfl ?_)
  | (with_reducible show wpList _ _ _ ({ dst := _, op := Op.load 42 _, type := _, pos := _, after := _, guard := _ } :: _) _ _; refine wpList_load1_has h rfl 42 _ rfl rfl hb f1 Tryz.underlying42 rfl ?_)
  | (with_reducible show wpList _ _ _ ({ dst := _, op := Op.load 42 _, type := _, pos := _, after := _, guard := _ } :: _) _ _; refine wpList_load1_has h rfl 42 _ rfl rfl hb f2 Tryz.underlying42 rfl ?_)
  | (with_reducible show wpList _ _ _ ({ dst := _, op := Op.load 42 _, type := _, pos := _, after := _, guard := _ } :: _) _ _; refine wpList_load1_has h rfl 42 _ rfl rfl hb f3 Tryz.underlying42 rfl ?_)
  | (with_reducible show wpList _ _ _ ({ dst := _, op := Op.load 42 _, type := _, pos := _, after := _, guard := _ } :: _) _ _; refine wpList_load1_has h rfl 42 _ rfl rfl hb f4 Tryz.underlying42 rfl ?_))
 go_ret
 exact ⟨rfl, h.le hle⟩
set_option maxRecDepth 20000 in
theorem refWorn_eq {σ w : World} {M : Mm} (h : Has σ M w) (c : Nat → Int) {L B S N bw : Nat} {f : Nat → Int} (hn : Nums c L B S) (hb : M bw = some (.cells (ints .u64 N f) 42)) (hN : N = L * (18 + B + 6 * S)) (k : Nat) (hk : k < L) (i : Nat) (h1 : 1 ≤ i) (h2 : i ≤ S) {hd gens : Nat} (e0 : f (k * (18 + B + 6 * S) + (18 + B + S + (i - 1) * 5)) = (hd : Int)) (hd64 : hd < 18446744073709551616) (hg : c 12 = (gens : Int)) (hg2 : gens < 10000000) :
  Calls Tryz.prog 75 #[confV c, .slice (some ⟨bw, 0, none⟩) N N, .int .i64 (k : Nat), .int .i64 (i : Nat)] w fun r w' => r = .returned (.bool (decide (gens ≤ hd / 4))) ∧ Has σ M w' := by
 have hx : (ints .i64 14 c).extract 0 (0 + 14) = ints .i64 14 c := rfl
 have hz : (ints .i64 14 c).size = 14 := rfl
 have W0 := Lib.hid (fun (M' : Mm) (w : World) (h : Has σ M' w) => refWord_eq h c hn k hk i 0 h1 h2 (by omega))
 have hb0 := hn.b0
 have hs0 := hn.s0
 have hl0 := hn.l0
 have hm : k * (18 + B + 6 * S) + (18 + B + 6 * S) ≤ L * (18 + B + 6 * S) := by
  have := Nat.mul_le_mul_right (18 + B + 6 * S) (show k + 1 ≤ L by omega)
  rw [Nat.succ_mul] at this
  exact this
 have hm2 : L * (18 + B + 6 * S) ≤ 4 * (18 + 40 + 6 * 60) := Nat.mul_le_mul (by omega) (by omega)
 rw [← hN] at hm hm2
 obtain ⟨a, ha⟩ : ∃ a : Nat, k * (18 + B + 6 * S) + (18 + B + S + (i - 1) * 5 + 0) = a := ⟨_, rfl⟩
 rw [ha] at W0
 have f0 : (ints .u64 N f)[a]? = some (.int .u64 (hd : Int)) := word_at (by omega) (by rw [← ha]; exact e0)
 have r12 : (ints .i64 14 c)[12]? = some (.int .i64 (gens : Nat)) := by rw [← hg]; rfl
 have g0 : decide (0 ≤ (a : Int)) = true := decide_eq_true (by omega)
 have g1 : decide ((a : Int) < (N : Int)) = true := decide_eq_true (by omega)
 have m1 : (hd : Int).tdiv 4 = ((hd / 4 : Nat) : Int) := by rw [Int.tdiv_eq_ediv_of_nonneg (by omega)]; omega
 have w1 : IntKind.u64.wrap ((hd / 4 : Nat) : Int) = ((hd / 4 : Nat) : Int) := IntWalk.u64_in _ (by omega)
 have w2 : IntKind.u64.wrap ((gens : Nat) : Int) = ((gens : Nat) : Int) := IntWalk.u64_in _ (by omega)
 have l0 : a < N := by omega
 clear hb0 hs0 hl0 hm hm2 ha hn hk hN e0 h1 h2 hg hg2 hd64
 unfold confV at W0 ⊢
 generalize ints .i64 14 c = row at W0 hx hz r12 ⊢
 generalize ints .u64 N f = wrow at *
 generalize hd / 4 = hd4 at *
 go_enter Tryz.func75, Tryz.ntmps75
 go_upto_region 1 with (fail)
 obtain ⟨M1, hbx, hle, hbf, hnf⟩ := h.box (.cells row 24)
 generalize w.alloc _ = wx at hbx ⊢
 generalize w.heap.size = bf at hbf hnf ⊢
 clear h
 try clear w
 have h := hbx
 clear hbx
 obtain ⟨w, rfl⟩ : ∃ x : World, x = wx := ⟨_, rfl⟩
 replace hb := hle _ _ hb
 go_upto_region 2 with (first
  | ((with_reducible show wpList _ _ _ ({ dst := _, op := Op.load 24 _, type := _, pos := _, after := _, guard := _ } :: _) _ _); refine wpList_agg_has h rfl 24 _ rfl rfl hbf hx hz Tryz.underlying24 rfl (by kernel_rfl) ?_; try simp only [Act.put, List.setIfInBounds_toArray, List.set_cons_zero, List.set_cons_succ])
  | (go_at_call 110; refine (W0.out _ _ h).mono ?_; clear h; rintro _ w ⟨rfl, h⟩))
 refine wp_region_class (Has σ M1) (by kernel_rfl) (by kernel_rfl) h.drew ?_
 clear h
 repeat (first
  | go_big_quiet_skip
  | (go_big_quiet_want; first
   | (refine quiet_load_has 42 _ rfl rfl hb f0 Tryz.underlying42 rfl ?_; simp only [Act.put, List.setIfInBounds_toArray, List.set_cons_zero, List.set_cons_succ]; go_big_quiet_on)
   | (refine quiet_load_has 3 _ rfl rfl hbf r12 Tryz.underlying3 rfl ?_; simp only [Act.put, List.setIfInBounds_toArray, List.set_cons_zero, List.set_cons_succ]; go_big_quiet_on)
   | (go_big_quiet_op; first | go_big_quiet_on | go_big_quiet_call (first | with_reducible exact fun _ => rfl))))
 refine wpQuiet_nil ?_
 try clear w
 intro w h
 go_wp2
 go_ret
 exact ⟨rfl, h.le hle⟩
/-- The length of a slice. -/
def lenV : Value → Nat
 | .slice _ n _ => n
 | _ => 0
theorem chain_get {lk : Nat → Nat} : ∀ (Q : List Nat) (s : Nat), chainP lk s Q → s = Q.getD 0 0 ∧ ∀ k, k < Q.length → 1 ≤ Q.getD k 0 ∧ lk (Q.getD k 0) = Q.getD (k + 1) 0
 | [], s, h => ⟨h, fun k hk => absurd hk (Nat.not_lt_zero _)⟩
 | x :: r, s, h => by
  obtain ⟨h1, h2, h3⟩ := h
  obtain ⟨h4, h5⟩ := chain_get r _ h3
  refine ⟨h1, fun k hk => ?_⟩
  cases k with
  | zero => exact ⟨h2, by simpa using h4⟩
  | succ k => simpa using h5 k (by simpa using hk)
set_option maxHeartbeats 1000000 in
set_option maxRecDepth 20000 in
/-- A level's free list, as the document reads it. -/
theorem refChain_eq {σ w : World} {M : Mm} (h : Has σ M w) (c : Nat → Int) {L B S N bw : Nat} {f : Nat → Int} (hn : Nums c L B S) (hb : M bw = some (.cells (ints .u64 N f) 42)) (hN : N = L * (18 + B + 6 * S)) (l : Nat) (hl : l < L) {top : Nat} {lk : Nat → Nat} (e0 : f (l * (18 + B + 6 * S)) = (top : Int)) (e8 : ∀ i, 1 ≤ i → i ≤ S → f (l * (18 + B + 6 * S) + (18 + B + (i - 1))) = (lk i : Int)) (hlk : ∀ i, 1 ≤ i → i ≤ S → lk i ≤ S) {Q : List Nat} (hQ : chainP lk (top % 256) Q) (hQS : ∀ x ∈ Q, x ≤ S) (hQl : Q.length ≤ S) :
  Calls Tryz.prog 73 #[confV c, .slice (some ⟨bw, 0, none⟩) N N, .int .i64 (l : Nat)] w fun r w' => ∃ v, r = .returned (.tuple #[v, .bool true]) ∧ Acc σ M w' 3 1 v Q.length (natv Q) := by
 have hx : (ints .i64 14 c).extract 0 (0 + 14) = ints .i64 14 c := rfl
 have hz : (ints .i64 14 c).size = 14 := rfl
 have r0 : (ints .i64 14 c)[0]? = some (.int .i64 (L : Nat)) := by rw [← hn.lev]; rfl
 have r10 : (ints .i64 14 c)[10]? = some (.int .i64 (S : Nat)) := by rw [← hn.slo]; rfl
 have r11 : (ints .i64 14 c)[11]? = some (.int .i64 (B : Nat)) := by rw [← hn.lim]; rfl
 have hb0 := hn.b0
 have hs0 := hn.s0
 have hl0 := hn.l0
 have FL := Lib.hid (fun (M' : Mm) (w : World) (h : Has σ M' w) => refFirst_eq h c hn L (by omega))
 have Fl := Lib.hid (fun (M' : Mm) (w : World) (h : Has σ M' w) => refFirst_eq h c hn l (by omega))
 have hm : l * (18 + B + 6 * S) + (18 + B + 6 * S) ≤ L * (18 + B + 6 * S) := by
  have := Nat.mul_le_mul_right (18 + B + 6 * S) (show l + 1 ≤ L by omega)
  rw [Nat.succ_mul] at this
  exact this
 have hm2 : L * (18 + B + 6 * S) ≤ 4 * (18 + 40 + 6 * 60) := Nat.mul_le_mul (by omega) (by omega)
 rw [← hN] at hm hm2 FL
 generalize hfr : l * (18 + B + 6 * S) = fr at *
 have f0 : (ints .u64 N f)[fr]? = some (.int .u64 (top : Int)) := word_at (by omega) e0
 have f8 : Hid (∀ i, 1 ≤ i → i ≤ S → (ints .u64 N f)[fr + (18 + B + (i - 1))]? = some (.int .u64 (lk i : Int)) ∧ fr + (18 + B + (i - 1)) < N) := Lib.hid fun i a b => ⟨word_at (by omega) (e8 i a b), by omega⟩
 obtain ⟨q0, qk⟩ := chain_get Q _ hQ
 have QK := Lib.hid qk
 have hq60 : ∀ k, Q.getD k 0 ≤ S := fun k => by
  by_cases hk : k < Q.length
  ·rw [List.getD_eq_getElem?_getD, List.getElem?_eq_getElem hk]; exact hQS _ (List.getElem_mem hk)
  ·rw [List.getD_eq_getElem?_getD, List.getElem?_eq_none (by omega)]; exact Nat.zero_le _
 have Q60 := Lib.hid hq60
 have HLK := Lib.hid hlk
 have g0 : decide ((l : Int) < 0) = false := decide_eq_false (by omega)
 have g1 : decide ((L : Int) ≤ (l : Int)) = false := decide_eq_false (by omega)
 have g2 : ((N : Int) != (N : Int)) = false := by simp
 have g3 : ¬ L ≤ l := by omega
 have m1 : (top : Int).tmod 256 = ((top % 256 : Nat) : Int) := by rw [Int.tmod_eq_emod_of_nonneg (by omega)]; omega
 have w1 : IntKind.u64.wrap ((top % 256 : Nat) : Int) = ((top % 256 : Nat) : Int) := IntWalk.u64_in _ (by omega)
 have w2 : IntKind.i64.wrap ((top % 256 : Nat) : Int) = ((top % 256 : Nat) : Int) := IntWalk.i64_in _ (by omega)
 have l0 : fr < N := by omega
 have lfr : fr < 2000 := by omega
 have Q0 := Lib.hid q0
 clear e0 e8 hlk hQ hQS hm hm2 hn hN qk hq60 hl hl0 hfr q0
 unfold confV at FL Fl ⊢
 generalize ints .i64 14 c = row at *
 generalize ints .u64 N f = wrow at *
 generalize top % 256 = t0 at *
 go_enter Tryz.func73, Tryz.ntmps73
 go_upto_region 1 with (fail)
 obtain ⟨M1, hbx, hle, hbf, hnf⟩ := h.box (.cells row 24)
 generalize w.alloc _ = wx at hbx ⊢
 generalize w.heap.size = bf at hbf hnf ⊢
 clear h
 try clear w
 have h := hbx
 clear hbx
 obtain ⟨w, rfl⟩ : ∃ x : World, x = wx := ⟨_, rfl⟩
 replace hb := hle _ _ hb
 go_upto_region 4 with (first
  | (with_reducible show wpList _ _ _ ({ dst := _, op := Op.load 3 _, type := _, pos := _, after := _, guard := _ } :: _) _ _; refine wpList_load1_has h rfl 3 _ rfl rfl hbf r0 Tryz.underlying3 rfl ?_)
  | ((with_reducible show wpList _ _ _ ({ dst := _, op := Op.load 24 _, type := _, pos := _, after := _, guard := _ } :: _) _ _); refine wpList_agg_has h rfl 24 _ rfl rfl hbf hx hz Tryz.underlying24 rfl (by kernel_rfl) ?_; try simp only [Act.put, List.setIfInBounds_toArray, List.set_cons_zero, List.set_cons_succ])
  | (go_at_call 109; refine (FL.out _ _ h).mono ?_; clear h; rintro _ w ⟨rfl, h⟩))
 clear FL g0 g1 g2 g3 r0
 go_upto_region 6 with (first
  | ((with_reducible show wpList _ _ _ ({ dst := _, op := Op.load 24 _, type := _, pos := _, after := _, guard := _ } :: _) _ _); refine wpList_agg_has h rfl 24 _ rfl rfl hbf hx hz Tryz.underlying24 rfl (by kernel_rfl) ?_; try simp only [Act.put, List.setIfInBounds_toArray, List.set_cons_zero, List.set_cons_succ])
  | (go_at_call 109; refine (Fl.out _ _ h).mono ?_; clear h; rintro _ w ⟨rfl, h⟩)
  | (with_reducible show wpList _ _ _ ({ dst := _, op := Op.load 42 _, type := _, pos := _, after := _, guard := _ } :: _) _ _; refine wpList_load1_has h rfl 42 _ rfl rfl hb f0 Tryz.underlying42 rfl ?_))
 clear Fl hx hz f0 m1 w1 w2 l0
 go_loopw [8, 10, 11] (fun v x _ wr => ∃ k : Nat, k ≤ Q.length ∧ x = .int .i64 (Q.getD k 0 : Nat) ∧ Acc σ M1 wr 3 1 v k (natv (Q.take k))) (fun v _ _ _ => Q.length - lenV v)
 case atStart => exact ⟨0, Nat.zero_le _, by rw [Q0.out], Acc.nil h _ _⟩
 case round =>
  clear h w
  obtain ⟨w, rfl⟩ : ∃ x : World, x = wr := ⟨_, rfl⟩
  obtain ⟨k, hk, rfl, M', h, hle2, hown⟩ := hrel
  obtain ⟨A, cap, rfl⟩ := hown.form
  by_cases hlt : k < Q.length
  ·have hq := QK.out k hlt
   have hqS := Q60.out k
   obtain ⟨e8, l8⟩ := f8.out (Q.getD k 0) hq.1 hqS
   rw [hq.2] at e8
   have hn60 := Q60.out (k + 1)
   have T : Hid (natv (Q.take (k + 1)) = natv (Q.take k) ++ [.int .i64 (Q.getD k 0 : Nat)]) := by
    show _ = _
    rw [List.take_succ_eq_append_getElem hlt, List.getD_eq_getElem?_getD, List.getElem?_eq_getElem hlt]
    unfold natv
    rw [List.map_append]
    rfl
   have hq1 := hq.1
   generalize Q.getD k 0 = x at *
   generalize hxn : Q.getD (k + 1) 0 = xn at *
   have HX := Lib.hid hxn
   have c1 : ((x : Int) != 0) = true := by simp; omega
   have c2 : ¬ S < x := by omega
   have c3 : ¬ S < k := by omega
   have c4 : decide ((255 : Int) < (xn : Int)) = false := decide_eq_false (by omega)
   have w3 : IntKind.i64.wrap ((fr : Int) + 18) = (fr : Int) + 18 := IntWalk.i64_in _ (by omega)
   have w4 : IntKind.i64.wrap ((fr : Int) + 18 + (B : Int)) = (fr : Int) + 18 + (B : Int) := IntWalk.i64_in _ (by omega)
   have w5 : IntKind.i64.wrap ((fr : Int) + 18 + (B : Int) + (x : Int)) = (fr : Int) + 18 + (B : Int) + (x : Int) := IntWalk.i64_in _ (by omega)
   have w6 : IntKind.i64.wrap ((fr : Int) + 18 + (B : Int) + (x : Int) - 1) = ((fr + (18 + B + (x - 1)) : Nat) : Int) := by rw [show (fr : Int) + 18 + (B : Int) + (x : Int) - 1 = ((fr + (18 + B + (x - 1)) : Nat) : Int) by omega]; exact IntWalk.i64_in _ (by omega)
   have w7 : IntKind.i64.wrap ((xn : Nat) : Int) = ((xn : Nat) : Int) := IntWalk.i64_in _ (by omega)
   have hb2 := hle2 _ _ hb
   have hbf2 := hle2 _ _ hbf
   have HK := Lib.hid (show k + 1 ≤ Q.length by omega)
   have k60 : k < 60 := by omega
   clear hq hqS hn60 hq1 hlt hk hxn
   generalize fr + (18 + B + (x - 1)) = ax at *
   go_upto_region 9 with (first
    | (with_reducible show wpList _ _ _ ({ dst := _, op := Op.load 3 _, type := _, pos := _, after := _, guard := _ } :: _) _ _; refine wpList_load1_has h rfl 3 _ rfl rfl hbf2 r10 Tryz.underlying3 rfl ?_))
   go_upto_region 10 with (first
    | (at_builtin; refine wpList_append_lit h hle2 rfl _ _ _ rfl rfl Tryz.underlying47 info_int rfl (by omega) rfl hown rfl rfl rfl (by omega) (by omega) ?_; clear h hle2 hown; intro v w hacc))
   obtain ⟨M7, h, hle7, hown⟩ := hacc
   obtain ⟨A7, cap7, rfl⟩ := hown.form
   have hb7 := hle7 _ _ hb
   have hbf7 := hle7 _ _ hbf
   go_wp2_with (first
    | (with_reducible show wpList _ _ _ ({ dst := _, op := Op.load 3 _, type := _, pos := _, after := _, guard := _ } :: _) _ _; refine wpList_load1_has h rfl 3 _ rfl rfl hbf7 r11 Tryz.underlying3 rfl ?_)
    | (with_reducible show wpList _ _ _ ({ dst := _, op := Op.load 42 _, type := _, pos := _, after := _, guard := _ } :: _) _ _; refine wpList_load1_has h rfl 42 _ rfl rfl hb7 e8 Tryz.underlying42 rfl ?_))
   go_roundw
   case rel => exact ⟨k + 1, HK.out, by rw [HX.out], M7, h, hle7, by rw [T.out]; simpa using hown⟩
   case measure => have := HK.out; simp [lenV]; omega
  ·obtain rfl : k = Q.length := by omega
   have c1 : ((Q.getD Q.length 0 : Nat) : Int) = 0 := by rw [List.getD_eq_getElem?_getD, List.getElem?_eq_none (Nat.le_refl _)]; rfl
   rw [c1]
   rw [List.take_length] at hown
   clear c1 hlt hk
   go_wp2
   go_ret2
   exact ⟨_, rfl, M', h, Mm.le_trans hle hle2, hown.base fun b hb => Mm.none_of hle hb⟩
end
section
open Go.RowKit
section
variable {c : Nat → Int} {L B S n : Nat} {tp : List Nat} {s : MachS} {g : GM} {z : StG}
theorem words_n (hA : AbsM c tp n s g) (hn : Nums c L B S) {l o : Nat} (hl : l < L) (ho : o < 18 + B + 6 * S) : s.mem.f (l * (18 + B + 6 * S) + o) = (g.w l o : Int) := by
 have := hA.words l o (by rw [hn.lev]; omega) (by rw [hn.sz]; omega)
 rw [hn.sz, Int.toNat_natCast] at this
 exact this
theorem top_m (hA : AbsM c tp n s g) (A : StA B S L g z) (hn : Nums c L B S) {l : Nat} (hl : l < L) : s.mem.f (l * (18 + B + 6 * S)) = ((z.lv l).top : Int) := by
 rw [A.top l hl]
 exact words_n hA hn hl (o := 0) (by omega)
theorem lk_m (hA : AbsM c tp n s g) (A : StA B S L g z) (hn : Nums c L B S) {l i : Nat} (hl : l < L) (h1 : 1 ≤ i) (h2 : i ≤ S) : s.mem.f (l * (18 + B + 6 * S) + (18 + B + (i - 1))) = ((z.lv l).lk i : Int) := by
 rw [A.lk l i hl h1 h2]
 exact words_n hA hn hl (by omega)
theorem hd_m (hA : AbsM c tp n s g) (A : StA B S L g z) (hn : Nums c L B S) {l i : Nat} (hl : l < L) (h1 : 1 ≤ i) (h2 : i ≤ S) : s.mem.f (l * (18 + B + 6 * S) + (18 + B + S + (i - 1) * 5)) = ((z.lv l).hd i : Int) := by
 rw [A.hd l i hl h1 h2]
 exact words_n hA hn hl (by omega)
theorem fld_m (hA : AbsM c tp n s g) (hn : Nums c L B S) {l i j : Nat} (hl : l < L) (h1 : 1 ≤ i) (h2 : i ≤ S) (h4 : j < 5) (hz : g.w l (oNd B S i j) = 0) : s.mem.f (l * (18 + B + 6 * S) + (18 + B + S + (i - 1) * 5 + j)) = 0 := by
 have h := words_n hA hn hl (o := oNd B S i j) (by unfold oNd; omega)
 rw [hz] at h
 exact h
end
/-- How many of the first slots aren't free. -/
def busy (o : Nat → Nat × Nat) : Nat → Nat
 | 0 => 0
 | k + 1 => busy o k + if (o (k + 1)).1 = 1 then 0 else 1
theorem busy_le (o : Nat → Nat × Nat) : ∀ k, busy o k ≤ k
 | 0 => Nat.le_refl _
 | k + 1 => by have := busy_le o k; unfold busy; split <;> omega
theorem busy_len (o : Nat → Nat × Nat) : ∀ k, ((List.range k).filter fun i => (o (i + 1)).1 == 1).length + busy o k = k
 | 0 => rfl
 | k + 1 => by
  have ih := busy_len o k
  rw [List.range_succ, List.filter_append, List.length_append]
  unfold busy
  by_cases h : (o (k + 1)).1 = 1
  ·rw [if_pos h]; simp [h]; omega
  ·rw [if_neg h]; simp [h]; omega
theorem free_busy {S : Nat} {o : Nat → Nat × Nat} {Q : List Nat} (hnd : Q.Nodup) (hm : ∀ x, x ∈ Q ↔ 1 ≤ x ∧ x ≤ S ∧ (o x).1 = 1) : Q.length + busy o S = S := by
 have hp : Q.Perm (((List.range S).filter fun i => (o (i + 1)).1 == 1).map (· + 1)) := by
  refine (List.perm_ext_iff_of_nodup hnd ?_).2 fun x => ?_
  ·refine List.Pairwise.map _ (fun a b hab e => hab (by omega)) ((List.nodup_range (n := S)).filter _)
  ·rw [hm x, List.mem_map]
   constructor
   ·rintro ⟨a, b, d⟩
    exact ⟨x - 1, List.mem_filter.2 ⟨List.mem_range.2 (by omega), by rw [show x - 1 + 1 = x by omega]; simp [d]⟩, by omega⟩
   ·rintro ⟨y, hy, rfl⟩
    obtain ⟨a, b⟩ := List.mem_filter.1 hy
    have := List.mem_range.1 a
    exact ⟨by omega, by omega, by simpa using b⟩
 rw [hp.length_eq, List.length_map]
 exact busy_len o S
theorem ints14_one (c : Nat → Int) : (ints .i64 14 c).toList.all (·.oneCell') = true := rfl
set_option maxHeartbeats 4000000 in
set_option maxRecDepth 20000 in
theorem odd_gm {σ w : World} {M : Mm} {lab : Nat → Nat} {p l n m gens : Nat} {s : MachS} {c : Nat → Int} {tp : List Nat} {g : GM} {z : StG} {o : Nat → Nat × Nat} {Q : List Nat} {L B S : Nat} (h : Has σ M w) (hM : Mach M lab p s) (hA : AbsM c tp n s g) (hn4 : n < 100000) (hn : Nums c L B S) (hg : c 12 = (gens : Nat)) (hl : l < L) (hAA : StA B S L g z) (hV : LvI S gens m (z.lv l) o Q) (hfz : ∀ x ∈ Q, ∀ j, 1 ≤ j → j < 5 → g.w l (oNd B S x j) = 0) (hr : ∀ i, 1 ≤ i → i ≤ S → (o i).1 ≤ 2) :
  Calls Tryz.prog 29 #[.pointer (some ⟨p, 0, none⟩), .int .i64 (l : Nat)] w fun r w' => r = .returned (.int .i64 0) ∧ ∃ M', Has σ M' w' ∧ M.le M' := by
 obtain rfl := hA.cc
 have hb0 := hn.b0
 have hs0 := hn.s0
 have hl0 := hn.l0
 have hN0 := hM.memN
 have hN1 : s.mem.N = L * (18 + B + 6 * S) := by
  have h1 := hM.memN
  rw [hn.lev, hn.sz, ← Int.natCast_mul] at h1
  exact Int.ofNat_inj.1 h1
 have hN2 : L * (18 + B + 6 * S) ≤ 4 * (18 + 40 + 6 * 60) := Nat.mul_le_mul (by omega) (by omega)
 have hgens : gens ≤ 1048576 := by have := hA.may.2.2.2.2.2.2.1; omega
 have PL := Lib.hid (fun (w : World) (h : Has σ M w) => mPlan_eq h hM)
 have CF := Lib.hid (fun (w : World) (h : Has σ M w) => conf_has h s.c hM.plan)
 have MK : Hid (∀ M', M.le M' → ∃ lab', Mach M' lab' p s) := Lib.hid fun M' hle => ⟨_, hM.keep (Kp.le hle fun _ => 0) fun _ _ h => h⟩
 have HA := Lib.hid hA
 have HAA := Lib.hid hAA
 have HFZ := Lib.hid hfz
 have HN := Lib.hid hn
 have HV := Lib.hid hV
 have HR := Lib.hid hr
 have HG := Lib.hid hg
 have hlS : (l : Int) < s.c 0 := by rw [hn.lev]; omega
 have HLS := Lib.hid hlS
 have hQ60 : Q.length ≤ 60 := by have := free_busy hV.nodup hV.mem; omega
 have hx : (ints .i64 14 s.c).extract 0 (0 + 14) = ints .i64 14 s.c := rfl
 have hz : (ints .i64 14 s.c).size = 14 := rfl
 have r10 : (ints .i64 14 s.c)[10]? = some (.int .i64 (S : Nat)) := by rw [← hn.slo]; rfl
 have O14 := ints14_one s.c
 have zconf : (Tryz.prog.info? 24).bind (·.zero) = some (.agg #[.int .i64 0, .int .i64 0, .int .i64 0, .int .i64 0, .int .i64 0, .int .i64 0, .int .i64 0, .int .i64 0, .int .i64 0, .int .i64 0, .int .i64 0, .int .i64 0, .int .i64 0, .int .i64 0]) := by kernel_rfl
 clear hM hA hn hV hr hg hN0 hlS hAA hfz
 have HRW : Hid (∃ row, row = ints .i64 14 s.c) := Lib.hid ⟨_, rfl⟩
 have CHQ : Hid (∀ (M' : Mm) (w : World) (bw : Nat), Has σ M' w → M' bw = some (.cells (ints .u64 s.mem.N s.mem.f) 42) → Calls Tryz.prog 73 #[.agg (ints .i64 14 s.c), .slice (some ⟨bw, 0, none⟩) s.mem.N s.mem.N, .int .i64 (l : Nat)] w fun r w' => ∃ v, r = .returned (.tuple #[v, .bool true]) ∧ Acc σ M' w' 3 1 v Q.length (natv Q)) := Lib.hid fun M' w bw h hb => refChain_eq h s.c HN.out hb hN1 l hl (top_m HA.out HAA.out HN.out hl) (fun i a b => lk_m HA.out HAA.out HN.out hl a b) HV.out.lk (by rw [← slOf_eq]; exact HV.out.chain) (fun x hx => ((HV.out.mem x).1 hx).2.1) (by have := free_busy HV.out.nodup HV.out.mem; omega)
 have CLQ : Hid (∀ (M' : Mm) (w : World) (bw i : Nat), Has σ M' w → M' bw = some (.cells (ints .u64 s.mem.N s.mem.f) 42) → i ∈ Q → Calls Tryz.prog 74 #[.agg (ints .i64 14 s.c), .slice (some ⟨bw, 0, none⟩) s.mem.N s.mem.N, .int .i64 (l : Nat), .int .i64 (i : Nat)] w fun r w' => r = .returned (.bool true) ∧ Has σ M' w') := Lib.hid fun M' w bw i h hb hi => by
  obtain ⟨a1, a2, a3⟩ := (HV.out.mem i).1 hi
  have a4 := HV.out.off i a1 a2 (.inl a3)
  have a5 := (HV.out.hd i a1 a2).1
  exact refClean_eq h s.c HN.out hb hN1 l hl i a1 a2 (hd_m HA.out HAA.out HN.out hl a1 a2) a4.2.1 (by omega) (fun j h3 h4 => fld_m HA.out HN.out hl a1 a2 h4 (HFZ.out i hi j h3 h4))
 have WOQ : Hid (∀ (M' : Mm) (w : World) (bw i : Nat), Has σ M' w → M' bw = some (.cells (ints .u64 s.mem.N s.mem.f) 42) → 1 ≤ i → i ≤ S → Calls Tryz.prog 75 #[.agg (ints .i64 14 s.c), .slice (some ⟨bw, 0, none⟩) s.mem.N s.mem.N, .int .i64 (l : Nat), .int .i64 (i : Nat)] w fun r w' => r = .returned (.bool (decide (gens ≤ (z.lv l).hd i / 4))) ∧ Has σ M' w') := Lib.hid fun M' w bw i h hb a1 a2 => by
  have a5 := (HV.out.hd i a1 a2).1
  exact refWorn_eq h s.c HN.out hb hN1 l hl i a1 a2 (hd_m HA.out HAA.out HN.out hl a1 a2) (by omega) HG.out (by omega)
 have hWs : Hid (∀ i : Nat, 1 ≤ i → i ≤ S → s.ward.there (l : Nat) (i : Nat) = true) := Lib.hid fun i a b => WardS.there_iff.2 ⟨by omega, by rw [HA.out.ward.lv]; exact HLS.out, by omega, by rw [HA.out.ward.sl, HN.out.slo]; omega⟩
 have LKQ : Hid (∀ (M' : Mm) (w : World) (i : Nat), Has σ M' w → IsWard M' s.wp s.ward → Calls Tryz.prog 18 #[.pointer (some ⟨s.wp, 0, none⟩), .int .i64 (l : Nat), .int .i64 (i : Nat)] w fun r w' => r = .returned (.int .u64 (s.ward.link (l : Nat) (i : Nat))) ∧ Has σ M' w') := Lib.hid fun M' w i h hW => wardLink_eq h hW _ _ (by rw [HA.out.ward.sl, HN.out.slo]; omega) (by have := HA.out.ward.gens (l : Nat) (i : Nat); omega)
 have LEQ : Hid (∀ (M' : Mm) (w : World) (i : Nat), Has σ M' w → IsWard M' s.wp s.ward → 1 ≤ i → i ≤ S → Calls Tryz.prog 36 #[.pointer (some ⟨s.wp, 0, none⟩), .int .i64 (l : Nat), .int .u64 (s.ward.link (l : Nat) (i : Nat))] w fun r w' => r = .returned (.bool ((z.lv l).held i)) ∧ Has σ M' w') := Lib.hid fun M' w i h hW a b => by
  have := leads_eq h hW (l : Nat) i (hWs.out i a b) (by rw [HA.out.ward.sl, HN.out.slo]; omega) (by have := HA.out.ward.gens (l : Nat) (i : Nat); omega)
  have e : decide (0 < valE (l : Nat) (i : Nat) s.ward.held) = (z.lv l).held i := by
   rw [HAA.out.held l i hl a b, HA.out.ward.held l i HLS.out a (by rw [HN.out.slo]; omega)]
   cases g.held l i <;> rfl
  rw [e] at this
  exact this
 have hN10 : s.mem.N ≤ 10000 := by omega
 clear hN1 hN2 hWs hgens
 unfold confV at *
 go_enter Tryz.func29, Tryz.ntmps29
 go_upto_region 2 with (first
  | (go_at_call 57; refine (PL.out _ h).mono ?_; clear h; rintro _ w ⟨rfl, h⟩)
  | (go_at_call 58; refine (CF.out _ h).mono ?_; clear h; rintro _ w ⟨rfl, h⟩)
  | ((with_reducible show wpList _ _ _ ({ dst := _, op := Op.alloc 24, type := _, pos := _, after := _, guard := _ } :: _) _ _); refine wpList_alloc_has h rfl 24 rfl _ zconf ?_; clear h; intro bc w h hnc; try simp only [Act.put, List.setIfInBounds_toArray, List.set_cons_zero, List.set_cons_succ])
  | ((with_reducible show wpList _ _ _ ({ dst := _, op := Op.store 24 _ _, type := _, pos := _, after := _, guard := _ } :: _) _ _); refine wpList_storeAll_has (cells := ints .i64 14 s.c) h rfl 24 _ _ rfl rfl rfl (Mm.upd_same _ _ _) rfl hz.symm rfl (by rw [hz]; kernel_rfl) O14 ?_; clear h; intro w h))
 rw [Mm.upd_upd] at h
 have hle1 := Mm.le_upd' hnc (.cells (ints .i64 14 s.c) 24)
 have hbc := Mm.upd_same M bc (.cells (ints .i64 14 s.c) 24)
 generalize M.upd bc _ = M1 at h hle1 hbc
 clear PL CF O14 hnc
 generalize ints .i64 14 s.c = row at *
 obtain ⟨lab1, hM1⟩ := MK.out M1 hle1
 have ME := Lib.hid (fun (w : World) (h : Has σ M1 w) => mMem_eq h hM1)
 have WO := Lib.hid (fun (w : World) (h : Has σ M1 w) => memWords_eq h hM1.mem (by omega))
 have eR : s.mem.row = .cells (ints .u64 s.mem.N s.mem.f) 42 := rfl
 rw [eR] at WO
 generalize s.mem.N = N at *
 generalize s.mem.f = ff at *
 generalize ints .u64 N ff = wrow at *
 clear hM1 eR
 go_upto_region 3 with (first
  | (go_at_call 46; refine (ME.out _ h).mono ?_; clear h; rintro _ w ⟨rfl, h⟩)
  | (go_at_call 47; refine (WO.out _ h).mono ?_; clear h; rintro _ w ⟨bw, M3, rfl, h, hle3, hnw, hbw⟩))
 replace hbc := hle3 _ _ hbc
 have CH := Lib.hid (fun (w : World) (h : Has σ M3 w) => CHQ.out M3 w bw h hbw)
 clear ME WO CHQ hnw
 go_upto_region 4 with (first
  | ((with_reducible show wpList _ _ _ ({ dst := _, op := Op.load 24 _, type := _, pos := _, after := _, guard := _ } :: _) _ _); refine wpList_agg_has h rfl 24 _ rfl rfl hbc hx hz Tryz.underlying24 rfl (by kernel_rfl) ?_; try simp only [Act.put, List.setIfInBounds_toArray, List.set_cons_zero, List.set_cons_succ])
  | (go_at_call 73; refine (CH.out _ h).mono ?_; clear h; rintro _ w ⟨v, rfl, M5, h, hle5, hown⟩))
 clear CH
 replace hbc := hle5 _ _ hbc
 replace hbw := hle5 _ _ hbw
 have hle15 := Mm.le_trans hle1 (Mm.le_trans hle3 hle5)
 obtain ⟨lab5, hM5⟩ := MK.out M5 hle15
 have WD := Lib.hid (fun (w : World) (h : Has σ M5 w) => mWarden_eq h hM5)
 have hW5 := hM5.ward
 have LK5 := Lib.hid (fun (w : World) (i : Nat) (h : Has σ M5 w) => LKQ.out M5 w i h hW5)
 have LE5 := Lib.hid (fun (w : World) (i : Nat) (h : Has σ M5 w) => LEQ.out M5 w i h hW5)
 have CL5 := Lib.hid (fun (w : World) (i : Nat) (h : Has σ M5 w) => CLQ.out M5 w bw i h hbw)
 have WO5 := Lib.hid (fun (w : World) (i : Nat) (h : Has σ M5 w) => WOQ.out M5 w bw i h hbw)
 have HL5 := Lib.hid hle15
 clear hM5 hW5 LKQ LEQ CLQ WOQ MK hle1 hle3 hle5 hle15 hN10 hbw
 obtain ⟨A, cap, rfl⟩ := hown.form
 have hrd := Lib.hid hown
 clear hown
 have FB := Lib.hid (free_busy HV.out.nodup HV.out.mem)
 have hql : Q.length = Q.length := rfl
 generalize hqn : Q.length = qn at *
 have QN := Lib.hid hqn
 clear hqn hql
 go_upto_region 8 with (fail)
 go_loopw [10, 11] (fun i _ wr => ∃ j : Nat, j ≤ qn ∧ i = .int .i64 (j : Nat) ∧ Has σ M5 wr) (fun i _ _ => qn - (intOf i).toNat)
 case atStart => exact ⟨0, Nat.zero_le _, rfl, h⟩
 case round =>
  clear h w
  obtain ⟨w, rfl⟩ : ∃ x : World, x = wr := ⟨_, rfl⟩
  obtain ⟨j, hj, rfl, h⟩ := hrel
  by_cases hlt : j < qn
  ·obtain ⟨gb, cc, hvv⟩ := Own.pos hrd.out (by omega)
   cases hvv
   obtain ⟨cur, hgb, hcur⟩ := Own.at_ hrd.out
   obtain ⟨x, hxq⟩ : ∃ x, Q[j]? = some x := ⟨_, List.getElem?_eq_getElem (by rw [QN.out]; exact hlt)⟩
   have hxm : x ∈ Q := List.mem_of_getElem? hxq
   have ex : cur[j]? = some (.int .i64 (x : Nat)) := hcur j _ (by simp [natv, hxq])
   obtain ⟨a1, a2, a3⟩ := (HV.out.mem x).1 hxm
   have a4 := (HV.out.off x a1 a2 (.inl a3)).1
   have LKx := Lib.hid (fun (w : World) (h : Has σ M5 w) => LK5.out w x h)
   have LEx := Lib.hid (fun (w : World) (h : Has σ M5 w) => LE5.out w x h a1 a2)
   rw [a4] at LEx
   have CLx := Lib.hid (fun (w : World) (h : Has σ M5 w) => CL5.out w x h hxm)
   have HC := Lib.hid hcur
   have HXQ := Lib.hid hxq
   clear a1 a2 a3 a4 hxm hcur hxq
   generalize s.ward.link (l : Nat) (x : Nat) = lk at LKx LEx
   go_upto_region 10 with (fail)
   refine wp_region_class (Has σ M5) (by kernel_rfl) (by kernel_rfl) h.drew ?_
   clear h
   repeat (first
    | go_big_quiet_skip
    | (go_big_quiet_want; first
     | (refine quiet_load_has 3 _ rfl rfl hgb ex Tryz.underlying3 rfl ?_; simp only [Act.put, List.setIfInBounds_toArray, List.set_cons_zero, List.set_cons_succ]; go_big_quiet_on)
     | (refine quiet_agg_has 24 _ rfl rfl hbc hx hz Tryz.underlying24 rfl (by kernel_rfl) ?_; simp only [Act.put, List.setIfInBounds_toArray, List.set_cons_zero, List.set_cons_succ]; go_big_quiet_on)
     | (go_big_quiet_op; first | go_big_quiet_on | go_big_quiet_call (first | with_reducible exact fun _ => rfl | with_reducible exact WD.out _ | with_reducible exact LKx.out _ | with_reducible exact LEx.out _ | with_reducible exact CLx.out _))))
   refine wpQuiet_nil ?_
   try clear w
   intro w h
   go_upto_region 13 with (fail)
   clear LKx LEx CLx
   go_loopw [11] (fun u wr => ∃ k : Nat, k ≤ j ∧ u = .int .i64 (k : Nat) ∧ Has σ M5 wr) (fun u _ => j - (intOf u).toNat)
   case atStart => exact ⟨0, Nat.zero_le _, rfl, h⟩
   case round =>
    clear h w
    obtain ⟨w, rfl⟩ : ∃ x : World, x = wr := ⟨_, rfl⟩
    obtain ⟨k, hk, rfl, h⟩ := hrel
    by_cases hlt2 : k < j
    ·obtain ⟨y, hyq⟩ : ∃ y, Q[k]? = some y := ⟨_, List.getElem?_eq_getElem (by rw [QN.out]; omega)⟩
     have ey : cur[k]? = some (.int .i64 (y : Nat)) := HC.out k _ (by simp [natv, hyq])
     have hyx : ((y : Int) == (x : Int)) = false := by
      have hne : y ≠ x := fun e => by
       have h1 := HV.out.nodup
       have h2 := (List.getElem?_inj (by rw [QN.out]; omega) h1).1 (hyq.trans (by rw [e]; exact HXQ.out.symm))
       omega
      exact beq_eq_false_iff_ne.2 (by omega)
     have HK := Lib.hid hlt2
     clear hlt2 hyq hk
     go_upto_region 15 with (fail)
     refine wp_region_class (Has σ M5) (by kernel_rfl) (by kernel_rfl) h.drew ?_
     clear h
     repeat (first
      | go_big_quiet_skip
      | (go_big_quiet_want; first
       | (refine quiet_load_has 3 _ rfl rfl hgb ey Tryz.underlying3 rfl ?_; simp only [Act.put, List.setIfInBounds_toArray, List.set_cons_zero, List.set_cons_succ]; go_big_quiet_on)
       | (refine quiet_load_has 3 _ rfl rfl hgb ex Tryz.underlying3 rfl ?_; simp only [Act.put, List.setIfInBounds_toArray, List.set_cons_zero, List.set_cons_succ]; go_big_quiet_on)
       | (go_big_quiet_op; first | go_big_quiet_on | go_big_quiet_call (first | with_reducible exact fun _ => rfl))))
     refine wpQuiet_nil ?_
     try clear w
     intro w h
     go_wp2
     go_roundw
     case rel => exact ⟨k + 1, by have := HK.out; omega, by go_num, h⟩
     case measure => have := HK.out; simp [intOf]; omega
    ·obtain rfl : k = j := by omega
     have hlt3 : ¬ k < k := by omega
     clear ex
     go_wp2
     go_roundw
     case rel => exact ⟨k + 1, by omega, by go_num, h⟩
     case measure => simp [intOf]; omega
  ·obtain rfl : j = qn := by omega
   clear CL5 hlt hj
   have hS60 : S ≤ 60 := by omega
   go_upto_region 18 with (fail)
   go_loopw [9, 12] (fun u v wr => ∃ i : Nat, i ≤ S ∧ u = .int .i64 ((j + busy o i : Nat) : Int) ∧ v = .int .i64 ((i + 1 : Nat) : Int) ∧ Has σ M5 wr) (fun u v _ => S + 1 - (intOf v).toNat)
   case atStart => exact ⟨0, Nat.zero_le _, rfl, rfl, h⟩
   case round =>
    clear h w
    obtain ⟨w, rfl⟩ : ∃ x : World, x = wr := ⟨_, rfl⟩
    obtain ⟨i, hi, rfl, rfl, h⟩ := hrel
    by_cases hlt2 : i < S
    ·have LKx := Lib.hid (fun (w : World) (h : Has σ M5 w) => LK5.out w (i + 1) h)
     have LEx := Lib.hid (fun (w : World) (h : Has σ M5 w) => LE5.out w (i + 1) h (by omega) (by omega))
     have WOx := Lib.hid (fun (w : World) (h : Has σ M5 w) => WO5.out w (i + 1) h (by omega) (by omega))
     have hdl := (HV.out.hd (i + 1) (by omega) (by omega)).1
     have eg : genOf ((z.lv l).hd (i + 1)) = (z.lv l).hd (i + 1) / 4 := by rw [genOf_eq]; omega
     have v1 := HV.out.on (i + 1) (by omega) (by omega)
     have v2 := HV.out.off (i + 1) (by omega) (by omega)
     have v3 := HV.out.none (i + 1) (by omega) (by omega)
     have v4 := HR.out (i + 1) (by omega) (by omega)
     rw [eg] at v2 v3
     have hbu := busy_le o i
     have g18 : ((i + 1 : Nat) : Int) ≤ (S : Int) := by omega
     have w1 : IntKind.i64.wrap (((j + busy o i : Nat) : Int) + 1) = ((j + busy o i + 1 : Nat) : Int) := by rw [show (((j + busy o i : Nat) : Int) + 1) = ((j + busy o i + 1 : Nat) : Int) by omega]; exact IntWalk.i64_in _ (by omega)
     have w2 : IntKind.i64.wrap (((i + 1 : Nat) : Int) + 1) = ((i + 1 + 1 : Nat) : Int) := by rw [show (((i + 1 : Nat) : Int) + 1) = ((i + 1 + 1 : Nat) : Int) by omega]; exact IntWalk.i64_in _ (by omega)
     have HI := Lib.hid hlt2
     generalize s.ward.link (l : Nat) ((i + 1 : Nat) : Int) = lk at LKx LEx
     by_cases hf : (o (i + 1)).1 = 1
     ·obtain ⟨q1, q2, q3⟩ := v2 (.inl hf)
      have hbz : Hid (busy o (i + 1) = busy o i) := Lib.hid (by show busy o i + (if (o (i + 1)).1 = 1 then 0 else 1) = _; rw [if_pos hf]; rfl)
      rw [decide_eq_false (by omega : ¬ gens ≤ (z.lv l).hd (i + 1) / 4)] at WOx
      rw [q1] at LEx
      clear v1 v2 v3 v4 q1 q2 q3 hf eg hdl hbu hlt2 hi w1
      generalize hnb : j + busy o i = nb at *
      have HNB := Lib.hid hnb
      clear hnb
      generalize hiz : ((i + 1 : Nat) : Int) = iz at *
      have HIZ := Lib.hid hiz
      clear hiz
      go_wp2_with (first
       | (with_reducible show wpList _ _ _ ({ dst := _, op := Op.load 3 _, type := _, pos := _, after := _, guard := _ } :: _) _ _; refine wpList_load1_has h rfl 3 _ rfl rfl hbc r10 Tryz.underlying3 rfl ?_)
       | ((with_reducible show wpList _ _ _ ({ dst := _, op := Op.load 24 _, type := _, pos := _, after := _, guard := _ } :: _) _ _); refine wpList_agg_has h rfl 24 _ rfl rfl hbc hx hz Tryz.underlying24 rfl (by kernel_rfl) ?_; try simp only [Act.put, List.setIfInBounds_toArray, List.set_cons_zero, List.set_cons_succ])
       | (go_at_call 17; refine (WD.out _ h).mono ?_; clear h; rintro _ w ⟨rfl, h⟩)
       | (go_at_call 18; refine (LKx.out _ h).mono ?_; clear h; rintro _ w ⟨rfl, h⟩)
       | (go_at_call 36; refine (LEx.out _ h).mono ?_; clear h; rintro _ w ⟨rfl, h⟩)
       | (go_at_call 75; refine (WOx.out _ h).mono ?_; clear h; rintro _ w ⟨rfl, h⟩))
      go_roundw
      case rel => exact ⟨i + 1, by have := HI.out; omega, by rw [hbz.out, HNB.out], by go_num, h⟩
      case measure => rw [← HIZ.out]; have := HI.out; simp [intOf]; omega
     ·have hbz : Hid (busy o (i + 1) = busy o i + 1) := Lib.hid (by show busy o i + (if (o (i + 1)).1 = 1 then 0 else 1) = _; rw [if_neg hf])
      cases hh : (z.lv l).held (i + 1)
      ·have q3 : gens ≤ (z.lv l).hd (i + 1) / 4 := by
        rcases (by omega : (o (i + 1)).1 = 0 ∨ (o (i + 1)).1 = 2) with h0 | h0
        ·rcases v3 h0 with h1 | h1
         ·rw [hh] at h1; cases h1
         ·exact h1
        ·rw [v1 (.inl h0)] at hh; cases hh
       rw [decide_eq_true q3] at WOx
       rw [hh] at LEx
       clear v1 v2 v3 v4 q3 hf eg hdl hbu hlt2 hi hh
       generalize hnb : j + busy o i = nb at *
       have HNB := Lib.hid hnb
       clear hnb
       generalize hiz : ((i + 1 : Nat) : Int) = iz at *
       have HIZ := Lib.hid hiz
       clear hiz
       go_wp2_with (first
        | (with_reducible show wpList _ _ _ ({ dst := _, op := Op.load 3 _, type := _, pos := _, after := _, guard := _ } :: _) _ _; refine wpList_load1_has h rfl 3 _ rfl rfl hbc r10 Tryz.underlying3 rfl ?_)
        | ((with_reducible show wpList _ _ _ ({ dst := _, op := Op.load 24 _, type := _, pos := _, after := _, guard := _ } :: _) _ _); refine wpList_agg_has h rfl 24 _ rfl rfl hbc hx hz Tryz.underlying24 rfl (by kernel_rfl) ?_; try simp only [Act.put, List.setIfInBounds_toArray, List.set_cons_zero, List.set_cons_succ])
        | (go_at_call 17; refine (WD.out _ h).mono ?_; clear h; rintro _ w ⟨rfl, h⟩)
        | (go_at_call 18; refine (LKx.out _ h).mono ?_; clear h; rintro _ w ⟨rfl, h⟩)
        | (go_at_call 36; refine (LEx.out _ h).mono ?_; clear h; rintro _ w ⟨rfl, h⟩)
        | (go_at_call 75; refine (WOx.out _ h).mono ?_; clear h; rintro _ w ⟨rfl, h⟩))
       go_roundw
       case rel => exact ⟨i + 1, by have := HI.out; omega, by rw [hbz.out, ← HNB.out]; exact congrArg (Value.int IntKind.i64) (by omega), by go_num, h⟩
       case measure => rw [← HIZ.out]; have := HI.out; simp [intOf]; omega
      ·rw [hh] at LEx
       clear v1 v2 v3 v4 hf eg hdl hbu hlt2 hi hh
       generalize hnb : j + busy o i = nb at *
       have HNB := Lib.hid hnb
       clear hnb
       generalize hiz : ((i + 1 : Nat) : Int) = iz at *
       have HIZ := Lib.hid hiz
       clear hiz
       go_wp2_with (first
        | (with_reducible show wpList _ _ _ ({ dst := _, op := Op.load 3 _, type := _, pos := _, after := _, guard := _ } :: _) _ _; refine wpList_load1_has h rfl 3 _ rfl rfl hbc r10 Tryz.underlying3 rfl ?_)
        | ((with_reducible show wpList _ _ _ ({ dst := _, op := Op.load 24 _, type := _, pos := _, after := _, guard := _ } :: _) _ _); refine wpList_agg_has h rfl 24 _ rfl rfl hbc hx hz Tryz.underlying24 rfl (by kernel_rfl) ?_; try simp only [Act.put, List.setIfInBounds_toArray, List.set_cons_zero, List.set_cons_succ])
        | (go_at_call 17; refine (WD.out _ h).mono ?_; clear h; rintro _ w ⟨rfl, h⟩)
        | (go_at_call 18; refine (LKx.out _ h).mono ?_; clear h; rintro _ w ⟨rfl, h⟩)
        | (go_at_call 36; refine (LEx.out _ h).mono ?_; clear h; rintro _ w ⟨rfl, h⟩)
        | (go_at_call 75; refine (WOx.out _ h).mono ?_; clear h; rintro _ w ⟨rfl, h⟩))
       go_roundw
       case rel => exact ⟨i + 1, by have := HI.out; omega, by rw [hbz.out, ← HNB.out]; exact congrArg (Value.int IntKind.i64) (by omega), by go_num, h⟩
       case measure => rw [← HIZ.out]; have := HI.out; simp [intOf]; omega
    ·obtain rfl : i = S := by omega
     have g19 : ¬ ((i + 1 : Nat) : Int) ≤ (i : Int) := by omega
     have g20 : ¬ i + 1 ≤ i := by omega
     have g21 : ((j + busy o i : Nat) : Int) = (i : Int) := by rw [FB.out]
     rw [g21]
     clear g21 WO5 LE5 LK5 WD
     have r10' : row[10]? = some (.int .i64 (i : Nat)) := r10
     go_wp2_with (first
      | (with_reducible show wpList _ _ _ ({ dst := _, op := Op.load 3 _, type := _, pos := _, after := _, guard := _ } :: _) _ _; refine wpList_load1_has h rfl 3 _ rfl rfl hbc r10' Tryz.underlying3 rfl ?_))
     go_ret
     exact ⟨rfl, M5, h, HL5.out⟩
end
section
open Go.RowKit
/-- What is known of each state, with so many steps left; how many steps a thread within something needs at most, alone. -/
structure OpenJ {X : Type} (σ : World) (K : Mm) (p : Nat) (tp : List Nat) (dv : Value) (most : Nat) (J : Nat → X → MachS → Prop) (pot : Nat → X → Nat) : Prop where
 same : ∀ b x s, J b x s → s.tp = tp
 mono : ∀ b b' x s, J b x s → b' ≤ b → J b' x s
 step : ∀ t b x s (M : Mm) (lab : Nat → Nat) (w : World), t < tp.length → Has σ M w → Mach M lab p s → Base K M lab → J (b + 1) x s → (s.thr t).frames ≠ [] → Calls Tryz.prog 33 #[.pointer (some ⟨p, 0, none⟩), .int .i64 (t : Nat), dv] w fun r w' => ∃ M' lab' b2 x' s', r = .returned (.bool b2) ∧ Has σ M' w' ∧ Mach M' lab' p s' ∧ Base K M' lab' ∧ J b x' s' ∧ ((s'.thr t).frames = [] ∨ pot t x' + 1 ≤ pot t x) ∧ ∀ u, u < tp.length → u ≠ t → (s.thr u).frames = [] → (s'.thr u).frames = []
 pot : ∀ t b x s, J b x s → 1 ≤ pot t x ∧ pot t x ≤ most
theorem sub_mul_succ {a t m : Nat} (h : t < a) : (a - t) * m = (a - (t + 1)) * m + m := by
 rw [← Nat.succ_mul]
 congr 1
 omega
set_option maxHeartbeats 4000000 in
set_option maxRecDepth 20000 in
theorem open_rel {σ w : World} {K M : Mm} {lab : Nat → Nat} {p most : Nat} {s : MachS} {tp : List Nat} {dv : Value} {X : Type} {x : X} {J : Nat → X → MachS → Prop} {pot : Nat → X → Nat} (h : Has σ M w) (hM : Mach M lab p s) (hB : Base K M lab) (hJ : OpenJ σ K p tp dv most J pot) (h0 : J (tp.length * most) x s) (hmost : most < 1000) (hT : tp.length < 1000) :
  Calls Tryz.prog 45 #[.pointer (some ⟨p, 0, none⟩), dv, .int .i64 (most : Nat)] w fun r w' => r = .returned (.int .i64 0) ∧ ∃ M' lab' x' s', Has σ M' w' ∧ Mach M' lab' p s' ∧ Base K M' lab' ∧ J 0 x' s' ∧ ∀ t, t < tp.length → (s'.thr t).frames = [] := by
 have HJ := Lib.hid hJ
 have HM := Lib.hid hM
 have HB := Lib.hid hB
 have H0 := Lib.hid h0
 clear hJ hM hB h0
 go_enter Tryz.func45, Tryz.ntmps45
 go_upto_region 3 with (fail)
 go_loopw [7, 8, 9] (fun o u _ wr => ∃ t : Nat, t ≤ tp.length ∧ o = .int .i64 0 ∧ u = .int .i64 (t : Nat) ∧ ∃ M lab x s, Has σ M wr ∧ Mach M lab p s ∧ Base K M lab ∧ J ((tp.length - t) * most) x s ∧ ∀ v, v < t → (s.thr v).frames = []) (fun _ u _ _ => tp.length + 1 - (intOf u).toNat)
 case atStart => exact ⟨0, Nat.zero_le _, rfl, rfl, M, lab, x, s, h, HM.out, HB.out, H0.out, fun v hv => absurd hv (Nat.not_lt_zero _)⟩
 case round =>
  clear h w HM HB H0 M lab x s
  obtain ⟨w, rfl⟩ : ∃ x : World, x = wr := ⟨_, rfl⟩
  obtain ⟨t, ht, rfl, rfl, M2, lab2, x2, s2, h, hM2, hB2, hP2, hR2⟩ := hrel
  by_cases hlt : t < tp.length
  ·obtain ⟨q, hq⟩ : ∃ q, tp[t]? = some q := ⟨_, List.getElem?_eq_getElem hlt⟩
   have TH := Lib.hid (fun (w : World) (h : Has σ M2 w) => mThread_yes h hM2 (t := t) (q := q) (by rw [HJ.out.same _ _ _ hP2]; exact hq))
   have wt : IntKind.i64.wrap ((t : Int) + 1) = ((t + 1 : Nat) : Int) := by rw [show (t : Int) + 1 = ((t + 1 : Nat) : Int) by omega]; exact IntWalk.i64_in _ (by omega)
   have HQ := Lib.hid hq
   have HLT := Lib.hid hlt
   have HM2 := Lib.hid hM2
   have HB2 := Lib.hid hB2
   have HP2 := Lib.hid hP2
   have HR2 := Lib.hid hR2
   clear hq hlt hM2 hB2 hP2 hR2 ht
   go_upto_region 6 with (first
    | (go_at_call 13; refine (TH.out _ h).mono ?_; clear h; rintro _ w ⟨rfl, h⟩))
   clear TH
   go_loopw [9] (fun i wr => ∃ (k : Nat) (M : Mm) (lab : Nat → Nat) (x : X) (s : MachS), k ≤ most ∧ i = .int .i64 (k : Nat) ∧ Has σ M wr ∧ Mach M lab p s ∧ Base K M lab ∧ J ((tp.length - t) * most - k) x s ∧ ((s.thr t).frames = [] ∨ pot t x + k ≤ most) ∧ ∀ v, v < t → (s.thr v).frames = []) (fun i _ => most + 1 - (intOf i).toNat)
   case atStart => exact ⟨0, M2, lab2, x2, s2, Nat.zero_le _, rfl, h, HM2.out, HB2.out, HP2.out, .inr (HJ.out.pot t _ _ _ HP2.out).2, HR2.out⟩
   case round =>
    clear h w HM2 HB2 HP2 HR2 M2 lab2 x2 s2
    obtain ⟨w, rfl⟩ : ∃ x : World, x = wr := ⟨_, rfl⟩
    obtain ⟨k, M5, lab5, x5, s5, hk, rfl, h, hM5, hB5, hP5, hpk, hR5⟩ := hrel
    have HM5 := Lib.hid hM5
    have HB5 := Lib.hid hB5
    have HP5 := Lib.hid hP5
    have HR5 := Lib.hid hR5
    have HPK := Lib.hid hpk
    have HKL := Lib.hid hk
    clear hM5 hB5 hP5 hR5 hpk
    by_cases hkm : k < most
    ·have hkm' : (k : Int) < (most : Int) := by omega
     have HKM := Lib.hid hkm
     by_cases hfr : (s5.thr t).frames = []
     ·have HF5 := Lib.hid hfr
      clear hfr hk
      obtain ⟨fvD, hvD, fbD, hTD⟩ := HM5.out.each t q (by rw [HJ.out.same _ _ _ HP5.out]; exact HQ.out)
      have hlD := hTD.flen
      have DPD := Lib.hid (fun (w : World) (h : Has σ M5 w) => thrDeep_eq h hTD)
      rw [hlD, HF5.out] at DPD
      have THD := Lib.hid (fun (w : World) (h : Has σ M5 w) => mThread_yes h HM5.out (t := t) (q := q) (by rw [HJ.out.same _ _ _ HP5.out]; exact HQ.out))
      have zz : (([] : List FrameS).length : Int) = 0 := rfl
      clear hTD hlD
      go_wp2_with (first
       | (go_at_call 13; refine (THD.out _ h).mono ?_; clear h; rintro _ w ⟨rfl, h⟩)
       | (go_at_call 30; refine (DPD.out _ h).mono ?_; clear h; rintro _ w ⟨rfl, h⟩))
      go_roundw
      case rel => exact ⟨t + 1, by have := HLT.out; omega, rfl, by first | rfl | (have := HLT.out; go_num), M5, lab5, x5, s5, h, HM5.out, HB5.out, HJ.out.mono _ _ _ _ HP5.out (by have e := sub_mul_succ (m := most) HLT.out; have := HKL.out; omega), fun v hv => by
       by_cases e : v = t
       ·rw [e]; exact HF5.out
       ·exact HR5.out v (by omega)⟩
      case measure => have := HLT.out; simp [intOf]; omega
     ·have HF5 := Lib.hid hfr
      obtain ⟨fvD, hvD, fbD, hTD⟩ := HM5.out.each t q (by rw [HJ.out.same _ _ _ HP5.out]; exact HQ.out)
      have hlD := hTD.flen
      have DPD := Lib.hid (fun (w : World) (h : Has σ M5 w) => thrDeep_eq h hTD)
      rw [hlD] at DPD
      have THD := Lib.hid (fun (w : World) (h : Has σ M5 w) => mThread_yes h HM5.out (t := t) (q := q) (by rw [HJ.out.same _ _ _ HP5.out]; exact HQ.out))
      have hpos : 0 < (s5.thr t).frames.length := by
       cases hf : (s5.thr t).frames with
       | nil => exact absurd hf hfr
       | cons a b => simp
      have hpos' : (0 : Int) < ((s5.thr t).frames.length : Int) := by omega
      have SP := Lib.hid (fun (w : World) (h : Has σ M5 w) => HJ.out.step t ((tp.length - t) * most - (k + 1)) x5 s5 M5 lab5 w HLT.out h HM5.out HB5.out (HJ.out.mono _ _ _ _ HP5.out (by
       have e := sub_mul_succ (m := most) HLT.out
       have h2 := HKM.out
       omega)) HF5.out)
      clear hTD hlD hfr hk
      generalize (s5.thr t).frames.length = n5 at *
      go_wp2_with (first
       | (go_at_call 13; refine (THD.out _ h).mono ?_; clear h; rintro _ w ⟨rfl, h⟩)
       | (go_at_call 30; refine (DPD.out _ h).mono ?_; clear h; rintro _ w ⟨rfl, h⟩)
       | (go_at_call 33; refine (SP.out _ h).mono ?_; clear h; rintro _ w ⟨M6, lab6, b6, x6, s6, rfl, h, hM6, hB6, hP6, hd6, hu6⟩))
      go_roundw
      case rel => exact ⟨k + 1, M6, lab6, x6, s6, by have := HKM.out; omega, by go_num, h, hM6, hB6, hP6, by
       rcases hd6 with e | e
       ·exact .inl e
       ·rcases HPK.out with e2 | e2
        ·exact absurd e2 HF5.out
        ·exact .inr (by omega), fun v hv => hu6 v (by have := HLT.out; omega) (by omega) (HR5.out v hv)⟩
      case measure => have := HKM.out; simp [intOf]; omega
    ·have HF5 : Hid ((s5.thr t).frames = []) := Lib.hid (by
      rcases HPK.out with e | e
      ·exact e
      ·have := (HJ.out.pot t _ _ _ HP5.out).1; omega)
     obtain rfl : most = k := by omega
     have hkk : ¬ (most : Int) < (most : Int) := by omega
     clear hkm hk
     obtain ⟨fvD, hvD, fbD, hTD⟩ := HM5.out.each t q (by rw [HJ.out.same _ _ _ HP5.out]; exact HQ.out)
     have hlD := hTD.flen
     have DPD := Lib.hid (fun (w : World) (h : Has σ M5 w) => thrDeep_eq h hTD)
     rw [hlD, HF5.out] at DPD
     have THD := Lib.hid (fun (w : World) (h : Has σ M5 w) => mThread_yes h HM5.out (t := t) (q := q) (by rw [HJ.out.same _ _ _ HP5.out]; exact HQ.out))
     have zz : (([] : List FrameS).length : Int) = 0 := rfl
     clear hTD hlD
     go_wp2_with (first
      | (go_at_call 13; refine (THD.out _ h).mono ?_; clear h; rintro _ w ⟨rfl, h⟩)
      | (go_at_call 30; refine (DPD.out _ h).mono ?_; clear h; rintro _ w ⟨rfl, h⟩))
     go_roundw
     case rel => exact ⟨t + 1, by have := HLT.out; omega, rfl, by first | rfl | (have := HLT.out; go_num), M5, lab5, x5, s5, h, HM5.out, HB5.out, HJ.out.mono _ _ _ _ HP5.out (by have e := sub_mul_succ (m := most) HLT.out; have := HKL.out; omega), fun v hv => by
      by_cases e : v = t
      ·rw [e]; exact HF5.out
      ·exact HR5.out v (by omega)⟩
     case measure => have := HLT.out; simp [intOf]; omega
  ·have TH := Lib.hid (fun (w : World) (h : Has σ M2 w) => mThread_no h hM2 (t : Nat) (.inr (by rw [HJ.out.same _ _ _ hP2]; omega)))
   obtain rfl : t = tp.length := by omega
   have HM2 := Lib.hid hM2
   have HB2 := Lib.hid hB2
   have HP2 := Lib.hid hP2
   have HR2 := Lib.hid hR2
   clear hM2 hB2 hP2 hR2
   go_wp2_with (first
    | (go_at_call 13; refine (TH.out _ h).mono ?_; clear h; rintro _ w ⟨rfl, h⟩))
   go_ret
   exact ⟨rfl, M2, lab2, x2, s2, h, HM2.out, HB2.out, HJ.out.mono _ _ _ _ HP2.out (Nat.zero_le _), HR2.out⟩
end
section
theorem map_set {α : Type} (f : Nat → α) (n k : Nat) (y : α) : ((List.range n).map f).set k y = (List.range n).map (put1 f k y) := by
 apply List.ext_getElem?
 intro i
 rw [List.getElem?_set, List.getElem?_map, List.getElem?_map]
 by_cases hi : i < n
 ·rw [List.getElem?_range hi]
  by_cases e : k = i
  ·subst e; rw [if_pos rfl, if_pos (by simpa using hi)]; simp [put1]
  ·rw [if_neg e]; simp [put1, show ¬ i = k from fun h => e h.symm]
 ·rw [List.getElem?_eq_none (by simpa using hi)]
  simp [hi]
  omega
end
section
open Go.RowKit
def enc2 (x : Int × Int) : List Value := [.int .i64 x.1, .int .i64 x.2]
/-- One element of a row of the call's own is stored, at a step of a region that draws. -/
theorem step_putRow {P : Program} {op : Oper} {a : Act} {ops : Array Oper} {σ w : World} {M M0 : Mm} {Q : Exit → Act → World → Prop} {K : Act → World → Prop} {E : Prop} {α : Type} {enc : α → List Value} {e : TypeId} {sz n g cap : Nat} {L : List α} (hen : ∀ x, (enc x).length = sz) (h : Has σ M w) (hle : M0.le M) (hown : Own M0 M e sz (.slice (some ⟨g, 0, none⟩) n cap) n (L.flatMap enc)) (hL : L.length = n)
  (hgd : op.guard = none) (t : TypeId) (x y : Operand) (ho : op.op = .store t x y) (hdst : op.dst = none) {k : Nat} (hx : a.eval x = .pointer (some ⟨g, k * sz, none⟩)) {cells : Array Value} (hy : a.eval y = .agg cells) (hk : k < n) (z : α) (hz : cells.toList = enc z) (h1 : ∀ u ∈ enc z, u.oneCell' = true)
  (hi : (P.info? t).map (·.size) = some sz)
  (hK : ∀ w' M', Has σ M' w' → M0.le M' → Own M0 M' e sz (.slice (some ⟨g, 0, none⟩) n cap) n ((L.set k z).flatMap enc) → K a w') : if Region.wanted op (yielded ops a.tmps) = true then Oper.wp P op a w K Q else E := by
 have hw : Region.wanted op (yielded ops a.tmps) = true := by simp [Region.wanted, hgd]
 rw [if_pos hw]
 obtain ⟨M', hh, hle', hown'⟩ := Own.putRow hen h hle hown (k := k) (by omega) z hL
 have hsz : cells.size = sz := by have := congrArg List.length hz; simpa [hen] using this
 refine wp_store_mid t x y ho g (k * sz) cells hx hy ?_ (by rw [hi, hsz]) (by rw [Array.all_eq_true_iff_forall_mem]; exact fun u hu => h1 u (by rw [← hz]; simpa using hu)) ?_
 ·intro j hj
  obtain ⟨_, ⟨hv, _⟩ | ⟨g', cap', cur, hv, hg, hM, hc, hm, hs, ht⟩⟩ := hown
  ·cases hv
  ·cases hv
   have : k * sz + j < cur.size := by
    rw [hs]
    have : (k + 1) * sz ≤ cap * sz := Nat.mul_le_mul_right _ (by omega)
    rw [Nat.add_mul, Nat.one_mul] at this
    omega
   exact ⟨by rw [h.cell hM, Array.getElem?_eq_getElem this]; rfl, h.free hM _⟩
 ·rw [hdst, hz]
  exact hK _ _ hh hle' hown'
theorem natv_erase (l : List Nat) (k : Nat) : natv (l.eraseIdx k) = (natv l).take k ++ (natv l).drop (k + 1) := by
 unfold natv
 rw [List.eraseIdx_eq_take_drop_succ, List.map_append, List.map_take, List.map_drop]
theorem outK_self {K M : Mm} {labK : Nat → Nat} {j : Nat} (h : ∀ c o, K c = some o → labK c ≠ j) : outK K M labK j = M := by
 funext c
 unfold outK
 cases e : K c with
 | none => rfl
 | some o => simp only [if_neg (h c o e)]
theorem stable_outK {K M : Mm} {labK : Nat → Nat} {j : Nat} (hB : K.le M) (hj : j ≠ 0) : (stable K labK).le (outK K M labK j) := fun c o h => by
 unfold stable at h
 split at h
 ·next hl => exact outK_of hB h (by rw [hl]; exact Ne.symm hj)
 ·cases h
end
section
open Go.RowKit
theorem mc_idle {c : Nat → Int} {tp : List Nat} {n t : Nat} {s : MachS} {g : GM} (hA : AbsM c tp n s g) (ht : (t : Int) < c 1) : (s.thr t).frames = [] ↔ g.thr t = [] := by
 rw [hA.thr.fr t ht]
 cases g.thr t <;> simp
/-- A thread's depth. -/
theorem mc_deep {σ : World} {M : Mm} {lab : Nat → Nat} {p t q n : Nat} {c : Nat → Int} {tp : List Nat} {s : MachS} {g : GM} (hM : Mach M lab p s) (hA : AbsM c tp n s g) (ht : (t : Int) < c 1) (hq : tp[t]? = some q) :
  ∀ w, Has σ M w → Calls Tryz.prog 30 #[.pointer (some ⟨q, 0, none⟩)] w fun r w' => r = .returned (.int .i64 ((g.thr t).length : Nat)) ∧ Has σ M w' := fun w h => by
 obtain ⟨fv, hv, fbs, hTh⟩ := hM.each t q (by rw [hA.ttp]; exact hq)
 have hl := hTh.flen
 have := thrDeep_eq h hTh
 rw [hl, hA.thr.fr t ht, List.length_map] at this
 exact this
/-- A thread begins a routine. -/
theorem mc_call {σ w : World} {K M : Mm} {lab : Nat → Nat} {p t q n : Nat} {c : Nat → Int} {tp : List Nat} {s : MachS} {g : GM} (h : Has σ M w) (hM : Mach M lab p s) (hB : Base K M lab) (hA : AbsM c tp n s g) (ht : (t : Int) < c 1) (hq : tp[t]? = some q) (hi : g.thr t = []) (fn : Nat) {us : List Nat} {rv : Value} (hr : Rd M 1 rv us.length (u64s (us.map fun u : Nat => (u : Int)))) (hu : us.length ≤ 16) :
  Calls Tryz.prog 34 #[.pointer (some ⟨q, 0, none⟩), .int .i64 (fn : Nat), rv] w fun r w' => r = .returned (.tuple #[]) ∧ ∃ M' lab' s', Has σ M' w' ∧ Mach M' lab' p s' ∧ Base K M' lab' ∧ AbsM c tp n s' (g.top t [] ⟨fn, 0, fun i => us.getD i 0⟩) := by
 have hq2 : s.tp[t]? = some q := by rw [hA.ttp]; exact hq
 obtain ⟨fv, hv, fbs, hTh⟩ := hM.each t q hq2
 have hl := hTh.flen
 rw [hA.thr.fr t ht, hi] at hl
 refine (thrCall_eq h hTh fn (rv := rv) (us := us.map fun u : Nat => (u : Int)) (by rw [List.length_map]; exact hr) (by rw [List.length_map]; exact hu) (by rw [hl]; decide)).mono fun r w' hq => ?_
 obtain ⟨e1, M', lab', hh, hK, hI⟩ := hq
 obtain ⟨hM', hB'⟩ := hM.thrTo hB hq2 hK hI
 have hA2 := hA.begun ht fn us
 rw [hi] at hA2
 exact ⟨e1, M', lab', _, hh, hM', hB', hA2⟩
theorem McT.len {B S l t : Nat} {g : GM} {z : StG} {had : List Nat} {md : List Mk} {d : DeedS} (h : McT B S l t g z had md d) : (g.thr t).length ≤ 2 := by
 rcases h with ⟨h, _⟩ | ⟨_, h, _⟩ | ⟨_, h, _⟩ | ⟨_, _, h, _⟩ | ⟨_, _, _, h, _⟩ <;> (rw [h]; simp)
theorem McI.len {B S gens NL T m t : Nat} {lev : Nat → Nat} {g : GM} {md : Nat → List Mk} {nw : Nat → DeedS} (h : McI B S gens NL T lev m g md nw) (ht : t < T) : (g.thr t).length ≤ 2 := by
 obtain ⟨z, L, ow, had, ev, emp, _, hZ⟩ := h.ex
 exact (hZ.thr t ht).len
theorem McI.short {B S gens NL T m t : Nat} {lev : Nat → Nat} {g : GM} {md : Nat → List Mk} {nw : Nat → DeedS} (h : McI B S gens NL T lev m g md nw) (ht : t < T) : (md t).length ≤ S := by
 obtain ⟨z, L, ow, had, ev, emp, hI, hZ⟩ := h.ex
 have h1 := (hI.inv.had t)
 have h2 : (had t).length ≤ S := nodup_len h1.nodup fun x hx => ⟨(h1.all x hx).1, (h1.all x hx).2.1⟩
 have h3 : (md t).length ≤ (had t).length := by
  rcases hZ.thr t ht with ⟨_, _, h⟩ | ⟨_, _, _, _, _, h⟩ | ⟨_, _, _, _, _, _, h⟩ | ⟨_, _, _, _, _, _, _, _, h⟩ | ⟨_, _, _, _, _, _, _, _, h, _⟩ <;> (rw [h]; simp)
 omega
theorem McI.each {B S gens NL T m t : Nat} {lev : Nat → Nat} {g : GM} {md : Nat → List Mk} {nw : Nat → DeedS} (h : McI B S gens NL T lev m g md nw) (ht : t < T) : ∀ x ∈ md t, 1 ≤ x.1 ∧ x.1 ≤ S ∧ IsNd B S g (lev t) x := fun x hx => by
 obtain ⟨z, L, ow, had, ev, emp, hI, hZ⟩ := h.ex
 have h1 := (hI.inv.had t).all x.1 ((hZ.thr t ht).sub x hx)
 exact ⟨h1.1, h1.2.1, hZ.all t ht x hx⟩
theorem McI.pot {B S gens NL T m t : Nat} {lev : Nat → Nat} {g : GM} {md : Nat → List Mk} {nw : Nat → DeedS} (h : McI B S gens NL T lev m g md nw) (ht : t < T) : 1 ≤ potM (lev t) t g ∧ potM (lev t) t g ≤ 30 := by
 obtain ⟨z, L, ow, had, ev, emp, hI, hZ⟩ := h.ex
 unfold potM
 rcases hZ.thr t ht with ⟨h, _⟩ | ⟨F, h, _, h2, _⟩ | ⟨G, h, h2, _, h3, _⟩ | ⟨G, F, h, _⟩ | ⟨G, x, gn, h, h2, _, h3, _⟩
 ·rw [h]; simp
 ·rw [h]
  show 1 ≤ (if F.fn = 30 then _ else potF _ _) ∧ (if F.fn = 30 then _ else potF _ _) ≤ 30
  rw [if_neg (by omega)]
  have := pot_pos (g.w (lev t) 0) (frS F)
  have := pot_le (g.w (lev t) 0) (frS F)
  omega
 ·rw [h]
  show 1 ≤ (if G.fn = 30 then (if G.pc = 0 then 12 else 8 - G.pc) else _) ∧ (if G.fn = 30 then (if G.pc = 0 then 12 else 8 - G.pc) else _) ≤ 30
  rw [if_pos h2.1]
  split <;> omega
 ·rw [h]
  show 1 ≤ 7 + potF _ _ ∧ 7 + potF _ _ ≤ 30
  have := pot_le (g.w (lev t) 0) (frS F)
  omega
 ·rw [h]
  show 1 ≤ (if G.fn = 30 then (if G.pc = 0 then 12 else 8 - G.pc) else _) ∧ (if G.fn = 30 then (if G.pc = 0 then 12 else 8 - G.pc) else _) ≤ 30
  rw [if_pos h2.1]
  split <;> omega
/-- A step of a thread of a crowd. -/
theorem mc_step {σ w : World} {K M : Mm} {lab : Nat → Nat} {p t q n m L B S T gens : Nat} {c : Nat → Int} {tp : List Nat} {s : MachS} {g : GM} {md : Nat → List Mk} {nw : Nat → DeedS} (h : Has σ M w) (hM : Mach M lab p s) (hB : Base K M lab) (hc : ConfMay c) (hn : Nums c L B S) (hg : c 12 = (gens : Nat)) (hT : c 1 = (T : Nat)) (ha : n < 90000) (hm : m < 90000) (ht : t < T) (hq : tp[t]? = some q)
  (hA : AbsM c tp n s g) (hI : McI B S gens L T (levT c) m g md nw) (hfr : g.thr t ≠ []) :
  Calls Tryz.prog 33 #[.pointer (some ⟨p, 0, none⟩), .int .i64 (t : Nat), (.func (.func 41) #[] #[])] w fun r w' => ∃ M' lab' s' g' md' m', r = .returned (.bool (!(g'.thr t).isEmpty)) ∧ Has σ M' w' ∧ Mach M' lab' p s' ∧ Base K M' lab' ∧ AbsM c tp (n + 1) s' g' ∧ m' ≤ m + 1 ∧ McI B S gens L T (levT c) m' g' md' nw ∧ (∀ u, u ≠ t → g'.thr u = g.thr u) ∧ McO T (levT c) t g' md md' (nw t) S ∧ (g'.thr t = [] ∨ potM (levT c t) t g' + 1 ≤ potM (levT c t) t g) := by
 obtain ⟨elv, ll⟩ := levT_of hc hn hT ht
 have ht1 : (t : Int) < c 1 := by rw [hT]; omega
 have hlen := hI.len ht
 obtain ⟨g2, md2, m2, hD, h1, h2, h3, h4, h5, h6⟩ := mc_next (σ := σ) (p := p) (n := n) (by omega) (by omega) ht1 hq elv (by rw [hn.lev]; omega) hn.lim hn.slo hg hn.s0.2 ht ll hI hfr
 refine (step_does h hM hB hA (by omega) ht1 hq elv hfr (by omega) (by omega) (by kernel_rfl) hD).mono fun r w' hr => ?_
 obtain ⟨M', lab', s', hr, hw', hM', hB', hA'⟩ := hr
 exact ⟨M', lab', s', g2, md2, m2, hr, hw', hM', hB', hA', h1, h2, h3, h5, h6⟩
/-- What is known of a crowd, with so many steps left. -/
def McJ (c : Nat → Int) (tp : List Nat) (B S gens L T : Nat) (b : Nat) (g : GM) (s : MachS) : Prop := ∃ n m md nw, AbsM c tp n s g ∧ McI B S gens L T (levT c) m g md nw ∧ n + b < 90000 ∧ m + b < 90000
def potMT (T : Nat) (lev : Nat → Nat) (t : Nat) (g : GM) : Nat := if t < T then potM (lev t) t g else 1
theorem mc_open {σ : World} {K : Mm} {p L B S T gens : Nat} {c : Nat → Int} {tp : List Nat} (hc : ConfMay c) (hn : Nums c L B S) (hg : c 12 = (gens : Nat)) (hT : c 1 = (T : Nat)) (htp : tp.length = T) : OpenJ σ K p tp (.func (.func 41) #[] #[]) 30 (McJ c tp B S gens L T) (potMT T (levT c)) := by
 refine ⟨fun b g s ⟨n, m, md, nw, hA, _⟩ => hA.ttp, fun b b' g s ⟨n, m, md, nw, hA, hI, h1, h2⟩ hb => ⟨n, m, md, nw, hA, hI, by omega, by omega⟩, fun t b g s M lab w ht h hM hB hP hfr => ?_, fun t b g s hP => ?_⟩
 ·obtain ⟨n, m, md, nw, hA, hI, h1, h2⟩ := hP
  have htT : t < T := by omega
  have ht1 : (t : Int) < c 1 := by omega
  obtain ⟨q, hq⟩ : ∃ q, tp[t]? = some q := ⟨_, List.getElem?_eq_getElem ht⟩
  refine (mc_step h hM hB hc hn hg hT (by omega) (by omega) htT hq hA hI fun e => hfr ((mc_idle hA ht1).2 e)).mono fun r w' hr => ?_
  obtain ⟨M', lab', s', g', md', m', hr, hw', hM', hB', hA', hm', hI', hu, _, hp⟩ := hr
  refine ⟨M', lab', _, g', s', hr, hw', hM', hB', ⟨n + 1, m', md', nw, hA', hI', by omega, by omega⟩, ?_, fun u huT hut hfu => ?_⟩
  ·rcases hp with hp | hp
   ·exact .inl ((mc_idle hA' ht1).2 hp)
   ·refine .inr ?_
    unfold potMT
    rw [if_pos htT, if_pos htT]
    exact hp
  ·have hu1 : (u : Int) < c 1 := by omega
   exact (mc_idle hA' hu1).2 (by rw [hu u hut]; exact (mc_idle hA hu1).1 hfu)
 ·obtain ⟨n, m, md, nw, hA, hI, h1, h2⟩ := hP
  unfold potMT
  split
  ·next htT => exact hI.pot htT
  ·omega
/-- At rest all is as it must be. -/
theorem mc_odd {σ w : World} {M : Mm} {lab : Nat → Nat} {p n m l L B S T gens : Nat} {c : Nat → Int} {tp : List Nat} {s : MachS} {g : GM} {md : Nat → List Mk} {nw : Nat → DeedS} (h : Has σ M w) (hM : Mach M lab p s) (hA : AbsM c tp n s g) (hn4 : n < 100000) (hn : Nums c L B S) (hg : c 12 = (gens : Nat)) (hl : l < L) (hI : McI B S gens L T (levT c) m g md nw) (hr : ∀ t, t < T → g.thr t = []) :
  Calls Tryz.prog 29 #[.pointer (some ⟨p, 0, none⟩), .int .i64 (l : Nat)] w fun r w' => r = .returned (.int .i64 0) ∧ ∃ M', Has σ M' w' ∧ M.le M' := by
 obtain ⟨z, Lf, ow, had, ev, emp, hC, hZ⟩ := hI.ex
 have hz : ∀ t, t < T → z.thr t = none := fun t ht => by
  have h0 := hr t ht
  rcases hZ.thr t ht with ⟨_, h, _⟩ | ⟨_, h, _⟩ | ⟨_, h, _⟩ | ⟨_, _, h, _⟩ | ⟨_, _, _, h, _⟩
  ·exact h
  all_goals (rw [h0] at h; cases h)
 have hV := hC.inv.lv l hl
 refine odd_gm h hM hA hn4 hn hg hl hZ.abs hV (fun x hx j j1 j5 => ?_) fun i _ _ => hC.rest hz l i
 obtain ⟨a, b, d⟩ := (hV.mem x).1 hx
 have h1 := (hV.off x a b (.inl d)).1
 rw [hZ.abs.held l x hl a b] at h1
 exact hZ.fz l hl x a b h1 j j1 j5
/-- The law's own rows: what each thread made; what it does now. -/
structure LawT (K : Mm) (labK : Nat → Nat) (T bn : Nat) (hv : Value) (fh : Nat → Value) (md : Nat → List Mk) (nw : Nat → DeedS) : Prop where
 hrow : Row K labK 2 87 1 hv T ((List.range T).map fh)
 each : ∀ k, k < T → Row K labK (10 + k) 91 6 (fh k) (md k).length ((md k).flatMap encM)
 nrow : Row K labK 3 86 6 (.slice (some ⟨bn, 0, none⟩) T T) T (((List.range T).map nw).flatMap encD)
section
variable {K K' M : Mm} {labK labK' : Nat → Nat} {T bn k : Nat} {hv v : Value} {fh : Nat → Value} {md : Nat → List Mk} {nw : Nat → DeedS} {h2 : List Mk}
theorem LawT.keep (h : LawT K labK T bn hv fh md nw) (hK : Kp Non K labK K' labK') : LawT K' labK' T bn hv fh md nw :=
 ⟨h.hrow.keep hK fun h => h, fun k hk => (h.each k hk).keep hK fun h => h, h.nrow.keep hK fun h => h⟩
theorem LawT.setN (h : LawT K labK T bn hv fh md nw) {d : DeedS} (hK : Kp (fun j => j = 3) K labK K' labK') (hr : Row K' labK' 3 86 6 (.slice (some ⟨bn, 0, none⟩) T T) T ((((List.range T).map nw).set k d).flatMap encD)) : LawT K' labK' T bn hv fh md (put1 nw k d) :=
 ⟨h.hrow.keep hK (by omega), fun k hk => (h.each k hk).keep hK (by omega), by rw [← map_set]; exact hr⟩
theorem LawT.setH {K2 : Mm} {labK2 : Nat → Nat} (h : LawT K labK T bn hv fh md nw) (hk : k < T) (hK : Kp (fun j => j = 10 + k) K labK K' labK') (hr : Row K' labK' (10 + k) 91 6 v h2.length (h2.flatMap encM)) (hK2 : Kp (fun j => j = 2) K' labK' K2 labK2) {hv2 : Value} (hr2 : Row K2 labK2 2 87 1 hv2 T (((List.range T).map fh).set k v)) : LawT K2 labK2 T bn hv2 (put1 fh k v) (put1 md k h2) nw := by
 refine ⟨by rw [← map_set]; exact hr2, fun i hi => ?_, (h.nrow.keep hK (by omega)).keep hK2 (by omega)⟩
 by_cases e : i = k
 ·subst e; rw [put1_same, put1_same]; exact hr.keep hK2 (by omega)
 ·rw [put1_ne e, put1_ne e]; exact ((h.each i hi).keep hK (by omega)).keep hK2 (by omega)
theorem nw_get {k : Nat} (hk : k < T) (j : Nat) (hj : j < 6) : (((List.range T).map nw).flatMap encD)[k * 6 + j]? = (encD (nw k))[j]? :=
 flat_get encD_len _ k _ (by rw [List.getElem?_map, List.getElem?_range hk]; rfl) j hj
end
def dz : DeedS := ⟨0, 0, 0, 0, 0, 0, by decide, by decide, by decide, by decide⟩
theorem info_D : (Tryz.prog.info? 86).map (fun i => (i.zero, i.size, i.bytes)) = some (some (.agg #[.int .i64 0, .int .i64 0, .int .u8 0, .int .u64 0, .int .u64 0, .int .u64 0]), 6, 48) := by kernel_rfl
theorem made_deeds (n : Nat) : madeCells #[Value.int .i64 0, .int .i64 0, .int .u8 0, .int .u64 0, .int .u64 0, .int .u64 0] (n * 6) = (((List.range n).map fun _ => dz).flatMap encD).toArray := by
 apply Array.ext_getElem?
 intro i
 unfold madeCells
 by_cases hi : i < n * 6
 ·have hk : i / 6 < n := by omega
  have e : i = i / 6 * 6 + i % 6 := by omega
  have hL : (((List.range n).map fun _ => dz).flatMap encD)[i / 6 * 6 + i % 6]? = (encD dz)[i % 6]? := nw_get (nw := fun _ => dz) hk (i % 6) (by omega)
  rw [← e] at hL
  have hL2 : (((List.range n).map fun _ => dz).flatMap encD).toArray[i]? = (encD dz)[i % 6]? := by rw [← Array.getElem?_toList]; exact hL
  rw [hL2, Array.getElem?_map, Array.getElem?_range, if_pos hi, Option.map_some]
  show some (#[Value.int .i64 0, .int .i64 0, .int .u8 0, .int .u64 0, .int .u64 0, .int .u64 0][i % 6]!) = _
  rcases (show i % 6 = 0 ∨ i % 6 = 1 ∨ i % 6 = 2 ∨ i % 6 = 3 ∨ i % 6 = 4 ∨ i % 6 = 5 by omega) with h | h | h | h | h | h <;> (rw [h]; rfl)
 ·rw [Array.getElem?_eq_none (by simp; omega), Array.getElem?_eq_none (by rw [List.size_toArray, flat_length encD_len]; simp; omega)]
theorem mk_deeds (N : Nat) (h : N ≤ 1000) (W : World) : (Instr.makeSlice 79 (.int .i64 N) (.int .i64 N)).run Tryz.prog W = .ok (.slice (some ⟨W.heap.size, 0, none⟩) N N) (W.alloc (.cells (((List.range N).map fun _ => dz).flatMap encD).toArray 86)) := by
 obtain ⟨i, hi, he⟩ := Option.map_eq_some_iff.1 info_D
 simp only [Prod.mk.injEq] at he
 obtain ⟨h1, h2, h3⟩ := he
 rw [run_makeSlice W 79 86 i (.agg #[.int .i64 0, .int .i64 0, .int .u8 0, .int .u64 0, .int .u64 0, .int .u64 0]) Tryz.underlying79 hi h1 .i64 .i64 N N (by omega) (by omega) (by rw [h2, Int.toNat_natCast]; omega) (by rw [h3]; omega) (by omega), Int.toNat_natCast, h2]
 show Result.ok _ (W.alloc (.cells (madeCells #[Value.int .i64 0, .int .i64 0, .int .u8 0, .int .u64 0, .int .u64 0, .int .u64 0] (N * 6)) 86)) = _
 rw [made_deeds N]
end
section
open Go.RowKit
def zeroC : Nat → Int := fun _ => 0
theorem zeroC_may : confMayB zeroC = false := by kernel_rfl
theorem zeroC_level (t : Int) : levelOf zeroC t = -1 := by
 unfold levelOf
 rw [if_neg (fun h => by rw [zeroC_may] at h; cases h.1)]
section
variable {σ w : World} {M : Mm}
theorem nPlan_eq (h : Has σ M w) : Calls Tryz.prog 57 #[.pointer none] w fun r w' => r = .returned (.pointer none) ∧ Has σ M w' := by
 go_enter Tryz.func57, Tryz.ntmps57
 go_wp2
 go_ret
 exact ⟨rfl, h⟩
theorem nConf_eq (h : Has σ M w) : Calls Tryz.prog 58 #[.pointer none] w fun r w' => r = .returned (confV zeroC) ∧ Has σ M w' := by
 go_enter Tryz.func58, Tryz.ntmps58
 go_upto_region 1 with (fail)
 obtain ⟨M4, hbx, hle4, hb4, hn4⟩ := h.box (.cells #[.int .i64 0, .int .i64 0, .int .i64 0, .int .i64 0, .int .i64 0, .int .i64 0, .int .i64 0, .int .i64 0, .int .i64 0, .int .i64 0, .int .i64 0, .int .i64 0, .int .i64 0, .int .i64 0] 24)
 generalize w.alloc _ = wx at hbx ⊢
 generalize w.heap.size = b4 at hb4 hn4 ⊢
 clear h
 try clear w
 have h := hbx
 clear hbx
 obtain ⟨w, rfl⟩ : ∃ x : World, x = wx := ⟨_, rfl⟩
 have hz : (ints .i64 14 zeroC).size = 14 := rfl
 go_wp2_with (first
  | (refine wpList_storeAll_has (cells := ints .i64 14 zeroC) h rfl 24 _ _ rfl rfl rfl hb4 rfl rfl rfl (by kernel_rfl) rfl ?_; clear h; intro w h))
 exact bodyPost_ret (results_cell_row rfl _ _ _ _ _ _ _ rfl (h.at_ b4 _ (Mm.upd_same _ _ _)) Tryz.underlying24 rfl (by rw [hz]; kernel_rfl)) rfl ⟨rfl, h.le (Mm.le_upd hle4 hn4 _)⟩
theorem nLevel_eq (h : Has σ M w) (t : Int) : Calls Tryz.prog 12 #[.pointer none, .int .i64 t] w fun r w' => r = .returned (.int .i64 (-1)) ∧ Has σ M w' := by
 have P1 := Lib.hid (fun (w : World) (h : Has σ M w) => nPlan_eq h)
 have P2 := Lib.hid (fun (w : World) (h : Has σ M w) => nConf_eq h)
 have P3 := Lib.hid (fun (w : World) (h : Has σ M w) => level_has h zeroC t)
 rw [zeroC_level] at P3
 generalize confV zeroC = cz at P2 P3
 go_enter Tryz.func12, Tryz.ntmps12
 go_wp2_with (first
  | (go_at_call 57; refine (P1.out _ h).mono ?_; clear h; rintro _ w ⟨rfl, h⟩)
  | (go_at_call 58; refine (P2.out _ h).mono ?_; clear h; rintro _ w ⟨rfl, h⟩)
  | (go_at_call 56; refine (P3.out _ h).mono ?_; clear h; rintro _ w ⟨rfl, h⟩))
 go_ret
 exact ⟨rfl, h⟩
end
end
section
open Go.RowKit

def okOf (c : Nat → Int) (t : Nat) : Prop := (c 1 ≤ (t : Int) → c (2 + t) = 0) ∧ 0 ≤ c (2 + t) ∧ c (2 + t) < c 0
theorem confMay_iff (c : Nat → Int) : ConfMay c ↔ (1 ≤ c 0 ∧ c 0 ≤ 4) ∧ (1 ≤ c 1 ∧ c 1 ≤ 8) ∧ (∀ t, t < 8 → okOf c t) ∧ (2 ≤ c 10 ∧ c 10 ≤ 60) ∧ (1 ≤ c 11 ∧ c 11 ≤ 40) ∧ (1 ≤ c 12 ∧ c 12 ≤ 1048576) ∧ (0 ≤ c 13 ∧ c 13 ≤ 60) := by
 unfold ConfMay okOf
 constructor
 ·rintro ⟨h0, h1, h2, h3, h4, h5, h6, h7⟩
  refine ⟨h0, h1, fun t ht => ⟨fun hc => ?_, (h3 t ht).1, by have := h3 t ht; omega⟩, h4, h5, h6, h7⟩
  rw [h2 t ht, clearedOf, if_pos (by omega)]
 ·rintro ⟨h0, h1, h2, h4, h5, h6, h7⟩
  refine ⟨h0, h1, fun t ht => ?_, fun t ht => ?_, h4, h5, h6, h7⟩
  ·unfold clearedOf
   split
   ·exact (h2 t ht).1 (by omega)
   ·rfl
  ·have := h2 t ht
   omega
theorem confMayB_false {c : Nat → Int} (h : ¬ ConfMay c) : confMayB c = false := decide_eq_false h

set_option maxHeartbeats 4000000 in
theorem refMay_has {σ w : World} {M : Mm} (h : Has σ M w) (c : Nat → Int) : Calls Tryz.prog 10 #[confV c] w fun e w' => e = .returned (.bool (confMayB c)) ∧ Has σ M w' := by
 have NO : Hid (¬ ConfMay c → confMayB c = false) := confMayB_false
 have YES : Hid (ConfMay c → confMayB c = true) := fun h => decide_eq_true h
 have IFF := Lib.hid (confMay_iff c)
 simp only [confV, ints14_lit]
 go_enter Tryz.func10, Tryz.ntmps10
 go_upto_region 1 with (fail)
 obtain ⟨M1, hbx, hle, hb, hn⟩ := h.box (.cells #[.int .i64 (c 0), .int .i64 (c 1), .int .i64 (c 2), .int .i64 (c 3), .int .i64 (c 4), .int .i64 (c 5), .int .i64 (c 6), .int .i64 (c 7), .int .i64 (c 8), .int .i64 (c 9), .int .i64 (c 10), .int .i64 (c 11), .int .i64 (c 12), .int .i64 (c 13)] 24)
 generalize w.alloc _ = wx at hbx ⊢
 generalize w.heap.size = b at hb hn ⊢
 clear h
 try clear w
 have h := hbx
 clear hbx
 obtain ⟨w, rfl⟩ : ∃ x : World, x = wx := ⟨_, rfl⟩
 have c0 : w.cell? ⟨b, 0, none⟩ = some (.int .i64 (c 0)) := h.cell hb 0
 have c1 : w.cell? ⟨b, 1, none⟩ = some (.int .i64 (c 1)) := h.cell hb 1
 by_cases hr : (1 ≤ c 0 ∧ c 0 ≤ 4) ∧ (1 ≤ c 1 ∧ c 1 ≤ 8)
 ·obtain ⟨⟨r0, r1⟩, r2, r3⟩ := hr
  have q0 : ¬ c 0 < 1 := by omega
  have q1 : ¬ 4 < c 0 := by omega
  have q2 : ¬ c 1 < 1 := by omega
  have q3 : ¬ 8 < c 1 := by omega
  go_wp2
  clear c0 c1 q0 q1 q2 q3
  go_loopw [3] (fun i wr => ∃ k : Nat, k ≤ 8 ∧ i = .int .i64 k ∧ Has σ M1 wr ∧ ∀ t, t < k → okOf c t) (fun i _ => 8 - (intOf i).toNat)
  case atStart => exact ⟨0, by omega, rfl, h, fun t ht => absurd ht (by omega)⟩
  case round =>
   clear h w
   obtain ⟨w, rfl⟩ : ∃ x : World, x = wr := ⟨_, rfl⟩
   obtain ⟨k, hk, rfl, h, hall⟩ := hrel
   have HA := Lib.hid hall
   clear hall
   by_cases hlt : k < 8
   ·have e0 : (#[.int .i64 (c 0), .int .i64 (c 1), .int .i64 (c 2), .int .i64 (c 3), .int .i64 (c 4), .int .i64 (c 5), .int .i64 (c 6), .int .i64 (c 7), .int .i64 (c 8), .int .i64 (c 9), .int .i64 (c 10), .int .i64 (c 11), .int .i64 (c 12), .int .i64 (c 13)] : Array Value)[0]? = some (.int .i64 (c 0)) := rfl
    have e1 : (#[.int .i64 (c 0), .int .i64 (c 1), .int .i64 (c 2), .int .i64 (c 3), .int .i64 (c 4), .int .i64 (c 5), .int .i64 (c 6), .int .i64 (c 7), .int .i64 (c 8), .int .i64 (c 9), .int .i64 (c 10), .int .i64 (c 11), .int .i64 (c 12), .int .i64 (c 13)] : Array Value)[1]? = some (.int .i64 (c 1)) := rfl
    have e2 : (#[.int .i64 (c 0), .int .i64 (c 1), .int .i64 (c 2), .int .i64 (c 3), .int .i64 (c 4), .int .i64 (c 5), .int .i64 (c 6), .int .i64 (c 7), .int .i64 (c 8), .int .i64 (c 9), .int .i64 (c 10), .int .i64 (c 11), .int .i64 (c 12), .int .i64 (c 13)] : Array Value)[2 + k]? = some (.int .i64 (c (2 + k))) := by rw [← ints14_lit, ints_get (by omega)]
    have OK : Hid (okOf c k ↔ (c 1 ≤ (k : Int) → c (2 + k) = 0) ∧ 0 ≤ c (2 + k) ∧ c (2 + k) < c 0) := Iff.rfl
    generalize c (2 + k) = x at e2 OK
    generalize (#[.int .i64 (c 0), .int .i64 (c 1), .int .i64 (c 2), .int .i64 (c 3), .int .i64 (c 4), .int .i64 (c 5), .int .i64 (c 6), .int .i64 (c 7), .int .i64 (c 8), .int .i64 (c 9), .int .i64 (c 10), .int .i64 (c 11), .int .i64 (c 12), .int .i64 (c 13)] : Array Value) = cs at hb e0 e1 e2
    go_upto_region 6 with (fail)
    by_cases hok : okOf c k
    ·obtain ⟨p1, p2, p3⟩ := OK.out.1 hok
     have HN : Hid (∀ t, t < k + 1 → okOf c t) := fun t ht => by
      rcases Nat.lt_or_ge t k with h1 | h1
      ·exact HA.out t h1
      ·obtain rfl : t = k := by omega
       exact hok
     have n2 : ¬ x < 0 := by omega
     have n3 : ¬ c 0 ≤ x := by omega
     clear hok
     by_cases hc1 : c 1 ≤ (k : Int)
     ·have hx0 := p1 hc1
      clear p1
      have hx0' : (x != 0) = false := by simp [hx0]
      have H0 := Lib.hid hx0
      clear hx0
      refine wp_region_class (Has σ M1) (by kernel_rfl) (by kernel_rfl) h.drew ?_
      clear h
      repeat (first
       | go_big_quiet_skip
       | (go_big_quiet_want; first
        | (refine quiet_load_has 3 _ rfl rfl hb e0 Tryz.underlying3 rfl ?_; simp only [Act.put, List.setIfInBounds_toArray, List.set_cons_zero, List.set_cons_succ]; go_big_quiet_on)
        | (refine quiet_load_has 3 _ rfl rfl hb e1 Tryz.underlying3 rfl ?_; simp only [Act.put, List.setIfInBounds_toArray, List.set_cons_zero, List.set_cons_succ]; go_big_quiet_on)
        | (refine quiet_load_has 3 _ rfl rfl hb e2 Tryz.underlying3 rfl ?_; simp only [Act.put, List.setIfInBounds_toArray, List.set_cons_zero, List.set_cons_succ]; go_big_quiet_on)
        | (go_big_quiet_op; first | go_big_quiet_on | go_big_quiet_call (first | with_reducible exact fun _ => rfl))))
      refine wpQuiet_nil ?_
      try clear w
      intro w h
      go_wp2
      go_roundw
      case rel => exact ⟨k + 1, by omega, by go_num, h, HN.out⟩
      case measure => simp [intOf]; omega
     ·clear p1
      refine wp_region_class (Has σ M1) (by kernel_rfl) (by kernel_rfl) h.drew ?_
      clear h
      repeat (first
       | go_big_quiet_skip
       | (go_big_quiet_want; first
        | (refine quiet_load_has 3 _ rfl rfl hb e0 Tryz.underlying3 rfl ?_; simp only [Act.put, List.setIfInBounds_toArray, List.set_cons_zero, List.set_cons_succ]; go_big_quiet_on)
        | (refine quiet_load_has 3 _ rfl rfl hb e1 Tryz.underlying3 rfl ?_; simp only [Act.put, List.setIfInBounds_toArray, List.set_cons_zero, List.set_cons_succ]; go_big_quiet_on)
        | (refine quiet_load_has 3 _ rfl rfl hb e2 Tryz.underlying3 rfl ?_; simp only [Act.put, List.setIfInBounds_toArray, List.set_cons_zero, List.set_cons_succ]; go_big_quiet_on)
        | (go_big_quiet_op; first | go_big_quiet_on | go_big_quiet_call (first | with_reducible exact fun _ => rfl))))
      refine wpQuiet_nil ?_
      try clear w
      intro w h
      go_wp2
      go_roundw
      case rel => exact ⟨k + 1, by omega, by go_num, h, HN.out⟩
      case measure => simp [intOf]; omega
    ·have N := Lib.hid (NO.out fun h1 => hok ((IFF.out.1 h1).2.2.1 k hlt))
     have hcase : (c 1 ≤ (k : Int) ∧ x ≠ 0) ∨ ((c 1 ≤ (k : Int) → x = 0) ∧ x < 0) ∨ ((c 1 ≤ (k : Int) → x = 0) ∧ ¬ x < 0 ∧ c 0 ≤ x) := by
      by_cases a1 : c 1 ≤ (k : Int) ∧ x ≠ 0
      ·exact .inl a1
      ·by_cases a2 : x < 0
       ·exact .inr (.inl ⟨fun h1 => Classical.byContradiction fun h2 => a1 ⟨h1, h2⟩, a2⟩)
       ·refine .inr (.inr ⟨fun h1 => Classical.byContradiction fun h2 => a1 ⟨h1, h2⟩, a2, ?_⟩)
        apply Classical.byContradiction
        intro h3
        exact hok (OK.out.2 ⟨fun h1 => Classical.byContradiction fun h2 => a1 ⟨h1, h2⟩, by omega, by omega⟩)
     clear hok
     rcases hcase with ⟨a1, a2⟩ | ⟨a1, a2⟩ | ⟨a1, a2, a3⟩
     ·have hx0' : (x != 0) = true := by simpa using a2
      clear a2
      refine wp_region_class (Has σ M1) (by kernel_rfl) (by kernel_rfl) h.drew ?_
      clear h
      repeat (first
       | go_big_quiet_skip
       | (go_big_quiet_want; first
        | (refine quiet_load_has 3 _ rfl rfl hb e0 Tryz.underlying3 rfl ?_; simp only [Act.put, List.setIfInBounds_toArray, List.set_cons_zero, List.set_cons_succ]; go_big_quiet_on)
        | (refine quiet_load_has 3 _ rfl rfl hb e1 Tryz.underlying3 rfl ?_; simp only [Act.put, List.setIfInBounds_toArray, List.set_cons_zero, List.set_cons_succ]; go_big_quiet_on)
        | (refine quiet_load_has 3 _ rfl rfl hb e2 Tryz.underlying3 rfl ?_; simp only [Act.put, List.setIfInBounds_toArray, List.set_cons_zero, List.set_cons_succ]; go_big_quiet_on)
        | (go_big_quiet_op; first | go_big_quiet_on | go_big_quiet_call (first | with_reducible exact fun _ => rfl))))
      refine wpQuiet_nil ?_
      try clear w
      intro w h
      go_wp2
      go_ret
      exact ⟨by rw [N.out]; rfl, h.le hle⟩
     ·by_cases hc1 : c 1 ≤ (k : Int)
      ·have hx0 := a1 hc1
       omega
      ·clear a1
       refine wp_region_class (Has σ M1) (by kernel_rfl) (by kernel_rfl) h.drew ?_
       clear h
       repeat (first
        | go_big_quiet_skip
        | (go_big_quiet_want; first
         | (refine quiet_load_has 3 _ rfl rfl hb e0 Tryz.underlying3 rfl ?_; simp only [Act.put, List.setIfInBounds_toArray, List.set_cons_zero, List.set_cons_succ]; go_big_quiet_on)
         | (refine quiet_load_has 3 _ rfl rfl hb e1 Tryz.underlying3 rfl ?_; simp only [Act.put, List.setIfInBounds_toArray, List.set_cons_zero, List.set_cons_succ]; go_big_quiet_on)
         | (refine quiet_load_has 3 _ rfl rfl hb e2 Tryz.underlying3 rfl ?_; simp only [Act.put, List.setIfInBounds_toArray, List.set_cons_zero, List.set_cons_succ]; go_big_quiet_on)
         | (go_big_quiet_op; first | go_big_quiet_on | go_big_quiet_call (first | with_reducible exact fun _ => rfl))))
       refine wpQuiet_nil ?_
       try clear w
       intro w h
       go_wp2
       go_ret
       exact ⟨by rw [N.out]; rfl, h.le hle⟩
     ·by_cases hc1 : c 1 ≤ (k : Int)
      ·have hx0 := a1 hc1
       omega
      ·clear a1
       refine wp_region_class (Has σ M1) (by kernel_rfl) (by kernel_rfl) h.drew ?_
       clear h
       repeat (first
        | go_big_quiet_skip
        | (go_big_quiet_want; first
         | (refine quiet_load_has 3 _ rfl rfl hb e0 Tryz.underlying3 rfl ?_; simp only [Act.put, List.setIfInBounds_toArray, List.set_cons_zero, List.set_cons_succ]; go_big_quiet_on)
         | (refine quiet_load_has 3 _ rfl rfl hb e1 Tryz.underlying3 rfl ?_; simp only [Act.put, List.setIfInBounds_toArray, List.set_cons_zero, List.set_cons_succ]; go_big_quiet_on)
         | (refine quiet_load_has 3 _ rfl rfl hb e2 Tryz.underlying3 rfl ?_; simp only [Act.put, List.setIfInBounds_toArray, List.set_cons_zero, List.set_cons_succ]; go_big_quiet_on)
         | (go_big_quiet_op; first | go_big_quiet_on | go_big_quiet_call (first | with_reducible exact fun _ => rfl))))
       refine wpQuiet_nil ?_
       try clear w
       intro w h
       go_wp2
       go_ret
       exact ⟨by rw [N.out]; rfl, h.le hle⟩
   ·obtain rfl : k = 8 := by omega
    have c10 : w.cell? ⟨b, 10, none⟩ = some (.int .i64 (c 10)) := h.cell hb 10
    have c11 : w.cell? ⟨b, 11, none⟩ = some (.int .i64 (c 11)) := h.cell hb 11
    have c12 : w.cell? ⟨b, 12, none⟩ = some (.int .i64 (c 12)) := h.cell hb 12
    have c13 : w.cell? ⟨b, 13, none⟩ = some (.int .i64 (c 13)) := h.cell hb 13
    have hmay : confMayB c = decide ((2 ≤ c 10 ∧ c 10 ≤ 60) ∧ (1 ≤ c 11 ∧ c 11 ≤ 40) ∧ (1 ≤ c 12 ∧ c 12 ≤ 1048576) ∧ (0 ≤ c 13 ∧ c 13 ≤ 60)) := by
     by_cases hm : (2 ≤ c 10 ∧ c 10 ≤ 60) ∧ (1 ≤ c 11 ∧ c 11 ≤ 40) ∧ (1 ≤ c 12 ∧ c 12 ≤ 1048576) ∧ (0 ≤ c 13 ∧ c 13 ≤ 60)
     ·rw [YES.out (IFF.out.2 ⟨⟨r0, r1⟩, ⟨r2, r3⟩, HA.out, hm⟩), decide_eq_true hm]
     ·rw [NO.out fun h1 => hm (IFF.out.1 h1).2.2.2, decide_eq_false hm]
    have HM := Lib.hid hmay
    clear hmay
    generalize c 10 = x at c10 HM
    generalize c 11 = y at c11 HM
    generalize c 12 = z at c12 HM
    generalize c 13 = v at c13 HM
    by_cases b1 : x < 2
    ·go_wp2
     go_ret
     exact ⟨by rw [HM.out, decide_eq_false (by omega)]; rfl, h.le hle⟩
    ·skip
     by_cases b2 : 60 < x
     ·go_wp2
      go_ret
      exact ⟨by rw [HM.out, decide_eq_false (by omega)]; rfl, h.le hle⟩
     ·skip
      by_cases b3 : y < 1
      ·go_wp2
       go_ret
       exact ⟨by rw [HM.out, decide_eq_false (by omega)]; rfl, h.le hle⟩
      ·skip
       by_cases b4 : 40 < y
       ·go_wp2
        go_ret
        exact ⟨by rw [HM.out, decide_eq_false (by omega)]; rfl, h.le hle⟩
       ·skip
        by_cases b5 : ¬ 1 ≤ z
        ·go_wp2
         go_ret
         exact ⟨by rw [HM.out, decide_eq_false (by omega)]; rfl, h.le hle⟩
        ·skip
         by_cases b6 : ¬ z ≤ 1048576
         ·go_wp2
          go_ret
          exact ⟨by rw [HM.out, decide_eq_false (by omega)]; rfl, h.le hle⟩
         ·skip
          by_cases b7 : ¬ 0 ≤ v
          ·go_wp2
           go_ret
           exact ⟨by rw [HM.out, decide_eq_false (by omega)]; rfl, h.le hle⟩
          ·skip
           by_cases b8 : ¬ v ≤ 60
           ·go_wp2
            go_ret
            exact ⟨by rw [HM.out, decide_eq_false (by omega)]; rfl, h.le hle⟩
           ·skip
            go_wp2
            go_ret
            exact ⟨by rw [HM.out, decide_eq_true (by omega)]; rfl, h.le hle⟩
 ·skip
  by_cases b1 : c 0 < 1
  ·have N := Lib.hid (NO.out fun h1 => by have := IFF.out.1 h1; omega)
   go_wp2
   go_ret
   exact ⟨by rw [N.out]; rfl, h.le hle⟩
  ·skip
   by_cases b2 : 4 < c 0
   ·have N := Lib.hid (NO.out fun h1 => by have := IFF.out.1 h1; omega)
    go_wp2
    go_ret
    exact ⟨by rw [N.out]; rfl, h.le hle⟩
   ·skip
    by_cases b3 : c 1 < 1
    ·have N := Lib.hid (NO.out fun h1 => by have := IFF.out.1 h1; omega)
     go_wp2
     go_ret
     exact ⟨by rw [N.out]; rfl, h.le hle⟩
    ·skip
     by_cases b4 : 8 < c 1
     ·have N := Lib.hid (NO.out fun h1 => by have := IFF.out.1 h1; omega)
      go_wp2
      go_ret
      exact ⟨by rw [N.out]; rfl, h.le hle⟩
     ·skip
      omega
end
section
open Go.RowKit

set_option maxHeartbeats 2000000 in
set_option maxRecDepth 20000 in
theorem mCrowd_no {σ w : World} {M : Mm} (h : Has σ M w) (c : Nat → Int) (A : Option Addr) (n cap : Nat) (hm : confMayB c = false) :
  Calls Tryz.prog 7 #[confV c, .slice A n cap] w fun r w' => r = .returned (.bool true) ∧ Has σ M w' := by
 have NW := Lib.hid (fun (M' : Mm) (w : World) (h : Has σ M' w) => mNew_no h c hm)
 have RM := Lib.hid (fun (M' : Mm) (w : World) (h : Has σ M' w) => refMay_has h c)
 have LI := Lib.hid (fun (M' : Mm) (w : World) (h : Has σ M' w) => mi_lives h)
 have hx : (ints .i64 14 c).extract 0 (0 + 14) = ints .i64 14 c := rfl
 have hz : (ints .i64 14 c).size = 14 := rfl
 unfold errV at NW
 rw [hm] at RM
 unfold confV at NW RM ⊢
 generalize ints .i64 14 c = row at NW RM hx hz ⊢
 clear hm
 go_enter Tryz.func7, Tryz.ntmps7
 go_upto_region 1 with (fail)
 obtain ⟨M1, hbx, hle, hbf, hnf⟩ := h.box (.cells row 24)
 generalize w.alloc _ = wx at hbx ⊢
 generalize w.heap.size = bf at hbf hnf ⊢
 clear h
 try clear w
 have h := hbx
 clear hbx
 obtain ⟨w, rfl⟩ : ∃ x : World, x = wx := ⟨_, rfl⟩
 go_wp2_with (first
  | ((with_reducible show wpList _ _ _ ({ dst := _, op := Op.load 24 _, type := _, pos := _, after := _, guard := _ } :: _) _ _); refine wpList_agg_has h rfl 24 _ rfl rfl hbf hx hz Tryz.underlying24 rfl (by kernel_rfl) ?_; try simp only [Act.put, List.setIfInBounds_toArray, List.set_cons_zero, List.set_cons_succ])
  | ((go_at_call 9; refine (NW.out _ _ h).mono ?_; clear h; rintro _ w ⟨b, M2, rfl, h, hle2, hn⟩; have hbf := hle2 _ _ hbf))
  | (go_at_call 10; refine (RM.out _ _ h).mono ?_; clear h; rintro _ w ⟨rfl, h⟩)
  | (go_at_call 38; refine (LI.out _ _ h).mono ?_; clear h; rintro _ w ⟨rfl, h⟩))
 go_ret
 exact ⟨rfl, h.le (Mm.le_trans hle hle2)⟩
set_option maxHeartbeats 2000000 in
set_option maxRecDepth 20000 in
theorem mCrowd_many {σ w : World} {M : Mm} (h : Has σ M w) (c : Nat → Int) (hc : ConfMay c) {L B S : Nat} (hn : Nums c L B S) (A : Option Addr) (n cap : Nat) (hm : confMayB c = true) (h60 : 600 < n) :
  Calls Tryz.prog 7 #[confV c, .slice A n cap] w fun r w' => r = .returned (.bool true) ∧ Has σ M w' := by
 have NW := Lib.hid (fun (M' : Mm) (w : World) (h : Has σ M' w) => mNew_yes h c hc hn)
 have RM := Lib.hid (fun (M' : Mm) (w : World) (h : Has σ M' w) => refMay_has h c)
 have LI := Lib.hid (fun (M' : Mm) (w : World) (h : Has σ M' w) => mi_lives h)
 have hx : (ints .i64 14 c).extract 0 (0 + 14) = ints .i64 14 c := rfl
 have hz : (ints .i64 14 c).size = 14 := rfl
 have g60 : decide ((600 : Int) < (n : Int)) = true := decide_eq_true (by omega)
 have g60' : (600 : Int) < (n : Int) := by omega
 rw [hm] at RM
 unfold confV at NW RM ⊢
 generalize ints .i64 14 c = row at NW RM hx hz ⊢
 clear hm hc hn h60
 go_enter Tryz.func7, Tryz.ntmps7
 go_upto_region 1 with (fail)
 obtain ⟨M1, hbx, hle, hbf, hnf⟩ := h.box (.cells row 24)
 generalize w.alloc _ = wx at hbx ⊢
 generalize w.heap.size = bf at hbf hnf ⊢
 clear h
 try clear w
 have h := hbx
 clear hbx
 obtain ⟨w, rfl⟩ : ∃ x : World, x = wx := ⟨_, rfl⟩
 go_wp2_with (first
  | ((with_reducible show wpList _ _ _ ({ dst := _, op := Op.load 24 _, type := _, pos := _, after := _, guard := _ } :: _) _ _); refine wpList_agg_has h rfl 24 _ rfl rfl hbf hx hz Tryz.underlying24 rfl (by kernel_rfl) ?_; try simp only [Act.put, List.setIfInBounds_toArray, List.set_cons_zero, List.set_cons_succ])
  | ((go_at_call 9; refine (NW.out _ _ h).mono ?_; clear h; rintro _ w ⟨p, M2, lab2, s, rfl, h, hB2, hM2, hN⟩; have hle2 := hB2.le; clear hB2 hM2 hN; have hbf := hle2 _ _ hbf))
  | (go_at_call 10; refine (RM.out _ _ h).mono ?_; clear h; rintro _ w ⟨rfl, h⟩)
  | (go_at_call 38; refine (LI.out _ _ h).mono ?_; clear h; rintro _ w ⟨rfl, h⟩))
 go_ret
 exact ⟨rfl, h.le (Mm.le_trans hle hle2)⟩
/-- What holds of the machine ahead of the law's next round. -/
structure McS (c : Nat → Int) (B S gens L T : Nat) (tp : List Nat) (i : Nat) (s : MachS) (md : Nat → List Mk) (nw : Nat → DeedS) : Prop where
 all : ∃ a m g, a ≤ i ∧ m ≤ 2 * i ∧ AbsM c tp a s g ∧ McI B S gens L T (levT c) m g md nw
theorem McS.mono {c : Nat → Int} {B S gens L T i j : Nat} {tp : List Nat} {s : MachS} {md : Nat → List Mk} {nw : Nat → DeedS} (h : McS c B S gens L T tp i s md nw) (hij : i ≤ j) : McS c B S gens L T tp j s md nw := by
 obtain ⟨a, m, g, h1, h2, h3, h4⟩ := h.all
 exact ⟨⟨a, m, g, by omega, by omega, h3, h4⟩⟩
theorem McS.first {c : Nat → Int} {B S gens L T : Nat} {s : MachS} (hn : Nums c L B S) (hc : ConfMay c) (hg : c 12 = (gens : Nat)) (h : s.New c L B S) (hw : s.ward.lv = s.c 0 ∧ s.ward.sl = s.c 10) : McS c B S gens L T s.tp 0 s (fun _ => []) (fun _ => dz) :=
 ⟨⟨0, 0, gm0 B S, Nat.le_refl _, Nat.le_refl _, absM_first hn hc h hw, McI.first hn.s0.1 (by have := hc.2.2.2.2.2.2.1; omega)⟩⟩
/-- The machine and the law's own rows, ahead of what comes next. -/
structure McL (M1 : Mm) (T bh bn bd p : Nat) (M : Mm) (lab : Nat → Nat) (K : Mm) (labK : Nat → Nat) (s : MachS) (fh : Nat → Value) (md : Nat → List Mk) (nw : Nat → DeedS) (d : DeedS) : Prop where
 mach : Mach M lab p s
 base : Base K M lab
 m1 : M1.le (stable K labK)
 law : LawT K labK T bn (.slice (some ⟨bh, 0, none⟩) T T) fh md nw
 drow : Row K labK 4 86 6 (.slice (some ⟨bd, 0, none⟩) 1 1) 1 (encD d)
section
variable {M1 M M' K : Mm} {T bh bn bd p k : Nat} {lab lab' labK : Nat → Nat} {s s' : MachS} {fh : Nat → Value} {md : Nat → List Mk} {nw : Nat → DeedS} {d d2 : DeedS}
theorem McL.on (h : McL M1 T bh bn bd p M lab K labK s fh md nw d) (hM : Mach M' lab' p s') (hB : Base K M' lab') : McL M1 T bh bn bd p M' lab' K labK s' fh md nw d := ⟨hM, hB, h.m1, h.law, h.drow⟩
theorem McL.m1le (h : McL M1 T bh bn bd p M lab K labK s fh md nw d) : M1.le M := Mm.le_trans h.m1 (Mm.le_trans (stable_le _ _) h.base.le)
theorem McL.atD (h : McL M1 T bh bn bd p M lab K labK s fh md nw d) : ∃ cur : Array Value, M bd = some (.cells cur 86) ∧ (∀ (j : Nat) (u : Value), (encD d)[j]? = some u → cur[j]? = some u) ∧ cur.extract 0 (0 + 6) = (encD d).toArray := by
 obtain ⟨cur, h1, h2⟩ := Own.at_ h.drow
 exact ⟨cur, h.base.le _ _ h1, h2, extract_of (xs := encD d) (fun j u hu => by rw [Nat.zero_add]; exact h2 j u hu) rfl⟩
theorem McL.atN (h : McL M1 T bh bn bd p M lab K labK s fh md nw d) (hk : k < T) : ∃ cur : Array Value, M bn = some (.cells cur 86) ∧ (∀ (j : Nat) (u : Value), (encD (nw k))[j]? = some u → cur[k * 6 + j]? = some u) ∧ cur.extract (k * 6) (k * 6 + 6) = (encD (nw k)).toArray := by
 obtain ⟨cur, h1, h2⟩ := Own.at_ h.law.nrow
 have h3 : ∀ (j : Nat) (u : Value), (encD (nw k))[j]? = some u → cur[k * 6 + j]? = some u := fun j u hu => h2 _ _ (by rw [nw_get hk j (by have := (List.getElem?_eq_some_iff.1 hu).1; simpa [encD] using this)]; exact hu)
 exact ⟨cur, h.base.le _ _ h1, h3, extract_of (xs := encD (nw k)) h3 rfl⟩
theorem McL.atH (h : McL M1 T bh bn bd p M lab K labK s fh md nw d) (hk : k < T) : ∃ (cur : Array Value) (A : Option Addr) (cap : Nat), K bh = some (.cells cur 87) ∧ fh k = .slice A (md k).length cap ∧ cur[k]? = some (.slice A (md k).length cap) ∧ k < cur.size ∧ Row K labK (10 + k) 91 6 (.slice A (md k).length cap) (md k).length ((md k).flatMap encM) := by
 obtain ⟨cur, h1, h2⟩ := Own.at_ h.law.hrow
 have hE := h.law.each k hk
 obtain ⟨A, cap, hf⟩ := hE.form
 have e := h2 k _ (by rw [List.getElem?_map, List.getElem?_range hk]; rfl)
 rw [hf] at e hE
 exact ⟨cur, A, cap, h1, hf, e, (Array.getElem?_eq_some_iff.1 e).1, hE⟩
/-- The law's own deed is another one. -/
theorem McL.putD (h : McL M1 T bh bn bd p M lab K labK s fh md nw d) (hle : (outK K M labK 4).le M') (hO : Own (outK K M labK 4) M' 86 6 (.slice (some ⟨bd, 0, none⟩) 1 1) 1 (([d].set 0 d2).flatMap encD)) : ∃ lab' K' labK', McL M1 T bh bn bd p M' lab' K' labK' s fh md nw d2 := by
 obtain ⟨lab', K', labK', hM, hB, hK, hR⟩ := h.mach.rowTo h.base hle hO
 exact ⟨lab', K', labK', hM, hB, Mm.le_trans h.m1 (stable_kp hK (by omega)), ⟨h.law.hrow.keep hK (by omega), fun k hk => (h.law.each k hk).keep hK (by omega), h.law.nrow.keep hK (by omega)⟩, hR⟩
theorem McL.ownD (h : McL M1 T bh bn bd p M lab K labK s fh md nw d) : Own (outK K M labK 4) M 86 6 (.slice (some ⟨bd, 0, none⟩) 1 1) 1 ([d].flatMap encD) := h.drow.up h.base.le
theorem encD_one (d : DeedS) : ∀ u ∈ encD d, u.oneCell' = true := fun u hu => by
 simp only [encD, List.mem_cons, List.not_mem_nil, or_false] at hu
 rcases hu with rfl | rfl | rfl | rfl | rfl | rfl <;> rfl
/-- What a thread does now is another deed. -/
theorem McL.putN (h : McL M1 T bh bn bd p M lab K labK s fh md nw d) (hle : (outK K M labK 3).le M') (hO : Own (outK K M labK 3) M' 86 6 (.slice (some ⟨bn, 0, none⟩) T T) T ((((List.range T).map nw).set k d2).flatMap encD)) : ∃ lab' K' labK', McL M1 T bh bn bd p M' lab' K' labK' s fh md (put1 nw k d2) d := by
 obtain ⟨lab', K', labK', hM, hB, hK, hR⟩ := h.mach.rowTo h.base hle hO
 exact ⟨lab', K', labK', hM, hB, Mm.le_trans h.m1 (stable_kp hK (by omega)), h.law.setN hK hR, h.drow.keep hK (by omega)⟩
end
/-- Two blocks of a memory. -/
def Mm.pair (M : Mm) (a b : Nat) : Mm := fun c => if c = a ∨ c = b then M c else none
theorem Mm.pair_a (M : Mm) (a b : Nat) : M.pair a b a = M a := if_pos (.inl rfl)
theorem Mm.pair_b (M : Mm) (a b : Nat) : M.pair a b b = M b := if_pos (.inr rfl)
theorem Mm.pair_le {M M' : Mm} {a b : Nat} (ha : ∀ o, M a = some o → M' a = some o) (hb : ∀ o, M b = some o → M' b = some o) : (M.pair a b).le M' := fun c o h => by
 unfold Mm.pair at h
 split at h
 ·next hc =>
  rcases hc with rfl | rfl
  ·exact ha o h
  ·exact hb o h
 ·cases h
section
variable {M K : Mm} {lab labK : Nat → Nat} {p q t j bd : Nat} {s : MachS} {o : Obj} {xs : List Value}
theorem q_out (hM : Mach M lab p s) (hB : Base K M lab) (hq : s.tp[t]? = some q) (hm : M q = some o) : outK K M labK j q = some o := by
 obtain ⟨fv, hv, fbs, hT⟩ := hM.each t q hq
 have h1 := hT.mark
 have hk : K q = none := by
  cases h : K q with
  | none => rfl
  | some x => have := (hB q x h).2; omega
 unfold outK
 rw [hk]
 exact hm
theorem row_out (hR : Row K labK 4 86 6 (.slice (some ⟨bd, 0, none⟩) 1 1) 1 xs) (hB : Base K M lab) (hj : j ≠ 4) (hm : M bd = some o) : outK K M labK j bd = some o := by
 obtain ⟨_, ⟨hv, _⟩ | ⟨g, cap, cur, hv, hg, hh, _⟩⟩ := hR
 ·cases hv
 ·cases hv
  have hl : labK bd = 4 := by
   by_cases e : labK bd = 4
   ·exact e
   ·have := Mm.out_of hh e
    rw [hg] at this; cases this
  have h1 := hB.le _ _ hh
  rw [h1] at hm
  cases hm
  exact outK_of hB.le hh (by omega)
end
end
section
open Go.RowKit
theorem exec_build {P : Program} {a : Act} {o : Oper} (t : TypeId) (parts : Array (Nat × Operand)) (ho : o.op = .build t parts) (cells : Array Value) (h : P.built t (parts.map fun (i, x) => (i, a.eval x)).toList = some cells) (w : World) : (execOp a.eval o).run P w = .ok (.value (.agg cells)) w := by
 unfold execOp
 simp only [ho, Sem.run_bind, run_build w t _ cells h, Result.andThen_ok]
 rfl
theorem exec_build2 {P : Program} {a : Act} {o : Oper} (t : TypeId) (i1 i2 : Nat) (x1 x2 : Operand) (ho : o.op = .build t #[(i1, x1), (i2, x2)]) (v1 v2 : Value) (e1 : a.eval x1 = v1) (e2 : a.eval x2 = v2) (cells : Array Value) (h : P.built t [(i1, v1), (i2, v2)] = some cells) (w : World) : (execOp a.eval o).run P w = .ok (.value (.agg cells)) w := by
 refine exec_build t _ ho cells ?_ w
 simp only [List.map_toArray, List.map_cons, List.map_nil, e1, e2]
 exact h
/-- A slice literal of one struct, at a step of a region that draws. -/
theorem step_lit1 {P : Program} {op : Oper} {a : Act} {ops : Array Oper} {w : World} {Q : Exit → Act → World → Prop} {K : Act → World → Prop} {E : Prop} {e : TypeId} {z : Value} {size bytes : Nat} {cells : Array Value} (hg : op.guard = none) (t : TypeId) (x : Operand) (ho : op.op = .buildSlice t 1 #[(0, x)]) (hu : P.underlying t = some (.slice e)) (hi : (P.info? e).map (fun i => (i.zero, i.size, i.bytes)) = some (some z, size, bytes)) (hv : a.eval x = .agg cells) (hs : 0 < size) (hs2 : size ≤ 1000) (hf : Instr.fill (fun i => some (i * size, size)) ((Array.range (1 * size)).map (z.cells[· % z.cells.size]!)) [(0, .agg cells)] = some cells)
  (hk : K (a.put op.dst (.slice (some ⟨w.heap.size, 0, none⟩) 1 1)) (w.alloc (.cells cells e))) : if Region.wanted op (yielded ops a.tmps) = true then Oper.wp P op a w K Q else E := by
 have hw : Region.wanted op (yielded ops a.tmps) = true := by simp [Region.wanted, hg]
 rw [if_pos hw]
 obtain ⟨i, hi1, hz, hsize, hby⟩ := info_parts hi
 subst hsize
 refine wp_buildSlice t e 1 #[(0, x)] ho cells i z hu hi1 hz (by omega) (by omega) ?_ hk
 simp only [List.map_toArray, List.map_cons, List.map_nil, hv]
 exact hf
end
end Go.Proofs.YtjeeldacnllipaaGreat
