/- Layer 37 (rest): what a looker reads of a level at first. -/
import Derived.Test.YtlpkimpdeeiaaaaGreatRgA
import Derived.Test.YtlpkimpdeeiaaaaGreatStepP
import Derived.Test.YtlpkimpdeeiaaaaGreatPlanD
import Derived.Test.YtlpkimpdeeiaaaaGreatMachN
import Derived.Test.YtlpkimpdeeiaaaaGreatLead
import Derived.Test.YtlpkimpdeeiaaaaGreatHdl
namespace Go.Proofs.YtlpkimpdeeiaaaaGreat
section
open Go.RowKit
set_option linter.unusedVariables false
set_option linter.unusedSimpArgs false
set_option linter.unnecessarySimpa false
noncomputable def dec (p : Prop) : Bool := @decide p (Classical.propDecidable p)
theorem dec_iff (p : Prop) : dec p = true ↔ p := by unfold dec; exact @decide_eq_true_iff p (Classical.propDecidable p)
theorem Tells.dec {σ : World} {M : Mm} {p : Prop} {r : Ending} {w' : World} (h : Tells σ M p r w') : r = .returned (.bool (Go.Proofs.YtlpkimpdeeiaaaaGreat.dec p)) ∧ Has σ M w' := by
  obtain ⟨b, rfl, hb, h'⟩ := h
  refine ⟨?_, h'⟩
  have : b = Go.Proofs.YtlpkimpdeeiaaaaGreat.dec p := by rw [Bool.eq_iff_iff, hb, dec_iff]
  rw [this]
theorem Mm.le_again {M : Mm} {b c : Nat} {o o' x : Obj} (hn : (M.upd b o) c = none) : (M.upd b o').le (((M.upd b o).upd c x).upd b o') := fun k y hk => by
  by_cases e : k = b
  · subst e
    rw [Mm.upd_same] at hk ⊢
    exact hk
  · rw [Mm.upd_ne e] at hk ⊢
    by_cases e2 : k = c
    · subst e2
      rw [Mm.upd_ne e, hk] at hn
      cases hn
    · rw [Mm.upd_ne e2, Mm.upd_ne e]
      exact hk
def cntS (z : Nat) (L : List RowR) : Nat := (L.filter fun y => setOf y.key == z).length
theorem cntS_take {z : Nat} {L : List RowR} {k : Nat} {y : RowR} (h : L[k]? = some y) : cntS z (L.take (k + 1)) = if setOf y.key = z then cntS z (L.take k) + 1 else cntS z (L.take k) := by
  obtain ⟨hk, rfl⟩ := List.getElem?_eq_some_iff.1 h
  unfold cntS
  rw [List.take_succ_eq_append_getElem hk, List.filter_append, List.length_append]
  by_cases e : setOf (L[k]).key = z
  · rw [if_pos e]; simp [e]
  · rw [if_neg e]; simp [e]
theorem cntS_le (z : Nat) (L : List RowR) : cntS z L ≤ L.length := List.length_filter_le _ _
def RawTo (R : List Nat) (lv : Int) (k : Nat) : Prop := ∀ (i x : Nat), i < k → R[i]? = some x → partsOk x = true ∧ ((x / 1152921504606846976 : Nat) : Int) = lv ∧ ∀ y, 0 < i → R[i - 1]? = some y → y < x
def u64n (R : List Nat) : List Value := R.map fun x : Nat => .int .u64 (x : Nat)
def MeantP (Ls Lc : List RowR) (R : List Nat) (nd : Nat) (lv sl : Int) : Prop := cntS 0 Lc ≤ 4 ∧ cntS 1 Lc ≤ 4 ∧ RiseTo Ls Ls.length ∧ RiseTo Lc Lc.length ∧ RawTo R lv R.length ∧ ((nd : Nat) : Int) ≤ sl
def twoR (a b : Nat) : Array Value := #[.int .i64 (a : Nat), .int .i64 (b : Nat)]
theorem ztwo : (Tryz.prog.info? 45).bind (·.zero) = some (.agg (twoR 0 0)) := by kernel_rfl
def rowZ : Array Value := #[.int .i64 0, .int .u64 0, .int .u64 0]
theorem zrow : (Tryz.prog.info? 50).bind (·.zero) = some (.agg rowZ) := by kernel_rfl
def KeyOk (L : List RowR) : Prop := ∀ y ∈ L, -9223372036854775808 ≤ y.key ∧ y.key ≤ 9223372036854775807
set_option maxHeartbeats 4000000 in
set_option maxRecDepth 20000 in
theorem restMeant_eq {σ w : World} {M : Mm} {As Ac Aq Ar : Option Addr} {ns nc nq nr cs cc cq cr : Nat} {Ls Lc : List RowR} {R : List Nat} (h : Has σ M w) (row : Array Value) (r0 : row[0]? = some (.slice As ns cs)) (r1 : row[1]? = some (.slice Ac nc cc)) (r2 : row[2]? = some (.slice Aq nq cq)) (r3 : row[3]? = some (.slice Ar nr cr)) (hs : Rd M 3 (.slice As ns cs) ns (Ls.flatMap encRo)) (hc : Rd M 3 (.slice Ac nc cc) nc (Lc.flatMap encRo)) (hr : Rd M 1 (.slice Ar nr cr) nr (u64n R)) (ls : Ls.length = ns) (lc : Lc.length = nc) (lr : R.length = nr) (ks : KeyOk Ls) (kc : KeyOk Lc) (kr : ∀ x ∈ R, x < 18446744073709551616) (b0 : ns ≤ 1000) (b1 : nc ≤ 1000) (b2 : nq ≤ 1000) (b3 : nr ≤ 1000) (c : Nat → Int) (lv : Int) (rz : row.size = 11) : Calls Tryz.prog 8 #[.agg row, .agg (ints .i64 14 c), .int .i64 lv] w fun r w' => Tells σ M (MeantP Ls Lc R (ns + nc + nq + nr + 1) lv (c 10)) r w' := by
  have HS := Lib.hid hs
  have HC := Lib.hid hc
  have HR := Lib.hid hr
  have LS := Lib.hid ls
  have LC := Lib.hid lc
  have LR := Lib.hid lr
  have KC := Lib.hid kc
  have KR := Lib.hid kr
  have rx : row.extract 0 (0 + 11) = row := by rw [← rz]; simp
  have ND := Lib.hid (fun (M' : Mm) (w : World) (h : Has σ M' w) => needed_eq h (by omega : ns ≤ 100000) (by omega : nc ≤ 100000) (by omega : nq ≤ 100000) (by omega : nr ≤ 100000) row r0 r1 r2 r3)
  have CS := Lib.hid (fun (M' : Mm) (w : World) (k : Int) (hk : -9223372036854775808 ≤ k ∧ k ≤ 9223372036854775807) (h : Has σ M' w) => cacheSet_eq h hk.1 hk.2)
  have HP := Lib.hid (fun (M' : Mm) (w : World) (x : Nat) (hx : x < 18446744073709551616) (h : Has σ M' w) => handleParts_eq h x hx)
  have f10 : (ints .i64 14 c)[10]? = some (.int .i64 (c 10)) := rfl
  clear hs hc hr ls lc lr kc kr ks
  have BN := Lib.hid b1
  have zt := ztwo
  have zr := zrow
  generalize c 10 = sl at *
  generalize ints .i64 14 c = crow at *
  go_enter Tryz.func8, Tryz.ntmps8
  go_upto_region 1 with (first
    | ((with_reducible show wpList _ _ _ ({ dst := _, op := Op.box 26 _, type := _, pos := _, after := _, guard := _ } :: _) _ _); go_loud (refine wpList_box_has h rfl 26 _ rfl ?_); clear h; intro b3 w h hn3; try simp only [Act.put, List.setIfInBounds_toArray, List.set_cons_zero, List.set_cons_succ])
    | ((with_reducible show wpList _ _ _ ({ dst := _, op := Op.box 29 _, type := _, pos := _, after := _, guard := _ } :: _) _ _); go_loud (refine wpList_box_has h rfl 29 _ rfl ?_); clear h; intro b4 w h hn4; try simp only [Act.put, List.setIfInBounds_toArray, List.set_cons_zero, List.set_cons_succ]))
  replace hn3 : M b3 = none := hn3
  replace hn4 : (M.upd b3 (.cells row 26)) b4 = none := hn4
  replace h : Has σ ((M.upd b3 (.cells row 26)).upd b4 (.cells crow 29)) w := h
  have hle2 : M.le ((M.upd b3 (.cells row 26)).upd b4 (.cells crow 29)) := Mm.le_trans (Mm.le_upd' hn3 _) (Mm.le_upd' hn4 _)
  have hb3 : ((M.upd b3 (.cells row 26)).upd b4 (.cells crow 29)) b3 = some (.cells row 26) := (Mm.le_upd' hn4 _) _ _ (Mm.upd_same _ _ _)
  have hb4 : ((M.upd b3 (.cells row 26)).upd b4 (.cells crow 29)) b4 = some (.cells crow 29) := (Mm.le_refl _) _ _ (Mm.upd_same _ _ _)
  have n_b3_b4 : b3 ≠ b4 := Mm.ne_of hn4 ((Mm.le_refl _) _ _ (Mm.upd_same _ _ _))
  replace hn4 : M b4 = none := Mm.none_of (Mm.le_upd' hn3 _) hn4
  replace hn3 : M b3 = none := Mm.none_of (Mm.le_refl _) hn3
  generalize ((M.upd b3 (.cells row 26)).upd b4 (.cells crow 29)) = M2 at h hle2 hb3 hb4
  go_upto_region 2 with (first
    | ((with_reducible show wpList _ _ _ ({ dst := some 7, op := Op.alloc 45, type := _, pos := _, after := _, guard := _ } :: _) _ _); go_loud (refine wpList_alloc_has h rfl 45 rfl _ zt ?_); clear h; intro b7 w h hn7; try simp only [Act.put, List.setIfInBounds_toArray, List.set_cons_zero, List.set_cons_succ]))
  replace h : Has σ (M2.upd b7 (.cells (twoR 0 0) 45)) w := h
  have hle7 := fun o => Mm.le_upd' hn7 o
  have hb37 := hle7 (.cells (twoR 0 0) 45) _ _ hb3
  go_upto_region 3 with (first
    | (with_reducible show wpList _ _ _ ({ dst := _, op := Op.load 22 _, type := _, pos := _, after := _, guard := _ } :: _) _ _; go_loud (refine wpList_load1_has h rfl 22 _ rfl rfl hb37 r1 Tryz.underlying22 rfl ?_)))
  clear hb37
  go_loopw [9, 19] (fun _ u wr => ∃ k : Nat, k ≤ nc ∧ u = .int .i64 (k : Nat) ∧ Has σ (M2.upd b7 (.cells (twoR (cntS 0 (Lc.take k)) (cntS 1 (Lc.take k))) 45)) wr) (fun _ u _ => nc - (intOf u).toNat)
  case atStart => exact ⟨0, Nat.zero_le _, rfl, h⟩
  case round =>
    clear h w
    obtain ⟨w, rfl⟩ : ∃ x : World, x = wr := ⟨_, rfl⟩
    obtain ⟨k, hk, rfl, h⟩ := hrel
    by_cases hlt : k < nc
    · have hlt' : (k : Int) < (nc : Int) := by omega
      have wk : IntKind.i64.wrap ((k : Int) + 1) = ((k + 1 : Nat) : Int) := by rw [show (k : Int) + 1 = ((k + 1 : Nat) : Int) by omega]; exact IntWalk.i64_in _ (by omega)
      obtain ⟨y, hy⟩ : ∃ y, Lc[k]? = some y := ⟨_, List.getElem?_eq_getElem (by have := LC.out; omega)⟩
      obtain ⟨bl, ol, cl, csl, tl, fl, e1, hMl, hxl⟩ := HC.out.elem encRo_len hlt hy
      cases e1
      have T0 := Lib.hid (cntS_take (z := 0) hy)
      have T1 := Lib.hid (cntS_take (z := 1) hy)
      have hb0 : cntS 0 (Lc.take k) ≤ 1000 := Nat.le_trans (cntS_le _ _) (by rw [List.length_take]; omega)
      have hb1 : cntS 1 (Lc.take k) ≤ 1000 := Nat.le_trans (cntS_le _ _) (by rw [List.length_take]; omega)
      generalize hA0 : cntS 0 (Lc.take k) = a0 at *
      generalize hA1 : cntS 1 (Lc.take k) = a1 at *
      have g3 : csl.extract (ol + k * 3) (ol + k * 3 + 3) = (encRo y).toArray := extract_of (n := 3) hxl rfl
      have hMl2 := hle7 (.cells (twoR a0 a1) 45) _ _ (hle2 _ _ hMl)
      have CS2 := Lib.hid (fun (M' : Mm) (w : World) (h : Has σ M' w) => CS.out M' w y.key (KC.out y (List.mem_of_getElem? hy)) h)
      have ez : (encRo y).toArray.size = 3 := rfl
      have e0 : (encRo y).toArray[0]? = some (.int .i64 y.key) := rfl
      have EO : Hid ((encRo y).toArray.toList.all (·.oneCell') = true) := Lib.hid rfl
      have ZZ : rowZ.size = 3 := rfl
      clear hMl hxl hA0 hA1
      generalize (encRo y).toArray = yr at *
      have m0 : (twoR a0 a1)[0]? = some (.int .i64 (a0 : Nat)) := rfl
      have m1 : (twoR a0 a1)[1]? = some (.int .i64 (a1 : Nat)) := rfl
      have S0 : (twoR a0 a1).setIfInBounds 0 (.int .i64 ((a0 + 1 : Nat) : Int)) = twoR (a0 + 1) a1 := rfl
      have S1 : (twoR a0 a1).setIfInBounds 1 (.int .i64 ((a1 + 1 : Nat) : Int)) = twoR a0 (a1 + 1) := rfl
      have l0 : 0 < (twoR a0 a1).size := by show 0 < 2; omega
      have l1 : 1 < (twoR a0 a1).size := by show 1 < 2; omega
      have wa0 : IntKind.i64.wrap ((a0 : Int) + 1) = ((a0 + 1 : Nat) : Int) := by rw [show (a0 : Int) + 1 = ((a0 + 1 : Nat) : Int) by omega]; exact IntWalk.i64_in _ (by omega)
      have wa1 : IntKind.i64.wrap ((a1 : Int) + 1) = ((a1 + 1 : Nat) : Int) := by rw [show (a1 : Int) + 1 = ((a1 + 1 : Nat) : Int) by omega]; exact IntWalk.i64_in _ (by omega)
      have hb7 := Mm.upd_same M2 b7 (.cells (twoR a0 a1) 45)
      have HN7 := Lib.hid hn7
      have hz := setOf_lt y.key
      generalize hzz : setOf y.key = z at *
      clear hzz hy
      generalize hW : M2.upd b7 (.cells (twoR a0 a1) 45) = W at h hMl2 hb7
      have HW := Lib.hid hW
      clear hW
      go_upto_region 5 with (first
        | ((with_reducible show wpList _ _ _ ({ dst := _, op := Op.load 50 _, type := _, pos := _, after := _, guard := _ } :: _) _ _); go_loud (refine wpList_agg_has h rfl 50 _ rfl rfl hMl2 g3 ez Tryz.underlying50 rfl (by kernel_rfl) ?_); try simp only [Act.put, List.setIfInBounds_toArray, List.set_cons_zero, List.set_cons_succ])
        | ((with_reducible show wpList _ _ _ ({ dst := some 9, op := Op.alloc 50, type := _, pos := _, after := _, guard := _ } :: _) _ _); go_loud (refine wpList_alloc_has h rfl 50 rfl _ zr ?_); clear h; intro b9 w h hn9; try simp only [Act.put, List.setIfInBounds_toArray, List.set_cons_zero, List.set_cons_succ])
        | ((with_reducible show wpList _ _ _ ({ dst := _, op := Op.store 50 _ _, type := _, pos := _, after := _, guard := _ } :: _) _ _); refine wpList_storeAll_has (cells := yr) h rfl 50 _ _ rfl rfl rfl (Mm.upd_same _ _ _) rfl ZZ ez (by kernel_rfl) EO.out ?_; clear h; intro w h))
      rw [Mm.upd_upd] at h
      have hb9 := Mm.upd_same W b9 (.cells yr 50)
      have hb79 : (W.upd b9 (.cells yr 50)) b7 = some (.cells (twoR a0 a1) 45) := Mm.upd_of hn9 hb7
      have BACK : Hid (∀ (o : Obj) (w : World), Has σ ((W.upd b9 (.cells yr 50)).upd b7 o) w → Has σ (M2.upd b7 o) w) := Lib.hid fun o w h => h.le (by rw [← HW.out]; exact Mm.le_again (by rw [HW.out]; exact hn9))
      have CS3 := Lib.hid (CS2.out (W.upd b9 (.cells yr 50)))
      clear CS2 hMl2 g3 hb7 hn9 HW
      generalize W.upd b9 (.cells yr 50) = W2 at *
      rcases (show z = 0 ∨ z = 1 by omega) with rfl | rfl
      · go_wp2_with (first
          | (with_reducible show wpList _ _ _ ({ dst := _, op := Op.load 2 _, type := _, pos := _, after := _, guard := _ } :: _) _ _; go_loud (refine wpList_load1_has h rfl 2 _ rfl rfl hb9 e0 Tryz.underlying2 rfl ?_))
          | (go_at_call 12; go_loud (refine (CS3.out _ h).mono ?_); clear h; rintro _ w ⟨rfl, h⟩)
          | (with_reducible show wpList _ _ _ ({ dst := _, op := Op.load 3 _, type := _, pos := _, after := _, guard := _ } :: _) _ _; go_loud (refine wpList_load1_has h rfl 3 _ rfl rfl hb79 m0 Tryz.underlying3 rfl ?_))
          | (with_reducible show wpList _ _ _ ({ dst := _, op := Op.store 3 _ _, type := _, pos := _, after := _, guard := _ } :: _) _ _; go_loud (refine wpList_store1_has h rfl 3 _ _ rfl rfl rfl hb79 l0 rfl (by kernel_rfl) ?_); clear h; intro w h))
        replace h : Has σ (W2.upd b7 (.cells ((twoR a0 a1).setIfInBounds 0 (.int .i64 ((a0 + 1 : Nat) : Int))) 45)) w := h
        rw [S0] at h
        replace h := BACK.out _ _ h
        have e0' : Hid (cntS 0 (Lc.take (k + 1)) = a0 + 1) := Lib.hid (by rw [T0.out]; simp)
        have e1' : Hid (cntS 1 (Lc.take (k + 1)) = a1) := Lib.hid (by rw [T1.out]; simp)
        go_wp2
        go_roundw
        case rel => exact ⟨k + 1, hlt, by first | rfl | go_num, by rw [e0'.out, e1'.out]; exact h⟩
        case measure => simp [intOf]; omega
      · go_wp2_with (first
          | (with_reducible show wpList _ _ _ ({ dst := _, op := Op.load 2 _, type := _, pos := _, after := _, guard := _ } :: _) _ _; go_loud (refine wpList_load1_has h rfl 2 _ rfl rfl hb9 e0 Tryz.underlying2 rfl ?_))
          | (go_at_call 12; go_loud (refine (CS3.out _ h).mono ?_); clear h; rintro _ w ⟨rfl, h⟩)
          | (with_reducible show wpList _ _ _ ({ dst := _, op := Op.load 3 _, type := _, pos := _, after := _, guard := _ } :: _) _ _; go_loud (refine wpList_load1_has h rfl 3 _ rfl rfl hb79 m1 Tryz.underlying3 rfl ?_))
          | (with_reducible show wpList _ _ _ ({ dst := _, op := Op.store 3 _ _, type := _, pos := _, after := _, guard := _ } :: _) _ _; go_loud (refine wpList_store1_has h rfl 3 _ _ rfl rfl rfl hb79 l1 rfl (by kernel_rfl) ?_); clear h; intro w h))
        replace h : Has σ (W2.upd b7 (.cells ((twoR a0 a1).setIfInBounds 1 (.int .i64 ((a1 + 1 : Nat) : Int))) 45)) w := h
        rw [S1] at h
        replace h := BACK.out _ _ h
        have e0' : Hid (cntS 0 (Lc.take (k + 1)) = a0) := Lib.hid (by rw [T0.out]; simp)
        have e1' : Hid (cntS 1 (Lc.take (k + 1)) = a1 + 1) := Lib.hid (by rw [T1.out]; simp)
        go_wp2
        go_roundw
        case rel => exact ⟨k + 1, hlt, by first | rfl | go_num, by rw [e0'.out, e1'.out]; exact h⟩
        case measure => simp [intOf]; omega
    · obtain rfl : k = nc := by omega
      have hlt' : ¬ (k : Int) < (k : Int) := by omega
      have EC : Hid (Lc.take k = Lc) := Lib.hid (List.take_of_length_le (by have := LC.out; omega))
      rw [EC.out] at h
      have q0 : cntS 0 Lc ≤ 1000 := Nat.le_trans (cntS_le _ _) (by have := LC.out; omega)
      have q1 : cntS 1 Lc ≤ 1000 := Nat.le_trans (cntS_le _ _) (by have := LC.out; omega)
      have MPI : Hid (∀ (C0 C1 : Nat), cntS 0 Lc = C0 → cntS 1 Lc = C1 → (MeantP Ls Lc R (ns + k + nq + nr + 1) lv sl ↔ C0 ≤ 4 ∧ C1 ≤ 4 ∧ RiseTo Ls ns ∧ RiseTo Lc k ∧ RawTo R lv nr ∧ ((ns + k + nq + nr + 1 : Nat) : Int) ≤ sl)) := Lib.hid fun C0 C1 h0 h1 => by unfold MeantP; rw [h0, h1, LS.out, LC.out, LR.out]
      obtain ⟨C0, hC0⟩ : ∃ C0, cntS 0 Lc = C0 := ⟨_, rfl⟩
      obtain ⟨C1, hC1⟩ : ∃ C1, cntS 1 Lc = C1 := ⟨_, rfl⟩
      have MP := Lib.hid (MPI.out C0 C1 hC0 hC1)
      rw [hC0] at h q0
      rw [hC1] at h q1
      have m0 : (twoR C0 C1)[0]? = some (.int .i64 (C0 : Nat)) := rfl
      have m1 : (twoR C0 C1)[1]? = some (.int .i64 (C1 : Nat)) := rfl
      clear MPI hC0 hC1 hlt hk
      have hb75 := Mm.upd_same M2 b7 (.cells (twoR C0 C1) 45)
      have hb35 := hle7 (.cells (twoR C0 C1) 45) _ _ hb3
      have hb45 := hle7 (.cells (twoR C0 C1) 45) _ _ hb4
      have hle5 := Mm.le_trans hle2 (hle7 (.cells (twoR C0 C1) 45))
      clear hle7 hn7 hb3 hb4
      generalize M2.upd b7 (.cells (twoR C0 C1) 45) = M5 at *
      generalize twoR C0 C1 = tw at *
      have RI1 := Lib.hid (fun (w : World) (h : Has σ M5 w) => (rises_eq h LS.out (HS.out.le hle5) (by omega)).mono fun _ _ e => e.dec)
      have RI2 := Lib.hid (fun (w : World) (h : Has σ M5 w) => (rises_eq h LC.out (HC.out.le hle5) (by omega)).mono fun _ _ e => e.dec)
      have ND5 := Lib.hid (ND.out M5)
      have MPD : Hid (∀ (a b : Bool), a = dec (RiseTo Ls ns) → b = dec (RiseTo Lc k) → RawTo R lv nr → (MeantP Ls Lc R (ns + k + nq + nr + 1) lv sl ↔ (decide ((C0 : Int) ≤ 4) && (decide ((C1 : Int) ≤ 4) && (a && (b && decide (((ns + k + nq + nr + 1 : Nat) : Int) ≤ sl))))) = true)) := Lib.hid fun a b ha hb hR => by
        rw [MP.out]
        subst ha
        subst hb
        simp only [Bool.and_eq_true, decide_eq_true_eq, dec_iff]
        exact ⟨fun g => ⟨by omega, by omega, g.2.2.1, g.2.2.2.1, g.2.2.2.2.2⟩, fun g => ⟨by omega, by omega, g.2.2.1, g.2.2.2.1, hR, g.2.2.2.2⟩⟩
      have MPN : Hid (¬ RawTo R lv nr → ¬ MeantP Ls Lc R (ns + k + nq + nr + 1) lv sl) := Lib.hid fun g e => g (MP.out.1 e).2.2.2.2.1
      clear MP ND
      go_upto_region 8 with (first
        | (with_reducible show wpList _ _ _ ({ dst := _, op := Op.load 24 _, type := _, pos := _, after := _, guard := _ } :: _) _ _; go_loud (refine wpList_load1_has h rfl 24 _ rfl rfl hb35 r3 Tryz.underlying24 rfl ?_)))
      go_loopw [10, 11, 12, 13, 14, 15, 34] (fun _ _ _ _ _ _ u wr => ∃ j : Nat, j ≤ nr ∧ u = .int .i64 (j : Nat) ∧ RawTo R lv j ∧ Has σ M5 wr) (fun _ _ _ _ _ _ u _ => nr - (intOf u).toNat)
      case atStart => exact ⟨0, Nat.zero_le _, rfl, fun i x hi => absurd hi (Nat.not_lt_zero _), h⟩
      case round =>
        clear h w
        obtain ⟨w, rfl⟩ : ∃ x : World, x = wr := ⟨_, rfl⟩
        obtain ⟨j, hj, rfl, hraw, h⟩ := hrel
        have HRAW := Lib.hid hraw
        clear hraw
        by_cases hjn : j < nr
        · have hjn' : (j : Int) < (nr : Int) := by omega
          have wj : IntKind.i64.wrap ((j : Int) + 1) = ((j + 1 : Nat) : Int) := by rw [show (j : Int) + 1 = ((j + 1 : Nat) : Int) by omega]; exact IntWalk.i64_in _ (by omega)
          obtain ⟨x, hx⟩ : ∃ x, R[j]? = some x := ⟨_, List.getElem?_eq_getElem (by have := LR.out; omega)⟩
          obtain ⟨_, B', d', e, hd, hB⟩ := HR.out
          cases e
          obtain ⟨bb, ob, csb, tb, fb, rfl, hOb, hxb⟩ := hB (by omega)
          have ex := hxb j (.int .u64 (x : Nat)) (by simp [u64n, hx])
          have hOb5 := hle5 _ _ hOb
          have HPX := Lib.hid (fun (w : World) (h : Has σ M5 w) => HP.out M5 w x (KR.out x (List.mem_of_getElem? hx)) h)
          have NO : Hid (¬ (partsOk x = true ∧ ((x / 1152921504606846976 : Nat) : Int) = lv ∧ ∀ y, 0 < j → R[j - 1]? = some y → y < x) → ¬ MeantP Ls Lc R (ns + k + nq + nr + 1) lv sl) := Lib.hid fun g => MPN.out fun e => g (e j x hjn hx)
          have YES : Hid ((partsOk x = true ∧ ((x / 1152921504606846976 : Nat) : Int) = lv ∧ ∀ y, 0 < j → R[j - 1]? = some y → y < x) → RawTo R lv (j + 1)) := Lib.hid fun g i y hi hy => by
            by_cases e : i = j
            · subst e; rw [hx] at hy; cases hy; exact g
            · exact HRAW.out i y (by omega) hy
          generalize hpo : partsOk x = ok at *
          generalize hla : ((x / 1152921504606846976 : Nat) : Int) = la at *
          have HLT := Lib.hid hjn
          clear hpo hla HRAW
          go_upto_region 10 with (first
            | (with_reducible show wpList _ _ _ ({ dst := _, op := Op.load 46 _, type := _, pos := _, after := _, guard := _ } :: _) _ _; go_loud (refine wpList_load1_has h rfl 46 _ rfl rfl hOb5 ex Tryz.underlying46 rfl ?_)))
          cases ok
          · have NO2 := Lib.hid (NO.out fun g => by cases g.1)
            go_wp2_with (first
              | ((go_at_call 13; refine (HPX.out _ h).mono ?_; clear h; rintro _ w ⟨⟨g, rfl⟩, h⟩)))
            go_ret
            exact ⟨false, rfl, ⟨fun e => (by cases e), fun e => absurd e NO2.out⟩, h.le hle5⟩
          · by_cases hal : la = lv
            · subst hal
              rcases Nat.eq_zero_or_pos j with hj0 | hj0
              · subst hj0
                have YY := Lib.hid (YES.out ⟨rfl, rfl, fun y h0 => absurd h0 (Nat.lt_irrefl _)⟩)
                go_wp2_with (first
                  | ((go_at_call 13; refine (HPX.out _ h).mono ?_; clear h; rintro _ w ⟨⟨g, rfl⟩, h⟩)))
                go_roundw
                case rel => exact ⟨1, by omega, by first | rfl | go_num, YY.out, h⟩
                case measure => have := HLT.out; simp [intOf]; omega
              · obtain ⟨i, rfl⟩ : ∃ i, j = i + 1 := ⟨j - 1, by omega⟩
                have w1 : IntKind.i64.wrap (((i + 1 : Nat) : Int) - 1) = ((i : Nat) : Int) := by rw [show ((i + 1 : Nat) : Int) - 1 = i by omega]; exact IntWalk.i64_in _ (by omega)
                have gi : decide ((0 : Int) < ((i + 1 : Nat) : Int)) = true := decide_eq_true (by omega)
                have gi2 : decide (0 < i + 1) = true := decide_eq_true (by omega)
                have hin : (i : Int) < (nr : Int) := by omega
                obtain ⟨y, hy⟩ : ∃ y, R[i]? = some y := ⟨_, List.getElem?_eq_getElem (by have := LR.out; omega)⟩
                have ey := hxb i (.int .u64 (y : Nat)) (by simp [u64n, hy])
                have HY := Lib.hid hy
                have HIN2 : i < nr := by omega
                generalize hjj : i + 1 = jj at *
                have HJ := Lib.hid hjj
                clear hjj hy
                by_cases hyx : x ≤ y
                · have d1 : decide ((x : Int) ≤ (y : Int)) = true := decide_eq_true (by omega)
                  have d2 : decide (x ≤ y) = true := decide_eq_true hyx
                  have NO2 := Lib.hid (NO.out fun g => by have := g.2.2 y hj0 (by rw [← HJ.out]; exact HY.out); omega)
                  go_wp2_with (first
                    | (with_reducible show wpList _ _ _ ({ dst := _, op := Op.load 24 _, type := _, pos := _, after := _, guard := _ } :: _) _ _; go_loud (refine wpList_load1_has h rfl 24 _ rfl rfl hb35 r3 Tryz.underlying24 rfl ?_))
                    | (with_reducible show wpList _ _ _ ({ dst := _, op := Op.load 46 _, type := _, pos := _, after := _, guard := _ } :: _) _ _; go_loud (refine wpList_load1_has h rfl 46 _ rfl rfl hOb5 ey Tryz.underlying46 rfl ?_))
                    | ((go_at_call 13; refine (HPX.out _ h).mono ?_; clear h; rintro _ w ⟨⟨g, rfl⟩, h⟩)))
                  go_ret
                  exact ⟨false, rfl, ⟨fun e => (by cases e), fun e => absurd e NO2.out⟩, h.le hle5⟩
                · have d1 : decide ((x : Int) ≤ (y : Int)) = false := decide_eq_false (by omega)
                  have d2 : decide (x ≤ y) = false := decide_eq_false hyx
                  have YY := Lib.hid (YES.out ⟨rfl, rfl, fun z h0 hz => by
                    rw [← HJ.out] at hz
                    have e : R[i]? = some z := hz
                    rw [HY.out] at e
                    cases e
                    omega⟩)
                  go_wp2_with (first
                    | (with_reducible show wpList _ _ _ ({ dst := _, op := Op.load 24 _, type := _, pos := _, after := _, guard := _ } :: _) _ _; go_loud (refine wpList_load1_has h rfl 24 _ rfl rfl hb35 r3 Tryz.underlying24 rfl ?_))
                    | (with_reducible show wpList _ _ _ ({ dst := _, op := Op.load 46 _, type := _, pos := _, after := _, guard := _ } :: _) _ _; go_loud (refine wpList_load1_has h rfl 46 _ rfl rfl hOb5 ey Tryz.underlying46 rfl ?_))
                    | ((go_at_call 13; refine (HPX.out _ h).mono ?_; clear h; rintro _ w ⟨⟨g, rfl⟩, h⟩)))
                  go_roundw
                  case rel => exact ⟨jj + 1, by have := HLT.out; omega, by first | rfl | go_num, YY.out, h⟩
                  case measure => have := HLT.out; have := HJ.out; simp [intOf]; omega
            · have NO2 := Lib.hid (NO.out fun g => hal g.2.1)
              have z1 : (la == lv) = false := beq_eq_false_iff_ne.2 hal
              go_wp2_with (first
                | ((go_at_call 13; refine (HPX.out _ h).mono ?_; clear h; rintro _ w ⟨⟨g, rfl⟩, h⟩)))
              go_ret
              exact ⟨false, rfl, ⟨fun e => (by cases e), fun e => absurd e NO2.out⟩, h.le hle5⟩
        · obtain rfl : j = nr := by omega
          have hjn' : ¬ (j : Int) < (j : Int) := by omega
          have RAW := Lib.hid HRAW.out
          obtain ⟨q3, hq3⟩ : ∃ b, dec (RiseTo Ls ns) = b := ⟨_, rfl⟩
          obtain ⟨q4, hq4⟩ : ∃ b, dec (RiseTo Lc k) = b := ⟨_, rfl⟩
          have FIN := Lib.hid (MPD.out q3 q4 hq3.symm hq4.symm RAW.out)
          rw [hq3] at RI1
          rw [hq4] at RI2
          clear hq3 hq4 MPD MPN HRAW hjn hj
          obtain ⟨q1, hq1⟩ : ∃ b, decide ((C0 : Int) ≤ 4) = b := ⟨_, rfl⟩
          obtain ⟨q2, hq2⟩ : ∃ b, decide ((C1 : Int) ≤ 4) = b := ⟨_, rfl⟩
          obtain ⟨q5, hq5⟩ : ∃ b, decide (((ns + k + nq + j + 1 : Nat) : Int) ≤ sl) = b := ⟨_, rfl⟩
          have hq1n : decide (C0 ≤ 4) = q1 := by rw [← hq1]; exact decide_eq_decide.2 (by omega)
          have hq2n : decide (C1 ≤ 4) = q2 := by rw [← hq2]; exact decide_eq_decide.2 (by omega)
          rw [hq1, hq2, hq5] at FIN
          generalize ((ns + k + nq + j + 1 : Nat) : Int) = nd at *
          cases q1
          · go_upto_region 14 with (fail)
            refine wp_region_class (Has σ M5) (by kernel_rfl) (by kernel_rfl) h.drew ?_
            clear h
            repeat (first
              | go_big_quiet_skip
              | (go_big_quiet_want; first
                | (refine quiet_load_has 3 _ rfl rfl hb75 m0 Tryz.underlying3 rfl ?_; simp only [Act.put, List.setIfInBounds_toArray, List.set_cons_zero, List.set_cons_succ]; go_big_quiet_on)
                | (refine quiet_load_has 3 _ rfl rfl hb75 m1 Tryz.underlying3 rfl ?_; simp only [Act.put, List.setIfInBounds_toArray, List.set_cons_zero, List.set_cons_succ]; go_big_quiet_on)
                | (refine quiet_load_has 22 _ rfl rfl hb35 r0 Tryz.underlying22 rfl ?_; simp only [Act.put, List.setIfInBounds_toArray, List.set_cons_zero, List.set_cons_succ]; go_big_quiet_on)
                | (refine quiet_load_has 22 _ rfl rfl hb35 r1 Tryz.underlying22 rfl ?_; simp only [Act.put, List.setIfInBounds_toArray, List.set_cons_zero, List.set_cons_succ]; go_big_quiet_on)
                | (go_loud (refine quiet_agg_has 26 _ rfl rfl hb35 rx rz Tryz.underlying26 rfl (by kernel_rfl) ?_); simp only [Act.put, List.setIfInBounds_toArray, List.set_cons_zero, List.set_cons_succ]; go_big_quiet_on)
                | (refine quiet_load_has 3 _ rfl rfl hb45 f10 Tryz.underlying3 rfl ?_; simp only [Act.put, List.setIfInBounds_toArray, List.set_cons_zero, List.set_cons_succ]; go_big_quiet_on)
                | (go_big_quiet_op; first | go_big_quiet_on | go_big_quiet_call (first | with_reducible exact fun _ => rfl | with_reducible exact RI1.out _ | with_reducible exact RI2.out _ | with_reducible exact ND5.out _))))
            refine wpQuiet_nil ?_
            try clear w
            intro w h
            go_wp2
            go_ret
            exact ⟨_, rfl, FIN.out.symm, h.le hle5⟩

          · cases q2
            · go_upto_region 14 with (fail)
              refine wp_region_class (Has σ M5) (by kernel_rfl) (by kernel_rfl) h.drew ?_
              clear h
              repeat (first
                | go_big_quiet_skip
                | (go_big_quiet_want; first
                  | (refine quiet_load_has 3 _ rfl rfl hb75 m0 Tryz.underlying3 rfl ?_; simp only [Act.put, List.setIfInBounds_toArray, List.set_cons_zero, List.set_cons_succ]; go_big_quiet_on)
                  | (refine quiet_load_has 3 _ rfl rfl hb75 m1 Tryz.underlying3 rfl ?_; simp only [Act.put, List.setIfInBounds_toArray, List.set_cons_zero, List.set_cons_succ]; go_big_quiet_on)
                  | (refine quiet_load_has 22 _ rfl rfl hb35 r0 Tryz.underlying22 rfl ?_; simp only [Act.put, List.setIfInBounds_toArray, List.set_cons_zero, List.set_cons_succ]; go_big_quiet_on)
                  | (refine quiet_load_has 22 _ rfl rfl hb35 r1 Tryz.underlying22 rfl ?_; simp only [Act.put, List.setIfInBounds_toArray, List.set_cons_zero, List.set_cons_succ]; go_big_quiet_on)
                  | (go_loud (refine quiet_agg_has 26 _ rfl rfl hb35 rx rz Tryz.underlying26 rfl (by kernel_rfl) ?_); simp only [Act.put, List.setIfInBounds_toArray, List.set_cons_zero, List.set_cons_succ]; go_big_quiet_on)
                  | (refine quiet_load_has 3 _ rfl rfl hb45 f10 Tryz.underlying3 rfl ?_; simp only [Act.put, List.setIfInBounds_toArray, List.set_cons_zero, List.set_cons_succ]; go_big_quiet_on)
                  | (go_big_quiet_op; first | go_big_quiet_on | go_big_quiet_call (first | with_reducible exact fun _ => rfl | with_reducible exact RI1.out _ | with_reducible exact RI2.out _ | with_reducible exact ND5.out _))))
              refine wpQuiet_nil ?_
              try clear w
              intro w h
              go_wp2
              go_ret
              exact ⟨_, rfl, FIN.out.symm, h.le hle5⟩

            · cases q3
              · go_upto_region 14 with (fail)
                refine wp_region_class (Has σ M5) (by kernel_rfl) (by kernel_rfl) h.drew ?_
                clear h
                repeat (first
                  | go_big_quiet_skip
                  | (go_big_quiet_want; first
                    | (refine quiet_load_has 3 _ rfl rfl hb75 m0 Tryz.underlying3 rfl ?_; simp only [Act.put, List.setIfInBounds_toArray, List.set_cons_zero, List.set_cons_succ]; go_big_quiet_on)
                    | (refine quiet_load_has 3 _ rfl rfl hb75 m1 Tryz.underlying3 rfl ?_; simp only [Act.put, List.setIfInBounds_toArray, List.set_cons_zero, List.set_cons_succ]; go_big_quiet_on)
                    | (refine quiet_load_has 22 _ rfl rfl hb35 r0 Tryz.underlying22 rfl ?_; simp only [Act.put, List.setIfInBounds_toArray, List.set_cons_zero, List.set_cons_succ]; go_big_quiet_on)
                    | (refine quiet_load_has 22 _ rfl rfl hb35 r1 Tryz.underlying22 rfl ?_; simp only [Act.put, List.setIfInBounds_toArray, List.set_cons_zero, List.set_cons_succ]; go_big_quiet_on)
                    | (go_loud (refine quiet_agg_has 26 _ rfl rfl hb35 rx rz Tryz.underlying26 rfl (by kernel_rfl) ?_); simp only [Act.put, List.setIfInBounds_toArray, List.set_cons_zero, List.set_cons_succ]; go_big_quiet_on)
                    | (refine quiet_load_has 3 _ rfl rfl hb45 f10 Tryz.underlying3 rfl ?_; simp only [Act.put, List.setIfInBounds_toArray, List.set_cons_zero, List.set_cons_succ]; go_big_quiet_on)
                    | (go_big_quiet_op; first | go_big_quiet_on | go_big_quiet_call (first | with_reducible exact fun _ => rfl | with_reducible exact RI1.out _ | with_reducible exact RI2.out _ | with_reducible exact ND5.out _))))
                refine wpQuiet_nil ?_
                try clear w
                intro w h
                go_wp2
                go_ret
                exact ⟨_, rfl, FIN.out.symm, h.le hle5⟩

              · cases q4
                · go_upto_region 14 with (fail)
                  refine wp_region_class (Has σ M5) (by kernel_rfl) (by kernel_rfl) h.drew ?_
                  clear h
                  repeat (first
                    | go_big_quiet_skip
                    | (go_big_quiet_want; first
                      | (refine quiet_load_has 3 _ rfl rfl hb75 m0 Tryz.underlying3 rfl ?_; simp only [Act.put, List.setIfInBounds_toArray, List.set_cons_zero, List.set_cons_succ]; go_big_quiet_on)
                      | (refine quiet_load_has 3 _ rfl rfl hb75 m1 Tryz.underlying3 rfl ?_; simp only [Act.put, List.setIfInBounds_toArray, List.set_cons_zero, List.set_cons_succ]; go_big_quiet_on)
                      | (refine quiet_load_has 22 _ rfl rfl hb35 r0 Tryz.underlying22 rfl ?_; simp only [Act.put, List.setIfInBounds_toArray, List.set_cons_zero, List.set_cons_succ]; go_big_quiet_on)
                      | (refine quiet_load_has 22 _ rfl rfl hb35 r1 Tryz.underlying22 rfl ?_; simp only [Act.put, List.setIfInBounds_toArray, List.set_cons_zero, List.set_cons_succ]; go_big_quiet_on)
                      | (go_loud (refine quiet_agg_has 26 _ rfl rfl hb35 rx rz Tryz.underlying26 rfl (by kernel_rfl) ?_); simp only [Act.put, List.setIfInBounds_toArray, List.set_cons_zero, List.set_cons_succ]; go_big_quiet_on)
                      | (refine quiet_load_has 3 _ rfl rfl hb45 f10 Tryz.underlying3 rfl ?_; simp only [Act.put, List.setIfInBounds_toArray, List.set_cons_zero, List.set_cons_succ]; go_big_quiet_on)
                      | (go_big_quiet_op; first | go_big_quiet_on | go_big_quiet_call (first | with_reducible exact fun _ => rfl | with_reducible exact RI1.out _ | with_reducible exact RI2.out _ | with_reducible exact ND5.out _))))
                  refine wpQuiet_nil ?_
                  try clear w
                  intro w h
                  go_wp2
                  go_ret
                  exact ⟨_, rfl, FIN.out.symm, h.le hle5⟩

                · go_upto_region 14 with (fail)
                  refine wp_region_class (Has σ M5) (by kernel_rfl) (by kernel_rfl) h.drew ?_
                  clear h
                  repeat (first
                    | go_big_quiet_skip
                    | (go_big_quiet_want; first
                      | (refine quiet_load_has 3 _ rfl rfl hb75 m0 Tryz.underlying3 rfl ?_; simp only [Act.put, List.setIfInBounds_toArray, List.set_cons_zero, List.set_cons_succ]; go_big_quiet_on)
                      | (refine quiet_load_has 3 _ rfl rfl hb75 m1 Tryz.underlying3 rfl ?_; simp only [Act.put, List.setIfInBounds_toArray, List.set_cons_zero, List.set_cons_succ]; go_big_quiet_on)
                      | (refine quiet_load_has 22 _ rfl rfl hb35 r0 Tryz.underlying22 rfl ?_; simp only [Act.put, List.setIfInBounds_toArray, List.set_cons_zero, List.set_cons_succ]; go_big_quiet_on)
                      | (refine quiet_load_has 22 _ rfl rfl hb35 r1 Tryz.underlying22 rfl ?_; simp only [Act.put, List.setIfInBounds_toArray, List.set_cons_zero, List.set_cons_succ]; go_big_quiet_on)
                      | (go_loud (refine quiet_agg_has 26 _ rfl rfl hb35 rx rz Tryz.underlying26 rfl (by kernel_rfl) ?_); simp only [Act.put, List.setIfInBounds_toArray, List.set_cons_zero, List.set_cons_succ]; go_big_quiet_on)
                      | (refine quiet_load_has 3 _ rfl rfl hb45 f10 Tryz.underlying3 rfl ?_; simp only [Act.put, List.setIfInBounds_toArray, List.set_cons_zero, List.set_cons_succ]; go_big_quiet_on)
                      | (go_big_quiet_op; first | go_big_quiet_on | go_big_quiet_call (first | with_reducible exact fun _ => rfl | with_reducible exact RI1.out _ | with_reducible exact RI2.out _ | with_reducible exact ND5.out _))))
                  refine wpQuiet_nil ?_
                  try clear w
                  intro w h
                  go_wp2
                  go_ret
                  exact ⟨_, rfl, FIN.out.symm, h.le hle5⟩

end
section
open Go.RowKit
set_option linter.unusedVariables false
set_option linter.unusedSimpArgs false
set_option linter.unnecessarySimpa false
theorem RiseTo.next {L : List RowR} {k : Nat} (h : RiseTo L k) {x y : RowR} (h1 : 0 < k) (hx : L[k - 1]? = some x) (hy : L[k]? = some y) (hlt : x.key < y.key) : RiseTo L (k + 1) := fun i a b hi ha hb => by
  by_cases e : i + 1 = k
  · have ei : i = k - 1 := by omega
    subst ei
    rw [hx] at ha
    rw [e, hy] at hb
    cases ha
    cases hb
    exact hlt
  · exact h i a b (by omega) ha hb
theorem RiseTo.one (L : List RowR) : RiseTo L 1 := fun i a b hi => absurd hi (by omega)
set_option maxHeartbeats 4000000 in
set_option maxRecDepth 20000 in
theorem refMeant_eq {σ w : World} {M : Mm} {As Ac Aq Ar : Option Addr} {ns nc nq nr cs cc cq cr : Nat} {Ls Lc : List RowR} {R : List Nat} (h : Has σ M w) (row : Array Value) (r0 : row[0]? = some (.slice As ns cs)) (r1 : row[1]? = some (.slice Ac nc cc)) (r2 : row[2]? = some (.slice Aq nq cq)) (r3 : row[3]? = some (.slice Ar nr cr)) (hs : Rd M 3 (.slice As ns cs) ns (Ls.flatMap encRo)) (hc : Rd M 3 (.slice Ac nc cc) nc (Lc.flatMap encRo)) (hr : Rd M 1 (.slice Ar nr cr) nr (u64n R)) (ls : Ls.length = ns) (lc : Lc.length = nc) (lr : R.length = nr) (ks : KeyOk Ls) (kc : KeyOk Lc) (kr : ∀ x ∈ R, x < 18446744073709551616) (b0 : ns ≤ 1000) (b1 : nc ≤ 1000) (b2 : nq ≤ 1000) (b3 : nr ≤ 1000) (c : Nat → Int) (lv : Int) (rz : row.size = 9) : Calls Tryz.prog 9 #[.agg row, .agg (ints .i64 14 c), .int .i64 lv] w fun r w' => Tells σ M (MeantP Ls Lc R (ns + nc + nq + nr + 1) lv (c 10)) r w' := by
  have HS := Lib.hid hs
  have HC := Lib.hid hc
  have HR := Lib.hid hr
  have LS := Lib.hid ls
  have LC := Lib.hid lc
  have LR := Lib.hid lr
  have KC := Lib.hid kc
  have KR := Lib.hid kr
  have rx : row.extract 0 (0 + 9) = row := by rw [← rz]; simp
  have ND := Lib.hid (fun (M' : Mm) (w : World) (h : Has σ M' w) => refNeeded_eq h (by omega : ns ≤ 100000) (by omega : nc ≤ 100000) (by omega : nq ≤ 100000) (by omega : nr ≤ 100000) row r0 r1 r2 r3)
  have CS := Lib.hid (fun (M' : Mm) (w : World) (k : Int) (hk : -9223372036854775808 ≤ k ∧ k ≤ 9223372036854775807) (h : Has σ M' w) => refSet_eq h hk.1 hk.2)
  have HP := Lib.hid (fun (M' : Mm) (w : World) (x : Nat) (hx : x < 18446744073709551616) (h : Has σ M' w) => refParts_eq h x hx)
  have f10 : (ints .i64 14 c)[10]? = some (.int .i64 (c 10)) := rfl
  have MNR : Hid (¬ RiseTo Lc Lc.length → ¬ MeantP Ls Lc R (ns + nc + nq + nr + 1) lv (c 10)) := Lib.hid fun g e => g e.2.2.2.1
  have MNS : Hid (¬ RiseTo Ls Ls.length → ¬ MeantP Ls Lc R (ns + nc + nq + nr + 1) lv (c 10)) := Lib.hid fun g e => g e.2.2.1
  have MNW : Hid (¬ RawTo R lv nr → ¬ MeantP Ls Lc R (ns + nc + nq + nr + 1) lv (c 10)) := Lib.hid fun g e => g (by have := e.2.2.2.2.1; rw [lr] at this; exact this)
  clear hs hc hr ls lc lr kc kr ks
  have BN := Lib.hid b1
  have zt := ztwo
  generalize hmp : MeantP Ls Lc R (ns + nc + nq + nr + 1) lv (c 10) = MP at *
  have HMP := Lib.hid hmp
  clear hmp
  generalize c 10 = sl at *
  generalize ints .i64 14 c = crow at *
  go_enter Tryz.func9, Tryz.ntmps9
  go_upto_region 1 with (first
    | ((with_reducible show wpList _ _ _ ({ dst := _, op := Op.box 34 _, type := _, pos := _, after := _, guard := _ } :: _) _ _); go_loud (refine wpList_box_has h rfl 34 _ rfl ?_); clear h; intro b3 w h hn3; try simp only [Act.put, List.setIfInBounds_toArray, List.set_cons_zero, List.set_cons_succ])
    | ((with_reducible show wpList _ _ _ ({ dst := _, op := Op.box 29 _, type := _, pos := _, after := _, guard := _ } :: _) _ _); go_loud (refine wpList_box_has h rfl 29 _ rfl ?_); clear h; intro b4 w h hn4; try simp only [Act.put, List.setIfInBounds_toArray, List.set_cons_zero, List.set_cons_succ]))
  replace hn3 : M b3 = none := hn3
  replace hn4 : (M.upd b3 (.cells row 34)) b4 = none := hn4
  replace h : Has σ ((M.upd b3 (.cells row 34)).upd b4 (.cells crow 29)) w := h
  have hle2 : M.le ((M.upd b3 (.cells row 34)).upd b4 (.cells crow 29)) := Mm.le_trans (Mm.le_upd' hn3 _) (Mm.le_upd' hn4 _)
  have hb3 : ((M.upd b3 (.cells row 34)).upd b4 (.cells crow 29)) b3 = some (.cells row 34) := (Mm.le_upd' hn4 _) _ _ (Mm.upd_same _ _ _)
  have hb4 : ((M.upd b3 (.cells row 34)).upd b4 (.cells crow 29)) b4 = some (.cells crow 29) := (Mm.le_refl _) _ _ (Mm.upd_same _ _ _)
  have n_b3_b4 : b3 ≠ b4 := Mm.ne_of hn4 ((Mm.le_refl _) _ _ (Mm.upd_same _ _ _))
  replace hn4 : M b4 = none := Mm.none_of (Mm.le_upd' hn3 _) hn4
  replace hn3 : M b3 = none := Mm.none_of (Mm.le_refl _) hn3
  generalize ((M.upd b3 (.cells row 34)).upd b4 (.cells crow 29)) = M2 at h hle2 hb3 hb4
  go_upto_region 2 with (first
    | ((with_reducible show wpList _ _ _ ({ dst := some 7, op := Op.alloc 45, type := _, pos := _, after := _, guard := _ } :: _) _ _); go_loud (refine wpList_alloc_has h rfl 45 rfl _ zt ?_); clear h; intro b7 w h hn7; try simp only [Act.put, List.setIfInBounds_toArray, List.set_cons_zero, List.set_cons_succ]))
  replace h : Has σ (M2.upd b7 (.cells (twoR 0 0) 45)) w := h
  have hle7 := fun o => Mm.le_upd' hn7 o
  go_wp2_with (fail)
  go_loopw [8] (fun u wr => ∃ k : Nat, k ≤ nc ∧ u = .int .i64 (k : Nat) ∧ RiseTo Lc k ∧ Has σ (M2.upd b7 (.cells (twoR (cntS 0 (Lc.take k)) (cntS 1 (Lc.take k))) 45)) wr) (fun u _ => nc - (intOf u).toNat)
  case atStart => exact ⟨0, Nat.zero_le _, rfl, fun i x y hi => absurd hi (by omega), h⟩
  case round =>
    clear h w
    obtain ⟨w, rfl⟩ : ∃ x : World, x = wr := ⟨_, rfl⟩
    obtain ⟨k, hk, rfl, hrise, h⟩ := hrel
    have HRI := Lib.hid hrise
    clear hrise
    by_cases hlt : k < nc
    · have hlt' : (k : Int) < (nc : Int) := by omega
      have wk : IntKind.i64.wrap ((k : Int) + 1) = ((k + 1 : Nat) : Int) := by rw [show (k : Int) + 1 = ((k + 1 : Nat) : Int) by omega]; exact IntWalk.i64_in _ (by omega)
      obtain ⟨y, hy⟩ : ∃ y, Lc[k]? = some y := ⟨_, List.getElem?_eq_getElem (by have := LC.out; omega)⟩
      obtain ⟨bl, ol, cl, csl, tl, fl, e1, hMl, hxl⟩ := HC.out.elem encRo_len hlt hy
      cases e1
      have T0 := Lib.hid (cntS_take (z := 0) hy)
      have T1 := Lib.hid (cntS_take (z := 1) hy)
      have hb0 : cntS 0 (Lc.take k) ≤ 1000 := Nat.le_trans (cntS_le _ _) (by rw [List.length_take]; omega)
      have hb1 : cntS 1 (Lc.take k) ≤ 1000 := Nat.le_trans (cntS_le _ _) (by rw [List.length_take]; omega)
      generalize hA0 : cntS 0 (Lc.take k) = a0 at *
      generalize hA1 : cntS 1 (Lc.take k) = a1 at *
      have ey := hxl 0 _ rfl
      rw [Nat.add_zero] at ey
      have hMl2 := hle2 _ _ hMl
      have CS2 := Lib.hid (fun (M' : Mm) (w : World) (h : Has σ M' w) => CS.out M' w y.key (KC.out y (List.mem_of_getElem? hy)) h)
      clear hxl hA0 hA1
      have m0 : (twoR a0 a1)[0]? = some (.int .i64 (a0 : Nat)) := rfl
      have m1 : (twoR a0 a1)[1]? = some (.int .i64 (a1 : Nat)) := rfl
      have S0 : (twoR a0 a1).setIfInBounds 0 (.int .i64 ((a0 + 1 : Nat) : Int)) = twoR (a0 + 1) a1 := rfl
      have S1 : (twoR a0 a1).setIfInBounds 1 (.int .i64 ((a1 + 1 : Nat) : Int)) = twoR a0 (a1 + 1) := rfl
      have l0 : 0 < (twoR a0 a1).size := by show 0 < 2; omega
      have l1 : 1 < (twoR a0 a1).size := by show 1 < 2; omega
      have wa0 : IntKind.i64.wrap ((a0 : Int) + 1) = ((a0 + 1 : Nat) : Int) := by rw [show (a0 : Int) + 1 = ((a0 + 1 : Nat) : Int) by omega]; exact IntWalk.i64_in _ (by omega)
      have wa1 : IntKind.i64.wrap ((a1 : Int) + 1) = ((a1 + 1 : Nat) : Int) := by rw [show (a1 : Int) + 1 = ((a1 + 1 : Nat) : Int) by omega]; exact IntWalk.i64_in _ (by omega)
      have hb7 := Mm.upd_same M2 b7 (.cells (twoR a0 a1) 45)
      have hb31 := hle7 (.cells (twoR a0 a1) 45) _ _ hb3
      have hMl3 := hle7 (.cells (twoR a0 a1) 45) _ _ hMl2
      have hz := setOf_lt y.key
      generalize hzz : setOf y.key = z at *
      have HYY := Lib.hid hy
      clear hzz hy
      rcases (show z = 0 ∨ z = 1 by omega) with rfl | rfl
      · have e0' : Hid (cntS 0 (Lc.take (k + 1)) = a0 + 1) := Lib.hid (by rw [T0.out]; simp)
        have e1' : Hid (cntS 1 (Lc.take (k + 1)) = a1) := Lib.hid (by rw [T1.out]; simp)
        have CS3 := Lib.hid (CS2.out (M2.upd b7 (.cells (twoR a0 a1) 45)))
        go_upto_region 6 with (first
          | (with_reducible show wpList _ _ _ ({ dst := _, op := Op.load 22 _, type := _, pos := _, after := _, guard := _ } :: _) _ _; go_loud (refine wpList_load1_has h rfl 22 _ rfl rfl hb31 r1 Tryz.underlying22 rfl ?_))
          | (with_reducible show wpList _ _ _ ({ dst := _, op := Op.load 2 _, type := _, pos := _, after := _, guard := _ } :: _) _ _; go_loud (refine wpList_load1_has h rfl 2 _ rfl rfl hMl3 ey Tryz.underlying2 rfl ?_))
          | (go_at_call 15; go_loud (refine (CS3.out _ h).mono ?_); clear h; rintro _ w ⟨rfl, h⟩)
          | (with_reducible show wpList _ _ _ ({ dst := _, op := Op.load 3 _, type := _, pos := _, after := _, guard := _ } :: _) _ _; go_loud (refine wpList_load1_has h rfl 3 _ rfl rfl hb7 m0 Tryz.underlying3 rfl ?_))
          | (with_reducible show wpList _ _ _ ({ dst := _, op := Op.store 3 _ _, type := _, pos := _, after := _, guard := _ } :: _) _ _; go_loud (refine wpList_store1_has h rfl 3 _ _ rfl rfl rfl hb7 l0 rfl (by kernel_rfl) ?_); clear h; intro w h))
        rw [Mm.upd_upd] at h
        replace h : Has σ (M2.upd b7 (.cells ((twoR a0 a1).setIfInBounds 0 (.int .i64 ((a0 + 1 : Nat) : Int))) 45)) w := h
        rw [S0] at h
        have hb32 := hle7 (.cells (twoR (a0 + 1) a1) 45) _ _ hb3
        have hMl4 := hle7 (.cells (twoR (a0 + 1) a1) 45) _ _ hMl2
        clear hb31 hMl3 hb7 CS3
        rcases Nat.eq_zero_or_pos k with hk0 | hk0
        · subst hk0
          refine wp_region_class (Has σ (M2.upd b7 (.cells (twoR (a0 + 1) a1) 45))) (by kernel_rfl) (by kernel_rfl) h.drew ?_
          clear h
          repeat (first
            | go_big_quiet_skip
            | (go_big_quiet_want; first
              | (refine quiet_load_has 22 _ rfl rfl hb32 r1 Tryz.underlying22 rfl ?_; simp only [Act.put, List.setIfInBounds_toArray, List.set_cons_zero, List.set_cons_succ]; go_big_quiet_on)
              | (refine quiet_load_has 2 _ rfl rfl hMl4 ey Tryz.underlying2 rfl ?_; simp only [Act.put, List.setIfInBounds_toArray, List.set_cons_zero, List.set_cons_succ]; go_big_quiet_on)
              | (go_big_quiet_op; first | go_big_quiet_on | go_big_quiet_call (first | with_reducible exact fun _ => rfl))))
          refine wpQuiet_nil ?_
          try clear w
          intro w h
          go_wp2
          go_roundw
          case rel => exact ⟨1, by omega, by first | rfl | go_num, RiseTo.one _, by rw [e0'.out, e1'.out]; exact h⟩
          case measure => simp [intOf]; omega
        · obtain ⟨i, rfl⟩ : ∃ i, k = i + 1 := ⟨k - 1, by omega⟩
          have w1 : IntKind.i64.wrap (((i + 1 : Nat) : Int) - 1) = ((i : Nat) : Int) := by rw [show ((i + 1 : Nat) : Int) - 1 = i by omega]; exact IntWalk.i64_in _ (by omega)
          have gi : decide ((0 : Int) < ((i + 1 : Nat) : Int)) = true := decide_eq_true (by omega)
          have gi2 : decide (0 < i + 1) = true := decide_eq_true (by omega)
          have hin : (i : Int) < (nc : Int) := by omega
          have hin2 : i < nc := by omega
          obtain ⟨x, hx⟩ : ∃ x, Lc[i]? = some x := ⟨_, List.getElem?_eq_getElem (by have := LC.out; omega)⟩
          obtain ⟨bl2, ol2, cl2, csl2, tl2, fl2, e2, hMlb, hxl2⟩ := HC.out.elem encRo_len hin2 hx
          cases e2
          have ex := hxl2 0 _ rfl
          rw [Nat.add_zero] at ex
          have hMl5 := hle7 (.cells (twoR (a0 + 1) a1) 45) _ _ (hle2 _ _ hMlb)
          clear hxl2 hMlb
          have HX := Lib.hid hx
          obtain ⟨kx, hkx⟩ : ∃ kx, x.key = kx := ⟨_, rfl⟩
          obtain ⟨ky, hky⟩ : ∃ ky, y.key = ky := ⟨_, rfl⟩
          rw [hkx] at ex
          rw [hky] at ey
          have HKX := Lib.hid hkx
          have HKY := Lib.hid hky
          clear hkx hky hx
          generalize hkk : i + 1 = kk at *
          have HK := Lib.hid hkk
          clear hkk
          refine wp_region_class (Has σ (M2.upd b7 (.cells (twoR (a0 + 1) a1) 45))) (by kernel_rfl) (by kernel_rfl) h.drew ?_
          clear h
          repeat (first
            | go_big_quiet_skip
            | (go_big_quiet_want; first
              | (refine quiet_load_has 22 _ rfl rfl hb32 r1 Tryz.underlying22 rfl ?_; simp only [Act.put, List.setIfInBounds_toArray, List.set_cons_zero, List.set_cons_succ]; go_big_quiet_on)
              | (refine quiet_load_has 2 _ rfl rfl hMl4 ey Tryz.underlying2 rfl ?_; simp only [Act.put, List.setIfInBounds_toArray, List.set_cons_zero, List.set_cons_succ]; go_big_quiet_on)
              | (refine quiet_load_has 2 _ rfl rfl hMl5 ex Tryz.underlying2 rfl ?_; simp only [Act.put, List.setIfInBounds_toArray, List.set_cons_zero, List.set_cons_succ]; go_big_quiet_on)
              | (go_big_quiet_op; first | go_big_quiet_on | go_big_quiet_call (first | with_reducible exact fun _ => rfl))))
          refine wpQuiet_nil ?_
          try clear w
          intro w h
          by_cases hle : ky ≤ kx
          · have d1 : decide (ky ≤ kx) = true := decide_eq_true hle
            have NO : Hid (¬ MP) := Lib.hid (MNR.out fun g => by
              have h1 := g i x y (by have := HK.out; have := LC.out; omega) HX.out (by rw [HK.out]; exact HYY.out)
              rw [HKX.out, HKY.out] at h1
              omega)
            go_wp2
            go_ret
            exact ⟨false, rfl, ⟨fun e => (by cases e), fun e => absurd e NO.out⟩, h.le (Mm.le_trans hle2 (hle7 _))⟩
          · have d1 : decide (ky ≤ kx) = false := decide_eq_false hle
            have HNL := Lib.hid hle
            have NXT : Hid (RiseTo Lc (kk + 1)) := Lib.hid (HRI.out.next (by have := HK.out; omega) (by rw [← HK.out]; exact HX.out) HYY.out (by rw [HKX.out, HKY.out]; have := HNL.out; omega))
            go_wp2
            go_roundw
            case rel => exact ⟨kk + 1, hlt, by first | rfl | go_num, NXT.out, by rw [e0'.out, e1'.out]; exact h⟩
            case measure => have := HK.out; simp [intOf]; omega
      · have e0' : Hid (cntS 0 (Lc.take (k + 1)) = a0) := Lib.hid (by rw [T0.out]; simp)
        have e1' : Hid (cntS 1 (Lc.take (k + 1)) = a1 + 1) := Lib.hid (by rw [T1.out]; simp)
        have CS3 := Lib.hid (CS2.out (M2.upd b7 (.cells (twoR a0 a1) 45)))
        go_upto_region 6 with (first
          | (with_reducible show wpList _ _ _ ({ dst := _, op := Op.load 22 _, type := _, pos := _, after := _, guard := _ } :: _) _ _; go_loud (refine wpList_load1_has h rfl 22 _ rfl rfl hb31 r1 Tryz.underlying22 rfl ?_))
          | (with_reducible show wpList _ _ _ ({ dst := _, op := Op.load 2 _, type := _, pos := _, after := _, guard := _ } :: _) _ _; go_loud (refine wpList_load1_has h rfl 2 _ rfl rfl hMl3 ey Tryz.underlying2 rfl ?_))
          | (go_at_call 15; go_loud (refine (CS3.out _ h).mono ?_); clear h; rintro _ w ⟨rfl, h⟩)
          | (with_reducible show wpList _ _ _ ({ dst := _, op := Op.load 3 _, type := _, pos := _, after := _, guard := _ } :: _) _ _; go_loud (refine wpList_load1_has h rfl 3 _ rfl rfl hb7 m1 Tryz.underlying3 rfl ?_))
          | (with_reducible show wpList _ _ _ ({ dst := _, op := Op.store 3 _ _, type := _, pos := _, after := _, guard := _ } :: _) _ _; go_loud (refine wpList_store1_has h rfl 3 _ _ rfl rfl rfl hb7 l1 rfl (by kernel_rfl) ?_); clear h; intro w h))
        rw [Mm.upd_upd] at h
        replace h : Has σ (M2.upd b7 (.cells ((twoR a0 a1).setIfInBounds 1 (.int .i64 ((a1 + 1 : Nat) : Int))) 45)) w := h
        rw [S1] at h
        have hb32 := hle7 (.cells (twoR a0 (a1 + 1)) 45) _ _ hb3
        have hMl4 := hle7 (.cells (twoR a0 (a1 + 1)) 45) _ _ hMl2
        clear hb31 hMl3 hb7 CS3
        rcases Nat.eq_zero_or_pos k with hk0 | hk0
        · subst hk0
          refine wp_region_class (Has σ (M2.upd b7 (.cells (twoR a0 (a1 + 1)) 45))) (by kernel_rfl) (by kernel_rfl) h.drew ?_
          clear h
          repeat (first
            | go_big_quiet_skip
            | (go_big_quiet_want; first
              | (refine quiet_load_has 22 _ rfl rfl hb32 r1 Tryz.underlying22 rfl ?_; simp only [Act.put, List.setIfInBounds_toArray, List.set_cons_zero, List.set_cons_succ]; go_big_quiet_on)
              | (refine quiet_load_has 2 _ rfl rfl hMl4 ey Tryz.underlying2 rfl ?_; simp only [Act.put, List.setIfInBounds_toArray, List.set_cons_zero, List.set_cons_succ]; go_big_quiet_on)
              | (go_big_quiet_op; first | go_big_quiet_on | go_big_quiet_call (first | with_reducible exact fun _ => rfl))))
          refine wpQuiet_nil ?_
          try clear w
          intro w h
          go_wp2
          go_roundw
          case rel => exact ⟨1, by omega, by first | rfl | go_num, RiseTo.one _, by rw [e0'.out, e1'.out]; exact h⟩
          case measure => simp [intOf]; omega
        · obtain ⟨i, rfl⟩ : ∃ i, k = i + 1 := ⟨k - 1, by omega⟩
          have w1 : IntKind.i64.wrap (((i + 1 : Nat) : Int) - 1) = ((i : Nat) : Int) := by rw [show ((i + 1 : Nat) : Int) - 1 = i by omega]; exact IntWalk.i64_in _ (by omega)
          have gi : decide ((0 : Int) < ((i + 1 : Nat) : Int)) = true := decide_eq_true (by omega)
          have gi2 : decide (0 < i + 1) = true := decide_eq_true (by omega)
          have hin : (i : Int) < (nc : Int) := by omega
          have hin2 : i < nc := by omega
          obtain ⟨x, hx⟩ : ∃ x, Lc[i]? = some x := ⟨_, List.getElem?_eq_getElem (by have := LC.out; omega)⟩
          obtain ⟨bl2, ol2, cl2, csl2, tl2, fl2, e2, hMlb, hxl2⟩ := HC.out.elem encRo_len hin2 hx
          cases e2
          have ex := hxl2 0 _ rfl
          rw [Nat.add_zero] at ex
          have hMl5 := hle7 (.cells (twoR a0 (a1 + 1)) 45) _ _ (hle2 _ _ hMlb)
          clear hxl2 hMlb
          have HX := Lib.hid hx
          obtain ⟨kx, hkx⟩ : ∃ kx, x.key = kx := ⟨_, rfl⟩
          obtain ⟨ky, hky⟩ : ∃ ky, y.key = ky := ⟨_, rfl⟩
          rw [hkx] at ex
          rw [hky] at ey
          have HKX := Lib.hid hkx
          have HKY := Lib.hid hky
          clear hkx hky hx
          generalize hkk : i + 1 = kk at *
          have HK := Lib.hid hkk
          clear hkk
          refine wp_region_class (Has σ (M2.upd b7 (.cells (twoR a0 (a1 + 1)) 45))) (by kernel_rfl) (by kernel_rfl) h.drew ?_
          clear h
          repeat (first
            | go_big_quiet_skip
            | (go_big_quiet_want; first
              | (refine quiet_load_has 22 _ rfl rfl hb32 r1 Tryz.underlying22 rfl ?_; simp only [Act.put, List.setIfInBounds_toArray, List.set_cons_zero, List.set_cons_succ]; go_big_quiet_on)
              | (refine quiet_load_has 2 _ rfl rfl hMl4 ey Tryz.underlying2 rfl ?_; simp only [Act.put, List.setIfInBounds_toArray, List.set_cons_zero, List.set_cons_succ]; go_big_quiet_on)
              | (refine quiet_load_has 2 _ rfl rfl hMl5 ex Tryz.underlying2 rfl ?_; simp only [Act.put, List.setIfInBounds_toArray, List.set_cons_zero, List.set_cons_succ]; go_big_quiet_on)
              | (go_big_quiet_op; first | go_big_quiet_on | go_big_quiet_call (first | with_reducible exact fun _ => rfl))))
          refine wpQuiet_nil ?_
          try clear w
          intro w h
          by_cases hle : ky ≤ kx
          · have d1 : decide (ky ≤ kx) = true := decide_eq_true hle
            have NO : Hid (¬ MP) := Lib.hid (MNR.out fun g => by
              have h1 := g i x y (by have := HK.out; have := LC.out; omega) HX.out (by rw [HK.out]; exact HYY.out)
              rw [HKX.out, HKY.out] at h1
              omega)
            go_wp2
            go_ret
            exact ⟨false, rfl, ⟨fun e => (by cases e), fun e => absurd e NO.out⟩, h.le (Mm.le_trans hle2 (hle7 _))⟩
          · have d1 : decide (ky ≤ kx) = false := decide_eq_false hle
            have HNL := Lib.hid hle
            have NXT : Hid (RiseTo Lc (kk + 1)) := Lib.hid (HRI.out.next (by have := HK.out; omega) (by rw [← HK.out]; exact HX.out) HYY.out (by rw [HKX.out, HKY.out]; have := HNL.out; omega))
            go_wp2
            go_roundw
            case rel => exact ⟨kk + 1, hlt, by first | rfl | go_num, NXT.out, by rw [e0'.out, e1'.out]; exact h⟩
            case measure => have := HK.out; simp [intOf]; omega
    · obtain rfl : k = nc := by omega
      have hlt' : ¬ (k : Int) < (k : Int) := by omega
      have EC : Hid (Lc.take k = Lc) := Lib.hid (List.take_of_length_le (by have := LC.out; omega))
      rw [EC.out] at h
      have q0 : cntS 0 Lc ≤ 1000 := Nat.le_trans (cntS_le _ _) (by have := LC.out; omega)
      have q1 : cntS 1 Lc ≤ 1000 := Nat.le_trans (cntS_le _ _) (by have := LC.out; omega)
      obtain ⟨C0, hC0⟩ : ∃ C0, cntS 0 Lc = C0 := ⟨_, rfl⟩
      obtain ⟨C1, hC1⟩ : ∃ C1, cntS 1 Lc = C1 := ⟨_, rfl⟩
      have MPD : Hid (RiseTo Ls ns → RawTo R lv nr → (MP ↔ (decide ((C0 : Int) < 5) && (decide ((C1 : Int) < 5) && decide (((ns + k + nq + nr + 1 : Nat) : Int) ≤ sl))) = true)) := Lib.hid fun hR hW => by
        rw [← HMP.out]
        unfold MeantP
        rw [hC0, hC1, LS.out, LC.out, LR.out]
        simp only [Bool.and_eq_true, decide_eq_true_eq]
        exact ⟨fun g => ⟨by omega, by omega, g.2.2.2.2.2⟩, fun g => ⟨by omega, by omega, hR, HRI.out, hW, g.2.2⟩⟩
      rw [hC0] at h q0
      rw [hC1] at h q1
      have m0 : (twoR C0 C1)[0]? = some (.int .i64 (C0 : Nat)) := rfl
      have m1 : (twoR C0 C1)[1]? = some (.int .i64 (C1 : Nat)) := rfl
      clear hC0 hC1 hlt hk
      have hb75 := Mm.upd_same M2 b7 (.cells (twoR C0 C1) 45)
      have hb35 := hle7 (.cells (twoR C0 C1) 45) _ _ hb3
      have hb45 := hle7 (.cells (twoR C0 C1) 45) _ _ hb4
      have hle5 := Mm.le_trans hle2 (hle7 (.cells (twoR C0 C1) 45))
      clear hle7 hn7 hb3 hb4
      generalize M2.upd b7 (.cells (twoR C0 C1) 45) = M5 at *
      generalize twoR C0 C1 = tw at *
      have ND5 := Lib.hid (ND.out M5)
      clear ND
      go_upto_region 9 with (first
        | (with_reducible show wpList _ _ _ ({ dst := _, op := Op.load 22 _, type := _, pos := _, after := _, guard := _ } :: _) _ _; go_loud (refine wpList_load1_has h rfl 22 _ rfl rfl hb35 r1 Tryz.underlying22 rfl ?_)))
      go_loopw [9] (fun u wr => ∃ j : Nat, 1 ≤ j ∧ j ≤ ns + 1 ∧ u = .int .i64 (j : Nat) ∧ RiseTo Ls (min j ns) ∧ Has σ M5 wr) (fun u _ => ns + 1 - (intOf u).toNat)
      case atStart => exact ⟨1, Nat.le_refl _, by omega, rfl, fun i x y hi => absurd hi (by omega), h⟩
      case round =>
        clear h w
        obtain ⟨w, rfl⟩ : ∃ x : World, x = wr := ⟨_, rfl⟩
        obtain ⟨j, hj1, hj, rfl, hrs, h⟩ := hrel
        have HRS := Lib.hid hrs
        clear hrs
        by_cases hjn : j < ns
        · have hjn' : (j : Int) < (ns : Int) := by omega
          have wj : IntKind.i64.wrap ((j : Int) + 1) = ((j + 1 : Nat) : Int) := by rw [show (j : Int) + 1 = ((j + 1 : Nat) : Int) by omega]; exact IntWalk.i64_in _ (by omega)
          obtain ⟨i, rfl⟩ : ∃ i, j = i + 1 := ⟨j - 1, by omega⟩
          have w1 : IntKind.i64.wrap (((i + 1 : Nat) : Int) - 1) = ((i : Nat) : Int) := by rw [show ((i + 1 : Nat) : Int) - 1 = i by omega]; exact IntWalk.i64_in _ (by omega)
          have hin : (i : Int) < (ns : Int) := by omega
          have hin2 : i < ns := by omega
          obtain ⟨x, hx⟩ : ∃ x, Ls[i]? = some x := ⟨_, List.getElem?_eq_getElem (by have := LS.out; omega)⟩
          obtain ⟨y, hy⟩ : ∃ y, Ls[i + 1]? = some y := ⟨_, List.getElem?_eq_getElem (by have := LS.out; omega)⟩
          obtain ⟨bl, ol, cl, csl, tl, fl, e1, hMl, hxl⟩ := HS.out.elem encRo_len hin2 hx
          obtain ⟨bl2, ol2, cl2, csl2, tl2, fl2, e2, hMlb, hxl2⟩ := HS.out.elem encRo_len hjn hy
          cases e1
          cases e2
          have ex := hxl 0 _ rfl
          have ey := hxl2 0 _ rfl
          rw [Nat.add_zero] at ex ey
          have hM5a := hle5 _ _ hMl
          have hM5b := hle5 _ _ hMlb
          have HX := Lib.hid hx
          have HY := Lib.hid hy
          obtain ⟨kx, hkx⟩ : ∃ kx, x.key = kx := ⟨_, rfl⟩
          obtain ⟨ky, hky⟩ : ∃ ky, y.key = ky := ⟨_, rfl⟩
          rw [hkx] at ex
          rw [hky] at ey
          have HKX := Lib.hid hkx
          have HKY := Lib.hid hky
          clear hxl hxl2 hMl hMlb hkx hky hx hy
          generalize hkk : i + 1 = kk at *
          have HK := Lib.hid hkk
          clear hkk
          go_upto_region 11 with (first
            | (with_reducible show wpList _ _ _ ({ dst := _, op := Op.load 22 _, type := _, pos := _, after := _, guard := _ } :: _) _ _; go_loud (refine wpList_load1_has h rfl 22 _ rfl rfl hb35 r0 Tryz.underlying22 rfl ?_)))
          refine wp_region_class (Has σ M5) (by kernel_rfl) (by kernel_rfl) h.drew ?_
          clear h
          repeat (first
            | go_big_quiet_skip
            | (go_big_quiet_want; first
              | (refine quiet_load_has 22 _ rfl rfl hb35 r0 Tryz.underlying22 rfl ?_; simp only [Act.put, List.setIfInBounds_toArray, List.set_cons_zero, List.set_cons_succ]; go_big_quiet_on)
              | (refine quiet_load_has 2 _ rfl rfl hM5a ex Tryz.underlying2 rfl ?_; simp only [Act.put, List.setIfInBounds_toArray, List.set_cons_zero, List.set_cons_succ]; go_big_quiet_on)
              | (refine quiet_load_has 2 _ rfl rfl hM5b ey Tryz.underlying2 rfl ?_; simp only [Act.put, List.setIfInBounds_toArray, List.set_cons_zero, List.set_cons_succ]; go_big_quiet_on)
              | (go_big_quiet_op; first | go_big_quiet_on | go_big_quiet_call (first | with_reducible exact fun _ => rfl))))
          refine wpQuiet_nil ?_
          try clear w
          intro w h
          by_cases hle : ky ≤ kx
          · have d1 : decide (ky ≤ kx) = true := decide_eq_true hle
            have NO : Hid (¬ MP) := Lib.hid (MNS.out fun g => by
              have h1 := g i x y (by have := HK.out; have := LS.out; omega) HX.out (by rw [HK.out]; exact HY.out)
              rw [HKX.out, HKY.out] at h1
              omega)
            go_wp2
            go_ret
            exact ⟨false, rfl, ⟨fun e => (by cases e), fun e => absurd e NO.out⟩, h.le hle5⟩
          · have d1 : decide (ky ≤ kx) = false := decide_eq_false hle
            have HNL := Lib.hid hle
            have NXT : Hid (RiseTo Ls (min (kk + 1) ns)) := Lib.hid (by
              have h1 := HRS.out
              rw [Nat.min_eq_left (by omega)] at h1 ⊢
              exact h1.next (by have := HK.out; omega) (by rw [← HK.out]; exact HX.out) HY.out (by rw [HKX.out, HKY.out]; have := HNL.out; omega))
            go_wp2
            go_roundw
            case rel => exact ⟨kk + 1, by omega, by omega, by first | rfl | go_num, NXT.out, h⟩
            case measure => have := HK.out; simp [intOf]; omega
        · have hjn' : ¬ (j : Int) < (ns : Int) := by omega
          have RS : Hid (RiseTo Ls ns) := Lib.hid (by have := HRS.out; rw [Nat.min_eq_right (by omega)] at this; exact this)
          have MPE := Lib.hid (MPD.out RS.out)
          clear MPD hjn HRS
          go_upto_region 14 with (first
            | (with_reducible show wpList _ _ _ ({ dst := _, op := Op.load 22 _, type := _, pos := _, after := _, guard := _ } :: _) _ _; go_loud (refine wpList_load1_has h rfl 22 _ rfl rfl hb35 r0 Tryz.underlying22 rfl ?_)))
          go_loopw [10, 11, 12] (fun u _ _ wr => ∃ j : Nat, j ≤ nr ∧ u = .int .i64 (j : Nat) ∧ RawTo R lv j ∧ Has σ M5 wr) (fun u _ _ _ => nr - (intOf u).toNat)
          case atStart => exact ⟨0, Nat.zero_le _, rfl, fun i x hi => absurd hi (Nat.not_lt_zero _), h⟩
          case round =>
            clear h w
            obtain ⟨w, rfl⟩ : ∃ x : World, x = wr := ⟨_, rfl⟩
            obtain ⟨m, hm, rfl, hraw, h⟩ := hrel
            have HRAW := Lib.hid hraw
            clear hraw
            by_cases hmn : m < nr
            · have hmn' : (m : Int) < (nr : Int) := by omega
              have wm : IntKind.i64.wrap ((m : Int) + 1) = ((m + 1 : Nat) : Int) := by rw [show (m : Int) + 1 = ((m + 1 : Nat) : Int) by omega]; exact IntWalk.i64_in _ (by omega)
              obtain ⟨x, hx⟩ : ∃ x, R[m]? = some x := ⟨_, List.getElem?_eq_getElem (by have := LR.out; omega)⟩
              obtain ⟨_, B', d', e, hd, hB⟩ := HR.out
              cases e
              obtain ⟨bb, ob, csb, tb, fb, rfl, hOb, hxb⟩ := hB (by omega)
              have ex := hxb m (.int .u64 (x : Nat)) (by simp [u64n, hx])
              have hOb5 := hle5 _ _ hOb
              have HPX := Lib.hid (fun (w : World) (h : Has σ M5 w) => HP.out M5 w x (KR.out x (List.mem_of_getElem? hx)) h)
              have NO : Hid (¬ (partsOk x = true ∧ ((x / 1152921504606846976 : Nat) : Int) = lv ∧ ∀ y, 0 < m → R[m - 1]? = some y → y < x) → ¬ MP) := Lib.hid fun g => MNW.out fun e => g (e m x hmn hx)
              have YES : Hid ((partsOk x = true ∧ ((x / 1152921504606846976 : Nat) : Int) = lv ∧ ∀ y, 0 < m → R[m - 1]? = some y → y < x) → RawTo R lv (m + 1)) := Lib.hid fun g i y hi hy => by
                by_cases e : i = m
                · subst e; rw [hx] at hy; cases hy; exact g
                · exact HRAW.out i y (by omega) hy
              generalize hpo : partsOk x = ok at *
              generalize hla : ((x / 1152921504606846976 : Nat) : Int) = la at *
              have HLT := Lib.hid hmn
              have zh := zhdR
              have HZ : Hid ((hdR 0 0 0).size = 3) := Lib.hid rfl
              clear hpo hla HRAW
              generalize hdR 0 0 0 = z0 at *
              go_upto_region 17 with (first
                | (with_reducible show wpList _ _ _ ({ dst := _, op := Op.load 24 _, type := _, pos := _, after := _, guard := _ } :: _) _ _; go_loud (refine wpList_load1_has h rfl 24 _ rfl rfl hb35 r3 Tryz.underlying24 rfl ?_))
                | (with_reducible show wpList _ _ _ ({ dst := _, op := Op.load 46 _, type := _, pos := _, after := _, guard := _ } :: _) _ _; go_loud (refine wpList_load1_has h rfl 46 _ rfl rfl hOb5 ex Tryz.underlying46 rfl ?_))
                | ((go_at_call 16; refine (HPX.out _ h).mono ?_; clear h; rintro _ w ⟨⟨sl0, g0, rfl⟩, h⟩; have hz3 : (hdR la sl0 g0).size = 3 := rfl; have HO3 : Hid ((hdR la sl0 g0).toList.all (·.oneCell') = true) := Lib.hid rfl))
                | ((with_reducible show wpList _ _ _ ({ dst := some 11, op := Op.alloc 56, type := _, pos := _, after := _, guard := _ } :: _) _ _); go_loud (refine wpList_alloc_has h rfl 56 rfl _ zh ?_); clear h; intro b11 w h hn11; try simp only [Act.put, List.setIfInBounds_toArray, List.set_cons_zero, List.set_cons_succ])
                | ((with_reducible show wpList _ _ _ ({ dst := _, op := Op.store 56 _ _, type := _, pos := _, after := _, guard := _ } :: _) _ _); refine wpList_storeAll_has (cells := hdR la sl0 g0) h rfl 56 _ _ rfl rfl rfl (Mm.upd_same _ _ _) rfl HZ.out hz3 (by kernel_rfl) HO3.out ?_; clear h; intro w h))
              rw [Mm.upd_upd] at h
              have ea : (hdR la sl0 g0)[0]? = some (.int .i64 la) := rfl
              have hl11 := Mm.le_upd' hn11 (.cells (hdR la sl0 g0) 56)
              have hb11 := Mm.upd_same M5 b11 (.cells (hdR la sl0 g0) 56)
              have hb36 := hl11 _ _ hb35
              have hOb6 := hl11 _ _ hOb5
              have hle6 := Mm.le_trans hle5 hl11
              have BACK : Hid (∀ w, Has σ (M5.upd b11 (.cells (hdR la sl0 g0) 56)) w → Has σ M5 w) := Lib.hid fun w h => h.le hl11
              clear hn11 hl11 hz3 HO3
              generalize M5.upd b11 (.cells (hdR la sl0 g0) 56) = M6 at *
              generalize hdR la sl0 g0 = hd3 at *
              cases ok
              · have NO2 := Lib.hid (NO.out fun g => by cases g.1)
                refine wp_region_class (Has σ M6) (by kernel_rfl) (by kernel_rfl) h.drew ?_
                clear h
                repeat (first
                  | go_big_quiet_skip
                  | (go_big_quiet_want; first
                    | (refine quiet_load_has 3 _ rfl rfl hb11 ea Tryz.underlying3 rfl ?_; simp only [Act.put, List.setIfInBounds_toArray, List.set_cons_zero, List.set_cons_succ]; go_big_quiet_on)
                    | (refine quiet_load_has 24 _ rfl rfl hb36 r3 Tryz.underlying24 rfl ?_; simp only [Act.put, List.setIfInBounds_toArray, List.set_cons_zero, List.set_cons_succ]; go_big_quiet_on)
                    | (refine quiet_load_has 46 _ rfl rfl hOb6 ex Tryz.underlying46 rfl ?_; simp only [Act.put, List.setIfInBounds_toArray, List.set_cons_zero, List.set_cons_succ]; go_big_quiet_on)
                    | (go_big_quiet_op; first | go_big_quiet_on | go_big_quiet_call (first | with_reducible exact fun _ => rfl))))
                refine wpQuiet_nil ?_
                try clear w
                intro w h
                go_wp2
                go_ret
                exact ⟨false, rfl, ⟨fun e => (by cases e), fun e => absurd e NO2.out⟩, h.le hle6⟩
              · by_cases hal : la = lv
                · subst hal
                  rcases Nat.eq_zero_or_pos m with hj0 | hj0
                  · subst hj0
                    have YY := Lib.hid (YES.out ⟨rfl, rfl, fun y h0 => absurd h0 (Nat.lt_irrefl _)⟩)
                    refine wp_region_class (Has σ M6) (by kernel_rfl) (by kernel_rfl) h.drew ?_
                    clear h
                    repeat (first
                      | go_big_quiet_skip
                      | (go_big_quiet_want; first
                        | (refine quiet_load_has 3 _ rfl rfl hb11 ea Tryz.underlying3 rfl ?_; simp only [Act.put, List.setIfInBounds_toArray, List.set_cons_zero, List.set_cons_succ]; go_big_quiet_on)
                        | (refine quiet_load_has 24 _ rfl rfl hb36 r3 Tryz.underlying24 rfl ?_; simp only [Act.put, List.setIfInBounds_toArray, List.set_cons_zero, List.set_cons_succ]; go_big_quiet_on)
                        | (refine quiet_load_has 46 _ rfl rfl hOb6 ex Tryz.underlying46 rfl ?_; simp only [Act.put, List.setIfInBounds_toArray, List.set_cons_zero, List.set_cons_succ]; go_big_quiet_on)
                        | (go_big_quiet_op; first | go_big_quiet_on | go_big_quiet_call (first | with_reducible exact fun _ => rfl))))
                    refine wpQuiet_nil ?_
                    try clear w
                    intro w h
                    replace h := BACK.out _ h
                    go_wp2
                    go_roundw
                    case rel => exact ⟨1, by omega, by first | rfl | go_num, YY.out, h⟩
                    case measure => have := HLT.out; simp [intOf]; omega
                  · obtain ⟨i, rfl⟩ : ∃ i, m = i + 1 := ⟨m - 1, by omega⟩
                    have w1 : IntKind.i64.wrap (((i + 1 : Nat) : Int) - 1) = ((i : Nat) : Int) := by rw [show ((i + 1 : Nat) : Int) - 1 = i by omega]; exact IntWalk.i64_in _ (by omega)
                    have gi : decide ((0 : Int) < ((i + 1 : Nat) : Int)) = true := decide_eq_true (by omega)
                    have gi2 : decide (0 < i + 1) = true := decide_eq_true (by omega)
                    have hin : (i : Int) < (nr : Int) := by omega
                    obtain ⟨y, hy⟩ : ∃ y, R[i]? = some y := ⟨_, List.getElem?_eq_getElem (by have := LR.out; omega)⟩
                    have ey := hxb i (.int .u64 (y : Nat)) (by simp [u64n, hy])
                    have HY := Lib.hid hy
                    have HIN2 : i < nr := by omega
                    generalize hjj : i + 1 = jj at *
                    have HJ := Lib.hid hjj
                    clear hjj hy
                    refine wp_region_class (Has σ M6) (by kernel_rfl) (by kernel_rfl) h.drew ?_
                    clear h
                    repeat (first
                      | go_big_quiet_skip
                      | (go_big_quiet_want; first
                        | (refine quiet_load_has 3 _ rfl rfl hb11 ea Tryz.underlying3 rfl ?_; simp only [Act.put, List.setIfInBounds_toArray, List.set_cons_zero, List.set_cons_succ]; go_big_quiet_on)
                        | (refine quiet_load_has 24 _ rfl rfl hb36 r3 Tryz.underlying24 rfl ?_; simp only [Act.put, List.setIfInBounds_toArray, List.set_cons_zero, List.set_cons_succ]; go_big_quiet_on)
                        | (refine quiet_load_has 46 _ rfl rfl hOb6 ex Tryz.underlying46 rfl ?_; simp only [Act.put, List.setIfInBounds_toArray, List.set_cons_zero, List.set_cons_succ]; go_big_quiet_on)
                        | (refine quiet_load_has 46 _ rfl rfl hOb6 ey Tryz.underlying46 rfl ?_; simp only [Act.put, List.setIfInBounds_toArray, List.set_cons_zero, List.set_cons_succ]; go_big_quiet_on)
                        | (go_big_quiet_op; first | go_big_quiet_on | go_big_quiet_call (first | with_reducible exact fun _ => rfl))))
                    refine wpQuiet_nil ?_
                    try clear w
                    intro w h
                    replace h := BACK.out _ h
                    by_cases hyx : x ≤ y
                    · have d1 : decide ((x : Int) ≤ (y : Int)) = true := decide_eq_true (by omega)
                      have d2 : decide (x ≤ y) = true := decide_eq_true hyx
                      have NO2 := Lib.hid (NO.out fun g => by have := g.2.2 y hj0 (by rw [← HJ.out]; exact HY.out); omega)
                      go_wp2
                      go_ret
                      exact ⟨false, rfl, ⟨fun e => (by cases e), fun e => absurd e NO2.out⟩, h.le hle5⟩
                    · have d1 : decide ((x : Int) ≤ (y : Int)) = false := decide_eq_false (by omega)
                      have d2 : decide (x ≤ y) = false := decide_eq_false hyx
                      have YY := Lib.hid (YES.out ⟨rfl, rfl, fun z h0 hz => by
                        rw [← HJ.out] at hz
                        have e : R[i]? = some z := hz
                        rw [HY.out] at e
                        cases e
                        omega⟩)
                      go_wp2
                      go_roundw
                      case rel => exact ⟨jj + 1, by have := HLT.out; omega, by first | rfl | go_num, YY.out, h⟩
                      case measure => have := HLT.out; have := HJ.out; simp [intOf]; omega
                · have NO2 := Lib.hid (NO.out fun g => hal g.2.1)
                  have z1 : (la == lv) = false := beq_eq_false_iff_ne.2 hal
                  have z2 : (la != lv) = true := by rw [bne, z1]; rfl
                  have z3 : decide (la = lv) = false := decide_eq_false hal
                  refine wp_region_class (Has σ M6) (by kernel_rfl) (by kernel_rfl) h.drew ?_
                  clear h
                  repeat (first
                    | go_big_quiet_skip
                    | (go_big_quiet_want; first
                      | (refine quiet_load_has 3 _ rfl rfl hb11 ea Tryz.underlying3 rfl ?_; simp only [Act.put, List.setIfInBounds_toArray, List.set_cons_zero, List.set_cons_succ]; go_big_quiet_on)
                      | (refine quiet_load_has 24 _ rfl rfl hb36 r3 Tryz.underlying24 rfl ?_; simp only [Act.put, List.setIfInBounds_toArray, List.set_cons_zero, List.set_cons_succ]; go_big_quiet_on)
                      | (refine quiet_load_has 46 _ rfl rfl hOb6 ex Tryz.underlying46 rfl ?_; simp only [Act.put, List.setIfInBounds_toArray, List.set_cons_zero, List.set_cons_succ]; go_big_quiet_on)
                      | (go_big_quiet_op; first | go_big_quiet_on | go_big_quiet_call (first | with_reducible exact fun _ => rfl))))
                  refine wpQuiet_nil ?_
                  try clear w
                  intro w h
                  go_wp2
                  go_ret
                  exact ⟨false, rfl, ⟨fun e => (by cases e), fun e => absurd e NO2.out⟩, h.le hle6⟩
            · obtain rfl : m = nr := by omega
              have hmn' : ¬ (m : Int) < (m : Int) := by omega
              have FIN := Lib.hid (MPE.out HRAW.out)
              clear MPE HRAW hmn hm
              obtain ⟨q1, hq1⟩ : ∃ b, decide ((C0 : Int) < 5) = b := ⟨_, rfl⟩
              obtain ⟨q2, hq2⟩ : ∃ b, decide ((C1 : Int) < 5) = b := ⟨_, rfl⟩
              obtain ⟨q5, hq5⟩ : ∃ b, decide (((ns + k + nq + m + 1 : Nat) : Int) ≤ sl) = b := ⟨_, rfl⟩
              have hq1n : decide (C0 < 5) = q1 := by rw [← hq1]; exact decide_eq_decide.2 (by omega)
              have hq2n : decide (C1 < 5) = q2 := by rw [← hq2]; exact decide_eq_decide.2 (by omega)
              rw [hq1, hq2, hq5] at FIN
              generalize ((ns + k + nq + m + 1 : Nat) : Int) = nd at *
              cases q1
              · go_upto_region 19 with (first
                  | (with_reducible show wpList _ _ _ ({ dst := _, op := Op.load 24 _, type := _, pos := _, after := _, guard := _ } :: _) _ _; go_loud (refine wpList_load1_has h rfl 24 _ rfl rfl hb35 r3 Tryz.underlying24 rfl ?_)))
                refine wp_region_class (Has σ M5) (by kernel_rfl) (by kernel_rfl) h.drew ?_
                clear h
                repeat (first
                  | go_big_quiet_skip
                  | (go_big_quiet_want; first
                    | (refine quiet_load_has 3 _ rfl rfl hb75 m0 Tryz.underlying3 rfl ?_; simp only [Act.put, List.setIfInBounds_toArray, List.set_cons_zero, List.set_cons_succ]; go_big_quiet_on)
                    | (refine quiet_load_has 3 _ rfl rfl hb75 m1 Tryz.underlying3 rfl ?_; simp only [Act.put, List.setIfInBounds_toArray, List.set_cons_zero, List.set_cons_succ]; go_big_quiet_on)
                    | (go_loud (refine quiet_agg_has 34 _ rfl rfl hb35 rx rz Tryz.underlying34 rfl (by kernel_rfl) ?_); simp only [Act.put, List.setIfInBounds_toArray, List.set_cons_zero, List.set_cons_succ]; go_big_quiet_on)
                    | (refine quiet_load_has 3 _ rfl rfl hb45 f10 Tryz.underlying3 rfl ?_; simp only [Act.put, List.setIfInBounds_toArray, List.set_cons_zero, List.set_cons_succ]; go_big_quiet_on)
                    | (go_big_quiet_op; first | go_big_quiet_on | go_big_quiet_call (first | with_reducible exact fun _ => rfl | with_reducible exact ND5.out _))))
                refine wpQuiet_nil ?_
                try clear w
                intro w h
                go_wp2
                go_ret
                exact ⟨_, rfl, FIN.out.symm, h.le hle5⟩
              · cases q2
                · go_upto_region 19 with (first
                    | (with_reducible show wpList _ _ _ ({ dst := _, op := Op.load 24 _, type := _, pos := _, after := _, guard := _ } :: _) _ _; go_loud (refine wpList_load1_has h rfl 24 _ rfl rfl hb35 r3 Tryz.underlying24 rfl ?_)))
                  refine wp_region_class (Has σ M5) (by kernel_rfl) (by kernel_rfl) h.drew ?_
                  clear h
                  repeat (first
                    | go_big_quiet_skip
                    | (go_big_quiet_want; first
                      | (refine quiet_load_has 3 _ rfl rfl hb75 m0 Tryz.underlying3 rfl ?_; simp only [Act.put, List.setIfInBounds_toArray, List.set_cons_zero, List.set_cons_succ]; go_big_quiet_on)
                      | (refine quiet_load_has 3 _ rfl rfl hb75 m1 Tryz.underlying3 rfl ?_; simp only [Act.put, List.setIfInBounds_toArray, List.set_cons_zero, List.set_cons_succ]; go_big_quiet_on)
                      | (go_loud (refine quiet_agg_has 34 _ rfl rfl hb35 rx rz Tryz.underlying34 rfl (by kernel_rfl) ?_); simp only [Act.put, List.setIfInBounds_toArray, List.set_cons_zero, List.set_cons_succ]; go_big_quiet_on)
                      | (refine quiet_load_has 3 _ rfl rfl hb45 f10 Tryz.underlying3 rfl ?_; simp only [Act.put, List.setIfInBounds_toArray, List.set_cons_zero, List.set_cons_succ]; go_big_quiet_on)
                      | (go_big_quiet_op; first | go_big_quiet_on | go_big_quiet_call (first | with_reducible exact fun _ => rfl | with_reducible exact ND5.out _))))
                  refine wpQuiet_nil ?_
                  try clear w
                  intro w h
                  go_wp2
                  go_ret
                  exact ⟨_, rfl, FIN.out.symm, h.le hle5⟩
                · go_upto_region 19 with (first
                    | (with_reducible show wpList _ _ _ ({ dst := _, op := Op.load 24 _, type := _, pos := _, after := _, guard := _ } :: _) _ _; go_loud (refine wpList_load1_has h rfl 24 _ rfl rfl hb35 r3 Tryz.underlying24 rfl ?_)))
                  refine wp_region_class (Has σ M5) (by kernel_rfl) (by kernel_rfl) h.drew ?_
                  clear h
                  repeat (first
                    | go_big_quiet_skip
                    | (go_big_quiet_want; first
                      | (refine quiet_load_has 3 _ rfl rfl hb75 m0 Tryz.underlying3 rfl ?_; simp only [Act.put, List.setIfInBounds_toArray, List.set_cons_zero, List.set_cons_succ]; go_big_quiet_on)
                      | (refine quiet_load_has 3 _ rfl rfl hb75 m1 Tryz.underlying3 rfl ?_; simp only [Act.put, List.setIfInBounds_toArray, List.set_cons_zero, List.set_cons_succ]; go_big_quiet_on)
                      | (go_loud (refine quiet_agg_has 34 _ rfl rfl hb35 rx rz Tryz.underlying34 rfl (by kernel_rfl) ?_); simp only [Act.put, List.setIfInBounds_toArray, List.set_cons_zero, List.set_cons_succ]; go_big_quiet_on)
                      | (refine quiet_load_has 3 _ rfl rfl hb45 f10 Tryz.underlying3 rfl ?_; simp only [Act.put, List.setIfInBounds_toArray, List.set_cons_zero, List.set_cons_succ]; go_big_quiet_on)
                      | (go_big_quiet_op; first | go_big_quiet_on | go_big_quiet_call (first | with_reducible exact fun _ => rfl | with_reducible exact ND5.out _))))
                  refine wpQuiet_nil ?_
                  try clear w
                  intro w h
                  go_wp2
                  go_ret
                  exact ⟨_, rfl, FIN.out.symm, h.le hle5⟩
end
section
open Go.RowKit
set_option linter.unusedVariables false
set_option linter.unusedSimpArgs false
set_option linter.unnecessarySimpa false
/-- The example's configuration. -/
def exR : Nat → Int := fun i => if i = 0 then 1 else if i = 1 then 1 else if i = 10 then 5 else if i = 11 then 1 else if i = 12 then 1 else 0
theorem exR_may : ConfMay exR := by decide
theorem exR_nums : Nums exR 1 1 5 := ⟨rfl, rfl, rfl, by omega, by omega, by omega⟩
def nilL : Value := .slice none 0 0
/-- A looker: what it counted so far. -/
def lkR (p bw : Nat) (fr li re he wo : Int) (ti cl lo : Bool) : Array Value := #[.pointer (some ⟨p, 0, none⟩), .int .i64 1, .int .i64 1, .int .i64 0, .int .i64 0, .int .i64 0, .int .i64 0, .int .i64 0, .int .i64 0, .int .i64 0, .int .i64 0, .int .i64 5, .int .i64 1, .int .i64 1, .int .i64 0, .int .i64 0, .slice (some ⟨bw, 0, none⟩) 49 49, nilL, nilL, nilL, nilL, .int .i64 fr, .int .i64 li, .int .i64 re, .int .i64 he, .int .i64 wo, .bool ti, .bool cl, .bool lo]
/-- A word of the level at first. -/
def wordR (k : Nat) (i j : Int) : Int := wl 1 5 1 (atK exR 0 k i j).toNat
/-- What is known of a machine and its words. -/
structure Seen (M : Mm) (lab : Nat → Nat) (p bw : Nat) (s : MachS) : Prop where
  mach : Mach M lab p s
  new : s.New exR 1 1 5
  words : M bw = some (.cells (ints .u64 49 (wl 1 5 1)) 46)
theorem Seen.le {M M' : Mm} {lab : Nat → Nat} {p bw : Nat} {s : MachS} (h : Seen M lab p bw s) (hle : M.le M') : ∃ lab', Seen M' lab' p bw s := ⟨_, h.mach.keep (Kp.le hle fun _ => 0) fun _ _ h => h, h.new, hle _ _ h.words⟩
set_option maxHeartbeats 2000000 in
set_option maxRecDepth 20000 in
theorem lkAt_eq {σ w : World} {M : Mm} {lab : Nat → Nat} {p bw bl : Nat} {s : MachS} (h : Has σ M w) (hS : Seen M lab p bw s) {fr li re he wo : Int} {ti cl lo : Bool} (hl : M bl = some (.cells (lkR p bw fr li re he wo ti cl lo) 83)) (k : Nat) (i j : Int) (hk : InK exR k i j) {a : Nat} (ha : atK exR 0 k i j = (a : Int)) (ha49 : a < 49) :
    Calls Tryz.prog 48 #[.pointer (some ⟨bl, 0, none⟩), .int .i64 (k : Nat), .int .i64 i, .int .i64 j] w fun r w' => r = .returned (.int .u64 (wordR k i j)) ∧ Has σ M w' := by
  have hc : s.c = exR := hS.new.c
  have PL := Lib.hid (fun (w : World) (h : Has σ M w) => mPlan_eq h hS.mach)
  have AT : Hid (∀ w, Has σ M w → Calls Tryz.prog 42 #[.pointer (some ⟨s.pl, 0, none⟩), .agg #[.int .i64 0, .int .i64 (k : Nat), .int .i64 i, .int .i64 j]] w fun e w' => e = .returned (.int .i64 (a : Nat)) ∧ Has σ M w') := Lib.hid fun w h => by
    have := at_yes h exR exR_may (by have := hS.mach.plan; rw [hc] at this; exact this) 0 k i j (by omega) (by decide) hk
    rw [ha] at this
    exact this
  have W := hS.words
  have ew : (ints .u64 49 (wl 1 5 1))[a]? = some (.int .u64 (wordR k i j)) := by
    rw [ints_get ha49]
    unfold wordR
    rw [ha]
    rfl
  have ha' : (a : Int) < 49 := by omega
  have e0 : (lkR p bw fr li re he wo ti cl lo)[0]? = some (.pointer (some ⟨p, 0, none⟩)) := rfl
  have e15 : (lkR p bw fr li re he wo ti cl lo)[15]? = some (.int .i64 0) := rfl
  have e16 : (lkR p bw fr li re he wo ti cl lo)[16]? = some (.slice (some ⟨bw, 0, none⟩) 49 49) := rfl
  clear hS hc hk ha
  generalize s.pl = pl at *
  generalize ints .u64 49 (wl 1 5 1) = wr at *
  generalize lkR p bw fr li re he wo ti cl lo = lr at *
  generalize wordR k i j = v at *
  go_enter Tryz.func48, Tryz.ntmps48
  go_upto_region 1 with (fail)
  refine wp_region_class (Has σ M) (by kernel_rfl) (by kernel_rfl) h.drew ?_
  clear h
  repeat (first
    | go_big_quiet_skip
    | (go_big_quiet_want; first
      | (refine quiet_load_has 24 _ rfl rfl hl e16 Tryz.underlying24 rfl ?_; simp only [Act.put, List.setIfInBounds_toArray, List.set_cons_zero, List.set_cons_succ]; go_big_quiet_on)
      | (refine quiet_load_has 38 _ rfl rfl hl e0 Tryz.underlying38 rfl ?_; simp only [Act.put, List.setIfInBounds_toArray, List.set_cons_zero, List.set_cons_succ]; go_big_quiet_on)
      | (refine quiet_load_has 3 _ rfl rfl hl e15 Tryz.underlying3 rfl ?_; simp only [Act.put, List.setIfInBounds_toArray, List.set_cons_zero, List.set_cons_succ]; go_big_quiet_on)
      | (refine quiet_load_has 46 _ rfl rfl W ew Tryz.underlying46 rfl ?_; simp only [Act.put, List.setIfInBounds_toArray, List.set_cons_zero, List.set_cons_succ]; go_big_quiet_on)
      | (go_big_quiet_op; first | go_big_quiet_on | go_big_quiet_call (first | with_reducible exact fun _ => rfl | with_reducible exact PL.out _ | with_reducible exact AT.out _))))
  refine wpQuiet_nil ?_
  try clear w
  intro w h
  go_wp2
  go_ret
  exact ⟨rfl, h⟩
theorem inR_node (t fd : Nat) (h1 : 1 ≤ t) (h5 : t ≤ 5) (hf : fd < 5) : InK exR 9 (t : Nat) (fd : Nat) := ⟨by omega, by unfold baseK; simp; omega, by omega, by omega, fun e => absurd rfl e, by unfold numK many baseK exR; simp; omega⟩
theorem atR_node (t fd : Nat) (h1 : 1 ≤ t) : atK exR 0 9 (t : Nat) (fd : Nat) = ((24 + (t - 1) * 5 + fd : Nat) : Int) := by
  unfold atK firsts numK baseK exR
  simp
  omega
set_option maxRecDepth 20000 in
theorem lkNode_eq {σ w : World} {M : Mm} {lab : Nat → Nat} {p bw bl : Nat} {s : MachS} (h : Has σ M w) (hS : Seen M lab p bw s) {fr li re he wo : Int} {ti cl lo : Bool} (hl : M bl = some (.cells (lkR p bw fr li re he wo ti cl lo) 83)) (t fd : Nat) (h1 : 1 ≤ t) (h5 : t ≤ 5) (hf : fd < 5) : Calls Tryz.prog 51 #[.pointer (some ⟨bl, 0, none⟩), .int .i64 (t : Nat), .int .i64 (fd : Nat)] w fun r w' => r = .returned (.int .u64 (wordR 9 (t : Nat) (fd : Nat))) ∧ Has σ M w' := by
  have AT := Lib.hid (fun (w : World) (h : Has σ M w) => lkAt_eq h hS hl 9 (t : Nat) (fd : Nat) (inR_node t fd h1 h5 hf) (atR_node t fd h1) (by omega))
  clear hS hl h1 h5 hf
  generalize wordR 9 (t : Nat) (fd : Nat) = v at *
  go_enter Tryz.func51, Tryz.ntmps51
  go_wp2_with (first
    | (go_at_call 48; go_loud (refine (AT.out _ h).mono ?_); clear h; rintro _ w ⟨rfl, h⟩))
  go_ret
  exact ⟨rfl, h⟩
/-- Next of every node is nothing; so are its Key, A, B; the first one's Head is used. -/
theorem wordR_next (t : Nat) (h1 : 1 ≤ t) (h5 : t ≤ 5) : wordR 9 (t : Nat) ((1 : Nat) : Int) = 0 := by
  rcases (show t = 1 ∨ t = 2 ∨ t = 3 ∨ t = 4 ∨ t = 5 by omega) with rfl | rfl | rfl | rfl | rfl <;> decide
theorem wordR_two (t fd : Nat) (h1 : 1 ≤ t) (h5 : t ≤ 5) (hf : 2 ≤ fd) (hf5 : fd < 5) : wordR 9 (t : Nat) (fd : Nat) = 0 := by
  rcases (show t = 1 ∨ t = 2 ∨ t = 3 ∨ t = 4 ∨ t = 5 by omega) with rfl | rfl | rfl | rfl | rfl <;> rcases (show fd = 2 ∨ fd = 3 ∨ fd = 4 by omega) with rfl | rfl | rfl <;> decide
theorem wordR_head (t : Nat) (h1 : 1 ≤ t) (h5 : t ≤ 5) : wordR 9 (t : Nat) ((0 : Nat) : Int) = if t = 1 then 1 else 0 := by
  rcases (show t = 1 ∨ t = 2 ∨ t = 3 ∨ t = 4 ∨ t = 5 by omega) with rfl | rfl | rfl | rfl | rfl <;> decide
theorem linkSlot_0 {σ w : World} {M : Mm} (h : Has σ M w) : Calls Tryz.prog 49 #[.int .u64 0] w fun r w' => r = .returned (.int .i64 0) ∧ Has σ M w' :=
  (linkSlot_any 0 (by decide) w).mono fun r w' ⟨e1, e2⟩ => ⟨e1, e2 ▸ h⟩
set_option maxRecDepth 20000 in
theorem lkNext_eq {σ w : World} {M : Mm} {lab : Nat → Nat} {p bw bl : Nat} {s : MachS} (h : Has σ M w) (hS : Seen M lab p bw s) {fr li re he wo : Int} {ti cl lo : Bool} (hl : M bl = some (.cells (lkR p bw fr li re he wo ti cl lo) 83)) (t : Nat) (h1 : 1 ≤ t) (h5 : t ≤ 5) : Calls Tryz.prog 50 #[.pointer (some ⟨bl, 0, none⟩), .int .i64 (t : Nat)] w fun r w' => r = .returned (.int .i64 0) ∧ Has σ M w' := by
  have ND := Lib.hid (fun (w : World) (h : Has σ M w) => lkNode_eq h hS hl t 1 h1 h5 (by omega))
  rw [wordR_next t h1 h5] at ND
  have SL := Lib.hid (fun (w : World) (h : Has σ M w) => linkSlot_0 h)
  clear hS hl h1 h5
  go_enter Tryz.func50, Tryz.ntmps50
  go_wp2_with (first
    | (go_at_call 51; go_loud (refine (ND.out _ h).mono ?_); clear h; rintro _ w ⟨rfl, h⟩)
    | (go_at_call 49; go_loud (refine (SL.out _ h).mono ?_); clear h; rintro _ w ⟨rfl, h⟩))
  go_ret
  exact ⟨rfl, h⟩
end
end Go.Proofs.YtlpkimpdeeiaaaaGreat
