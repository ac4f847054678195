/- Layer 39 (limit): Round where no step is needed; the chapter's example. -/
import Derived.Test.YtmfpablmmjaccaaGreatDoorLmC
namespace Go.Proofs.YtmfpablmmjaccaaGreatDoor
open Go.RowKit
set_option linter.unusedVariables false
set_option linter.unusedSimpArgs false
set_option linter.unnecessarySimpa false
theorem made_i64 (n : Nat) : madeCells (Value.int .i64 0).cells (n * 1) = ints .i64 n fun _ => 0 := by
  apply Array.ext_getElem?
  intro i
  unfold madeCells ints
  by_cases hi : i < n
  · simp [Value.cells, hi, Nat.mod_one]
  · simp [Value.cells, hi]
theorem mk_i64 (N : Nat) (h : N ≤ 100000) (W : World) : (Instr.makeSlice 33 (.int .i64 N) (.int .i64 N)).run Tryz.prog W = .ok (.slice (some ⟨W.heap.size, 0, none⟩) N N) (W.alloc (.cells (ints .i64 N fun _ => 0) 3)) := by
  obtain ⟨i, hi, he⟩ := Option.map_eq_some_iff.1 info_int
  simp only [Prod.mk.injEq] at he
  obtain ⟨h1, h2, h3⟩ := he
  rw [run_makeSlice W 33 3 i (.int .i64 0) Tryz.underlying33 hi h1 .i64 .i64 N N (by omega) (by omega) (by rw [h2, Int.toNat_natCast]; omega) (by rw [h3]; omega) (by omega), Int.toNat_natCast, h2, made_i64]
def confZ : Array Value := #[.int .i64 0, .int .i64 0, .int .i64 0, .int .i64 0, .int .i64 0, .int .i64 0, .int .i64 0, .int .i64 0, .int .i64 0, .int .i64 0, .int .i64 0, .int .i64 0, .int .i64 0, .int .i64 0]
theorem zconfL : (Tryz.prog.info? 24).bind (·.zero) = some (.agg confZ) := by kernel_rfl
theorem turn_put (p : Nat) (lv : Int) (va v0 vg vn : Value) : (turnR p lv va v0 vn).setIfInBounds 3 vg = turnR p lv va vg vn := rfl
def nilI : Value := .slice none 0 0
set_option maxHeartbeats 4000000 in
set_option maxRecDepth 20000 in
theorem limitRound_eq {σ w : World} {M : Mm} {lab : Nat → Nat} {p : Nat} {s : MachS} (h : Has σ M w) (hM : Mach M lab p s) {T B : Nat} (hT : s.c 1 = (T : Nat)) (hB : s.c 11 = (B : Nat)) (lv wd : Int) (hwd : wd ≤ 1000) (hN : s.mem.N ≤ 10000)
    (hz : ∀ i : Nat, 0 ≤ lv → lv < s.c 0 → i < B → ∃ j : Nat, atK s.c lv 7 (i : Nat) 0 = (j : Int) ∧ j < s.mem.N ∧ s.mem.f j = 0) (A : Option Addr) (n c : Nat) :
    Calls Tryz.prog 12 #[.pointer (some ⟨p, 0, none⟩), .int .i64 lv, .slice A n c, .int .i64 wd] w fun r w' => r = .returned (.tuple #[.int .i64 0, .bool (decide (1 ≤ wd) && (decide ((((atCi s.c T lv).length : Nat) : Int) ≤ wd) && ((atCi s.c T lv).all (idleT s) && decide (0 < (atCi s.c T lv).length))))]) ∧ Has σ M w' := by
  have hm : confMayB s.c = true := decide_eq_true hM.may
  have hT8 : T ≤ 8 := by have := hM.may.2.1; omega
  have hB40 : B ≤ 40 := by obtain ⟨_, _, _, _, _, ⟨g4, g5⟩, _⟩ := hM.may; omega
  have hlen : (atCi s.c T lv).length ≤ 8 := Nat.le_trans (atCi_le s.c T lv) hT8
  have PL := Lib.hid (fun (M' : Mm) (hle : M.le M') (w : World) (h : Has σ M' w) => mPlan_eq h (hM.keep (Kp.le hle fun _ => 0) fun _ _ h => h))
  have CF := Lib.hid (fun (M' : Mm) (hle : M.le M') (w : World) (h : Has σ M' w) => conf_has h s.c (hM.keep (Kp.le hle fun _ => 0) fun _ _ h => h).plan)
  have AT := Lib.hid (fun (M' : Mm) (w : World) (h : Has σ M' w) => confAti_eq h s.c hm hT lv)
  have TK := Lib.hid (fun (M' : Mm) (w : World) (h : Has σ M' w) => limitTaken_eq h A n c)
  obtain ⟨bn, ok, hok, BD⟩ : ∃ (bn : Int) (ok : Bool), (ok = decide (1 ≤ wd) ∧ (ok = true → 0 ≤ bn)) ∧ Hid (∀ (M' : Mm) (w : World), Has σ M' w → Calls Tryz.prog 21 #[confV s.c, .int .i64 wd] w fun r w' => r = .returned (.tuple #[.int .i64 bn, .bool ok]) ∧ Has σ M' w') := by
    by_cases h1 : 1 ≤ wd
    · refine ⟨ownN s.c * wd, true, ⟨(decide_eq_true h1).symm, fun _ => Int.mul_nonneg (ownN_bd s.c).1 (by omega)⟩, Lib.hid fun M' w h => limitBound_yes h s.c wd h1 hwd hm⟩
    · refine ⟨0, false, ⟨(decide_eq_false h1).symm, fun e => by cases e⟩, Lib.hid fun M' w h => limitBound_no h s.c wd fun g => h1 g.1⟩
  have D1 := Lib.hid hok.1
  have D2 := Lib.hid hok.2
  clear hok
  have hin : ∀ t ∈ atCi s.c T lv, t < s.tp.length := fun t ht => by
    have h1 := List.mem_range.1 (List.mem_filter.1 ht).1
    have h2 := hM.tlen
    rw [hT] at h2
    omega
  have hlv : 0 < (atCi s.c T lv).length → 0 ≤ lv ∧ lv < s.c 0 := fun g => by
    obtain ⟨t, ht⟩ := List.exists_mem_of_length_pos g
    have h1 := List.mem_range.1 (List.mem_filter.1 ht).1
    have h2 : s.c (2 + t) = lv := by simpa using (List.mem_filter.1 ht).2
    have h3 := hM.may.2.2.2.1 t (by omega)
    omega
  have RD := Lib.hid (fun (M' : Mm) (bt : Nat) (va vg vn : Value) (w : World) (hle : M.le M') (hb : M' bt = some (.cells (turnR p lv va vg vn) 87)) (hr : Rd M' 1 va (atCi s.c T lv).length (natv (atCi s.c T lv))) (h : Has σ M' w) => limitReady_eq h (hM.keep (Kp.le hle fun _ => 0) fun _ _ h => h) rfl hb hr hin hlen)
  have EM := Lib.hid (fun (M' : Mm) (bt : Nat) (va vg vn : Value) (w : World) (g : 0 < (atCi s.c T lv).length) (hle : M.le M') (hb : M' bt = some (.cells (turnR p lv va vg vn) 87)) (h : Has σ M' w) => limitEmpty_eq h (hM.keep (Kp.le hle fun _ => 0) fun _ _ h => h) hb hB hB40 (hlv g).1 (hlv g).2 hN (fun i hi => hz i (hlv g).1 (hlv g).2 hi))
  have hx : (ints .i64 14 s.c).extract 0 (0 + 14) = ints .i64 14 s.c := rfl
  have hzz : (ints .i64 14 s.c).size = 14 := rfl
  have HO : Hid ((ints .i64 14 s.c).toList.all (·.oneCell') = true) := Lib.hid rfl
  have zc := zconfL
  have HZ : Hid (confZ.size = 14) := Lib.hid rfl
  generalize confZ = cz at *
  unfold confV at AT BD
  generalize ints .i64 14 s.c = crow at *
  generalize natv (atCi s.c T lv) = nv at *
  generalize hrd : (atCi s.c T lv).all (idleT s) = rd at *
  generalize (atCi s.c T lv).length = L at *
  clear hrd hM hm hT hB hz hin hlv
  generalize s.pl = pl at *
  go_enter Tryz.func12, Tryz.ntmps12
  have PL0 := Lib.hid (PL.out M (Mm.le_refl _))
  have CF0 := Lib.hid (CF.out M (Mm.le_refl _))
  go_upto_region 2 with (first
    | (go_at_call 29; go_loud (refine (PL0.out _ h).mono ?_); clear h; rintro _ w ⟨rfl, h⟩)
    | (go_at_call 30; go_loud (refine (CF0.out _ h).mono ?_); clear h; rintro _ w ⟨rfl, h⟩)
    | ((with_reducible show wpList _ _ _ ({ dst := some 10, op := Op.alloc 24, type := _, pos := _, after := _, guard := _ } :: _) _ _); go_loud (refine wpList_alloc_has h rfl 24 rfl _ zc ?_); clear h; intro b10 w h hn10; try simp only [Act.put, List.setIfInBounds_toArray, List.set_cons_zero, List.set_cons_succ])
    | ((with_reducible show wpList _ _ _ ({ dst := _, op := Op.store 24 _ _, type := _, pos := _, after := _, guard := _ } :: _) _ _); refine wpList_storeAll_has (cells := crow) h rfl 24 _ _ rfl rfl rfl (Mm.upd_same _ _ _) rfl HZ.out hzz (by kernel_rfl) HO.out ?_; clear h; intro w h))
  rw [Mm.upd_upd] at h
  have hle1 := Mm.le_upd' hn10 (.cells crow 24)
  have hb10 := Mm.upd_same M b10 (.cells crow 24)
  generalize M.upd b10 (.cells crow 24) = M1 at *
  clear PL CF PL0 CF0 hn10
  go_upto_region 3 with (first
    | ((with_reducible show wpList _ _ _ ({ dst := _, op := Op.load 24 _, type := _, pos := _, after := _, guard := _ } :: _) _ _); go_loud (refine wpList_agg_has h rfl 24 _ rfl rfl hb10 hx hzz Tryz.underlying24 rfl (by kernel_rfl) ?_); try simp only [Act.put, List.setIfInBounds_toArray, List.set_cons_zero, List.set_cons_succ])
    | (go_at_call 21; go_loud (refine (BD.out _ _ h).mono ?_); clear h; rintro _ w ⟨rfl, h⟩))
  go_upto_region 4 with (first
    | ((with_reducible show wpList _ _ _ ({ dst := _, op := Op.load 24 _, type := _, pos := _, after := _, guard := _ } :: _) _ _); go_loud (refine wpList_agg_has h rfl 24 _ rfl rfl hb10 hx hzz Tryz.underlying24 rfl (by kernel_rfl) ?_); try simp only [Act.put, List.setIfInBounds_toArray, List.set_cons_zero, List.set_cons_succ])
    | ((go_at_call 31; refine (AT.out _ _ h).mono ?_; clear h; rintro _ w ⟨va, rfl, M2, h, hle2, hown⟩; obtain ⟨Ao, co, rfl⟩ := hown.form))
    | ((go_at_call 32; refine (TK.out _ _ h).mono ?_; clear h; rintro _ w ⟨k1, k3, k4, rfl, h⟩))
    | ((with_reducible show wpList _ _ _ ({ dst := _, op := Op.build 87 _, type := _, pos := _, after := _, guard := _ } :: _) _ _); (refine wpList_build_has rfl 87 _ rfl (turnR p lv (.slice Ao L co) nilI (.func (.func 53) #[] #[.pointer (some ⟨k3, 0, none⟩), .pointer (some ⟨k1, 0, none⟩), .pointer (some ⟨k4, 0, none⟩)])) (by kernel_rfl) ?_; try simp only [Act.put, List.setIfInBounds_toArray, List.set_cons_zero, List.set_cons_succ]))
    | ((with_reducible show wpList _ _ _ ({ dst := _, op := Op.box 87 _, type := _, pos := _, after := _, guard := _ } :: _) _ _); go_loud (refine wpList_box_has h rfl 87 _ rfl ?_); clear h; intro b13 w h hn13; try simp only [Act.put, List.setIfInBounds_toArray, List.set_cons_zero, List.set_cons_succ]))
  generalize hvn : Value.func (.func 53) #[] #[.pointer (some ⟨k3, 0, none⟩), .pointer (some ⟨k1, 0, none⟩), .pointer (some ⟨k4, 0, none⟩)] = vn at *
  clear hvn
  have hrd2 := hown.rd
  replace h : Has σ (M2.upd b13 (.cells (turnR p lv (.slice Ao L co) nilI vn) 87)) w := h
  have hb13 := Mm.upd_same M2 b13 (.cells (turnR p lv (.slice Ao L co) nilI vn) 87)
  have hle3 := Mm.le_upd' hn13 (.cells (turnR p lv (.slice Ao L co) nilI vn) 87)
  have hrd3 := hrd2.le hle3
  have hleM := Mm.le_trans hle1 (Mm.le_trans hle2 hle3)
  have hn13M : M b13 = none := Mm.none_of (Mm.le_trans hle1 hle2) hn13
  have hn13N := hn13
  have HR3 := Lib.hid hrd2
  clear hown hrd2 hle3 hrd3
  have MK := mk_i64 L (by omega)
  have e2 : (turnR p lv (.slice Ao L co) nilI vn)[2]? = some (.slice Ao L co) := rfl
  have l3 : 3 < (turnR p lv (.slice Ao L co) nilI vn).size := by show 3 < 5; omega
  go_upto_region 5 with (first
    | (with_reducible show wpList _ _ _ ({ dst := _, op := Op.load 33 _, type := _, pos := _, after := _, guard := _ } :: _) _ _; go_loud (refine wpList_load1_has h rfl 33 _ rfl rfl hb13 e2 Tryz.underlying33 rfl ?_))
    | ((with_reducible show wpList _ _ _ ({ dst := _, op := Op.store 33 _ _, type := _, pos := _, after := _, guard := _ } :: _) _ _); obtain ⟨M5, hbx, hle5, hbs, hns⟩ := h.box (.cells (ints .i64 L fun _ => 0) 3); generalize w.alloc _ = wx at hbx ⊢; generalize w.heap.size = bs at hbs hns ⊢; clear h; have h := hbx; clear hbx; try clear w; obtain ⟨w, rfl⟩ : ∃ x : World, x = wx := ⟨_, rfl⟩; have hb135 := hle5 _ _ hb13; refine wpList_store1_has h rfl 33 _ _ rfl rfl rfl hb135 l3 rfl (by kernel_rfl) ?_; clear h; intro w h))
  replace h : Has σ (M5.upd b13 (.cells ((turnR p lv (.slice Ao L co) nilI vn).setIfInBounds 3 (.slice (some ⟨bs, 0, none⟩) L L)) 87)) w := h
  rw [turn_put] at h
  have hb := Mm.upd_same M5 b13 (.cells (turnR p lv (.slice Ao L co) (.slice (some ⟨bs, 0, none⟩) L L) vn) 87)
  have hle25 : M2.le (M5.upd b13 (.cells (turnR p lv (.slice Ao L co) (.slice (some ⟨bs, 0, none⟩) L L) vn) 87)) := Mm.le_upd (Mm.le_trans (Mm.le_upd' hn13N _) hle5) hn13N _
  have hleF := Mm.le_trans (Mm.le_trans hle1 hle2) hle25
  have hrF := HR3.out.le hle25
  have f2 : (turnR p lv (.slice Ao L co) (.slice (some ⟨bs, 0, none⟩) L L) vn)[2]? = some (.slice Ao L co) := rfl
  generalize M5.upd b13 (.cells (turnR p lv (.slice Ao L co) (.slice (some ⟨bs, 0, none⟩) L L) vn) 87) = M6 at *
  have RD1 := Lib.hid (fun (w : World) (h : Has σ M6 w) => RD.out M6 b13 _ _ _ w hleF hb hrF h)
  have EM1 := Lib.hid (fun (g : 0 < L) (w : World) (h : Has σ M6 w) => EM.out M6 b13 _ _ _ w g hleF hb h)
  clear RD EM BD AT TK MK e2 l3 hleM hn13N hn13M HR3 hrF hle25 hb10 hb13 hn13 hle1 hle2 hle5 hbs hns hb135 hN
  generalize turnR p lv (.slice Ao L co) (.slice (some ⟨bs, 0, none⟩) L L) vn = tr at *
  cases ok
  · go_wp2
    go_ret2
    exact ⟨by rw [← D1.out]; rfl, h.le hleF⟩
  · have hbn := D2.out rfl
    by_cases hw : (L : Int) ≤ wd
    · have dw : decide (wd < (L : Int)) = false := decide_eq_false (by omega)
      have DW : Hid (decide ((L : Int) ≤ wd) = true) := Lib.hid (decide_eq_true hw)
      clear hw
      cases hR : (rd && decide (0 < L))
      · rw [hR] at RD1
        go_wp2_with (first
          | (with_reducible show wpList _ _ _ ({ dst := _, op := Op.load 33 _, type := _, pos := _, after := _, guard := _ } :: _) _ _; go_loud (refine wpList_load1_has h rfl 33 _ rfl rfl hb f2 Tryz.underlying33 rfl ?_))
          | (go_at_call 33; go_loud (refine (RD1.out _ h).mono ?_); clear h; rintro _ w ⟨rfl, h⟩))
        go_ret2
        exact ⟨by rw [← D1.out, DW.out, hR]; rfl, h.le hleF⟩
      · rw [hR] at RD1
        have h0L : 0 < L := by
          have := (Bool.and_eq_true _ _ |>.mp hR).2
          exact of_decide_eq_true this
        have EM2 := Lib.hid (fun (w : World) (h : Has σ M6 w) => EM1.out h0L w h)
        have HR := Lib.hid hR
        clear hR
        go_upto_region 8 with (first
          | (with_reducible show wpList _ _ _ ({ dst := _, op := Op.load 33 _, type := _, pos := _, after := _, guard := _ } :: _) _ _; go_loud (refine wpList_load1_has h rfl 33 _ rfl rfl hb f2 Tryz.underlying33 rfl ?_))
          | (go_at_call 33; go_loud (refine (RD1.out _ h).mono ?_); clear h; rintro _ w ⟨rfl, h⟩))
        go_loopw [14] (fun u wr => u = .int .i64 0 ∧ Has σ M6 wr) (fun u _ => 0)
        case atStart => exact ⟨rfl, h⟩
        case round =>
          clear h w
          obtain ⟨w, rfl⟩ : ∃ x : World, x = wr := ⟨_, rfl⟩
          obtain ⟨rfl, h⟩ := hrel
          by_cases hb0 : 0 < bn
          · have db : decide (0 < bn) = true := decide_eq_true hb0
            clear hb0 hbn
            go_wp2_with (first
              | (go_at_call 34; go_loud (refine (EM2.out _ h).mono ?_); clear h; rintro _ w ⟨rfl, h⟩))
            go_ret2
            exact ⟨by rw [← D1.out, DW.out, HR.out]; rfl, h.le hleF⟩
          · have db : decide (0 < bn) = false := decide_eq_false hb0
            clear hb0 hbn
            go_wp2_with (first
              | (go_at_call 34; go_loud (refine (EM2.out _ h).mono ?_); clear h; rintro _ w ⟨rfl, h⟩))
            go_ret2
            exact ⟨by rw [← D1.out, DW.out, HR.out]; rfl, h.le hleF⟩
    · have dw : decide (wd < (L : Int)) = true := decide_eq_true (by omega)
      have DW : Hid (decide ((L : Int) ≤ wd) = false) := Lib.hid (decide_eq_false hw)
      clear hw
      go_wp2_with (first
        | (with_reducible show wpList _ _ _ ({ dst := _, op := Op.load 33 _, type := _, pos := _, after := _, guard := _ } :: _) _ _; go_loud (refine wpList_load1_has h rfl 33 _ rfl rfl hb f2 Tryz.underlying33 rfl ?_)))
      go_ret2
      exact ⟨by rw [← D1.out, DW.out]; rfl, h.le hleF⟩
def ex39 : Nat → Int := fun i => if i = 0 then 1 else if i = 1 then 1 else if i = 10 then 2 else if i = 11 then 1 else if i = 12 then 1 else 0
theorem ex39_may : confMayB ex39 = true := by decide
theorem ex39_own : ownN ex39 = 5223 := by decide
set_option maxHeartbeats 1000000 in
set_option maxRecDepth 20000 in
theorem lm_lives {σ w : World} {M : Mm} (h : Has σ M w) : Calls Tryz.prog 6 #[] w fun r w' => r = .returned (.bool true) ∧ Has σ M w' := by
  have BD := Lib.hid (fun (M' : Mm) (w : World) (h : Has σ M' w) => limitBound_yes h ex39 2 (by omega) (by omega) ex39_may)
  have OW := Lib.hid (fun (M' : Mm) (w : World) (h : Has σ M' w) => limitOwn_eq h ex39)
  rw [ex39_own] at BD OW
  have EC : ints .i64 14 ex39 = #[.int .i64 1, .int .i64 1, .int .i64 0, .int .i64 0, .int .i64 0, .int .i64 0, .int .i64 0, .int .i64 0, .int .i64 0, .int .i64 0, .int .i64 2, .int .i64 1, .int .i64 1, .int .i64 0] := rfl
  unfold confV at BD OW
  rw [EC] at BD OW
  clear EC
  have zc := zconfL
  have HZ : Hid (confZ.size = 14) := Lib.hid rfl
  generalize confZ = cz at *
  generalize hcr : (#[.int .i64 1, .int .i64 1, .int .i64 0, .int .i64 0, .int .i64 0, .int .i64 0, .int .i64 0, .int .i64 0, .int .i64 0, .int .i64 0, .int .i64 2, .int .i64 1, .int .i64 1, .int .i64 0] : Array Value) = cr at *
  have HCR := Lib.hid hcr
  have hzz : cr.size = 14 := by rw [← hcr]; rfl
  have hx : cr.extract 0 (0 + 14) = cr := by rw [← hcr]; rfl
  have HO : Hid (cr.toList.all (·.oneCell') = true) := Lib.hid (by rw [← hcr]; rfl)
  clear hcr
  go_enter Tryz.func6, Tryz.ntmps6
  go_upto_region 2 with (first
    | ((with_reducible show wpList _ _ _ ({ dst := _, op := Op.build 24 _, type := _, pos := _, after := _, guard := _ } :: _) _ _); (refine wpList_build_has rfl 24 _ rfl #[.int .i64 1, .int .i64 1, .int .i64 0, .int .i64 0, .int .i64 0, .int .i64 0, .int .i64 0, .int .i64 0, .int .i64 0, .int .i64 0, .int .i64 2, .int .i64 1, .int .i64 1, .int .i64 0] (by kernel_rfl) ?_; rw [HCR.out]; try simp only [Act.put, List.setIfInBounds_toArray, List.set_cons_zero, List.set_cons_succ]))
    | ((with_reducible show wpList _ _ _ ({ dst := some 1, op := Op.alloc 24, type := _, pos := _, after := _, guard := _ } :: _) _ _); go_loud (refine wpList_alloc_has h rfl 24 rfl _ zc ?_); clear h; intro b1 w h hn1; try simp only [Act.put, List.setIfInBounds_toArray, List.set_cons_zero, List.set_cons_succ])
    | ((with_reducible show wpList _ _ _ ({ dst := _, op := Op.store 24 _ _, type := _, pos := _, after := _, guard := _ } :: _) _ _); refine wpList_storeAll_has (cells := cr) h rfl 24 _ _ rfl rfl rfl (Mm.upd_same _ _ _) rfl HZ.out hzz (by kernel_rfl) HO.out ?_; clear h; intro w h))
  rw [Mm.upd_upd] at h
  have hle1 := Mm.le_upd' hn1 (.cells cr 24)
  have hb1 := Mm.upd_same M b1 (.cells cr 24)
  generalize M.upd b1 (.cells cr 24) = M1 at *
  go_wp2_with (first
    | ((with_reducible show wpList _ _ _ ({ dst := _, op := Op.load 24 _, type := _, pos := _, after := _, guard := _ } :: _) _ _); go_loud (refine wpList_agg_has h rfl 24 _ rfl rfl hb1 hx hzz Tryz.underlying24 rfl (by kernel_rfl) ?_); try simp only [Act.put, List.setIfInBounds_toArray, List.set_cons_zero, List.set_cons_succ])
    | (go_at_call 21; go_loud (refine (BD.out _ _ h).mono ?_); clear h; rintro _ w ⟨rfl, h⟩)
    | (go_at_call 22; go_loud (refine (OW.out _ _ h).mono ?_); clear h; rintro _ w ⟨rfl, h⟩))
  go_ret
  exact ⟨rfl, h.le hle1⟩
end Go.Proofs.YtmfpablmmjaccaaGreatDoor
