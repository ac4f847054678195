/- MachineLays returns true for any configuration, thread and place, and leaves its arguments as they were. No condition. -/
import Derived.Test.YtnknlleflpkijaaLzB
import Derived.Test.YtnknlleflpkijaaSpD
import Derived.ChangeMaps5
namespace Go.Proofs.Ytnknlleflpkijaa
section
open Go.RowKit
set_option linter.unusedVariables false
set_option linter.unusedSimpArgs false
set_option linter.unnecessarySimpa false
theorem Has.box2 {σ w : World} {M : Mm} (h : Has σ M w) (o o' : Obj) : ∃ M', Has σ M' ((w.alloc o).alloc o') ∧ M.le M' ∧ M' w.heap.size = some o ∧ M' (w.heap.size + 1) = some o' ∧ M w.heap.size = none ∧ M (w.heap.size + 1) = none := by
  have ez : (w.alloc o).heap.size = w.heap.size + 1 := by simp
  have h1 := h.alloc o
  have h2 := h1.alloc o'
  have hf := h1.fresh
  rw [ez] at h2 hf
  exact ⟨_, h2, Mm.le_trans (Mm.le_upd' h.fresh _) (Mm.le_upd' hf _), Mm.le_upd' hf _ _ _ (Mm.upd_same _ _ _), Mm.upd_same _ _ _, h.fresh, Mm.none_of (Mm.le_upd' h.fresh o) hf⟩
set_option maxHeartbeats 4000000 in
set_option maxRecDepth 20000 in
theorem lays_no {σ w : World} {M : Mm} (h : Has σ M w) (c : Nat → Int) (t x kk i j : Int) (hm : confMayB c = false) :
    Calls Try.prog 5 #[confV c, .int .i64 t, .agg #[.int .i64 x, .int .i64 kk, .int .i64 i, .int .i64 j]] w fun r w' => r = .returned (.bool true) ∧ Has σ M w' := by
  have N1 := Lib.hid (fun (M : Mm) (w : World) (h : Has σ M w) => nDrop_eq h t 1)
  have N2 := Lib.hid (fun (M : Mm) (w : World) (h : Has σ M w) => nPlan_eq h)
  have N3 := Lib.hid (fun (M : Mm) (w : World) (h : Has σ M w) => nMem_eq h)
  have N4 := Lib.hid (fun (M : Mm) (w : World) (h : Has σ M w) => nWarden_eq h)
  have N5 := Lib.hid (fun (M : Mm) (w : World) (h : Has σ M w) => nThread_eq h t)
  have N6 := Lib.hid (fun (M : Mm) (w : World) (h : Has σ M w) => nLevel_eq h t)
  have N7 := Lib.hid (fun (M : Mm) (w : World) (h : Has σ M w) (dv : Value) => nStep_eq h t dv)
  have N8 := Lib.hid (fun (M : Mm) (w : World) (h : Has σ M w) => nSteps_eq h)
  have N9 := Lib.hid (fun (M : Mm) (w : World) (h : Has σ M w) => nClock_eq h 0)
  have N10 := Lib.hid (fun (M : Mm) (w : World) (h : Has σ M w) => nFault_eq h)
  have N11 := Lib.hid (fun (M : Mm) (w : World) (h : Has σ M w) => nSpot_eq h t x kk i j)
  have N12 := Lib.hid (fun (M : Mm) (w : World) (h : Has σ M w) => nGiven_eq h)
  have N13 := Lib.hid (fun (M : Mm) (w : World) (h : Has σ M w) => nClone_eq h)
  have NW := Lib.hid (fun (M' : Mm) (w : World) (h : Has σ M' w) => mNew_err h c hm)
  have RM := Lib.hid (fun (M' : Mm) (w : World) (h : Has σ M' w) => refMay_has h c)
  have LI := Lib.hid (fun (M' : Mm) (w : World) (h : Has σ M' w) => lives_eq h)
  have hx : (ints .i64 14 c).extract 0 (0 + 14) = ints .i64 14 c := rfl
  have hz : (ints .i64 14 c).size = 14 := rfl
  have dx : (#[.int .i64 x, .int .i64 kk, .int .i64 i, .int .i64 j] : Array Value).extract 0 (0 + 4) = #[.int .i64 x, .int .i64 kk, .int .i64 i, .int .i64 j] := rfl
  unfold errV at NW
  rw [hm] at RM
  unfold confV at NW RM ⊢
  generalize ints .i64 14 c = row at NW RM hx hz ⊢
  clear hm
  go_enter Try.func5, Try.ntmps5
  go_upto_region 1 with (fail)
  obtain ⟨M1, hbx, hle, hbf, hb5, hn1, hn2⟩ := h.box2 (.cells row 24) (.cells #[.int .i64 x, .int .i64 kk, .int .i64 i, .int .i64 j] 69)
  generalize (w.alloc _).alloc _ = wx at hbx ⊢
  have hne_bf_b5 : w.heap.size ≠ w.heap.size + 1 := Nat.ne_of_lt (Nat.lt_succ_self _)
  generalize w.heap.size + 1 = b5 at hb5 hn2 hne_bf_b5 ⊢
  generalize w.heap.size = bf at hbf hn1 hne_bf_b5 ⊢
  clear h
  try clear w
  have h := hbx
  clear hbx
  obtain ⟨w, rfl⟩ : ∃ x : World, x = wx := ⟨_, rfl⟩
  go_upto_region 5 with (first
    | ((with_reducible show wpList _ _ _ ({ dst := _, op := Op.load 69 _, type := _, pos := _, after := _, guard := _ } :: _) _ _); refine wpList_agg_has h rfl 69 _ rfl rfl hb5 dx rfl Try.underlying69 rfl (by kernel_rfl) ?_; try simp only [Act.put, List.setIfInBounds_toArray, List.set_cons_zero, List.set_cons_succ])
    | (go_at_call 27; refine (N1.out _ _ h).mono ?_; clear h; rintro _ w ⟨rfl, h⟩)
    | (go_at_call 30; refine (N2.out _ _ h).mono ?_; clear h; rintro _ w ⟨rfl, h⟩)
    | (go_at_call 12; refine (N3.out _ _ h).mono ?_; clear h; rintro _ w ⟨rfl, h⟩)
    | (go_at_call 31; refine (N4.out _ _ h).mono ?_; clear h; rintro _ w ⟨rfl, h⟩)
    | (go_at_call 10; refine (N5.out _ _ h).mono ?_; clear h; rintro _ w ⟨rfl, h⟩)
    | (go_at_call 9; refine (N6.out _ _ h).mono ?_; clear h; rintro _ w ⟨rfl, h⟩)
    | (go_at_call 15; refine (N7.out _ _ h _).mono ?_; clear h; rintro _ w ⟨rfl, h⟩)
    | (go_at_call 28; refine (N8.out _ _ h).mono ?_; clear h; rintro _ w ⟨rfl, h⟩)
    | (go_at_call 14; refine (N9.out _ _ h).mono ?_; clear h; rintro _ w ⟨rfl, h⟩)
    | (go_at_call 19; refine (N10.out _ _ h).mono ?_; clear h; rintro _ w ⟨rfl, h⟩)
    | (go_at_call 33; refine (N11.out _ _ h).mono ?_; clear h; rintro _ w ⟨rfl, M9, h9, hle9⟩; have h := h9.le hle9; clear h9 hle9)
    | (go_at_call 29; refine (N12.out _ _ h).mono ?_; clear h; rintro _ w ⟨rfl, h⟩)
    | (go_at_call 34; refine (N13.out _ _ h).mono ?_; clear h; rintro _ w ⟨rfl, h⟩))
  clear N1 N2 N3 N4 N5 N6 N7 N8 N9 N10 N11 N12 N13
  go_upto_region 6 with (first
    | ((with_reducible show wpList _ _ _ ({ dst := _, op := Op.load 24 _, type := _, pos := _, after := _, guard := _ } :: _) _ _); refine wpList_agg_has h rfl 24 _ rfl rfl hbf hx hz Try.underlying24 rfl (by kernel_rfl) ?_; try simp only [Act.put, List.setIfInBounds_toArray, List.set_cons_zero, List.set_cons_succ])
    | ((go_at_call 6; refine (NW.out _ _ h).mono ?_; clear h; rintro _ w ⟨b, M2, rfl, h, hle2, hbe⟩)))
  replace hbf := hle2 _ _ hbf
  have FI := Lib.hid (fun (w : World) (h : Has σ M2 w) => failIs_eq h hbe)
  unfold errV at FI
  clear hbe hb5 hn1 hn2
  go_wp2_with (first
    | ((with_reducible show wpList _ _ _ ({ dst := _, op := Op.load 24 _, type := _, pos := _, after := _, guard := _ } :: _) _ _); refine wpList_agg_has h rfl 24 _ rfl rfl hbf hx hz Try.underlying24 rfl (by kernel_rfl) ?_; try simp only [Act.put, List.setIfInBounds_toArray, List.set_cons_zero, List.set_cons_succ])
    | (go_at_call 7; refine (RM.out _ _ h).mono ?_; clear h; rintro _ w ⟨rfl, h⟩)
    | (go_at_call 35; refine (FI.out _ h).mono ?_; clear h; rintro _ w ⟨rfl, h⟩)
    | (go_at_call 8; refine (LI.out _ _ h).mono ?_; clear h; rintro _ w ⟨rfl, h⟩))
  go_ret
  exact ⟨rfl, h.le (Mm.le_trans hle hle2)⟩
end
section
open Go.RowKit
set_option linter.unusedVariables false
set_option linter.unusedSimpArgs false
set_option linter.unnecessarySimpa false
section
variable {P : Program} {op : Oper} {a : Act} {ops : Array Oper} {σ w : World} {M M0 : Mm} {Q : Exit → Act → World → Prop} {K : Act → World → Prop} {E : Prop}
theorem yields_neq_flat (hw : Region.wanted op (yielded ops a.tmps) = true) (t u : TypeId) (x y : Operand) (ho : op.op = .binOp .neq t x y u) {xs ys : Array Value} (hx : a.eval x = .agg xs) (hy : a.eval y = .agg ys) (m : Nat) (hm : m ≤ 10000) {ks : List Kd} {n : Nat}
    (hk : kindsOf P m t = some ks) (hl : ks.length = n) (hn : P.cellsOf t = n) {d : TypeDesc} (hu : P.underlying t = some d) (hd : d.isRow = true) (hg : P.eqGuardType P.depth t = false) (fx : fits ks xs.toList) (fy : fits ks ys.toList) {b : Bool} (hs : sames xs.toList ys.toList = b) :
    YieldsIf P ops (Has σ M) op (.bool (!b)) a :=
  .inl ⟨hw, fun w _ => by
    unfold execOp
    simp only [ho, hx, hy, Sem.run_bind, run_eqGuard_agg w .neq t x y xs ys hg, Result.andThen_ok, run_neq_flat w m hm hk hl hn hu hd fx fy, Sem.run_pure, hs]⟩
end
theorem firstHeld_nodup (n : Nat) : ((firstHeld n).map (·.born)).Nodup := by
  unfold firstHeld
  rw [List.map_map]
  have : (List.range n).map ((fun x : Ent => x.born) ∘ fun (l : Nat) => (⟨l, 1, 1, l⟩ : Ent)) = List.range n := by
    refine Eq.trans (List.map_congr_left fun x _ => rfl) (List.map_id _)
  rw [this]
  exact List.nodup_range
theorem firstHeld_lt (n : Nat) : ∀ x ∈ firstHeld n, x.born < n := fun x hx => by
  unfold firstHeld at hx
  obtain ⟨l, hl, rfl⟩ := List.mem_map.1 hx
  exact List.mem_range.1 hl
theorem firstHeld_all (n l : Nat) (h : l < n) : allE (l : Int) (firstHeld n) = 1 := by
  induction n with
  | zero => omega
  | succ n ih =>
    unfold allE firstHeld at ih ⊢
    rw [List.range_succ, List.map_append, List.filter_append, List.length_append]
    by_cases e : l = n
    · subst e
      have h0 : ((List.range l).map fun (l : Nat) => (⟨l, 1, 1, l⟩ : Ent)).filter (fun x => x.l == (l : Int)) = [] := by
        rw [List.filter_eq_nil_iff]
        intro x hx
        obtain ⟨m, hm, rfl⟩ := List.mem_map.1 hx
        have := List.mem_range.1 hm
        simp
        omega
      rw [h0]
      simp
    · rw [ih (by omega)]
      have : ((n : Int) == (l : Int)) = false := beq_eq_false_iff_ne.2 (by omega)
      simp [this]
theorem kinds_conf : kindsOf Try.prog 10 24 = some (List.replicate 14 (some (some .i64))) := by kernel_rfl
set_option maxHeartbeats 16000000 in
set_option maxRecDepth 20000 in
theorem lays_yes {σ w : World} {M : Mm} (h : Has σ M w) (c : Nat → Int) (t x kk i j : Int) (hi : i < 9223372036854775808) (hc : ConfMay c) {L B S : Nat} (hn : Nums c L B S) (hm : confMayB c = true) :
    Calls Try.prog 5 #[confV c, .int .i64 t, .agg #[.int .i64 x, .int .i64 kk, .int .i64 i, .int .i64 j]] w fun r w' => r = .returned (.bool true) ∧ Has σ M w' := by
  have N1 := Lib.hid (fun (M : Mm) (w : World) (h : Has σ M w) => nDrop_eq h t 1)
  have N2 := Lib.hid (fun (M : Mm) (w : World) (h : Has σ M w) => nPlan_eq h)
  have N3 := Lib.hid (fun (M : Mm) (w : World) (h : Has σ M w) => nMem_eq h)
  have N4 := Lib.hid (fun (M : Mm) (w : World) (h : Has σ M w) => nWarden_eq h)
  have N5 := Lib.hid (fun (M : Mm) (w : World) (h : Has σ M w) => nThread_eq h t)
  have N6 := Lib.hid (fun (M : Mm) (w : World) (h : Has σ M w) => nLevel_eq h t)
  have N7 := Lib.hid (fun (M : Mm) (w : World) (h : Has σ M w) (dv : Value) => nStep_eq h t dv)
  have N8 := Lib.hid (fun (M : Mm) (w : World) (h : Has σ M w) => nSteps_eq h)
  have N9 := Lib.hid (fun (M : Mm) (w : World) (h : Has σ M w) => nClock_eq h 0)
  have N10 := Lib.hid (fun (M : Mm) (w : World) (h : Has σ M w) => nFault_eq h)
  have N11 := Lib.hid (fun (M : Mm) (w : World) (h : Has σ M w) => nSpot_eq h t x kk i j)
  have N12 := Lib.hid (fun (M : Mm) (w : World) (h : Has σ M w) => nGiven_eq h)
  have N13 := Lib.hid (fun (M : Mm) (w : World) (h : Has σ M w) => nClone_eq h)
  have NW := Lib.hid (fun (M' : Mm) (w : World) (h : Has σ M' w) => mNew_yes h c hc hn)
  have RM := Lib.hid (fun (M' : Mm) (w : World) (h : Has σ M' w) => refMay_has h c)
  have LI := Lib.hid (fun (M' : Mm) (w : World) (h : Has σ M' w) => lives_eq h)
  have AL := Lib.hid (fun (M' : Mm) (w : World) (h : Has σ M' w) => refAll_eq h c hc)
  have FW := Lib.hid (fun (M' : Mm) (w : World) (h : Has σ M' w) => refWords_eq h c hc hn)
  have RL := Lib.hid (fun (M' : Mm) (w : World) (h : Has σ M' w) => refLevel_has h c t)
  have hx : (ints .i64 14 c).extract 0 (0 + 14) = ints .i64 14 c := rfl
  have hz : (ints .i64 14 c).size = 14 := rfl
  have dx : (#[.int .i64 x, .int .i64 kk, .int .i64 i, .int .i64 j] : Array Value).extract 0 (0 + 4) = #[.int .i64 x, .int .i64 kk, .int .i64 i, .int .i64 j] := rfl
  have r0 : (ints .i64 14 c)[0]? = some (.int .i64 (L : Nat)) := by rw [← hn.lev]; rfl
  have FR := Lib.hid (fits_ints .i64 14 c)
  have SR := Lib.hid (sames_refl (fits_ints .i64 14 c))
  have HC := Lib.hid hc
  have HN := Lib.hid hn
  have CFC := Lib.hid (fun (M' : Mm) (w : World) (h : Has σ M' w) (pl : Nat) (hp : M' pl = some (planRow c)) => conf_has h c hp)
  have PLN : Hid ((allP c (c 0).toNat).length ≤ 100000) := Lib.hid (by
    have h1 := allP_len hc (c 0).toNat
    rw [hn.sz, hn.lev, Int.toNat_natCast] at h1
    rw [hn.lev, Int.toNat_natCast]
    have h0 := hn.l0
    have h2 := hn.s0
    have h3 := hn.b0
    have h4 : L * (18 + B + 6 * S) ≤ 4 * 418 := Nat.mul_le_mul h0.2 (by omega)
    have h5 : ((allP c L).length : Int) = ((L * (18 + B + 6 * S) : Nat) : Int) := by rw [h1]; exact_mod_cast rfl
    omega)
  have HNN : Hid (L * (18 + B + 6 * S) ≤ 100000) := Lib.hid (by
    have h0 := hn.l0
    have h2 := hn.s0
    have h3 := hn.b0
    have h4 : L * (18 + B + 6 * S) ≤ 4 * 418 := Nat.mul_le_mul h0.2 (by omega)
    omega)
  rw [hm] at RM
  unfold confV at NW RM AL FW RL ⊢
  generalize hrow : ints .i64 14 c = row at NW RM AL FW RL hx hz r0 FR SR CFC ⊢
  clear hm hc hn
  go_enter Try.func5, Try.ntmps5
  go_upto_region 1 with (fail)
  obtain ⟨M1, hbx, hle, hbf, hb5, hn1, hn2⟩ := h.box2 (.cells row 24) (.cells #[.int .i64 x, .int .i64 kk, .int .i64 i, .int .i64 j] 69)
  generalize (w.alloc _).alloc _ = wx at hbx ⊢
  have hne_bf_b5 : w.heap.size ≠ w.heap.size + 1 := Nat.ne_of_lt (Nat.lt_succ_self _)
  generalize w.heap.size + 1 = b5 at hb5 hn2 hne_bf_b5 ⊢
  generalize w.heap.size = bf at hbf hn1 hne_bf_b5 ⊢
  clear h
  try clear w
  have h := hbx
  clear hbx
  obtain ⟨w, rfl⟩ : ∃ x : World, x = wx := ⟨_, rfl⟩
  clear hrow hn1 hn2
  go_upto_region 5 with (first
    | ((with_reducible show wpList _ _ _ ({ dst := _, op := Op.load 69 _, type := _, pos := _, after := _, guard := _ } :: _) _ _); refine wpList_agg_has h rfl 69 _ rfl rfl hb5 dx rfl Try.underlying69 rfl (by kernel_rfl) ?_; try simp only [Act.put, List.setIfInBounds_toArray, List.set_cons_zero, List.set_cons_succ])
    | (go_at_call 27; refine (N1.out _ _ h).mono ?_; clear h; rintro _ w ⟨rfl, h⟩)
    | (go_at_call 30; refine (N2.out _ _ h).mono ?_; clear h; rintro _ w ⟨rfl, h⟩)
    | (go_at_call 12; refine (N3.out _ _ h).mono ?_; clear h; rintro _ w ⟨rfl, h⟩)
    | (go_at_call 31; refine (N4.out _ _ h).mono ?_; clear h; rintro _ w ⟨rfl, h⟩)
    | (go_at_call 10; refine (N5.out _ _ h).mono ?_; clear h; rintro _ w ⟨rfl, h⟩)
    | (go_at_call 9; refine (N6.out _ _ h).mono ?_; clear h; rintro _ w ⟨rfl, h⟩)
    | (go_at_call 15; refine (N7.out _ _ h _).mono ?_; clear h; rintro _ w ⟨rfl, h⟩)
    | (go_at_call 28; refine (N8.out _ _ h).mono ?_; clear h; rintro _ w ⟨rfl, h⟩)
    | (go_at_call 14; refine (N9.out _ _ h).mono ?_; clear h; rintro _ w ⟨rfl, h⟩)
    | (go_at_call 19; refine (N10.out _ _ h).mono ?_; clear h; rintro _ w ⟨rfl, h⟩)
    | (go_at_call 33; refine (N11.out _ _ h).mono ?_; clear h; rintro _ w ⟨rfl, M9, h9, hle9⟩; have h := h9.le hle9; clear h9 hle9)
    | (go_at_call 29; refine (N12.out _ _ h).mono ?_; clear h; rintro _ w ⟨rfl, h⟩)
    | (go_at_call 34; refine (N13.out _ _ h).mono ?_; clear h; rintro _ w ⟨rfl, h⟩))
  clear N1 N2 N3 N4 N5 N6 N7 N8 N9 N10 N11 N12 N13
  go_upto_region 6 with (first
    | ((with_reducible show wpList _ _ _ ({ dst := _, op := Op.load 24 _, type := _, pos := _, after := _, guard := _ } :: _) _ _); refine wpList_agg_has h rfl 24 _ rfl rfl hbf hx hz Try.underlying24 rfl (by kernel_rfl) ?_; try simp only [Act.put, List.setIfInBounds_toArray, List.set_cons_zero, List.set_cons_succ])
    | ((go_at_call 6; refine (NW.out _ _ h).mono ?_; clear h; rintro _ w ⟨p, M2, lab, s, rfl, h, hB, hM, hN⟩)))
  clear NW
  replace hbf := hB.le _ _ hbf
  replace hb5 := hB.le _ _ hb5
  have hleA := Mm.le_trans hle hB.le
  have hsc := hN.c
  have hmem := hN.mem
  obtain ⟨wb, hmem⟩ := hmem
  have ME := Lib.hid (fun (w : World) (h : Has σ M2 w) => mMem_eq h hM)
  have WO := Lib.hid (fun (w : World) (h : Has σ M2 w) => memWords_eq h hM.mem (by rw [hmem]; have := HNN.out; show L * (18 + B + 6 * S) ≤ 10000; have h0 := HN.out.l0; have h2 := HN.out.s0; have h3 := HN.out.b0; have h4 : L * (18 + B + 6 * S) ≤ 4 * 418 := Nat.mul_le_mul h0.2 (by omega); omega))
  have eN : s.mem.N = L * (18 + B + 6 * S) := by rw [hmem]; rfl
  have eR : s.mem.row = .cells (ints .u64 (L * (18 + B + 6 * S)) (wl B S L)) 33 := by rw [hmem]; rfl
  rw [eN, eR] at WO
  have AC := Lib.hid (fun (w : World) (h : Has σ M2 w) => memAcc_eq h hM.mem)
  rw [show s.mem.acc = 0 by rw [hmem]; rfl] at AC
  have PN := Lib.hid (fun (w : World) (h : Has σ M2 w) => mPlan_eq h hM)
  have CF := Lib.hid (fun (w : World) (h : Has σ M2 w) => CFC.out M2 w h s.pl (by rw [← hsc]; exact hM.plan))
  have ST := Lib.hid (fun (w : World) (h : Has σ M2 w) => mSteps_eq h hM)
  rw [hN.steps] at ST
  have FT := Lib.hid (fun (w : World) (h : Has σ M2 w) => mFault_eq h hM)
  rw [show s.bad = false by show (s.fault || (s.mem.flt || decide (0 < s.ward.slips))) = false; rw [hN.fault, hN.slips, hmem]; rfl] at FT
  have GV := Lib.hid (fun (w : World) (h : Has σ M2 w) => mGiven_eq h hM (by rw [hN.given]; exact Nat.zero_le _))
  rw [hN.given] at GV
  have WA := Lib.hid (fun (w : World) (h : Has σ M2 w) => mWarden_eq h hM)
  have HE := Lib.hid (fun (l : Nat) (hl : l < L) (w : World) (h : Has σ M2 w) => wardHeld_eq h hM.ward (l : Int) (by rw [hN.held.1]; exact firstHeld_nodup L) (by rw [hN.held.1, hN.held.2]; exact firstHeld_lt L) (by rw [hN.held.1]; unfold firstHeld; have := HN.out.l0; simp; omega))
  have HE2 : Hid (∀ l : Nat, l < L → ∀ w, Has σ M2 w → Calls Try.prog 39 #[.pointer (some ⟨s.wp, 0, none⟩), .int .i64 (l : Nat)] w fun r w' => r = .returned (.int .i64 1) ∧ Has σ M2 w') := Lib.hid fun l hl w h => by
    have := HE.out l hl w h
    rw [hN.held.1, firstHeld_all L l hl] at this
    exact this
  have CK : Hid (∀ l : Nat, ∀ w, Has σ M2 w → Calls Try.prog 14 #[.pointer (some ⟨p, 0, none⟩), .int .i64 (l : Nat)] w fun r w' => r = .returned (.int .i64 0) ∧ Has σ M2 w') := Lib.hid fun l w h => by
    have := mClock_eq h hM (l : Int)
    rw [show s.clock (l : Int) = 0 by unfold MachS.clock; rw [hN.clk]; split <;> rfl] at this
    exact this
  clear HE
  have HM := Lib.hid hM
  have HSC := Lib.hid hsc
  have HRW : Hid (∀ (b : Nat) (M' : Mm), M' b = some (.cells (ints .u64 (L * (18 + B + 6 * S)) (wl B S L)) 33) → Rd M' 1 (.slice (some ⟨b, 0, none⟩) (L * (18 + B + 6 * S)) (L * (18 + B + 6 * S))) (L * (18 + B + 6 * S)) (u64s ((List.range (L * (18 + B + 6 * S))).map (wl B S L)))) := Lib.hid fun b M' hb => by
    have := rd_words (fr := 0) (m := L * (18 + B + 6 * S)) (cap := L * (18 + B + 6 * S)) hb (by omega) (Nat.le_refl _)
    simpa using this
  clear hB hM hN hle hmem eN eR hsc
  generalize L * (18 + B + 6 * S) = N at WO FW HRW HNN
  generalize ints .u64 N (wl B S L) = wrow at WO HRW
  go_upto_region 8 with (first
    | ((with_reducible show wpList _ _ _ ({ dst := _, op := Op.load 24 _, type := _, pos := _, after := _, guard := _ } :: _) _ _); refine wpList_agg_has h rfl 24 _ rfl rfl hbf hx hz Try.underlying24 rfl (by kernel_rfl) ?_; try simp only [Act.put, List.setIfInBounds_toArray, List.set_cons_zero, List.set_cons_succ])
    | (go_at_call 7; refine (RM.out _ _ h).mono ?_; clear h; rintro _ w ⟨rfl, h⟩))
  clear RM
  refine wp_region_held_drew (S := Has σ (M2)) (by kernel_rfl) (h.drew) (fun hHeld => ?_)
  refine wpAnyH_take (i := 0) (v := ?_) rfl (by kernel_rfl) (by kernel_rfl) (by kernel_rfl) (fun _ _ _ h => h) (Or.inl ⟨by rfl, ?_⟩) hHeld ?_
  rotate_left
  · (intro wz _; go_simp; try with_reducible rfl)
  try simp only [List.getElem_toArray, List.getElem_cons_succ, List.getElem_cons_zero, Act.put, List.setIfInBounds_toArray, List.set_cons_zero, List.set_cons_succ]
  refine wpAnyH_take (i := 1) (v := ?_) rfl (by kernel_rfl) (by kernel_rfl) (by kernel_rfl) (fun _ _ _ h => h) (Or.inl ⟨by rfl, ?_⟩) hHeld ?_
  rotate_left
  · (intro wz _; go_simp; try with_reducible rfl)
  try simp only [List.getElem_toArray, List.getElem_cons_succ, List.getElem_cons_zero, Act.put, List.setIfInBounds_toArray, List.set_cons_zero, List.set_cons_succ]
  refine wpAnyH_take (i := 2) (v := ?_) rfl (by kernel_rfl) (by kernel_rfl) (by kernel_rfl) (fun _ _ _ h => h) (Or.inl ⟨by rfl, ?_⟩) hHeld ?_
  rotate_left
  · (intro wz _; go_simp; try with_reducible rfl)
  try simp only [List.getElem_toArray, List.getElem_cons_succ, List.getElem_cons_zero, Act.put, List.setIfInBounds_toArray, List.set_cons_zero, List.set_cons_succ]
  refine wpAnyH_take (i := 3) (v := ?_) rfl (by kernel_rfl) (by kernel_rfl) (by kernel_rfl) (fun _ _ _ h => h) (Or.inl ⟨by rfl, ?_⟩) hHeld ?_
  rotate_left
  · (intro wz _; go_simp; try with_reducible rfl)
  try simp only [List.getElem_toArray, List.getElem_cons_succ, List.getElem_cons_zero, Act.put, List.setIfInBounds_toArray, List.set_cons_zero, List.set_cons_succ]
  refine wpAnyH_take (i := 6) (v := _) rfl (by kernel_rfl) (by kernel_rfl) (by kernel_rfl) (fun _ _ _ h => h) (yields_agg rfl 24 _ rfl rfl hbf hx hz Try.underlying24 rfl (by kernel_rfl)) hHeld ?_
  try simp only [List.getElem_toArray, List.getElem_cons_succ, List.getElem_cons_zero, Act.put, List.setIfInBounds_toArray, List.set_cons_zero, List.set_cons_succ]
  replace h := h.drew
  generalize w.drew = w1 at h hHeld ⊢
  clear w
  obtain ⟨w, rfl⟩ : ∃ q : World, q = w1 := ⟨_, rfl⟩
  refine wpAnyH_ready (rs := [4]) (by kernel_rfl) (by simp) ?_
  refine AllReadyH.cons rfl (fun K hK => ?_) AllReadyH.nil
  (go_simp; go_wp2_with (go_at_call 12; refine (ME.out _ h).mono ?_; clear h; rintro _ w ⟨rfl, h⟩))
  refine hK.out _ _ (h) (fun hHeld => ?_)
  clear hK K
  try simp only [Act.put, List.setIfInBounds_toArray, List.set_cons_zero, List.set_cons_succ]
  refine wpAnyH_ready (rs := [5]) (by kernel_rfl) (by simp) ?_
  refine AllReadyH.cons rfl (fun K hK => ?_) AllReadyH.nil
  (go_simp; go_wp2_with (go_at_call 13; refine (WO.out _ h).mono ?_; clear h; rintro _ w ⟨bw, M6, rfl, h, hle6, hnw, hbw⟩))
  refine hK.out _ _ (h.le hle6) (fun hHeld => ?_)
  clear hK K
  try simp only [Act.put, List.setIfInBounds_toArray, List.set_cons_zero, List.set_cons_succ]
  clear hnw
  refine wpAnyH_ready (rs := [7]) (by kernel_rfl) (by simp) ?_
  refine AllReadyH.cons rfl (fun K hK => ?_) AllReadyH.nil
  (go_simp; go_wp2_with (go_at_call 36; refine (FW.out _ _ h).mono ?_; clear h; rintro _ w ⟨vf, rfl, M7, h, hle7, hown7⟩))
  refine hK.out _ _ (h.le (Mm.le_trans hle6 hle7)) (fun hHeld => ?_)
  clear hK K
  try simp only [Act.put, List.setIfInBounds_toArray, List.set_cons_zero, List.set_cons_succ]
  have hrw := HRW.out _ _ (hle7 _ _ hbw)
  have hrf := hown7.rd
  have hle67 := Mm.le_trans hle6 hle7
  have SM := Lib.hid (fun (w : World) (h : Has σ M7 w) => refSame_eq h hrw hrf HNN.out)
  clear hown7 hle6 hle7 hbw
  clear hrw hrf
  refine wpAnyH_ready (rs := [8]) (by kernel_rfl) (by simp) ?_
  refine AllReadyH.cons rfl (fun K hK => ?_) AllReadyH.nil
  (go_simp; go_wp2_with (go_at_call 21; refine (SM.out _ h).mono ?_; clear h; rintro _ w ⟨rfl, h⟩))
  refine hK.out _ _ (h.le hle67) (fun hHeld => ?_)
  clear hK K
  try simp only [Act.put, List.setIfInBounds_toArray, List.set_cons_zero, List.set_cons_succ]
  replace h := h.le hle67
  clear hle67 SM
  refine wpAnyH_take (i := 9) (v := ?_) rfl (by kernel_rfl) (by kernel_rfl) (by kernel_rfl) (fun _ _ _ h => h) (Or.inl ⟨by rfl, ?_⟩) hHeld ?_
  rotate_left
  · (intro wz _; go_simp; try with_reducible rfl)
  try simp only [List.getElem_toArray, List.getElem_cons_succ, List.getElem_cons_zero, Act.put, List.setIfInBounds_toArray, List.set_cons_zero, List.set_cons_succ]
  refine wpAnyH_take (i := 10) (v := ?_) rfl (by kernel_rfl) (by kernel_rfl) (by kernel_rfl) (fun _ _ _ h => h) (Or.inl ⟨by rfl, ?_⟩) hHeld ?_
  rotate_left
  · (intro wz _; go_simp; try with_reducible rfl)
  try simp only [List.getElem_toArray, List.getElem_cons_succ, List.getElem_cons_zero, Act.put, List.setIfInBounds_toArray, List.set_cons_zero, List.set_cons_succ]
  refine wpAnyH_take (i := 11) (v := ?_) rfl (by kernel_rfl) (by kernel_rfl) (by kernel_rfl) (fun _ _ _ h => h) (Or.inl ⟨by rfl, ?_⟩) hHeld ?_
  rotate_left
  · (intro wz _; go_simp; try with_reducible rfl)
  try simp only [List.getElem_toArray, List.getElem_cons_succ, List.getElem_cons_zero, Act.put, List.setIfInBounds_toArray, List.set_cons_zero, List.set_cons_succ]
  refine wpAnyH_take (i := 12) (v := ?_) rfl (by kernel_rfl) (by kernel_rfl) (by kernel_rfl) (fun _ _ _ h => h) (Or.inl ⟨by rfl, ?_⟩) hHeld ?_
  rotate_left
  · (intro wz _; go_simp; try with_reducible rfl)
  try simp only [List.getElem_toArray, List.getElem_cons_succ, List.getElem_cons_zero, Act.put, List.setIfInBounds_toArray, List.set_cons_zero, List.set_cons_succ]
  refine wpAnyH_ready (rs := [13]) (by kernel_rfl) (by simp) ?_
  refine AllReadyH.cons rfl (fun K hK => ?_) AllReadyH.nil
  (go_simp; go_wp2_with (go_at_call 12; refine (ME.out _ h).mono ?_; clear h; rintro _ w ⟨rfl, h⟩))
  refine hK.out _ _ (h) (fun hHeld => ?_)
  clear hK K
  try simp only [Act.put, List.setIfInBounds_toArray, List.set_cons_zero, List.set_cons_succ]
  refine wpAnyH_ready (rs := [14]) (by kernel_rfl) (by simp) ?_
  refine AllReadyH.cons rfl (fun K hK => ?_) AllReadyH.nil
  (go_simp; go_wp2_with (go_at_call 37; refine (AC.out _ h).mono ?_; clear h; rintro _ w ⟨rfl, h⟩))
  refine hK.out _ _ (h) (fun hHeld => ?_)
  clear hK K
  try simp only [Act.put, List.setIfInBounds_toArray, List.set_cons_zero, List.set_cons_succ]
  refine wpAnyH_take (i := 15) (v := ?_) rfl (by kernel_rfl) (by kernel_rfl) (by kernel_rfl) (fun _ _ _ h => h) (Or.inl ⟨by rfl, ?_⟩) hHeld ?_
  rotate_left
  · (intro wz _; go_simp; try with_reducible rfl)
  try simp only [List.getElem_toArray, List.getElem_cons_succ, List.getElem_cons_zero, Act.put, List.setIfInBounds_toArray, List.set_cons_zero, List.set_cons_succ]
  refine wpAnyH_take (i := 16) (v := ?_) rfl (by kernel_rfl) (by kernel_rfl) (by kernel_rfl) (fun _ _ _ h => h) (Or.inl ⟨by rfl, ?_⟩) hHeld ?_
  rotate_left
  · (intro wz _; go_simp; try with_reducible rfl)
  try simp only [List.getElem_toArray, List.getElem_cons_succ, List.getElem_cons_zero, Act.put, List.setIfInBounds_toArray, List.set_cons_zero, List.set_cons_succ]
  refine wpAnyH_take (i := 17) (v := ?_) rfl (by kernel_rfl) (by kernel_rfl) (by kernel_rfl) (fun _ _ _ h => h) (Or.inl ⟨by rfl, ?_⟩) hHeld ?_
  rotate_left
  · (intro wz _; go_simp; try with_reducible rfl)
  try simp only [List.getElem_toArray, List.getElem_cons_succ, List.getElem_cons_zero, Act.put, List.setIfInBounds_toArray, List.set_cons_zero, List.set_cons_succ]
  refine wpAnyH_take (i := 18) (v := ?_) rfl (by kernel_rfl) (by kernel_rfl) (by kernel_rfl) (fun _ _ _ h => h) (Or.inl ⟨by rfl, ?_⟩) hHeld ?_
  rotate_left
  · (intro wz _; go_simp; try with_reducible rfl)
  try simp only [List.getElem_toArray, List.getElem_cons_succ, List.getElem_cons_zero, Act.put, List.setIfInBounds_toArray, List.set_cons_zero, List.set_cons_succ]
  refine wpAnyH_take (i := 21) (v := _) rfl (by kernel_rfl) (by kernel_rfl) (by kernel_rfl) (fun _ _ _ h => h) (yields_agg rfl 24 _ rfl rfl hbf hx hz Try.underlying24 rfl (by kernel_rfl)) hHeld ?_
  try simp only [List.getElem_toArray, List.getElem_cons_succ, List.getElem_cons_zero, Act.put, List.setIfInBounds_toArray, List.set_cons_zero, List.set_cons_succ]
  refine wpAnyH_ready (rs := [19]) (by kernel_rfl) (by simp) ?_
  refine AllReadyH.cons rfl (fun K hK => ?_) AllReadyH.nil
  (go_simp; go_wp2_with (go_at_call 30; refine (PN.out _ h).mono ?_; clear h; rintro _ w ⟨rfl, h⟩))
  refine hK.out _ _ (h) (fun hHeld => ?_)
  clear hK K
  try simp only [Act.put, List.setIfInBounds_toArray, List.set_cons_zero, List.set_cons_succ]
  refine wpAnyH_ready (rs := [20]) (by kernel_rfl) (by simp) ?_
  refine AllReadyH.cons rfl (fun K hK => ?_) AllReadyH.nil
  (go_simp; go_wp2_with (go_at_call 38; refine (CF.out _ h).mono ?_; clear h; rintro _ w ⟨rfl, h⟩))
  refine hK.out _ _ (h) (fun hHeld => ?_)
  clear hK K
  try simp only [Act.put, List.setIfInBounds_toArray, List.set_cons_zero, List.set_cons_succ]
  refine wpAnyH_take (i := 22) (v := .bool (!true)) rfl (by kernel_rfl) (by kernel_rfl) (by kernel_rfl) (fun _ _ _ h => h) (yields_neq_flat rfl 24 _ _ _ rfl rfl rfl 10 (by omega) kinds_conf rfl (by kernel_rfl) Try.underlying24 rfl (by kernel_rfl) FR.out FR.out SR.out) hHeld ?_
  simp only [Bool.not_true, List.getElem_toArray, List.getElem_cons_succ, List.getElem_cons_zero, Act.put, List.setIfInBounds_toArray, List.set_cons_zero, List.set_cons_succ]
  refine wpAnyH_take (i := 23) (v := ?_) rfl (by kernel_rfl) (by kernel_rfl) (by kernel_rfl) (fun _ _ _ h => h) (Or.inl ⟨by rfl, ?_⟩) hHeld ?_
  rotate_left
  · (intro wz _; go_simp; try with_reducible rfl)
  try simp only [List.getElem_toArray, List.getElem_cons_succ, List.getElem_cons_zero, Act.put, List.setIfInBounds_toArray, List.set_cons_zero, List.set_cons_succ]
  refine wpAnyH_take (i := 24) (v := ?_) rfl (by kernel_rfl) (by kernel_rfl) (by kernel_rfl) (fun _ _ _ h => h) (Or.inl ⟨by rfl, ?_⟩) hHeld ?_
  rotate_left
  · (intro wz _; go_simp; try with_reducible rfl)
  try simp only [List.getElem_toArray, List.getElem_cons_succ, List.getElem_cons_zero, Act.put, List.setIfInBounds_toArray, List.set_cons_zero, List.set_cons_succ]
  refine wpAnyH_take (i := 25) (v := ?_) rfl (by kernel_rfl) (by kernel_rfl) (by kernel_rfl) (fun _ _ _ h => h) (Or.inl ⟨by rfl, ?_⟩) hHeld ?_
  rotate_left
  · (intro wz _; go_simp; try with_reducible rfl)
  try simp only [List.getElem_toArray, List.getElem_cons_succ, List.getElem_cons_zero, Act.put, List.setIfInBounds_toArray, List.set_cons_zero, List.set_cons_succ]
  refine wpAnyH_ready (rs := [26]) (by kernel_rfl) (by simp) ?_
  refine AllReadyH.cons rfl (fun K hK => ?_) AllReadyH.nil
  (go_simp; go_wp2_with (go_at_call 28; refine (ST.out _ h).mono ?_; clear h; rintro _ w ⟨rfl, h⟩))
  refine hK.out _ _ (h) (fun hHeld => ?_)
  clear hK K
  try simp only [Act.put, List.setIfInBounds_toArray, List.set_cons_zero, List.set_cons_succ]
  refine wpAnyH_take (i := 27) (v := ?_) rfl (by kernel_rfl) (by kernel_rfl) (by kernel_rfl) (fun _ _ _ h => h) (Or.inl ⟨by rfl, ?_⟩) hHeld ?_
  rotate_left
  · (intro wz _; go_simp; try with_reducible rfl)
  try simp only [List.getElem_toArray, List.getElem_cons_succ, List.getElem_cons_zero, Act.put, List.setIfInBounds_toArray, List.set_cons_zero, List.set_cons_succ]
  refine wpAnyH_take (i := 28) (v := ?_) rfl (by kernel_rfl) (by kernel_rfl) (by kernel_rfl) (fun _ _ _ h => h) (Or.inl ⟨by rfl, ?_⟩) hHeld ?_
  rotate_left
  · (intro wz _; go_simp; try with_reducible rfl)
  try simp only [List.getElem_toArray, List.getElem_cons_succ, List.getElem_cons_zero, Act.put, List.setIfInBounds_toArray, List.set_cons_zero, List.set_cons_succ]
  refine wpAnyH_take (i := 29) (v := ?_) rfl (by kernel_rfl) (by kernel_rfl) (by kernel_rfl) (fun _ _ _ h => h) (Or.inl ⟨by rfl, ?_⟩) hHeld ?_
  rotate_left
  · (intro wz _; go_simp; try with_reducible rfl)
  try simp only [List.getElem_toArray, List.getElem_cons_succ, List.getElem_cons_zero, Act.put, List.setIfInBounds_toArray, List.set_cons_zero, List.set_cons_succ]
  refine wpAnyH_take (i := 30) (v := ?_) rfl (by kernel_rfl) (by kernel_rfl) (by kernel_rfl) (fun _ _ _ h => h) (Or.inl ⟨by rfl, ?_⟩) hHeld ?_
  rotate_left
  · (intro wz _; go_simp; try with_reducible rfl)
  try simp only [List.getElem_toArray, List.getElem_cons_succ, List.getElem_cons_zero, Act.put, List.setIfInBounds_toArray, List.set_cons_zero, List.set_cons_succ]
  refine wpAnyH_ready (rs := [31]) (by kernel_rfl) (by simp) ?_
  refine AllReadyH.cons rfl (fun K hK => ?_) AllReadyH.nil
  (go_simp; go_wp2_with (go_at_call 19; refine (FT.out _ h).mono ?_; clear h; rintro _ w ⟨rfl, h⟩))
  refine hK.out _ _ (h) (fun hHeld => ?_)
  clear hK K
  try simp only [Act.put, List.setIfInBounds_toArray, List.set_cons_zero, List.set_cons_succ]
  refine wpAnyH_take (i := 32) (v := ?_) rfl (by kernel_rfl) (by kernel_rfl) (by kernel_rfl) (fun _ _ _ h => h) (Or.inl ⟨by rfl, ?_⟩) hHeld ?_
  rotate_left
  · (intro wz _; go_simp; try with_reducible rfl)
  try simp only [List.getElem_toArray, List.getElem_cons_succ, List.getElem_cons_zero, Act.put, List.setIfInBounds_toArray, List.set_cons_zero, List.set_cons_succ]
  refine wpAnyH_take (i := 33) (v := ?_) rfl (by kernel_rfl) (by kernel_rfl) (by kernel_rfl) (fun _ _ _ h => h) (Or.inl ⟨by rfl, ?_⟩) hHeld ?_
  rotate_left
  · (intro wz _; go_simp; try with_reducible rfl)
  try simp only [List.getElem_toArray, List.getElem_cons_succ, List.getElem_cons_zero, Act.put, List.setIfInBounds_toArray, List.set_cons_zero, List.set_cons_succ]
  refine wpAnyH_take (i := 34) (v := ?_) rfl (by kernel_rfl) (by kernel_rfl) (by kernel_rfl) (fun _ _ _ h => h) (Or.inl ⟨by rfl, ?_⟩) hHeld ?_
  rotate_left
  · (intro wz _; go_simp; try with_reducible rfl)
  try simp only [List.getElem_toArray, List.getElem_cons_succ, List.getElem_cons_zero, Act.put, List.setIfInBounds_toArray, List.set_cons_zero, List.set_cons_succ]
  refine wpAnyH_ready (rs := [35]) (by kernel_rfl) (by simp) ?_
  refine AllReadyH.cons rfl (fun K hK => ?_) AllReadyH.nil
  (go_simp; go_wp2_with (go_at_call 29; refine (GV.out _ h).mono ?_; clear h; rintro _ w ⟨u, rfl, M9, h, hle9, hown9⟩; obtain ⟨UA, uc, rfl⟩ := hown9.form))
  refine hK.out _ _ (h.le hle9) (fun hHeld => ?_)
  clear hK K
  try simp only [Act.put, List.setIfInBounds_toArray, List.set_cons_zero, List.set_cons_succ]
  replace h := h.le hle9
  clear hle9 hown9
  refine wpAnyH_take (i := 36) (v := ?_) rfl (by kernel_rfl) (by kernel_rfl) (by kernel_rfl) (fun _ _ _ h => h) (Or.inl ⟨by rfl, ?_⟩) hHeld ?_
  rotate_left
  · (intro wz _; go_simp; try with_reducible rfl)
  try simp only [List.getElem_toArray, List.getElem_cons_succ, List.getElem_cons_zero, Act.put, List.setIfInBounds_toArray, List.set_cons_zero, List.set_cons_succ]
  refine wpAnyH_take (i := 37) (v := ?_) rfl (by kernel_rfl) (by kernel_rfl) (by kernel_rfl) (fun _ _ _ h => h) (Or.inl ⟨by rfl, ?_⟩) hHeld ?_
  rotate_left
  · (intro wz _; go_simp; try with_reducible rfl)
  try simp only [List.getElem_toArray, List.getElem_cons_succ, List.getElem_cons_zero, Act.put, List.setIfInBounds_toArray, List.set_cons_zero, List.set_cons_succ]
  refine wpAnyH_take (i := 38) (v := ?_) rfl (by kernel_rfl) (by kernel_rfl) (by kernel_rfl) (fun _ _ _ h => h) (Or.inl ⟨by rfl, ?_⟩) hHeld ?_
  rotate_left
  · (intro wz _; go_simp; try with_reducible rfl)
  try simp only [List.getElem_toArray, List.getElem_cons_succ, List.getElem_cons_zero, Act.put, List.setIfInBounds_toArray, List.set_cons_zero, List.set_cons_succ]
  refine wpAnyH_done (by kernel_rfl) ?_ _
  clear hHeld
  clear ME WO AC PN CF ST FT GV HRW FW SR FR CFC
  go_upto_region 11 with (fail)
  go_loopw [10] (fun u wr => ∃ l : Nat, l ≤ L ∧ u = .int .i64 (l : Nat) ∧ Has σ M2 wr) (fun u _ => L - (intOf u).toNat)
  case atStart => exact ⟨0, Nat.zero_le _, rfl, h⟩
  case round =>
    clear h w
    obtain ⟨w, rfl⟩ : ∃ x : World, x = wr := ⟨_, rfl⟩
    obtain ⟨l, hl, rfl, h⟩ := hrel
    by_cases hlt : l < L
    · have hlt' : (l : Int) < (L : Int) := by omega
      have hL4 := HN.out.l0
      have HEl := Lib.hid (HE2.out l hlt)
      have CKl := Lib.hid (CK.out l)
      go_wp2_with (first
        | (with_reducible show wpList _ _ _ ({ dst := _, op := Op.load 3 _, type := _, pos := _, after := _, guard := _ } :: _) _ _; refine wpList_load1_has h rfl 3 _ rfl rfl hbf r0 Try.underlying3 rfl ?_)
        | (go_at_call 31; refine (WA.out _ h).mono ?_; clear h; rintro _ w ⟨rfl, h⟩)
        | (go_at_call 39; refine (HEl.out _ h).mono ?_; clear h; rintro _ w ⟨rfl, h⟩)
        | (go_at_call 14; refine (CKl.out _ h).mono ?_; clear h; rintro _ w ⟨rfl, h⟩))
      go_roundw
      case rel => exact ⟨l + 1, by omega, by go_num, h⟩
      case measure => simp [intOf]; omega
    · obtain rfl : l = L := by omega
      have hgt : ¬ ((l : Int) < (l : Int)) := by omega
      go_upto_region 16 with (first
        | (with_reducible show wpList _ _ _ ({ dst := _, op := Op.load 3 _, type := _, pos := _, after := _, guard := _ } :: _) _ _; refine wpList_load1_has h rfl 3 _ rfl rfl hbf r0 Try.underlying3 rfl ?_)
        | ((with_reducible show wpList _ _ _ ({ dst := _, op := Op.load 24 _, type := _, pos := _, after := _, guard := _ } :: _) _ _); refine wpList_agg_has h rfl 24 _ rfl rfl hbf hx hz Try.underlying24 rfl (by kernel_rfl) ?_; try simp only [Act.put, List.setIfInBounds_toArray, List.set_cons_zero, List.set_cons_succ])
        | (go_at_call 23; refine (RL.out _ _ h).mono ?_; clear h; rintro _ w ⟨rfl, h⟩))
      clear WA HE2 CK RL
      go_upto_region 17 with (first
        | ((with_reducible show wpList _ _ _ ({ dst := _, op := Op.load 69 _, type := _, pos := _, after := _, guard := _ } :: _) _ _); refine wpList_agg_has h rfl 69 _ rfl rfl hb5 dx rfl Try.underlying69 rfl (by kernel_rfl) ?_; try simp only [Act.put, List.setIfInBounds_toArray, List.set_cons_zero, List.set_cons_succ])
        | ((with_reducible show wpList _ _ _ ({ dst := _, op := Op.alloc 63, type := _, pos := _, after := _, guard := _ } :: _) _ _); refine wpList_alloc_has h rfl 63 rfl _ zP5 ?_; clear h; intro b12 w h hnb; try simp only [Act.put, List.setIfInBounds_toArray, List.set_cons_zero, List.set_cons_succ])
        | ((with_reducible show wpList _ _ _ ({ dst := _, op := Op.store 63 _ _, type := _, pos := _, after := _, guard := _ } :: _) _ _); refine wpList_storeAll_has (cells := #[.int .i64 x, .int .i64 kk, .int .i64 i, .int .i64 j]) h rfl 63 _ _ rfl rfl rfl (Mm.upd_same _ _ _) rfl rfl rfl (by kernel_rfl) rfl ?_; clear h; intro w h))
      rw [Mm.upd_upd] at h
      have hb12 := Mm.upd_same M2 b12 (.cells #[.int .i64 x, .int .i64 kk, .int .i64 i, .int .i64 j] 63)
      have hlt12 : 0 < (#[.int .i64 x, .int .i64 kk, .int .i64 i, .int .i64 j] : Array Value).size := show 0 < 4 by omega
      generalize hlvv : levelOf c t = lv
      go_upto_region 18 with (first
        | (with_reducible show wpList _ _ _ ({ dst := _, op := Op.store 3 _ _, type := _, pos := _, after := _, guard := _ } :: _) _ _; refine wpList_store1_has h rfl 3 _ _ rfl rfl rfl hb12 hlt12 rfl (by kernel_rfl) ?_; clear h; intro w h))
      have h0 : Has σ (M2.upd b12 (.cells #[.int .i64 lv, .int .i64 kk, .int .i64 i, .int .i64 j] 63)) w := by rw [Mm.upd_upd] at h; exact h
      have hle4 : M2.le (M2.upd b12 (.cells #[.int .i64 lv, .int .i64 kk, .int .i64 i, .int .i64 j] 63)) := Mm.le_upd' hnb _
      have hb12' := Mm.upd_same M2 b12 (.cells #[.int .i64 lv, .int .i64 kk, .int .i64 i, .int .i64 j] 63)
      clear h hb12
      have h := h0
      have hb12 := hb12'
      clear h0 hb12' hnb
      generalize M2.upd b12 _ = M4 at h hb12 hle4
      replace hbf := hle4 _ _ hbf
      replace hb5 := hle4 _ _ hb5
      replace hleA := Mm.le_trans hleA hle4
      have hM4 := HM.out.keep (Kp.le hle4 fun _ => 0) fun _ _ h => h
      have dp : (#[.int .i64 lv, .int .i64 kk, .int .i64 i, .int .i64 j] : Array Value).extract 0 (0 + 4) = #[.int .i64 lv, .int .i64 kk, .int .i64 i, .int .i64 j] := rfl
      have LV := Lib.hid (fun (w : World) (h : Has σ M4 w) => mLevel_eq h hM4 t)
      rw [HSC.out, hlvv] at LV
      obtain ⟨r, SP1, SP2⟩ := mSpot_any (σ := σ) hM4 (L := l) (B := B) (S := S) (by rw [HSC.out]; exact HN.out) t x kk i j hi
      rw [HSC.out, hlvv] at SP2
      have SPT := Lib.hid SP1
      have SPC := Lib.hid SP2
      clear SP1 SP2
      rcases levelOf_bd HC.out t with hlv | hlv
      · have TH := Lib.hid (fun (w : World) (h : Has σ M4 w) => mThread_no h hM4 t (by
          rcases Int.lt_or_le t 0 with h1 | h1
          · exact .inl h1
          · right
            rcases Int.lt_or_le t s.tp.length with h2 | h2
            · exfalso
              have h3 := hM4.tlen
              rw [HSC.out] at h3
              have h5 := HC.out.2.2.2.1 t.toNat (by have := HC.out.2.1.2; omega)
              unfold levelOf at hlv
              rw [if_pos ⟨decide_eq_true HC.out, h1, by omega⟩] at hlv
              omega
            · exact h2))
        have glv : decide (0 ≤ lv) = false := decide_eq_false (by omega)
        clear hM4 HM hlv hlvv
        as_aux_lemma =>
          refine wp_region_held_drew (S := Has σ (M4)) (by kernel_rfl) (h.drew) (fun hHeld => ?_)
          refine wpAnyH_take (i := 0) (v := ?_) rfl (by kernel_rfl) (by kernel_rfl) (by kernel_rfl) (fun _ _ _ h => h) (Or.inl ⟨by rfl, ?_⟩) hHeld ?_
          rotate_left
          · (intro wz _; go_simp; try with_reducible rfl)
          try simp only [List.getElem_toArray, List.getElem_cons_succ, List.getElem_cons_zero, Act.put, List.setIfInBounds_toArray, List.set_cons_zero, List.set_cons_succ]
          refine wpAnyH_take (i := 1) (v := ?_) rfl (by kernel_rfl) (by kernel_rfl) (by kernel_rfl) (fun _ _ _ h => h) (Or.inl ⟨by rfl, ?_⟩) hHeld ?_
          rotate_left
          · (intro wz _; go_simp; try with_reducible rfl)
          try simp only [List.getElem_toArray, List.getElem_cons_succ, List.getElem_cons_zero, Act.put, List.setIfInBounds_toArray, List.set_cons_zero, List.set_cons_succ]
          refine wpAnyH_take (i := 3) (v := ?_) rfl (by kernel_rfl) (by kernel_rfl) (by kernel_rfl) (fun _ _ _ h => h) (Or.inl ⟨by rfl, ?_⟩) hHeld ?_
          rotate_left
          · (intro wz _; go_simp; try with_reducible rfl)
          try simp only [List.getElem_toArray, List.getElem_cons_succ, List.getElem_cons_zero, Act.put, List.setIfInBounds_toArray, List.set_cons_zero, List.set_cons_succ]
          replace h := h.drew
          generalize w.drew = w1 at h hHeld ⊢
          clear w
          obtain ⟨w, rfl⟩ : ∃ q : World, q = w1 := ⟨_, rfl⟩
          refine wpAnyH_ready (rs := [2]) (by kernel_rfl) (by simp) ?_
          refine AllReadyH.cons rfl (fun K hK => ?_) AllReadyH.nil
          (go_simp; go_wp2_with (go_at_call 9; refine (LV.out _ h).mono ?_; clear h; rintro _ w ⟨rfl, h⟩))
          refine hK.out _ _ (h) (fun hHeld => ?_)
          clear hK K
          try simp only [Act.put, List.setIfInBounds_toArray, List.set_cons_zero, List.set_cons_succ]
          refine wpAnyH_take (i := 4) (v := ?_) rfl (by kernel_rfl) (by kernel_rfl) (by kernel_rfl) (fun _ _ _ h => h) (Or.inl ⟨by rfl, ?_⟩) hHeld ?_
          rotate_left
          · (intro wz _; go_simp; try with_reducible rfl)
          try simp only [List.getElem_toArray, List.getElem_cons_succ, List.getElem_cons_zero, Act.put, List.setIfInBounds_toArray, List.set_cons_zero, List.set_cons_succ]
          refine wpAnyH_take (i := 5) (v := ?_) rfl (by kernel_rfl) (by kernel_rfl) (by kernel_rfl) (fun _ _ _ h => h) (Or.inl ⟨by rfl, ?_⟩) hHeld ?_
          rotate_left
          · (intro wz _; go_simp; try with_reducible rfl)
          try simp only [List.getElem_toArray, List.getElem_cons_succ, List.getElem_cons_zero, Act.put, List.setIfInBounds_toArray, List.set_cons_zero, List.set_cons_succ]
          refine wpAnyH_take (i := 6) (v := ?_) rfl (by kernel_rfl) (by kernel_rfl) (by kernel_rfl) (fun _ _ _ h => h) (Or.inl ⟨by rfl, ?_⟩) hHeld ?_
          rotate_left
          · (intro wz _; go_simp; try with_reducible rfl)
          try simp only [List.getElem_toArray, List.getElem_cons_succ, List.getElem_cons_zero, Act.put, List.setIfInBounds_toArray, List.set_cons_zero, List.set_cons_succ]
          refine wpAnyH_take (i := 7) (v := ?_) rfl (by kernel_rfl) (by kernel_rfl) (by kernel_rfl) (fun _ _ _ h => h) (Or.inl ⟨by rfl, ?_⟩) hHeld ?_
          rotate_left
          · (intro wz _; go_simp; try with_reducible rfl)
          try simp only [List.getElem_toArray, List.getElem_cons_succ, List.getElem_cons_zero, Act.put, List.setIfInBounds_toArray, List.set_cons_zero, List.set_cons_succ]
          refine wpAnyH_take (i := 10) (v := ?_) rfl (by kernel_rfl) (by kernel_rfl) (by kernel_rfl) (fun _ _ _ h => h) (Or.inl ⟨by rfl, ?_⟩) hHeld ?_
          rotate_left
          · (intro wz _; go_simp; try with_reducible rfl)
          try simp only [List.getElem_toArray, List.getElem_cons_succ, List.getElem_cons_zero, Act.put, List.setIfInBounds_toArray, List.set_cons_zero, List.set_cons_succ]
          refine wpAnyH_take (i := 11) (v := ?_) rfl (by kernel_rfl) (by kernel_rfl) (by kernel_rfl) (fun _ _ _ h => h) (Or.inl ⟨by rfl, ?_⟩) hHeld ?_
          rotate_left
          · (intro wz _; go_simp; try with_reducible rfl)
          try simp only [List.getElem_toArray, List.getElem_cons_succ, List.getElem_cons_zero, Act.put, List.setIfInBounds_toArray, List.set_cons_zero, List.set_cons_succ]
          refine wpAnyH_ready (rs := [8]) (by kernel_rfl) (by simp) ?_
          refine AllReadyH.cons rfl (fun K hK => ?_) AllReadyH.nil
          (go_simp; go_wp2_with (go_at_call 10; refine (TH.out _ h).mono ?_; clear h; rintro _ w ⟨rfl, h⟩))
          refine hK.out _ _ (h) (fun hHeld => ?_)
          clear hK K
          try simp only [Act.put, List.setIfInBounds_toArray, List.set_cons_zero, List.set_cons_succ]
          refine wpAnyH_take (i := 9) (v := ?_) rfl (by kernel_rfl) (by kernel_rfl) (by kernel_rfl) (fun _ _ _ h => h) (Or.inl ⟨by rfl, ?_⟩) hHeld ?_
          rotate_left
          · (intro wz _; go_simp; try with_reducible rfl)
          try simp only [List.getElem_toArray, List.getElem_cons_succ, List.getElem_cons_zero, Act.put, List.setIfInBounds_toArray, List.set_cons_zero, List.set_cons_succ]
          refine wpAnyH_take (i := 12) (v := ?_) rfl (by kernel_rfl) (by kernel_rfl) (by kernel_rfl) (fun _ _ _ h => h) (Or.inl ⟨by rfl, ?_⟩) hHeld ?_
          rotate_left
          · (intro wz _; go_simp; try with_reducible rfl)
          try simp only [List.getElem_toArray, List.getElem_cons_succ, List.getElem_cons_zero, Act.put, List.setIfInBounds_toArray, List.set_cons_zero, List.set_cons_succ]
          refine wpAnyH_take (i := 13) (v := ?_) rfl (by kernel_rfl) (by kernel_rfl) (by kernel_rfl) (fun _ _ _ h => h) (Or.inl ⟨by rfl, ?_⟩) hHeld ?_
          rotate_left
          · (intro wz _; go_simp; try with_reducible rfl)
          try simp only [List.getElem_toArray, List.getElem_cons_succ, List.getElem_cons_zero, Act.put, List.setIfInBounds_toArray, List.set_cons_zero, List.set_cons_succ]
          refine wpAnyH_take (i := 14) (v := ?_) rfl (by kernel_rfl) (by kernel_rfl) (by kernel_rfl) (fun _ _ _ h => h) (Or.inl ⟨by rfl, ?_⟩) hHeld ?_
          rotate_left
          · (intro wz _; go_simp; try with_reducible rfl)
          try simp only [List.getElem_toArray, List.getElem_cons_succ, List.getElem_cons_zero, Act.put, List.setIfInBounds_toArray, List.set_cons_zero, List.set_cons_succ]
          refine wpAnyH_take (i := 15) (v := ?_) rfl (by kernel_rfl) (by kernel_rfl) (by kernel_rfl) (fun _ _ _ h => h) (Or.inl ⟨by rfl, ?_⟩) hHeld ?_
          rotate_left
          · (intro wz _; go_simp; try with_reducible rfl)
          try simp only [List.getElem_toArray, List.getElem_cons_succ, List.getElem_cons_zero, Act.put, List.setIfInBounds_toArray, List.set_cons_zero, List.set_cons_succ]
          refine wpAnyH_take (i := 16) (v := ?_) rfl (by kernel_rfl) (by kernel_rfl) (by kernel_rfl) (fun _ _ _ h => h) (Or.inl ⟨by rfl, ?_⟩) hHeld ?_
          rotate_left
          · (intro wz _; go_simp; try with_reducible rfl)
          try simp only [List.getElem_toArray, List.getElem_cons_succ, List.getElem_cons_zero, Act.put, List.setIfInBounds_toArray, List.set_cons_zero, List.set_cons_succ]
          refine wpAnyH_take (i := 17) (v := _) rfl (by kernel_rfl) (by kernel_rfl) (by kernel_rfl) (fun _ _ _ h => h) (yields_agg rfl 69 _ rfl rfl hb5 dx rfl Try.underlying69 rfl (by kernel_rfl)) hHeld ?_
          try simp only [List.getElem_toArray, List.getElem_cons_succ, List.getElem_cons_zero, Act.put, List.setIfInBounds_toArray, List.set_cons_zero, List.set_cons_succ]
          refine wpAnyH_take (i := 19) (v := _) rfl (by kernel_rfl) (by kernel_rfl) (by kernel_rfl) (fun _ _ _ h => h) (yields_agg rfl 24 _ rfl rfl hbf hx hz Try.underlying24 rfl (by kernel_rfl)) hHeld ?_
          try simp only [List.getElem_toArray, List.getElem_cons_succ, List.getElem_cons_zero, Act.put, List.setIfInBounds_toArray, List.set_cons_zero, List.set_cons_succ]
          refine wpAnyH_take (i := 21) (v := _) rfl (by kernel_rfl) (by kernel_rfl) (by kernel_rfl) (fun _ _ _ h => h) (yields_agg rfl 63 _ rfl rfl hb12 dp rfl Try.underlying63 rfl (by kernel_rfl)) hHeld ?_
          try simp only [List.getElem_toArray, List.getElem_cons_succ, List.getElem_cons_zero, Act.put, List.setIfInBounds_toArray, List.set_cons_zero, List.set_cons_succ]
          refine wpAnyH_ready (rs := [18]) (by kernel_rfl) (by simp) ?_
          refine AllReadyH.cons rfl (fun K hK => ?_) AllReadyH.nil
          (go_simp; go_wp2_with (go_at_call 33; refine (SPT.out _ h).mono ?_; clear h; rintro _ w ⟨rfl, h⟩))
          refine hK.out _ _ (h) (fun hHeld => ?_)
          clear hK K
          try simp only [Act.put, List.setIfInBounds_toArray, List.set_cons_zero, List.set_cons_succ]
          refine wpAnyH_ready (rs := [20]) (by kernel_rfl) (by simp) ?_
          refine AllReadyH.cons rfl (fun K hK => ?_) AllReadyH.nil
          (go_simp; go_wp2_with (go_at_call 22; refine (AL.out _ _ h).mono ?_; clear h; rintro _ w ⟨va, rfl, M8, h, hle8, hown8⟩))
          refine hK.out _ _ (h.le hle8) (fun hHeld => ?_)
          clear hK K
          try simp only [Act.put, List.setIfInBounds_toArray, List.set_cons_zero, List.set_cons_succ]
          have RA := Lib.hid (fun (w : World) (h : Has σ M8 w) => refAt_eq h hown8.rd rfl PLN.out (lv, kk, i, j) r SPC.out)
          unfold plRow at RA
          clear hown8
          refine wpAnyH_ready (rs := [22]) (by kernel_rfl) (by simp) ?_
          refine AllReadyH.cons rfl (fun K hK => ?_) AllReadyH.nil
          (go_simp; go_wp2_with (go_at_call 40; refine (RA.out _ h).mono ?_; clear h; rintro _ w ⟨rfl, h⟩))
          refine hK.out _ _ (h.le hle8) (fun hHeld => ?_)
          clear hK K
          try simp only [Act.put, List.setIfInBounds_toArray, List.set_cons_zero, List.set_cons_succ]
          replace h := h.le hle8
          clear hle8 RA
          refine wpAnyH_take (i := 23) (v := ?_) rfl (by kernel_rfl) (by kernel_rfl) (by kernel_rfl) (fun _ _ _ h => h) (Or.inl ⟨by rfl, ?_⟩) hHeld ?_
          rotate_left
          · (intro wz _; go_simp; try with_reducible rfl)
          try simp only [List.getElem_toArray, List.getElem_cons_succ, List.getElem_cons_zero, Act.put, List.setIfInBounds_toArray, List.set_cons_zero, List.set_cons_succ]
          refine wpAnyH_take (i := 24) (v := ?_) rfl (by kernel_rfl) (by kernel_rfl) (by kernel_rfl) (fun _ _ _ h => h) (Or.inl ⟨by rfl, ?_⟩) hHeld ?_
          rotate_left
          · (intro wz _; go_simp; try with_reducible rfl)
          try simp only [List.getElem_toArray, List.getElem_cons_succ, List.getElem_cons_zero, Act.put, List.setIfInBounds_toArray, List.set_cons_zero, List.set_cons_succ]
          refine wpAnyH_take (i := 25) (v := ?_) rfl (by kernel_rfl) (by kernel_rfl) (by kernel_rfl) (fun _ _ _ h => h) (Or.inl ⟨by rfl, ?_⟩) hHeld ?_
          rotate_left
          · (intro wz _; go_simp; try with_reducible rfl)
          try simp only [List.getElem_toArray, List.getElem_cons_succ, List.getElem_cons_zero, Act.put, List.setIfInBounds_toArray, List.set_cons_zero, List.set_cons_succ]
          refine wpAnyH_ready (rs := [26]) (by kernel_rfl) (by simp) ?_
          refine AllReadyH.cons rfl (fun K hK => ?_) AllReadyH.nil
          (go_simp; go_wp2_with (go_at_call 8; refine (LI.out _ _ h).mono ?_; clear h; rintro _ w ⟨rfl, h⟩))
          refine hK.out _ _ (h) (fun hHeld => ?_)
          clear hK K
          try simp only [Act.put, List.setIfInBounds_toArray, List.set_cons_zero, List.set_cons_succ]
          refine wpAnyH_take (i := 27) (v := ?_) rfl (by kernel_rfl) (by kernel_rfl) (by kernel_rfl) (fun _ _ _ h => h) (Or.inl ⟨by rfl, ?_⟩) hHeld ?_
          rotate_left
          · (intro wz _; go_simp; try with_reducible rfl)
          try simp only [List.getElem_toArray, List.getElem_cons_succ, List.getElem_cons_zero, Act.put, List.setIfInBounds_toArray, List.set_cons_zero, List.set_cons_succ]
          refine wpAnyH_take (i := 28) (v := ?_) rfl (by kernel_rfl) (by kernel_rfl) (by kernel_rfl) (fun _ _ _ h => h) (Or.inl ⟨by rfl, ?_⟩) hHeld ?_
          rotate_left
          · (intro wz _; go_simp; try with_reducible rfl)
          try simp only [List.getElem_toArray, List.getElem_cons_succ, List.getElem_cons_zero, Act.put, List.setIfInBounds_toArray, List.set_cons_zero, List.set_cons_succ]
          refine wpAnyH_done (by kernel_rfl) ?_ _
          go_wp2
          go_ret
          exact ⟨rfl, h.le hleA⟩
      · obtain ⟨tn, q, v, hat, hq, hv, hvc⟩ := tp_get hM4 (t := t) (by rw [HSC.out]; exact hlv.1)
        have TH0 := fun (w : World) (h : Has σ M4 w) => mThread_yes h hM4 hq
        rw [← hat] at TH0
        have TH := Lib.hid TH0
        have glv : decide (0 ≤ lv) = true := decide_eq_true (by omega)
        clear hM4 HM hat hq hv hvc hlv hlvv TH0
        as_aux_lemma =>
          refine wp_region_held_drew (S := Has σ (M4)) (by kernel_rfl) (h.drew) (fun hHeld => ?_)
          refine wpAnyH_take (i := 0) (v := ?_) rfl (by kernel_rfl) (by kernel_rfl) (by kernel_rfl) (fun _ _ _ h => h) (Or.inl ⟨by rfl, ?_⟩) hHeld ?_
          rotate_left
          · (intro wz _; go_simp; try with_reducible rfl)
          try simp only [List.getElem_toArray, List.getElem_cons_succ, List.getElem_cons_zero, Act.put, List.setIfInBounds_toArray, List.set_cons_zero, List.set_cons_succ]
          refine wpAnyH_take (i := 1) (v := ?_) rfl (by kernel_rfl) (by kernel_rfl) (by kernel_rfl) (fun _ _ _ h => h) (Or.inl ⟨by rfl, ?_⟩) hHeld ?_
          rotate_left
          · (intro wz _; go_simp; try with_reducible rfl)
          try simp only [List.getElem_toArray, List.getElem_cons_succ, List.getElem_cons_zero, Act.put, List.setIfInBounds_toArray, List.set_cons_zero, List.set_cons_succ]
          refine wpAnyH_take (i := 3) (v := ?_) rfl (by kernel_rfl) (by kernel_rfl) (by kernel_rfl) (fun _ _ _ h => h) (Or.inl ⟨by rfl, ?_⟩) hHeld ?_
          rotate_left
          · (intro wz _; go_simp; try with_reducible rfl)
          try simp only [List.getElem_toArray, List.getElem_cons_succ, List.getElem_cons_zero, Act.put, List.setIfInBounds_toArray, List.set_cons_zero, List.set_cons_succ]
          replace h := h.drew
          generalize w.drew = w1 at h hHeld ⊢
          clear w
          obtain ⟨w, rfl⟩ : ∃ q : World, q = w1 := ⟨_, rfl⟩
          refine wpAnyH_ready (rs := [2]) (by kernel_rfl) (by simp) ?_
          refine AllReadyH.cons rfl (fun K hK => ?_) AllReadyH.nil
          (go_simp; go_wp2_with (go_at_call 9; refine (LV.out _ h).mono ?_; clear h; rintro _ w ⟨rfl, h⟩))
          refine hK.out _ _ (h) (fun hHeld => ?_)
          clear hK K
          try simp only [Act.put, List.setIfInBounds_toArray, List.set_cons_zero, List.set_cons_succ]
          refine wpAnyH_take (i := 4) (v := ?_) rfl (by kernel_rfl) (by kernel_rfl) (by kernel_rfl) (fun _ _ _ h => h) (Or.inl ⟨by rfl, ?_⟩) hHeld ?_
          rotate_left
          · (intro wz _; go_simp; try with_reducible rfl)
          try simp only [List.getElem_toArray, List.getElem_cons_succ, List.getElem_cons_zero, Act.put, List.setIfInBounds_toArray, List.set_cons_zero, List.set_cons_succ]
          refine wpAnyH_take (i := 5) (v := ?_) rfl (by kernel_rfl) (by kernel_rfl) (by kernel_rfl) (fun _ _ _ h => h) (Or.inl ⟨by rfl, ?_⟩) hHeld ?_
          rotate_left
          · (intro wz _; go_simp; try with_reducible rfl)
          try simp only [List.getElem_toArray, List.getElem_cons_succ, List.getElem_cons_zero, Act.put, List.setIfInBounds_toArray, List.set_cons_zero, List.set_cons_succ]
          refine wpAnyH_take (i := 6) (v := ?_) rfl (by kernel_rfl) (by kernel_rfl) (by kernel_rfl) (fun _ _ _ h => h) (Or.inl ⟨by rfl, ?_⟩) hHeld ?_
          rotate_left
          · (intro wz _; go_simp; try with_reducible rfl)
          try simp only [List.getElem_toArray, List.getElem_cons_succ, List.getElem_cons_zero, Act.put, List.setIfInBounds_toArray, List.set_cons_zero, List.set_cons_succ]
          refine wpAnyH_take (i := 7) (v := ?_) rfl (by kernel_rfl) (by kernel_rfl) (by kernel_rfl) (fun _ _ _ h => h) (Or.inl ⟨by rfl, ?_⟩) hHeld ?_
          rotate_left
          · (intro wz _; go_simp; try with_reducible rfl)
          try simp only [List.getElem_toArray, List.getElem_cons_succ, List.getElem_cons_zero, Act.put, List.setIfInBounds_toArray, List.set_cons_zero, List.set_cons_succ]
          refine wpAnyH_take (i := 10) (v := ?_) rfl (by kernel_rfl) (by kernel_rfl) (by kernel_rfl) (fun _ _ _ h => h) (Or.inl ⟨by rfl, ?_⟩) hHeld ?_
          rotate_left
          · (intro wz _; go_simp; try with_reducible rfl)
          try simp only [List.getElem_toArray, List.getElem_cons_succ, List.getElem_cons_zero, Act.put, List.setIfInBounds_toArray, List.set_cons_zero, List.set_cons_succ]
          refine wpAnyH_take (i := 11) (v := ?_) rfl (by kernel_rfl) (by kernel_rfl) (by kernel_rfl) (fun _ _ _ h => h) (Or.inl ⟨by rfl, ?_⟩) hHeld ?_
          rotate_left
          · (intro wz _; go_simp; try with_reducible rfl)
          try simp only [List.getElem_toArray, List.getElem_cons_succ, List.getElem_cons_zero, Act.put, List.setIfInBounds_toArray, List.set_cons_zero, List.set_cons_succ]
          refine wpAnyH_ready (rs := [8]) (by kernel_rfl) (by simp) ?_
          refine AllReadyH.cons rfl (fun K hK => ?_) AllReadyH.nil
          (go_simp; go_wp2_with (go_at_call 10; refine (TH.out _ h).mono ?_; clear h; rintro _ w ⟨rfl, h⟩))
          refine hK.out _ _ (h) (fun hHeld => ?_)
          clear hK K
          try simp only [Act.put, List.setIfInBounds_toArray, List.set_cons_zero, List.set_cons_succ]
          refine wpAnyH_take (i := 9) (v := ?_) rfl (by kernel_rfl) (by kernel_rfl) (by kernel_rfl) (fun _ _ _ h => h) (Or.inl ⟨by rfl, ?_⟩) hHeld ?_
          rotate_left
          · (intro wz _; go_simp; try with_reducible rfl)
          try simp only [List.getElem_toArray, List.getElem_cons_succ, List.getElem_cons_zero, Act.put, List.setIfInBounds_toArray, List.set_cons_zero, List.set_cons_succ]
          refine wpAnyH_take (i := 12) (v := ?_) rfl (by kernel_rfl) (by kernel_rfl) (by kernel_rfl) (fun _ _ _ h => h) (Or.inl ⟨by rfl, ?_⟩) hHeld ?_
          rotate_left
          · (intro wz _; go_simp; try with_reducible rfl)
          try simp only [List.getElem_toArray, List.getElem_cons_succ, List.getElem_cons_zero, Act.put, List.setIfInBounds_toArray, List.set_cons_zero, List.set_cons_succ]
          refine wpAnyH_take (i := 13) (v := ?_) rfl (by kernel_rfl) (by kernel_rfl) (by kernel_rfl) (fun _ _ _ h => h) (Or.inl ⟨by rfl, ?_⟩) hHeld ?_
          rotate_left
          · (intro wz _; go_simp; try with_reducible rfl)
          try simp only [List.getElem_toArray, List.getElem_cons_succ, List.getElem_cons_zero, Act.put, List.setIfInBounds_toArray, List.set_cons_zero, List.set_cons_succ]
          refine wpAnyH_take (i := 14) (v := ?_) rfl (by kernel_rfl) (by kernel_rfl) (by kernel_rfl) (fun _ _ _ h => h) (Or.inl ⟨by rfl, ?_⟩) hHeld ?_
          rotate_left
          · (intro wz _; go_simp; try with_reducible rfl)
          try simp only [List.getElem_toArray, List.getElem_cons_succ, List.getElem_cons_zero, Act.put, List.setIfInBounds_toArray, List.set_cons_zero, List.set_cons_succ]
          refine wpAnyH_take (i := 15) (v := ?_) rfl (by kernel_rfl) (by kernel_rfl) (by kernel_rfl) (fun _ _ _ h => h) (Or.inl ⟨by rfl, ?_⟩) hHeld ?_
          rotate_left
          · (intro wz _; go_simp; try with_reducible rfl)
          try simp only [List.getElem_toArray, List.getElem_cons_succ, List.getElem_cons_zero, Act.put, List.setIfInBounds_toArray, List.set_cons_zero, List.set_cons_succ]
          refine wpAnyH_take (i := 16) (v := ?_) rfl (by kernel_rfl) (by kernel_rfl) (by kernel_rfl) (fun _ _ _ h => h) (Or.inl ⟨by rfl, ?_⟩) hHeld ?_
          rotate_left
          · (intro wz _; go_simp; try with_reducible rfl)
          try simp only [List.getElem_toArray, List.getElem_cons_succ, List.getElem_cons_zero, Act.put, List.setIfInBounds_toArray, List.set_cons_zero, List.set_cons_succ]
          refine wpAnyH_take (i := 17) (v := _) rfl (by kernel_rfl) (by kernel_rfl) (by kernel_rfl) (fun _ _ _ h => h) (yields_agg rfl 69 _ rfl rfl hb5 dx rfl Try.underlying69 rfl (by kernel_rfl)) hHeld ?_
          try simp only [List.getElem_toArray, List.getElem_cons_succ, List.getElem_cons_zero, Act.put, List.setIfInBounds_toArray, List.set_cons_zero, List.set_cons_succ]
          refine wpAnyH_take (i := 19) (v := _) rfl (by kernel_rfl) (by kernel_rfl) (by kernel_rfl) (fun _ _ _ h => h) (yields_agg rfl 24 _ rfl rfl hbf hx hz Try.underlying24 rfl (by kernel_rfl)) hHeld ?_
          try simp only [List.getElem_toArray, List.getElem_cons_succ, List.getElem_cons_zero, Act.put, List.setIfInBounds_toArray, List.set_cons_zero, List.set_cons_succ]
          refine wpAnyH_take (i := 21) (v := _) rfl (by kernel_rfl) (by kernel_rfl) (by kernel_rfl) (fun _ _ _ h => h) (yields_agg rfl 63 _ rfl rfl hb12 dp rfl Try.underlying63 rfl (by kernel_rfl)) hHeld ?_
          try simp only [List.getElem_toArray, List.getElem_cons_succ, List.getElem_cons_zero, Act.put, List.setIfInBounds_toArray, List.set_cons_zero, List.set_cons_succ]
          refine wpAnyH_ready (rs := [18]) (by kernel_rfl) (by simp) ?_
          refine AllReadyH.cons rfl (fun K hK => ?_) AllReadyH.nil
          (go_simp; go_wp2_with (go_at_call 33; refine (SPT.out _ h).mono ?_; clear h; rintro _ w ⟨rfl, h⟩))
          refine hK.out _ _ (h) (fun hHeld => ?_)
          clear hK K
          try simp only [Act.put, List.setIfInBounds_toArray, List.set_cons_zero, List.set_cons_succ]
          refine wpAnyH_ready (rs := [20]) (by kernel_rfl) (by simp) ?_
          refine AllReadyH.cons rfl (fun K hK => ?_) AllReadyH.nil
          (go_simp; go_wp2_with (go_at_call 22; refine (AL.out _ _ h).mono ?_; clear h; rintro _ w ⟨va, rfl, M8, h, hle8, hown8⟩))
          refine hK.out _ _ (h.le hle8) (fun hHeld => ?_)
          clear hK K
          try simp only [Act.put, List.setIfInBounds_toArray, List.set_cons_zero, List.set_cons_succ]
          have RA := Lib.hid (fun (w : World) (h : Has σ M8 w) => refAt_eq h hown8.rd rfl PLN.out (lv, kk, i, j) r SPC.out)
          unfold plRow at RA
          clear hown8
          refine wpAnyH_ready (rs := [22]) (by kernel_rfl) (by simp) ?_
          refine AllReadyH.cons rfl (fun K hK => ?_) AllReadyH.nil
          (go_simp; go_wp2_with (go_at_call 40; refine (RA.out _ h).mono ?_; clear h; rintro _ w ⟨rfl, h⟩))
          refine hK.out _ _ (h.le hle8) (fun hHeld => ?_)
          clear hK K
          try simp only [Act.put, List.setIfInBounds_toArray, List.set_cons_zero, List.set_cons_succ]
          replace h := h.le hle8
          clear hle8 RA
          refine wpAnyH_take (i := 23) (v := ?_) rfl (by kernel_rfl) (by kernel_rfl) (by kernel_rfl) (fun _ _ _ h => h) (Or.inl ⟨by rfl, ?_⟩) hHeld ?_
          rotate_left
          · (intro wz _; go_simp; try with_reducible rfl)
          try simp only [List.getElem_toArray, List.getElem_cons_succ, List.getElem_cons_zero, Act.put, List.setIfInBounds_toArray, List.set_cons_zero, List.set_cons_succ]
          refine wpAnyH_take (i := 24) (v := ?_) rfl (by kernel_rfl) (by kernel_rfl) (by kernel_rfl) (fun _ _ _ h => h) (Or.inl ⟨by rfl, ?_⟩) hHeld ?_
          rotate_left
          · (intro wz _; go_simp; try with_reducible rfl)
          try simp only [List.getElem_toArray, List.getElem_cons_succ, List.getElem_cons_zero, Act.put, List.setIfInBounds_toArray, List.set_cons_zero, List.set_cons_succ]
          refine wpAnyH_take (i := 25) (v := ?_) rfl (by kernel_rfl) (by kernel_rfl) (by kernel_rfl) (fun _ _ _ h => h) (Or.inl ⟨by rfl, ?_⟩) hHeld ?_
          rotate_left
          · (intro wz _; go_simp; try with_reducible rfl)
          try simp only [List.getElem_toArray, List.getElem_cons_succ, List.getElem_cons_zero, Act.put, List.setIfInBounds_toArray, List.set_cons_zero, List.set_cons_succ]
          refine wpAnyH_ready (rs := [26]) (by kernel_rfl) (by simp) ?_
          refine AllReadyH.cons rfl (fun K hK => ?_) AllReadyH.nil
          (go_simp; go_wp2_with (go_at_call 8; refine (LI.out _ _ h).mono ?_; clear h; rintro _ w ⟨rfl, h⟩))
          refine hK.out _ _ (h) (fun hHeld => ?_)
          clear hK K
          try simp only [Act.put, List.setIfInBounds_toArray, List.set_cons_zero, List.set_cons_succ]
          refine wpAnyH_take (i := 27) (v := ?_) rfl (by kernel_rfl) (by kernel_rfl) (by kernel_rfl) (fun _ _ _ h => h) (Or.inl ⟨by rfl, ?_⟩) hHeld ?_
          rotate_left
          · (intro wz _; go_simp; try with_reducible rfl)
          try simp only [List.getElem_toArray, List.getElem_cons_succ, List.getElem_cons_zero, Act.put, List.setIfInBounds_toArray, List.set_cons_zero, List.set_cons_succ]
          refine wpAnyH_take (i := 28) (v := ?_) rfl (by kernel_rfl) (by kernel_rfl) (by kernel_rfl) (fun _ _ _ h => h) (Or.inl ⟨by rfl, ?_⟩) hHeld ?_
          rotate_left
          · (intro wz _; go_simp; try with_reducible rfl)
          try simp only [List.getElem_toArray, List.getElem_cons_succ, List.getElem_cons_zero, Act.put, List.setIfInBounds_toArray, List.set_cons_zero, List.set_cons_succ]
          refine wpAnyH_done (by kernel_rfl) ?_ _
          go_wp2
          go_ret
          exact ⟨rfl, h.le hleA⟩
end
section
open Go.ChangeShapes Go.WideShapes Go.ChangeAt Go.RowKit Go.ChangeMaps
set_option linter.unusedVariables false
theorem cellsConf : Try.prog.cellsOf 24 = 14 := by kernel_rfl
theorem typesConf : Try.prog.cellTypes Try.prog.depth 24 = some (List.replicate 14 3) := by kernel_rfl
theorem cellsPlc : Try.prog.cellsOf 69 = 4 := by kernel_rfl
theorem typesPlc : Try.prog.cellTypes Try.prog.depth 69 = some (List.replicate 4 3) := by kernel_rfl

set_option maxRecDepth 100000 in
theorem machineLays_lifted (os : Os) (started : os.Started) (H : Type) (enc : TypeId × Value → H) :
    ReturnsInHanded {} Try.checked os 5 .any (Rows.machineLaysSpec.pre6 enc Try.prog Try.f5 Rows.machineLaysRow.domain false) (Rows.machineLaysSpec.post enc Try.prog Try.f5 false true false false) := by
  refine returnsInHanded_of_change (C := Try.checked) own started (by kernel_rfl) Try.func5
    (ChangeSpec.witness6 (enc := enc) (C := Try.checked) false ⟨#[], #[.agg #[.int .i64 0, .int .i64 0, .int .i64 0, .int .i64 0, .int .i64 0, .int .i64 0, .int .i64 0, .int .i64 0, .int .i64 0, .int .i64 0, .int .i64 0, .int .i64 0, .int .i64 0, .int .i64 0], .int .i64 0, .agg #[.int .i64 0, .int .i64 0, .int .i64 0, .int .i64 0]], []⟩ 8 (by kernel_rfl) (by kernel_rfl) (by kernel_rfl) (by kernel_rfl)) ?_
  intro W base args ds gs before hval0 hW _ _
  have hval : ∀ (j : Nat) t v, Try.f5.params[j]? = some t → args[j]? = some v → Value.okWide Try.prog W .any base t v := hval0
  have hW' := hW
  obtain ⟨p, q, hA0, hV, rfl, hfz, hnd⟩ := hW
  have hA : DataW.TrodAll enc Try.prog W 0 (fun _ => true) true Try.f5.params.toList args.toList ds p := hA0
  rw [Try.params5] at hA hval
  obtain ⟨v0, vs0, d0, ds0, p0, q0, hargs, rfl, rfl, h0, r0⟩ := trodAll_cons hA
  obtain ⟨v1, vs1, d1, ds1, p1, q1, rfl, rfl, rfl, h1, r1⟩ := trodAll_cons r0
  obtain ⟨v2, vs2, d2, ds2, p2, q2, rfl, rfl, rfl, h2, r2⟩ := trodAll_cons r1
  obtain ⟨rfl, rfl, rfl⟩ := trodAll_nil r2
  obtain rfl : args = #[v0, v1, v2] := by cases args; simp_all
  obtain ⟨rfl, rfl⟩ := trodVars_none hV
  obtain ⟨c, rfl, _⟩ := open_ints_agg Try.underlying24 cellsConf typesConf Try.underlying3 (hval 0 _ v0 rfl rfl)
  obtain ⟨t, rfl, rfl, rfl, _⟩ := open_int Try.underlying3 (hval 1 _ v1 rfl rfl) h1
  obtain ⟨pl, rfl, hpl⟩ := open_ints_agg Try.underlying69 cellsPlc typesPlc Try.underlying3 (hval 2 _ v2 rfl rfl)
  have hi : pl 2 < 9223372036854775808 := by
    have := (hpl 2 (by omega)).2
    have e : IntKind.i64.max = 9223372036854775807 := by decide
    omega
  have key : Calls Try.prog 5 #[confV c, .int .i64 t, .agg #[.int .i64 (pl 0), .int .i64 (pl 1), .int .i64 (pl 2), .int .i64 (pl 3)]] W fun r w' => r = .returned (.bool true) ∧ Has W (World.mm W) w' := by
    cases hm : confMayB c
    · exact lays_no (Has.new W) c t (pl 0) (pl 1) (pl 2) (pl 3) hm
    · have hc := confMay_of hm
      obtain ⟨L, B, S, hn⟩ := Nums.of hc
      exact lays_yes (Has.new W) c t (pl 0) (pl 1) (pl 2) (pl 3) hi hc hn hm
  refine key.mono fun r W' ⟨hr, hb⟩ => ⟨_, hr, ?_⟩
  exact law_post laidOut (by rw [Try.params5]; decide +kernel) rfl Try.underlying4 rfl rfl hW' (hb.toBelow fun _ _ h => h)

theorem machineLays_holds : Rows.MachineLaysSaid :=
  OpenClaim.holds_of_wide 5 Try.f5 rfl rfl rfl rfl rfl rfl rfl ⟨rfl, rfl, rfl, rfl, rfl⟩ rfl rfl rfl rfl rfl (by kernel_rfl) Try.func5 (by kernel_rfl)
    (of_decide_eq_true (by kernel_rfl)) (by unfold Func.isWrapper; first | (rw [if_pos (by decide +kernel)]; kernel_rfl) | (rw [if_neg (by decide +kernel)]; exact ⟨rfl, rfl⟩))
    (fun os started H enc _ => machineLays_lifted os started H enc)
#print axioms machineLays_holds
end
end Go.Proofs.Ytnknlleflpkijaa
