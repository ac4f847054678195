/- Law 21, MachineApart: the law's walk. -/
import Derived.Test.YtnknlleflpkijaaApD
import Derived.Test.YtnknlleflpkijaaRefMay
namespace Go.Proofs.Ytnknlleflpkijaa
open Go.RowKit
set_option linter.unusedVariables false
set_option linter.unusedSimpArgs false
set_option linter.unnecessarySimpa false
set_option maxHeartbeats 2000000 in
set_option maxRecDepth 20000 in
/-- No machine, or too many steps. -/
theorem apart_short {σ w : World} {M : Mm} (h : Has σ M w) (c : Nat → Int) {A : Option Addr} {n cap : Nat} (hs : confMayB c = false ∨ 40 < n) :
    Calls Try.prog 3 #[confV c, .slice A n cap] w fun r w' => r = .returned (.bool true) ∧ Has σ M w' := by
  have RM := Lib.hid (fun (M' : Mm) (w : World) (h : Has σ M' w) => refMay_has h c)
  have LI := Lib.hid (fun (M' : Mm) (w : World) (h : Has σ M' w) => lives_eq h)
  have hx : (ints .i64 14 c).extract 0 (0 + 14) = ints .i64 14 c := rfl
  have hz : (ints .i64 14 c).size = 14 := rfl
  cases hm : confMayB c
  · have NW := Lib.hid (fun (M' : Mm) (w : World) (h : Has σ M' w) => mNew_no h c hm)
    unfold errV at NW
    rw [hm] at RM
    unfold confV at NW RM ⊢
    generalize ints .i64 14 c = row at NW RM hx hz ⊢
    clear hs hm
    go_enter Try.func3, Try.ntmps3
    go_upto_region 1 with (fail)
    obtain ⟨M1, hbx, hle, hbf, hnf⟩ := h.box (.cells row 24)
    generalize w.alloc _ = wx at hbx ⊢
    generalize w.heap.size = bf at hbf hnf ⊢
    clear h
    try clear w
    have h := hbx
    clear hbx
    obtain ⟨w, rfl⟩ : ∃ x : World, x = wx := ⟨_, rfl⟩
    go_wp2_with (first
      | ((with_reducible show wpList _ _ _ ({ dst := _, op := Op.load 24 _, type := _, pos := _, after := _, guard := _ } :: _) _ _); refine wpList_agg_has h rfl 24 _ rfl rfl hbf hx hz Try.underlying24 rfl (by kernel_rfl) ?_; try simp only [Act.put, List.setIfInBounds_toArray, List.set_cons_zero, List.set_cons_succ])
      | ((go_at_call 6; refine (NW.out _ _ h).mono ?_; clear h; rintro _ w ⟨b, M2, rfl, h, hle2, hn⟩; have hbf := hle2 _ _ hbf))
      | (go_at_call 7; refine (RM.out _ _ h).mono ?_; clear h; rintro _ w ⟨rfl, h⟩)
      | (go_at_call 8; refine (LI.out _ _ h).mono ?_; clear h; rintro _ w ⟨rfl, h⟩))
    go_ret
    exact ⟨rfl, h.le (Mm.le_trans hle hle2)⟩
  · have hc := confMay_of hm
    obtain ⟨L, B, S, hn⟩ := Nums.of hc
    have h40 : decide ((40 : Int) < (n : Int)) = true := decide_eq_true (by rcases hs with hs | hs; rw [hm] at hs; cases hs; omega)
    have NW := Lib.hid (fun (M' : Mm) (w : World) (h : Has σ M' w) => mNew_yes h c hc hn)
    rw [hm] at RM
    unfold confV at NW RM ⊢
    generalize ints .i64 14 c = row at NW RM hx hz ⊢
    clear hs hm hc hn
    go_enter Try.func3, Try.ntmps3
    go_upto_region 1 with (fail)
    obtain ⟨M1, hbx, hle, hbf, hnf⟩ := h.box (.cells row 24)
    generalize w.alloc _ = wx at hbx ⊢
    generalize w.heap.size = bf at hbf hnf ⊢
    clear h
    try clear w
    have h := hbx
    clear hbx
    obtain ⟨w, rfl⟩ : ∃ x : World, x = wx := ⟨_, rfl⟩
    go_wp2_with (first
      | ((with_reducible show wpList _ _ _ ({ dst := _, op := Op.load 24 _, type := _, pos := _, after := _, guard := _ } :: _) _ _); refine wpList_agg_has h rfl 24 _ rfl rfl hbf hx hz Try.underlying24 rfl (by kernel_rfl) ?_; try simp only [Act.put, List.setIfInBounds_toArray, List.set_cons_zero, List.set_cons_succ])
      | ((go_at_call 6; refine (NW.out _ _ h).mono ?_; clear h; rintro _ w ⟨p, M2, lab, s, rfl, h, hB, hM, hN⟩; have hle2 := hB.le; have hbf := hle2 _ _ hbf; clear hB hM hN))
      | (go_at_call 7; refine (RM.out _ _ h).mono ?_; clear h; rintro _ w ⟨rfl, h⟩)
      | (go_at_call 8; refine (LI.out _ _ h).mono ?_; clear h; rintro _ w ⟨rfl, h⟩))
    go_ret
    exact ⟨rfl, h.le (Mm.le_trans hle hle2)⟩
end Go.Proofs.Ytnknlleflpkijaa
