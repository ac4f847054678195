/- The document's answer for layer 4: a thread's level. -/
import Derived.Test.YtmfpablmmjaccaaGreatDoorRefMay
import Derived.Test.YtmfpablmmjaccaaGreatDoorConfLevel
namespace Go.Proofs.YtmfpablmmjaccaaGreatDoor
open Go.RowKit
set_option linter.unusedVariables false
set_option linter.unusedSimpArgs false
set_option linter.unnecessarySimpa false
set_option maxHeartbeats 2000000 in
theorem refLevel_has {σ w : World} {M : Mm} (h : Has σ M w) (c : Nat → Int) (t : Int) : Calls Tryz.prog 23 #[confV c, .int .i64 t] w fun e w' => e = .returned (.int .i64 (levelOf c t)) ∧ Has σ M w' := by
  have RM := Lib.hid (fun (M : Mm) (w : World) (h : Has σ M w) => refMay_has h c)
  have LO : Hid (levelOf c t = if confMayB c = true ∧ 0 ≤ t ∧ t < c 1 then c (2 + t.toNat) else -1) := by
    show _ = _
    unfold levelOf
    congr 1
    simp only [eq_iff_iff]
    constructor <;> (rintro ⟨h1, h2, h3⟩; exact ⟨h1, h2, by omega⟩)
  have LE : Hid (confMayB c = true → c 1 ≤ 8) := fun h => (confMay_of h).2.1.2
  simp only [confV, ints14_lit] at RM ⊢
  generalize levelOf c t = r at *
  go_enter Tryz.func23, Tryz.ntmps23
  go_upto_region 1 with (fail)
  obtain ⟨M2, hbx, hle2, hb2, hn2⟩ := h.box (.cells #[.int .i64 (c 0), .int .i64 (c 1), .int .i64 (c 2), .int .i64 (c 3), .int .i64 (c 4), .int .i64 (c 5), .int .i64 (c 6), .int .i64 (c 7), .int .i64 (c 8), .int .i64 (c 9), .int .i64 (c 10), .int .i64 (c 11), .int .i64 (c 12), .int .i64 (c 13)] 24)
  generalize w.alloc _ = wx at hbx ⊢
  generalize w.heap.size = b2 at hb2 hn2 ⊢
  clear h
  try clear w
  have h := hbx
  clear hbx
  obtain ⟨w, rfl⟩ : ∃ x : World, x = wx := ⟨_, rfl⟩
  have hx : (#[.int .i64 (c 0), .int .i64 (c 1), .int .i64 (c 2), .int .i64 (c 3), .int .i64 (c 4), .int .i64 (c 5), .int .i64 (c 6), .int .i64 (c 7), .int .i64 (c 8), .int .i64 (c 9), .int .i64 (c 10), .int .i64 (c 11), .int .i64 (c 12), .int .i64 (c 13)] : Array Value).extract 0 (0 + 14) = #[.int .i64 (c 0), .int .i64 (c 1), .int .i64 (c 2), .int .i64 (c 3), .int .i64 (c 4), .int .i64 (c 5), .int .i64 (c 6), .int .i64 (c 7), .int .i64 (c 8), .int .i64 (c 9), .int .i64 (c 10), .int .i64 (c 11), .int .i64 (c 12), .int .i64 (c 13)] := rfl
  have c1 : (#[.int .i64 (c 0), .int .i64 (c 1), .int .i64 (c 2), .int .i64 (c 3), .int .i64 (c 4), .int .i64 (c 5), .int .i64 (c 6), .int .i64 (c 7), .int .i64 (c 8), .int .i64 (c 9), .int .i64 (c 10), .int .i64 (c 11), .int .i64 (c 12), .int .i64 (c 13)] : Array Value)[1]? = some (.int .i64 (c 1)) := rfl
  have gt : ∀ k : Nat, k < 8 → (#[.int .i64 (c 0), .int .i64 (c 1), .int .i64 (c 2), .int .i64 (c 3), .int .i64 (c 4), .int .i64 (c 5), .int .i64 (c 6), .int .i64 (c 7), .int .i64 (c 8), .int .i64 (c 9), .int .i64 (c 10), .int .i64 (c 11), .int .i64 (c 12), .int .i64 (c 13)] : Array Value)[2 + k]? = some (.int .i64 (c (2 + k))) := fun k hk => by rw [← ints14_lit, ints_get (by omega)]
  have GT := Lib.hid gt
  clear gt
  cases hm : confMayB c
  · rw [hm] at RM
    have F : Hid (r = -1) := by rw [LO.out, if_neg (by simp [hm])]; exact rfl
    clear LO LE
    go_wp2_with (first
      | ((with_reducible show wpList _ _ _ ({ dst := _, op := Op.load 24 _, type := _, pos := _, after := _, guard := _ } :: _) _ _); refine wpList_agg_has h rfl 24 _ rfl rfl hb2 hx rfl Tryz.underlying24 rfl (by kernel_rfl) ?_; try simp only [Act.put, List.setIfInBounds_toArray, List.set_cons_zero, List.set_cons_succ])
      | (go_at_call 5; refine (RM.out _ _ h).mono ?_; clear h; rintro e w ⟨rfl, h⟩))
    go_ret
    exact ⟨by rw [F.out]; rfl, h.le hle2⟩
  · rw [hm] at RM
    have h8 := LE.out hm
    by_cases h0 : t < 0
    · have F : Hid (r = -1) := by rw [LO.out, if_neg (by omega)]; exact rfl
      clear LO LE
      go_wp2_with (first
        | ((with_reducible show wpList _ _ _ ({ dst := _, op := Op.load 24 _, type := _, pos := _, after := _, guard := _ } :: _) _ _); refine wpList_agg_has h rfl 24 _ rfl rfl hb2 hx rfl Tryz.underlying24 rfl (by kernel_rfl) ?_; try simp only [Act.put, List.setIfInBounds_toArray, List.set_cons_zero, List.set_cons_succ])
        | (go_at_call 5; refine (RM.out _ _ h).mono ?_; clear h; rintro e w ⟨rfl, h⟩))
      go_ret
      exact ⟨by rw [F.out]; rfl, h.le hle2⟩
    · by_cases h1 : t < c 1
      · obtain ⟨q, rfl⟩ : ∃ q : Nat, t = q := ⟨t.toNat, by omega⟩
        have F : Hid (r = c (2 + q)) := by rw [LO.out, if_pos ⟨hm, by omega, h1⟩]; exact rfl
        have g := GT.out q (by omega)
        have h1' : ¬ c 1 ≤ (q : Int) := by omega
        have hq8 : q < 8 := by omega
        clear LO LE GT
        generalize c (2 + q) = x at g F
        go_wp2_with (first
          | ((with_reducible show wpList _ _ _ ({ dst := _, op := Op.load 24 _, type := _, pos := _, after := _, guard := _ } :: _) _ _); refine wpList_agg_has h rfl 24 _ rfl rfl hb2 hx rfl Tryz.underlying24 rfl (by kernel_rfl) ?_; try simp only [Act.put, List.setIfInBounds_toArray, List.set_cons_zero, List.set_cons_succ])
          | (with_reducible show wpList _ _ _ ({ dst := _, op := Op.load 3 _, type := _, pos := _, after := _, guard := _ } :: _) _ _; refine wpList_load1_has h rfl 3 _ rfl rfl hb2 c1 Tryz.underlying3 rfl ?_)
          | (with_reducible show wpList _ _ _ ({ dst := _, op := Op.load 3 _, type := _, pos := _, after := _, guard := _ } :: _) _ _; refine wpList_load1_has h rfl 3 _ rfl rfl hb2 g Tryz.underlying3 rfl ?_)
          | (go_at_call 5; refine (RM.out _ _ h).mono ?_; clear h; rintro e w ⟨rfl, h⟩))
        go_ret
        exact ⟨by rw [F.out]; rfl, h.le hle2⟩
      · have F : Hid (r = -1) := by rw [LO.out, if_neg (by omega)]; exact rfl
        obtain ⟨q, rfl⟩ : ∃ q : Nat, t = q := ⟨t.toNat, by omega⟩
        have h1' : c 1 ≤ (q : Int) := by omega
        clear h0 h1
        clear LO LE
        go_wp2_with (first
          | ((with_reducible show wpList _ _ _ ({ dst := _, op := Op.load 24 _, type := _, pos := _, after := _, guard := _ } :: _) _ _); refine wpList_agg_has h rfl 24 _ rfl rfl hb2 hx rfl Tryz.underlying24 rfl (by kernel_rfl) ?_; try simp only [Act.put, List.setIfInBounds_toArray, List.set_cons_zero, List.set_cons_succ])
          | (with_reducible show wpList _ _ _ ({ dst := _, op := Op.load 3 _, type := _, pos := _, after := _, guard := _ } :: _) _ _; refine wpList_load1_has h rfl 3 _ rfl rfl hb2 c1 Tryz.underlying3 rfl ?_)
          | (go_at_call 5; refine (RM.out _ _ h).mono ?_; clear h; rintro e w ⟨rfl, h⟩))
        go_ret
        exact ⟨by rw [F.out]; rfl, h.le hle2⟩

end Go.Proofs.YtmfpablmmjaccaaGreatDoor
