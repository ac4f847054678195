/- Walks of layer 4 (conf): a thread's level, and who may read and write where. -/
import Derived.Test.YtmfpablmmjaccaaGreatDoorConfMay
namespace Go.Proofs.YtmfpablmmjaccaaGreatDoor
open Go.RowKit

theorem confMay_of {c : Nat → Int} (h : confMayB c = true) : ConfMay c := of_decide_eq_true h
/-- A thread's level; -1: there is no such thread. -/
def levelOf (c : Nat → Int) (t : Int) : Int := if confMayB c = true ∧ 0 ≤ t ∧ t ≤ c 1 - 1 then c (2 + t.toNat) else -1
def readsB (c : Nat → Int) (t l : Int) : Bool := decide (0 ≤ l ∧ l ≤ levelOf c t)
def writesB (c : Nat → Int) (t l : Int) : Bool := readsB c t l && (l == c (2 + t.toNat))
theorem levelOf_may {c : Nat → Int} {t : Int} (h : 0 ≤ levelOf c t) : ConfMay c ∧ 0 ≤ t ∧ t ≤ c 1 - 1 := by
  unfold levelOf at h
  split at h
  · rename_i h1; exact ⟨confMay_of h1.1, h1.2⟩
  · omega

section
variable {c : Nat → Int} {w w1 : World}
theorem c_confMay (h : Inv14 c w w1) : Calls Tryz.prog 37 #[.agg (ints .i64 14 c)] w1 fun e w' => e = .returned (.bool (confMayB c)) ∧ Inv14 c w w' :=
  (confMay_any c w1).mono fun _ _ ⟨h1, h2⟩ => ⟨h1, h.on h2⟩
end

set_option maxHeartbeats 1000000 in
theorem level_any (c : Nat → Int) (t : Int) (w : World) : Calls Tryz.prog 63 #[confV c, .int .i64 t] w fun e w' => e = .returned (.int .i64 (levelOf c t)) ∧ Below w.heap.size w w' := by
  unfold confV
  have arm : ∀ (b : Bool), True := fun _ => trivial
  clear arm
  cases hm : confMayB c with
  | false =>
    have N : Hid (levelOf c t = -1) := if_neg (fun h => by rw [hm] at h; simp at h)
    have M := Lib.hid hm
    clear hm
    go_enter Tryz.func63, Tryz.ntmps63
    go_upto_region 1 with (fail)
    have hI := Inv14.new c w
    generalize w.alloc (.cells (ints .i64 14 c) 24) = w1 at hI ⊢
    have r := hI.r14
    go_wp2_with (first
      | (refine wpList_load_arr rfl 24 _ rfl w.heap.size 0 rfl (ints .i64 14 c) _ r Tryz.underlying24 rfl (by rw [ints_size]; kernel_rfl) ?_)
      | (go_at_call 37; refine (c_confMay hI).mono ?_; rintro e w2 ⟨rfl, hI2⟩; rw [M.out]))
    go_ret
    exact ⟨by rw [N.out]; rfl, hI2.2⟩
  | true =>
    obtain ⟨_, ⟨g1, g2⟩, _⟩ := confMay_of hm
    cases hin : decide (0 ≤ t ∧ t ≤ c 1 - 1) with
    | false =>
      have N : Hid (levelOf c t = -1) := if_neg (fun h => of_decide_eq_false hin h.2)
      have M := Lib.hid hm
      have IN := Lib.hid hin
      clear hm hin
      go_enter Tryz.func63, Tryz.ntmps63
      go_upto_region 1 with (fail)
      have hI := Inv14.new c w
      generalize w.alloc (.cells (ints .i64 14 c) 24) = w1 at hI ⊢
      have r := hI.r14
      go_wp2_with (first
        | (refine wpList_load_arr rfl 24 _ rfl w.heap.size 0 rfl (ints .i64 14 c) _ r Tryz.underlying24 rfl (by rw [ints_size]; kernel_rfl) ?_)
        | (go_at_call 37; refine (c_confMay hI).mono ?_; rintro e w2 ⟨rfl, hI2⟩; rw [M.out]; have c1 := hI2.cell (i := 1) (by omega))
        | (go_at_call 57; refine (confIn_any _ _ _ _).mono ?_; rintro e w' ⟨rfl, rfl⟩; rw [IN.out]))
      go_ret
      exact ⟨by rw [N.out]; rfl, hI2.2⟩
    | true =>
      have hin' := of_decide_eq_true hin
      have N : Hid (levelOf c t = c (2 + t.toNat)) := if_pos ⟨hm, hin'⟩
      obtain ⟨i1, i2⟩ := hin'
      have M := Lib.hid hm
      have IN := Lib.hid hin
      clear hm hin
      go_enter Tryz.func63, Tryz.ntmps63
      go_upto_region 1 with (fail)
      have hI := Inv14.new c w
      generalize w.alloc (.cells (ints .i64 14 c) 24) = w1 at hI ⊢
      have r := hI.r14
      go_wp2_with (first
        | (refine wpList_load_arr rfl 24 _ rfl w.heap.size 0 rfl (ints .i64 14 c) _ r Tryz.underlying24 rfl (by rw [ints_size]; kernel_rfl) ?_)
        | (go_at_call 37; refine (c_confMay hI).mono ?_; rintro e w2 ⟨rfl, hI2⟩; rw [M.out]; have c1 := hI2.cell (i := 1) (by omega); have ct := hI2.cell (i := 2 + t.toNat) (by omega))
        | (go_at_call 57; refine (confIn_any _ _ _ _).mono ?_; rintro e w' ⟨rfl, rfl⟩; rw [IN.out]))
      go_ret
      exact ⟨by rw [N.out]; rfl, hI2.2⟩

section
variable {c : Nat → Int} {w w1 : World}
theorem c_level (t : Int) (h : Inv14 c w w1) : Calls Tryz.prog 63 #[.agg (ints .i64 14 c), .int .i64 t] w1 fun e w' => e = .returned (.int .i64 (levelOf c t)) ∧ Inv14 c w w' :=
  (level_any c t w1).mono fun _ _ ⟨h1, h2⟩ => ⟨h1, h.on h2⟩
end

set_option maxHeartbeats 1000000 in
theorem reads_any (c : Nat → Int) (t l : Int) (w : World) : Calls Tryz.prog 49 #[confV c, .int .i64 t, .int .i64 l] w fun e w' => e = .returned (.bool (readsB c t l)) ∧ Below w.heap.size w w' := by
  unfold confV
  by_cases h0 : 0 ≤ l
  · have hr : Hid (readsB c t l = decide (l ≤ levelOf c t)) := by
      show _ = _
      unfold readsB
      rw [Bool.eq_iff_iff]; simp [h0]
    go_enter Tryz.func49, Tryz.ntmps49
    go_upto_region 1 with (fail)
    have hI := Inv14.new c w
    generalize w.alloc (.cells (ints .i64 14 c) 24) = w1 at hI ⊢
    have r := hI.r14
    go_wp2_with (first
      | (refine wpList_load_arg rfl 24 _ rfl w.heap.size 0 rfl (ints .i64 14 c) _ r Tryz.underlying24 rfl (by rw [ints_size]; kernel_rfl) ?_)
      | (go_at_call 63; refine (c_level _ hI).mono ?_; rintro e w2 ⟨rfl, hI2⟩))
    go_ret
    exact ⟨by rw [hr.out]; rfl, hI2.2⟩
  · have hr : Hid (readsB c t l = false) := decide_eq_false (fun h => h0 h.1)
    have hd : decide (0 ≤ l) = false := decide_eq_false h0
    clear h0
    go_enter Tryz.func49, Tryz.ntmps49
    go_wp2
    go_ret
    exact ⟨by rw [hr.out]; rfl, (Below.refl _ _).alloc (Nat.le_refl _) _⟩

end Go.Proofs.YtmfpablmmjaccaaGreatDoor
