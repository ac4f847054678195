import Derived.Test.YtjeeldacnllipaaGreatLoConfMay
namespace Go.Proofs.YtjeeldacnllipaaGreat
set_option linter.unusedVariables false
set_option linter.unusedSimpArgs false
set_option linter.unnecessarySimpa false
section
open Go.RowKit
theorem confMay_of {c : Nat → Int} (h : confMayB c = true) : ConfMay c := of_decide_eq_true h
/-- A thread's level; -1: there is no such thread. -/
def levelOf (c : Nat → Int) (t : Int) : Int := if confMayB c = true ∧ 0 ≤ t ∧ t ≤ c 1 - 1 then c (2 + t.toNat) else -1
theorem levelOf_may {c : Nat → Int} {t : Int} (h : 0 ≤ levelOf c t) : ConfMay c ∧ 0 ≤ t ∧ t ≤ c 1 - 1 := by
 unfold levelOf at h
 split at h
 ·rename_i h1; exact ⟨confMay_of h1.1, h1.2⟩
 ·omega
section
variable {c : Nat → Int} {w w1 : World}
theorem c_confMay (h : Inv14 c w w1) : Calls Tryz.prog 84 #[.agg (ints .i64 14 c)] w1 fun e w' => e = .returned (.bool (confMayB c)) ∧ Inv14 c w w' :=
 (confMay_any c w1).mono fun _ _ ⟨h1, h2⟩ => ⟨h1, h.on h2⟩
end
set_option maxHeartbeats 1000000 in
theorem level_any (c : Nat → Int) (t : Int) (w : World) : Calls Tryz.prog 56 #[confV c, .int .i64 t] w fun e w' => e = .returned (.int .i64 (levelOf c t)) ∧ Below w.heap.size w w' := by
 unfold confV
 have arm : ∀ (b : Bool), True := fun _ => trivial
 clear arm
 cases hm : confMayB c with
 | false =>
  have N : Hid (levelOf c t = -1) := if_neg (fun h => by rw [hm] at h; simp at h)
  have M := Lib.hid hm
  clear hm
  go_enter Tryz.func56, Tryz.ntmps56
  go_upto_region 1 with (fail)
  have hI := Inv14.new c w
  generalize w.alloc (.cells (ints .i64 14 c) 24) = w1 at hI ⊢
  have r := hI.r14
  go_wp2_with (first
   | (refine wpList_load_arr rfl 24 _ rfl w.heap.size 0 rfl (ints .i64 14 c) _ r Tryz.underlying24 rfl (by rw [ints_size]; kernel_rfl) ?_)
   | (go_at_call 84; refine (c_confMay hI).mono ?_; rintro e w2 ⟨rfl, hI2⟩; rw [M.out]))
  go_ret
  exact ⟨by rw [N.out]; rfl, hI2.2⟩
 | true =>
  obtain ⟨_, ⟨g1, g2⟩, _⟩ := confMay_of hm
  cases hin : decide (0 ≤ t ∧ t ≤ c 1 - 1) with
  | false =>
   have N : Hid (levelOf c t = -1) := if_neg (fun h => of_decide_eq_false hin h.2)
   have M := Lib.hid hm
   have IN := Lib.hid hin
   clear hm hin
   go_enter Tryz.func56, Tryz.ntmps56
   go_upto_region 1 with (fail)
   have hI := Inv14.new c w
   generalize w.alloc (.cells (ints .i64 14 c) 24) = w1 at hI ⊢
   have r := hI.r14
   go_wp2_with (first
    | (refine wpList_load_arr rfl 24 _ rfl w.heap.size 0 rfl (ints .i64 14 c) _ r Tryz.underlying24 rfl (by rw [ints_size]; kernel_rfl) ?_)
    | (go_at_call 84; refine (c_confMay hI).mono ?_; rintro e w2 ⟨rfl, hI2⟩; rw [M.out]; have c1 := hI2.cell (i := 1) (by omega))
    | (go_at_call 91; refine (confIn_any _ _ _ _).mono ?_; rintro e w' ⟨rfl, rfl⟩; rw [IN.out]))
   go_ret
   exact ⟨by rw [N.out]; rfl, hI2.2⟩
  | true =>
   have hin' := of_decide_eq_true hin
   have N : Hid (levelOf c t = c (2 + t.toNat)) := if_pos ⟨hm, hin'⟩
   obtain ⟨i1, i2⟩ := hin'
   have M := Lib.hid hm
   have IN := Lib.hid hin
   clear hm hin
   go_enter Tryz.func56, Tryz.ntmps56
   go_upto_region 1 with (fail)
   have hI := Inv14.new c w
   generalize w.alloc (.cells (ints .i64 14 c) 24) = w1 at hI ⊢
   have r := hI.r14
   go_wp2_with (first
    | (refine wpList_load_arr rfl 24 _ rfl w.heap.size 0 rfl (ints .i64 14 c) _ r Tryz.underlying24 rfl (by rw [ints_size]; kernel_rfl) ?_)
    | (go_at_call 84; refine (c_confMay hI).mono ?_; rintro e w2 ⟨rfl, hI2⟩; rw [M.out]; have c1 := hI2.cell (i := 1) (by omega); have ct := hI2.cell (i := 2 + t.toNat) (by omega))
    | (go_at_call 91; refine (confIn_any _ _ _ _).mono ?_; rintro e w' ⟨rfl, rfl⟩; rw [IN.out]))
   go_ret
   exact ⟨by rw [N.out]; rfl, hI2.2⟩
end
end Go.Proofs.YtjeeldacnllipaaGreat
