import Derived.Test.YtjeeldacnllipaaGreatLpConfMay
namespace Go.Proofs.YtjeeldacnllipaaGreat
set_option maxHeartbeats 100000000
set_option maxRecDepth 20000
set_option linter.unusedVariables false
set_option linter.unusedSimpArgs false
set_option linter.unnecessarySimpa false
section
open Go.RowKit
theorem rY {c : Nat → Int} (h : yP c = true) : zF c := of_decide_eq_true h
def zT (c : Nat → Int) (t : Int) : Int := if yP c = true ∧ 0 ≤ t ∧ t ≤ c 1 - 1 then c (2 + t.toNat) else -1
theorem levelOf_may {c : Nat → Int} {t : Int} (h : 0 ≤ zT c t) : zF c ∧ 0 ≤ t ∧ t ≤ c 1 - 1 := by
 unfold zT at h
 split at h
 ·rename_i h1; exact ⟨rY h1.1, h1.2⟩
 omega
section
variable {c : Nat → Int} {w w1 : World}
theorem nY (h : Inv14 c w w1) : Calls Tryz.prog 84 #[.agg (ints .i64 14 c)] w1 fun e w' => e = .returned (.bool (yP c)) ∧ Inv14 c w w' :=
 (qZ c w1).mono fun _ _ ⟨h1, h2⟩ => ⟨h1, h.on h2⟩
end
theorem level_any (c : Nat → Int) (t : Int) (w : World) : Calls Tryz.prog 56 #[yM c, .int .i64 t] w fun e w' => e = .returned (.int .i64 (zT c t)) ∧ Below w.heap.size w w' := by
 unfold yM
 have arm : ∀ (b : Bool), True := fun _ => trivial
 clear arm
 cases hm : yP c with
 | false =>
  have N : Hid (zT c t = -1) := if_neg (fun h => by rw [hm] at h; simp at h)
  have M := Lib.hid hm
  clear hm
  go_enter Tryz.func56, Tryz.ntmps56
  go_upto_region 1 with (fail)
  have hI := Inv14.new c w
  generalize w.alloc (.cells (ints .i64 14 c) 24) = w1 at hI ⊢
  have r := hI.r14
  go_wp2_with (first
   | (refine wV rfl 24 _ rfl w.heap.size 0 rfl (ints .i64 14 c) _ r Tryz.underlying24 rfl (by rw [zJ]; kernel_rfl) ?_)
   | (go_at_call 84; refine (nY hI).mono ?_; rintro e w2 ⟨rfl, hI2⟩; rw [M.out]))
  go_ret
  exact ⟨by rw [N.out]; rfl, hI2.2⟩
 | true =>
  obtain ⟨_, ⟨g1, g2⟩, _⟩ := rY hm
  cases hin : decide (0 ≤ t ∧ t ≤ c 1 - 1) with
  | false =>
   have N : Hid (zT c t = -1) := if_neg (fun h => of_decide_eq_false hin h.2)
   have M := Lib.hid hm
   have IN := Lib.hid hin
   clear hm hin
   go_enter Tryz.func56, Tryz.ntmps56
   go_upto_region 1 with (fail)
   have hI := Inv14.new c w
   generalize w.alloc (.cells (ints .i64 14 c) 24) = w1 at hI ⊢
   have r := hI.r14
   go_wp2_with (first
    | (refine wV rfl 24 _ rfl w.heap.size 0 rfl (ints .i64 14 c) _ r Tryz.underlying24 rfl (by rw [zJ]; kernel_rfl) ?_)
    | (go_at_call 84; refine (nY hI).mono ?_; rintro e w2 ⟨rfl, hI2⟩; rw [M.out]; have c1 := hI2.cell (i := 1) (by omega))
    | (go_at_call 91; refine (vY _ _ _ _).mono ?_; rintro e w' ⟨rfl, rfl⟩; rw [IN.out]))
   go_ret
   exact ⟨by rw [N.out]; rfl, hI2.2⟩
  | true =>
   have hin' := of_decide_eq_true hin
   have N : Hid (zT c t = c (2 + t.toNat)) := if_pos ⟨hm, hin'⟩
   obtain ⟨i1, i2⟩ := hin'
   have M := Lib.hid hm
   have IN := Lib.hid hin
   clear hm hin
   go_enter Tryz.func56, Tryz.ntmps56
   go_upto_region 1 with (fail)
   have hI := Inv14.new c w
   generalize w.alloc (.cells (ints .i64 14 c) 24) = w1 at hI ⊢
   have r := hI.r14
   go_wp2_with (first
    | (refine wV rfl 24 _ rfl w.heap.size 0 rfl (ints .i64 14 c) _ r Tryz.underlying24 rfl (by rw [zJ]; kernel_rfl) ?_)
    | (go_at_call 84; refine (nY hI).mono ?_; rintro e w2 ⟨rfl, hI2⟩; rw [M.out]; have c1 := hI2.cell (i := 1) (by omega); have ct := hI2.cell (i := 2 + t.toNat) (by omega))
    | (go_at_call 91; refine (vY _ _ _ _).mono ?_; rintro e w' ⟨rfl, rfl⟩; rw [IN.out]))
   go_ret
   exact ⟨by rw [N.out]; rfl, hI2.2⟩
end
end Go.Proofs.YtjeeldacnllipaaGreat
