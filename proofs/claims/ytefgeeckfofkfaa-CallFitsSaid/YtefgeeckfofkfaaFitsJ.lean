/- The document's answer for layer 9 whole: whether a call may be answered so; and when two answers are the same. -/
import Derived.Test.YtefgeeckfofkfaaFitsC
import Derived.Test.YtefgeeckfofkfaaFitsD
import Derived.Test.YtefgeeckfofkfaaFitsD3
import Derived.Test.YtefgeeckfofkfaaFitsF
import Derived.Test.YtefgeeckfofkfaaFitsG
import Derived.Test.YtefgeeckfofkfaaFitsH
import Derived.Test.YtefgeeckfofkfaaFitsI
namespace Go.Proofs.Ytefgeeckfofkfaa
open Go.RowKit
set_option linter.unusedVariables false

theorem refFits_no (op level key ca cb ch reg e a b h n k : Int) (hm : mayB op level reg = false) (w : World) : Calls Try.prog 16 #[.agg (callCs op level key ca cb ch reg), .agg (ansCs e a b h n k)] w fun r w' =>
    r = .returned (.bool false) ∧ Below w.heap.size w w' := by
  have M := Lib.hid hm
  clear hm
  go_enter Try.func16, Try.ntmps16
  go_upto_region 1 with (fail)
  have hI := Inv2.new (callCs op level key ca cb ch reg) (ansCs e a b h n k) w
  generalize (w.alloc (.cells (callCs op level key ca cb ch reg) 26)).alloc (.cells (ansCs e a b h n k) 37) = w0 at hI ⊢
  have r0 := hI.ra
  go_wp2_with (first
    | (refine wpList_load_arg rfl 26 _ rfl w.heap.size 0 rfl _ _ r0 Try.underlying26 rfl (by kernel_rfl) ?_)
    | (go_at_call 9; refine (refMay_any op level key ca cb ch reg _).mono ?_; rintro r w1 ⟨rfl, hb⟩; rw [M.out]))
  go_ret
  exact ⟨rfl, (hI.on hb).below⟩

theorem refFits_any (op level key ca cb ch reg e a b h n k : Int) (hh : 0 ≤ h) (w : World) : Calls Try.prog 16 #[.agg (callCs op level key ca cb ch reg), .agg (ansCs e a b h n k)] w fun r w' =>
    r = .returned (.bool (fitsB op level reg e a b h n k)) ∧ Below w.heap.size w w' := by
  cases hm : mayB op level reg with
  | false => exact (refFits_no op level key ca cb ch reg e a b h n k hm w).mono fun _ _ ⟨h1, h2⟩ => ⟨by rw [h1, fitsB, hm]; rfl, h2⟩
  | true =>
    have hop := mayB_op hm
    by_cases he : e = 0
    · subst he
      rcases (by omega : op = 0 ∨ op = 1 ∨ op = 2 ∨ op = 3 ∨ op = 4 ∨ op = 5 ∨ op = 6 ∨ op = 7 ∨ op = 8 ∨ op = 9 ∨ op = 10 ∨ op = 11 ∨ op = 12) with rfl | rfl | rfl | rfl | rfl | rfl | rfl | rfl | rfl | rfl | rfl | rfl | rfl
      · exact (rfits_0 level key ca cb ch reg a b h n k hh hm w).mono fun _ _ ⟨h1, h2⟩ => ⟨by rw [h1, fitsB, hm, if_pos rfl, Bool.true_and], h2⟩
      · exact (rfits_1 level key ca cb ch reg a b h n k hh hm w).mono fun _ _ ⟨h1, h2⟩ => ⟨by rw [h1, fitsB, hm, if_pos rfl, Bool.true_and], h2⟩
      · exact (rfits_2 level key ca cb ch reg a b h n k hh hm w).mono fun _ _ ⟨h1, h2⟩ => ⟨by rw [h1, fitsB, hm, if_pos rfl, Bool.true_and], h2⟩
      · exact (rfits_3 level key ca cb ch reg a b h n k hh hm w).mono fun _ _ ⟨h1, h2⟩ => ⟨by rw [h1, fitsB, hm, if_pos rfl, Bool.true_and], h2⟩
      · exact (rfits_4 level key ca cb ch reg a b h n k hh hm w).mono fun _ _ ⟨h1, h2⟩ => ⟨by rw [h1, fitsB, hm, if_pos rfl, Bool.true_and], h2⟩
      · exact (rfits_5 level key ca cb ch reg a b h n k hh hm w).mono fun _ _ ⟨h1, h2⟩ => ⟨by rw [h1, fitsB, hm, if_pos rfl, Bool.true_and], h2⟩
      · exact (rfits_6 level key ca cb ch reg a b h n k hh hm w).mono fun _ _ ⟨h1, h2⟩ => ⟨by rw [h1, fitsB, hm, if_pos rfl, Bool.true_and], h2⟩
      · exact (rfits_7 level key ca cb ch reg a b h n k hh hm w).mono fun _ _ ⟨h1, h2⟩ => ⟨by rw [h1, fitsB, hm, if_pos rfl, Bool.true_and], h2⟩
      · exact (rfits_8 level key ca cb ch reg a b h n k hh hm w).mono fun _ _ ⟨h1, h2⟩ => ⟨by rw [h1, fitsB, hm, if_pos rfl, Bool.true_and], h2⟩
      · exact (rfits_9 level key ca cb ch reg a b h n k hh hm w).mono fun _ _ ⟨h1, h2⟩ => ⟨by rw [h1, fitsB, hm, if_pos rfl, Bool.true_and], h2⟩
      · exact (rfits_10 level key ca cb ch reg a b h n k hh hm w).mono fun _ _ ⟨h1, h2⟩ => ⟨by rw [h1, fitsB, hm, if_pos rfl, Bool.true_and], h2⟩
      · exact (rfits_11 level key ca cb ch reg a b h n k hh hm w).mono fun _ _ ⟨h1, h2⟩ => ⟨by rw [h1, fitsB, hm, if_pos rfl, Bool.true_and], h2⟩
      · exact (rfits_12 level key ca cb ch reg a b h n k hh hm w).mono fun _ _ ⟨h1, h2⟩ => ⟨by rw [h1, fitsB, hm, if_pos rfl, Bool.true_and], h2⟩
    · rcases (by omega : op = 0 ∨ op = 1 ∨ op = 2 ∨ op = 3 ∨ op = 4 ∨ op = 5 ∨ op = 6 ∨ op = 7 ∨ op = 8 ∨ op = 9 ∨ op = 10 ∨ op = 11 ∨ op = 12) with rfl | rfl | rfl | rfl | rfl | rfl | rfl | rfl | rfl | rfl | rfl | rfl | rfl
      · exact (rferr_0 level key ca cb ch reg e a b h n k he hm w).mono fun _ _ ⟨h1, h2⟩ => ⟨by rw [h1, fitsB, hm, if_neg he, Bool.true_and], h2⟩
      · exact (rferr_1 level key ca cb ch reg e a b h n k he hm w).mono fun _ _ ⟨h1, h2⟩ => ⟨by rw [h1, fitsB, hm, if_neg he, Bool.true_and], h2⟩
      · exact (rferr_2 level key ca cb ch reg e a b h n k he hm w).mono fun _ _ ⟨h1, h2⟩ => ⟨by rw [h1, fitsB, hm, if_neg he, Bool.true_and], h2⟩
      · exact (rferr_3 level key ca cb ch reg e a b h n k he hm w).mono fun _ _ ⟨h1, h2⟩ => ⟨by rw [h1, fitsB, hm, if_neg he, Bool.true_and], h2⟩
      · exact (rferr_4 level key ca cb ch reg e a b h n k he hm w).mono fun _ _ ⟨h1, h2⟩ => ⟨by rw [h1, fitsB, hm, if_neg he, Bool.true_and], h2⟩
      · exact (rferr_5 level key ca cb ch reg e a b h n k he hm w).mono fun _ _ ⟨h1, h2⟩ => ⟨by rw [h1, fitsB, hm, if_neg he, Bool.true_and], h2⟩
      · exact (rferr_6 level key ca cb ch reg e a b h n k he hm w).mono fun _ _ ⟨h1, h2⟩ => ⟨by rw [h1, fitsB, hm, if_neg he, Bool.true_and], h2⟩
      · exact (rferr_7 level key ca cb ch reg e a b h n k he hm w).mono fun _ _ ⟨h1, h2⟩ => ⟨by rw [h1, fitsB, hm, if_neg he, Bool.true_and], h2⟩
      · exact (rferr_8 level key ca cb ch reg e a b h n k he hm w).mono fun _ _ ⟨h1, h2⟩ => ⟨by rw [h1, fitsB, hm, if_neg he, Bool.true_and], h2⟩
      · exact (rferr_9 level key ca cb ch reg e a b h n k he hm w).mono fun _ _ ⟨h1, h2⟩ => ⟨by rw [h1, fitsB, hm, if_neg he, Bool.true_and], h2⟩
      · exact (rferr_10 level key ca cb ch reg e a b h n k he hm w).mono fun _ _ ⟨h1, h2⟩ => ⟨by rw [h1, fitsB, hm, if_neg he, Bool.true_and], h2⟩
      · exact (rferr_11 level key ca cb ch reg e a b h n k he hm w).mono fun _ _ ⟨h1, h2⟩ => ⟨by rw [h1, fitsB, hm, if_neg he, Bool.true_and], h2⟩
      · exact (rferr_12 level key ca cb ch reg e a b h n k he hm w).mono fun _ _ ⟨h1, h2⟩ => ⟨by rw [h1, fitsB, hm, if_neg he, Bool.true_and], h2⟩

end Go.Proofs.Ytefgeeckfofkfaa
