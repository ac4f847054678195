/- CallFits returns true for any call and any two answers whose cells lie in their types. -/
import Derived.Test.YtefgeeckfofkfaaFitsJ
namespace Go.Proofs.Ytefgeeckfofkfaa
open Go.RowKit
set_option linter.unusedVariables false

theorem same_any (e a b h n k e' a' b' h' n' k' : Int) (w : World) : Calls Try.prog 17 #[.agg (ansCs e a b h n k), .agg (ansCs e' a' b' h' n' k')] w fun r w' =>
    r = .returned (.bool (sames (ansCs e a b h n k).toList (ansCs e' a' b' h' n' k').toList)) ∧ Below w.heap.size w w' := by
  go_enter Try.func17, Try.ntmps17
  go_upto_region 1 with (fail)
  have hA : Blk ((w.alloc (.cells (ansCs e a b h n k) 37)).alloc (.cells (ansCs e' a' b' h' n' k') 37)) w.heap.size (ansCs e a b h n k) 37 := Blk.new.alloc _
  have hB : Blk ((w.alloc (.cells (ansCs e a b h n k) 37)).alloc (.cells (ansCs e' a' b' h' n' k') 37)) (w.heap.size + 1) (ansCs e' a' b' h' n' k') 37 := by
    have := Blk.new (w := w.alloc (.cells (ansCs e a b h n k) 37)) (cs := ansCs e' a' b' h' n' k') (t := 37)
    rwa [World.size_alloc] at this
  have hw : Below w.heap.size w ((w.alloc (.cells (ansCs e a b h n k) 37)).alloc (.cells (ansCs e' a' b' h' n' k') 37)) := ((Below.refl _ _).alloc (Nat.le_refl _) _).alloc (by simp) _
  generalize (w.alloc (.cells (ansCs e a b h n k) 37)).alloc (.cells (ansCs e' a' b' h' n' k') 37) = w1 at hA hB hw ⊢
  have ra : w1.rangeAt w.heap.size 0 (ansCs e a b h n k).toList := Blk.range (pre := []) (post := []) (by simpa using hA) rfl
  have rb : w1.rangeAt (w.heap.size + 1) 0 (ansCs e' a' b' h' n' k').toList := Blk.range (pre := []) (post := []) (by simpa using hB) rfl
  clear hA hB
  go_wp2_with (first
    | (refine wpList_load_arg rfl 37 _ rfl w.heap.size 0 rfl (ansCs e a b h n k) _ ra Try.underlying37 rfl (by kernel_rfl) ?_)
    | (refine wpList_load_arg rfl 37 _ rfl (w.heap.size + 1) 0 rfl (ansCs e' a' b' h' n' k') _ rb Try.underlying37 rfl (by kernel_rfl) ?_)
    | (refine wpList_eql_flat rfl 37 _ _ _ rfl (xs := ansCs e a b h n k) (ys := ansCs e' a' b' h' n' k') rfl rfl 10 (by omega) (ks := ansKs) (by kernel_rfl) rfl (by kernel_rfl) Try.underlying37 rfl (by kernel_rfl) (fits_ans _ _ _ _ _ _) (fits_ans _ _ _ _ _ _) ?_))
  go_ret
  exact ⟨rfl, hw⟩

/-- Three structs stand boxed. -/
structure Inv3 (cs ds fs : Array Value) (w w' : World) : Prop where
  a : Blk w' w.heap.size cs 26
  b : Blk w' (w.heap.size + 1) ds 37
  c : Blk w' (w.heap.size + 2) fs 37
  below : Below w.heap.size w w'
section
variable {cs ds fs : Array Value} {w w1 w2 : World}
theorem Inv3.new (cs ds fs : Array Value) (w : World) : Inv3 cs ds fs w (((w.alloc (.cells cs 26)).alloc (.cells ds 37)).alloc (.cells fs 37)) := by
  have h := Inv2.new cs ds w
  have := Blk.new (w := (w.alloc (.cells cs 26)).alloc (.cells ds 37)) (cs := fs) (t := 37)
  rw [World.size_alloc, World.size_alloc] at this
  exact ⟨h.a.alloc _, h.b.alloc _, this, h.below.alloc (by simp; omega) _⟩
theorem Inv3.on (h : Inv3 cs ds fs w w1) (hb : Below w1.heap.size w1 w2) : Inv3 cs ds fs w w2 := ⟨h.a.below hb h.a.lt, h.b.below hb h.b.lt, h.c.below hb h.c.lt, h.below.trans (hb.mono h.below.size)⟩
theorem Inv3.drew (h : Inv3 cs ds fs w w1) : Inv3 cs ds fs w w1.drew := ⟨h.a.drew, h.b.drew, h.c.drew, h.below.drew⟩
theorem Inv3.ra (h : Inv3 cs ds fs w w1) : w1.rangeAt w.heap.size 0 cs.toList := Blk.range (pre := []) (post := []) (by simpa using h.a) rfl
theorem Inv3.rb (h : Inv3 cs ds fs w w1) : w1.rangeAt (w.heap.size + 1) 0 ds.toList := Blk.range (pre := []) (post := []) (by simpa using h.b) rfl
theorem Inv3.rc (h : Inv3 cs ds fs w w1) : w1.rangeAt (w.heap.size + 2) 0 fs.toList := Blk.range (pre := []) (post := []) (by simpa using h.c) rfl
end

set_option maxHeartbeats 4000000 in
theorem callFits_walk (op level key ca cb ch reg e a b h n k e' a' b' h' n' k' : Int) (hh : 0 ≤ h) (w : World) :
    Calls Try.prog 4 #[.agg (callCs op level key ca cb ch reg), .agg (ansCs e a b h n k), .agg (ansCs e' a' b' h' n' k')] w fun r w' => r = .returned (.bool true) ∧ Below w.heap.size w w' := by
  generalize hcs : callCs op level key ca cb ch reg = cs
  generalize hds : ansCs e a b h n k = ds
  generalize hfs : ansCs e' a' b' h' n' k' = fs
  generalize hp : fitsB op level reg e a b h n k = p
  generalize hq : sames ds.toList fs.toList = q
  have C1 : Hid (∀ w1, Inv3 cs ds fs w w1 → Calls Try.prog 15 #[.agg cs, .agg ds] w1 fun r w' => r = .returned (.bool p) ∧ Inv3 cs ds fs w w') :=
    fun w1 x => by subst hcs; subst hds; subst hp; exact (fits_any op level key ca cb ch reg e a b h n k w1).mono fun _ _ ⟨h1, h2⟩ => ⟨h1, x.on h2⟩
  have C2 : Hid (∀ w1, Inv3 cs ds fs w w1 → Calls Try.prog 16 #[.agg cs, .agg ds] w1 fun r w' => r = .returned (.bool p) ∧ Inv3 cs ds fs w w') :=
    fun w1 x => by subst hcs; subst hds; subst hp; exact (refFits_any op level key ca cb ch reg e a b h n k hh w1).mono fun _ _ ⟨h1, h2⟩ => ⟨h1, x.on h2⟩
  have C3 : Hid (∀ w1, Inv3 cs ds fs w w1 → Calls Try.prog 17 #[.agg ds, .agg fs] w1 fun r w' => r = .returned (.bool q) ∧ Inv3 cs ds fs w w') :=
    fun w1 x => by subst hds; subst hfs; subst hq; exact (same_any e a b h n k e' a' b' h' n' k' w1).mono fun _ _ ⟨h1, h2⟩ => ⟨h1, x.on h2⟩
  have C4 : Hid (∀ w1, Inv3 cs ds fs w w1 → Calls Try.prog 17 #[.agg ds, .agg ds] w1 fun r w' => r = .returned (.bool true) ∧ Inv3 cs ds fs w w') :=
    fun w1 x => by subst hds; exact (same_any e a b h n k e a b h n k w1).mono fun _ _ ⟨h1, h2⟩ => ⟨by rw [h1, sames_refl (fits_ans e a b h n k)], x.on h2⟩
  have C5 : Hid (∀ w1, Inv3 cs ds fs w w1 → Calls Try.prog 5 #[] w1 fun r w' => r = .returned (.bool true) ∧ Inv3 cs ds fs w w') :=
    fun w1 x => (lives_09 w1).mono fun _ _ ⟨h1, h2⟩ => ⟨h1, x.on h2⟩
  have Q := Lib.hid hq
  have FD : Hid (fits ansKs ds.toList) := hds ▸ fits_ans _ _ _ _ _ _
  have FF : Hid (fits ansKs fs.toList) := hfs ▸ fits_ans _ _ _ _ _ _
  have ZC : Hid (cs.size = 7) := by show _ = _; rw [← hcs]; rfl
  have ZD : Hid (ds.size = 6) := by show _ = _; rw [← hds]; rfl
  have ZF : Hid (fs.size = 6) := by show _ = _; rw [← hfs]; rfl
  clear hcs hds hfs hp hq hh
  cases p <;> cases q
  all_goals
    go_enter Try.func4, Try.ntmps4
    go_upto_region 1 with (fail)
    have hI := Inv3.new cs ds fs w
    generalize ((w.alloc (.cells cs 26)).alloc (.cells ds 37)).alloc (.cells fs 37) = w1 at hI ⊢
    refine wp_region_class (Inv3 cs ds fs w) (by kernel_rfl) (by kernel_rfl) hI.drew ?_
    repeat (first
      | go_big_quiet_skip
      | (go_big_quiet_want; first
        | (refine quiet_load_arr 26 _ rfl w.heap.size 0 rfl cs _ (fun _ h => h.ra) Try.underlying26 rfl (by rw [ZC.out]; kernel_rfl) ?_; simp only [Act.put, List.setIfInBounds_toArray, List.set_cons_zero, List.set_cons_succ]; go_big_quiet_on)
        | (refine quiet_load_arr 37 _ rfl (w.heap.size + 1) 0 rfl ds _ (fun _ h => h.rb) Try.underlying37 rfl (by rw [ZD.out]; kernel_rfl) ?_; simp only [Act.put, List.setIfInBounds_toArray, List.set_cons_zero, List.set_cons_succ]; go_big_quiet_on)
        | (refine quiet_load_arr 37 _ rfl (w.heap.size + 2) 0 rfl fs _ (fun _ h => h.rc) Try.underlying37 rfl (by rw [ZF.out]; kernel_rfl) ?_; simp only [Act.put, List.setIfInBounds_toArray, List.set_cons_zero, List.set_cons_succ]; go_big_quiet_on)
        | (refine quiet_eql_flat 37 _ _ _ rfl rfl rfl 10 (by omega) (ks := ansKs) (by kernel_rfl) rfl (by kernel_rfl) Try.underlying37 rfl (by kernel_rfl) FD.out FF.out ?_; rw [Q.out]; simp only [Act.put, List.setIfInBounds_toArray, List.set_cons_zero, List.set_cons_succ]; go_big_quiet_on)
        | (go_big_quiet_op; first | go_big_quiet_on | go_big_quiet_call (first | with_reducible exact fun _ => rfl | with_reducible exact C1.out _ | with_reducible exact C2.out _ | with_reducible exact C3.out _ | with_reducible exact C4.out _ | with_reducible exact C5.out _))))
    refine wpQuiet_nil ?_
    intro w2 hI
    go_wp2
    go_ret
    exact ⟨rfl, hI.below⟩

end Go.Proofs.Ytefgeeckfofkfaa
