/- Walks of layer 9 (call): whether a call may be answered so. -/
import Derived.Test.YtefgeeckfofkfaaFitsA
namespace Go.Proofs.Ytefgeeckfofkfaa
open Go.RowKit
set_option linter.unusedVariables false

def toldCs (op e a b h n k : Int) : Array Value :=
  if e = 0 then (if pairOp op = true then ansCs 0 a b 0 0 0 else if op = 9 then ansCs 0 0 0 h 0 0 else if op = 3 then ansCs 0 0 0 0 n (if n = 2 then k else 0) else if op = 12 then ansCs 0 0 0 0 n 0 else ansCs 0 0 0 0 0 0)
  else ansCs e 0 0 0 0 0
theorem told_any (op level key ca cb ch reg e a b h n k : Int) (hop : 0 ≤ op ∧ op ≤ 12) (w : World) : Calls Try.prog 23 #[.agg (callCs op level key ca cb ch reg), .agg (ansCs e a b h n k)] w fun r w' =>
    r = .returned (.agg (toldCs op e a b h n k)) ∧ Below w.heap.size w w' := by
  by_cases he : e = 0
  · subst he
    rcases (by omega : op = 0 ∨ op = 1 ∨ op = 2 ∨ op = 3 ∨ op = 4 ∨ op = 5 ∨ op = 6 ∨ op = 7 ∨ op = 8 ∨ op = 9 ∨ op = 10 ∨ op = 11 ∨ op = 12) with rfl | rfl | rfl | rfl | rfl | rfl | rfl | rfl | rfl | rfl | rfl | rfl | rfl
    · exact (told_o0 0 level key ca cb ch reg 0 a b h n k w).mono fun _ _ ⟨h1, h2⟩ => ⟨by rw [h1]; simp [toldCs, pairOp], h2⟩
    · exact (told_p1 0 level key ca cb ch reg 0 a b h n k w).mono fun _ _ ⟨h1, h2⟩ => ⟨by rw [h1]; simp [toldCs, pairOp], h2⟩
    · exact (told_p2 0 level key ca cb ch reg 0 a b h n k w).mono fun _ _ ⟨h1, h2⟩ => ⟨by rw [h1]; simp [toldCs, pairOp], h2⟩
    · by_cases hn : n = 2
      · subst hn
        exact (told_store2 0 level key ca cb ch reg 0 a b h 2 k w).mono fun _ _ ⟨h1, h2⟩ => ⟨by rw [h1]; simp [toldCs, pairOp], h2⟩
      · exact (told_store 0 level key ca cb ch reg 0 a b h n k hn w).mono fun _ _ ⟨h1, h2⟩ => ⟨by rw [h1]; simp [toldCs, pairOp, hn], h2⟩
    · exact (told_p4 0 level key ca cb ch reg 0 a b h n k w).mono fun _ _ ⟨h1, h2⟩ => ⟨by rw [h1]; simp [toldCs, pairOp], h2⟩
    · exact (told_p5 0 level key ca cb ch reg 0 a b h n k w).mono fun _ _ ⟨h1, h2⟩ => ⟨by rw [h1]; simp [toldCs, pairOp], h2⟩
    · exact (told_o6 0 level key ca cb ch reg 0 a b h n k w).mono fun _ _ ⟨h1, h2⟩ => ⟨by rw [h1]; simp [toldCs, pairOp], h2⟩
    · exact (told_p7 0 level key ca cb ch reg 0 a b h n k w).mono fun _ _ ⟨h1, h2⟩ => ⟨by rw [h1]; simp [toldCs, pairOp], h2⟩
    · exact (told_p8 0 level key ca cb ch reg 0 a b h n k w).mono fun _ _ ⟨h1, h2⟩ => ⟨by rw [h1]; simp [toldCs, pairOp], h2⟩
    · exact (told_new 0 level key ca cb ch reg 0 a b h n k w).mono fun _ _ ⟨h1, h2⟩ => ⟨by rw [h1]; simp [toldCs, pairOp], h2⟩
    · exact (told_p10 0 level key ca cb ch reg 0 a b h n k w).mono fun _ _ ⟨h1, h2⟩ => ⟨by rw [h1]; simp [toldCs, pairOp], h2⟩
    · exact (told_o11 0 level key ca cb ch reg 0 a b h n k w).mono fun _ _ ⟨h1, h2⟩ => ⟨by rw [h1]; simp [toldCs, pairOp], h2⟩
    · exact (told_tend 0 level key ca cb ch reg 0 a b h n k w).mono fun _ _ ⟨h1, h2⟩ => ⟨by rw [h1]; simp [toldCs, pairOp], h2⟩
  · exact (told_err op level key ca cb ch reg e a b h n k he w).mono fun _ _ ⟨h1, h2⟩ => ⟨by rw [h1, toldCs, if_neg he], h2⟩

/-- Two structs stand boxed. -/
structure Inv2 (cs ds : Array Value) (w w' : World) : Prop where
  a : Blk w' w.heap.size cs 26
  b : Blk w' (w.heap.size + 1) ds 37
  below : Below w.heap.size w w'
section
variable {cs ds : Array Value} {w w1 w2 : World}
theorem Inv2.new (cs ds : Array Value) (w : World) : Inv2 cs ds w ((w.alloc (.cells cs 26)).alloc (.cells ds 37)) := by
  refine ⟨Blk.new.alloc _, ?_, ((Below.refl _ _).alloc (Nat.le_refl _) _).alloc (by simp) _⟩
  have := Blk.new (w := w.alloc (.cells cs 26)) (cs := ds) (t := 37)
  rwa [World.size_alloc] at this
theorem Inv2.on (h : Inv2 cs ds w w1) (hb : Below w1.heap.size w1 w2) : Inv2 cs ds w w2 := ⟨h.a.below hb h.a.lt, h.b.below hb h.b.lt, h.below.trans (hb.mono h.below.size)⟩
theorem Inv2.drew (h : Inv2 cs ds w w1) : Inv2 cs ds w w1.drew := ⟨h.a.drew, h.b.drew, h.below.drew⟩
theorem Inv2.ra (h : Inv2 cs ds w w1) : w1.rangeAt w.heap.size 0 cs.toList := Blk.range (pre := []) (post := []) (by simpa using h.a) rfl
theorem Inv2.rb (h : Inv2 cs ds w w1) : w1.rangeAt (w.heap.size + 1) 0 ds.toList := Blk.range (pre := []) (post := []) (by simpa using h.b) rfl
end
def ansKs : List Kd := [some (some .i64), some (some .u64), some (some .u64), some (some .u64), some (some .i64), some (some .i64)]
theorem fits_ans (e a b h n k : Int) : fits ansKs (ansCs e a b h n k).toList := ⟨rfl, rfl, rfl, rfl, rfl, rfl, trivial⟩
theorem fits_told (op e a b h n k : Int) : fits ansKs (toldCs op e a b h n k).toList := by
  unfold toldCs
  (repeat' split) <;> exact fits_ans _ _ _ _ _ _

def cleanB (op e a b h n k : Int) : Bool := sames (ansCs e a b h n k).toList (toldCs op e a b h n k).toList
def fitsB (op level reg e a b h n k : Int) : Bool := mayB op level reg && (cleanB op e a b h n k && (if e = 0 then fineB op h n else e == 12 || refusedB op e))
theorem mayB_op {op level reg : Int} (h : mayB op level reg = true) : 0 ≤ op ∧ op ≤ 12 := by
  simp [mayB] at h; omega

set_option maxHeartbeats 4000000 in
theorem fits_any (op level key ca cb ch reg e a b h n k : Int) (w : World) : Calls Try.prog 15 #[.agg (callCs op level key ca cb ch reg), .agg (ansCs e a b h n k)] w fun r w' =>
    r = .returned (.bool (fitsB op level reg e a b h n k)) ∧ Below w.heap.size w w' := by
  generalize hcs : callCs op level key ca cb ch reg = cs
  generalize hds : ansCs e a b h n k = ds
  have Hcs := Lib.hid hcs
  have Hds := Lib.hid hds
  generalize hM : mayB op level reg = m
  generalize hD : cleanB op e a b h n k = d
  have M := Lib.hid hM
  have D := Lib.hid hD
  have C1 : Hid (∀ w1, Inv2 cs ds w w1 → Calls Try.prog 8 #[.agg cs] w1 fun r w' => r = .returned (.bool m) ∧ Inv2 cs ds w w') :=
    fun w1 x => hcs ▸ hM ▸ (may_any op level key ca cb ch reg w1).mono fun _ _ ⟨h1, h2⟩ => ⟨h1, hcs ▸ x.on h2⟩
  have C2 : m = true → Hid (∀ w1, Inv2 cs ds w w1 → Calls Try.prog 23 #[.agg cs, .agg ds] w1 fun r w' => r = .returned (.agg (toldCs op e a b h n k)) ∧ Inv2 cs ds w w') :=
    fun hm w1 x => by
      subst hcs; subst hds
      exact (told_any op level key ca cb ch reg e a b h n k (mayB_op (hM.trans hm)) w1).mono fun _ _ ⟨h1, h2⟩ => ⟨h1, x.on h2⟩
  have F0 : Hid (∀ w1, Calls Try.prog 24 #[.agg cs, .agg ds] w1 fun r w' => r = .returned (.bool (fineB op h n)) ∧ Below w1.heap.size w1 w') := by
    intro w1; subst hcs; subst hds; exact fine_any op level key ca cb ch reg e a b h n k w1
  have fd : fits ansKs ds.toList := hds ▸ fits_ans e a b h n k
  have Fd := Lib.hid fd
  have es : Hid (sames ds.toList (toldCs op e a b h n k).toList = d) := hds ▸ hD
  clear fd
  have g0 : ds[0]? = some (.int .i64 e) := by rw [← hds]; rfl
  have g1 : cs[0]? = some (.int .i64 op) := by rw [← hcs]; rfl
  have zc : cs.size = 7 := by rw [← hcs]; rfl
  have zd : ds.size = 6 := by rw [← hds]; rfl
  have G0 := Lib.hid g0
  have G1 := Lib.hid g1
  have ZC := Lib.hid zc
  have ZD := Lib.hid zd
  clear hcs hds hM hD g0 g1 zc zd
  cases m with
  | false =>
    have N : Hid (fitsB op level reg e a b h n k = false) := by show _ = _; rw [fitsB, M.out]; rfl
    clear C2
    go_enter Try.func15, Try.ntmps15
    go_upto_region 1 with (fail)
    have hI := Inv2.new cs ds w
    generalize (w.alloc (.cells cs 26)).alloc (.cells ds 37) = w1 at hI ⊢
    refine wp_region_class (Inv2 cs ds w) (by kernel_rfl) (by kernel_rfl) hI.drew ?_
    repeat (first
      | go_big_quiet_skip
      | (go_big_quiet_want; first
        | (refine quiet_load_arr 26 _ rfl w.heap.size 0 rfl cs _ (fun _ h => h.ra) Try.underlying26 rfl (by rw [ZC.out]; kernel_rfl) ?_; simp only [Act.put, List.setIfInBounds_toArray, List.set_cons_zero, List.set_cons_succ]; go_big_quiet_on)
        | (go_big_quiet_op; first | go_big_quiet_on | go_big_quiet_call (first | with_reducible exact fun _ => rfl | with_reducible exact C1.out _ ))))
    refine wpQuiet_nil ?_
    intro w2 hI
    go_wp2
    go_ret
    exact ⟨by rw [N.out]; rfl, hI.below⟩
  | true =>
    have C2 := C2 rfl
    cases d with
    | false =>
      have N : Hid (fitsB op level reg e a b h n k = false) := by show _ = _; rw [fitsB, D.out]; simp
      go_enter Try.func15, Try.ntmps15
      go_upto_region 1 with (fail)
      have hI := Inv2.new cs ds w
      generalize (w.alloc (.cells cs 26)).alloc (.cells ds 37) = w1 at hI ⊢
      refine wp_region_class (Inv2 cs ds w) (by kernel_rfl) (by kernel_rfl) hI.drew ?_
      repeat (first
        | go_big_quiet_skip
        | (go_big_quiet_want; first
          | (refine quiet_load_arr 26 _ rfl w.heap.size 0 rfl cs _ (fun _ h => h.ra) Try.underlying26 rfl (by rw [ZC.out]; kernel_rfl) ?_; simp only [Act.put, List.setIfInBounds_toArray, List.set_cons_zero, List.set_cons_succ]; go_big_quiet_on)
          | (refine quiet_load_arr 37 _ rfl (w.heap.size + 1) 0 rfl ds _ (fun _ h => h.rb) Try.underlying37 rfl (by rw [ZD.out]; kernel_rfl) ?_; simp only [Act.put, List.setIfInBounds_toArray, List.set_cons_zero, List.set_cons_succ]; go_big_quiet_on)
          | (refine quiet_neq_flat 37 _ _ _ rfl rfl rfl 10 (by omega) (ks := ansKs) (by kernel_rfl) rfl (by kernel_rfl) Try.underlying37 rfl (by kernel_rfl) Fd.out (fits_told _ _ _ _ _ _ _) ?_; rw [es.out]; simp only [Act.put, List.setIfInBounds_toArray, List.set_cons_zero, List.set_cons_succ]; go_big_quiet_on)
          | (go_big_quiet_op; first | go_big_quiet_on | go_big_quiet_call (first | with_reducible exact fun _ => rfl | with_reducible exact C1.out _ | with_reducible exact C2.out _))))
      refine wpQuiet_nil ?_
      intro w2 hI
      go_wp2
      go_ret
      exact ⟨by rw [N.out]; rfl, hI.below⟩
    | true =>
      go_enter Try.func15, Try.ntmps15
      go_upto_region 1 with (fail)
      have hI := Inv2.new cs ds w
      generalize (w.alloc (.cells cs 26)).alloc (.cells ds 37) = w1 at hI ⊢
      refine wp_region_class (Inv2 cs ds w) (by kernel_rfl) (by kernel_rfl) hI.drew ?_
      repeat (first
        | go_big_quiet_skip
        | (go_big_quiet_want; first
          | (refine quiet_load_arr 26 _ rfl w.heap.size 0 rfl cs _ (fun _ h => h.ra) Try.underlying26 rfl (by rw [ZC.out]; kernel_rfl) ?_; simp only [Act.put, List.setIfInBounds_toArray, List.set_cons_zero, List.set_cons_succ]; go_big_quiet_on)
          | (refine quiet_load_arr 37 _ rfl (w.heap.size + 1) 0 rfl ds _ (fun _ h => h.rb) Try.underlying37 rfl (by rw [ZD.out]; kernel_rfl) ?_; simp only [Act.put, List.setIfInBounds_toArray, List.set_cons_zero, List.set_cons_succ]; go_big_quiet_on)
          | (refine quiet_neq_flat 37 _ _ _ rfl rfl rfl 10 (by omega) (ks := ansKs) (by kernel_rfl) rfl (by kernel_rfl) Try.underlying37 rfl (by kernel_rfl) Fd.out (fits_told _ _ _ _ _ _ _) ?_; rw [es.out]; simp only [Act.put, List.setIfInBounds_toArray, List.set_cons_zero, List.set_cons_succ]; go_big_quiet_on)
          | (go_big_quiet_op; first | go_big_quiet_on | go_big_quiet_call (first | with_reducible exact fun _ => rfl | with_reducible exact C1.out _ | with_reducible exact C2.out _))))
      refine wpQuiet_nil ?_
      intro w2 hI
      have ce : w2.cell? ⟨w.heap.size + 1, 0, none⟩ = some (.int .i64 e) := by rw [hI.b.cell]; exact G0.out
      have co : w2.cell? ⟨w.heap.size, 0, none⟩ = some (.int .i64 op) := by rw [hI.a.cell]; exact G1.out
      by_cases he : e = 0
      · have N : Hid (fitsB op level reg e a b h n k = fineB op h n) := by show _ = _; rw [fitsB, M.out, D.out, if_pos he]; rfl
        have he2 : (e == 0) = true := by rw [beq_iff_eq]; exact he
        clear he
        have ra := hI.ra
        have rb := hI.rb
        go_wp2_with (first
          | (refine wpList_load_arg rfl 26 _ rfl w.heap.size 0 rfl cs _ ra Try.underlying26 rfl (by rw [ZC.out]; kernel_rfl) ?_)
          | (refine wpList_load_arg rfl 37 _ rfl (w.heap.size + 1) 0 rfl ds _ rb Try.underlying37 rfl (by rw [ZD.out]; kernel_rfl) ?_)
          | (go_at_call 24; refine (F0.out _).mono ?_; rintro r w3 ⟨rfl, hb⟩; replace hI := hI.on hb))
        go_ret
        exact ⟨by rw [N.out]; rfl, hI.below⟩
      · have he2 : (e == 0) = false := by rw [beq_eq_false_iff_ne]; exact he
        have hop := Lib.hid (mayB_op M.out)
        by_cases h12 : e = 12
        · have N : Hid (fitsB op level reg e a b h n k = true) := by show _ = _; rw [fitsB, M.out, D.out, if_neg he, h12]; rfl
          have h3 : (e == 12) = true := by rw [beq_iff_eq]; exact h12
          clear he h12
          go_wp2
          go_ret
          exact ⟨by rw [N.out]; rfl, hI.below⟩
        · have h3 : (e == 12) = false := by rw [beq_eq_false_iff_ne]; exact h12
          have N : Hid (fitsB op level reg e a b h n k = refusedB op e) := by show _ = _; rw [fitsB, M.out, D.out, if_neg he, h3]; simp
          clear he h12
          go_wp2_with (go_at_call 25; refine (refused_any _ _ hop.out _).mono ?_; rintro r w3 ⟨rfl, rfl⟩)
          go_ret
          exact ⟨by rw [N.out]; rfl, hI.below⟩

end Go.Proofs.Ytefgeeckfofkfaa
