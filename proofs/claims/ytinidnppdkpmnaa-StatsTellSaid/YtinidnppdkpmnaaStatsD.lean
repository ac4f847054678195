/- 'lives' of layer 42. -/
import Derived.Test.YtinidnppdkpmnaaStatsC
namespace Go.Proofs.Ytinidnppdkpmnaa
open Go.RowKit

set_option maxHeartbeats 1000000 in
theorem of_0 (b : Nat) (w : World) (hb : Blk w b (seen 0 0 ++ seen 9 1).toArray 48) :
    Calls Try.prog 12 #[.slice (some ⟨b, 0, none⟩) 2 2] w fun e w' => e = .returned (.agg ((cnt 1 1 0 1 9 false).extract 0 33)) ∧ Below w.heap.size w w' := by
  go_enter Try.func12, Try.ntmps12
  have hlt := hb.lt
  have r0 : ∀ w' : World, Below w.heap.size w w' → w'.rangeAt b 0 (seen 0 0) := fun w' h => Blk.range (pre := []) (hb.below h hlt) rfl
  have r1 : ∀ w' : World, Below w.heap.size w w' → w'.rangeAt b 18 (seen 9 1) := fun w' h => Blk.range (pre := seen 0 0) (post := []) (by rw [List.append_nil]; exact hb.below h hlt) rfl
  go_wp2
  have h0 := (Blk.new (w := w) (cs := ints .i64 33 fun _ => 0) (t := 25)).alloc (.cells (cnt 0 0 0 0 0 false) 54)
  have h1 := Blk.new (w := w.alloc (.cells (ints .i64 33 fun _ => 0) 25)) (cs := cnt 0 0 0 0 0 false) (t := 54)
  have h2 : Below w.heap.size w ((w.alloc (.cells (ints .i64 33 fun _ => 0) 25)).alloc (.cells (cnt 0 0 0 0 0 false) 54)) := ((Below.refl _ _).alloc (Nat.le_refl _) _).alloc (by simp) _
  have h3 : ((w.alloc (.cells (ints .i64 33 fun _ => 0) 25)).alloc (.cells (cnt 0 0 0 0 0 false) 54)).heap.size = w.heap.size + 1 + 1 := by simp
  rw [World.size_alloc] at h1
  change Code.wp _ _ _ _ ((w.alloc (.cells (ints .i64 33 fun _ => 0) 25)).alloc (.cells (cnt 0 0 0 0 0 false) 54))
  generalize (w.alloc (.cells (ints .i64 33 fun _ => 0) 25)).alloc (.cells (cnt 0 0 0 0 0 false) 54) = w1 at h0 h1 h2 h3 ⊢
  refine wp_loop_rounds 3 ?_
  rw [rounds_succ]
  have r := r0 w1 h2
  have H0 : Hid _ := Lib.hid r0
  have H1 : Hid _ := Lib.hid r1
  have H3 : Hid _ := Lib.hid h3
  clear h3 r0 r1
  go_wp2_with (first
    | (refine wpList_load_mid rfl _ _ rfl b 0 rfl (seen 0 0) _ r Try.underlying48 rfl (by kernel_rfl) ?_)
    | (refine wpList_store_whole rfl _ _ _ rfl w1.heap.size (seen 0 0).toArray (seen 0 0).toArray 48 rfl rfl Blk.new rfl (by kernel_rfl) (by kernel_rfl) ?_; intro w2 hx ho; have c2 : w2.cell? ⟨w1.heap.size, 2, none⟩ = some (.int .i64 0) := hx.cell 2; have c1 : w2.cell? ⟨w1.heap.size, 1, none⟩ = some (.int .i64 0) := hx.cell 1)
    | (refine wpList_load_row rfl _ _ rfl _ rfl _ _ _ _ hx Try.underlying48 rfl (by kernel_rfl) ?_))
  have hA : Blk w2 (w.heap.size + 1) (cnt 0 0 0 0 0 false) 54 := (h1.alloc _).only ho (by rw [H3.out]; omega)
  have hB : Blk w2 w.heap.size (ints .i64 33 fun _ => 0) 25 := (h0.alloc _).only ho (by rw [H3.out]; omega)
  have hw : Below w.heap.size w w2 := ho.below (by rw [H3.out]; omega) (h2.alloc (by rw [H3.out]; omega) _)
  clear h0 h1 h2 r c1 c2 hx ho
  refine (began_0 _ _ hA).mono ?_
  rintro e w3 ⟨rfl, hA3, hb3⟩
  replace hB := hB.below hb3 (by omega)
  replace hw := hw.trans (hb3.mono (by omega))
  clear hA hb3
  have h3 : w.heap.size + 1 < w3.heap.size := hA3.lt
  have H3 : Hid _ := Lib.hid h3
  clear h3
  go_wp2
  rw [rounds_succ]
  have r := H1.out w3 hw
  go_wp2_with (first
    | (refine wpList_load_mid rfl _ _ rfl b 18 rfl (seen 9 1) _ r Try.underlying48 rfl (by kernel_rfl) ?_)
    | (refine wpList_store_whole rfl _ _ _ rfl w3.heap.size (seen 0 0).toArray (seen 9 1).toArray 48 rfl rfl Blk.new rfl (by kernel_rfl) (by kernel_rfl) ?_; intro w4 hx ho; have c2 : w4.cell? ⟨w3.heap.size, 2, none⟩ = some (.int .i64 0) := hx.cell 2; have c1 : w4.cell? ⟨w3.heap.size, 1, none⟩ = some (.int .i64 1) := hx.cell 1)
    | (refine wpList_load_row rfl _ _ rfl _ rfl _ _ _ _ hx Try.underlying48 rfl (by kernel_rfl) ?_))
  have hA4 : Blk w4 (w.heap.size + 1) (cnt 1 0 1 1 0 true) 54 := (hA3.alloc _).only ho (by have := H3.out; omega)
  have hB4 : Blk w4 w.heap.size (ints .i64 33 fun _ => 0) 25 := (hB.alloc _).only ho (by have := H3.out; omega)
  have hw4 : Below w.heap.size w w4 := ho.below (by have := H3.out; omega) (hw.alloc (by have := H3.out; omega) _)
  clear hA3 hB hw r c1 c2 hx ho
  refine (answered_0 _ _ hA4).mono ?_
  rintro e w5 ⟨rfl, hA5, hb5⟩
  replace hB4 := hB4.below hb5 (by omega)
  replace hw4 := hw4.trans (hb5.mono (by omega))
  clear hA4 hb5
  have rA : w5.rangeAt (w.heap.size + 1) 0 ((cnt 1 1 0 1 9 false).extract 0 33).toList :=
    Blk.range (pre := []) (post := ((cnt 1 1 0 1 9 false).extract 33 49).toList) (by
      have e : ([] ++ ((cnt 1 1 0 1 9 false).extract 0 33).toList ++ ((cnt 1 1 0 1 9 false).extract 33 49).toList).toArray = cnt 1 1 0 1 9 false := by kernel_rfl
      rw [e]; exact hA5) rfl
  clear hA5
  go_wp2
  rw [rounds_succ]
  go_wp2_with (first
    | (refine wpList_load_mid rfl _ _ rfl (w.heap.size + 1) 0 rfl ((cnt 1 1 0 1 9 false).extract 0 33).toList _ rA Try.underlying25 rfl (by kernel_rfl) ?_; rw [Array.toArray_toList])
    | (refine wpList_store_whole rfl _ _ _ rfl w.heap.size (ints .i64 33 fun _ => 0) ((cnt 1 1 0 1 9 false).extract 0 33) 25 rfl rfl hB4 (by kernel_rfl) (by kernel_rfl) (by kernel_rfl) ?_; intro w6 hx ho))
  exact bodyPost_ret (results_cell_row rfl _ _ _ _ _ _ _ rfl hx Try.underlying25 rfl (by kernel_rfl)) rfl ⟨rfl, ho.below (Nat.le_refl _) hw4⟩

set_option maxHeartbeats 1000000 in
theorem lives_42 (w : World) :
    Calls Try.prog 5 #[] w fun e w' => e = .returned (.bool true) ∧ Below w.heap.size w w' := by
  go_enter Try.func5, Try.ntmps5
  go_wp2_with fail
  have hb : Blk (w.alloc (.cells (seen 0 0 ++ seen 9 1).toArray 48)) w.heap.size (seen 0 0 ++ seen 9 1).toArray 48 := Blk.new
  refine (of_0 _ _ hb).mono ?_
  rintro e w1 ⟨rfl, h1⟩
  replace h1 := ((Below.refl w.heap.size w).alloc (Nat.le_refl _) _).trans (h1.mono (by simp))
  clear hb
  go_wp2_with (first
    | (refine wpList_store_whole rfl _ _ _ rfl w1.heap.size (ints .i64 33 fun _ => 0) ((cnt 1 1 0 1 9 false).extract 0 33) 25 rfl rfl Blk.new (by kernel_rfl) (by kernel_rfl) (by kernel_rfl) ?_; intro w2 hx ho; have c0 : w2.cell? ⟨w1.heap.size, 0, none⟩ = some (.int .i64 1) := hx.cell 0; have c13 : w2.cell? ⟨w1.heap.size, 13, none⟩ = some (.int .i64 1) := hx.cell 13; have c30 : w2.cell? ⟨w1.heap.size, 30, none⟩ = some (.int .i64 0) := hx.cell 30; have c31 : w2.cell? ⟨w1.heap.size, 31, none⟩ = some (.int .i64 1) := hx.cell 31; have c32 : w2.cell? ⟨w1.heap.size, 32, none⟩ = some (.int .i64 9) := hx.cell 32))
  go_ret
  exact ⟨rfl, ho.below h1.size (h1.alloc h1.size _)⟩

end Go.Proofs.Ytinidnppdkpmnaa
