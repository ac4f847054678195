/- Walks of the document's answer for layer 9: whether a call may be answered so, where an error is told. -/
import Derived.Test.YtefgeeckfofkfaaFitsE
namespace Go.Proofs.Ytefgeeckfofkfaa
open Go.RowKit
set_option linter.unusedVariables false

set_option maxHeartbeats 1000000 in
theorem rferr_0 (level key ca cb ch reg e a b h n k : Int) (he : e ≠ 0) (hm : mayB 0 level reg = true) (w : World) : Calls Try.prog 16 #[.agg (callCs 0 level key ca cb ch reg), .agg (ansCs e a b h n k)] w fun r w' =>
    r = .returned (.bool (cleanB 0 e a b h n k && (e == 12 || refusedB 0 e))) ∧ Below w.heap.size w w' := by
  have M := Lib.hid hm
  clear hm
  have hd : sames (ansCs e a b h n k).toList (ansCs e 0 0 0 0 0).toList = cleanB 0 e a b h n k := by rw [cleanB, toldCs, if_neg he]
  have e0 : (e == 0) = false := beq_eq_false_iff_ne.2 he
  clear he
  generalize cleanB 0 e a b h n k = d at hd ⊢
  have EQ := Lib.hid hd
  clear hd
  cases d with
  | false =>
    go_enter Try.func16, Try.ntmps16
    go_upto_region 1 with (fail)
    have hI := Inv2.new (callCs 0 level key ca cb ch reg) (ansCs e a b h n k) w
    generalize (w.alloc (.cells (callCs 0 level key ca cb ch reg) 26)).alloc (.cells (ansCs e a b h n k) 37) = w0 at hI ⊢
    have r0 := hI.ra
    go_upto_region 3 with (first
      | (refine wpList_load_arg rfl 26 _ rfl w.heap.size 0 rfl _ _ r0 Try.underlying26 rfl (by kernel_rfl) ?_)
      | (go_at_call 9; refine (refMay_any 0 level key ca cb ch reg _).mono ?_; rintro r w1 ⟨rfl, hb⟩; rw [M.out]))
    replace hI := hI.on hb
    clear hb r0
    have rb := hI.rb
    go_upto_region 4 with (first
      | (refine wpList_load_arg rfl 37 _ rfl (w.heap.size + 1) 0 rfl _ _ rb Try.underlying37 rfl (by kernel_rfl) ?_)
      | (refine wpList_store_whole rfl 37 _ _ rfl w1.heap.size (ansCs 0 0 0 0 0 0) (ansCs e a b h n k) 37 rfl rfl Blk.new rfl (by kernel_rfl) (by kernel_rfl) ?_; intro w2 hx ho))
    have hne : w.heap.size + 1 < w1.heap.size := hI.b.lt
    have hA : Blk w2 w.heap.size (callCs 0 level key ca cb ch reg) 26 := (hI.a.alloc _).only ho (by omega)
    have hB : Blk w2 (w.heap.size + 1) (ansCs e a b h n k) 37 := (hI.b.alloc _).only ho (by omega)
    have hw : Below w.heap.size w w2 := ho.below (by omega) (hI.below.alloc (by omega) _)
    clear hI rb ho hx
    have hI : Inv2 (callCs 0 level key ca cb ch reg) (ansCs e a b h n k) w w2 := ⟨hA, hB, hw⟩
    have rb := hI.rb
    have cA : w2.cell? ⟨w.heap.size, 0, none⟩ = some (.int .i64 0) := hA.cell 0
    have cB0 : w2.cell? ⟨w.heap.size + 1, 0, none⟩ = some (.int .i64 e) := hB.cell 0
    clear hA hB
    go_wp2_with (first
      | (refine wpList_load_arg rfl 37 _ rfl (w.heap.size + 1) 0 rfl (ansCs e a b h n k) _ rb Try.underlying37 rfl (by kernel_rfl) ?_)
      | (refine wpList_neq_flat rfl 37 _ _ _ rfl (xs := ansCs e a b h n k) (ys := ansCs e 0 0 0 0 0) rfl rfl 10 (by omega) (ks := ansKs) (by kernel_rfl) rfl (by kernel_rfl) Try.underlying37 rfl (by kernel_rfl) (fits_ans _ _ _ _ _ _) (fits_ans _ _ _ _ _ _) ?_; rw [EQ.out]))
    go_ret
    exact ⟨rfl, hw⟩
  | true =>
    cases g0 : (7 == e) with
    | true =>
      have f0 : e = 7 := (eq_of_beq g0).symm
      have N : Hid ((true && (e == 12 || refusedB 0 e)) = true) := by show _ = _; rw [f0]; rfl
      clear f0
      go_enter Try.func16, Try.ntmps16
      go_upto_region 1 with (fail)
      have hI := Inv2.new (callCs 0 level key ca cb ch reg) (ansCs e a b h n k) w
      generalize (w.alloc (.cells (callCs 0 level key ca cb ch reg) 26)).alloc (.cells (ansCs e a b h n k) 37) = w0 at hI ⊢
      have r0 := hI.ra
      go_upto_region 3 with (first
        | (refine wpList_load_arg rfl 26 _ rfl w.heap.size 0 rfl _ _ r0 Try.underlying26 rfl (by kernel_rfl) ?_)
        | (go_at_call 9; refine (refMay_any 0 level key ca cb ch reg _).mono ?_; rintro r w1 ⟨rfl, hb⟩; rw [M.out]))
      replace hI := hI.on hb
      clear hb r0
      have rb := hI.rb
      go_upto_region 4 with (first
        | (refine wpList_load_arg rfl 37 _ rfl (w.heap.size + 1) 0 rfl _ _ rb Try.underlying37 rfl (by kernel_rfl) ?_)
        | (refine wpList_store_whole rfl 37 _ _ rfl w1.heap.size (ansCs 0 0 0 0 0 0) (ansCs e a b h n k) 37 rfl rfl Blk.new rfl (by kernel_rfl) (by kernel_rfl) ?_; intro w2 hx ho))
      have hne : w.heap.size + 1 < w1.heap.size := hI.b.lt
      have hA : Blk w2 w.heap.size (callCs 0 level key ca cb ch reg) 26 := (hI.a.alloc _).only ho (by omega)
      have hB : Blk w2 (w.heap.size + 1) (ansCs e a b h n k) 37 := (hI.b.alloc _).only ho (by omega)
      have hw : Below w.heap.size w w2 := ho.below (by omega) (hI.below.alloc (by omega) _)
      clear hI rb ho hx
      have hI : Inv2 (callCs 0 level key ca cb ch reg) (ansCs e a b h n k) w w2 := ⟨hA, hB, hw⟩
      have rb := hI.rb
      have cA : w2.cell? ⟨w.heap.size, 0, none⟩ = some (.int .i64 0) := hA.cell 0
      have cB0 : w2.cell? ⟨w.heap.size + 1, 0, none⟩ = some (.int .i64 e) := hB.cell 0
      clear hA hB
      go_wp2_with (first
        | (refine wpList_load_arg rfl 37 _ rfl (w.heap.size + 1) 0 rfl (ansCs e a b h n k) _ rb Try.underlying37 rfl (by kernel_rfl) ?_)
        | (refine wpList_neq_flat rfl 37 _ _ _ rfl (xs := ansCs e a b h n k) (ys := ansCs e 0 0 0 0 0) rfl rfl 10 (by omega) (ks := ansKs) (by kernel_rfl) rfl (by kernel_rfl) Try.underlying37 rfl (by kernel_rfl) (fits_ans _ _ _ _ _ _) (fits_ans _ _ _ _ _ _) ?_; rw [EQ.out])
        | (go_at_call 26; refine (refs_any 0 ⟨by omega, by omega⟩ _).mono ?_; rintro r w3 ⟨bl, rfl, hR, hb⟩; rw [show refSlice 0 bl = .slice (some ⟨bl, 0, none⟩) 2 2 from rfl]))
      have hI3 : Below w.heap.size w w3 := hw.trans (hb.mono hw.size)
      replace hI := hI.on hb
      have cC : w3.cell? ⟨w.heap.size + 1, 0, none⟩ = some (.int .i64 e) := hI.b.cell 0
      have hR := hR (by decide)
      have s0 : w3.cell? ⟨bl, 0, none⟩ = some (.int .i64 7) := hR.cell 0
      have s1 : w3.cell? ⟨bl, 1, none⟩ = some (.int .i64 8) := hR.cell 1
      clear hR hb cA cB0 rb hw hI
      refine wp_loop_rounds 3 ?_
      rw [rounds_succ]
      go_upto_region 31 with (fail)
      go_quiet (fail)
      go_wp2
      go_ret
      exact ⟨by rw [N.out]; rfl, by repeat (first | with_reducible exact hI3 | with_reducible refine below_many ?_ _)⟩
    | false =>
      cases g1 : (8 == e) with
      | true =>
        have f1 : e = 8 := (eq_of_beq g1).symm
        have N : Hid ((true && (e == 12 || refusedB 0 e)) = true) := by show _ = _; rw [f1]; rfl
        clear f1
        go_enter Try.func16, Try.ntmps16
        go_upto_region 1 with (fail)
        have hI := Inv2.new (callCs 0 level key ca cb ch reg) (ansCs e a b h n k) w
        generalize (w.alloc (.cells (callCs 0 level key ca cb ch reg) 26)).alloc (.cells (ansCs e a b h n k) 37) = w0 at hI ⊢
        have r0 := hI.ra
        go_upto_region 3 with (first
          | (refine wpList_load_arg rfl 26 _ rfl w.heap.size 0 rfl _ _ r0 Try.underlying26 rfl (by kernel_rfl) ?_)
          | (go_at_call 9; refine (refMay_any 0 level key ca cb ch reg _).mono ?_; rintro r w1 ⟨rfl, hb⟩; rw [M.out]))
        replace hI := hI.on hb
        clear hb r0
        have rb := hI.rb
        go_upto_region 4 with (first
          | (refine wpList_load_arg rfl 37 _ rfl (w.heap.size + 1) 0 rfl _ _ rb Try.underlying37 rfl (by kernel_rfl) ?_)
          | (refine wpList_store_whole rfl 37 _ _ rfl w1.heap.size (ansCs 0 0 0 0 0 0) (ansCs e a b h n k) 37 rfl rfl Blk.new rfl (by kernel_rfl) (by kernel_rfl) ?_; intro w2 hx ho))
        have hne : w.heap.size + 1 < w1.heap.size := hI.b.lt
        have hA : Blk w2 w.heap.size (callCs 0 level key ca cb ch reg) 26 := (hI.a.alloc _).only ho (by omega)
        have hB : Blk w2 (w.heap.size + 1) (ansCs e a b h n k) 37 := (hI.b.alloc _).only ho (by omega)
        have hw : Below w.heap.size w w2 := ho.below (by omega) (hI.below.alloc (by omega) _)
        clear hI rb ho hx
        have hI : Inv2 (callCs 0 level key ca cb ch reg) (ansCs e a b h n k) w w2 := ⟨hA, hB, hw⟩
        have rb := hI.rb
        have cA : w2.cell? ⟨w.heap.size, 0, none⟩ = some (.int .i64 0) := hA.cell 0
        have cB0 : w2.cell? ⟨w.heap.size + 1, 0, none⟩ = some (.int .i64 e) := hB.cell 0
        clear hA hB
        go_wp2_with (first
          | (refine wpList_load_arg rfl 37 _ rfl (w.heap.size + 1) 0 rfl (ansCs e a b h n k) _ rb Try.underlying37 rfl (by kernel_rfl) ?_)
          | (refine wpList_neq_flat rfl 37 _ _ _ rfl (xs := ansCs e a b h n k) (ys := ansCs e 0 0 0 0 0) rfl rfl 10 (by omega) (ks := ansKs) (by kernel_rfl) rfl (by kernel_rfl) Try.underlying37 rfl (by kernel_rfl) (fits_ans _ _ _ _ _ _) (fits_ans _ _ _ _ _ _) ?_; rw [EQ.out])
          | (go_at_call 26; refine (refs_any 0 ⟨by omega, by omega⟩ _).mono ?_; rintro r w3 ⟨bl, rfl, hR, hb⟩; rw [show refSlice 0 bl = .slice (some ⟨bl, 0, none⟩) 2 2 from rfl]))
        have hI3 : Below w.heap.size w w3 := hw.trans (hb.mono hw.size)
        replace hI := hI.on hb
        have cC : w3.cell? ⟨w.heap.size + 1, 0, none⟩ = some (.int .i64 e) := hI.b.cell 0
        have hR := hR (by decide)
        have s0 : w3.cell? ⟨bl, 0, none⟩ = some (.int .i64 7) := hR.cell 0
        have s1 : w3.cell? ⟨bl, 1, none⟩ = some (.int .i64 8) := hR.cell 1
        clear hR hb cA cB0 rb hw hI
        refine wp_loop_rounds 3 ?_
        rw [rounds_succ]
        go_upto_region 31 with (fail)
        go_quiet (fail)
        go_wp2
        rw [rounds_succ]
        go_upto_region 31 with (fail)
        go_quiet (fail)
        go_wp2
        go_ret
        exact ⟨by rw [N.out]; rfl, by repeat (first | with_reducible exact hI3 | with_reducible refine below_many ?_ _)⟩
      | false =>
        have N : Hid ((true && (e == 12 || refusedB 0 e)) = (e == 12)) := by
          show _ = _
          have f0 : (e == 7) = false := by rw [beq_eq_false_iff_ne] at g0 ⊢; exact fun h => g0 h.symm
          have f1 : (e == 8) = false := by rw [beq_eq_false_iff_ne] at g1 ⊢; exact fun h => g1 h.symm
          simp [refusedB, f0, f1]
        go_enter Try.func16, Try.ntmps16
        go_upto_region 1 with (fail)
        have hI := Inv2.new (callCs 0 level key ca cb ch reg) (ansCs e a b h n k) w
        generalize (w.alloc (.cells (callCs 0 level key ca cb ch reg) 26)).alloc (.cells (ansCs e a b h n k) 37) = w0 at hI ⊢
        have r0 := hI.ra
        go_upto_region 3 with (first
          | (refine wpList_load_arg rfl 26 _ rfl w.heap.size 0 rfl _ _ r0 Try.underlying26 rfl (by kernel_rfl) ?_)
          | (go_at_call 9; refine (refMay_any 0 level key ca cb ch reg _).mono ?_; rintro r w1 ⟨rfl, hb⟩; rw [M.out]))
        replace hI := hI.on hb
        clear hb r0
        have rb := hI.rb
        go_upto_region 4 with (first
          | (refine wpList_load_arg rfl 37 _ rfl (w.heap.size + 1) 0 rfl _ _ rb Try.underlying37 rfl (by kernel_rfl) ?_)
          | (refine wpList_store_whole rfl 37 _ _ rfl w1.heap.size (ansCs 0 0 0 0 0 0) (ansCs e a b h n k) 37 rfl rfl Blk.new rfl (by kernel_rfl) (by kernel_rfl) ?_; intro w2 hx ho))
        have hne : w.heap.size + 1 < w1.heap.size := hI.b.lt
        have hA : Blk w2 w.heap.size (callCs 0 level key ca cb ch reg) 26 := (hI.a.alloc _).only ho (by omega)
        have hB : Blk w2 (w.heap.size + 1) (ansCs e a b h n k) 37 := (hI.b.alloc _).only ho (by omega)
        have hw : Below w.heap.size w w2 := ho.below (by omega) (hI.below.alloc (by omega) _)
        clear hI rb ho hx
        have hI : Inv2 (callCs 0 level key ca cb ch reg) (ansCs e a b h n k) w w2 := ⟨hA, hB, hw⟩
        have rb := hI.rb
        have cA : w2.cell? ⟨w.heap.size, 0, none⟩ = some (.int .i64 0) := hA.cell 0
        have cB0 : w2.cell? ⟨w.heap.size + 1, 0, none⟩ = some (.int .i64 e) := hB.cell 0
        clear hA hB
        go_wp2_with (first
          | (refine wpList_load_arg rfl 37 _ rfl (w.heap.size + 1) 0 rfl (ansCs e a b h n k) _ rb Try.underlying37 rfl (by kernel_rfl) ?_)
          | (refine wpList_neq_flat rfl 37 _ _ _ rfl (xs := ansCs e a b h n k) (ys := ansCs e 0 0 0 0 0) rfl rfl 10 (by omega) (ks := ansKs) (by kernel_rfl) rfl (by kernel_rfl) Try.underlying37 rfl (by kernel_rfl) (fits_ans _ _ _ _ _ _) (fits_ans _ _ _ _ _ _) ?_; rw [EQ.out])
          | (go_at_call 26; refine (refs_any 0 ⟨by omega, by omega⟩ _).mono ?_; rintro r w3 ⟨bl, rfl, hR, hb⟩; rw [show refSlice 0 bl = .slice (some ⟨bl, 0, none⟩) 2 2 from rfl]))
        have hI3 : Below w.heap.size w w3 := hw.trans (hb.mono hw.size)
        replace hI := hI.on hb
        have cC : w3.cell? ⟨w.heap.size + 1, 0, none⟩ = some (.int .i64 e) := hI.b.cell 0
        have hR := hR (by decide)
        have s0 : w3.cell? ⟨bl, 0, none⟩ = some (.int .i64 7) := hR.cell 0
        have s1 : w3.cell? ⟨bl, 1, none⟩ = some (.int .i64 8) := hR.cell 1
        clear hR hb cA cB0 rb hw hI
        refine wp_loop_rounds 3 ?_
        rw [rounds_succ]
        go_upto_region 31 with (fail)
        go_quiet (fail)
        go_wp2
        rw [rounds_succ]
        go_upto_region 31 with (fail)
        go_quiet (fail)
        go_wp2
        rw [rounds_succ]
        go_wp2
        go_ret
        exact ⟨by rw [N.out]; rfl, by repeat (first | with_reducible exact hI3 | with_reducible refine below_many ?_ _)⟩

set_option maxHeartbeats 1000000 in
theorem rferr_1 (level key ca cb ch reg e a b h n k : Int) (he : e ≠ 0) (hm : mayB 1 level reg = true) (w : World) : Calls Try.prog 16 #[.agg (callCs 1 level key ca cb ch reg), .agg (ansCs e a b h n k)] w fun r w' =>
    r = .returned (.bool (cleanB 1 e a b h n k && (e == 12 || refusedB 1 e))) ∧ Below w.heap.size w w' := by
  have M := Lib.hid hm
  clear hm
  have hd : sames (ansCs e a b h n k).toList (ansCs e 0 0 0 0 0).toList = cleanB 1 e a b h n k := by rw [cleanB, toldCs, if_neg he]
  have e0 : (e == 0) = false := beq_eq_false_iff_ne.2 he
  clear he
  generalize cleanB 1 e a b h n k = d at hd ⊢
  have EQ := Lib.hid hd
  clear hd
  cases d with
  | false =>
    go_enter Try.func16, Try.ntmps16
    go_upto_region 1 with (fail)
    have hI := Inv2.new (callCs 1 level key ca cb ch reg) (ansCs e a b h n k) w
    generalize (w.alloc (.cells (callCs 1 level key ca cb ch reg) 26)).alloc (.cells (ansCs e a b h n k) 37) = w0 at hI ⊢
    have r0 := hI.ra
    go_upto_region 3 with (first
      | (refine wpList_load_arg rfl 26 _ rfl w.heap.size 0 rfl _ _ r0 Try.underlying26 rfl (by kernel_rfl) ?_)
      | (go_at_call 9; refine (refMay_any 1 level key ca cb ch reg _).mono ?_; rintro r w1 ⟨rfl, hb⟩; rw [M.out]))
    replace hI := hI.on hb
    clear hb r0
    have rb := hI.rb
    go_upto_region 4 with (first
      | (refine wpList_load_arg rfl 37 _ rfl (w.heap.size + 1) 0 rfl _ _ rb Try.underlying37 rfl (by kernel_rfl) ?_)
      | (refine wpList_store_whole rfl 37 _ _ rfl w1.heap.size (ansCs 0 0 0 0 0 0) (ansCs e a b h n k) 37 rfl rfl Blk.new rfl (by kernel_rfl) (by kernel_rfl) ?_; intro w2 hx ho))
    have hne : w.heap.size + 1 < w1.heap.size := hI.b.lt
    have hA : Blk w2 w.heap.size (callCs 1 level key ca cb ch reg) 26 := (hI.a.alloc _).only ho (by omega)
    have hB : Blk w2 (w.heap.size + 1) (ansCs e a b h n k) 37 := (hI.b.alloc _).only ho (by omega)
    have hw : Below w.heap.size w w2 := ho.below (by omega) (hI.below.alloc (by omega) _)
    clear hI rb ho hx
    have hI : Inv2 (callCs 1 level key ca cb ch reg) (ansCs e a b h n k) w w2 := ⟨hA, hB, hw⟩
    have rb := hI.rb
    have cA : w2.cell? ⟨w.heap.size, 0, none⟩ = some (.int .i64 1) := hA.cell 0
    have cB0 : w2.cell? ⟨w.heap.size + 1, 0, none⟩ = some (.int .i64 e) := hB.cell 0
    clear hA hB
    go_wp2_with (first
      | (refine wpList_load_arg rfl 37 _ rfl (w.heap.size + 1) 0 rfl (ansCs e a b h n k) _ rb Try.underlying37 rfl (by kernel_rfl) ?_)
      | (refine wpList_neq_flat rfl 37 _ _ _ rfl (xs := ansCs e a b h n k) (ys := ansCs e 0 0 0 0 0) rfl rfl 10 (by omega) (ks := ansKs) (by kernel_rfl) rfl (by kernel_rfl) Try.underlying37 rfl (by kernel_rfl) (fits_ans _ _ _ _ _ _) (fits_ans _ _ _ _ _ _) ?_; rw [EQ.out]))
    go_ret
    exact ⟨rfl, hw⟩
  | true =>
    cases g0 : (6 == e) with
    | true =>
      have f0 : e = 6 := (eq_of_beq g0).symm
      have N : Hid ((true && (e == 12 || refusedB 1 e)) = true) := by show _ = _; rw [f0]; rfl
      clear f0
      go_enter Try.func16, Try.ntmps16
      go_upto_region 1 with (fail)
      have hI := Inv2.new (callCs 1 level key ca cb ch reg) (ansCs e a b h n k) w
      generalize (w.alloc (.cells (callCs 1 level key ca cb ch reg) 26)).alloc (.cells (ansCs e a b h n k) 37) = w0 at hI ⊢
      have r0 := hI.ra
      go_upto_region 3 with (first
        | (refine wpList_load_arg rfl 26 _ rfl w.heap.size 0 rfl _ _ r0 Try.underlying26 rfl (by kernel_rfl) ?_)
        | (go_at_call 9; refine (refMay_any 1 level key ca cb ch reg _).mono ?_; rintro r w1 ⟨rfl, hb⟩; rw [M.out]))
      replace hI := hI.on hb
      clear hb r0
      have rb := hI.rb
      go_upto_region 4 with (first
        | (refine wpList_load_arg rfl 37 _ rfl (w.heap.size + 1) 0 rfl _ _ rb Try.underlying37 rfl (by kernel_rfl) ?_)
        | (refine wpList_store_whole rfl 37 _ _ rfl w1.heap.size (ansCs 0 0 0 0 0 0) (ansCs e a b h n k) 37 rfl rfl Blk.new rfl (by kernel_rfl) (by kernel_rfl) ?_; intro w2 hx ho))
      have hne : w.heap.size + 1 < w1.heap.size := hI.b.lt
      have hA : Blk w2 w.heap.size (callCs 1 level key ca cb ch reg) 26 := (hI.a.alloc _).only ho (by omega)
      have hB : Blk w2 (w.heap.size + 1) (ansCs e a b h n k) 37 := (hI.b.alloc _).only ho (by omega)
      have hw : Below w.heap.size w w2 := ho.below (by omega) (hI.below.alloc (by omega) _)
      clear hI rb ho hx
      have hI : Inv2 (callCs 1 level key ca cb ch reg) (ansCs e a b h n k) w w2 := ⟨hA, hB, hw⟩
      have rb := hI.rb
      have cA : w2.cell? ⟨w.heap.size, 0, none⟩ = some (.int .i64 1) := hA.cell 0
      have cB0 : w2.cell? ⟨w.heap.size + 1, 0, none⟩ = some (.int .i64 e) := hB.cell 0
      clear hA hB
      go_wp2_with (first
        | (refine wpList_load_arg rfl 37 _ rfl (w.heap.size + 1) 0 rfl (ansCs e a b h n k) _ rb Try.underlying37 rfl (by kernel_rfl) ?_)
        | (refine wpList_neq_flat rfl 37 _ _ _ rfl (xs := ansCs e a b h n k) (ys := ansCs e 0 0 0 0 0) rfl rfl 10 (by omega) (ks := ansKs) (by kernel_rfl) rfl (by kernel_rfl) Try.underlying37 rfl (by kernel_rfl) (fits_ans _ _ _ _ _ _) (fits_ans _ _ _ _ _ _) ?_; rw [EQ.out])
        | (go_at_call 26; refine (refs_any 1 ⟨by omega, by omega⟩ _).mono ?_; rintro r w3 ⟨bl, rfl, hR, hb⟩; rw [show refSlice 1 bl = .slice (some ⟨bl, 0, none⟩) 2 2 from rfl]))
      have hI3 : Below w.heap.size w w3 := hw.trans (hb.mono hw.size)
      replace hI := hI.on hb
      have cC : w3.cell? ⟨w.heap.size + 1, 0, none⟩ = some (.int .i64 e) := hI.b.cell 0
      have hR := hR (by decide)
      have s0 : w3.cell? ⟨bl, 0, none⟩ = some (.int .i64 6) := hR.cell 0
      have s1 : w3.cell? ⟨bl, 1, none⟩ = some (.int .i64 13) := hR.cell 1
      clear hR hb cA cB0 rb hw hI
      refine wp_loop_rounds 3 ?_
      rw [rounds_succ]
      go_upto_region 31 with (fail)
      go_quiet (fail)
      go_wp2
      go_ret
      exact ⟨by rw [N.out]; rfl, by repeat (first | with_reducible exact hI3 | with_reducible refine below_many ?_ _)⟩
    | false =>
      cases g1 : (13 == e) with
      | true =>
        have f1 : e = 13 := (eq_of_beq g1).symm
        have N : Hid ((true && (e == 12 || refusedB 1 e)) = true) := by show _ = _; rw [f1]; rfl
        clear f1
        go_enter Try.func16, Try.ntmps16
        go_upto_region 1 with (fail)
        have hI := Inv2.new (callCs 1 level key ca cb ch reg) (ansCs e a b h n k) w
        generalize (w.alloc (.cells (callCs 1 level key ca cb ch reg) 26)).alloc (.cells (ansCs e a b h n k) 37) = w0 at hI ⊢
        have r0 := hI.ra
        go_upto_region 3 with (first
          | (refine wpList_load_arg rfl 26 _ rfl w.heap.size 0 rfl _ _ r0 Try.underlying26 rfl (by kernel_rfl) ?_)
          | (go_at_call 9; refine (refMay_any 1 level key ca cb ch reg _).mono ?_; rintro r w1 ⟨rfl, hb⟩; rw [M.out]))
        replace hI := hI.on hb
        clear hb r0
        have rb := hI.rb
        go_upto_region 4 with (first
          | (refine wpList_load_arg rfl 37 _ rfl (w.heap.size + 1) 0 rfl _ _ rb Try.underlying37 rfl (by kernel_rfl) ?_)
          | (refine wpList_store_whole rfl 37 _ _ rfl w1.heap.size (ansCs 0 0 0 0 0 0) (ansCs e a b h n k) 37 rfl rfl Blk.new rfl (by kernel_rfl) (by kernel_rfl) ?_; intro w2 hx ho))
        have hne : w.heap.size + 1 < w1.heap.size := hI.b.lt
        have hA : Blk w2 w.heap.size (callCs 1 level key ca cb ch reg) 26 := (hI.a.alloc _).only ho (by omega)
        have hB : Blk w2 (w.heap.size + 1) (ansCs e a b h n k) 37 := (hI.b.alloc _).only ho (by omega)
        have hw : Below w.heap.size w w2 := ho.below (by omega) (hI.below.alloc (by omega) _)
        clear hI rb ho hx
        have hI : Inv2 (callCs 1 level key ca cb ch reg) (ansCs e a b h n k) w w2 := ⟨hA, hB, hw⟩
        have rb := hI.rb
        have cA : w2.cell? ⟨w.heap.size, 0, none⟩ = some (.int .i64 1) := hA.cell 0
        have cB0 : w2.cell? ⟨w.heap.size + 1, 0, none⟩ = some (.int .i64 e) := hB.cell 0
        clear hA hB
        go_wp2_with (first
          | (refine wpList_load_arg rfl 37 _ rfl (w.heap.size + 1) 0 rfl (ansCs e a b h n k) _ rb Try.underlying37 rfl (by kernel_rfl) ?_)
          | (refine wpList_neq_flat rfl 37 _ _ _ rfl (xs := ansCs e a b h n k) (ys := ansCs e 0 0 0 0 0) rfl rfl 10 (by omega) (ks := ansKs) (by kernel_rfl) rfl (by kernel_rfl) Try.underlying37 rfl (by kernel_rfl) (fits_ans _ _ _ _ _ _) (fits_ans _ _ _ _ _ _) ?_; rw [EQ.out])
          | (go_at_call 26; refine (refs_any 1 ⟨by omega, by omega⟩ _).mono ?_; rintro r w3 ⟨bl, rfl, hR, hb⟩; rw [show refSlice 1 bl = .slice (some ⟨bl, 0, none⟩) 2 2 from rfl]))
        have hI3 : Below w.heap.size w w3 := hw.trans (hb.mono hw.size)
        replace hI := hI.on hb
        have cC : w3.cell? ⟨w.heap.size + 1, 0, none⟩ = some (.int .i64 e) := hI.b.cell 0
        have hR := hR (by decide)
        have s0 : w3.cell? ⟨bl, 0, none⟩ = some (.int .i64 6) := hR.cell 0
        have s1 : w3.cell? ⟨bl, 1, none⟩ = some (.int .i64 13) := hR.cell 1
        clear hR hb cA cB0 rb hw hI
        refine wp_loop_rounds 3 ?_
        rw [rounds_succ]
        go_upto_region 31 with (fail)
        go_quiet (fail)
        go_wp2
        rw [rounds_succ]
        go_upto_region 31 with (fail)
        go_quiet (fail)
        go_wp2
        go_ret
        exact ⟨by rw [N.out]; rfl, by repeat (first | with_reducible exact hI3 | with_reducible refine below_many ?_ _)⟩
      | false =>
        have N : Hid ((true && (e == 12 || refusedB 1 e)) = (e == 12)) := by
          show _ = _
          have f0 : (e == 6) = false := by rw [beq_eq_false_iff_ne] at g0 ⊢; exact fun h => g0 h.symm
          have f1 : (e == 13) = false := by rw [beq_eq_false_iff_ne] at g1 ⊢; exact fun h => g1 h.symm
          simp [refusedB, f0, f1]
        go_enter Try.func16, Try.ntmps16
        go_upto_region 1 with (fail)
        have hI := Inv2.new (callCs 1 level key ca cb ch reg) (ansCs e a b h n k) w
        generalize (w.alloc (.cells (callCs 1 level key ca cb ch reg) 26)).alloc (.cells (ansCs e a b h n k) 37) = w0 at hI ⊢
        have r0 := hI.ra
        go_upto_region 3 with (first
          | (refine wpList_load_arg rfl 26 _ rfl w.heap.size 0 rfl _ _ r0 Try.underlying26 rfl (by kernel_rfl) ?_)
          | (go_at_call 9; refine (refMay_any 1 level key ca cb ch reg _).mono ?_; rintro r w1 ⟨rfl, hb⟩; rw [M.out]))
        replace hI := hI.on hb
        clear hb r0
        have rb := hI.rb
        go_upto_region 4 with (first
          | (refine wpList_load_arg rfl 37 _ rfl (w.heap.size + 1) 0 rfl _ _ rb Try.underlying37 rfl (by kernel_rfl) ?_)
          | (refine wpList_store_whole rfl 37 _ _ rfl w1.heap.size (ansCs 0 0 0 0 0 0) (ansCs e a b h n k) 37 rfl rfl Blk.new rfl (by kernel_rfl) (by kernel_rfl) ?_; intro w2 hx ho))
        have hne : w.heap.size + 1 < w1.heap.size := hI.b.lt
        have hA : Blk w2 w.heap.size (callCs 1 level key ca cb ch reg) 26 := (hI.a.alloc _).only ho (by omega)
        have hB : Blk w2 (w.heap.size + 1) (ansCs e a b h n k) 37 := (hI.b.alloc _).only ho (by omega)
        have hw : Below w.heap.size w w2 := ho.below (by omega) (hI.below.alloc (by omega) _)
        clear hI rb ho hx
        have hI : Inv2 (callCs 1 level key ca cb ch reg) (ansCs e a b h n k) w w2 := ⟨hA, hB, hw⟩
        have rb := hI.rb
        have cA : w2.cell? ⟨w.heap.size, 0, none⟩ = some (.int .i64 1) := hA.cell 0
        have cB0 : w2.cell? ⟨w.heap.size + 1, 0, none⟩ = some (.int .i64 e) := hB.cell 0
        clear hA hB
        go_wp2_with (first
          | (refine wpList_load_arg rfl 37 _ rfl (w.heap.size + 1) 0 rfl (ansCs e a b h n k) _ rb Try.underlying37 rfl (by kernel_rfl) ?_)
          | (refine wpList_neq_flat rfl 37 _ _ _ rfl (xs := ansCs e a b h n k) (ys := ansCs e 0 0 0 0 0) rfl rfl 10 (by omega) (ks := ansKs) (by kernel_rfl) rfl (by kernel_rfl) Try.underlying37 rfl (by kernel_rfl) (fits_ans _ _ _ _ _ _) (fits_ans _ _ _ _ _ _) ?_; rw [EQ.out])
          | (go_at_call 26; refine (refs_any 1 ⟨by omega, by omega⟩ _).mono ?_; rintro r w3 ⟨bl, rfl, hR, hb⟩; rw [show refSlice 1 bl = .slice (some ⟨bl, 0, none⟩) 2 2 from rfl]))
        have hI3 : Below w.heap.size w w3 := hw.trans (hb.mono hw.size)
        replace hI := hI.on hb
        have cC : w3.cell? ⟨w.heap.size + 1, 0, none⟩ = some (.int .i64 e) := hI.b.cell 0
        have hR := hR (by decide)
        have s0 : w3.cell? ⟨bl, 0, none⟩ = some (.int .i64 6) := hR.cell 0
        have s1 : w3.cell? ⟨bl, 1, none⟩ = some (.int .i64 13) := hR.cell 1
        clear hR hb cA cB0 rb hw hI
        refine wp_loop_rounds 3 ?_
        rw [rounds_succ]
        go_upto_region 31 with (fail)
        go_quiet (fail)
        go_wp2
        rw [rounds_succ]
        go_upto_region 31 with (fail)
        go_quiet (fail)
        go_wp2
        rw [rounds_succ]
        go_wp2
        go_ret
        exact ⟨by rw [N.out]; rfl, by repeat (first | with_reducible exact hI3 | with_reducible refine below_many ?_ _)⟩

set_option maxHeartbeats 1000000 in
theorem rferr_2 (level key ca cb ch reg e a b h n k : Int) (he : e ≠ 0) (hm : mayB 2 level reg = true) (w : World) : Calls Try.prog 16 #[.agg (callCs 2 level key ca cb ch reg), .agg (ansCs e a b h n k)] w fun r w' =>
    r = .returned (.bool (cleanB 2 e a b h n k && (e == 12 || refusedB 2 e))) ∧ Below w.heap.size w w' := by
  have M := Lib.hid hm
  clear hm
  have hd : sames (ansCs e a b h n k).toList (ansCs e 0 0 0 0 0).toList = cleanB 2 e a b h n k := by rw [cleanB, toldCs, if_neg he]
  have e0 : (e == 0) = false := beq_eq_false_iff_ne.2 he
  clear he
  generalize cleanB 2 e a b h n k = d at hd ⊢
  have EQ := Lib.hid hd
  clear hd
  cases d with
  | false =>
    go_enter Try.func16, Try.ntmps16
    go_upto_region 1 with (fail)
    have hI := Inv2.new (callCs 2 level key ca cb ch reg) (ansCs e a b h n k) w
    generalize (w.alloc (.cells (callCs 2 level key ca cb ch reg) 26)).alloc (.cells (ansCs e a b h n k) 37) = w0 at hI ⊢
    have r0 := hI.ra
    go_upto_region 3 with (first
      | (refine wpList_load_arg rfl 26 _ rfl w.heap.size 0 rfl _ _ r0 Try.underlying26 rfl (by kernel_rfl) ?_)
      | (go_at_call 9; refine (refMay_any 2 level key ca cb ch reg _).mono ?_; rintro r w1 ⟨rfl, hb⟩; rw [M.out]))
    replace hI := hI.on hb
    clear hb r0
    have rb := hI.rb
    go_upto_region 4 with (first
      | (refine wpList_load_arg rfl 37 _ rfl (w.heap.size + 1) 0 rfl _ _ rb Try.underlying37 rfl (by kernel_rfl) ?_)
      | (refine wpList_store_whole rfl 37 _ _ rfl w1.heap.size (ansCs 0 0 0 0 0 0) (ansCs e a b h n k) 37 rfl rfl Blk.new rfl (by kernel_rfl) (by kernel_rfl) ?_; intro w2 hx ho))
    have hne : w.heap.size + 1 < w1.heap.size := hI.b.lt
    have hA : Blk w2 w.heap.size (callCs 2 level key ca cb ch reg) 26 := (hI.a.alloc _).only ho (by omega)
    have hB : Blk w2 (w.heap.size + 1) (ansCs e a b h n k) 37 := (hI.b.alloc _).only ho (by omega)
    have hw : Below w.heap.size w w2 := ho.below (by omega) (hI.below.alloc (by omega) _)
    clear hI rb ho hx
    have hI : Inv2 (callCs 2 level key ca cb ch reg) (ansCs e a b h n k) w w2 := ⟨hA, hB, hw⟩
    have rb := hI.rb
    have cA : w2.cell? ⟨w.heap.size, 0, none⟩ = some (.int .i64 2) := hA.cell 0
    have cB0 : w2.cell? ⟨w.heap.size + 1, 0, none⟩ = some (.int .i64 e) := hB.cell 0
    clear hA hB
    go_wp2_with (first
      | (refine wpList_load_arg rfl 37 _ rfl (w.heap.size + 1) 0 rfl (ansCs e a b h n k) _ rb Try.underlying37 rfl (by kernel_rfl) ?_)
      | (refine wpList_neq_flat rfl 37 _ _ _ rfl (xs := ansCs e a b h n k) (ys := ansCs e 0 0 0 0 0) rfl rfl 10 (by omega) (ks := ansKs) (by kernel_rfl) rfl (by kernel_rfl) Try.underlying37 rfl (by kernel_rfl) (fits_ans _ _ _ _ _ _) (fits_ans _ _ _ _ _ _) ?_; rw [EQ.out]))
    go_ret
    exact ⟨rfl, hw⟩
  | true =>
    cases g0 : (6 == e) with
    | true =>
      have f0 : e = 6 := (eq_of_beq g0).symm
      have N : Hid ((true && (e == 12 || refusedB 2 e)) = true) := by show _ = _; rw [f0]; rfl
      clear f0
      go_enter Try.func16, Try.ntmps16
      go_upto_region 1 with (fail)
      have hI := Inv2.new (callCs 2 level key ca cb ch reg) (ansCs e a b h n k) w
      generalize (w.alloc (.cells (callCs 2 level key ca cb ch reg) 26)).alloc (.cells (ansCs e a b h n k) 37) = w0 at hI ⊢
      have r0 := hI.ra
      go_upto_region 3 with (first
        | (refine wpList_load_arg rfl 26 _ rfl w.heap.size 0 rfl _ _ r0 Try.underlying26 rfl (by kernel_rfl) ?_)
        | (go_at_call 9; refine (refMay_any 2 level key ca cb ch reg _).mono ?_; rintro r w1 ⟨rfl, hb⟩; rw [M.out]))
      replace hI := hI.on hb
      clear hb r0
      have rb := hI.rb
      go_upto_region 4 with (first
        | (refine wpList_load_arg rfl 37 _ rfl (w.heap.size + 1) 0 rfl _ _ rb Try.underlying37 rfl (by kernel_rfl) ?_)
        | (refine wpList_store_whole rfl 37 _ _ rfl w1.heap.size (ansCs 0 0 0 0 0 0) (ansCs e a b h n k) 37 rfl rfl Blk.new rfl (by kernel_rfl) (by kernel_rfl) ?_; intro w2 hx ho))
      have hne : w.heap.size + 1 < w1.heap.size := hI.b.lt
      have hA : Blk w2 w.heap.size (callCs 2 level key ca cb ch reg) 26 := (hI.a.alloc _).only ho (by omega)
      have hB : Blk w2 (w.heap.size + 1) (ansCs e a b h n k) 37 := (hI.b.alloc _).only ho (by omega)
      have hw : Below w.heap.size w w2 := ho.below (by omega) (hI.below.alloc (by omega) _)
      clear hI rb ho hx
      have hI : Inv2 (callCs 2 level key ca cb ch reg) (ansCs e a b h n k) w w2 := ⟨hA, hB, hw⟩
      have rb := hI.rb
      have cA : w2.cell? ⟨w.heap.size, 0, none⟩ = some (.int .i64 2) := hA.cell 0
      have cB0 : w2.cell? ⟨w.heap.size + 1, 0, none⟩ = some (.int .i64 e) := hB.cell 0
      clear hA hB
      go_wp2_with (first
        | (refine wpList_load_arg rfl 37 _ rfl (w.heap.size + 1) 0 rfl (ansCs e a b h n k) _ rb Try.underlying37 rfl (by kernel_rfl) ?_)
        | (refine wpList_neq_flat rfl 37 _ _ _ rfl (xs := ansCs e a b h n k) (ys := ansCs e 0 0 0 0 0) rfl rfl 10 (by omega) (ks := ansKs) (by kernel_rfl) rfl (by kernel_rfl) Try.underlying37 rfl (by kernel_rfl) (fits_ans _ _ _ _ _ _) (fits_ans _ _ _ _ _ _) ?_; rw [EQ.out])
        | (go_at_call 26; refine (refs_any 2 ⟨by omega, by omega⟩ _).mono ?_; rintro r w3 ⟨bl, rfl, hR, hb⟩; rw [show refSlice 2 bl = .slice (some ⟨bl, 0, none⟩) 2 2 from rfl]))
      have hI3 : Below w.heap.size w w3 := hw.trans (hb.mono hw.size)
      replace hI := hI.on hb
      have cC : w3.cell? ⟨w.heap.size + 1, 0, none⟩ = some (.int .i64 e) := hI.b.cell 0
      have hR := hR (by decide)
      have s0 : w3.cell? ⟨bl, 0, none⟩ = some (.int .i64 6) := hR.cell 0
      have s1 : w3.cell? ⟨bl, 1, none⟩ = some (.int .i64 9) := hR.cell 1
      clear hR hb cA cB0 rb hw hI
      refine wp_loop_rounds 3 ?_
      rw [rounds_succ]
      go_upto_region 31 with (fail)
      go_quiet (fail)
      go_wp2
      go_ret
      exact ⟨by rw [N.out]; rfl, by repeat (first | with_reducible exact hI3 | with_reducible refine below_many ?_ _)⟩
    | false =>
      cases g1 : (9 == e) with
      | true =>
        have f1 : e = 9 := (eq_of_beq g1).symm
        have N : Hid ((true && (e == 12 || refusedB 2 e)) = true) := by show _ = _; rw [f1]; rfl
        clear f1
        go_enter Try.func16, Try.ntmps16
        go_upto_region 1 with (fail)
        have hI := Inv2.new (callCs 2 level key ca cb ch reg) (ansCs e a b h n k) w
        generalize (w.alloc (.cells (callCs 2 level key ca cb ch reg) 26)).alloc (.cells (ansCs e a b h n k) 37) = w0 at hI ⊢
        have r0 := hI.ra
        go_upto_region 3 with (first
          | (refine wpList_load_arg rfl 26 _ rfl w.heap.size 0 rfl _ _ r0 Try.underlying26 rfl (by kernel_rfl) ?_)
          | (go_at_call 9; refine (refMay_any 2 level key ca cb ch reg _).mono ?_; rintro r w1 ⟨rfl, hb⟩; rw [M.out]))
        replace hI := hI.on hb
        clear hb r0
        have rb := hI.rb
        go_upto_region 4 with (first
          | (refine wpList_load_arg rfl 37 _ rfl (w.heap.size + 1) 0 rfl _ _ rb Try.underlying37 rfl (by kernel_rfl) ?_)
          | (refine wpList_store_whole rfl 37 _ _ rfl w1.heap.size (ansCs 0 0 0 0 0 0) (ansCs e a b h n k) 37 rfl rfl Blk.new rfl (by kernel_rfl) (by kernel_rfl) ?_; intro w2 hx ho))
        have hne : w.heap.size + 1 < w1.heap.size := hI.b.lt
        have hA : Blk w2 w.heap.size (callCs 2 level key ca cb ch reg) 26 := (hI.a.alloc _).only ho (by omega)
        have hB : Blk w2 (w.heap.size + 1) (ansCs e a b h n k) 37 := (hI.b.alloc _).only ho (by omega)
        have hw : Below w.heap.size w w2 := ho.below (by omega) (hI.below.alloc (by omega) _)
        clear hI rb ho hx
        have hI : Inv2 (callCs 2 level key ca cb ch reg) (ansCs e a b h n k) w w2 := ⟨hA, hB, hw⟩
        have rb := hI.rb
        have cA : w2.cell? ⟨w.heap.size, 0, none⟩ = some (.int .i64 2) := hA.cell 0
        have cB0 : w2.cell? ⟨w.heap.size + 1, 0, none⟩ = some (.int .i64 e) := hB.cell 0
        clear hA hB
        go_wp2_with (first
          | (refine wpList_load_arg rfl 37 _ rfl (w.heap.size + 1) 0 rfl (ansCs e a b h n k) _ rb Try.underlying37 rfl (by kernel_rfl) ?_)
          | (refine wpList_neq_flat rfl 37 _ _ _ rfl (xs := ansCs e a b h n k) (ys := ansCs e 0 0 0 0 0) rfl rfl 10 (by omega) (ks := ansKs) (by kernel_rfl) rfl (by kernel_rfl) Try.underlying37 rfl (by kernel_rfl) (fits_ans _ _ _ _ _ _) (fits_ans _ _ _ _ _ _) ?_; rw [EQ.out])
          | (go_at_call 26; refine (refs_any 2 ⟨by omega, by omega⟩ _).mono ?_; rintro r w3 ⟨bl, rfl, hR, hb⟩; rw [show refSlice 2 bl = .slice (some ⟨bl, 0, none⟩) 2 2 from rfl]))
        have hI3 : Below w.heap.size w w3 := hw.trans (hb.mono hw.size)
        replace hI := hI.on hb
        have cC : w3.cell? ⟨w.heap.size + 1, 0, none⟩ = some (.int .i64 e) := hI.b.cell 0
        have hR := hR (by decide)
        have s0 : w3.cell? ⟨bl, 0, none⟩ = some (.int .i64 6) := hR.cell 0
        have s1 : w3.cell? ⟨bl, 1, none⟩ = some (.int .i64 9) := hR.cell 1
        clear hR hb cA cB0 rb hw hI
        refine wp_loop_rounds 3 ?_
        rw [rounds_succ]
        go_upto_region 31 with (fail)
        go_quiet (fail)
        go_wp2
        rw [rounds_succ]
        go_upto_region 31 with (fail)
        go_quiet (fail)
        go_wp2
        go_ret
        exact ⟨by rw [N.out]; rfl, by repeat (first | with_reducible exact hI3 | with_reducible refine below_many ?_ _)⟩
      | false =>
        have N : Hid ((true && (e == 12 || refusedB 2 e)) = (e == 12)) := by
          show _ = _
          have f0 : (e == 6) = false := by rw [beq_eq_false_iff_ne] at g0 ⊢; exact fun h => g0 h.symm
          have f1 : (e == 9) = false := by rw [beq_eq_false_iff_ne] at g1 ⊢; exact fun h => g1 h.symm
          simp [refusedB, f0, f1]
        go_enter Try.func16, Try.ntmps16
        go_upto_region 1 with (fail)
        have hI := Inv2.new (callCs 2 level key ca cb ch reg) (ansCs e a b h n k) w
        generalize (w.alloc (.cells (callCs 2 level key ca cb ch reg) 26)).alloc (.cells (ansCs e a b h n k) 37) = w0 at hI ⊢
        have r0 := hI.ra
        go_upto_region 3 with (first
          | (refine wpList_load_arg rfl 26 _ rfl w.heap.size 0 rfl _ _ r0 Try.underlying26 rfl (by kernel_rfl) ?_)
          | (go_at_call 9; refine (refMay_any 2 level key ca cb ch reg _).mono ?_; rintro r w1 ⟨rfl, hb⟩; rw [M.out]))
        replace hI := hI.on hb
        clear hb r0
        have rb := hI.rb
        go_upto_region 4 with (first
          | (refine wpList_load_arg rfl 37 _ rfl (w.heap.size + 1) 0 rfl _ _ rb Try.underlying37 rfl (by kernel_rfl) ?_)
          | (refine wpList_store_whole rfl 37 _ _ rfl w1.heap.size (ansCs 0 0 0 0 0 0) (ansCs e a b h n k) 37 rfl rfl Blk.new rfl (by kernel_rfl) (by kernel_rfl) ?_; intro w2 hx ho))
        have hne : w.heap.size + 1 < w1.heap.size := hI.b.lt
        have hA : Blk w2 w.heap.size (callCs 2 level key ca cb ch reg) 26 := (hI.a.alloc _).only ho (by omega)
        have hB : Blk w2 (w.heap.size + 1) (ansCs e a b h n k) 37 := (hI.b.alloc _).only ho (by omega)
        have hw : Below w.heap.size w w2 := ho.below (by omega) (hI.below.alloc (by omega) _)
        clear hI rb ho hx
        have hI : Inv2 (callCs 2 level key ca cb ch reg) (ansCs e a b h n k) w w2 := ⟨hA, hB, hw⟩
        have rb := hI.rb
        have cA : w2.cell? ⟨w.heap.size, 0, none⟩ = some (.int .i64 2) := hA.cell 0
        have cB0 : w2.cell? ⟨w.heap.size + 1, 0, none⟩ = some (.int .i64 e) := hB.cell 0
        clear hA hB
        go_wp2_with (first
          | (refine wpList_load_arg rfl 37 _ rfl (w.heap.size + 1) 0 rfl (ansCs e a b h n k) _ rb Try.underlying37 rfl (by kernel_rfl) ?_)
          | (refine wpList_neq_flat rfl 37 _ _ _ rfl (xs := ansCs e a b h n k) (ys := ansCs e 0 0 0 0 0) rfl rfl 10 (by omega) (ks := ansKs) (by kernel_rfl) rfl (by kernel_rfl) Try.underlying37 rfl (by kernel_rfl) (fits_ans _ _ _ _ _ _) (fits_ans _ _ _ _ _ _) ?_; rw [EQ.out])
          | (go_at_call 26; refine (refs_any 2 ⟨by omega, by omega⟩ _).mono ?_; rintro r w3 ⟨bl, rfl, hR, hb⟩; rw [show refSlice 2 bl = .slice (some ⟨bl, 0, none⟩) 2 2 from rfl]))
        have hI3 : Below w.heap.size w w3 := hw.trans (hb.mono hw.size)
        replace hI := hI.on hb
        have cC : w3.cell? ⟨w.heap.size + 1, 0, none⟩ = some (.int .i64 e) := hI.b.cell 0
        have hR := hR (by decide)
        have s0 : w3.cell? ⟨bl, 0, none⟩ = some (.int .i64 6) := hR.cell 0
        have s1 : w3.cell? ⟨bl, 1, none⟩ = some (.int .i64 9) := hR.cell 1
        clear hR hb cA cB0 rb hw hI
        refine wp_loop_rounds 3 ?_
        rw [rounds_succ]
        go_upto_region 31 with (fail)
        go_quiet (fail)
        go_wp2
        rw [rounds_succ]
        go_upto_region 31 with (fail)
        go_quiet (fail)
        go_wp2
        rw [rounds_succ]
        go_wp2
        go_ret
        exact ⟨by rw [N.out]; rfl, by repeat (first | with_reducible exact hI3 | with_reducible refine below_many ?_ _)⟩

set_option maxHeartbeats 1000000 in
theorem rferr_3 (level key ca cb ch reg e a b h n k : Int) (he : e ≠ 0) (hm : mayB 3 level reg = true) (w : World) : Calls Try.prog 16 #[.agg (callCs 3 level key ca cb ch reg), .agg (ansCs e a b h n k)] w fun r w' =>
    r = .returned (.bool (cleanB 3 e a b h n k && (e == 12 || refusedB 3 e))) ∧ Below w.heap.size w w' := by
  have M := Lib.hid hm
  clear hm
  have hd : sames (ansCs e a b h n k).toList (ansCs e 0 0 0 0 0).toList = cleanB 3 e a b h n k := by rw [cleanB, toldCs, if_neg he]
  have e0 : (e == 0) = false := beq_eq_false_iff_ne.2 he
  clear he
  generalize cleanB 3 e a b h n k = d at hd ⊢
  have EQ := Lib.hid hd
  clear hd
  cases d with
  | false =>
    go_enter Try.func16, Try.ntmps16
    go_upto_region 1 with (fail)
    have hI := Inv2.new (callCs 3 level key ca cb ch reg) (ansCs e a b h n k) w
    generalize (w.alloc (.cells (callCs 3 level key ca cb ch reg) 26)).alloc (.cells (ansCs e a b h n k) 37) = w0 at hI ⊢
    have r0 := hI.ra
    go_upto_region 3 with (first
      | (refine wpList_load_arg rfl 26 _ rfl w.heap.size 0 rfl _ _ r0 Try.underlying26 rfl (by kernel_rfl) ?_)
      | (go_at_call 9; refine (refMay_any 3 level key ca cb ch reg _).mono ?_; rintro r w1 ⟨rfl, hb⟩; rw [M.out]))
    replace hI := hI.on hb
    clear hb r0
    have rb := hI.rb
    go_upto_region 4 with (first
      | (refine wpList_load_arg rfl 37 _ rfl (w.heap.size + 1) 0 rfl _ _ rb Try.underlying37 rfl (by kernel_rfl) ?_)
      | (refine wpList_store_whole rfl 37 _ _ rfl w1.heap.size (ansCs 0 0 0 0 0 0) (ansCs e a b h n k) 37 rfl rfl Blk.new rfl (by kernel_rfl) (by kernel_rfl) ?_; intro w2 hx ho))
    have hne : w.heap.size + 1 < w1.heap.size := hI.b.lt
    have hA : Blk w2 w.heap.size (callCs 3 level key ca cb ch reg) 26 := (hI.a.alloc _).only ho (by omega)
    have hB : Blk w2 (w.heap.size + 1) (ansCs e a b h n k) 37 := (hI.b.alloc _).only ho (by omega)
    have hw : Below w.heap.size w w2 := ho.below (by omega) (hI.below.alloc (by omega) _)
    clear hI rb ho hx
    have hI : Inv2 (callCs 3 level key ca cb ch reg) (ansCs e a b h n k) w w2 := ⟨hA, hB, hw⟩
    have rb := hI.rb
    have cA : w2.cell? ⟨w.heap.size, 0, none⟩ = some (.int .i64 3) := hA.cell 0
    have cB0 : w2.cell? ⟨w.heap.size + 1, 0, none⟩ = some (.int .i64 e) := hB.cell 0
    clear hA hB
    go_wp2_with (first
      | (refine wpList_load_arg rfl 37 _ rfl (w.heap.size + 1) 0 rfl (ansCs e a b h n k) _ rb Try.underlying37 rfl (by kernel_rfl) ?_)
      | (refine wpList_neq_flat rfl 37 _ _ _ rfl (xs := ansCs e a b h n k) (ys := ansCs e 0 0 0 0 0) rfl rfl 10 (by omega) (ks := ansKs) (by kernel_rfl) rfl (by kernel_rfl) Try.underlying37 rfl (by kernel_rfl) (fits_ans _ _ _ _ _ _) (fits_ans _ _ _ _ _ _) ?_; rw [EQ.out]))
    go_ret
    exact ⟨rfl, hw⟩
  | true =>
    cases g0 : (8 == e) with
    | true =>
      have f0 : e = 8 := (eq_of_beq g0).symm
      have N : Hid ((true && (e == 12 || refusedB 3 e)) = true) := by show _ = _; rw [f0]; rfl
      clear f0
      go_enter Try.func16, Try.ntmps16
      go_upto_region 1 with (fail)
      have hI := Inv2.new (callCs 3 level key ca cb ch reg) (ansCs e a b h n k) w
      generalize (w.alloc (.cells (callCs 3 level key ca cb ch reg) 26)).alloc (.cells (ansCs e a b h n k) 37) = w0 at hI ⊢
      have r0 := hI.ra
      go_upto_region 3 with (first
        | (refine wpList_load_arg rfl 26 _ rfl w.heap.size 0 rfl _ _ r0 Try.underlying26 rfl (by kernel_rfl) ?_)
        | (go_at_call 9; refine (refMay_any 3 level key ca cb ch reg _).mono ?_; rintro r w1 ⟨rfl, hb⟩; rw [M.out]))
      replace hI := hI.on hb
      clear hb r0
      have rb := hI.rb
      go_upto_region 4 with (first
        | (refine wpList_load_arg rfl 37 _ rfl (w.heap.size + 1) 0 rfl _ _ rb Try.underlying37 rfl (by kernel_rfl) ?_)
        | (refine wpList_store_whole rfl 37 _ _ rfl w1.heap.size (ansCs 0 0 0 0 0 0) (ansCs e a b h n k) 37 rfl rfl Blk.new rfl (by kernel_rfl) (by kernel_rfl) ?_; intro w2 hx ho))
      have hne : w.heap.size + 1 < w1.heap.size := hI.b.lt
      have hA : Blk w2 w.heap.size (callCs 3 level key ca cb ch reg) 26 := (hI.a.alloc _).only ho (by omega)
      have hB : Blk w2 (w.heap.size + 1) (ansCs e a b h n k) 37 := (hI.b.alloc _).only ho (by omega)
      have hw : Below w.heap.size w w2 := ho.below (by omega) (hI.below.alloc (by omega) _)
      clear hI rb ho hx
      have hI : Inv2 (callCs 3 level key ca cb ch reg) (ansCs e a b h n k) w w2 := ⟨hA, hB, hw⟩
      have rb := hI.rb
      have cA : w2.cell? ⟨w.heap.size, 0, none⟩ = some (.int .i64 3) := hA.cell 0
      have cB0 : w2.cell? ⟨w.heap.size + 1, 0, none⟩ = some (.int .i64 e) := hB.cell 0
      clear hA hB
      go_wp2_with (first
        | (refine wpList_load_arg rfl 37 _ rfl (w.heap.size + 1) 0 rfl (ansCs e a b h n k) _ rb Try.underlying37 rfl (by kernel_rfl) ?_)
        | (refine wpList_neq_flat rfl 37 _ _ _ rfl (xs := ansCs e a b h n k) (ys := ansCs e 0 0 0 0 0) rfl rfl 10 (by omega) (ks := ansKs) (by kernel_rfl) rfl (by kernel_rfl) Try.underlying37 rfl (by kernel_rfl) (fits_ans _ _ _ _ _ _) (fits_ans _ _ _ _ _ _) ?_; rw [EQ.out])
        | (go_at_call 26; refine (refs_any 3 ⟨by omega, by omega⟩ _).mono ?_; rintro r w3 ⟨bl, rfl, hR, hb⟩; rw [show refSlice 3 bl = .slice (some ⟨bl, 0, none⟩) 2 2 from rfl]))
      have hI3 : Below w.heap.size w w3 := hw.trans (hb.mono hw.size)
      replace hI := hI.on hb
      have cC : w3.cell? ⟨w.heap.size + 1, 0, none⟩ = some (.int .i64 e) := hI.b.cell 0
      have hR := hR (by decide)
      have s0 : w3.cell? ⟨bl, 0, none⟩ = some (.int .i64 8) := hR.cell 0
      have s1 : w3.cell? ⟨bl, 1, none⟩ = some (.int .i64 9) := hR.cell 1
      clear hR hb cA cB0 rb hw hI
      refine wp_loop_rounds 3 ?_
      rw [rounds_succ]
      go_upto_region 31 with (fail)
      go_quiet (fail)
      go_wp2
      go_ret
      exact ⟨by rw [N.out]; rfl, by repeat (first | with_reducible exact hI3 | with_reducible refine below_many ?_ _)⟩
    | false =>
      cases g1 : (9 == e) with
      | true =>
        have f1 : e = 9 := (eq_of_beq g1).symm
        have N : Hid ((true && (e == 12 || refusedB 3 e)) = true) := by show _ = _; rw [f1]; rfl
        clear f1
        go_enter Try.func16, Try.ntmps16
        go_upto_region 1 with (fail)
        have hI := Inv2.new (callCs 3 level key ca cb ch reg) (ansCs e a b h n k) w
        generalize (w.alloc (.cells (callCs 3 level key ca cb ch reg) 26)).alloc (.cells (ansCs e a b h n k) 37) = w0 at hI ⊢
        have r0 := hI.ra
        go_upto_region 3 with (first
          | (refine wpList_load_arg rfl 26 _ rfl w.heap.size 0 rfl _ _ r0 Try.underlying26 rfl (by kernel_rfl) ?_)
          | (go_at_call 9; refine (refMay_any 3 level key ca cb ch reg _).mono ?_; rintro r w1 ⟨rfl, hb⟩; rw [M.out]))
        replace hI := hI.on hb
        clear hb r0
        have rb := hI.rb
        go_upto_region 4 with (first
          | (refine wpList_load_arg rfl 37 _ rfl (w.heap.size + 1) 0 rfl _ _ rb Try.underlying37 rfl (by kernel_rfl) ?_)
          | (refine wpList_store_whole rfl 37 _ _ rfl w1.heap.size (ansCs 0 0 0 0 0 0) (ansCs e a b h n k) 37 rfl rfl Blk.new rfl (by kernel_rfl) (by kernel_rfl) ?_; intro w2 hx ho))
        have hne : w.heap.size + 1 < w1.heap.size := hI.b.lt
        have hA : Blk w2 w.heap.size (callCs 3 level key ca cb ch reg) 26 := (hI.a.alloc _).only ho (by omega)
        have hB : Blk w2 (w.heap.size + 1) (ansCs e a b h n k) 37 := (hI.b.alloc _).only ho (by omega)
        have hw : Below w.heap.size w w2 := ho.below (by omega) (hI.below.alloc (by omega) _)
        clear hI rb ho hx
        have hI : Inv2 (callCs 3 level key ca cb ch reg) (ansCs e a b h n k) w w2 := ⟨hA, hB, hw⟩
        have rb := hI.rb
        have cA : w2.cell? ⟨w.heap.size, 0, none⟩ = some (.int .i64 3) := hA.cell 0
        have cB0 : w2.cell? ⟨w.heap.size + 1, 0, none⟩ = some (.int .i64 e) := hB.cell 0
        clear hA hB
        go_wp2_with (first
          | (refine wpList_load_arg rfl 37 _ rfl (w.heap.size + 1) 0 rfl (ansCs e a b h n k) _ rb Try.underlying37 rfl (by kernel_rfl) ?_)
          | (refine wpList_neq_flat rfl 37 _ _ _ rfl (xs := ansCs e a b h n k) (ys := ansCs e 0 0 0 0 0) rfl rfl 10 (by omega) (ks := ansKs) (by kernel_rfl) rfl (by kernel_rfl) Try.underlying37 rfl (by kernel_rfl) (fits_ans _ _ _ _ _ _) (fits_ans _ _ _ _ _ _) ?_; rw [EQ.out])
          | (go_at_call 26; refine (refs_any 3 ⟨by omega, by omega⟩ _).mono ?_; rintro r w3 ⟨bl, rfl, hR, hb⟩; rw [show refSlice 3 bl = .slice (some ⟨bl, 0, none⟩) 2 2 from rfl]))
        have hI3 : Below w.heap.size w w3 := hw.trans (hb.mono hw.size)
        replace hI := hI.on hb
        have cC : w3.cell? ⟨w.heap.size + 1, 0, none⟩ = some (.int .i64 e) := hI.b.cell 0
        have hR := hR (by decide)
        have s0 : w3.cell? ⟨bl, 0, none⟩ = some (.int .i64 8) := hR.cell 0
        have s1 : w3.cell? ⟨bl, 1, none⟩ = some (.int .i64 9) := hR.cell 1
        clear hR hb cA cB0 rb hw hI
        refine wp_loop_rounds 3 ?_
        rw [rounds_succ]
        go_upto_region 31 with (fail)
        go_quiet (fail)
        go_wp2
        rw [rounds_succ]
        go_upto_region 31 with (fail)
        go_quiet (fail)
        go_wp2
        go_ret
        exact ⟨by rw [N.out]; rfl, by repeat (first | with_reducible exact hI3 | with_reducible refine below_many ?_ _)⟩
      | false =>
        have N : Hid ((true && (e == 12 || refusedB 3 e)) = (e == 12)) := by
          show _ = _
          have f0 : (e == 8) = false := by rw [beq_eq_false_iff_ne] at g0 ⊢; exact fun h => g0 h.symm
          have f1 : (e == 9) = false := by rw [beq_eq_false_iff_ne] at g1 ⊢; exact fun h => g1 h.symm
          simp [refusedB, f0, f1]
        go_enter Try.func16, Try.ntmps16
        go_upto_region 1 with (fail)
        have hI := Inv2.new (callCs 3 level key ca cb ch reg) (ansCs e a b h n k) w
        generalize (w.alloc (.cells (callCs 3 level key ca cb ch reg) 26)).alloc (.cells (ansCs e a b h n k) 37) = w0 at hI ⊢
        have r0 := hI.ra
        go_upto_region 3 with (first
          | (refine wpList_load_arg rfl 26 _ rfl w.heap.size 0 rfl _ _ r0 Try.underlying26 rfl (by kernel_rfl) ?_)
          | (go_at_call 9; refine (refMay_any 3 level key ca cb ch reg _).mono ?_; rintro r w1 ⟨rfl, hb⟩; rw [M.out]))
        replace hI := hI.on hb
        clear hb r0
        have rb := hI.rb
        go_upto_region 4 with (first
          | (refine wpList_load_arg rfl 37 _ rfl (w.heap.size + 1) 0 rfl _ _ rb Try.underlying37 rfl (by kernel_rfl) ?_)
          | (refine wpList_store_whole rfl 37 _ _ rfl w1.heap.size (ansCs 0 0 0 0 0 0) (ansCs e a b h n k) 37 rfl rfl Blk.new rfl (by kernel_rfl) (by kernel_rfl) ?_; intro w2 hx ho))
        have hne : w.heap.size + 1 < w1.heap.size := hI.b.lt
        have hA : Blk w2 w.heap.size (callCs 3 level key ca cb ch reg) 26 := (hI.a.alloc _).only ho (by omega)
        have hB : Blk w2 (w.heap.size + 1) (ansCs e a b h n k) 37 := (hI.b.alloc _).only ho (by omega)
        have hw : Below w.heap.size w w2 := ho.below (by omega) (hI.below.alloc (by omega) _)
        clear hI rb ho hx
        have hI : Inv2 (callCs 3 level key ca cb ch reg) (ansCs e a b h n k) w w2 := ⟨hA, hB, hw⟩
        have rb := hI.rb
        have cA : w2.cell? ⟨w.heap.size, 0, none⟩ = some (.int .i64 3) := hA.cell 0
        have cB0 : w2.cell? ⟨w.heap.size + 1, 0, none⟩ = some (.int .i64 e) := hB.cell 0
        clear hA hB
        go_wp2_with (first
          | (refine wpList_load_arg rfl 37 _ rfl (w.heap.size + 1) 0 rfl (ansCs e a b h n k) _ rb Try.underlying37 rfl (by kernel_rfl) ?_)
          | (refine wpList_neq_flat rfl 37 _ _ _ rfl (xs := ansCs e a b h n k) (ys := ansCs e 0 0 0 0 0) rfl rfl 10 (by omega) (ks := ansKs) (by kernel_rfl) rfl (by kernel_rfl) Try.underlying37 rfl (by kernel_rfl) (fits_ans _ _ _ _ _ _) (fits_ans _ _ _ _ _ _) ?_; rw [EQ.out])
          | (go_at_call 26; refine (refs_any 3 ⟨by omega, by omega⟩ _).mono ?_; rintro r w3 ⟨bl, rfl, hR, hb⟩; rw [show refSlice 3 bl = .slice (some ⟨bl, 0, none⟩) 2 2 from rfl]))
        have hI3 : Below w.heap.size w w3 := hw.trans (hb.mono hw.size)
        replace hI := hI.on hb
        have cC : w3.cell? ⟨w.heap.size + 1, 0, none⟩ = some (.int .i64 e) := hI.b.cell 0
        have hR := hR (by decide)
        have s0 : w3.cell? ⟨bl, 0, none⟩ = some (.int .i64 8) := hR.cell 0
        have s1 : w3.cell? ⟨bl, 1, none⟩ = some (.int .i64 9) := hR.cell 1
        clear hR hb cA cB0 rb hw hI
        refine wp_loop_rounds 3 ?_
        rw [rounds_succ]
        go_upto_region 31 with (fail)
        go_quiet (fail)
        go_wp2
        rw [rounds_succ]
        go_upto_region 31 with (fail)
        go_quiet (fail)
        go_wp2
        rw [rounds_succ]
        go_wp2
        go_ret
        exact ⟨by rw [N.out]; rfl, by repeat (first | with_reducible exact hI3 | with_reducible refine below_many ?_ _)⟩

end Go.Proofs.Ytefgeeckfofkfaa
