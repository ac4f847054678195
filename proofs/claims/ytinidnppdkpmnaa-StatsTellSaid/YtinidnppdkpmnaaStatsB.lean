/- Walks of the document's answer for stats: both together, and all calls and answers. -/
import Derived.Test.YtinidnppdkpmnaaStatsA
namespace Go.Proofs.Ytinidnppdkpmnaa
open Go.RowKit

set_option maxHeartbeats 400000 in
theorem sum_any (c : Nat → Int) (w : World) (hc : Small c) :
    Calls Try.prog 7 #[.agg (ints .i64 33 c)] w fun e w' => e = .returned (.tuple #[.int .i64 (sumFrom c 0 13), .int .i64 (sumFrom c 13 16)]) ∧ w' = w.alloc (.cells (ints .i64 33 c) 32) := by
  have Hc : Hid _ := Lib.hid hc
  clear hc
  go_enter Try.func7, Try.ntmps7
  go_wp2
  go_loop [4, 6] (fun s i => ∃ k : Nat, k ≤ 13 ∧ i = .int .i64 k ∧ s = .int .i64 (sumFrom c 0 k)) (fun _ i => 13 - (intOf i).toNat)
  case atStart => exact ⟨0, by omega, rfl, rfl⟩
  case round =>
    obtain ⟨k, hk, rfl, rfl⟩ := hrel
    by_cases hlt : k < 13
    · have hcell : (ints .i64 33 c)[k]? = some (.int .i64 (c k)) := ints_get (by omega)
      obtain ⟨b1, b1'⟩ := Hc.out k (by omega)
      obtain ⟨b2, b2'⟩ := Hc.out.sum 0 k (by omega)
      go_wp2
      go_round
      case rel => exact ⟨k + 1, by omega, by go_num, by simp [sumFrom]⟩
      case measure => simp [intOf]; omega
    · obtain rfl : k = 13 := by omega
      go_wp2
      go_loop [5, 7] (fun s i => ∃ k : Nat, k ≤ 16 ∧ i = .int .i64 k ∧ s = .int .i64 (sumFrom c 13 k)) (fun _ i => 16 - (intOf i).toNat)
      case atStart => exact ⟨0, by omega, rfl, rfl⟩
      case round =>
        obtain ⟨k, hk, rfl, rfl⟩ := hrel
        by_cases hlt : k < 16
        · have hcell : (ints .i64 33 c)[13 + k]? = some (.int .i64 (c (13 + k))) := ints_get (by omega)
          obtain ⟨b1, b1'⟩ := Hc.out (13 + k) (by omega)
          obtain ⟨b2, b2'⟩ := Hc.out.sum 13 k (by omega)
          go_wp2
          go_round
          case rel => exact ⟨k + 1, by omega, by go_num, by simp [sumFrom]⟩
          case measure => simp [intOf]; omega
        · obtain rfl : k = 16 := by omega
          go_wp2
          go_ret2
          exact ⟨rfl, rfl⟩

/-- All but the last two numbers. -/
theorem mixed_upd (f g : Nat → Int) (i : Nat) (h : i < 33) : upd (upd (mix f g (13 + 16)) 29 (f 29 + g 29)) 30 (f 30 + g 30) i = mix f g 31 i := by
  rcases (by omega : i < 29 ∨ i = 29 ∨ i = 30 ∨ i = 31 ∨ i = 32) with h | rfl | rfl | rfl | rfl
  · simp [upd, mix, show i ≠ 30 by omega, show i ≠ 29 by omega, h, show i < 31 by omega]
  all_goals simp [upd, mix]
theorem mixed_31 (f g : Nat → Int) (i : Nat) (h : i < 33) : upd (upd (mix f g 31) 31 (max (f 31) (g 31))) 32 (max (f 32) (g 32)) i = bothOf f g i := by
  rcases (by omega : i < 31 ∨ i = 31 ∨ i = 32) with h | rfl | rfl
  · simp [upd, mix, bothOf, show i ≠ 32 by omega, show i ≠ 31 by omega, h]
  all_goals simp [upd, bothOf]
/-- A count that is the greater one as it stands. -/
theorem mixed_keep (f g : Nat → Int) (h : ¬ f 31 < g 31) : ints .i64 33 (mix f g 31) = ints .i64 33 (upd (mix f g 31) 31 (max (f 31) (g 31))) := ints_congr fun i hi => by
  unfold upd
  by_cases e : i = 31
  · subst e; simp only [mix, Nat.lt_irrefl, if_false, if_true]; omega
  · rw [if_neg e]
theorem mixed_keep2 (f g : Nat → Int) (h : ¬ f 32 < g 32) : ints .i64 33 (upd (mix f g 31) 31 (max (f 31) (g 31))) = ints .i64 33 (bothOf f g) := ints_congr fun i hi => by
  rw [← mixed_31 f g i hi]
  unfold upd
  by_cases e : i = 32
  · subst e; simp [mix]; omega
  · rw [if_neg e]

set_option maxHeartbeats 800000 in
theorem refBoth_any (f g : Nat → Int) (w : World) (hf : Small f) (hg : Small g) :
    Calls Try.prog 9 #[.agg (ints .i64 33 f), .agg (ints .i64 33 g)] w fun e w' => e = .returned (.agg (ints .i64 33 (bothOf f g))) ∧ Below w.heap.size w w' := by
  have Hf : Hid _ := Lib.hid hf
  have Hg : Hid _ := Lib.hid hg
  clear hf hg
  go_enter Try.func9, Try.ntmps9
  go_wp2
  rw [← zeros33]
  go_loopw [5] (fun i wr => ∃ k : Nat, k ≤ 13 ∧ i = .int .i64 k ∧ Blk wr w.heap.size (ints .i64 33 (mix f g k)) 32 ∧ Blk wr (w.heap.size + 1) (ints .i64 33 g) 32 ∧ Blk wr (w.heap.size + 1 + 1) (ints .i64 33 fun _ => 0) 32 ∧ Below w.heap.size w wr) (fun i _ => 13 - (intOf i).toNat)
  case atStart =>
    refine ⟨0, by omega, rfl, (Blk.new.alloc _).alloc _, ?_, ?_, ((((Below.refl _ _).alloc (Nat.le_refl _) _).alloc (by simp only [World.size_alloc]; omega) _).alloc (by simp only [World.size_alloc]; omega) _)⟩
    · have := (Blk.new (w := w.alloc (.cells (ints .i64 33 f) 32)) (cs := ints .i64 33 g) (t := 32)).alloc (.cells (ints .i64 33 fun _ => 0) 32)
      simpa using this
    · have := Blk.new (w := (w.alloc (.cells (ints .i64 33 f) 32)).alloc (.cells (ints .i64 33 g) 32)) (cs := ints .i64 33 fun _ => 0) (t := 32)
      simpa using this
  case round =>
    obtain ⟨k, hk, rfl, hA, hB, hC, hw⟩ := hrel
    by_cases hlt : k < 13
    · have ca : wr.cell? ⟨w.heap.size, k, none⟩ = some (.int .i64 (f k)) := by rw [hA.cell, ints_get (by omega)]; simp [mix]
      have fa := hA.free k
      have cb : wr.cell? ⟨w.heap.size + 1, k, none⟩ = some (.int .i64 (g k)) := by rw [hB.cell, ints_get (by omega)]
      obtain ⟨b1, b1'⟩ := Hf.out k (by omega)
      obtain ⟨b2, b2'⟩ := Hg.out k (by omega)
      go_wp2
      go_region
      all_goals
        go_wp2
        go_roundw
        case rel => refine ⟨k + 1, by omega, by go_num, ?_, (hB.other _ (by dsimp only; omega) _).drew, (hC.other _ (by dsimp only; omega) _).drew, (hw.setCell (Nat.le_refl _) _).drew⟩; rw [← mix_upd, ← ints_set]; exact (hA.set _ _).drew
        case measure => simp [intOf]; omega
    · obtain rfl : k = 13 := by omega
      clear hlt hk
      go_wp2
      obtain ⟨ws, rfl⟩ : ∃ ws : World, ws = wr := ⟨_, rfl⟩
      go_loopw [6] (fun i wr => ∃ k : Nat, k ≤ 16 ∧ i = .int .i64 k ∧ Blk wr w.heap.size (ints .i64 33 (mix f g (13 + k))) 32 ∧ Blk wr (w.heap.size + 1) (ints .i64 33 g) 32 ∧ Blk wr (w.heap.size + 1 + 1) (ints .i64 33 fun _ => 0) 32 ∧ Below w.heap.size w wr) (fun i _ => 16 - (intOf i).toNat)
      case atStart => exact ⟨0, by omega, rfl, hA, hB, hC, hw⟩
      case round =>
        clear hA hB hC hw
        obtain ⟨k, hk, rfl, hA, hB, hC, hw⟩ := hrel
        by_cases hlt : k < 16
        · have ca : wr.cell? ⟨w.heap.size, 13 + k, none⟩ = some (.int .i64 (f (13 + k))) := by rw [hA.cell, ints_get (by omega)]; simp [mix]
          have fa := hA.free (13 + k)
          have cb : wr.cell? ⟨w.heap.size + 1, 13 + k, none⟩ = some (.int .i64 (g (13 + k))) := by rw [hB.cell, ints_get (by omega)]
          obtain ⟨b1, b1'⟩ := Hf.out (13 + k) (by omega)
          obtain ⟨b2, b2'⟩ := Hg.out (13 + k) (by omega)
          go_wp2
          go_region
          all_goals
            go_wp2
            go_roundw
            case rel => refine ⟨k + 1, by omega, by go_num, ?_, (hB.other _ (by dsimp only; omega) _).drew, (hC.other _ (by dsimp only; omega) _).drew, (hw.setCell (Nat.le_refl _) _).drew⟩; rw [← Nat.add_assoc, ← mix_upd, ← ints_set]; exact (hA.set _ _).drew
            case measure => simp [intOf]; omega
        · obtain rfl : k = 16 := by omega
          clear hlt hk
          have c29 : wr.cell? ⟨w.heap.size, 29, none⟩ = some (.int .i64 (f 29)) := by rw [hA.cell, ints_get (by omega)]; simp [mix]
          have c30 : wr.cell? ⟨w.heap.size, 30, none⟩ = some (.int .i64 (f 30)) := by rw [hA.cell, ints_get (by omega)]; simp [mix]
          have d29 : wr.cell? ⟨w.heap.size + 1, 29, none⟩ = some (.int .i64 (g 29)) := by rw [hB.cell, ints_get (by omega)]
          have d30 : wr.cell? ⟨w.heap.size + 1, 30, none⟩ = some (.int .i64 (g 30)) := by rw [hB.cell, ints_get (by omega)]
          have f29 := hA.free 29
          have f30 := hA.free 30
          obtain ⟨b1, b1'⟩ := Hf.out 29 (by omega)
          obtain ⟨b2, b2'⟩ := Hg.out 29 (by omega)
          obtain ⟨b3, b3'⟩ := Hf.out 30 (by omega)
          obtain ⟨b4, b4'⟩ := Hg.out 30 (by omega)
          go_upto_region 11 with (fail)
          have hA' := (hA.set 29 (.int .i64 (f 29 + g 29))).set 30 (.int .i64 (f 30 + g 30))
          rw [ints_set, ints_set, ints_congr (mixed_upd f g)] at hA'
          have hB' := (hB.other ⟨w.heap.size, 29, none⟩ (by dsimp only; omega) (.int .i64 (f 29 + g 29))).other ⟨w.heap.size, 30, none⟩ (by dsimp only; omega) (.int .i64 (f 30 + g 30))
          have hC' := (hC.other ⟨w.heap.size, 29, none⟩ (by dsimp only; omega) (.int .i64 (f 29 + g 29))).other ⟨w.heap.size, 30, none⟩ (by dsimp only; omega) (.int .i64 (f 30 + g 30))
          have hw' := (hw.setCell (p := ⟨w.heap.size, 29, none⟩) (Nat.le_refl _) (.int .i64 (f 29 + g 29))).setCell (p := ⟨w.heap.size, 30, none⟩) (Nat.le_refl _) (.int .i64 (f 30 + g 30))
          generalize (wr.setCell ⟨w.heap.size, 29, none⟩ (.int .i64 (f 29 + g 29))).setCell ⟨w.heap.size, 30, none⟩ (.int .i64 (f 30 + g 30)) = wz at hA' hB' hC' hw' ⊢
          clear c29 c30 d29 d30 f29 f30 hA hB hC hw
          have c31 : wz.cell? ⟨w.heap.size, 31, none⟩ = some (.int .i64 (f 31)) := by rw [hA'.cell, ints_get (by omega)]; simp [mix]
          have d31 : wz.cell? ⟨w.heap.size + 1, 31, none⟩ = some (.int .i64 (g 31)) := by rw [hB'.cell, ints_get (by omega)]
          have f31 := hA'.free 31
          go_upto_if 55 with (fail)
          go_cut [] (fun wc => Blk wc w.heap.size (ints .i64 33 (upd (mix f g 31) 31 (max (f 31) (g 31)))) 32 ∧ Blk wc (w.heap.size + 1) (ints .i64 33 g) 32 ∧ Blk wc (w.heap.size + 1 + 1) (ints .i64 33 fun _ => 0) 32 ∧ Below w.heap.size w wc)
          case first =>
            by_cases hm : f 31 < g 31
            · go_wp2
              go_meet
              case rel => refine ⟨?_, hB'.other _ (by dsimp only; omega) _, hC'.other _ (by dsimp only; omega) _, hw'.setCell (Nat.le_refl _) _⟩; rw [show max (f 31) (g 31) = g 31 by omega, ← ints_set]; exact hA'.set _ _
            · go_wp2
              go_meet
              case rel => rw [← mixed_keep f g (by omega)]; exact ⟨hA', hB', hC', hw'⟩
          case rest =>
            clear hA' hB' hC' hw' c31 d31 f31
            obtain ⟨hA', hB', hC', hw'⟩ := hcut
            have c32 : wc.cell? ⟨w.heap.size, 32, none⟩ = some (.int .i64 (f 32)) := by rw [hA'.cell, ints_get (by omega)]; simp [upd, mix]
            have d32 : wc.cell? ⟨w.heap.size + 1, 32, none⟩ = some (.int .i64 (g 32)) := by rw [hB'.cell, ints_get (by omega)]
            have f32 := hA'.free 32
            obtain ⟨wd, rfl⟩ : ∃ wd : World, wd = wc := ⟨_, rfl⟩
            go_upto_if 63 with (fail)
            go_cut [] (fun wc => Blk wc w.heap.size (ints .i64 33 (bothOf f g)) 32 ∧ Blk wc (w.heap.size + 1 + 1) (ints .i64 33 fun _ => 0) 32 ∧ Below w.heap.size w wc)
            case first =>
              by_cases hm : f 32 < g 32
              · go_wp2
                go_meet
                case rel => refine ⟨?_, hC'.other _ (by dsimp only; omega) _, hw'.setCell (Nat.le_refl _) _⟩; rw [← ints_congr (mixed_31 f g), show max (f 32) (g 32) = g 32 by omega, ← ints_set]; exact hA'.set _ _
              · go_wp2
                go_meet
                case rel => rw [← mixed_keep2 f g (by omega)]; exact ⟨hA', hC', hw'⟩
            case rest =>
              clear hA' hB' hC' hw' c32 d32 f32
              obtain ⟨hA', hC', hw'⟩ := hcut
              go_wp2_with (first
                | (refine wpList_load_row rfl _ _ rfl _ rfl _ _ _ _ hA' Try.underlying32 rfl (by rw [ints_size]; kernel_rfl) ?_)
                | (refine wpList_store_whole rfl _ _ _ rfl _ _ _ _ rfl rfl hC' (by rw [ints_size, ints_size]) (by rw [ints_size]; kernel_rfl) (ints_all _ _ _) ?_; intro wy hC2 hO))
              exact bodyPost_ret (results_cell_row rfl _ _ _ _ _ _ _ rfl hC2 Try.underlying32 rfl (by rw [ints_size]; kernel_rfl)) rfl ⟨rfl, hO.below (by omega) hw'⟩

end Go.Proofs.Ytinidnppdkpmnaa
