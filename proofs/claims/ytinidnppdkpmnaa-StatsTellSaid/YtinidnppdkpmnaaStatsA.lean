/- Walks of the functions of package stats, and of the document's answer for it, on any counts that are not too great. -/
import Derived.Test.YtinidnppdkpmnaaBase
import Derived.BigQuiet
import Derived.Deep.CutBlock
import Derived.Deep.DeepCutAuto
namespace Go.Proofs.Ytinidnppdkpmnaa
open Go.RowKit

def sumFrom (c : Nat → Int) (o k : Nat) : Int := match k with | 0 => 0 | k + 1 => sumFrom c o k + c (o + k)

theorem sumFrom_le (c : Nat → Int) (B : Int) (n o : Nat) (hc : ∀ i, i < n → -B ≤ c i ∧ c i ≤ B) (k : Nat) (h : o + k ≤ n) : -(B * k) ≤ sumFrom c o k ∧ sumFrom c o k ≤ B * k := by
  induction k with
  | zero => simp [sumFrom]
  | succ k ih =>
    have h1 := ih (by omega)
    have h2 := hc (o + k) (by omega)
    simp only [sumFrom]
    have : B * ((k + 1 : Nat) : Int) = B * k + B := by push_cast; rw [Int.mul_add, Int.mul_one]
    rw [this]; omega

/-- No count is too great. -/
def Small (c : Nat → Int) : Prop := ∀ i, i < 31 → -1000000000 ≤ c i ∧ c i ≤ 1000000000

theorem Small.sum {c : Nat → Int} (h : Small c) (o k : Nat) (hk : o + k ≤ 31) : -31000000000 ≤ sumFrom c o k ∧ sumFrom c o k ≤ 31000000000 := by
  have := sumFrom_le c 1000000000 31 o h k hk
  omega

set_option maxHeartbeats 400000 in
theorem big_any (n : Int) (w : World) :
    Calls Try.prog 4 #[.int .i64 n] w fun e w' => e = .returned (.bool (decide (n < -1000000000) || decide (1000000000 < n))) ∧ w' = w := by
  by_cases h : n < -1000000000
  · go_enter Try.func4, Try.ntmps4
    go_wp2
    go_ret
    exact ⟨by simp [h], rfl⟩
  · go_enter Try.func4, Try.ntmps4
    go_wp2
    go_ret
    exact ⟨by rw [decide_eq_false (show ¬ n < -1000000000 by omega)]; rfl, rfl⟩

set_option maxHeartbeats 400000 in
theorem total_any (c : Nat → Int) (w : World) (hc : Small c) :
    Calls Try.prog 6 #[.agg (ints .i64 33 c)] w fun e w' => e = .returned (.tuple #[.int .i64 (sumFrom c 0 13), .int .i64 (sumFrom c 13 16)]) ∧ w' = w.alloc (.cells (ints .i64 33 c) 25) := by
  have Hc : Hid _ := Lib.hid hc
  clear hc
  go_enter Try.func6, Try.ntmps6
  go_wp2
  go_loop [2, 4, 6] (fun s _ i => ∃ k : Nat, k ≤ 13 ∧ i = .int .i64 k ∧ s = .int .i64 (sumFrom c 0 k)) (fun _ _ i => 13 - (intOf i).toNat)
  case atStart => exact ⟨0, by omega, rfl, rfl⟩
  case round =>
    obtain ⟨k, hk, rfl, rfl⟩ := hrel
    by_cases hlt : k < 13
    · have hcell : (ints .i64 33 c)[k]? = some (.int .i64 (c k)) := ints_get (by omega)
      obtain ⟨b1, b1'⟩ := Hc.out k (by omega)
      obtain ⟨b2, b2'⟩ := Hc.out.sum 0 k (by omega)
      go_wp2
      go_round
      case rel => exact ⟨k + 1, by omega, by go_num, by simp [sumFrom]⟩
      case measure => simp [intOf]; omega
    · obtain rfl : k = 13 := by omega
      go_wp2
      go_loop [3, 5, 16] (fun s _ i => ∃ k : Nat, k ≤ 16 ∧ i = .int .i64 k ∧ s = .int .i64 (sumFrom c 13 k)) (fun _ _ i => 16 - (intOf i).toNat)
      case atStart => exact ⟨0, by omega, rfl, rfl⟩
      case round =>
        obtain ⟨k, hk, rfl, rfl⟩ := hrel
        by_cases hlt : k < 16
        · have hcell : (ints .i64 33 c)[13 + k]? = some (.int .i64 (c (13 + k))) := ints_get (by omega)
          obtain ⟨b1, b1'⟩ := Hc.out (13 + k) (by omega)
          obtain ⟨b2, b2'⟩ := Hc.out.sum 13 k (by omega)
          go_wp2
          go_round
          case rel => exact ⟨k + 1, by omega, by go_num, by simp [sumFrom]⟩
          case measure => simp [intOf]; omega
        · obtain rfl : k = 16 := by omega
          go_wp2
          go_ret2
          exact ⟨rfl, rfl⟩

/-- The first k of one, and of both together. -/
def mix (f g : Nat → Int) (k : Nat) : Nat → Int := fun i => if i < k then f i + g i else f i
theorem mix_upd (f g : Nat → Int) (k : Nat) : upd (mix f g k) k (f k + g k) = mix f g (k + 1) := by
  funext i
  unfold upd mix
  by_cases h : i = k
  · subst h; simp
  · by_cases h2 : i < k
    · simp [h, h2, Nat.lt_succ_of_lt h2]
    · simp [h, h2, show ¬ i < k + 1 by omega]

theorem ite_max (a b : Int) : (if a < b then b else a) = max a b := by omega
/-- What both are together: 29 counts and two numbers are added; of the last two the greater one. -/
def bothOf (f g : Nat → Int) : Nat → Int := fun i => if i < 31 then f i + g i else max (f i) (g i)

theorem bothOf_upd (f g : Nat → Int) (i : Nat) (h : i < 33) : upd (upd (upd (upd (mix f g (13 + 16)) 29 (f 29 + g 29)) 30 (f 30 + g 30)) 31 (if f 31 < g 31 then g 31 else f 31)) 32 (if f 32 < g 32 then g 32 else f 32) i = bothOf f g i := by
  rcases (by omega : i < 29 ∨ i = 29 ∨ i = 30 ∨ i = 31 ∨ i = 32) with h | rfl | rfl | rfl | rfl
  · simp [upd, mix, bothOf, show i ≠ 32 by omega, show i ≠ 31 by omega, show i ≠ 30 by omega, show i ≠ 29 by omega, h, show i < 31 by omega]
  all_goals simp [upd, bothOf, ite_max]

theorem zeros33 (t : TypeId) : Obj.cells (ints .i64 33 fun _ => 0) t = Obj.cells #[.int .i64 0, .int .i64 0, .int .i64 0, .int .i64 0, .int .i64 0, .int .i64 0, .int .i64 0, .int .i64 0, .int .i64 0, .int .i64 0, .int .i64 0, .int .i64 0, .int .i64 0, .int .i64 0, .int .i64 0, .int .i64 0, .int .i64 0, .int .i64 0, .int .i64 0, .int .i64 0, .int .i64 0, .int .i64 0, .int .i64 0, .int .i64 0, .int .i64 0, .int .i64 0, .int .i64 0, .int .i64 0, .int .i64 0, .int .i64 0, .int .i64 0, .int .i64 0, .int .i64 0] t := rfl

set_option maxHeartbeats 400000 in
theorem both_any (f g : Nat → Int) (w : World) (hf : Small f) (hg : Small g) :
    Calls Try.prog 8 #[.agg (ints .i64 33 f), .agg (ints .i64 33 g)] w fun e w' => e = .returned (.agg (ints .i64 33 (bothOf f g))) ∧ Below w.heap.size w w' := by
  have Hf : Hid _ := Lib.hid hf
  have Hg : Hid _ := Lib.hid hg
  clear hf hg
  go_enter Try.func8, Try.ntmps8
  go_wp2
  rw [← zeros33]
  go_loopw [5, 7] (fun u i wr => ∃ k : Nat, k ≤ 13 ∧ i = .int .i64 k ∧ Blk wr w.heap.size (ints .i64 33 (mix f g k)) 25 ∧ Blk wr (w.heap.size + 1) (ints .i64 33 g) 25 ∧ Blk wr (w.heap.size + 1 + 1) (ints .i64 33 fun _ => 0) 25 ∧ Below w.heap.size w wr) (fun _ i _ => 13 - (intOf i).toNat)
  case atStart =>
    refine ⟨0, by omega, rfl, (Blk.new.alloc _).alloc _, ?_, ?_, ((((Below.refl _ _).alloc (Nat.le_refl _) _).alloc (by simp only [World.size_alloc]; omega) _).alloc (by simp only [World.size_alloc]; omega) _)⟩
    · have := (Blk.new (w := w.alloc (.cells (ints .i64 33 f) 25)) (cs := ints .i64 33 g) (t := 25)).alloc (.cells (ints .i64 33 fun _ => 0) 25)
      simpa using this
    · have := Blk.new (w := (w.alloc (.cells (ints .i64 33 f) 25)).alloc (.cells (ints .i64 33 g) 25)) (cs := ints .i64 33 fun _ => 0) (t := 25)
      simpa using this
  case round =>
    obtain ⟨k, hk, rfl, hA, hB, hC, hw⟩ := hrel
    by_cases hlt : k < 13
    · have ca : wr.cell? ⟨w.heap.size, k, none⟩ = some (.int .i64 (f k)) := by rw [hA.cell, ints_get (by omega)]; simp [mix]
      have fa := hA.free k
      have cb : wr.cell? ⟨w.heap.size + 1, k, none⟩ = some (.int .i64 (g k)) := by rw [hB.cell, ints_get (by omega)]
      obtain ⟨b1, b1'⟩ := Hf.out k (by omega)
      obtain ⟨b2, b2'⟩ := Hg.out k (by omega)
      go_wp2
      go_region
      all_goals
        go_wp2
        go_roundw
        case rel => refine ⟨k + 1, by omega, by go_num, ?_, (hB.other _ (by dsimp only; omega) _).drew, (hC.other _ (by dsimp only; omega) _).drew, (hw.setCell (Nat.le_refl _) _).drew⟩; rw [← mix_upd, ← ints_set]; exact (hA.set _ _).drew
        case measure => simp [intOf]; omega
    · obtain rfl : k = 13 := by omega
      clear hlt hk
      go_wp2
      obtain ⟨ws, rfl⟩ : ∃ ws : World, ws = wr := ⟨_, rfl⟩
      go_loopw [6, 22] (fun u i wr => ∃ k : Nat, k ≤ 16 ∧ i = .int .i64 k ∧ Blk wr w.heap.size (ints .i64 33 (mix f g (13 + k))) 25 ∧ Blk wr (w.heap.size + 1) (ints .i64 33 g) 25 ∧ Blk wr (w.heap.size + 1 + 1) (ints .i64 33 fun _ => 0) 25 ∧ Below w.heap.size w wr) (fun _ i _ => 16 - (intOf i).toNat)
      case atStart => exact ⟨0, by omega, rfl, hA, hB, hC, hw⟩
      case round =>
        clear hA hB hC hw
        obtain ⟨k, hk, rfl, hA, hB, hC, hw⟩ := hrel
        by_cases hlt : k < 16
        · have ca : wr.cell? ⟨w.heap.size, 13 + k, none⟩ = some (.int .i64 (f (13 + k))) := by rw [hA.cell, ints_get (by omega)]; simp [mix]
          have fa := hA.free (13 + k)
          have cb : wr.cell? ⟨w.heap.size + 1, 13 + k, none⟩ = some (.int .i64 (g (13 + k))) := by rw [hB.cell, ints_get (by omega)]
          obtain ⟨b1, b1'⟩ := Hf.out (13 + k) (by omega)
          obtain ⟨b2, b2'⟩ := Hg.out (13 + k) (by omega)
          go_wp2
          go_region
          all_goals
            go_wp2
            go_roundw
            case rel => refine ⟨k + 1, by omega, by go_num, ?_, (hB.other _ (by dsimp only; omega) _).drew, (hC.other _ (by dsimp only; omega) _).drew, (hw.setCell (Nat.le_refl _) _).drew⟩; rw [← Nat.add_assoc, ← mix_upd, ← ints_set]; exact (hA.set _ _).drew
            case measure => simp [intOf]; omega
        · obtain rfl : k = 16 := by omega
          clear hlt hk
          obtain ⟨wq, hwq⟩ : ∃ wq : World, wq = wr := ⟨_, rfl⟩
          have c29 : wr.cell? ⟨w.heap.size, 29, none⟩ = some (.int .i64 (f 29)) := by rw [hA.cell, ints_get (by omega)]; simp [mix]
          have c30 : wr.cell? ⟨w.heap.size, 30, none⟩ = some (.int .i64 (f 30)) := by rw [hA.cell, ints_get (by omega)]; simp [mix]
          have c31 : wr.cell? ⟨w.heap.size, 31, none⟩ = some (.int .i64 (f 31)) := by rw [hA.cell, ints_get (by omega)]; simp [mix]
          have c32 : wr.cell? ⟨w.heap.size, 32, none⟩ = some (.int .i64 (f 32)) := by rw [hA.cell, ints_get (by omega)]; simp [mix]
          have d29 : wr.cell? ⟨w.heap.size + 1, 29, none⟩ = some (.int .i64 (g 29)) := by rw [hB.cell, ints_get (by omega)]
          have d30 : wr.cell? ⟨w.heap.size + 1, 30, none⟩ = some (.int .i64 (g 30)) := by rw [hB.cell, ints_get (by omega)]
          have d31 : wr.cell? ⟨w.heap.size + 1, 31, none⟩ = some (.int .i64 (g 31)) := by rw [hB.cell, ints_get (by omega)]
          have d32 : wr.cell? ⟨w.heap.size + 1, 32, none⟩ = some (.int .i64 (g 32)) := by rw [hB.cell, ints_get (by omega)]
          have f29 := hA.free 29
          have f30 := hA.free 30
          have f31 := hA.free 31
          have f32 := hA.free 32
          obtain ⟨b1, b1'⟩ := Hf.out 29 (by omega)
          obtain ⟨b2, b2'⟩ := Hg.out 29 (by omega)
          obtain ⟨b3, b3'⟩ := Hf.out 30 (by omega)
          obtain ⟨b4, b4'⟩ := Hg.out 30 (by omega)
          go_upto_region 15 with (fail)
          have hA' := (((hA.set 29 (.int .i64 (f 29 + g 29))).set 30 (.int .i64 (f 30 + g 30))).set 31 (.int .i64 (if f 31 < g 31 then g 31 else f 31))).set 32 (.int .i64 (if f 32 < g 32 then g 32 else f 32))
          rw [ints_set, ints_set, ints_set, ints_set] at hA'
          have hC' := (((hC.other ⟨w.heap.size, 29, none⟩ (by dsimp only; omega) (.int .i64 (f 29 + g 29))).other ⟨w.heap.size, 30, none⟩ (by dsimp only; omega) (.int .i64 (f 30 + g 30))).other ⟨w.heap.size, 31, none⟩ (by dsimp only; omega) (.int .i64 (if f 31 < g 31 then g 31 else f 31))).other ⟨w.heap.size, 32, none⟩ (by dsimp only; omega) (.int .i64 (if f 32 < g 32 then g 32 else f 32))
          have hw' := (((hw.setCell (p := ⟨w.heap.size, 29, none⟩) (Nat.le_refl _) (.int .i64 (f 29 + g 29))).setCell (p := ⟨w.heap.size, 30, none⟩) (Nat.le_refl _) (.int .i64 (f 30 + g 30))).setCell (p := ⟨w.heap.size, 31, none⟩) (Nat.le_refl _) (.int .i64 (if f 31 < g 31 then g 31 else f 31))).setCell (p := ⟨w.heap.size, 32, none⟩) (Nat.le_refl _) (.int .i64 (if f 32 < g 32 then g 32 else f 32))
          rw [show ints .i64 33 _ = ints .i64 33 (bothOf f g) from ints_congr (bothOf_upd f g)] at hA'
          generalize (((wr.setCell ⟨w.heap.size, 29, none⟩ (.int .i64 (f 29 + g 29))).setCell ⟨w.heap.size, 30, none⟩ (.int .i64 (f 30 + g 30))).setCell ⟨w.heap.size, 31, none⟩ (.int .i64 (if f 31 < g 31 then g 31 else f 31))).setCell ⟨w.heap.size, 32, none⟩ (.int .i64 (if f 32 < g 32 then g 32 else f 32)) = wz at hA' hC' hw' ⊢
          simp only [ite_max]
          clear c29 c30 c31 c32 d29 d30 d31 d32 f29 f30 f31 f32 hA hB hC hw
          go_wp2_with (first
            | (refine wpList_load_row rfl _ _ rfl _ rfl _ _ _ _ hA' Try.underlying25 rfl (by rw [ints_size]; kernel_rfl) ?_)
            | (refine wpList_store_whole rfl _ _ _ rfl _ _ _ _ rfl rfl hC' (by rw [ints_size, ints_size]) (by rw [ints_size]; kernel_rfl) (ints_all _ _ _) ?_; intro wy hC2 hO))
          exact bodyPost_ret (results_cell_row rfl _ _ _ _ _ _ _ rfl hC2 Try.underlying25 rfl (by rw [ints_size]; kernel_rfl)) rfl ⟨rfl, hO.below (by omega) hw'⟩

end Go.Proofs.Ytinidnppdkpmnaa
