/- Walks of layer 4 (conf): whether a configuration may be, and a thread's level. -/
import Derived.Test.YtlpkimpdeeiaaaaGreatQuiet
namespace Go.Proofs.YtlpkimpdeeiaaaaGreat
open Go.RowKit

theorem sames_ints (k : IntKind) (n : Nat) (f g : Nat → Int) : sames (ints k n f).toList (ints k n g).toList = decide (∀ i, i < n → f i = g i) := by
  rw [Bool.eq_iff_iff, decide_eq_true_iff, sames_eq (fits_ints k n f) (fits_ints k n g)]
  constructor
  · intro h i hi
    have h1 := ints_get (k := k) (c := f) hi
    have h2 := ints_get (k := k) (c := g) hi
    rw [← Array.getElem?_toList] at h1 h2
    rw [h, h2] at h1
    simpa using h1.symm
  · intro h
    rw [ints_congr h]

/-- A configuration by value: Levels, Threads, Of (eight), Slots, Limbo, Gens, Quota. -/
def confV (c : Nat → Int) : Value := .agg (ints .i64 14 c)
/-- Of, without the levels of threads that there aren't. -/
def clearedOf (c : Nat → Int) (i : Nat) : Int := if max 0 (c 1) ≤ (i : Int) then 0 else c (2 + i)
/-- May a configuration be? -/
def ConfMay (c : Nat → Int) : Prop := (1 ≤ c 0 ∧ c 0 ≤ 4) ∧ (1 ≤ c 1 ∧ c 1 ≤ 8) ∧ (∀ i, i < 8 → c (2 + i) = clearedOf c i) ∧ (∀ i, i < 8 → 0 ≤ c (2 + i) ∧ c (2 + i) ≤ c 0 - 1) ∧
  (2 ≤ c 10 ∧ c 10 ≤ 60) ∧ (1 ≤ c 11 ∧ c 11 ≤ 40) ∧ (1 ≤ c 12 ∧ c 12 ≤ 1048576) ∧ (0 ≤ c 13 ∧ c 13 ≤ 60)
instance (c : Nat → Int) : Decidable (ConfMay c) := by unfold ConfMay; infer_instance
def confMayB (c : Nat → Int) : Bool := decide (ConfMay c)

set_option maxHeartbeats 400000 in
theorem confIn_any (n lo hi : Int) (w : World) : Calls Tryz.prog 70 #[.int .i64 n, .int .i64 lo, .int .i64 hi] w fun e w' => e = .returned (.bool (decide (lo ≤ n ∧ n ≤ hi))) ∧ w = w' := by
  by_cases h1 : lo ≤ n
  · by_cases h2 : n ≤ hi
    · go_enter Tryz.func70, Tryz.ntmps70
      go_wp2
      go_ret
      exact ⟨by rw [decide_eq_true (⟨h1, h2⟩ : lo ≤ n ∧ n ≤ hi)]; rfl, rfl⟩
    · have hd : decide (n ≤ hi) = false := decide_eq_false h2
      have hs : Hid (decide (lo ≤ n ∧ n ≤ hi) = false) := decide_eq_false (fun h => h2 h.2)
      clear h2
      go_enter Tryz.func70, Tryz.ntmps70
      go_wp2
      go_ret
      exact ⟨by rw [hs.out]; rfl, rfl⟩
  · have hd : decide (lo ≤ n) = false := decide_eq_false h1
    have hs : Hid (decide (lo ≤ n ∧ n ≤ hi) = false) := decide_eq_false (fun h => h1 h.1)
    clear h1
    go_enter Tryz.func70, Tryz.ntmps70
    go_wp2
    go_ret
    exact ⟨by rw [hs.out]; rfl, rfl⟩

theorem ite_max0 (a : Int) : (if 0 < a then a else 0) = max 0 a := by omega
theorem zeros8 (t : TypeId) : Obj.cells (ints .i64 8 fun _ => 0) t = Obj.cells #[.int .i64 0, .int .i64 0, .int .i64 0, .int .i64 0, .int .i64 0, .int .i64 0, .int .i64 0, .int .i64 0] t := rfl
theorem ints14_split (c : Nat → Int) : ints .i64 14 c = (([Value.int .i64 (c 0), Value.int .i64 (c 1)] ++ (ints .i64 8 fun i => c (2 + i)).toList ++ [Value.int .i64 (c 10), Value.int .i64 (c 11), Value.int .i64 (c 12), Value.int .i64 (c 13)]).toArray : Array Value) := rfl

set_option maxHeartbeats 1000000 in
set_option maxRecDepth 20000 in
theorem cleared_any (c : Nat → Int) (w : World) : Calls Tryz.prog 71 #[confV c] w fun e w' => e = .returned (.agg (ints .i64 8 (clearedOf c))) ∧ Below w.heap.size w w' := by
  have hst : ∀ i : Int, (w.heap.size : Int) = i → True := fun _ _ => trivial
  clear hst
  unfold confV
  go_enter Tryz.func71, Tryz.ntmps71
  have hb0 : Blk (w.alloc (.cells (ints .i64 14 c) 29)) w.heap.size (ints .i64 14 c) 29 := Blk.new
  have hw0 : Below w.heap.size w (w.alloc (.cells (ints .i64 14 c) 29)) := (Below.refl _ _).alloc (Nat.le_refl _) _
  have hz0 : (w.alloc (.cells (ints .i64 14 c) 29)).heap.size = w.heap.size + 1 := by simp
  have H1 : ∀ w1 : World, Blk w1 w.heap.size (ints .i64 14 c) 29 → w1.rangeAt w.heap.size 2 (ints .i64 8 fun i => c (2 + i)).toList := fun w1 h => by
    rw [ints14_split] at h
    exact Blk.range h rfl
  have H1 := Lib.hid H1
  go_upto_region 1 with (fail)
  rw [← zeros8 27]
  have hb1 := hb0.alloc (.cells (ints .i64 8 fun _ => 0) 27)
  have hc1 : Blk ((w.alloc (.cells (ints .i64 14 c) 29)).alloc (.cells (ints .i64 8 fun _ => 0) 27)) (w.heap.size + 1) (ints .i64 8 fun _ => 0) 27 := by rw [← hz0]; exact Blk.new
  have hw1 : Below w.heap.size w ((w.alloc (.cells (ints .i64 14 c) 29)).alloc (.cells (ints .i64 8 fun _ => 0) 27)) := hw0.alloc (by rw [hz0]; omega) _
  have hz1 : ((w.alloc (.cells (ints .i64 14 c) 29)).alloc (.cells (ints .i64 8 fun _ => 0) 27)).heap.size = w.heap.size + 1 + 1 := by simp
  clear hb0 hw0 hz0
  generalize (w.alloc (.cells (ints .i64 14 c) 29)).alloc (.cells (ints .i64 8 fun _ => 0) 27) = w1 at hb1 hc1 hw1 hz1 ⊢
  have hr := H1.out w1 hb1
  have Hz := Lib.hid hz1
  clear hz1
  go_upto_region 2 with (first
    | (refine wpList_load_arr rfl 27 _ rfl w.heap.size 2 rfl (ints .i64 8 fun i => c (2 + i)) _ hr Tryz.underlying27 rfl (by rw [ints_size]; kernel_rfl) ?_)
    | (rw [← zeros8 27]; refine wpList_store_whole rfl 27 _ _ rfl w1.heap.size (ints .i64 8 fun _ => 0) (ints .i64 8 fun i => c (2 + i)) 27 rfl rfl Blk.new (by rw [ints_size, ints_size]) (by rw [ints_size]; kernel_rfl) (ints_all _ _ _) ?_; intro w2 hd ho))
  have hA : Blk w2 w.heap.size (ints .i64 14 c) 29 := (hb1.alloc _).only ho (by rw [Hz.out]; omega)
  have hC : Blk w2 (w.heap.size + 1) (ints .i64 8 fun _ => 0) 27 := (hc1.alloc _).only ho (by rw [Hz.out]; omega)
  have hw2 : Below w.heap.size w w2 := ho.below (by rw [Hz.out]; omega) (hw1.alloc (by rw [Hz.out]; omega) _)
  rw [Hz.out] at hd
  clear hb1 hc1 hw1 hr ho
  have c1 : w2.cell? ⟨w.heap.size, 1, none⟩ = some (.int .i64 (c 1)) := by rw [hA.cell, ints_get (by omega)]
  rw [Hz.out]
  go_wp2
  all_goals
    go_loopw [4] (fun t wr => ∃ k : Nat, t = .int .i64 k ∧ max 0 (c 1) ≤ (k : Int) ∧ Blk wr (w.heap.size + 1) (ints .i64 8 fun _ => 0) 27 ∧ Blk wr (w.heap.size + 1 + 1) (ints .i64 8 (fun i => if max 0 (c 1) ≤ (i : Int) ∧ i < k then 0 else c (2 + i))) 27 ∧ Below w.heap.size w wr) (fun t _ => 8 - (intOf t).toNat)
    case atStart =>
      refine ⟨(max 0 (c 1)).toNat, ?_, by omega, hC, ?_, hw2⟩
      · congr 1; omega
      · rw [ints_congr (d := fun i => c (2 + i)) (fun i _ => if_neg (by omega))]
        exact hd
    case round =>
      clear hA hC hd hw2 c1
      obtain ⟨k, rfl, hk, hC, hD, hw⟩ := hrel
      have Hk := Lib.hid hk
      by_cases hlt : k < 8
      · have cd : wr.cell? ⟨w.heap.size + 1 + 1, k, none⟩ = some (.int .i64 (if max 0 (c 1) ≤ (k : Int) ∧ k < k then 0 else c (2 + k))) := by rw [hD.cell, ints_get hlt]
        have fd := hD.free k
        clear hk
        go_wp2
        go_roundw
        case rel =>
          refine ⟨k + 1, by go_num, by have := Hk.out; omega, hC.other _ (by dsimp only; omega) _, ?_, hw.setCell (by dsimp only; omega) _⟩
          have := hD.set k (.int .i64 0)
          rw [ints_set, ints_congr (d := fun i => if max 0 (c 1) ≤ (i : Int) ∧ i < k + 1 then 0 else c (2 + i)) (fun i hi => ?_)] at this
          · exact this
          · have hk := Hk.out
            unfold upd
            by_cases e : i = k
            · rw [if_pos e, if_pos ⟨by omega, by omega⟩]
            · rw [if_neg e]
              show (if max 0 (c 1) ≤ (i : Int) ∧ i < k then 0 else c (2 + i)) = _
              by_cases h : max 0 (c 1) ≤ (i : Int) ∧ i < k
              · rw [if_pos h, if_pos ⟨h.1, by omega⟩]
              · rw [if_neg h, if_neg (by omega)]
        case measure => simp [intOf]; omega
      · rw [ints_congr (d := clearedOf c) (fun i hi => by
          unfold clearedOf
          by_cases h : max 0 (c 1) ≤ (i : Int)
          · rw [if_pos h, if_pos ⟨h, by omega⟩]
          · rw [if_neg h, if_neg (fun h' => h h'.1)])] at hD
        clear hk
        go_wp2_with (first
          | (refine wpList_load_row rfl _ _ rfl _ rfl _ _ _ _ hD Tryz.underlying27 rfl (by rw [ints_size]; kernel_rfl) ?_)
          | (refine wpList_store_whole rfl 27 _ _ rfl _ _ _ _ rfl rfl hC (by rw [ints_size, ints_size]) (by rw [ints_size]; kernel_rfl) (ints_all _ _ _) ?_; intro w3 hE hO))
        exact bodyPost_ret (results_cell_row rfl _ _ _ _ _ _ _ rfl hE Tryz.underlying27 rfl (by rw [ints_size]; kernel_rfl)) rfl ⟨rfl, hO.below (by omega) hw⟩

def Inv14 (c : Nat → Int) (w w' : World) : Prop := Blk w' w.heap.size (ints .i64 14 c) 29 ∧ Below w.heap.size w w'
section
variable {c : Nat → Int} {w w1 w2 : World}
theorem Inv14.new (c : Nat → Int) (w : World) : Inv14 c w (w.alloc (.cells (ints .i64 14 c) 29)) := ⟨Blk.new, (Below.refl _ _).alloc (Nat.le_refl _) _⟩
theorem Inv14.drew (h : Inv14 c w w1) : Inv14 c w w1.drew := ⟨h.1.drew, h.2.drew⟩
theorem Inv14.on (h : Inv14 c w w1) (hb : Below w1.heap.size w1 w2) : Inv14 c w w2 := ⟨h.1.below hb h.1.lt, h.2.trans (hb.mono h.2.size)⟩
theorem Inv14.cell (h : Inv14 c w w1) {i : Nat} (hi : i < 14) : w1.cell? ⟨w.heap.size, i, none⟩ = some (.int .i64 (c i)) := by rw [h.1.cell, ints_get hi]
theorem Inv14.r8 (h : Inv14 c w w1) : w1.rangeAt w.heap.size 2 (ints .i64 8 fun i => c (2 + i)).toList := by
  have h := h.1
  rw [ints14_split] at h
  exact Blk.range h rfl
theorem Inv14.r14 (h : Inv14 c w w1) : w1.rangeAt w.heap.size 0 (ints .i64 14 c).toList := Blk.range (pre := []) (post := []) (by simpa using h.1) rfl
end

end Go.Proofs.YtlpkimpdeeiaaaaGreat
