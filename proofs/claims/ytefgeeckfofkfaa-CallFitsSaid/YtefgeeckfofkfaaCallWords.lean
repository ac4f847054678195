/- CallWords returns true for any call and any word, and leaves its arguments as they were. No condition. -/
import Derived.Test.YtefgeeckfofkfaaCallLives
namespace Go.Proofs.Ytefgeeckfofkfaa
open Go.ChangeShapes Go.WideShapes Go.ChangeAt Go.RowKit

def callCs (op level key a b h reg : Int) : Array Value := #[.int .i64 op, .int .i64 level, .int .i64 key, .int .u64 a, .int .u64 b, .int .u64 h, .int .i64 reg]
/-- The call stands boxed. -/
structure InvC (cs : Array Value) (w w' : World) : Prop where
  a : Blk w' w.heap.size cs 26
  below : Below w.heap.size w w'
section
variable {cs : Array Value} {w w1 w2 : World}
theorem InvC.new (cs : Array Value) (w : World) : InvC cs w (w.alloc (.cells cs 26)) := ⟨Blk.new, (Below.refl _ _).alloc (Nat.le_refl _) _⟩
theorem InvC.on (h : InvC cs w w1) (hb : Below w1.heap.size w1 w2) : InvC cs w w2 := ⟨h.a.below hb h.a.lt, h.below.trans (hb.mono h.below.size)⟩
theorem InvC.drew (h : InvC cs w w1) : InvC cs w w1.drew := ⟨h.a.drew, h.below.drew⟩
theorem InvC.r7 (h : InvC cs w w1) : w1.rangeAt w.heap.size 0 cs.toList := Blk.range (pre := []) (post := []) (by simpa using h.a) rfl
end
section
variable {op level key a b h reg : Int} {w w1 : World}
theorem d_may (x : InvC (callCs op level key a b h reg) w w1) : Calls Try.prog 8 #[.agg (callCs op level key a b h reg)] w1 fun e w' => e = .returned (.bool (mayB op level reg)) ∧ InvC (callCs op level key a b h reg) w w' := (may_any op level key a b h reg w1).mono fun _ _ ⟨h1, h2⟩ => ⟨h1, x.on h2⟩
theorem d_rmay (x : InvC (callCs op level key a b h reg) w w1) : Calls Try.prog 9 #[.agg (callCs op level key a b h reg)] w1 fun e w' => e = .returned (.bool (mayB op level reg)) ∧ InvC (callCs op level key a b h reg) w w' := (refMay_any op level key a b h reg w1).mono fun _ _ ⟨h1, h2⟩ => ⟨h1, x.on h2⟩
theorem d_word (x : InvC (callCs op level key a b h reg) w w1) : Calls Try.prog 10 #[.int .i64 op] w1 fun e w' => e = .returned (.string (wordOf op)) ∧ InvC (callCs op level key a b h reg) w w' := (word_any op w1).mono fun _ _ ⟨h1, h2⟩ => ⟨h1, x.on h2⟩
theorem d_rword (x : InvC (callCs op level key a b h reg) w w1) : Calls Try.prog 6 #[.int .i64 op] w1 fun e w' => e = .returned (.string (wordOf op)) ∧ InvC (callCs op level key a b h reg) w w' := (refWord_any op w1).mono fun _ _ ⟨h1, h2⟩ => ⟨h1, x.on h2⟩
theorem d_looks (x : InvC (callCs op level key a b h reg) w w1) : Calls Try.prog 11 #[.int .i64 op] w1 fun e w' => e = .returned (.bool (looksB op)) ∧ InvC (callCs op level key a b h reg) w w' := (looks_any op w1).mono fun _ _ ⟨h1, h2⟩ => ⟨h1, h2 ▸ x⟩
theorem d_rlooks (x : InvC (callCs op level key a b h reg) w w1) : Calls Try.prog 12 #[.int .i64 op] w1 fun e w' => e = .returned (.bool (looksB op)) ∧ InvC (callCs op level key a b h reg) w w' := (refLooks_any op w1).mono fun _ _ ⟨h1, h2⟩ => ⟨h1, h2 ▸ x⟩
theorem d_part (x : InvC (callCs op level key a b h reg) w w1) : Calls Try.prog 13 #[.int .i64 op] w1 fun e w' => e = .returned (.int .i64 (partOf op)) ∧ InvC (callCs op level key a b h reg) w w' := (part_any op w1).mono fun _ _ ⟨h1, h2⟩ => ⟨h1, h2 ▸ x⟩
theorem d_rpart (x : InvC (callCs op level key a b h reg) w w1) : Calls Try.prog 14 #[.int .i64 op] w1 fun e w' => e = .returned (.int .i64 (partOf op)) ∧ InvC (callCs op level key a b h reg) w w' := (refPart_any op w1).mono fun _ _ ⟨h1, h2⟩ => ⟨h1, h2 ▸ x⟩
theorem d_lives (x : InvC (callCs op level key a b h reg) w w1) : Calls Try.prog 5 #[] w1 fun e w' => e = .returned (.bool true) ∧ InvC (callCs op level key a b h reg) w w' := (lives_09 w1).mono fun _ _ ⟨h1, h2⟩ => ⟨h1, x.on h2⟩
end

theorem wordOf_nat (k : Nat) (h : k < 13) : wordOf k = wordAt k := by
  unfold wordOf
  rw [if_pos ⟨by omega, by omega⟩, Int.toNat_natCast]

set_option maxRecDepth 100000 in
set_option maxHeartbeats 1000000 in
theorem callWords_walk (op level key a b h reg : Int) (word : ByteArray) (hm : word.size ≤ maxLen) (w : World) :
    Calls Try.prog 3 #[.agg (callCs op level key a b h reg), .string word] w fun r w' => r = .returned (.bool true) ∧ Below w.heap.size w w' := by
  unfold maxLen at hm
  by_cases hl : 100 < word.size
  · go_enter Try.func3, Try.ntmps3
    go_upto_region 1 with (fail)
    have hI := InvC.new (callCs op level key a b h reg) w
    generalize w.alloc (.cells (callCs op level key a b h reg) 26) = w1 at hI ⊢
    go_wp2_with (go_at_call 5; refine (d_lives hI).mono ?_; rintro e w2 ⟨rfl, hI⟩)
    go_ret
    exact ⟨rfl, hI.below⟩
  · go_enter Try.func3, Try.ntmps3
    go_upto_region 1 with (fail)
    have hI := InvC.new (callCs op level key a b h reg) w
    generalize w.alloc (.cells (callCs op level key a b h reg) 26) = w1 at hI ⊢
    go_wp2
    go_loopw [5, 6, 7] (fun n o i wr => ∃ k : Nat, k ≤ 13 ∧ i = .int .i64 k ∧ n = .int .i64 (find word k).1 ∧ o = .bool (find word k).2 ∧ InvC (callCs op level key a b h reg) w wr) (fun _ _ i _ => 13 - (intOf i).toNat)
    case atStart => exact ⟨0, by omega, rfl, rfl, rfl, hI⟩
    case round =>
      clear hI
      obtain ⟨k, hk, rfl, rfl, rfl, hI⟩ := hrel
      by_cases hlt : k < 13
      · have hwk := Lib.hid (wordOf_nat k hlt)
        have hf := Lib.hid (find_succ word k)
        generalize hq : find word k = q at hf ⊢
        obtain ⟨n, o⟩ := q
        clear hq
        dsimp only
        cases he : (wordAt k == word) with
        | true =>
          have hs : Hid (find word (k + 1) = (k, true)) := hf.out.trans (if_pos he)
          have he2 : ((wordAt k).toList == word.toList) = true := by rw [← beq_toListBytes]; exact he
          go_wp2_with (go_at_call 6; refine (refWord_any _ _).mono ?_; rintro e w2 ⟨rfl, hb⟩; rw [hwk.out]; replace hI := hI.on hb; clear hb)
          go_roundw
          case rel => exact ⟨k + 1, by omega, by go_num, by rw [hs.out], by rw [hs.out], hI⟩
          case measure => simp [intOf]; omega
        | false =>
          have hs : Hid (find word (k + 1) = (n, o)) := hf.out.trans (if_neg (by rw [he]; simp))
          have he2 : ((wordAt k).toList == word.toList) = false := by rw [← beq_toListBytes]; exact he
          go_wp2_with (go_at_call 6; refine (refWord_any _ _).mono ?_; rintro e w2 ⟨rfl, hb⟩; rw [hwk.out]; replace hI := hI.on hb; clear hb)
          go_roundw
          case rel => exact ⟨k + 1, by omega, by go_num, by rw [hs.out], by rw [hs.out], hI⟩
          case measure => simp [intOf]; omega
      · obtain rfl : k = 13 := by omega
        clear hlt hk
        generalize hq : find word 13 = q
        obtain ⟨n, o⟩ := q
        have Hq := Lib.hid hq
        clear hq
        dsimp only
        go_upto_region 11 with (go_at_call 7; refine (op_any _ _).mono ?_; rintro e w2 ⟨rfl, hb⟩; rw [Hq.out]; replace hI := hI.on hb; clear hb)
        refine wp_region_class (InvC (callCs op level key a b h reg) w) (by kernel_rfl) (by kernel_rfl) hI.drew ?_
        repeat (first
          | go_big_quiet_skip
          | (go_big_quiet_want; first
            | (refine quiet_load_arr 26 _ rfl w.heap.size 0 rfl (callCs op level key a b h reg) _ (fun _ h => h.r7) Try.underlying26 rfl (by kernel_rfl) ?_; simp only [Act.put, List.setIfInBounds_toArray, List.set_cons_zero, List.set_cons_succ]; go_big_quiet_on)
            | (refine quiet_load_one 3 _ rfl w.heap.size 0 rfl (.int .i64 op) _ (fun _ h => h.a.cell 0) Try.underlying3 rfl ?_; simp only [Act.put, List.setIfInBounds_toArray, List.set_cons_zero, List.set_cons_succ]; go_big_quiet_on)
            | (go_big_quiet_op; first | go_big_quiet_on | go_big_quiet_call (first | with_reducible exact fun _ => rfl | with_reducible exact d_may | with_reducible exact d_rmay | with_reducible exact d_word | with_reducible exact d_rword | with_reducible exact d_looks | with_reducible exact d_rlooks | with_reducible exact d_part | with_reducible exact d_rpart | with_reducible exact d_lives))))
        refine wpQuiet_nil ?_
        intro w5 hI
        go_wp2
        go_ret
        exact ⟨rfl, hI.below⟩

end Go.Proofs.Ytefgeeckfofkfaa
