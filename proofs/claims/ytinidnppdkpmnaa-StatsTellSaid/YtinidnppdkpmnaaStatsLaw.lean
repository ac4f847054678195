/- StatsTell returns true for any two counts and any error. -/
import Derived.Test.YtinidnppdkpmnaaStatsD
import Derived.Test.YtinidnppdkpmnaaStatsE
import Derived.Test.YtinidnppdkpmnaaQuiet
namespace Go.Proofs.Ytinidnppdkpmnaa
open Go.RowKit

/-- Is a number too great? -/
def isBig (n : Int) : Bool := decide (n < -1000000000) || decide (1000000000 < n)
theorem isBig_no {n : Int} (h : isBig n = false) : -1000000000 ≤ n ∧ n ≤ 1000000000 := by
  simp [isBig] at h; omega
theorem isBig_small {c : Nat → Int} (h : ∀ i, i < 31 → isBig (c i) = false) : Small c := fun i hi => isBig_no (h i hi)
theorem big_is (n : Int) (w : World) : Calls Try.prog 4 #[.int .i64 n] w fun e w' => e = .returned (.bool (isBig n)) ∧ w' = w := big_any n w

/-- Is there such an error, and any answer? -/
def asked (c : Nat → Int) (e : Int) : Bool := decide (0 ≤ e ∧ e < 16 ∧ 0 < sumFrom c 13 16)
/-- The rate, as long as no count is below 0. -/
def rate0 (c : Nat → Int) (e : Int) : Int := if asked c e = true then (c (13 + e.toNat) * 1000).tdiv (sumFrom c 13 16) else 0
theorem rateOf_eq (c : Nat → Int) (e : Int) : rateOf c e = if neg c 16 then 0 else rate0 c e := by
  unfold rateOf rate0 asked
  cases neg c 16
  · by_cases h : sumFrom c 13 16 ≤ 0 ∨ e < 0 ∨ 16 ≤ e
    · simp only [Bool.false_eq_true, if_false]
      rw [if_pos h, if_neg (by rw [decide_eq_true_iff]; omega)]
    · simp only [Bool.false_eq_true, if_false]
      rw [if_neg h, if_pos (by rw [decide_eq_true_iff]; omega)]
  · rfl

/-- Which op is called most among the last k. -/
def down (c : Nat → Int) : Nat → Nat × Bool
  | 0 => (0, false)
  | k + 1 => if 0 < c (12 - k) ∧ ((down c k).2 = false ∨ c (down c k).1 ≤ c (12 - k)) then (12 - k, true) else down c k
theorem down_succ (c : Nat → Int) (k : Nat) : down c (k + 1) = if 0 < c (12 - k) ∧ ((down c k).2 = false ∨ c (down c k).1 ≤ c (12 - k)) then (12 - k, true) else down c k := rfl
theorem down_step (c : Nat → Int) (m : Nat) (h : m < 13) : down c (13 - m) = if 0 < c m ∧ ((down c (13 - (m + 1))).2 = false ∨ c (down c (13 - (m + 1))).1 ≤ c m) then (m, true) else down c (13 - (m + 1)) := by
  have h1 := down_succ c (12 - m)
  rw [show 12 - m + 1 = 13 - m by omega, show 12 - (12 - m) = m by omega, show 12 - m = 13 - (m + 1) by omega] at h1
  exact h1
theorem down_le (c : Nat → Int) (k : Nat) : (down c k).1 ≤ 12 := by
  induction k with
  | zero => simp [down]
  | succ k ih => rw [down_succ]; split <;> (try simp only) <;> omega
theorem busy_spec (c : Nat → Int) (k : Nat) : ((busy c k).2 = false → (busy c k).1 = 0 ∧ ∀ i, i < k → c i ≤ 0) ∧
    ((busy c k).2 = true → (busy c k).1 < k ∧ 0 < c (busy c k).1 ∧ (∀ i, i < k → c i ≤ c (busy c k).1) ∧ ∀ i, i < (busy c k).1 → c i < c (busy c k).1) := by
  induction k with
  | zero => simp [busy]
  | succ k ih =>
    rw [busy_succ]
    generalize busy c k = q at ih ⊢
    obtain ⟨b, o⟩ := q
    dsimp only at ih ⊢
    split
    · rename_i h
      refine ⟨fun e => by simp at e, fun _ => ⟨Nat.lt_succ_self k, h.1, fun i hi => ?_, fun i hi => ?_⟩⟩
      · rcases Nat.lt_succ_iff_lt_or_eq.1 hi with h' | rfl
        · cases o with
          | false => have := (ih.1 rfl).2 i h'; have := h.1; dsimp only; omega
          | true => have := (ih.2 rfl).2.2.1 i h'; have h2 := h.2.resolve_left (by simp); dsimp only; omega
        · exact Int.le_refl _
      · cases o with
        | false => have := (ih.1 rfl).2 i hi; have := h.1; dsimp only; omega
        | true => have := (ih.2 rfl).2.2.1 i hi; have h2 := h.2.resolve_left (by simp); dsimp only; omega
    · rename_i h
      cases o with
      | false =>
        refine ⟨fun _ => ⟨(ih.1 rfl).1, fun i hi => ?_⟩, fun e => by simp at e⟩
        rcases Nat.lt_succ_iff_lt_or_eq.1 hi with h' | rfl
        · exact (ih.1 rfl).2 i h'
        · simp at h; exact h
      | true =>
        obtain ⟨h1, h2, h3, h4⟩ := ih.2 rfl
        refine ⟨fun e => by simp at e, fun _ => ⟨by omega, h2, fun i hi => ?_, h4⟩⟩
        rcases Nat.lt_succ_iff_lt_or_eq.1 hi with h' | rfl
        · exact h3 i h'
        · simp at h; dsimp only; omega
theorem down_spec (c : Nat → Int) (k : Nat) (hk : k ≤ 13) : ((down c k).2 = false → (down c k).1 = 0 ∧ ∀ i, 13 - k ≤ i → i < 13 → c i ≤ 0) ∧
    ((down c k).2 = true → 13 - k ≤ (down c k).1 ∧ (down c k).1 < 13 ∧ 0 < c (down c k).1 ∧ (∀ i, 13 - k ≤ i → i < 13 → c i ≤ c (down c k).1) ∧ ∀ i, 13 - k ≤ i → i < (down c k).1 → c i < c (down c k).1) := by
  induction k with
  | zero => simp [down]; omega
  | succ k ih =>
    have ih := ih (by omega)
    rw [down_succ]
    generalize down c k = q at ih ⊢
    obtain ⟨b, o⟩ := q
    dsimp only at ih ⊢
    have hq : 13 - (k + 1) = 12 - k := by omega
    rw [hq]
    split
    · rename_i h
      refine ⟨fun e => by simp at e, fun _ => ⟨Nat.le_refl _, by dsimp only; omega, h.1, fun i h1 h2 => ?_, fun i h1 h2 => ?_⟩⟩
      · rcases (by omega : i = 12 - k ∨ 13 - k ≤ i) with rfl | h'
        · exact Int.le_refl _
        · cases o with
          | false => have := (ih.1 rfl).2 i h' h2; have := h.1; dsimp only; omega
          | true => have := (ih.2 rfl).2.2.2.1 i h' h2; have h3 := h.2.resolve_left (by simp); dsimp only; omega
      · dsimp only at h2; omega
    · rename_i h
      cases o with
      | false =>
        refine ⟨fun _ => ⟨(ih.1 rfl).1, fun i h1 h2 => ?_⟩, fun e => by simp at e⟩
        rcases (by omega : i = 12 - k ∨ 13 - k ≤ i) with rfl | h'
        · simp at h; exact h
        · exact (ih.1 rfl).2 i h' h2
      | true =>
        obtain ⟨g1, g2, g3, g4, g5⟩ := ih.2 rfl
        simp at h
        refine ⟨fun e => by simp at e, fun _ => ⟨by dsimp only; omega, g2, g3, fun i h1 h2 => ?_, fun i h1 h2 => ?_⟩⟩
        · rcases (by omega : i = 12 - k ∨ 13 - k ≤ i) with rfl | h'
          · dsimp only; omega
          · exact g4 i h' h2
        · rcases (by omega : i = 12 - k ∨ 13 - k ≤ i) with rfl | h'
          · dsimp only; omega
          · exact g5 i h' h2
theorem down_busy (c : Nat → Int) : down c 13 = busy c 13 := by
  have h1 := busy_spec c 13
  have h2 := down_spec c 13 (by omega)
  generalize busy c 13 = p at h1 ⊢
  generalize down c 13 = q at h2 ⊢
  obtain ⟨b, o⟩ := p
  obtain ⟨d, u⟩ := q
  dsimp only at h1 h2
  cases o with
  | false =>
    cases u with
    | false => rw [(h1.1 rfl).1, (h2.1 rfl).1]
    | true => have h3 := h2.2 rfl; have h4 := (h1.1 rfl).2 d h3.2.1; omega
  | true =>
    cases u with
    | false => have h3 := h1.2 rfl; have h4 := (h2.1 rfl).2 b (by omega) h3.1; omega
    | true =>
      obtain ⟨a1, a2, a3, a4⟩ := h1.2 rfl
      obtain ⟨_, b1, b2, b3, b4⟩ := h2.2 rfl
      have e : b = d := by
        rcases Nat.lt_trichotomy b d with h | h | h
        · have := b4 b (by omega) h; have := a3 d b1; omega
        · exact h
        · have := a4 d h; have := b3 b (by omega) a1; omega
      rw [e]

/-- Both counts stand boxed; all else that was there is as it was. -/
structure Inv (f g : Nat → Int) (w w' : World) : Prop where
  a : Blk w' w.heap.size (ints .i64 33 f) 25
  b : Blk w' (w.heap.size + 1) (ints .i64 33 g) 25
  below : Below w.heap.size w w'
section
variable {f g : Nat → Int} {w w1 w2 : World}
theorem Inv.drew (h : Inv f g w w1) : Inv f g w w1.drew := ⟨h.a.drew, h.b.drew, h.below.drew⟩
theorem Inv.on (h : Inv f g w w1) (hb : Below w1.heap.size w1 w2) : Inv f g w w2 := ⟨h.a.below hb h.a.lt, h.b.below hb h.b.lt, h.below.trans (hb.mono h.below.size)⟩
theorem Inv.ra (h : Inv f g w w1) : w1.rangeAt w.heap.size 0 (ints .i64 33 f).toList := Blk.range (pre := []) (post := []) (by simpa using h.a) rfl
theorem Inv.rb (h : Inv f g w w1) : w1.rangeAt (w.heap.size + 1) 0 (ints .i64 33 g).toList := Blk.range (pre := []) (post := []) (by simpa using h.b) rfl
theorem c_total (hf : Small f) (h : Inv f g w w1) : Calls Try.prog 6 #[.agg (ints .i64 33 f)] w1 fun e w' => e = .returned (.tuple #[.int .i64 (sumFrom f 0 13), .int .i64 (sumFrom f 13 16)]) ∧ Inv f g w w' :=
  (total_any f w1 hf).mono fun _ _ ⟨h1, h2⟩ => ⟨h1, h.on (by rw [h2]; exact (Below.refl _ _).alloc (Nat.le_refl _) _)⟩
theorem c_sum (hf : Small f) (h : Inv f g w w1) : Calls Try.prog 7 #[.agg (ints .i64 33 f)] w1 fun e w' => e = .returned (.tuple #[.int .i64 (sumFrom f 0 13), .int .i64 (sumFrom f 13 16)]) ∧ Inv f g w w' :=
  (sum_any f w1 hf).mono fun _ _ ⟨h1, h2⟩ => ⟨h1, h.on (by rw [h2]; exact (Below.refl _ _).alloc (Nat.le_refl _) _)⟩
theorem c_both (hf : Small f) (hg : Small g) (h : Inv f g w w1) : Calls Try.prog 8 #[.agg (ints .i64 33 f), .agg (ints .i64 33 g)] w1 fun e w' => e = .returned (.agg (ints .i64 33 (bothOf f g))) ∧ Inv f g w w' :=
  (both_any f g w1 hf hg).mono fun _ _ ⟨h1, h2⟩ => ⟨h1, h.on h2⟩
theorem c_refBoth (hf : Small f) (hg : Small g) (h : Inv f g w w1) : Calls Try.prog 9 #[.agg (ints .i64 33 f), .agg (ints .i64 33 g)] w1 fun e w' => e = .returned (.agg (ints .i64 33 (bothOf f g))) ∧ Inv f g w w' :=
  (refBoth_any f g w1 hf hg).mono fun _ _ ⟨h1, h2⟩ => ⟨h1, h.on h2⟩
theorem c_busiest (hf : Small f) (h : Inv f g w w1) : Calls Try.prog 10 #[.agg (ints .i64 33 f)] w1 fun e w' => e = .returned (.tuple #[.int .i64 (busy f 13).1, .bool (busy f 13).2]) ∧ Inv f g w w' :=
  (busiest_any f w1 hf).mono fun _ _ ⟨h1, h2⟩ => ⟨h1, h.on h2⟩
theorem c_rate (hf : Small f) (x : Int) (h : Inv f g w w1) : Calls Try.prog 11 #[.agg (ints .i64 33 f), .int .i64 x] w1 fun e w' => e = .returned (.int .i64 (rateOf f x)) ∧ Inv f g w w' :=
  (rate_any f x w1 hf).mono fun _ _ ⟨h1, h2⟩ => ⟨h1, h.on h2⟩
theorem c_lives (h : Inv f g w w1) : Calls Try.prog 5 #[] w1 fun e w' => e = .returned (.bool true) ∧ Inv f g w w' :=
  (lives_42 w1).mono fun _ _ ⟨h1, h2⟩ => ⟨h1, h.on h2⟩
end

set_option maxRecDepth 100000 in
set_option maxHeartbeats 1000000 in
theorem law_walk (f g : Nat → Int) (e : Int) (w : World) :
    Calls Try.prog 3 #[.agg (ints .i64 33 f), .agg (ints .i64 33 g), .int .i64 e] w fun r w' => r = .returned (.bool true) ∧ Below w.heap.size w w' := by
  have lives : ∀ w', Below w.heap.size w w' → Calls Try.prog 5 #[] w' fun e w'' => e = .returned (.bool true) ∧ Below w.heap.size w w'' :=
    fun w' h => (lives_42 w').mono fun e w'' ⟨h1, h2⟩ => ⟨h1, h.trans (h2.mono h.size)⟩
  have Hlives : Hid _ := Lib.hid lives
  clear lives
  go_enter Try.func3, Try.ntmps3
  go_wp2
  have hA := (Blk.new (w := w) (cs := ints .i64 33 f) (t := 25)).alloc (.cells (ints .i64 33 g) 25)
  have hB := Blk.new (w := w.alloc (.cells (ints .i64 33 f) 25)) (cs := ints .i64 33 g) (t := 25)
  have hw : Below w.heap.size w ((w.alloc (.cells (ints .i64 33 f) 25)).alloc (.cells (ints .i64 33 g) 25)) := ((Below.refl _ _).alloc (Nat.le_refl _) _).alloc (by simp) _
  rw [World.size_alloc] at hB
  generalize (w.alloc (.cells (ints .i64 33 f) 25)).alloc (.cells (ints .i64 33 g) 25) = w1 at hA hB hw ⊢
  go_loopw [7] (fun i wr => ∃ k : Nat, k ≤ 13 ∧ i = .int .i64 k ∧ (∀ j, j < k → isBig (f j) = false ∧ isBig (g j) = false) ∧ Blk wr w.heap.size (ints .i64 33 f) 25 ∧ Blk wr (w.heap.size + 1) (ints .i64 33 g) 25 ∧ Below w.heap.size w wr) (fun i _ => 13 - (intOf i).toNat)
  case atStart => exact ⟨0, by omega, rfl, by omega, hA, hB, hw⟩
  case round =>
    clear hA hB hw
    obtain ⟨k, hk, rfl, hs, hA, hB, hw⟩ := hrel
    have Hs : Hid _ := Lib.hid hs
    clear hs
    by_cases hlt : k < 13
    · have ca : wr.cell? ⟨w.heap.size, k, none⟩ = some (.int .i64 (f k)) := by rw [hA.cell, ints_get (by omega)]
      have cb : wr.cell? ⟨w.heap.size + 1, k, none⟩ = some (.int .i64 (g k)) := by rw [hB.cell, ints_get (by omega)]
      cases hf : isBig (f k) with
      | true =>
        have Hf : Hid _ := Lib.hid hf
        clear hf
        go_wp2_with (first
          | (go_at_call 4; refine (big_is _ _).mono ?_; rintro r w2 ⟨rfl, rfl⟩; first | rw [Hf.out])
          | (go_at_call 5; refine (Hlives.out _ hw).mono ?_; rintro r w2 ⟨rfl, hw2⟩))
        go_ret
        exact ⟨rfl, hw2⟩
      | false =>
        have Hf : Hid _ := Lib.hid hf
        clear hf
        cases hg : isBig (g k) with
        | true =>
          have Hg : Hid _ := Lib.hid hg
          clear hg
          go_wp2_with (first
            | (go_at_call 4; refine (big_is _ _).mono ?_; rintro r w2 ⟨rfl, rfl⟩; first | rw [Hf.out] | rw [Hg.out])
            | (go_at_call 5; refine (Hlives.out _ hw).mono ?_; rintro r w2 ⟨rfl, hw2⟩))
          go_ret
          exact ⟨rfl, hw2⟩
        | false =>
          have Hg : Hid _ := Lib.hid hg
          clear hg
          go_wp2_with (first
            | (go_at_call 4; refine (big_is _ _).mono ?_; rintro r w2 ⟨rfl, rfl⟩; first | rw [Hf.out] | rw [Hg.out])
            | (go_at_call 5; refine (Hlives.out _ hw).mono ?_; rintro r w2 ⟨rfl, hw2⟩))
          go_roundw
          case rel =>
            refine ⟨k + 1, by omega, by go_num, fun j hj => ?_, hA, hB, hw⟩
            rcases Nat.lt_succ_iff_lt_or_eq.1 hj with h | rfl
            · exact Hs.out j h
            · exact ⟨Hf.out, Hg.out⟩
          case measure => simp [intOf]; omega
    · obtain rfl : k = 13 := by omega
      clear hlt hk
      go_wp2
      simp only [Int.cast_ofNat_Int]
      obtain ⟨ws, rfl⟩ : ∃ ws : World, ws = wr := ⟨_, rfl⟩
      have S1 := Hs
      clear Hs
      go_loopw [8] (fun i wr => ∃ k : Nat, k ≤ 16 ∧ i = .int .i64 k ∧ (∀ j, j < k → isBig (f (13 + j)) = false ∧ isBig (g (13 + j)) = false) ∧ Blk wr w.heap.size (ints .i64 33 f) 25 ∧ Blk wr (w.heap.size + 1) (ints .i64 33 g) 25 ∧ Below w.heap.size w wr) (fun i _ => 16 - (intOf i).toNat)
      case atStart => exact ⟨0, by omega, rfl, by omega, hA, hB, hw⟩
      case round =>
        clear hA hB hw
        obtain ⟨k, hk, rfl, hs, hA, hB, hw⟩ := hrel
        have Hs : Hid _ := Lib.hid hs
        clear hs
        by_cases hlt : k < 16
        · have ca : wr.cell? ⟨w.heap.size, 13 + k, none⟩ = some (.int .i64 (f (13 + k))) := by rw [hA.cell, ints_get (by omega)]
          have cb : wr.cell? ⟨w.heap.size + 1, 13 + k, none⟩ = some (.int .i64 (g (13 + k))) := by rw [hB.cell, ints_get (by omega)]
          cases hf : isBig (f (13 + k)) with
          | true =>
            have Hf : Hid _ := Lib.hid hf
            clear hf
            go_wp2_with (first
              | (go_at_call 4; refine (big_is _ _).mono ?_; rintro r w2 ⟨rfl, rfl⟩; first | rw [Hf.out])
              | (go_at_call 5; refine (Hlives.out _ hw).mono ?_; rintro r w2 ⟨rfl, hw2⟩))
            go_ret
            exact ⟨rfl, hw2⟩
          | false =>
            have Hf : Hid _ := Lib.hid hf
            clear hf
            cases hg : isBig (g (13 + k)) with
            | true =>
              have Hg : Hid _ := Lib.hid hg
              clear hg
              go_wp2_with (first
                | (go_at_call 4; refine (big_is _ _).mono ?_; rintro r w2 ⟨rfl, rfl⟩; first | rw [Hf.out] | rw [Hg.out])
                | (go_at_call 5; refine (Hlives.out _ hw).mono ?_; rintro r w2 ⟨rfl, hw2⟩))
              go_ret
              exact ⟨rfl, hw2⟩
            | false =>
              have Hg : Hid _ := Lib.hid hg
              clear hg
              go_wp2_with (first
                | (go_at_call 4; refine (big_is _ _).mono ?_; rintro r w2 ⟨rfl, rfl⟩; first | rw [Hf.out] | rw [Hg.out])
                | (go_at_call 5; refine (Hlives.out _ hw).mono ?_; rintro r w2 ⟨rfl, hw2⟩))
              go_roundw
              case rel =>
                refine ⟨k + 1, by omega, by go_num, fun j hj => ?_, hA, hB, hw⟩
                rcases Nat.lt_succ_iff_lt_or_eq.1 hj with h | rfl
                · exact Hs.out j h
                · exact ⟨Hf.out, Hg.out⟩
              case measure => simp [intOf]; omega
        · obtain rfl : k = 16 := by omega
          clear hlt hk
          have ca : wr.cell? ⟨w.heap.size, 29, none⟩ = some (.int .i64 (f 29)) := by rw [hA.cell, ints_get (by omega)]
          have cb : wr.cell? ⟨w.heap.size + 1, 29, none⟩ = some (.int .i64 (g 29)) := by rw [hB.cell, ints_get (by omega)]
          have cc : wr.cell? ⟨w.heap.size, 30, none⟩ = some (.int .i64 (f 30)) := by rw [hA.cell, ints_get (by omega)]
          have cd : wr.cell? ⟨w.heap.size + 1, 30, none⟩ = some (.int .i64 (g 30)) := by rw [hB.cell, ints_get (by omega)]
          cases ha : isBig (f 29) with
          | true =>
            have Ha : Hid _ := Lib.hid ha
            clear ha
            go_wp2_with (first
              | (go_at_call 4; refine (big_is _ _).mono ?_; rintro r w2 ⟨rfl, rfl⟩; first | rw [Ha.out])
              | (go_at_call 5; refine (Hlives.out _ hw).mono ?_; rintro r w2 ⟨rfl, hw2⟩))
            go_ret
            exact ⟨rfl, hw2⟩
          | false =>
            have Ha : Hid _ := Lib.hid ha
            clear ha
            cases hb : isBig (g 29) with
            | true =>
              have Hb : Hid _ := Lib.hid hb
              clear hb
              go_wp2_with (first
                | (go_at_call 4; refine (big_is _ _).mono ?_; rintro r w2 ⟨rfl, rfl⟩; first | rw [Ha.out] | rw [Hb.out])
                | (go_at_call 5; refine (Hlives.out _ hw).mono ?_; rintro r w2 ⟨rfl, hw2⟩))
              go_ret
              exact ⟨rfl, hw2⟩
            | false =>
              have Hb : Hid _ := Lib.hid hb
              clear hb
              cases hc : isBig (f 30) with
              | true =>
                have Hc : Hid _ := Lib.hid hc
                clear hc
                go_wp2_with (first
                  | (go_at_call 4; refine (big_is _ _).mono ?_; rintro r w2 ⟨rfl, rfl⟩; first | rw [Ha.out] | rw [Hb.out] | rw [Hc.out])
                  | (go_at_call 5; refine (Hlives.out _ hw).mono ?_; rintro r w2 ⟨rfl, hw2⟩))
                go_ret
                exact ⟨rfl, hw2⟩
              | false =>
                have Hc : Hid _ := Lib.hid hc
                clear hc
                cases hd : isBig (g 30) with
                | true =>
                  have Hd : Hid _ := Lib.hid hd
                  clear hd
                  go_wp2_with (first
                    | (go_at_call 4; refine (big_is _ _).mono ?_; rintro r w2 ⟨rfl, rfl⟩; first | rw [Ha.out] | rw [Hb.out] | rw [Hc.out] | rw [Hd.out])
                    | (go_at_call 5; refine (Hlives.out _ hw).mono ?_; rintro r w2 ⟨rfl, hw2⟩))
                  go_ret
                  exact ⟨rfl, hw2⟩
                | false =>
                  have Hd : Hid _ := Lib.hid hd
                  clear hd
                  have small : Small f ∧ Small g := by
                    have h1 := S1.out; have h2 := Hs.out; have e1 := Ha.out; have e2 := Hb.out; have e3 := Hc.out; have e4 := Hd.out
                    constructor <;> refine isBig_small fun i hi => ?_
                    all_goals
                      rcases (by omega : i < 13 ∨ (13 ≤ i ∧ i - 13 < 16) ∨ i = 29 ∨ i = 30) with h | ⟨h, h'⟩ | rfl | rfl
                      · first | exact (h1 i h).1 | exact (h1 i h).2
                      · have := h2 (i - 13) h'
                        rw [show 13 + (i - 13) = i by omega] at this
                        first | exact this.1 | exact this.2
                      · assumption
                      · assumption
                  have Hsm : Hid _ := Lib.hid small
                  clear small S1 Hs
                  go_upto_region 13 with (first
                    | (go_at_call 4; refine (big_is _ _).mono ?_; rintro r w2 ⟨rfl, rfl⟩; first | rw [Ha.out] | rw [Hb.out] | rw [Hc.out] | rw [Hd.out])
                    | (go_at_call 5; refine (Hlives.out _ hw).mono ?_; rintro r w2 ⟨rfl, hw2⟩))
                  have hI : Inv f g w _ := ⟨hA, hB, hw⟩
                  obtain ⟨ws, rfl⟩ : ∃ ws : World, ws = w2 := ⟨_, rfl⟩
                  clear hA hB hw ca cb cc cd
                  have HF := Hsm.out.1
                  have HG := Hsm.out.2
                  go_upto_region 15 with (first
                    | (refine wpList_load_mid rfl _ _ rfl w.heap.size 0 rfl (ints .i64 33 f).toList _ hI.ra Try.underlying25 rfl (by rw [Array.length_toList, ints_size]; kernel_rfl) ?_; rw [Array.toArray_toList])
                    | (go_at_call 6; refine (c_total HF hI).mono ?_; rintro r w3 ⟨rfl, hI⟩)
                    | (go_at_call 7; refine (c_sum HF hI).mono ?_; rintro r w3 ⟨rfl, hI⟩))
                  refine wp_region_class (Inv f g w) (by kernel_rfl) (by kernel_rfl) hI.drew ?_
                  repeat (first
                    | go_big_quiet_skip
                    | (go_big_quiet_want; first
                      | (refine quiet_load_mid _ _ rfl w.heap.size 0 rfl (ints .i64 33 f).toList _ (fun _ h => h.ra) Try.underlying25 rfl (by rw [Array.length_toList, ints_size]; kernel_rfl) ?_; simp only [Array.toArray_toList, Act.put, List.setIfInBounds_toArray, List.set_cons_zero, List.set_cons_succ]; go_big_quiet_on)
                      | (refine quiet_load_mid _ _ rfl (w.heap.size + 1) 0 rfl (ints .i64 33 g).toList _ (fun _ h => h.rb) Try.underlying25 rfl (by rw [Array.length_toList, ints_size]; kernel_rfl) ?_; simp only [Array.toArray_toList, Act.put, List.setIfInBounds_toArray, List.set_cons_zero, List.set_cons_succ]; go_big_quiet_on)
                      | (refine quiet_neq_flat _ _ _ _ rfl rfl rfl 10 (by omega) (ks := List.replicate 33 (some (some .i64))) (by kernel_rfl) rfl (by kernel_rfl) Try.underlying32 rfl (by kernel_rfl) (fits_ints _ _ _) (fits_ints _ _ _) ?_; rw [sames_refl (fits_ints _ _ _)]; simp only [Act.put, List.setIfInBounds_toArray, List.set_cons_zero, List.set_cons_succ, Bool.not_true]; go_big_quiet_on)
                      | (go_big_quiet_op; first | go_big_quiet_on | go_big_quiet_call (first | exact fun _ => rfl | exact fun h => c_both HF HG h | exact fun h => c_refBoth HF HG h))))
                  refine wpQuiet_nil ?_
                  intro w5 hI
                  go_upto_region 18 with (fail)
                  go_cut [109] (fun t wx => t = .bool (asked f e) ∧ Inv f g w wx)
                  case first =>
                    by_cases h1 : 0 ≤ e
                    · by_cases h2 : e < 16
                      · by_cases h3 : 0 < sumFrom f 13 16
                        · go_wp2
                          go_meet
                          case rel => exact ⟨congrArg Value.bool (decide_eq_true (p := 0 ≤ e ∧ e < 16 ∧ 0 < sumFrom f 13 16) ⟨h1, h2, h3⟩).symm, hI⟩
                        · go_wp2
                          go_meet
                          case rel => exact ⟨congrArg Value.bool (decide_eq_false (p := 0 ≤ e ∧ e < 16 ∧ 0 < sumFrom f 13 16) (by omega)).symm, hI⟩
                      · go_wp2
                        go_meet
                        case rel => exact ⟨congrArg Value.bool (decide_eq_false (p := 0 ≤ e ∧ e < 16 ∧ 0 < sumFrom f 13 16) (by omega)).symm, hI⟩
                    · go_wp2
                      go_meet
                      case rel => exact ⟨congrArg Value.bool (decide_eq_false (p := 0 ≤ e ∧ e < 16 ∧ 0 < sumFrom f 13 16) (by omega)).symm, hI⟩
                  case rest =>
                    obtain ⟨rfl, hI⟩ := hcut
                    obtain ⟨wv, rfl⟩ : ∃ wv : World, wv = wc := ⟨_, rfl⟩
                    go_upto_if 109 with (fail)
                    go_cut [13] (fun t wx => t = .int .i64 (rate0 f e) ∧ Inv f g w wx)
                    case first =>
                      cases ha : asked f e with
                      | true =>
                        have hx : 0 ≤ e ∧ e < 16 ∧ 0 < sumFrom f 13 16 := of_decide_eq_true ha
                        have hr : Hid (rate0 f e = _) := if_pos ha
                        have Ha : Hid _ := Lib.hid ha
                        clear ha
                        obtain ⟨x1, x2, x3⟩ := hx
                        obtain ⟨y1, y2⟩ := HF (13 + e.toNat) (by omega)
                        have c1 : wv.cell? ⟨w.heap.size, 13 + e.toNat, none⟩ = some (.int .i64 (f (13 + e.toNat))) := by rw [hI.a.cell, ints_get (by omega)]
                        have y3 := HF.sum 13 16 (by omega)
                        go_wp2
                        go_meet
                        case rel => exact ⟨by rw [hr.out], hI⟩
                      | false =>
                        have hr : Hid (rate0 f e = _) := if_neg (by rw [ha]; simp)
                        have Ha : Hid _ := Lib.hid ha
                        clear ha
                        go_wp2
                        go_meet
                        case rel => exact ⟨by rw [hr.out], hI⟩
                    case rest =>
                      obtain ⟨rfl, hI⟩ := hcut
                      obtain ⟨wu, rfl⟩ : ∃ wu : World, wu = wc := ⟨_, rfl⟩
                      go_wp2
                      go_loopw [13, 14] (fun t i wr => ∃ k : Nat, k ≤ 16 ∧ i = .int .i64 k ∧ t = .int .i64 (if neg f k then 0 else rate0 f e) ∧ Inv f g w wr) (fun _ i _ => 16 - (intOf i).toNat)
                      case atStart => exact ⟨0, by omega, rfl, rfl, hI⟩
                      case round =>
                        clear hI
                        obtain ⟨k, hk, rfl, rfl, hI⟩ := hrel
                        by_cases hlt : k < 16
                        · have ca : wr.cell? ⟨w.heap.size, 13 + k, none⟩ = some (.int .i64 (f (13 + k))) := by rw [hI.a.cell, ints_get (by omega)]
                          by_cases h0 : f (13 + k) < 0
                          · have hn : Hid (neg f (k + 1) = true) := (neg_succ f k).trans (by rw [decide_eq_true h0, Bool.or_true])
                            go_wp2
                            go_roundw
                            case rel => exact ⟨k + 1, by omega, by go_num, by rw [hn.out]; rfl, hI⟩
                            case measure => simp [intOf]; omega
                          · have hn : Hid (neg f (k + 1) = neg f k) := (neg_succ f k).trans (by rw [decide_eq_false h0, Bool.or_false])
                            go_wp2
                            go_roundw
                            case rel => exact ⟨k + 1, by omega, by go_num, by rw [hn.out], hI⟩
                            case measure => simp [intOf]; omega
                        · obtain rfl : k = 16 := by omega
                          clear hlt hk
                          have hr : Hid (rateOf f e = _) := rateOf_eq f e
                          generalize (if neg f 16 then (0 : Int) else rate0 f e) = r0 at hr ⊢
                          go_wp2
                          simp only [Int.cast_ofNat_Int]
                          obtain ⟨wt, rfl⟩ : ∃ wt : World, wt = wr := ⟨_, rfl⟩
                          go_loopw [15, 16, 17] (fun b o i wr => ∃ m : Nat, m ≤ 13 ∧ i = .int .i64 ((m : Int) - 1) ∧ b = .int .i64 (down f (13 - m)).1 ∧ o = .bool (down f (13 - m)).2 ∧ Inv f g w wr) (fun _ _ i _ => (intOf i + 1).toNat)
                          case atStart => exact ⟨13, by omega, rfl, rfl, rfl, hI⟩
                          case round =>
                            clear hI
                            obtain ⟨m, hm, rfl, rfl, rfl, hI⟩ := hrel
                            cases m with
                            | zero =>
                              rw [show 13 - 0 = 13 from rfl, down_busy]
                              rw [show ((0 : Nat) : Int) - 1 = -1 from rfl]
                              generalize hq : busy f 13 = q at *
                              obtain ⟨qb, qo⟩ := q
                              have Hq : Hid _ := Lib.hid hq
                              clear hq
                              dsimp only
                              go_wp2_with (first
                                | (refine wpList_load_mid rfl _ _ rfl w.heap.size 0 rfl (ints .i64 33 f).toList _ hI.ra Try.underlying25 rfl (by rw [Array.length_toList, ints_size]; kernel_rfl) ?_; rw [Array.toArray_toList])
                                | (go_at_call 10; refine (c_busiest HF hI).mono ?_; rintro r w3 ⟨rfl, hI⟩; rw [Hq.out])
                                | (go_at_call 11; refine (c_rate HF e hI).mono ?_; rintro r w3 ⟨rfl, hI⟩; rw [hr.out])
                                | (go_at_call 5; refine (c_lives hI).mono ?_; rintro r w3 ⟨rfl, hI⟩))
                              go_ret
                              exact ⟨rfl, hI.below⟩
                            | succ m =>
                              rw [show ((m + 1 : Nat) : Int) - 1 = (m : Int) by omega]
                              have hst : Hid _ := Lib.hid (down_step f m (by omega))
                              have hdl := down_le f (13 - (m + 1))
                              generalize hq : down f (13 - (m + 1)) = q at hst hdl ⊢
                              obtain ⟨b, o⟩ := q
                              clear hq
                              dsimp only at hst hdl ⊢
                              have ck : wr.cell? ⟨w.heap.size, m, none⟩ = some (.int .i64 (f m)) := by rw [hI.a.cell, ints_get (by omega)]
                              have cb : wr.cell? ⟨w.heap.size, b, none⟩ = some (.int .i64 (f b)) := by rw [hI.a.cell, ints_get (by omega)]
                              cases o with
                              | false =>
                                by_cases h1 : 0 < f m
                                · have hs : Hid (down f (13 - m) = (m, true)) := hst.out.trans (if_pos ⟨h1, .inl rfl⟩)
                                  go_upto_region 29 with (fail)
                                  go_quiet (fail)
                                  go_wp2
                                  go_roundw
                                  case rel => exact ⟨m, by omega, rfl, by rw [hs.out], by rw [hs.out], hI.on (below_many (Below.refl _ _) _)⟩
                                  case measure => simp [intOf]
                                · have hd : decide (0 < f m) = false := decide_eq_false h1
                                  have hs : Hid (down f (13 - m) = (b, false)) := hst.out.trans (if_neg (fun h => h1 h.1))
                                  clear h1
                                  go_upto_region 29 with (fail)
                                  go_quiet (fail)
                                  go_wp2
                                  go_roundw
                                  case rel => exact ⟨m, by omega, rfl, by rw [hs.out], by rw [hs.out], hI.on (below_many (Below.refl _ _) _)⟩
                                  case measure => simp [intOf]
                              | true =>
                                by_cases h1 : 0 < f m
                                · by_cases h2 : f b ≤ f m
                                  · have hs : Hid (down f (13 - m) = (m, true)) := hst.out.trans (if_pos ⟨h1, .inr h2⟩)
                                    go_upto_region 29 with (fail)
                                    go_quiet (fail)
                                    go_wp2
                                    go_roundw
                                    case rel => exact ⟨m, by omega, rfl, by rw [hs.out], by rw [hs.out], hI.on (below_many (Below.refl _ _) _)⟩
                                    case measure => simp [intOf]
                                  · have hs : Hid (down f (13 - m) = (b, true)) := hst.out.trans (if_neg (fun h => h.2.elim (fun h => by simp at h) h2))
                                    go_upto_region 29 with (fail)
                                    go_quiet (fail)
                                    go_wp2
                                    go_roundw
                                    case rel => exact ⟨m, by omega, rfl, by rw [hs.out], by rw [hs.out], hI.on (below_many (Below.refl _ _) _)⟩
                                    case measure => simp [intOf]
                                · have hd : decide (0 < f m) = false := decide_eq_false h1
                                  have hs : Hid (down f (13 - m) = (b, true)) := hst.out.trans (if_neg (fun h => h1 h.1))
                                  clear h1
                                  go_upto_region 29 with (fail)
                                  go_quiet (fail)
                                  go_wp2
                                  go_roundw
                                  case rel => exact ⟨m, by omega, rfl, by rw [hs.out], by rw [hs.out], hI.on (below_many (Below.refl _ _) _)⟩
                                  case measure => simp [intOf]

end Go.Proofs.Ytinidnppdkpmnaa
