/- The rate of an error, and the op that is called most. -/
import Derived.Test.YtinidnppdkpmnaaStatsB
import Derived.Deep.QuietTactic
import Derived.BigQuiet
namespace Go.Proofs.Ytinidnppdkpmnaa
open Go.RowKit

/-- Is one of the first k errors' counts below 0? -/
def neg (c : Nat → Int) (k : Nat) : Bool := (List.range k).any fun i => decide (c (13 + i) < 0)
theorem neg_succ (c : Nat → Int) (k : Nat) : neg c (k + 1) = (neg c k || decide (c (13 + k) < 0)) := by
  simp [neg, List.range_succ]
/-- The rate. -/
def rateOf (c : Nat → Int) (e : Int) : Int :=
  if neg c 16 then 0 else if sumFrom c 13 16 ≤ 0 ∨ e < 0 ∨ 16 ≤ e then 0 else (c (13 + e.toNat) * 1000).tdiv (sumFrom c 13 16)

set_option maxHeartbeats 400000 in
theorem rate_any (c : Nat → Int) (e : Int) (w : World) (hc : Small c) :
    Calls Try.prog 11 #[.agg (ints .i64 33 c), .int .i64 e] w fun r w' => r = .returned (.int .i64 (rateOf c e)) ∧ Below w.heap.size w w' := by
  have Hc : Hid _ := Lib.hid hc
  clear hc
  go_enter Try.func11, Try.ntmps11
  go_wp2
  go_loop [5, 8] (fun u i => ∃ k : Nat, k ≤ 16 ∧ i = .int .i64 k ∧ neg c k = false) (fun _ i => 16 - (intOf i).toNat)
  case atStart => exact ⟨0, by omega, rfl, rfl⟩
  case round =>
    obtain ⟨k, hk, rfl, hn⟩ := hrel
    have Hn : Hid _ := Lib.hid hn
    clear hn
    by_cases hlt : k < 16
    · have hcell : (ints .i64 33 c)[13 + k]? = some (.int .i64 (c (13 + k))) := ints_get (by omega)
      by_cases h0 : c (13 + k) < 0
      · go_wp2
        go_ret
        have hneg : neg c 16 = true := by
          simp only [neg, List.any_eq_true]
          exact ⟨k, by simpa using hlt, by simpa using h0⟩
        exact ⟨by rw [rateOf, if_pos hneg]; rfl, (Below.refl _ _).alloc (Nat.le_refl _) _⟩
      · go_wp2
        go_round
        case rel => exact ⟨k + 1, by omega, by go_num, by rw [neg_succ, Hn.out, decide_eq_false (by omega)]; rfl⟩
        case measure => simp [intOf]; omega
    · obtain rfl : k = 16 := by omega
      have hcl := fun h => ints_get (k := .i64) (n := 33) (c := c) (i := 13 + e.toNat) h
      have Hl : Hid _ := Lib.hid hcl
      clear hcl
      obtain ⟨b1, b2⟩ := Hc.out.sum 13 16 (by omega)
      have hr : rateOf c e = if sumFrom c 13 16 ≤ 0 ∨ e < 0 ∨ 16 ≤ e then 0 else (c (13 + e.toNat) * 1000).tdiv (sumFrom c 13 16) := by rw [rateOf, Hn.out]; simp
      have Hr : Hid _ := Lib.hid hr
      clear hr
      by_cases h1 : sumFrom c 13 16 ≤ 0
      · go_wp2_with (first
          | (refine wpList_load_row rfl _ _ rfl _ rfl _ _ _ _ (Blk.new (w := w) (cs := ints .i64 33 c)) Try.underlying25 rfl (by rw [ints_size]; kernel_rfl) ?_)
          | (go_at_call 6; refine (total_any c _ Hc.out).mono ?_; rintro r w1 ⟨rfl, rfl⟩))
        go_ret
        exact ⟨by rw [Hr.out, if_pos (.inl h1)]; rfl, ((Below.refl _ _).alloc (Nat.le_refl _) _).alloc (by simp) _⟩
      · by_cases h2 : e < 0
        · go_wp2_with (first
            | (refine wpList_load_row rfl _ _ rfl _ rfl _ _ _ _ (Blk.new (w := w) (cs := ints .i64 33 c)) Try.underlying25 rfl (by rw [ints_size]; kernel_rfl) ?_)
            | (go_at_call 6; refine (total_any c _ Hc.out).mono ?_; rintro r w1 ⟨rfl, rfl⟩))
          go_ret
          exact ⟨by rw [Hr.out, if_pos (.inr (.inl h2))]; rfl, ((Below.refl _ _).alloc (Nat.le_refl _) _).alloc (by simp) _⟩
        · by_cases h3 : 16 ≤ e
          · go_wp2_with (first
              | (refine wpList_load_row rfl _ _ rfl _ rfl _ _ _ _ (Blk.new (w := w) (cs := ints .i64 33 c)) Try.underlying25 rfl (by rw [ints_size]; kernel_rfl) ?_)
              | (go_at_call 6; refine (total_any c _ Hc.out).mono ?_; rintro r w1 ⟨rfl, rfl⟩))
            go_ret
            exact ⟨by rw [Hr.out, if_pos (.inr (.inr h3))]; rfl, ((Below.refl _ _).alloc (Nat.le_refl _) _).alloc (by simp) _⟩
          · have hcell := Hl.out (by omega)
            obtain ⟨b3, b4⟩ := Hc.out (13 + e.toNat) (by omega)
            go_wp2_with (first
              | (refine wpList_load_row rfl _ _ rfl _ rfl _ _ _ _ (Blk.new (w := w) (cs := ints .i64 33 c)) Try.underlying25 rfl (by rw [ints_size]; kernel_rfl) ?_)
              | (go_at_call 6; refine (total_any c _ Hc.out).mono ?_; rintro r w1 ⟨rfl, rfl⟩))
            go_ret
            exact ⟨by rw [Hr.out, if_neg (by omega)]; rfl, ((Below.refl _ _).alloc (Nat.le_refl _) _).alloc (by simp) _⟩

/-- Which op is called most among the first k, and whether any is. -/
def busy (c : Nat → Int) : Nat → Nat × Bool
  | 0 => (0, false)
  | k + 1 => if 0 < c k ∧ ((busy c k).2 = false ∨ c (busy c k).1 < c k) then (k, true) else busy c k
theorem busy_succ (c : Nat → Int) (k : Nat) : busy c (k + 1) = if 0 < c k ∧ ((busy c k).2 = false ∨ c (busy c k).1 < c k) then (k, true) else busy c k := rfl
theorem busy_le (c : Nat → Int) (k : Nat) : (busy c k).1 ≤ k := by
  induction k with
  | zero => simp [busy]
  | succ k ih => simp only [busy]; split <;> (try simp only) <;> omega

set_option maxHeartbeats 400000 in
theorem busiest_any (c : Nat → Int) (w : World) (hc : Small c) :
    Calls Try.prog 10 #[.agg (ints .i64 33 c)] w fun r w' => r = .returned (.tuple #[.int .i64 (busy c 13).1, .bool (busy c 13).2]) ∧ Below w.heap.size w w' := by
  have Hc : Hid _ := Lib.hid hc
  clear hc
  go_enter Try.func10, Try.ntmps10
  go_wp2
  go_loopw [4, 5, 6, 7] (fun b o u i wr => ∃ k : Nat, k ≤ 13 ∧ i = .int .i64 k ∧ b = .int .i64 (busy c k).1 ∧ o = .bool (busy c k).2 ∧ Blk wr w.heap.size (ints .i64 33 c) 25 ∧ Below w.heap.size w wr) (fun _ _ _ i _ => 13 - (intOf i).toNat)
  case atStart => exact ⟨0, by omega, rfl, rfl, rfl, Blk.new, (Below.refl _ _).alloc (Nat.le_refl _) _⟩
  case round =>
    obtain ⟨k, hk, rfl, rfl, rfl, hA, hw⟩ := hrel
    have hbl := busy_le c k
    have Hs : Hid _ := Lib.hid (busy_succ c k)
    generalize hq : busy c k = q at Hs hbl ⊢
    obtain ⟨b, o⟩ := q
    have Hq : Hid _ := Lib.hid hq
    clear hq
    dsimp only at Hs hbl ⊢
    by_cases hlt : k < 13
    · have ck : wr.cell? ⟨w.heap.size, k, none⟩ = some (.int .i64 (c k)) := by rw [hA.cell, ints_get (by omega)]
      have cb : wr.cell? ⟨w.heap.size, b, none⟩ = some (.int .i64 (c b)) := by rw [hA.cell, ints_get (by omega)]
      obtain ⟨b1, b2⟩ := Hc.out k (by omega)
      obtain ⟨b3, b4⟩ := Hc.out b (by omega)
      cases o with
      | false =>
        by_cases h1 : 0 < c k
        · have hs : Hid (busy c (k + 1) = (k, true)) := Hs.out.trans (if_pos ⟨h1, .inl rfl⟩)
          go_upto_region 5 with (fail)
          go_quiet (fail)
          go_wp2
          go_roundw
          case rel => exact ⟨k + 1, by omega, by go_num, by rw [hs.out], by rw [hs.out], hA.drewN _, below_many hw _⟩
          case measure => simp [intOf]; omega
        · have hd : decide (0 < c k) = false := by simpa using h1
          have hs : Hid (busy c (k + 1) = (b, false)) := Hs.out.trans (if_neg (fun h => h1 h.1))
          clear h1
          go_upto_region 5 with (fail)
          go_quiet (fail)
          go_wp2
          go_roundw
          case rel => exact ⟨k + 1, by omega, by go_num, by rw [hs.out], by rw [hs.out], hA.drewN _, below_many hw _⟩
          case measure => simp [intOf]; omega
      | true =>
        by_cases h1 : 0 < c k
        · by_cases h2 : c b < c k
          · have hs : Hid (busy c (k + 1) = (k, true)) := Hs.out.trans (if_pos ⟨h1, .inr h2⟩)
            go_upto_region 5 with (fail)
            go_quiet (fail)
            go_wp2
            go_roundw
            case rel => exact ⟨k + 1, by omega, by go_num, by rw [hs.out], by rw [hs.out], hA.drewN _, below_many hw _⟩
            case measure => simp [intOf]; omega
          · have hs : Hid (busy c (k + 1) = (b, true)) := Hs.out.trans (if_neg (fun h => h.2.elim (fun h => by simp at h) h2))
            go_upto_region 5 with (fail)
            go_quiet (fail)
            go_wp2
            go_roundw
            case rel => exact ⟨k + 1, by omega, by go_num, by rw [hs.out], by rw [hs.out], hA.drewN _, below_many hw _⟩
            case measure => simp [intOf]; omega
        · have hd : decide (0 < c k) = false := by simpa using h1
          have hs : Hid (busy c (k + 1) = (b, true)) := Hs.out.trans (if_neg (fun h => h1 h.1))
          clear h1
          go_upto_region 5 with (fail)
          go_quiet (fail)
          go_wp2
          go_roundw
          case rel => exact ⟨k + 1, by omega, by go_num, by rw [hs.out], by rw [hs.out], hA.drewN _, below_many hw _⟩
          case measure => simp [intOf]; omega
    · obtain rfl : k = 13 := by omega
      go_wp2
      go_ret2
      exact ⟨by rw [Hq.out]; rfl, hw⟩

end Go.Proofs.Ytinidnppdkpmnaa
