/- The walk of TraceBetween. -/
import Derived.Test.YtenpijejdibjpaaDoorTraceE
import Derived.Test.YtenpijejdibjpaaDoorTraceN
namespace Go.Proofs.YtenpijejdibjpaaDoor
open Go.RowKit
set_option linter.unusedVariables false
set_option linter.unusedSimpArgs false
set_option linter.unnecessarySimpa false

set_option maxHeartbeats 1000000 in
theorem differ_ne {σ w : World} {M : Mm} (h : Has σ M w) (a b : Value) (n m : Nat) {xa xb : List Value} (ha : Rd M 1 a n xa) (hb : Rd M 1 b m xb) (hnm : n ≠ m) :
    Calls Tryd.prog 26 #[a, b] w fun r w' => r = .returned (.tuple #[.slice none 0 0, .bool false]) ∧ Has σ M w' := by
  obtain ⟨A, ac, rfl⟩ := ha.form
  obtain ⟨B, bc, rfl⟩ := hb.form
  clear ha hb
  go_enter Tryd.func26, Tryd.ntmps26
  go_wp2
  go_ret2
  exact ⟨rfl, h⟩
set_option maxHeartbeats 1000000 in
theorem between_ne {σ w : World} {M : Mm} (h : Has σ M w) (a b : Value) (n m : Nat) {xa xb : List Value} (ha : Rd M 1 a n xa) (hb : Rd M 1 b m xb) (hnm : n ≠ m) :
    Calls Tryd.prog 13 #[a, b] w fun r w' => r = .returned (.slice none 0 0) ∧ Has σ M w' := by
  have D := Lib.hid (differ_ne h a b n m ha hb hnm)
  clear ha hb hnm
  go_enter Tryd.func13, Tryd.ntmps13
  go_upto_region 4 with (first
    | (go_at_call 26; refine (D.out).mono ?_; clear h; rintro r w ⟨rfl, h⟩))
  refine wp_loop_rounds 1 ?_
  rw [rounds_succ]
  go_wp2
  go_ret
  exact ⟨rfl, h⟩
set_option maxHeartbeats 1000000 in
theorem refBetween_ne {σ w : World} {M : Mm} (h : Has σ M w) (a b : Value) (n m : Nat) {xa xb : List Value} (ha : Rd M 1 a n xa) (hb : Rd M 1 b m xb) (hnm : n ≠ m) :
    Calls Tryd.prog 14 #[a, b] w fun r w' => r = .returned (.slice none 0 0) ∧ Has σ M w' := by
  obtain ⟨A, ac, rfl⟩ := ha.form
  obtain ⟨B, bc, rfl⟩ := hb.form
  clear ha hb
  have hnm' : ((n : Int) == (m : Int)) = false := by simp; omega
  by_cases h0 : 0 < n
  · go_enter Tryd.func14, Tryd.ntmps14
    go_upto_region 3 with (fail)
    refine wp_loop_rounds 1 ?_
    rw [rounds_succ]
    go_wp2
    go_ret
    exact ⟨rfl, h⟩
  · go_enter Tryd.func14, Tryd.ntmps14
    go_upto_region 3 with (fail)
    refine wp_loop_rounds 1 ?_
    rw [rounds_succ]
    go_wp2
    go_ret
    exact ⟨rfl, h⟩

def betwAll (xs ys : List Int) : List Chg := if xs.length = ys.length then betw xs ys xs.length else []
theorem between_any {σ w : World} {M : Mm} (h : Has σ M w) (a b : Value) (xs ys : List Int) (n m : Nat) (hx : xs.length = n) (hy : ys.length = m) (ha : Rd M 1 a n (u64s xs)) (hb : Rd M 1 b m (u64s ys)) (hn : n ≤ 1000000) :
    Calls Tryd.prog 13 #[a, b] w fun r w' => ∃ v, r = .returned v ∧ Acc σ M w' 66 3 v (betwAll xs ys).length ((betwAll xs ys).flatMap encC) := by
  by_cases e : n = m
  · subst e
    rw [betwAll, if_pos (by omega), hx]
    exact between_eq h a b xs ys n hx hy ha hb hn
  · rw [betwAll, if_neg (by omega)]
    exact (between_ne h a b n m ha hb e).mono fun r w' ⟨hr, hw⟩ => ⟨_, hr, Acc.nil hw _ _⟩
theorem refBetween_any {σ w : World} {M : Mm} (h : Has σ M w) (a b : Value) (xs ys : List Int) (n m : Nat) (hx : xs.length = n) (hy : ys.length = m) (ha : Rd M 1 a n (u64s xs)) (hb : Rd M 1 b m (u64s ys)) (hn : n ≤ 1000000) :
    Calls Tryd.prog 14 #[a, b] w fun r w' => ∃ v, r = .returned v ∧ Acc σ M w' 67 3 v (betwAll xs ys).length ((betwAll xs ys).flatMap encC) := by
  by_cases e : n = m
  · subst e
    rw [betwAll, if_pos (by omega), hx]
    exact refBetween_eq h a b xs ys n hx hy ha hb hn
  · rw [betwAll, if_neg (by omega)]
    exact (refBetween_ne h a b n m ha hb e).mono fun r w' ⟨hr, hw⟩ => ⟨_, hr, Acc.nil hw _ _⟩
theorem betwAll_le (xs ys : List Int) : (betwAll xs ys).length ≤ xs.length := by
  unfold betwAll
  split
  · exact betw_le _ _ _
  · simp

theorem same_self {σ w : World} {M : Mm} (h : Has σ M w) (a b : Value) (xs : List Chg) (n m : Nat) (hx : xs.length = n) (hy : xs.length = m) (ha : Rd M 3 a n (xs.flatMap encC)) (hb : Rd M 3 b m (xs.flatMap encC)) (hn : n ≤ 1000000) :
    Calls Tryd.prog 12 #[a, b] w fun r w' => r = .returned (.bool true) ∧ Has σ M w' := by
  have := same_eq h a b xs xs n m hx hy ha hb hn (by omega)
  rwa [decide_eq_true rfl] at this
theorem refSame_self {σ w : World} {M : Mm} (h : Has σ M w) (a b : Value) (xs : List Int) (n m : Nat) (hx : xs.length = n) (hy : xs.length = m) (ha : Rd M 1 a n (u64s xs)) (hb : Rd M 1 b m (u64s xs)) (hn : n ≤ 1000000) :
    Calls Tryd.prog 15 #[a, b] w fun r w' => r = .returned (.bool true) ∧ Has σ M w' := by
  have := refSame_eq h a b xs xs n m hx hy ha hb hn (by omega)
  rwa [decide_eq_true rfl] at this
theorem rep_length : ∀ (l : List Chg) (xs ys : List Int), rep xs l = some ys → ys.length = xs.length
  | [], xs, ys, h => by cases h; rfl
  | c :: l, xs, ys, h => by
    unfold rep at h
    rw [List.foldlM_cons] at h
    cases h1 : rep1 xs c with
    | none => rw [h1] at h; cases h
    | some zs =>
      rw [h1] at h
      rw [rep_length l zs ys h, rep1_length h1]
theorem repVal_le (xs : List Int) (l : List Chg) : (repVal (rep xs l)).2.length ≤ xs.length := by
  cases h : rep xs l with
  | none => simp [repVal]
  | some ys => simp [repVal, rep_length l xs ys h]

set_option maxHeartbeats 1000000 in
theorem traceBetween_big {σ w : World} {M : Mm} (h : Has σ M w) (a b l : Value) (n m k : Nat) {xa xb xl : List Value} (ha : Rd M 1 a n xa) (hb : Rd M 1 b m xb) (hl : Rd M 3 l k xl) (hbig : 300 < n ∨ 300 < m ∨ 300 < k) :
    Calls Tryd.prog 4 #[a, b, l] w fun r w' => r = .returned (.bool true) ∧ Has σ M w' := by
  obtain ⟨A, ac, rfl⟩ := ha.form
  obtain ⟨B, bc, rfl⟩ := hb.form
  obtain ⟨L, lc, rfl⟩ := hl.form
  have LV := Lib.hid (fun (M : Mm) (w : World) (h : Has σ M w) => lives_has h)
  clear ha hb hl
  by_cases h1 : 300 < n
  · clear hbig
    go_enter Tryd.func4, Tryd.ntmps4
    go_wp2_with (first
      | (go_at_call 8; refine (LV.out _ _ h).mono ?_; clear h; rintro e w ⟨rfl, h⟩))
    go_ret
    exact ⟨rfl, h⟩
  · by_cases h2 : 300 < m
    · clear hbig
      go_enter Tryd.func4, Tryd.ntmps4
      go_wp2_with (first
        | (go_at_call 8; refine (LV.out _ _ h).mono ?_; clear h; rintro e w ⟨rfl, h⟩))
      go_ret
      exact ⟨rfl, h⟩
    · have h3 : 300 < k := by omega
      clear hbig
      go_enter Tryd.func4, Tryd.ntmps4
      go_wp2_with (first
        | (go_at_call 8; refine (LV.out _ _ h).mono ?_; clear h; rintro e w ⟨rfl, h⟩))
      go_ret
      exact ⟨rfl, h⟩

set_option maxHeartbeats 2000000 in
theorem traceBetween_small {σ w : World} {M : Mm} (h : Has σ M w) (a b l : Value) (n m k : Nat) (xs ys : List Int) (ls : List Chg) (hx : xs.length = n) (hy : ys.length = m) (hls : ls.length = k)
    (ha : Rd M 1 a n (u64s xs)) (hb : Rd M 1 b m (u64s ys)) (hl : Rd M 3 l k (ls.flatMap encC)) (hn : n ≤ 300) (hm : m ≤ 300) (hk : k ≤ 300) :
    Calls Tryd.prog 4 #[a, b, l] w fun r w' => r = .returned (.bool true) ∧ Has σ M w' := by
  obtain ⟨A, ac, rfl⟩ := ha.form
  obtain ⟨B, bc, rfl⟩ := hb.form
  obtain ⟨L, lc, rfl⟩ := hl.form
  have LV := Lib.hid (fun (M : Mm) (w : World) (h : Has σ M w) => lives_has h)
  have HX := Lib.hid hx
  have HY := Lib.hid hy
  have HL := Lib.hid hls
  have u1 := u64s_one xs
  have bl := betwAll_le xs ys
  have BT := Lib.hid (fun (M : Mm) (w : World) (h : Has σ M w) (a b : Value) ha hb => between_any h a b xs ys n m hx hy ha hb (by omega))
  have RB := Lib.hid (fun (M : Mm) (w : World) (h : Has σ M w) (a b : Value) ha hb => refBetween_any h a b xs ys n m hx hy ha hb (by omega))
  have h1 : ¬ 300 < n := by omega
  have h2 : ¬ 300 < m := by omega
  have h3 : ¬ 300 < k := by omega
  have hbl : (betwAll xs ys).length ≤ 1000000 := by omega
  clear hx hy hls bl
  go_enter Tryd.func4, Tryd.ntmps4
  go_upto_region 4 with (first
    | (at_builtin; refine wpList_append_rd (h.alloc _) (Mm.le_upd' h.fresh _) rfl _ _ _ rfl Tryd.underlying32 info_u64 rfl (by omega) rfl (Own.made h.fresh 0 rfl (by decide)) rfl (ha.le (Mm.le_upd' h.fresh _)) u1 (by omega) (by omega) ?_; clear h; intro v w hacc))
  obtain ⟨M1, h, hle, hwas⟩ := hacc
  simp only [Nat.zero_add, List.nil_append] at hwas
  replace hwas := hwas.rd
  obtain ⟨WA, wc, rfl⟩ := hwas.form
  clear u1
  go_upto_region 5 with (first
    | (go_at_call 9; refine (replay_eq h _ _ xs ls n k HX.out HL.out (ha.le hle) (hl.le hle) (by omega) (by omega)).mono ?_; clear h; rintro r w ⟨v, rfl, M2, h, hle2, hv⟩))
  replace hle := Mm.le_trans hle hle2
  replace hwas := hwas.le hle2
  have hv := hv.rd
  obtain ⟨VA, vc, rfl⟩ := hv.form
  go_upto_region 6 with (first
    | (go_at_call 11; refine (changes_eq h _ ls k HL.out (hl.le hle) (by omega)).mono ?_; clear h; rintro r w ⟨v3, rfl, M3, h, hle3, hv3⟩; replace hle := Mm.le_trans hle hle3; replace hwas := hwas.le hle3; replace hv := hv.le hle3; replace hv3 := hv3.rd)
    | (go_at_call 10; refine (refReplay_eq h _ _ xs ls n k HX.out HL.out hwas hv3 (by omega) (by omega)).mono ?_; clear h; rintro r w ⟨v4, rfl, M4, h, hle4, hv4⟩))
  replace hle := Mm.le_trans hle hle4
  replace hwas := hwas.le hle4
  replace hv := hv.le hle4
  replace hv4 := hv4.rd
  have hz : (repVal (rep xs ls)).2.length ≤ 1000000 := by have := repVal_le xs ls; have := HX.out; omega
  generalize (repVal (rep xs ls)).1 = ok at *
  generalize (repVal (rep xs ls)).2 = zs at *
  clear hle2 hle4
  generalize betwAll xs ys = bs at *
  cases ok
  all_goals
    go_wp2_with (first
      | (go_at_call 13; refine (BT.out _ _ h _ _ (ha.le hle) (hb.le hle)).mono ?_; clear h; rintro r w ⟨v5, rfl, M5, h, hle5, hv5⟩; replace hle := Mm.le_trans hle hle5; replace hwas := hwas.le hle5; replace hv := hv.le hle5; replace hv4 := hv4.le hle5; replace hv5 := hv5.rd)
      | (go_at_call 11; refine (changes_eq h _ bs bs.length rfl hv5 hbl).mono ?_; clear h; rintro r w ⟨v6, rfl, M6, h, hle6, hv6⟩; replace hle := Mm.le_trans hle hle6; replace hwas := hwas.le hle6; replace hv := hv.le hle6; replace hv4 := hv4.le hle6; replace hv6 := hv6.rd)
      | (go_at_call 14; refine (RB.out _ _ h _ _ (ha.le hle) (hb.le hle)).mono ?_; clear h; rintro r w ⟨v7, rfl, M7, h, hle7, hv7⟩; replace hle := Mm.le_trans hle hle7; replace hwas := hwas.le hle7; replace hv := hv.le hle7; replace hv4 := hv4.le hle7; replace hv6 := hv6.le hle7; replace hv7 := hv7.rd)
      | (go_at_call 12; refine (same_self h _ _ bs _ _ rfl rfl hv6 hv7 hbl).mono ?_; clear h; rintro r w ⟨rfl, h⟩)
      | (go_at_call_of 15 v4; refine (refSame_self h _ _ zs _ _ rfl rfl hv hv4 hz).mono ?_; clear h; rintro r w ⟨rfl, h⟩)
      | (go_at_call 15; refine (refSame_self h _ _ xs n n HX.out HX.out (ha.le hle) hwas (by omega)).mono ?_; clear h; rintro r w ⟨rfl, h⟩)
      | (go_at_call 8; refine (LV.out _ _ h).mono ?_; clear h; rintro r w ⟨rfl, h⟩))
    go_ret
    exact ⟨rfl, h.le hle⟩
end Go.Proofs.YtenpijejdibjpaaDoor
