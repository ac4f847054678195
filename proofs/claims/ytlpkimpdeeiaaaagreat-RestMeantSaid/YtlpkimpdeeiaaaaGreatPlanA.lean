/- Walks of layer 5 (plan): a configuration's plan. -/
import Derived.Test.YtlpkimpdeeiaaaaGreatWalk
import Derived.Test.YtlpkimpdeeiaaaaGreatConfMay
namespace Go.Proofs.YtlpkimpdeeiaaaaGreat
open Go.RowKit
set_option linter.unusedVariables false
set_option linter.unusedSimpArgs false
set_option linter.unnecessarySimpa false

theorem ints14_lit (c : Nat → Int) : ints .i64 14 c = #[.int .i64 (c 0), .int .i64 (c 1), .int .i64 (c 2), .int .i64 (c 3), .int .i64 (c 4), .int .i64 (c 5), .int .i64 (c 6), .int .i64 (c 7), .int .i64 (c 8), .int .i64 (c 9), .int .i64 (c 10), .int .i64 (c 11), .int .i64 (c 12), .int .i64 (c 13)] := rfl
theorem may_has {σ w : World} {M : Mm} (h : Has σ M w) (c : Nat → Int) : Calls Tryz.prog 38 #[confV c] w fun e w' => e = .returned (.bool (confMayB c)) ∧ Has σ M w' :=
  (confMay_any c w).mono fun e w' ⟨he, hb⟩ => ⟨he, h.below hb⟩

/-- How many words of each kind a level has. -/
def many (c : Nat → Int) (k : Nat) : Int := if k < 4 then 1 else if k = 4 then 4 else if k = 5 then 2 else if k = 6 then 8 else if k = 7 then c 11 else if k = 8 then c 10 else c 10 * 5
/-- Where each kind's words begin. -/
def firsts (c : Nat → Int) (k : Nat) : Int := if k < 5 then k else if k = 5 then 8 else if k = 6 then 10 else if k = 7 then 18 else if k = 8 then 18 + c 11 else if k = 9 then 18 + c 11 + c 10 else 18 + c 11 + c 10 + c 10 * 5
theorem firsts_succ (c : Nat → Int) {k : Nat} (h : k < 10) : firsts c (k + 1) = firsts c k + many c k := by
  unfold firsts many
  rcases k with _ | _ | _ | _ | _ | _ | _ | _ | _ | _ | k <;> simp <;> omega
/-- A plan's cells while it is made: the places of the first k kinds. -/
def planAt (c : Nat → Int) (k : Nat) : Nat → Int := fun i => if i < 14 then c i else if i < 24 then many c (i - 14) else if i - 24 ≤ k then firsts c (i - 24) else 0
abbrev planC (c : Nat → Int) : Nat → Int := planAt c 10
abbrev planRow (c : Nat → Int) : Obj := .cells (ints .i64 35 (planC c)) 91
theorem planAt_upd (c : Nat → Int) {k : Nat} (h : k < 10) : upd (planAt c k) (24 + (k + 1)) (firsts c (k + 1)) = planAt c (k + 1) := by
  funext i
  unfold upd planAt
  by_cases e : i = 24 + (k + 1)
  · subst e
    rw [if_pos rfl, if_neg (by omega), if_neg (by omega), if_pos (by omega)]
    congr 1
    omega
  · rw [if_neg e]
    split
    · rfl
    · split
      · rfl
      · by_cases h1 : i - 24 ≤ k
        · rw [if_pos h1, if_pos (by omega)]
        · rw [if_neg h1, if_neg (by omega)]
theorem planC_first (c : Nat → Int) {k : Nat} (h : k ≤ 10) : planC c (24 + k) = firsts c k := by
  unfold planC planAt
  rw [if_neg (by omega), if_neg (by omega), if_pos (by omega)]
  congr 1
  omega
theorem planRow_first (c : Nat → Int) {k : Nat} (h : k ≤ 10) : (ints .i64 35 (planC c))[24 + k]? = some (.int .i64 (firsts c k)) := by rw [ints_get (by omega), planC_first c h]

/-! ### The small ones -/
set_option maxHeartbeats 400000 in
theorem base_any (k : Int) (w : World) : Calls Tryz.prog 83 #[.int .i64 k] w fun e w' => e = .returned (.int .i64 (if k = 8 ∨ k = 9 then 1 else 0)) ∧ w = w' := by
  by_cases h8 : k = 8
  · subst h8
    go_enter Tryz.func83, Tryz.ntmps83
    go_wp2
    go_ret
    exact ⟨rfl, rfl⟩
  · have h8' : (k == 8) = false := by simpa using h8
    by_cases h9 : k = 9
    · subst h9
      go_enter Tryz.func83, Tryz.ntmps83
      go_wp2
      go_ret
      exact ⟨rfl, rfl⟩
    · have h9' : (k == 9) = false := by simpa using h9
      go_enter Tryz.func83, Tryz.ntmps83
      go_wp2
      go_ret
      exact ⟨rfl, rfl⟩

theorem base_has {σ w : World} {M : Mm} (h : Has σ M w) (k b : Int) (hb : (if k = 8 ∨ k = 9 then 1 else 0) = b) : Calls Tryz.prog 83 #[.int .i64 k] w fun e w' => e = .returned (.int .i64 b) ∧ Has σ M w' :=
  (base_any k w).mono fun e w' ⟨he, hw⟩ => ⟨by rw [he, hb], hw ▸ h⟩

set_option maxHeartbeats 400000 in
theorem size_has {σ w : World} {M : Mm} (h : Has σ M w) (c : Nat → Int) {p : Nat} (hp : M p = some (planRow c)) :
    Calls Tryz.prog 72 #[.pointer (some ⟨p, 0, none⟩)] w fun e w' => e = .returned (.int .i64 (firsts c 10)) ∧ Has σ M w' := by
  have c0 : w.cell? ⟨p, 34, none⟩ = some (.int .i64 (firsts c 10)) := (h.cell hp 34).trans (planRow_first c (k := 10) (by omega))
  go_enter Tryz.func72, Tryz.ntmps72
  go_wp2
  go_ret
  exact ⟨rfl, h⟩

set_option maxHeartbeats 400000 in
theorem words_has {σ w : World} {M : Mm} (h : Has σ M w) (c : Nat → Int) (hc : ConfMay c) {p : Nat} (hp : M p = some (planRow c)) :
    Calls Tryz.prog 40 #[.pointer (some ⟨p, 0, none⟩)] w fun e w' => e = .returned (.int .i64 (c 0 * firsts c 10)) ∧ Has σ M w' := by
  obtain ⟨⟨h0, h1⟩, _, _, _, ⟨h2, h3⟩, ⟨h4, h5⟩, _⟩ := hc
  have hb : 0 ≤ firsts c 10 ∧ firsts c 10 ≤ 418 := by unfold firsts; simp; omega
  obtain ⟨hb0, hb1⟩ := hb
  have hmul : 0 ≤ c 0 * firsts c 10 ∧ c 0 * firsts c 10 ≤ 1672 := ⟨Int.mul_nonneg (by omega) hb0, Int.le_trans (Int.mul_le_mul_of_nonneg_right h1 hb0) (by omega)⟩
  have hw : IntKind.i64.wrap (c 0 * firsts c 10) = c 0 * firsts c 10 := IntWalk.i64_in _ (by omega)
  have e0 : (ints .i64 35 (planC c))[0]? = some (.int .i64 (c 0)) := rfl
  have S1 := Lib.hid (fun (w : World) (h : Has σ M w) => size_has h c hp)
  clear hmul
  generalize firsts c 10 = f at hw hb0 hb1 S1
  go_enter Tryz.func40, Tryz.ntmps40
  go_upto_region 3 with (fail)
  refine wp_region_class (Has σ M) (by kernel_rfl) (by kernel_rfl) h.drew ?_
  clear h
  repeat (first
    | go_big_quiet_skip
    | (go_big_quiet_want; first
      | (refine quiet_load_has 3 _ rfl rfl hp e0 Tryz.underlying3 rfl ?_; simp only [Act.put, List.setIfInBounds_toArray, List.set_cons_zero, List.set_cons_succ]; go_big_quiet_on)
      | (go_big_quiet_op; first | go_big_quiet_on | go_big_quiet_call (first | with_reducible exact fun _ => rfl | with_reducible exact S1.out _))))
  refine wpQuiet_nil ?_
  try clear w
  intro w h
  go_wp2
  go_ret
  exact ⟨rfl, h⟩
end Go.Proofs.YtlpkimpdeeiaaaaGreat
