import Derived.Test.YtjeeldacnllipaaGreatLpWalk
import Derived.Test.YtjeeldacnllipaaGreatLpConfMay
namespace Go.Proofs.YtjeeldacnllipaaGreat
set_option maxHeartbeats 100000000
set_option maxRecDepth 20000
set_option linter.unusedVariables false
set_option linter.unusedSimpArgs false
set_option linter.unnecessarySimpa false
open List renaming setIfInBounds_toArray → qD, set_cons_zero → qE, set_cons_succ → qF
section
open Go.RowKit
theorem vD (c : Nat → Int) : ints .i64 14 c = #[.int .i64 (c 0), .int .i64 (c 1), .int .i64 (c 2), .int .i64 (c 3), .int .i64 (c 4), .int .i64 (c 5), .int .i64 (c 6), .int .i64 (c 7), .int .i64 (c 8), .int .i64 (c 9), .int .i64 (c 10), .int .i64 (c 11), .int .i64 (c 12), .int .i64 (c 13)] := rfl
theorem may_has {σ w : World} {M : Mm} (h : Has σ M w) (c : Nat → Int) : Calls Tryz.prog 84 #[yM c] w fun e w' => e = .returned (.bool (yP c)) ∧ Has σ M w' :=
 (qZ c w).mono fun e w' ⟨he, hb⟩ => ⟨he, h.below hb⟩
def many (c : Nat → Int) (k : Nat) : Int := if k < 4 then 1 else if k = 4 then 4 else if k = 5 then 2 else if k = 6 then 8 else if k = 7 then c 11 else if k = 8 then c 10 else c 10 * 5
def zQ (c : Nat → Int) (k : Nat) : Int := if k < 5 then k else if k = 5 then 8 else if k = 6 then 10 else if k = 7 then 18 else if k = 8 then 18 + c 11 else if k = 9 then 18 + c 11 + c 10 else 18 + c 11 + c 10 + c 10 * 5
theorem tN (c : Nat → Int) {k : Nat} (h : k < 10) : zQ c (k + 1) = zQ c k + many c k := by
 unfold zQ many
 rcases k with _ | _ | _ | _ | _ | _ | _ | _ | _ | _ | k <;> simp <;> omega
def vG (c : Nat → Int) (k : Nat) : Nat → Int := fun i => if i < 14 then c i else if i < 24 then many c (i - 14) else if i - 24 ≤ k then zQ c (i - 24) else 0
abbrev pQ (c : Nat → Int) : Nat → Int := vG c 10
abbrev xK (c : Nat → Int) : Obj := .cells (ints .i64 35 (pQ c)) 150
theorem planAt_upd (c : Nat → Int) {k : Nat} (h : k < 10) : upd (vG c k) (24 + (k + 1)) (zQ c (k + 1)) = vG c (k + 1) := by
 funext i
 unfold upd vG
 by_cases e : i = 24 + (k + 1)
 ·subst e
  rw [if_pos rfl, if_neg (by omega), if_neg (by omega), if_pos (by omega)]
  congr 1
  omega
 rw [if_neg e]
 split
 ·rfl
 split
 ·rfl
 by_cases h1 : i - 24 ≤ k
 ·rw [if_pos h1, if_pos (by omega)]
 rw [if_neg h1, if_neg (by omega)]
theorem planC_first (c : Nat → Int) {k : Nat} (h : k ≤ 10) : pQ c (24 + k) = zQ c k := by
 unfold pQ vG
 rw [if_neg (by omega), if_neg (by omega), if_pos (by omega)]
 congr 1
 omega
theorem uY (c : Nat → Int) {k : Nat} (h : k ≤ 10) : (ints .i64 35 (pQ c))[24 + k]? = some (.int .i64 (zQ c k)) := by rw [yH (by omega), planC_first c h]
theorem base_any (k : Int) (w : World) : Calls Tryz.prog 134 #[.int .i64 k] w fun e w' => e = .returned (.int .i64 (if k = 8 ∨ k = 9 then 1 else 0)) ∧ w = w' := by
 by_cases h8 : k = 8
 ·subst h8
  go_enter Tryz.func134, Tryz.ntmps134
  go_wp2
  go_ret
  exact ⟨rfl, rfl⟩
 have h8' : (k == 8) = false := by simpa using h8
 by_cases h9 : k = 9
 ·subst h9
  go_enter Tryz.func134, Tryz.ntmps134
  go_wp2
  go_ret
  exact ⟨rfl, rfl⟩
 have h9' : (k == 9) = false := by simpa using h9
 go_enter Tryz.func134, Tryz.ntmps134
 go_wp2
 go_ret
 exact ⟨rfl, rfl⟩
theorem kY {σ w : World} {M : Mm} (h : Has σ M w) (k b : Int) (hb : (if k = 8 ∨ k = 9 then 1 else 0) = b) : Calls Tryz.prog 134 #[.int .i64 k] w fun e w' => e = .returned (.int .i64 b) ∧ Has σ M w' :=
 (base_any k w).mono fun e w' ⟨he, hw⟩ => ⟨by rw [he, hb], hw ▸ h⟩
theorem mP {σ w : World} {M : Mm} (h : Has σ M w) (c : Nat → Int) {p : Nat} (hp : M p = some (xK c)) :
  Calls Tryz.prog 117 #[.pointer (some ⟨p, 0, none⟩)] w fun e w' => e = .returned (.int .i64 (zQ c 10)) ∧ Has σ M w' := by
 have c0 : w.cell? ⟨p, 34, none⟩ = some (.int .i64 (zQ c 10)) := (h.cell hp 34).trans (uY c (k := 10) (by omega))
 go_enter Tryz.func117, Tryz.ntmps117
 go_wp2
 go_ret
 exact ⟨rfl, h⟩
theorem oM {σ w : World} {M : Mm} (h : Has σ M w) (c : Nat → Int) (hc : zF c) {p : Nat} (hp : M p = some (xK c)) :
  Calls Tryz.prog 86 #[.pointer (some ⟨p, 0, none⟩)] w fun e w' => e = .returned (.int .i64 (c 0 * zQ c 10)) ∧ Has σ M w' := by
 obtain ⟨⟨h0, h1⟩, _, _, _, ⟨h2, h3⟩, ⟨h4, h5⟩, _⟩ := hc
 have hb : 0 ≤ zQ c 10 ∧ zQ c 10 ≤ 418 := by unfold zQ; simp; omega
 obtain ⟨hb0, hb1⟩ := hb
 have hmul : 0 ≤ c 0 * zQ c 10 ∧ c 0 * zQ c 10 ≤ 1672 := ⟨Int.mul_nonneg (by omega) hb0, Int.le_trans (Int.mul_le_mul_of_nonneg_right h1 hb0) (by omega)⟩
 have hw : IntKind.i64.wrap (c 0 * zQ c 10) = c 0 * zQ c 10 := IntWalk.i64_in _ (by omega)
 have e0 : (ints .i64 35 (pQ c))[0]? = some (.int .i64 (c 0)) := rfl
 have S1 := Lib.hid (fun (w : World) (h : Has σ M w) => mP h c hp)
 clear hmul
 generalize zQ c 10 = f at hw hb0 hb1 S1
 go_enter Tryz.func86, Tryz.ntmps86
 go_upto_region 3 with (fail)
 refine zS (Has σ M) (by kernel_rfl) (by kernel_rfl) h.drew ?_
 clear h
 repeat (first
  | go_big_quiet_skip
  | (go_big_quiet_want; first
   | (refine zX 3 _ rfl rfl hp e0 Tryz.underlying3 rfl ?_; simp only [Act.put, qD, qE, qF]; go_big_quiet_on)
   | (go_big_quiet_op; first | go_big_quiet_on | go_big_quiet_call (first | with_reducible exact fun _ => rfl | with_reducible exact S1.out _))))
 refine wpQuiet_nil ?_
 try clear w
 intro w h
 go_wp2
 go_ret
 exact ⟨rfl, h⟩
end
end Go.Proofs.YtjeeldacnllipaaGreat
