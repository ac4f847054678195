/- Layer 3 (handle): what Cells have: Hold, Cell, Kind, What, Old, for every word. -/
import Derived.Test.YtlpkimpdeeiaaaaGreatLinks
namespace Go.Proofs.YtlpkimpdeeiaaaaGreat
open Go.RowKit
set_option linter.unusedVariables false
set_option linter.unusedSimpArgs false
set_option linter.unnecessarySimpa false
theorem mask_one (a : Nat) : maskN a 1 = 2 ^ a := by unfold maskN; omega
def oneB (x a : Nat) : Bool := decide (cutN x a 1 = 1)
theorem fieldHas_any (x a : Nat) (hx : x < 18446744073709551616) (ha : a < 64) (w : World) : Calls Tryz.prog 75 #[.int .u64 x, .int .i64 a] w fun r w' => r = .returned (.bool (oneB x a)) ∧ w = w' := by
  have C := Lib.hid (fieldCut_any x a 1 hx (by omega) (by omega))
  have e : (((cutN x a 1 : Nat) : Int) == 1) = oneB x a := by
    unfold oneB
    rw [Bool.eq_iff_iff, beq_iff_eq, decide_eq_true_eq]; omega
  have E := Lib.hid e
  clear e
  generalize cutN x a 1 = y at *
  clear hx ha
  go_enter Tryz.func75, Tryz.ntmps75
  go_wp2_with (first
    | (go_at_call 34; refine (C.out _).mono ?_; rintro r w' ⟨rfl, rfl⟩))
  go_ret
  exact ⟨by rw [← E.out]; rfl, rfl⟩
/-- What a thread holds; what a Cell has. -/
def mkHold (t : Nat) : Nat := 2 ^ 63 + cutN t 0 8
def mkCell (s g l : Nat) : Nat := 2 ^ 62 + setN (setN (cutN s 0 8) 8 24 g) 32 30 l
def kindN (x : Nat) : Nat := if x = 0 then 0 else if oneB x 63 then 1 else 2
def whatV (x : Nat) : Array Value := if kindN x = 2 then #[.int .i64 (cutN x 0 8 : Nat), .int .i64 (cutN x 8 24 : Nat), .int .u64 (cutN x 32 30 : Nat)] else #[.int .i64 0, .int .i64 0, .int .u64 0]
def oldB (l e : Nat) : Bool := decide (2 ≤ e) && decide (l + 2 ≤ e)
theorem set_small {x a s n : Nat} (hx : x < 2 ^ (a + s)) : setN x a s n < 2 ^ (a + s) := by
  unfold setN
  rw [Nat.div_eq_of_lt hx, Nat.mul_zero, Nat.zero_add, Nat.pow_add]
  have h1 : n % 2 ^ s < 2 ^ s := Nat.mod_lt _ (Nat.pow_pos (by decide))
  have h2 : x % 2 ^ a < 2 ^ a := Nat.mod_lt _ (Nat.pow_pos (by decide))
  have h3 : 2 ^ a * (n % 2 ^ s + 1) ≤ 2 ^ a * 2 ^ s := Nat.mul_le_mul_left _ h1
  rw [Nat.mul_add] at h3
  omega
theorem handleKind_any (x : Nat) (hx : x < 18446744073709551616) (w : World) : Calls Tryz.prog 65 #[.int .u64 x] w fun r w' => r = .returned (.int .i64 (kindN x : Nat)) ∧ w = w' := by
  by_cases h0 : x = 0
  · subst h0
    go_enter Tryz.func65, Tryz.ntmps65
    go_wp2
    go_ret
    exact ⟨rfl, rfl⟩
  · have g : ((x : Int) == 0) = false := beq_eq_false_iff_ne.2 (by omega)
    have H := Lib.hid (fieldHas_any x 63 hx (by decide))
    obtain ⟨b, hb⟩ : ∃ b, oneB x 63 = b := ⟨_, rfl⟩
    have E : Hid (kindN x = if b then 1 else 2) := Lib.hid (by unfold kindN; rw [if_neg h0, hb])
    rw [hb] at H
    clear hb h0 hx
    cases b
    · go_enter Tryz.func65, Tryz.ntmps65
      go_wp2_with (first
        | (go_at_call 75; refine (H.out _).mono ?_; rintro r w' ⟨rfl, rfl⟩))
      go_ret
      exact ⟨by rw [E.out]; rfl, rfl⟩
    · go_enter Tryz.func65, Tryz.ntmps65
      go_wp2_with (first
        | (go_at_call 75; refine (H.out _).mono ?_; rintro r w' ⟨rfl, rfl⟩))
      go_ret
      exact ⟨by rw [E.out]; rfl, rfl⟩
end Go.Proofs.YtlpkimpdeeiaaaaGreat
