/- strconv.Itoa of a number below 100. -/
import Derived.Test.YtillefeoponkjaaDoorWalk
namespace Go.Proofs.YtillefeoponkjaaDoor
open Go.RowKit
set_option linter.unusedVariables false
set_option linter.unusedSimpArgs false
set_option linter.unnecessarySimpa false

/-- The number's digits, below 100. -/
def numB (n : Nat) : ByteArray := if n < 10 then ⟨#[UInt8.ofNat (48 + n)]⟩ else ⟨#[UInt8.ofNat (48 + n / 10), UInt8.ofNat (48 + n % 10)]⟩
theorem numB_size (n : Nat) : (numB n).size ≤ 2 := by
  unfold numB
  split
  · exact Nat.le_succ 1
  · exact Nat.le_refl 2
theorem string_ext {a b : ByteArray} (h : a.data = b.data) : Ending.returned (.string a) = Ending.returned (.string b) := by
  obtain ⟨a⟩ := a
  obtain ⟨b⟩ := b
  cases h
  rfl
theorem digits_lo : ∀ n : Fin 10, ((⟨#[48, 49, 50, 51, 52, 53, 54, 55, 56, 57, 97, 98, 99, 100, 101, 102, 103, 104, 105, 106, 107, 108, 109, 110, 111, 112, 113, 114, 115, 116, 117, 118, 119, 120, 121, 122]⟩ : ByteArray).extract n (n + 1)).data = (numB n).data := by decide +kernel
def smalls : ByteArray := ⟨((List.range 100).flatMap fun n => [UInt8.ofNat (48 + n / 10), UInt8.ofNat (48 + n % 10)]).toArray⟩
theorem digits_hi : ∀ n : Fin 100, 10 ≤ n.val → (smalls.extract (n * 2) (n * 2 + 2)).data = (numB n).data := by decide +kernel

set_option maxHeartbeats 400000 in
theorem small_lo (n : Nat) (hn : n < 10) (w : World) : Calls Tryd.prog 37 #[.int .i64 n] w fun e w' => e = .returned (.string (numB n)) ∧ w = w' := by
  have h1 : decide ((n : Int) < 10) = true := by simp; omega
  go_enter Tryd.func37, Tryd.ntmps37
  go_wp2
  go_ret
  exact ⟨string_ext (digits_lo ⟨n, hn⟩), rfl⟩
set_option maxRecDepth 100000 in
set_option maxHeartbeats 1000000 in
theorem small_hi (n : Nat) (hn : n < 100) (h10 : 10 ≤ n) (w : World) : Calls Tryd.prog 37 #[.int .i64 n] w fun e w' => e = .returned (.string (numB n)) ∧ w = w' := by
  have h1 : decide ((n : Int) < 10) = false := by simp; omega
  go_enter Tryd.func37, Tryd.ntmps37
  go_wp2
  go_ret
  refine ⟨string_ext ((?_ : _ = (smalls.extract (n * 2) (n * 2 + 2)).data).trans (digits_hi ⟨n, hn⟩ h10)), rfl⟩
  exact congrArg (fun s : ByteArray => (s.extract (n * 2) (n * 2 + 2)).data) (by kernel_rfl : _ = smalls)
theorem small_any (n : Nat) (hn : n < 100) (w : World) : Calls Tryd.prog 37 #[.int .i64 n] w fun e w' => e = .returned (.string (numB n)) ∧ w = w' := by
  by_cases h : n < 10
  · exact small_lo n h w
  · exact small_hi n hn (by omega) w

set_option maxHeartbeats 400000 in
theorem formatInt_any (n : Nat) (hn : n < 100) (w : World) : Calls Tryd.prog 36 #[.int .i64 n, .int .i64 10] w fun e w' => e = .returned (.string (numB n)) ∧ w = w' := by
  have h1 : decide ((0 : Int) ≤ (n : Int)) = true := by simp
  have h2 : decide ((n : Int) < 100) = true := by simp; omega
  have S1 := Lib.hid (small_any n hn)
  go_enter Tryd.func36, Tryd.ntmps36
  go_wp2_with (go_at_call 37; refine (S1.out _).mono ?_; rintro e w' ⟨rfl, rfl⟩)
  go_ret
  exact ⟨rfl, rfl⟩
set_option maxHeartbeats 400000 in
theorem itoaI_any (n : Nat) (hn : n < 100) (w : World) : Calls Tryd.prog 33 #[.int .i64 n] w fun e w' => e = .returned (.string (numB n)) ∧ w = w' := by
  have S1 := Lib.hid (formatInt_any n hn)
  go_enter Tryd.func33, Tryd.ntmps33
  go_wp2_with (go_at_call 36; refine (S1.out _).mono ?_; rintro e w' ⟨rfl, rfl⟩)
  go_ret
  exact ⟨rfl, rfl⟩
set_option maxHeartbeats 400000 in
theorem itoa_any (n : Nat) (hn : n < 100) (w : World) : Calls Tryd.prog 25 #[.int .i64 n] w fun e w' => e = .returned (.string (numB n)) ∧ w = w' := by
  have S1 := Lib.hid (itoaI_any n hn)
  go_enter Tryd.func25, Tryd.ntmps25
  go_wp2_with (go_at_call 33; refine (S1.out _).mono ?_; rintro e w' ⟨rfl, rfl⟩)
  go_ret
  exact ⟨rfl, rfl⟩
theorem itoa_has {σ w : World} {M : Mm} (h : Has σ M w) (n : Nat) (hn : n < 100) : Calls Tryd.prog 25 #[.int .i64 n] w fun e w' => e = .returned (.string (numB n)) ∧ Has σ M w' :=
  (itoa_any n hn w).mono fun e w' ⟨he, hw⟩ => ⟨he, hw ▸ h⟩
end Go.Proofs.YtillefeoponkjaaDoor
