/- The document's decimal of a number below 100. -/
import Derived.Test.YtenpijejdibjpaaDoorItoa
namespace Go.Proofs.YtenpijejdibjpaaDoor
open Go.RowKit
set_option linter.unusedVariables false
set_option linter.unusedSimpArgs false
set_option linter.unnecessarySimpa false

set_option maxHeartbeats 2000000 in
theorem bits_lo (n : Nat) (hn : n < 10) (w : World) : Calls Tryd.prog 27 #[.int .u64 n] w fun e w' => e = .returned (.string (numB n)) ∧ w = w' := by
  have cases_ : n = 0 ∨ n = 1 ∨ n = 2 ∨ n = 3 ∨ n = 4 ∨ n = 5 ∨ n = 6 ∨ n = 7 ∨ n = 8 ∨ n = 9 := by omega
  clear hn
  rcases cases_ with rfl | rfl | rfl | rfl | rfl | rfl | rfl | rfl | rfl | rfl
  all_goals
    go_enter Tryd.func27, Tryd.ntmps27
    go_wp2
    go_ret
    exact ⟨rfl, rfl⟩

theorem numB_hi (q d : Nat) (hq : 1 ≤ q) (hq9 : q ≤ 9) (hd : d < 10) : numB q ++ Utf8.encode (48 + d) = numB (10 * q + d) := by
  have h : ∀ q : Fin 10, ∀ d : Fin 10, 1 ≤ q.val → (numB q ++ Utf8.encode (48 + d.val)).data = (numB (10 * q + d)).data := by decide +kernel
  have := h ⟨q, by omega⟩ ⟨d, hd⟩ hq
  generalize numB q ++ Utf8.encode (48 + d) = a at *
  obtain ⟨a⟩ := a
  generalize numB (10 * q + d) = b at *
  obtain ⟨b⟩ := b
  simp only at this
  rw [this]

set_option maxHeartbeats 4000000 in
theorem bits_hi (q d : Nat) (hq : 1 ≤ q) (hq9 : q ≤ 9) (hd : d < 10) (w : World) : Calls Tryd.prog 27 #[.int .u64 (10 * q + d : Nat)] w fun e w' => e = .returned (.string (numB (10 * q + d))) ∧ w = w' := by
  have B1 := Lib.hid (bits_lo q (by omega))
  have z := numB_size q
  have hu : Utf8.encode (48 + d) = ⟨#[UInt8.ofNat (48 + d)]⟩ := by
    have h : ∀ d : Fin 10, (Utf8.encode (48 + d.val)).data = #[UInt8.ofNat (48 + d.val)] := by decide +kernel
    have := h ⟨d, hd⟩
    generalize Utf8.encode (48 + d) = a at *
    obtain ⟨a⟩ := a
    simp only at this
    rw [this]
  have N := Lib.hid (by have := numB_hi q d hq hq9 hd; rwa [hu] at this)
  have hlt : decide (((10 * q + d : Nat) : Int) < 10) = false := by simp; omega
  have hdiv : ((10 * q + d : Nat) : Int) / 10 = q := by omega
  have hmod : ((10 * q + d : Nat) : Int) % 10 = d := by omega
  have hpos : 0 ≤ ((10 * q + d : Nat) : Int) := by omega
  have hw : IntKind.u64.wrap (q : Int) = q := IntWalk.u64_in _ (by omega)
  generalize (10 * q + d : Nat) = n at *
  have cases_ : d = 0 ∨ d = 1 ∨ d = 2 ∨ d = 3 ∨ d = 4 ∨ d = 5 ∨ d = 6 ∨ d = 7 ∨ d = 8 ∨ d = 9 := by omega
  clear hd hq hq9
  rcases cases_ with rfl | rfl | rfl | rfl | rfl | rfl | rfl | rfl | rfl | rfl
  all_goals
    simp at hu hmod
    go_enter Tryd.func27, Tryd.ntmps27
    go_wp2_with (go_at_call 27; refine (B1.out _).mono ?_; rintro e w' ⟨rfl, rfl⟩)
    go_ret
    have N' := N.out
    simp only [Nat.reduceAdd] at N'
    exact ⟨by rw [← N']; rfl, rfl⟩
theorem bits_any (n : Nat) (hn : n < 100) (w : World) : Calls Tryd.prog 27 #[.int .u64 n] w fun e w' => e = .returned (.string (numB n)) ∧ w = w' := by
  by_cases h : n < 10
  · exact bits_lo n h w
  · have e : n = 10 * (n / 10) + n % 10 := (Nat.div_add_mod n 10).symm
    rw [e]
    exact bits_hi (n / 10) (n % 10) (by omega) (by omega) (by omega) w
set_option maxHeartbeats 400000 in
theorem number_any (n : Nat) (hn : n < 100) (w : World) : Calls Tryd.prog 18 #[.int .i64 n] w fun e w' => e = .returned (.string (numB n)) ∧ w = w' := by
  have B1 := Lib.hid (bits_any n hn)
  have h0 : decide ((n : Int) < 0) = false := by simp
  go_enter Tryd.func18, Tryd.ntmps18
  go_wp2_with (go_at_call 27; refine (B1.out _).mono ?_; rintro e w' ⟨rfl, rfl⟩)
  go_ret
  exact ⟨rfl, rfl⟩
theorem number_has {σ w : World} {M : Mm} (h : Has σ M w) (n : Nat) (hn : n < 100) : Calls Tryd.prog 18 #[.int .i64 n] w fun e w' => e = .returned (.string (numB n)) ∧ Has σ M w' :=
  (number_any n hn w).mono fun e w' ⟨he, hw⟩ => ⟨he, hw ▸ h⟩
end Go.Proofs.YtenpijejdibjpaaDoor
