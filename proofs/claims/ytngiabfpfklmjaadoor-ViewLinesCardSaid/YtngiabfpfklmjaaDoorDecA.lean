/- Decimals: strconv.Itoa, FormatInt, FormatUint; the document's Bits and Number. -/
import Derived.Test.YtngiabfpfklmjaaDoorWalk
import Derived.Test.YtngiabfpfklmjaaDoorShelf
import Derived.Lib.AppendIntMem
namespace Go.Proofs.YtngiabfpfklmjaaDoor
open Go.RowKit Go.Sort
set_option linter.unusedVariables false
set_option linter.unusedSimpArgs false
set_option linter.unnecessarySimpa false
/-- The library's table of tens is known. -/
def PowT (M : Mm) : Prop := ∃ t fz, M 0 = some (.cells (Lib.pow10Tab.map fun z => Value.int .u64 z).toArray t fz)
theorem PowT.le {M M' : Mm} (h : PowT M) (hle : M.le M') : PowT M' := by obtain ⟨t, fz, h⟩ := h; exact ⟨t, fz, hle _ _ h⟩
theorem pow_named : Tryd.prog.globalNamed "internal/strconv.uint64pow10" = some 0 := by kernel_rfl
theorem PowT.tab {σ w : World} {M : Mm} (hT : PowT M) (h : Has σ M w) : Lib.TabIs Tryd.prog w "internal/strconv.uint64pow10" .u64 Lib.pow10Tab := by
  obtain ⟨t, fz, hT⟩ := hT
  unfold Lib.TabIs World.var?
  rw [pow_named]
  simp only [Option.bind_some, h.at_ _ _ hT]
theorem Has.grow {σ w : World} {M : Mm} (h : Has σ M w) (k : Nat) (os : Array Obj) : Has σ M (Go.Sort.grow (w.drewN k) os) := by
  refine ⟨h.os, h.tape, h.output, ?_, fun b o hb => ?_⟩
  · have := h.size
    simp [Go.Sort.grow]
    omega
  · have h1 := h.at_ b o hb
    have hlt := lt_of_block h1
    show (w.heap ++ os)[b]? = some o
    rw [Array.getElem?_append_left hlt]
    exact h1
def decU (u : Nat) : ByteArray := ⟨(Lib.decDigits u).toArray⟩
def decI (n : Int) : ByteArray := ⟨(Lib.itoa n).toArray⟩
theorem decI_nat (u : Nat) : decI u = decU u := by unfold decI decU; rw [Lib.itoa_nonneg]
theorem nDigits_le {u : Nat} (h : u < 18446744073709551616) : Lib.nDigits u ≤ 20 := by
  by_cases h0 : u = 0
  · subst h0; decide +kernel
  · have := Lib.numDigits_eq u (by omega) h
    split at this <;> omega
theorem decU_size {u : Nat} (h : u < 18446744073709551616) : (decU u).size ≤ 20 := by
  show (Lib.decDigits u).toArray.size ≤ 20
  rw [List.size_toArray, Lib.decDigits_length]
  exact nDigits_le h
theorem decI_size {n : Int} (h0 : -9223372036854775808 ≤ n) (h1 : n ≤ 9223372036854775807) : (decI n).size ≤ 21 := by
  show (Lib.itoa n).toArray.size ≤ 21
  rw [List.size_toArray]
  unfold Lib.itoa
  split
  · have := nDigits_le (u := n.natAbs) (by omega)
    simp [Lib.decDigits_length]; omega
  · have := nDigits_le (u := n.toNat) (by omega)
    simp [Lib.decDigits_length]; omega
section
variable {σ w : World} {M : Mm}
theorem itoa_all (h : Has σ M w) (hT : PowT M) (n : Int) (h0 : -9223372036854775808 ≤ n) (h1 : n ≤ 9223372036854775807) :
    Calls Tryd.prog 11 #[.int .i64 n] w fun r w' => r = .returned (.string (decI n)) ∧ Has σ M w' := by
  refine (Tryd.strconv_Itoa n h0 h1 w (hT.tab h)).mono ?_
  rintro r w' ⟨rfl, k, os, rfl⟩
  exact ⟨rfl, h.grow k os⟩
theorem formatInt_all (h : Has σ M w) (hT : PowT M) (n : Int) (h0 : -9223372036854775808 ≤ n) (h1 : n ≤ 9223372036854775807) :
    Calls Tryd.prog 25 #[.int .i64 n, .int .i64 10] w fun r w' => r = .returned (.string (decI n)) ∧ Has σ M w' := by
  refine (Tryd.strconv_FormatInt_10 n h0 h1 w (hT.tab h)).mono ?_
  rintro r w' ⟨rfl, k, os, rfl⟩
  exact ⟨rfl, h.grow k os⟩
set_option maxHeartbeats 1000000 in
theorem formatUintI_all (h : Has σ M w) (hT : PowT M) (u : Nat) (hu64 : u < 18446744073709551616) :
    Calls Tryd.prog 33 #[.int .u64 u, .int .i64 10] w fun r w' => r = .returned (.string (decU u)) ∧ Has σ M w' := by
  by_cases hs : u < 100
  · have h1 : decide ((u : Int) < 100) = true := by simp; omega
    have hw : IntKind.i64.wrap (u : Int) = u := IntWalk.i64_in _ (by omega)
    have S1 := Lib.hid (Tryd.internal_strconv_small u hs)
    go_enter Tryd.func33, Tryd.ntmps33
    go_wp2_with (go_at_call 35; refine (S1.out _).mono ?_; rintro e w' ⟨rfl, rfl⟩)
    go_ret
    exact ⟨rfl, h⟩
  · have h1 : decide ((u : Int) < 100) = false := by simp; omega
    have hnd := nDigits_le hu64
    have hal : Tryd.prog.arrayLen 71 = 24 := by simp [Program.arrayLen, Tryd.underlying71]
    have hsl : ∀ W, (Instr.sliceAt 71 (.pointer (some ⟨w.heap.size, 0, none⟩)) none (some (.int .i64 (Lib.nDigits u : Int))) none).run Tryd.prog W = .ok (.slice (some ⟨w.heap.size, 0, none⟩) (Lib.nDigits u) 24) W := fun W => by
      rw [run_sliceAt_array_h W 71 ⟨w.heap.size, 0, none⟩ (by simp [Program.arrayLen, Program.elem, Tryd.underlying71]) .i64 (Lib.nDigits u : Int) (by omega) (by rw [hal]; omega)]
      go_simp
    have hH0 := Lib.holds_zero0 w 71 (Lib.nDigits u) (by omega)
    have hfmt := Tryd.internal_strconv_formatBase10 w.heap.size 0 24 u (Array.replicate (Lib.nDigits u) 0) (w.alloc (.cells Lib.zeros24 71)) hH0 (by rw [Array.size_replicate]; exact Lib.lt_pow_nDigits u) hu64 (by rw [Array.size_replicate]; omega)
    rw [Array.size_replicate] at hfmt
    have HH0 := Lib.hid hH0
    have HF := Lib.hid hfmt
    have ND := Lib.hid (fun w' => Tryd.internal_strconv_numDigits u (by omega) hu64 w')
    have HH := Lib.hid h
    have HP := Lib.hid hT
    clear hH0 hal hfmt h hT
    go_enter Tryd.func33, Tryd.ntmps33
    go_wp2_with (first
      | (go_at_call 36; refine (ND.out _ (HP.out.tab (HH.out.quietAlloc _))).mono ?_; rintro e w' ⟨rfl, rfl⟩))
    go_at_call 37
    refine HF.out.mono ?_
    rintro e w' ⟨rfl, k, v', dk, rfl, hF⟩
    have hcv : (convert 40 9 (.slice (some ⟨w.heap.size, 0, none⟩) (Lib.nDigits u) 24)).run Tryd.prog ((putRow (fun (b : UInt8) => Value.int .u8 (b.toNat : Int)) (w.alloc (.cells Lib.zeros24 71)) w.heap.size 0 dk).drewN k) = .ok (.string ⟨(Lib.decDigits u).toArray⟩) ((putRow (fun (b : UInt8) => Value.int .u8 (b.toNat : Int)) (w.alloc (.cells Lib.zeros24 71)) w.heap.size 0 dk).drewN k) := by
      have h := run_convert_bytes_back (P := Tryd.prog) ((putRow (fun (b : UInt8) => Value.int .u8 (b.toNat : Int)) (w.alloc (.cells Lib.zeros24 71)) w.heap.size 0 dk).drewN k) 40 9 5 ⟨w.heap.size, 0, none⟩ 24 (Lib.decDigits u) Tryd.underlying40 Tryd.underlying5 Tryd.underlying9 (fun j hj => by
        rw [Lib.row_is_numeral hF j hj, Lib.add_plain, World.cell?_drewN]
        exact cell?_putRow (fun (b : UInt8) => Value.int .u8 (b.toNat : Int)) _ w.heap.size 0 _ dk HH0.out (by rw [hF.size, Array.size_replicate]) j (by rw [hF.size]; rw [Lib.decDigits_length] at hj; exact hj))
      rw [Lib.decDigits_length] at h
      exact h
    go_wp2
    go_ret
    obtain ⟨os, eo⟩ := Lib.fin_at w (.cells Lib.zeros24 71) dk k 0
    refine ⟨rfl, ?_⟩
    rw [eo]
    exact HH.out.grow k os
theorem formatUint_all (h : Has σ M w) (hT : PowT M) (u : Nat) (hu64 : u < 18446744073709551616) :
    Calls Tryd.prog 28 #[.int .u64 u, .int .i64 10] w fun r w' => r = .returned (.string (decU u)) ∧ Has σ M w' := by
  have C := Lib.hid (formatUintI_all h hT u hu64)
  clear hu64 hT
  go_enter Tryd.func28, Tryd.ntmps28
  go_wp2_with (first
    | (go_at_call 33; refine (C.out).mono ?_; clear h; rintro r w ⟨rfl, h⟩))
  go_ret
  exact ⟨rfl, h⟩

theorem decU_one {u : Nat} (h : u < 10) : decU u = ⟨#[UInt8.ofNat (48 + u)]⟩ := by unfold decU; rw [Lib.decDigits_one h]
theorem ba_append (a : List UInt8) (c : UInt8) : (⟨a.toArray⟩ : ByteArray) ++ ⟨#[c]⟩ = ⟨(a ++ [c]).toArray⟩ := by
  apply ByteArray.ext
  rw [ByteArray.data_append]
  simp
theorem decU_more (q d : Nat) (hq : 1 ≤ q) (hd : d < 10) : decU (10 * q + d) = decU q ++ ⟨#[UInt8.ofNat (48 + d)]⟩ := by
  unfold decU
  rw [ba_append]
  conv => lhs; rw [Lib.decDigits, dif_neg (by omega)]
  rw [show (10 * q + d) / 10 = q by omega, show (10 * q + d) % 10 = d by omega]
/-- The document's digits of a word. -/
theorem bits_lo (n : Nat) (hn : n < 10) (h : Has σ M w) : Calls Tryd.prog 19 #[.int .u64 n] w fun r w' => r = .returned (.string (decU n)) ∧ Has σ M w' := by
  have D := Lib.hid (decU_one hn)
  have cases_ : n = 0 ∨ n = 1 ∨ n = 2 ∨ n = 3 ∨ n = 4 ∨ n = 5 ∨ n = 6 ∨ n = 7 ∨ n = 8 ∨ n = 9 := by omega
  clear hn
  rcases cases_ with rfl | rfl | rfl | rfl | rfl | rfl | rfl | rfl | rfl | rfl
  all_goals
    go_enter Tryd.func19, Tryd.ntmps19
    go_wp2
    go_ret
    exact ⟨by rw [D.out]; rfl, h⟩
set_option maxHeartbeats 2000000 in
theorem bits_hi (q d : Nat) (hq : 1 ≤ q) (hd : d < 10) (hs : 10 * q + d < 18446744073709551616) (h : Has σ M w)
    (B1 : Hid (∀ w, Has σ M w → Calls Tryd.prog 19 #[.int .u64 q] w fun r w' => r = .returned (.string (decU q)) ∧ Has σ M w')) :
    Calls Tryd.prog 19 #[.int .u64 (10 * q + d : Nat)] w fun r w' => r = .returned (.string (decU (10 * q + d))) ∧ Has σ M w' := by
  have hu : Utf8.encode (48 + d) = ⟨#[UInt8.ofNat (48 + d)]⟩ := by
    have h : ∀ d : Fin 10, (Utf8.encode (48 + d.val)).data = #[UInt8.ofNat (48 + d.val)] := by decide +kernel
    have := h ⟨d, hd⟩
    generalize Utf8.encode (48 + d) = a at *
    obtain ⟨a⟩ := a
    simp only at this
    rw [this]
  have N := Lib.hid (decU_more q d hq hd)
  have hlt : decide (((10 * q + d : Nat) : Int) < 10) = false := by simp; omega
  have hdiv : ((10 * q + d : Nat) : Int) / 10 = q := by omega
  have hmod : ((10 * q + d : Nat) : Int) % 10 = d := by omega
  have hpos : 0 ≤ ((10 * q + d : Nat) : Int) := by omega
  have hw : IntKind.u64.wrap (q : Int) = q := IntWalk.u64_in _ (by omega)
  have z := decU_size (u := q) (by omega)
  generalize decU q = s at N B1 z
  generalize decU (10 * q + d) = s2 at N ⊢
  generalize (10 * q + d : Nat) = n at *
  have cases_ : d = 0 ∨ d = 1 ∨ d = 2 ∨ d = 3 ∨ d = 4 ∨ d = 5 ∨ d = 6 ∨ d = 7 ∨ d = 8 ∨ d = 9 := by omega
  clear hd hq
  rcases cases_ with rfl | rfl | rfl | rfl | rfl | rfl | rfl | rfl | rfl | rfl
  all_goals
    simp at hu hmod
    go_enter Tryd.func19, Tryd.ntmps19
    go_wp2_with (first
      | (go_at_call 19; refine (B1.out _ h).mono ?_; clear h; rintro r w ⟨rfl, h⟩))
    go_ret
    exact ⟨by rw [N.out]; rfl, h⟩
theorem bits_all (n : Nat) : n < 18446744073709551616 → ∀ w, Has σ M w → Calls Tryd.prog 19 #[.int .u64 n] w fun r w' => r = .returned (.string (decU n)) ∧ Has σ M w' := by
  induction n using Nat.strongRecOn with
  | ind n ih =>
    intro hn w h
    by_cases h10 : n < 10
    · exact bits_lo n h10 h
    · have e : n = 10 * (n / 10) + n % 10 := (Nat.div_add_mod n 10).symm
      rw [e]
      exact bits_hi (n / 10) (n % 10) (by omega) (by omega) (by omega) h (Lib.hid fun w h => ih (n / 10) (by omega) (by omega) w h)

theorem refBits_neg (u : Nat) (h1 : 1 ≤ u) (h2 : u ≤ 9223372036854775808) (h : Has σ M w) : Calls Tryd.prog 30 #[.int .i64 (-(u : Int))] w fun r w' => r = .returned (.int .u64 (18446744073709551616 - (u : Int))) ∧ Has σ M w' := by
  have g : decide ((0 : Int) ≤ -(u : Int)) = false := by simp; omega
  have w1 : IntKind.i64.wrap (-(u : Int) + 1) = -(u : Int) + 1 := IntWalk.i64_in _ (by omega)
  have w2 : IntKind.i64.wrap (-(-(u : Int) + 1)) = (u : Int) - 1 := by rw [show -(-(u : Int) + 1) = (u : Int) - 1 by omega]; exact IntWalk.i64_in _ (by omega)
  have w3 : IntKind.u64.wrap ((u : Int) - 1) = (u : Int) - 1 := IntWalk.u64_in _ (by omega)
  have w4 : IntKind.u64.wrap (18446744073709551615 - ((u : Int) - 1)) = 18446744073709551616 - (u : Int) := by rw [show (18446744073709551615 : Int) - ((u : Int) - 1) = 18446744073709551616 - (u : Int) by omega]; exact IntWalk.u64_in _ (by omega)
  go_enter Tryd.func30, Tryd.ntmps30
  go_wp2
  go_ret
  exact ⟨rfl, h⟩
theorem decI_neg (u : Nat) (h : 1 ≤ u) : decI (-(u : Int)) = ⟨#[45]⟩ ++ decU u := by
  unfold decI decU Lib.itoa
  rw [if_pos (by omega), Int.natAbs_neg, Int.natAbs_natCast]
  apply ByteArray.ext
  rw [ByteArray.data_append]
  simp
theorem number_all (n : Int) (h0 : -9223372036854775808 ≤ n) (h1 : n ≤ 9223372036854775807) (h : Has σ M w) : Calls Tryd.prog 17 #[.int .i64 n] w fun r w' => r = .returned (.string (decI n)) ∧ Has σ M w' := by
  by_cases hn : 0 ≤ n
  · obtain ⟨u, rfl⟩ : ∃ u : Nat, n = u := ⟨n.toNat, by omega⟩
    rw [decI_nat]
    have B := Lib.hid (bits_all (σ := σ) (M := M) u (by omega))
    have g : decide ((u : Int) < 0) = false := by simp
    have hw : IntKind.u64.wrap (u : Int) = u := IntWalk.u64_in _ (by omega)
    go_enter Tryd.func17, Tryd.ntmps17
    go_wp2_with (first
      | (go_at_call 19; refine (B.out _ h).mono ?_; clear h; rintro r w ⟨rfl, h⟩))
    go_ret
    exact ⟨rfl, h⟩
  · obtain ⟨u, rfl⟩ : ∃ u : Nat, n = -(u : Int) := ⟨n.natAbs, by omega⟩
    have hu1 : 1 ≤ u := by omega
    rw [decI_neg u hu1]
    have B := Lib.hid (bits_all (σ := σ) (M := M) u (by omega))
    have R := Lib.hid (fun w (h : Has σ M w) => refBits_neg u hu1 (by omega) h)
    have g : decide (-(u : Int) < 0) = true := by simp; omega
    have w1 : IntKind.u64.wrap (18446744073709551615 - (18446744073709551616 - (u : Int))) = (u : Int) - 1 := by rw [show (18446744073709551615 : Int) - (18446744073709551616 - (u : Int)) = (u : Int) - 1 by omega]; exact IntWalk.u64_in _ (by omega)
    have w2 : IntKind.u64.wrap ((u : Int) - 1 + 1) = (u : Int) := by rw [show (u : Int) - 1 + 1 = u by omega]; exact IntWalk.u64_in _ (by omega)
    have w3 : IntKind.u64.wrap (u : Int) = u := IntWalk.u64_in _ (by omega)
    have z := decU_size (u := u) (by omega)
    clear hn h0 h1
    go_enter Tryd.func17, Tryd.ntmps17
    go_wp2_with (first
      | (go_at_call 30; refine (R.out _ h).mono ?_; clear h; rintro r w ⟨rfl, h⟩)
      | (go_at_call 19; refine (B.out _ h).mono ?_; clear h; rintro r w ⟨rfl, h⟩))
    go_ret
    exact ⟨rfl, h⟩
end
end Go.Proofs.YtngiabfpfklmjaaDoor
