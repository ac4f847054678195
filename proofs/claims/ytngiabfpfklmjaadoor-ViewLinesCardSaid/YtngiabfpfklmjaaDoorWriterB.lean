/- The writer of package view: words, numbers; what it holds at last. -/
import Derived.Test.YtngiabfpfklmjaaDoorWriter
namespace Go.Proofs.YtngiabfpfklmjaaDoor
open Go.RowKit
set_option linter.unusedVariables false
set_option linter.unusedSimpArgs false
set_option linter.unnecessarySimpa false
/-- A word behind what there is. -/
def addW (s t : ByteArray) : ByteArray := if s.size = 0 then s ++ t else s ++ ⟨#[32]⟩ ++ t
theorem addW_size (s t : ByteArray) : (addW s t).size ≤ s.size + t.size + 1 := by
  unfold addW
  split
  · rw [ByteArray.size_append]; omega
  · rw [ByteArray.size_append, ByteArray.size_append]
    show s.size + 1 + t.size ≤ _
    omega
theorem addW_pos (s t : ByteArray) (h : 1 ≤ t.size) : 1 ≤ (addW s t).size := by
  unfold addW
  split
  · rw [ByteArray.size_append]; omega
  · rw [ByteArray.size_append, ByteArray.size_append]; omega
section
variable {w : World} {b : Nat} {s : ByteArray}
set_option maxHeartbeats 1000000 in
theorem word_any (h : Wr b s w) (t : ByteArray) (hl : s.size + t.size ≤ 10000) : Calls Tryd.prog 10 #[.pointer (some ⟨b, 0, none⟩), .string t] w fun r w' =>
    r = .returned (.tuple #[]) ∧ Wr b (addW s t) w' ∧ Fr b w w' := by
  have L := Lib.hid (len_any h)
  by_cases h0 : s.size = 0
  · have A : Hid (addW s t = s ++ t) := if_pos h0
    have g : decide ((0 : Int) < (s.size : Int)) = false := decide_eq_false (by omega)
    have hs : s.size + t.size ≤ 1000000 := by omega
    have W1 := Lib.hid (writeString_any h t hs)
    clear h h0
    generalize (s.size : Int) = n at L g
    go_enter Tryd.func10, Tryd.ntmps10
    go_wp2_with (first
      | (go_at_call 22; refine L.out.mono ?_; rintro r w' ⟨rfl, rfl⟩)
      | (go_at_call 23; refine W1.out.mono ?_; rintro r w' ⟨rfl, hW, hF⟩))
    go_end0
    exact ⟨rfl, by rw [A.out]; exact hW, hF⟩
  · have A : Hid (addW s t = s ++ ⟨#[32]⟩ ++ t) := if_neg h0
    have g : decide ((0 : Int) < (s.size : Int)) = true := decide_eq_true (by omega)
    have hs : s.size + 1 ≤ 1000000 := by omega
    have W1 := Lib.hid (writeString_any h ⟨#[32]⟩ hs)
    have W2 : Hid (∀ w, Wr b (s ++ ⟨#[32]⟩) w → Calls Tryd.prog 23 #[.pointer (some ⟨b, 0, none⟩), .string t] w fun r w' => r = .returned (.tuple #[.int .i64 t.size, .nilIface]) ∧ Wr b (s ++ ⟨#[32]⟩ ++ t) w' ∧ Fr b w w') :=
      fun w h => writeString_any h t (by rw [ByteArray.size_append]; have hs : s.size + 1 + t.size ≤ 1000000 := by omega
                                         exact hs)
    clear h h0 hl
    generalize (s.size : Int) = n at L g
    generalize hs1 : s ++ ⟨#[32]⟩ = s1 at W1 W2 A
    clear hs1
    go_enter Tryd.func10, Tryd.ntmps10
    go_upto_region 2 with (first
      | (go_at_call 22; refine L.out.mono ?_; rintro r w' ⟨rfl, rfl⟩)
      | (go_at_call 23; refine W1.out.mono ?_; rintro r w' ⟨rfl, hW, hF⟩))
    have W3 := Lib.hid (W2.out _ hW)
    clear W2 W1 hW L
    go_wp2_with (first
      | (go_at_call 23; refine W3.out.mono ?_; rintro r w' ⟨rfl, hW, hF2⟩))
    go_end0
    exact ⟨rfl, by rw [A.out]; exact hW, hF.trans hF2⟩
/-- The builder, and what else is known. -/
structure WM (σ : World) (M : Mm) (b : Nat) (s : ByteArray) (w : World) : Prop where
  has : Has σ M w
  wr : Wr b s w
theorem Has.fr {σ w w' : World} {M : Mm} {b : Nat} (h : Has σ M w) (hM : ∀ k o, M k = some o → k < b) (hF : Fr b w w') : Has σ M w' :=
  ⟨hF.1.os.trans h.os, hF.1.tape.trans h.tape, hF.1.output.trans h.output, Nat.le_trans h.size hF.1.size, fun k o hk => (hF.1.block k (hM k o hk)).trans (h.at_ k o hk)⟩
theorem PowT.world {σ w : World} {M : Mm} (hT : PowT M) (h : Has σ M w) : PowT (World.mm w) := by obtain ⟨t, fz, hT⟩ := hT; exact ⟨t, fz, h.at_ _ _ hT⟩
theorem Has.bel {w w' : World} (h : Has w (World.mm w) w') : Below w.heap.size w w' := h.toBelow fun _ _ h => h
theorem number_any {σ : World} {M : Mm} (h : WM σ M b s w) (hM : ∀ k o, M k = some o → k < b) (hT : PowT M) (n : Int) (h0 : -9223372036854775808 ≤ n) (h1 : n ≤ 9223372036854775807) (hl : s.size ≤ 5000) :
    Calls Tryd.prog 12 #[.pointer (some ⟨b, 0, none⟩), .int .i64 n] w fun r w' => r = .returned (.tuple #[]) ∧ WM σ M b (addW s (decI n)) w' := by
  have z := decI_size h0 h1
  have F1 := Lib.hid (formatInt_all (Has.new w) (hT.world h.has) n h0 h1)
  have W1 : Hid (∀ w, WM σ M b s w → Calls Tryd.prog 10 #[.pointer (some ⟨b, 0, none⟩), .string (decI n)] w fun r w' => r = .returned (.tuple #[]) ∧ WM σ M b (addW s (decI n)) w') := fun w h =>
    (word_any h.wr (decI n) (by omega)).mono fun r w' ⟨hr, hw, hF⟩ => ⟨hr, h.has.fr hM hF, hw⟩
  generalize addW s (decI n) = s2 at W1 ⊢
  generalize decI n = t at F1 W1
  have H := Lib.hid h
  clear h h0 h1 hT hl z
  go_enter Tryd.func12, Tryd.ntmps12
  go_wp2_with (first
    | (go_at_call 25; refine F1.out.mono ?_; rintro r w' ⟨rfl, hb⟩; have h2 : WM σ M b s w' := ⟨H.out.has.below hb.bel, H.out.wr.below hb.bel⟩; clear hb H F1)
    | (go_at_call 10; refine (W1.out _ h2).mono ?_; rintro r w' ⟨rfl, h3⟩))
  go_end0
  exact ⟨rfl, h3⟩
end
end Go.Proofs.YtngiabfpfklmjaaDoor
