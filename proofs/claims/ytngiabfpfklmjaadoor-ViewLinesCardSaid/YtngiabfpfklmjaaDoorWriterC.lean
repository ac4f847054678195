/- The writer of package view: words of 64 bits; what it holds at last. -/
import Derived.Test.YtngiabfpfklmjaaDoorWriterB
namespace Go.Proofs.YtngiabfpfklmjaaDoor
open Go.RowKit
set_option linter.unusedVariables false
set_option linter.unusedSimpArgs false
set_option linter.unnecessarySimpa false
def addWs (s : ByteArray) (l : List Nat) : ByteArray := l.foldl (fun s u => addW s (decU u)) s
theorem addWs_snoc (s : ByteArray) (l : List Nat) (u : Nat) : addWs s (l ++ [u]) = addW (addWs s l) (decU u) := by unfold addWs; rw [List.foldl_append]; rfl
theorem addWs_size (s : ByteArray) (l : List Nat) (h : ∀ u ∈ l, u < 18446744073709551616) : (addWs s l).size ≤ s.size + 21 * l.length := by
  induction l generalizing s with
  | nil => exact Nat.le_refl _
  | cons u l ih =>
    have h1 := ih (addW s (decU u)) fun v hv => h v (List.mem_cons_of_mem _ hv)
    have h2 := addW_size s (decU u)
    have h3 := decU_size (h u List.mem_cons_self)
    show (addWs (addW s (decU u)) l).size ≤ _
    rw [List.length_cons]
    omega
def u64c (l : List Nat) : Array Value := (l.map fun (u : Nat) => Value.int .u64 (u : Int)).toArray
set_option maxHeartbeats 2000000 in
theorem bits_any {σ w : World} {M : Mm} {b : Nat} {s : ByteArray} (h : WM σ M b s w) (hM : ∀ k o, M k = some o → k < b) (hT : PowT M) (l : List Nat) (hu : ∀ u ∈ l, u < 18446744073709551616) (hn : l.length ≤ 3) (hl : s.size ≤ 1000) (sb : Nat) (hsb : w.heap[sb]? = some (.cells (u64c l) 22)) (hne : sb ≠ b) :
    Calls Tryd.prog 14 #[.pointer (some ⟨b, 0, none⟩), .slice (some ⟨sb, 0, none⟩) l.length l.length] w fun r w' => r = .returned (.tuple #[]) ∧ WM σ M b (addWs s l) w' := by
  have HM := Lib.hid hM
  have HT := Lib.hid hT
  have HU := Lib.hid hu
  generalize hn0 : l.length = n at hn ⊢
  have HN := Lib.hid hn0
  have HS := Lib.hid (fun k (hk : k ≤ n) => (addWs_size s (l.take k) fun u hm => hu u (List.mem_of_mem_take hm)))
  have HH := Lib.hid h
  have HB := Lib.hid hsb
  clear hM hT hu hn0 h hsb
  go_enter Tryd.func14, Tryd.ntmps14
  go_wp2
  go_loopw [5, 8] (fun v i wr => ∃ k : Nat, k ≤ n ∧ i = .int .i64 k ∧ WM σ M b (addWs s (l.take k)) wr ∧ wr.heap[sb]? = some (.cells (u64c l) 22)) (fun _ i _ => n - (intOf i).toNat)
  case atStart => exact ⟨0, Nat.zero_le _, rfl, HH.out, HB.out⟩
  case round =>
    clear HH HB w
    obtain ⟨w, rfl⟩ : ∃ x : World, x = wr := ⟨_, rfl⟩
    obtain ⟨k, hk, rfl, h, hb⟩ := hrel
    by_cases hlt : k < n
    · have c1 : w.cell? ⟨sb, k, none⟩ = some (.int .u64 ((l.getD k 0 : Nat) : Int)) := by
        have hkl : k < l.length := by have := HN.out; omega
        rw [cell_of_row w sb k _ _ _ hb]
        unfold u64c
        simp [List.getD, hkl]
      have hu1 : l.getD k 0 < 18446744073709551616 := by
        have hkl : k < l.length := by have := HN.out; omega
        have := HU.out _ (List.getElem_mem hkl)
        simpa [List.getD, hkl] using this
      have ht : l.take (k + 1) = l.take k ++ [l.getD k 0] := by
        have hkl : k < l.length := by have := HN.out; omega
        rw [List.take_succ_eq_append_getElem hkl]
        simp [List.getD, hkl]
      have hA : addWs s (l.take (k + 1)) = addW (addWs s (l.take k)) (decU (l.getD k 0)) := by rw [ht, addWs_snoc]
      have z1 := HS.out k hk
      have z2 := decU_size hu1
      have hsz : (addWs s (l.take k)).size + (decU (l.getD k 0)).size ≤ 10000 := by rw [List.length_take] at z1; omega
      have E := Lib.hid hA
      clear ht z1 z2 hA
      generalize l.getD k 0 = u at c1 hu1 hsz E
      generalize addWs s (l.take k) = s1 at h hsz E
      have F1 := Lib.hid (formatUint_all (Has.new w) (HT.out.world h.has) u hu1)
      have W1 : Hid (∀ w, WM σ M b s1 w ∧ w.heap[sb]? = some (.cells (u64c l) 22) → Calls Tryd.prog 10 #[.pointer (some ⟨b, 0, none⟩), .string (decU u)] w fun r w' => r = .returned (.tuple #[]) ∧ WM σ M b (addW s1 (decU u)) w' ∧ w'.heap[sb]? = some (.cells (u64c l) 22)) := fun w ⟨h, hb⟩ =>
        (word_any h.wr (decU u) hsz).mono fun r w' ⟨hr, hw, hF⟩ => ⟨hr, ⟨h.has.fr HM.out hF, hw⟩, hF.2 sb _ hb (by simpa using hne) (fun c fz he => by cases he)⟩
      generalize decU u = t at F1 W1 E
      have H := Lib.hid h
      have H2 := Lib.hid hb
      clear h hb hsz hu1
      go_wp2_with (first
        | (go_at_call 28; refine F1.out.mono ?_; rintro r w' ⟨rfl, hb⟩; have h2 : WM σ M b s1 w' ∧ w'.heap[sb]? = some (.cells (u64c l) 22) := ⟨⟨H.out.has.below hb.bel, H.out.wr.below hb.bel⟩, (hb.bel.block sb (lt_of_block H2.out)).trans H2.out⟩; clear hb H H2 F1)
        | (go_at_call 10; refine (W1.out _ h2).mono ?_; rintro r w' ⟨rfl, h3, h4⟩))
      go_roundw
      case rel => exact ⟨k + 1, by omega, by go_num, by rw [E.out]; exact h3, h4⟩
      case measure => simp [intOf]; omega
    · obtain rfl : k = n := by omega
      have e : l.take k = l := by rw [← HN.out]; exact List.take_length
      rw [e] at h
      clear e hlt
      go_wp2
      go_end0
      exact ⟨rfl, h⟩
end Go.Proofs.YtngiabfpfklmjaaDoor
