/- The writer of means writes zeros. -/
import Derived.Test.YtjnhklhgcbknkaaGreatDoorWriterM
namespace Go.Proofs.YtjnhklhgcbknkaaGreatDoor
open Go.RowKit
set_option linter.unusedVariables false
set_option linter.unusedSimpArgs false
set_option linter.unnecessarySimpa false
def Apart (M : Mm) (b : Nat) : Prop := ∀ k o, M k = some o → k < b ∨ (k ≠ b ∧ ∀ c fz, o ≠ .cells c 5 fz)
theorem Has.fr2 {σ w w' : World} {M : Mm} {b : Nat} (h : Has σ M w) (hM : Apart M b) (hF : Fr b w w') : Has σ M w' :=
  ⟨hF.1.os.trans h.os, hF.1.tape.trans h.tape, hF.1.output.trans h.output, Nat.le_trans h.size hF.1.size, fun k o hk => by
    rcases hM k o hk with h1 | ⟨h1, h2⟩
    · exact (hF.1.block k h1).trans (h.at_ k o hk)
    · exact hF.2 k o (h.at_ k o hk) (by simpa using h1) h2⟩
theorem Apart.upd {M : Mm} {b : Nat} (h : Apart M b) {k : Nat} {o : Obj} (hk : k ≠ b) (ho : ∀ c fz, o ≠ .cells c 5 fz) : Apart (M.upd k o) b := fun j p hj => by
  by_cases e : j = k
  · subst e
    rw [Mm.upd_same] at hj
    cases hj
    exact .inr ⟨hk, ho⟩
  · rw [Mm.upd_ne e] at hj
    exact h j p hj
structure WM (σ : World) (M : Mm) (b : Nat) (s : ByteArray) (w : World) : Prop where
  has : Has σ M w
  wr : Wr b s w
def zer (s : ByteArray) : Nat → ByteArray
  | 0 => s
  | k + 1 => zer s k ++ (⟨#[48]⟩ ++ ⟨#[32]⟩)
theorem zer_size (s : ByteArray) : ∀ k, (zer s k).size = s.size + 2 * k
  | 0 => rfl
  | k + 1 => by
    unfold zer
    rw [ByteArray.size_append, zer_size s k]
    have : (⟨#[48]⟩ ++ ⟨#[32]⟩ : ByteArray).size = 2 := rfl
    rw [this]
    omega
def zwords (n : Nat) : Array Value := (List.replicate n (Value.int .u64 0)).toArray
set_option maxHeartbeats 2000000 in
set_option maxRecDepth 20000 in
theorem putW_zeros {σ w : World} {M : Mm} {b : Nat} {s : ByteArray} (h : WM σ M b s w) (hM : Apart M b) (n : Nat) (hn : n ≤ 3) (hl : s.size ≤ 1000) (sb : Nat) (hsb : w.heap[sb]? = some (.cells (zwords n) 23)) (hne : sb ≠ b) :
    Calls Tryz.prog 30 #[.pointer (some ⟨b, 0, none⟩), .slice (some ⟨sb, 0, none⟩) n n] w fun r w' => r = .returned (.tuple #[]) ∧ WM σ M b (zer s n) w' := by
  have HM := Lib.hid hM
  have HH := Lib.hid h
  have HB := Lib.hid hsb
  have HL := Lib.hid hl
  clear hM h hsb
  go_enter Tryz.func30, Tryz.ntmps30
  go_wp2
  go_loopw [8] (fun i wr => ∃ k : Nat, k ≤ n ∧ i = .int .i64 k ∧ WM σ M b (zer s k) wr ∧ wr.heap[sb]? = some (.cells (zwords n) 23)) (fun i _ => n - (intOf i).toNat)
  case atStart => exact ⟨0, Nat.zero_le _, rfl, HH.out, HB.out⟩
  case round =>
    clear HH HB w
    obtain ⟨w, rfl⟩ : ∃ x : World, x = wr := ⟨_, rfl⟩
    obtain ⟨k, hk, rfl, h, hb⟩ := hrel
    by_cases hlt : k < n
    · have c1 : w.cell? ⟨sb, k, none⟩ = some (.int .u64 0) := by
        rw [cell_of_row w sb k _ _ _ hb]
        unfold zwords
        simp [hlt]
      have hlt' : (k : Int) < (n : Int) := by omega
      have hsz : (zer s k).size + (⟨#[48]⟩ ++ ⟨#[32]⟩ : ByteArray).size ≤ 1000000 := by rw [zer_size]; have : (⟨#[48]⟩ ++ ⟨#[32]⟩ : ByteArray).size = 2 := rfl; rw [this]; omega
      have ES : Hid (zer s (k + 1) = zer s k ++ (⟨#[48]⟩ ++ ⟨#[32]⟩)) := rfl
      have WS : Hid (∀ w, WM σ M b (zer s k) w ∧ w.heap[sb]? = some (.cells (zwords n) 23) → Calls Tryz.prog 51 #[.pointer (some ⟨b, 0, none⟩), .string (⟨#[48]⟩ ++ ⟨#[32]⟩)] w fun r w' => (∃ x, r = .returned (.tuple #[x, .nilIface])) ∧ WM σ M b (zer s k ++ (⟨#[48]⟩ ++ ⟨#[32]⟩)) w' ∧ w'.heap[sb]? = some (.cells (zwords n) 23)) := fun w ⟨h, hb⟩ =>
        (writeString_any h.wr _ hsz).mono fun r w' ⟨hr, hw, hF⟩ => ⟨⟨_, hr⟩, ⟨h.has.fr2 HM.out hF, hw⟩, hF.2 sb _ hb (by simpa using hne) (fun c fz he => by cases he)⟩
      have FU : Hid (∀ w, WM σ M b (zer s k) w ∧ w.heap[sb]? = some (.cells (zwords n) 23) → Calls Tryz.prog 52 #[.int .u64 0, .int .i64 36] w fun r w' => r = .returned (.string ⟨#[48]⟩) ∧ WM σ M b (zer s k) w' ∧ w'.heap[sb]? = some (.cells (zwords n) 23)) := fun w ⟨h, hb⟩ =>
        (formatUint_0 (Has.new w)).mono fun r w' ⟨hr, h'⟩ => by
          have hbl : Below w.heap.size w w' := h'.toBelow fun _ _ h => h
          exact ⟨hr, ⟨h.has.below hbl, h.wr.below hbl⟩, (hbl.block sb (lt_of_block hb)).trans hb⟩
      generalize hs1 : zer s k = s1 at *
      generalize hz2 : (⟨#[48]⟩ ++ ⟨#[32]⟩ : ByteArray) = z2 at *
      have HZ2 := Lib.hid hz2
      have hw : WM σ M b s1 w ∧ w.heap[sb]? = some (.cells (zwords n) 23) := ⟨h, hb⟩
      clear hs1 hz2 hsz h hb
      go_upto_region 3 with (fail)
      have hw2 : WM σ M b s1 w.drew ∧ w.drew.heap[sb]? = some (.cells (zwords n) 23) := ⟨⟨hw.1.has.drew, by obtain ⟨p, hp, hB⟩ := hw.1.wr; exact ⟨p, hp, hB⟩⟩, hw.2⟩
      refine wp_region_held_drew (S := Has σ (M)) (by kernel_rfl) (hw2.1.has) (fun hHeld => ?_)
      clear hw c1
      generalize w.drew = w at hw2 hHeld ⊢
      refine wpAnyH_take (i := 0) (v := ?_) rfl (by kernel_rfl) (by kernel_rfl) (by kernel_rfl) (fun _ _ _ h => h) (Or.inl ⟨by rfl, ?_⟩) hHeld ?_
      rotate_left
      · (intro wz _; go_simp; try with_reducible rfl)
      try simp only [List.getElem_toArray, List.getElem_cons_succ, List.getElem_cons_zero, Act.put, List.setIfInBounds_toArray, List.set_cons_zero, List.set_cons_succ]
      refine wpAnyH_take (i := 1) (v := ?_) rfl (by kernel_rfl) (by kernel_rfl) (by kernel_rfl) (fun _ _ _ h => h) (Or.inl ⟨by rfl, ?_⟩) hHeld ?_
      rotate_left
      · (intro wz _; go_simp; try with_reducible rfl)
      try simp only [List.getElem_toArray, List.getElem_cons_succ, List.getElem_cons_zero, Act.put, List.setIfInBounds_toArray, List.set_cons_zero, List.set_cons_succ]
      refine wpAnyH_take (i := 2) (v := ?_) rfl (by kernel_rfl) (by kernel_rfl) (by kernel_rfl) (fun _ _ _ h => h) (Or.inl ⟨by rfl, ?_⟩) hHeld ?_
      rotate_left
      · (intro wz _; go_simp; try with_reducible rfl)
      try simp only [List.getElem_toArray, List.getElem_cons_succ, List.getElem_cons_zero, Act.put, List.setIfInBounds_toArray, List.set_cons_zero, List.set_cons_succ]
      refine wpAnyH_take (i := 3) (v := ?_) rfl (by kernel_rfl) (by kernel_rfl) (by kernel_rfl) (fun _ _ _ h => h) (Or.inl ⟨by rfl, ?_⟩) hHeld ?_
      rotate_left
      · (intro wz _; go_simp; try with_reducible rfl)
      try simp only [List.getElem_toArray, List.getElem_cons_succ, List.getElem_cons_zero, Act.put, List.setIfInBounds_toArray, List.set_cons_zero, List.set_cons_succ]
      refine wpAnyH_ready (rs := [4]) (by kernel_rfl) (by simp) ?_
      refine AllReadyH.cons rfl (fun K hK => ?_) AllReadyH.nil
      (go_simp; go_wp2_with (go_at_call 52; refine (FU.out _ hw2).mono ?_; clear hw2; try clear hHeld; rintro _ w ⟨rfl, hw3⟩))
      refine hK.out _ _ (hw3.1.has) (fun hHeld => ?_)
      clear hK K
      try simp only [Act.put, List.setIfInBounds_toArray, List.set_cons_zero, List.set_cons_succ]
      refine wpAnyH_take (i := 5) (v := ?_) rfl (by kernel_rfl) (by kernel_rfl) (by kernel_rfl) (fun _ _ _ h => h) (Or.inl ⟨by rfl, ?_⟩) hHeld ?_
      rotate_left
      · (intro wz _; go_simp; try with_reducible rfl)
      try simp only [List.getElem_toArray, List.getElem_cons_succ, List.getElem_cons_zero, Act.put, List.setIfInBounds_toArray, List.set_cons_zero, List.set_cons_succ]
      rw [HZ2.out]
      refine wpAnyH_ready (rs := [6]) (by kernel_rfl) (by simp) ?_
      refine AllReadyH.cons rfl (fun K hK => ?_) AllReadyH.nil
      (go_simp; go_wp2_with (go_at_call 51; refine (WS.out _ hw3).mono ?_; clear hw3; try clear hHeld; rintro _ w ⟨⟨x, rfl⟩, hw4⟩))
      refine hK.out _ _ (hw4.1.has) (fun hHeld => ?_)
      clear hK K
      try simp only [Act.put, List.setIfInBounds_toArray, List.set_cons_zero, List.set_cons_succ]
      refine wpAnyH_done (by kernel_rfl) ?_ _
      clear FU WS hHeld
      go_simp
      go_wp2
      go_roundw
      case rel => exact ⟨k + 1, hlt, by simp, by rw [ES.out]; exact hw4.1, hw4.2⟩
      case measure => simp [intOf]; omega
    · obtain rfl : k = n := by omega
      go_wp2
      go_end0
      exact ⟨rfl, h⟩
set_option maxHeartbeats 2000000 in
theorem putW_nil {σ w : World} {M : Mm} {b : Nat} {s : ByteArray} (h : WM σ M b s w) :
    Calls Tryz.prog 30 #[.pointer (some ⟨b, 0, none⟩), .slice none 0 0] w fun r w' => r = .returned (.tuple #[]) ∧ WM σ M b s w' := by
  have HH := Lib.hid h
  clear h
  go_enter Tryz.func30, Tryz.ntmps30
  go_wp2
  go_loopw [8] (fun i wr => i = .int .i64 0 ∧ WM σ M b s wr) (fun _ _ => 0)
  case atStart => exact ⟨rfl, HH.out⟩
  case round =>
    clear HH w
    obtain ⟨w, rfl⟩ : ∃ x : World, x = wr := ⟨_, rfl⟩
    obtain ⟨rfl, h⟩ := hrel
    go_wp2
    go_end0
    exact ⟨rfl, h⟩
end Go.Proofs.YtjnhklhgcbknkaaGreatDoor
