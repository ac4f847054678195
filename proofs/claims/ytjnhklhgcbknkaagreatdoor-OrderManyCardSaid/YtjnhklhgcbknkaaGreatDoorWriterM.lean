/- The writer of package means: a builder within a struct. -/
import Derived.Test.YtjnhklhgcbknkaaGreatDoorMoF
import Derived.Lib.FrozenHead
import Derived.Lib.UnsafeStr
import Derived.Lib.Builder
import Derived.Lib.OthersKept
import Derived.Lib.BufferKept
import Derived.Shelf.RegionOpenPlain
namespace Go.Proofs.YtjnhklhgcbknkaaGreatDoor
open Go.RowKit
set_option linter.unusedVariables false
set_option linter.unusedSimpArgs false
set_option linter.unnecessarySimpa false
/-- The builder in block b holds these bytes. -/
def Wr (b : Nat) (s : ByteArray) (w : World) : Prop :=
  ∃ p, (p = .pointer none ∨ p = .pointer (some ⟨b, 0, none⟩)) ∧ Lib.BuilderAtF 110 5 b b p (Lib.strCells s) w
/-- What the builder's calls leave as it is. -/
def Fr (b : Nat) (w w' : World) : Prop := Below b w w' ∧ Lib.OthersKept 5 (some b) w w'
theorem Fr.trans {b : Nat} {w w' w'' : World} (h : Fr b w w') (k : Fr b w' w'') : Fr b w w'' := ⟨h.1.trans k.1, h.2.trans k.2⟩
theorem Fr.below {b : Nat} {w w' w'' : World} (h : Fr b w w') (k : Below w'.heap.size w' w'') (hb : b ≤ w'.heap.size) : Fr b w w'' := ⟨h.1.trans (k.mono hb), h.2.below k⟩
theorem Wr.lt {b : Nat} {s : ByteArray} {w : World} (h : Wr b s w) : b < w.heap.size := by obtain ⟨p, _, h⟩ := h; exact h.lt
theorem Wr.below {b : Nat} {s : ByteArray} {w w' : World} (h : Wr b s w) (hb : Below w.heap.size w w') : Wr b s w' := by
  obtain ⟨p, hp, hB, v, hbk, hown, hne⟩ := h
  refine ⟨p, hp, hB, v, (hb.block b (lt_of_block hbk)).trans hbk, ⟨hown.1, ?_⟩, hne⟩
  rcases hown.2 with h0 | ⟨g, cap, cur, fz, hv, hg, hbg, r⟩
  · exact .inl h0
  · exact .inr ⟨g, cap, cur, fz, hv, hg, (hb.block g (lt_of_block hbg)).trans hbg, r⟩
theorem Wr.new (w : World) : Wr w.heap.size ⟨#[]⟩ (w.alloc (.cells #[.pointer none, .slice none 0 0] 110)) := by
  refine ⟨_, .inl rfl, Nat.le_refl _, _, heap_alloc_new w _, World.ownsRowF_nil _ _ _ _, by intro h; cases h⟩
section
variable {w : World} {b : Nat} {s : ByteArray}
set_option maxHeartbeats 1000000 in
theorem copyCheck_any (h : Wr b s w) : Calls Tryz.prog 65 #[.pointer (some ⟨b, 0, none⟩)] w fun r w' =>
    r = .returned (.tuple #[]) ∧ Lib.BuilderAtF 110 5 b b (.pointer (some ⟨b, 0, none⟩)) (Lib.strCells s) w' ∧ Fr b w w' := by
  obtain ⟨p, hp, hA⟩ := h
  have c0 := hA.cell0
  have f0 := hA.frozen0
  have hsh := hA.shape
  have HA := Lib.hid hA
  clear hA
  have hi : ∃ j, Tryz.prog.info? 108 = some j ∧ j.size = 2 := Option.map_eq_some_iff.1 (by kernel_rfl)
  obtain ⟨j, hj, hjs⟩ := hi
  have hto : (convert 105 172 (.pointer (some ⟨b, 0, none⟩))).run Tryz.prog w = .ok (.pointer (some ⟨b, 0, none⟩)) w := Lib.run_to_unsafe w ⟨b, 0, none⟩ Tryz.underlying105 Tryz.underlying172 hj (by rw [hjs]; decide) hsh (Nat.zero_lt_succ 1)
  have hfrom : (convert 172 105 (.pointer (some ⟨b, 0, none⟩))).run Tryz.prog w = .ok (.pointer (some ⟨b, 0, none⟩)) w := Lib.run_from_unsafe w ⟨b, 0, none⟩ Tryz.underlying172 Tryz.underlying105 hj hsh (by kernel_rfl)
  have hneq := Lib.run_neq_ptr_same w ⟨b, 0, none⟩ Tryz.underlying105 hj
  clear hj hjs
  have hne : ∀ W, (Extern.AbiNoEscape.same #[.pointer (some ⟨b, 0, none⟩)]).run Tryz.prog W = .ok (.pointer (some ⟨b, 0, none⟩)) W := fun _ => rfl
  have hn := @run_callFunc_extern Tryz.prog 76 _ Extern.AbiNoEscape.same Tryz.func76 (by kernel_rfl) (by kernel_rfl) (by kernel_rfl) (by kernel_rfl)
  rcases hp with rfl | rfl
  · go_enter Tryz.func65, Tryz.ntmps65
    go_wp2
    go_end0
    exact ⟨rfl, HA.out.used _, (Below.refl b w).setCell (p := ⟨b, 0, none⟩) (Nat.le_refl _) _, (Lib.OthersKept.refl _ _ w).setCell ⟨b, 0, none⟩ rfl _⟩
  · go_enter Tryz.func65, Tryz.ntmps65
    go_wp2
    go_end0
    exact ⟨rfl, HA.out, Below.refl b _, Lib.OthersKept.refl _ _ _⟩
theorem strCells_append (s t : ByteArray) : Lib.strCells (s ++ t) = Lib.strCells s ++ Lib.strCells t := by
  unfold Lib.strCells
  rw [ByteArray.data_append]
  simp
set_option maxHeartbeats 2000000 in
theorem writeString_any (h : Wr b s w) (t : ByteArray) (hl : s.size + t.size ≤ 1000000) : Calls Tryz.prog 51 #[.pointer (some ⟨b, 0, none⟩), .string t] w fun r w' =>
    r = .returned (.tuple #[.int .i64 t.size, .nilIface]) ∧ Wr b (s ++ t) w' ∧ Fr b w w' := by
  have hi : ∃ i, Tryz.prog.info? 5 = some i ∧ i.zero = some (.int .u8 0) ∧ i.size = 1 ∧ i.bytes = 1 := by
    have h0 : (Tryz.prog.info? 5).map (fun i => (i.zero, i.size, i.bytes)) = some (some (.int .u8 0), 1, 1) := by kernel_rfl
    obtain ⟨i, hi, he⟩ := Option.map_eq_some_iff.1 h0
    simp only [Prod.mk.injEq] at he
    exact ⟨i, hi, he⟩
  obtain ⟨i0, hi, hz0, hz1, hz2⟩ := hi
  have hTe : 110 ≠ 5 := by decide
  have hlt := h.lt
  have CC := Lib.hid (copyCheck_any h)
  clear h
  go_enter Tryz.func51, Tryz.ntmps51
  go_wp2_with (first
    | (go_at_call 65; refine CC.out.mono ?_))
  rintro e w1 ⟨rfl, h1, hF⟩
  obtain ⟨hB, v, hbk, hown, hne⟩ := h1
  have c0 : w1.cell? ⟨b, 0, none⟩ = some (.pointer (some ⟨b, 0, none⟩)) := by rw [Lib.cell_of_heap hbk]; rfl
  have c1 : w1.cell? ⟨b, 1, none⟩ = some v := by rw [Lib.cell_of_heap hbk]; rfl
  have hs1 := hF.1.size
  have hlt1 : b < w1.heap.size := lt_of_block hbk
  have hown1 := hown
  rw [Lib.strCells_length] at hown1
  go_wp2_with (at_builtin; refine Lib.wpList_append_own_stringF _ rfl _ _ 106 9 rfl b 5 i0 Tryz.underlying106 Tryz.underlying9 hi hz0 hz1 hz2 _ _ _ rfl hown1 t rfl ?c3 ?c4 ?c5 ?_)
  case c3 => unfold maxLen; omega
  case c4 => omega
  case c5 => omega
  intro v' w2 hown' hgrow _
  have hb2 : w2.heap[b]? = some (.cells #[.pointer (some ⟨b, 0, none⟩), v] 110 (0, 0)) := by
    rw [hgrow.block b hlt1 (fun e => hne e.symm)]
    exact hbk
  have d0 : w2.cell? ⟨b, 0, none⟩ = some (.pointer (some ⟨b, 0, none⟩)) := by rw [Lib.cell_of_heap hb2]; rfl
  have d1 : w2.cell? ⟨b, 1, none⟩ = some v := by rw [Lib.cell_of_heap hb2]; rfl
  have f1 : w2.frozen? ⟨b, 1, none⟩ = false := Lib.frozen_of_heap hb2 1
  obtain ⟨ao, n', cap, rfl⟩ : ∃ ao n' cap, v' = .slice ao n' cap := by
    rcases hown'.2 with ⟨hv, _⟩ | ⟨g, cap, cur, fz, hv, _⟩
    · exact ⟨_, _, _, hv⟩
    · exact ⟨_, _, _, hv⟩
  go_wp2
  go_ret2
  refine ⟨rfl, ⟨_, .inr rfl, ?_⟩, (hF.1.grown hgrow (by omega) (fun k hk => (hown.lt k hk).1)).setCell (p := ⟨b, 1, none⟩) (Nat.le_refl _) _, (hF.2.grown hgrow (Lib.ownsRowF_kind hown)).setCell ⟨b, 1, none⟩ rfl _⟩
  rw [strCells_append]
  exact Lib.BuilderAtF.put hB hb2 (bs' := Lib.strCells s ++ Lib.strCells t) (by simpa [Lib.strCells_length] using hown') hTe
end
set_option maxHeartbeats 2000000 in
theorem string_any {w : World} {b : Nat} {s : ByteArray} (h : Wr b s w) (h1 : 1 ≤ s.size) : Calls Tryz.prog 35 #[.pointer (some ⟨b, 0, none⟩)] w fun r w' => r = .returned (.string s) ∧ Below b w w' := by
  obtain ⟨p, hp, hB, v, hbk, hown, hne⟩ := h
  rw [Lib.strCells_length] at hown
  obtain ⟨l, rfl⟩ : ∃ l : List UInt8, s = ⟨l.toArray⟩ := ⟨s.data.toList, by simp⟩
  have hl : (⟨l.toArray⟩ : ByteArray).size = l.length := by show l.toArray.size = _; simp
  rw [hl] at hown h1
  obtain ⟨g, cap, cur, fz, rfl, hbg, hg, hfz, hnc, hcm, hcs, htake⟩ : ∃ g cap cur fz, v = .slice (some ⟨g, 0, none⟩) l.length cap ∧ b ≤ g ∧ w.heap[g]? = some (.cells cur 5 fz) ∧ fz.2 ≤ l.length * 1 ∧ l.length ≤ cap ∧ cap ≤ maxLen ∧ cur.size = cap * 1 ∧ cur.toList.take (l.length * 1) = Lib.strCells ⟨l.toArray⟩ := by
    rcases hown.2 with ⟨_, hz⟩ | ⟨g, cap, cur, fz, hv, r⟩
    · omega
    · exact ⟨g, cap, cur, fz, hv, r⟩
  have c1 : w.drew.cell? ⟨b, 1, none⟩ = some (.slice (some ⟨g, 0, none⟩) l.length cap) := by
    have : w.drew.heap[b]? = some (.cells #[p, .slice (some ⟨g, 0, none⟩) l.length cap] 110 (0, 0)) := hbk
    rw [Lib.cell_of_heap this]; rfl
  have hSD : (Builtin.unsafeSliceData_ #[106] 152 #[.slice (some ⟨g, 0, none⟩) l.length cap]).run Tryz.prog w.drew = .ok (.pointer (some ⟨g, 0, none⟩)) w.drew :=
    Lib.run_unsafeSliceData_row _ _ _ _ _ _ (by omega)
  have hUS : (Builtin.unsafeString_ #[152, 3] 9 #[.pointer (some ⟨g, 0, none⟩), .int .i64 l.length]).run Tryz.prog w.drew = .ok (.string ⟨l.toArray⟩) (w.drew.freeze ⟨g, 0, none⟩ l.length) := by
    refine Lib.run_unsafeString_row w.drew 152 3 9 5 Tryz.underlying152 (by kernel_rfl) g cur.size (by have hg' : w.drew.heap[g]? = some (.cells cur 5 fz) := hg; simp [World.shape?, hg']) l (by intro h; rw [h] at h1; simp at h1) (by omega) (by unfold maxLen at hcm; omega) ?_
    intro j x hx
    have := hown.cells (g := g) rfl j (.int .u8 x.toNat) (by simp [Lib.strCells, hx])
    exact this
  have mixed : Tryz.prog.follows .mixedOrders = true := by kernel_rfl
  have HG := Lib.hid hg
  have HGB := Lib.hid hbg
  clear hown hbk hne htake hg hbg hcs hfz
  go_enter Tryz.func35, Tryz.ntmps35
  go_wp2
  go_region_o
  all_goals (go_wp2; go_ret; exact ⟨rfl, Lib.below_freeze (Below.drew (Below.refl b w)) (p := ⟨g, 0, none⟩) HGB.out _⟩)
theorem Has.fr {σ w w' : World} {M : Mm} {b : Nat} (h : Has σ M w) (hM : ∀ k o, M k = some o → k < b) (hF : Fr b w w') : Has σ M w' :=
  ⟨hF.1.os.trans h.os, hF.1.tape.trans h.tape, hF.1.output.trans h.output, Nat.le_trans h.size hF.1.size, fun k o hk => (hF.1.block k (hM k o hk)).trans (h.at_ k o hk)⟩
end Go.Proofs.YtjnhklhgcbknkaaGreatDoor
