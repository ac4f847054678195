/- The text of a state without anything. -/
import Derived.Test.YtjnhklhgcbknkaaGreatDoorMoG
namespace Go.Proofs.YtjnhklhgcbknkaaGreatDoor
open Go.RowKit
set_option linter.unusedVariables false
set_option linter.unusedSimpArgs false
set_option linter.unnecessarySimpa false
theorem WM.root {σ w : World} {M : Mm} {b : Nat} {s : ByteArray} (h : WM σ M b s w) : ∃ ρ N, Has ρ N w ∧ M.le N ∧ (∀ k, N k = none → k ≠ b) ∧ ∀ N' w', Has ρ N' w' → N.le N' → WM σ M b s w' :=
  ⟨w, World.mm w, Has.new w, fun k o hk => h.has.at_ k o hk, fun k hk e => by
    subst e
    have hlt := h.wr.lt
    have : w.heap[k]? = none := hk
    rw [Array.getElem?_eq_none_iff] at this
    omega, fun N' w' h' hl => by
    have hbl : Below w.heap.size w w' := h'.toBelow hl
    exact ⟨h.has.below hbl, h.wr.below hbl⟩⟩
theorem WM.know {σ w : World} {M : Mm} {b : Nat} {s : ByteArray} (h : WM σ M b s w) {k : Nat} {o : Obj} (hk : w.heap[k]? = some o) : WM σ (M.upd k o) b s w :=
  ⟨⟨h.has.os, h.has.tape, h.has.output, h.has.size, fun j p hj => by
    by_cases e : j = k
    · subst e
      rw [Mm.upd_same] at hj
      cases hj
      exact hk
    · rw [Mm.upd_ne e] at hj
      exact h.has.at_ j p hj⟩, h.wr⟩
theorem Wr.of {w : World} {b : Nat} (h : w.heap[b]? = some (.cells #[.pointer none, .slice none 0 0] 110)) : Wr b ⟨#[]⟩ w :=
  ⟨_, .inl rfl, Nat.le_refl _, _, h, World.ownsRowF_nil _ _ _ _, by intro h; cases h⟩
theorem info_u64 : (Tryz.prog.info? 23).map (fun i => (i.zero, i.size, i.bytes)) = some (some (.int .u64 0), 1, 8) := by kernel_rfl
/-- A slice literal of known values, at a step of a region that draws. -/
theorem step_litn {P : Program} {op : Oper} {a : Act} {ops : Array Oper} {w : World} {Q : Exit → Act → World → Prop} {K : Act → World → Prop} {E : Prop} {e : TypeId} {z : Value} {size bytes : Nat} {cells : Array Value} (hg : op.guard = none) (t : TypeId) (n : Nat) (parts : Array (Nat × Operand)) (vs : List (Nat × Value)) (ho : op.op = .buildSlice t n parts) (hu : P.underlying t = some (.slice e)) (hi : (P.info? e).map (fun i => (i.zero, i.size, i.bytes)) = some (some z, size, bytes)) (hv : (parts.map fun (i, x) => (i, a.eval x)).toList = vs) (hs : 0 < n * size) (hs2 : n * size ≤ 1000) (hf : Instr.fill (fun i => some (i * size, size)) ((Array.range (n * size)).map (z.cells[· % z.cells.size]!)) vs = some cells)
    (hk : K (a.put op.dst (.slice (some ⟨w.heap.size, 0, none⟩) n n)) (w.alloc (.cells cells e))) : if Region.wanted op (yielded ops a.tmps) = true then Oper.wp P op a w K Q else E := by
  have hw : Region.wanted op (yielded ops a.tmps) = true := by simp [Region.wanted, hg]
  rw [if_pos hw]
  obtain ⟨i, hi1, hz, hsize, hby⟩ := info_parts hi
  subst hsize
  refine wp_buildSlice t e n parts ho cells i z hu hi1 hz (by omega) (by omega) ?_ hk
  rw [hv]
  exact hf
theorem wpList_litn_has {P : Program} {σ : World} {M : Mm} {ops : Array Oper} {rest : List Oper} {op : Oper} {a : Act} {w : World} {Q : Exit → Act → World → Prop} {e : TypeId} {z : Value} {size bytes : Nat} {cells : Array Value} (h : Has σ M w) (hg : op.guard = none) (t : TypeId) (n : Nat) (parts : Array (Nat × Operand)) (vs : List (Nat × Value)) (ho : op.op = .buildSlice t n parts) (hu : P.underlying t = some (.slice e)) (hi : (P.info? e).map (fun i => (i.zero, i.size, i.bytes)) = some (some z, size, bytes)) (hv : (parts.map fun (i, x) => (i, a.eval x)).toList = vs) (hs : 0 < n * size) (hs2 : n * size ≤ 1000) (hf : Instr.fill (fun i => some (i * size, size)) ((Array.range (n * size)).map (z.cells[· % z.cells.size]!)) vs = some cells)
    (hk : ∀ b w', Has σ (M.upd b (.cells cells e)) w' → M b = none → wpList P ops Q rest (a.put op.dst (.slice (some ⟨b, 0, none⟩) n n)) w') : wpList P ops Q (op :: rest) a w := by
  obtain ⟨i, hi1, hz, hsize, hby⟩ := info_parts hi
  subst hsize
  refine wpList_buildSlice hg t e n parts ho cells i z hu hi1 hz (by omega) (by omega) ?_ (hk _ _ (h.alloc _) h.fresh)
  rw [hv]
  exact hf
section
variable {σ w : World} {M : Mm}
theorem lineLen_0 (h : Has σ M w) : Calls Tryz.prog 31 #[.agg #[nilS]] w fun r w' => r = .returned (.int .i64 0) ∧ Has σ M w' := by
  have q0 : (#[nilS] : Array Value)[0]? = some nilS := rfl
  go_enter Tryz.func31, Tryz.ntmps31
  go_upto_region 1 with (first
    | ((with_reducible show wpList _ _ _ ({ dst := _, op := Op.box 80 _, type := _, pos := _, after := _, guard := _ } :: _) _ _); refine wpList_box_has h rfl 80 _ rfl ?_; clear h; intro b1 w h hn1; try simp only [Act.put, List.setIfInBounds_toArray, List.set_cons_zero, List.set_cons_succ]))
  replace hn1 : M b1 = none := hn1
  replace h : Has σ (M.upd b1 (.cells #[nilS] 80)) w := h
  have hle2 : M.le (M.upd b1 (.cells #[nilS] 80)) := Mm.le_upd' hn1 _
  have hb1 : (M.upd b1 (.cells #[nilS] 80)) b1 = some (.cells #[nilS] 80) := (Mm.le_refl _) _ _ (Mm.upd_same _ _ _)
  replace hn1 : M b1 = none := Mm.none_of (Mm.le_refl _) hn1
  generalize (M.upd b1 (.cells #[nilS] 80)) = M2 at h hle2 hb1
  unfold nilS at *
  go_wp2_with (first
    | (with_reducible show wpList _ _ _ ({ dst := _, op := Op.load 62 _, type := _, pos := _, after := _, guard := _ } :: _) _ _; refine wpList_load1_has h rfl 62 _ rfl rfl hb1 q0 Tryz.underlying62 rfl ?_))
  go_ret
  exact ⟨rfl, h.le hle2⟩
theorem cloneP_nil (h : Has σ M w) : Calls Tryz.prog 54 #[nilS] w fun r w' => r = .returned nilS ∧ Has σ M w' := by
  show Calls _ _ #[.slice none 0 0] _ _
  have hb : ∀ w, (binOp .eql 62 (.slice none 0 0) (.slice none 0 0)).run Tryz.prog w = .ok (.bool true) w := fun w => by kernel_rfl
  go_enter Tryz.func54, Tryz.ntmps54
  go_wp2
  go_ret
  exact ⟨rfl, h⟩
theorem lineAll_0 (h : Has σ M w) : Calls Tryz.prog 33 #[.agg #[nilS]] w fun r w' => r = .returned nilS ∧ Has σ M w' := by
  have q0 : (#[nilS] : Array Value)[0]? = some nilS := rfl
  have CL := Lib.hid (fun (M : Mm) (w : World) (h : Has σ M w) => cloneP_nil h)
  go_enter Tryz.func33, Tryz.ntmps33
  go_upto_region 1 with (first
    | ((with_reducible show wpList _ _ _ ({ dst := _, op := Op.box 80 _, type := _, pos := _, after := _, guard := _ } :: _) _ _); refine wpList_box_has h rfl 80 _ rfl ?_; clear h; intro b1 w h hn1; try simp only [Act.put, List.setIfInBounds_toArray, List.set_cons_zero, List.set_cons_succ]))
  replace hn1 : M b1 = none := hn1
  replace h : Has σ (M.upd b1 (.cells #[nilS] 80)) w := h
  have hle2 : M.le (M.upd b1 (.cells #[nilS] 80)) := Mm.le_upd' hn1 _
  have hb1 : (M.upd b1 (.cells #[nilS] 80)) b1 = some (.cells #[nilS] 80) := (Mm.le_refl _) _ _ (Mm.upd_same _ _ _)
  replace hn1 : M b1 = none := Mm.none_of (Mm.le_refl _) hn1
  generalize (M.upd b1 (.cells #[nilS] 80)) = M2 at h hle2 hb1
  go_wp2_with (first
    | (with_reducible show wpList _ _ _ ({ dst := _, op := Op.load 62 _, type := _, pos := _, after := _, guard := _ } :: _) _ _; refine wpList_load1_has h rfl 62 _ rfl rfl hb1 q0 Tryz.underlying62 rfl ?_)
    | (go_at_call 54; refine (CL.out _ _ h).mono ?_; clear h; rintro _ w ⟨rfl, h⟩))
  go_ret
  exact ⟨rfl, h.le hle2⟩
end
end Go.Proofs.YtjnhklhgcbknkaaGreatDoor
