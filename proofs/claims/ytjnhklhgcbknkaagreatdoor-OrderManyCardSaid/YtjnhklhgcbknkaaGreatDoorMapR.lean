/- A range over a map from numbers to numbers; lookups in regions that draw. -/
import Derived.Test.YtjnhklhgcbknkaaGreatDoorMapI
import Derived.Test.YtjnhklhgcbknkaaGreatDoorWalk
namespace Go.Proofs.YtjnhklhgcbknkaaGreatDoor
open Go.RowKit
set_option linter.unusedVariables false
set_option linter.unusedSimpArgs false
set_option linter.unnecessarySimpa false
section
variable {σ w : World} {M : Mm} {it bm since c0 clock : Nat} {seen : Array Nat} {es : Array MapEntry}
theorem run_next_hasI (h : Has σ M w) (ty : TypeId) (hit : M it = some (.mapIter (some bm) since seen c0)) (hb : M bm = some (.map es clock)) (hold : ∀ x ∈ es.toList, x.born < since) (hsc : since ≤ c0) :
    ((leftOf es seen).size = 0 ∧ (Instr.next (.pointer (some ⟨it, 0, none⟩)) false ty).run Tryz.prog w = .ok (.tuple #[.bool false]) w) ∨
    ∃ e ∈ (leftOf es seen).toList, ∃ w1 : World, Has σ (M.upd it (.mapIter (some bm) since (seen.push e.born) clock)) w1 ∧ (Instr.next (.pointer (some ⟨it, 0, none⟩)) false ty).run Tryz.prog w = .ok (.tuple #[.bool true, e.key, e.val]) w1 := by
  have hwi := h.at_ _ _ hit
  have hwb := h.at_ _ _ hb
  simp only [Instr.next, getObj, Sem.run_bind, Sem.run, hwi, hwb, Result.andThen, next_test_false seen es since c0 hold hsc, Bool.false_eq_true, if_false]
  have hmem : ∀ x ∈ (Array.filter (fun e => !seen.contains e.born) es).toList, x.born < since := fun x hx => hold x (by simp at hx ⊢; exact hx.1)
  unfold leftOf
  generalize Array.filter (fun e => !seen.contains e.born) es = L at hmem ⊢
  have e1 : L.filter (fun x => decide (x.born < since)) = L := Array.filter_eq_self.2 (fun x hx => by simpa using hmem x (by simpa using hx))
  have e2 : L.filter (fun x => decide (x.born ≥ since)) = #[] := by
    rw [Array.filter_eq_empty_iff]
    intro x hx
    have := hmem x (by simpa using hx)
    simp
    omega
  simp only [e1, e2, Array.append_empty]
  by_cases h0 : L.size = 0
  · left
    have : L = #[] := Array.eq_empty_of_size_eq_zero h0
    subst this
    refine ⟨rfl, ?_⟩
    simp [choose, Sem.run, Question.forced]
  · right
    have hne : L.isEmpty = false := by simp [Array.isEmpty, h0]
    simp only [hne, Bool.false_eq_true, if_false, Array.empty_append, Array.size_map]
    have hch : ∃ (j : Nat) (w1 : World), j < L.size ∧ Has σ M w1 ∧ (choose (Question.mapNext L.size)).run Tryz.prog w = .ok j w1 := by
      by_cases hf : L.size ≤ 1
      · exact ⟨0, w, by omega, h, by simp [choose, Sem.run, Question.forced, hf]⟩
      · exact ⟨_, w.drew, Nat.mod_lt _ (by omega), h.drew, by
          simp only [choose, Sem.run, Question.forced, decide_eq_true_eq, hf, if_false, Question.cut]
          rfl⟩
    obtain ⟨j, w1, hj, h1, hrun⟩ := hch
    have hw1 := h1.at_ _ _ hit
    have hlt : it < w1.heap.size := lt_of_block hw1
    have fin : ∀ o : Obj, Has σ (M.upd it o) { w1 with heap := w1.heap.setIfInBounds it o } := fun o => h1.put ⟨rfl, rfl, rfl, by simp, fun k hk => by simp [Array.getElem?_setIfInBounds, Ne.symm hk]⟩ (by simp [hlt])
    refine ⟨L[j], by simp, _, fin _, ?_⟩
    have hset : ∀ (o' : Obj), (setObj it o').run Tryz.prog w1 = .ok () { w1 with heap := w1.heap.setIfInBounds it o' } := fun o' => by
      simp only [setObj, Sem.run]
      rw [hw1]
    simp only [hrun, Array.getElem?_map, Array.getElem?_eq_getElem hj, Option.map_some, Sem.run_bind, hset, Result.andThen]
    rfl
theorem run_entry_hasI (h : Has σ M w) {e : MapEntry} (hit : M it = some (.mapIter (some bm) since (seen.push e.born) clock)) (hb : M bm = some (.map es clock)) (he : e ∈ es.toList) (hn : (es.toList.map (·.born)).Nodup) :
    (Instr.entry (.pointer (some ⟨it, 0, none⟩))).run Tryz.prog w = .ok (.tuple #[e.key, e.val]) w := by
  have hwi := h.at_ _ _ hit
  have hwb := h.at_ _ _ hb
  have hf : es.find? (·.born == e.born) = some e := by rw [← Array.find?_toList]; exact find_born e es.toList hn he
  simp only [Instr.entry, getObj, Sem.run_bind, Sem.run, hwi, hwb, Result.andThen, Array.back?_push, bne_self_eq_false, Bool.false_eq_true, if_false, hf]
  rfl
theorem run_range_hasI (h : Has σ M w) (hb : M bm = some (.map es clock)) : (Instr.range 118 (.map (some bm))).run Tryz.prog w = .ok (.pointer (some ⟨w.heap.size, 0, none⟩)) (w.alloc (.mapIter (some bm) clock #[] clock)) :=
  run_range_map w 118 _ _ bm es clock Tryz.underlying118 (h.at_ _ _ hb)
theorem iterSeen_hasI (h : Has σ M w) {a : Option Nat} {b c : Nat} (hit : M it = some (.mapIter a b seen c)) : w.iterSeen it = seen := by
  unfold World.iterSeen
  rw [h.at_ _ _ hit]
end
theorem left_memI {es : List EntI} {seen : Array Nat} {e : MapEntry} (h : e ∈ (leftOf (es.map EntI.e).toArray seen).toList) : ∃ x ∈ es, e = x.e ∧ seen.contains x.born = false := by
  obtain ⟨h1, h2⟩ := mem_left h
  simp only [List.mem_map] at h1
  obtain ⟨x, hx, rfl⟩ := h1
  exact ⟨x, hx, rfl, h2⟩
section
variable {o op : Oper} {a : Act} {ops : Array Oper} {σ w : World} {M : Mm} {Q : Exit → Act → World → Prop} {b : Nat} {es : List EntI} {clock : Nat} {k : Int}
theorem quiet_lookup_int {K : Act → Prop} (m x : Operand) (ho : o.op = .lookup 118 m x false) (hm : a.eval m = .map (some b)) (hx : a.eval x = .int .i64 k) (hb : M b = some (mapRowI es clock)) (h : K (a.put o.dst (.int .i64 (valI k es)))) : o.quiet Tryz.prog a (Has σ M) K :=
  ⟨_, fun w hw => by
    unfold Oper.quietAt execOp
    simp [ho, hm, hx, run_lookup_int hw hb k]
    exact ⟨rfl, rfl⟩, h⟩
end
end Go.Proofs.YtjnhklhgcbknkaaGreatDoor
