/- Regions that draw their order, with loads that may come late: the steps of a walk under a class of worlds that stays. -/
import Derived.Test.YtlpkimpdeeiaaaaGreatDrop
import Derived.Deep.RegionHeld
namespace Go.Proofs.YtlpkimpdeeiaaaaGreat
open Go.RowKit
set_option linter.unusedVariables false
set_option linter.unusedSimpArgs false
set_option linter.unnecessarySimpa false

section
variable {P : Program} {op : Oper} {a : Act} {ops : Array Oper} {σ w : World} {M M0 : Mm} {Q : Exit → Act → World → Prop} {K : Act → World → Prop} {E : Prop}
theorem yields_load1 (hw : Region.wanted op (yielded ops a.tmps) = true) (t : TypeId) (x : Operand) (ho : op.op = .load t x) {b i : Nat} (hx : a.eval x = .pointer (some ⟨b, i, none⟩))
    {cs : Array Value} {e : TypeId} {fz : Nat × Nat} (hb : M b = some (.cells cs e fz)) {v : Value} (hv : cs[i]? = some v) {d : TypeDesc} (hu : P.underlying t = some d) (hd : d.isRow = false) : YieldsIf P ops (Has σ M) op v a :=
  .inl ⟨hw, fun w h => by
    have hagg : (isAgg t).run P w = .ok false w := by
      unfold isAgg
      rw [Sem.run_bind, run_underlying hu w]
      cases d <;> simp_all [TypeDesc.isRow]
    unfold execOp
    simp [ho, hx, Instr.loadAt, Instr.sureAddr, loadVar, hagg, load, h.cell hb, hv, Sem.run, Sem.run_bind]⟩
theorem yields_agg (hw : Region.wanted op (yielded ops a.tmps) = true) (t : TypeId) (x : Operand) (ho : op.op = .load t x) {b i : Nat} (hx : a.eval x = .pointer (some ⟨b, i, none⟩))
    {cs : Array Value} {e : TypeId} {fz : Nat × Nat} (hb : M b = some (.cells cs e fz)) {xs : Array Value} {n : Nat} (hc : cs.extract i (i + n) = xs) (hn : xs.size = n) {d : TypeDesc} (hu : P.underlying t = some d) (hd : d.isRow = true) (hi : (P.info? t).map (·.size) = some n) :
    YieldsIf P ops (Has σ M) op (.agg xs) a :=
  .inl ⟨hw, fun w h => by
    have hr : w.rangeAt b i xs.toList := h.range hb (by rw [hn, hc])
    unfold execOp
    simp only [ho, hx, Instr.loadAt, Instr.sureAddr, Sem.run_bind, Sem.run_pure, Result.andThen_ok, run_loadVar_mid w b i t xs.toList d hr hu hd (by simpa [hn] using hi)]⟩
/-- append of a slice that reads as a list, at a step of a region that draws. -/
theorem step_append_rd (h : Has σ M w) (hle : M0.le M) (hg : op.guard = none) (s x : Operand) (t : TypeId)
    (ho : op.op = .call { callee := .builtin .append, args := #[s, x], argTypes := #[t, t] })
    {e : TypeId} {z : Value} {size bytes : Nat} (ht : P.underlying t = some (.slice e)) (hi : (P.info? e).map (fun i => (i.zero, i.size, i.bytes)) = some (some z, size, bytes)) (hzs : z.cells.size = size) (hsz : 0 < size)
    {v u : Value} {n : Nat} {xs : List Value} (hs : a.eval s = v) (hown : Own M0 M e size v n xs) {m : Nat} {ys : List Value} (hx : a.eval x = u) (hr : Rd M size u m ys) (h1 : ∀ y ∈ ys, y.oneCell' = true)
    (h63 : n + m ≤ 140737488355328) (hbytes : (n + m) * bytes ≤ 140737488355328)
    (hk : ∀ v' w', Acc σ M0 w' e size v' (n + m) (xs ++ ys) → K (a.put op.dst v') w') : if Region.wanted op (yielded ops a.tmps) = true then Oper.wp P op a w K Q else E := by
  have hw : Region.wanted op (yielded ops a.tmps) = true := by simp [Region.wanted, hg]
  rw [if_pos hw]
  obtain ⟨i, hi1, hz, hsize, hby⟩ := info_parts hi
  obtain ⟨hl, A, c, rfl, hc, hA⟩ := hr
  have hu : (∃ c', Value.slice A m c = .slice none 0 c' ∧ m = 0) ∨ ∃ ad c', Value.slice A m c = .slice (some ad) m c' ∧ ∀ j x, ys[j]? = some x → w.cell? (ad.add j) = some x := by
    rcases Nat.eq_zero_or_pos m with h0 | h0
    · subst h0
      have hn : ys = [] := List.eq_nil_of_length_eq_zero (by simpa using hl)
      subst hn
      cases A with
      | none => exact .inl ⟨c, rfl, rfl⟩
      | some ad => exact .inr ⟨ad, c, rfl, fun j x hx => by simp at hx⟩
    · obtain ⟨b, o, cs, t', fz, rfl, hb, hx⟩ := hA h0
      refine .inr ⟨_, c, rfl, fun j x hj => ?_⟩
      rw [Addr.add_mid, h.cell hb]
      exact hx j x hj
  obtain ⟨v', w', hr, M', hH, hl', hO, _⟩ := run_append_own_has (P := P) h hle t op.type e i z size bytes ht hi1 hz hsize hby hzs hsz hown (.slice A m c) (m := m) (news := ys) hu hl h1 (by unfold maxLen; omega) hbytes
  unfold Oper.wp execOp
  simp only [ho, resolve, invoke, builtin, Sem.run_bind, Sem.run_pure, Result.andThen_ok, List.map_toArray, List.map_cons, List.map_nil, hs, hx, hr]
  exact hk v' w' ⟨M', hH, hl', hO⟩
/-- A struct or an array is stored as a whole block, at a step of a region that draws. -/
theorem step_storeAll (h : Has σ M w) (hg : op.guard = none) (t : TypeId) (x y : Operand) (ho : op.op = .store t x y) (hdst : op.dst = none) {b : Nat} (hx : a.eval x = .pointer (some ⟨b, 0, none⟩))
    {cs cells : Array Value} {e : TypeId} (hb : M b = some (.cells cs e (0, 0))) (hy : a.eval y = .agg cells) (hs : cs.size = cells.size) (hi : (P.info? t).map (·.size) = some cells.size) (h1 : cells.toList.all (·.oneCell') = true)
    (hk : ∀ w', Has σ (M.upd b (.cells cells e)) w' → K a w') : if Region.wanted op (yielded ops a.tmps) = true then Oper.wp P op a w K Q else E := by
  have hw : Region.wanted op (yielded ops a.tmps) = true := by simp [Region.wanted, hg]
  rw [if_pos hw]
  have hB : Blk w b cs e := h.at_ b _ hb
  refine wp_store_mid t x y ho b 0 cells hx hy ?_ hi (by rw [Array.all_eq_true_iff_forall_mem]; exact fun x hx => List.all_eq_true.1 h1 x (by simpa using hx)) ?_
  · intro j hj
    rw [Nat.zero_add]
    exact ⟨by rw [hB.cell, Array.getElem?_eq_getElem (by omega)]; rfl, hB.free j⟩
  · rw [hdst]
    have hx := blk_setCells b e cells.toList 0 w [] cs.toList [] rfl (by simpa using hs) (by simpa using hB)
    have hx' : Blk (w.setCells b 0 cells.toList) b cells e := by simpa using hx
    exact hk _ (h.put (only_setCells b _ 0 w) hx')
end
end Go.Proofs.YtlpkimpdeeiaaaaGreat
