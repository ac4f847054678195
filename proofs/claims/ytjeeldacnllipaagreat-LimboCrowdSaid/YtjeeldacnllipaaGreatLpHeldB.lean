import Derived.Test.YtjeeldacnllipaaGreatLpDrop
import Derived.Deep.RegionHeld
namespace Go.Proofs.YtjeeldacnllipaaGreat
set_option linter.unusedVariables false
set_option linter.unusedSimpArgs false
set_option linter.unnecessarySimpa false
section
open Go.RowKit
section
variable {P : Program} {op : Oper} {a : Act} {ops : Array Oper} {σ w : World} {M M0 : Mm} {Q : Exit → Act → World → Prop} {K : Act → World → Prop} {E : Prop}
theorem zU (hw : Region.wanted op (yielded ops a.tmps) = true) (t : TypeId) (x : Operand) (ho : op.op = .load t x) {b i : Nat} (hx : a.eval x = .pointer (some ⟨b, i, none⟩))
  {cs : Array Value} {e : TypeId} {fz : Nat × Nat} (hb : M b = some (.cells cs e fz)) {v : Value} (hv : cs[i]? = some v) {d : TypeDesc} (hu : P.underlying t = some d) (hd : d.isRow = false) : YieldsIf P ops (Has σ M) op v a :=
 .inl ⟨hw, fun w h => by
  have hagg : (isAgg t).run P w = .ok false w := by
   unfold isAgg
   rw [Sem.run_bind, run_underlying hu w]
   cases d <;> simp_all [TypeDesc.isRow]
  unfold execOp
  simp [ho, hx, Instr.loadAt, Instr.sureAddr, loadVar, hagg, load, h.cell hb, hv, Sem.run, Sem.run_bind]⟩
theorem yZ (hw : Region.wanted op (yielded ops a.tmps) = true) (t : TypeId) (x : Operand) (ho : op.op = .load t x) {b i : Nat} (hx : a.eval x = .pointer (some ⟨b, i, none⟩))
  {cs : Array Value} {e : TypeId} {fz : Nat × Nat} (hb : M b = some (.cells cs e fz)) {xs : Array Value} {n : Nat} (hc : cs.extract i (i + n) = xs) (hn : xs.size = n) {d : TypeDesc} (hu : P.underlying t = some d) (hd : d.isRow = true) (hi : (P.info? t).map (·.size) = some n) :
  YieldsIf P ops (Has σ M) op (.agg xs) a :=
 .inl ⟨hw, fun w h => by
  have hr : w.rangeAt b i xs.toList := h.range hb (by rw [hn, hc])
  unfold execOp
  simp only [ho, hx, Instr.loadAt, Instr.sureAddr, Sem.run_bind, Sem.run_pure, Result.andThen_ok, run_loadVar_mid w b i t xs.toList d hr hu hd (by simpa [hn] using hi)]⟩
theorem xB (h : Has σ M w) (hle : M0.le M) (hg : op.guard = none) (s x : Operand) (t : TypeId)
  (ho : op.op = .call { callee := .builtin .append, args := #[s, x], argTypes := #[t, t] })
  {e : TypeId} {z : Value} {size bytes : Nat} (ht : P.underlying t = some (.slice e)) (hi : (P.info? e).map (fun i => (i.zero, i.size, i.bytes)) = some (some z, size, bytes)) (hzs : z.cells.size = size) (hsz : 0 < size)
  {v u : Value} {n : Nat} {xs : List Value} (hs : a.eval s = v) (hown : Own M0 M e size v n xs) {m : Nat} {ys : List Value} (hx : a.eval x = u) (hr : Rd M size u m ys) (h1 : ∀ y ∈ ys, y.oneCell' = true)
  (h63 : n + m ≤ 140737488355328) (hbytes : (n + m) * bytes ≤ 140737488355328)
  (hk : ∀ v' w', Acc σ M0 w' e size v' (n + m) (xs ++ ys) → K (a.put op.dst v') w') : if Region.wanted op (yielded ops a.tmps) = true then Oper.wp P op a w K Q else E := by
 have hw : Region.wanted op (yielded ops a.tmps) = true := by simp [Region.wanted, hg]
 rw [if_pos hw]
 obtain ⟨i, hi1, hz, hsize, hby⟩ := info_parts hi
 obtain ⟨hl, A, c, rfl, hc, hA⟩ := hr
 have hu : (∃ c', Value.slice A m c = .slice none 0 c' ∧ m = 0) ∨ ∃ ad c', Value.slice A m c = .slice (some ad) m c' ∧ ∀ j x, ys[j]? = some x → w.cell? (ad.add j) = some x := by
  rcases Nat.eq_zero_or_pos m with h0 | h0
  ·subst h0
   have hn : ys = [] := List.eq_nil_of_length_eq_zero (by simpa using hl)
   subst hn
   cases A with
   | none => exact .inl ⟨c, rfl, rfl⟩
   | some ad => exact .inr ⟨ad, c, rfl, fun j x hx => by simp at hx⟩
  obtain ⟨b, o, cs, t', fz, rfl, hb, hx⟩ := hA h0
  refine .inr ⟨_, c, rfl, fun j x hj => ?_⟩
  rw [Addr.add_mid, h.cell hb]
  exact hx j x hj
 obtain ⟨v', w', hr, M', hH, hl', hO, _⟩ := vZ (P := P) h hle t op.type e i z size bytes ht hi1 hz hsize hby hzs hsz hown (.slice A m c) (m := m) (news := ys) hu hl h1 (by unfold maxLen; omega) hbytes
 unfold Oper.wp execOp
 simp only [ho, resolve, invoke, builtin, Sem.run_bind, Sem.run_pure, Result.andThen_ok, List.map_toArray, List.map_cons, List.map_nil, hs, hx, hr]
 exact hk v' w' ⟨M', hH, hl', hO⟩
end
end
section
variable {P : Program} {md : Region.Mode} {ops : Array Oper} {Q : Exit → Act → World → Prop} {S : World → Prop}
theorem tkA {oi : Oper} {v : Value} {fuel : Nat} {listed : Array Bool} {a : Act} {w : World} (i : Nat) (hi : ops[i]? = some oi) (hS : S w) (hy : YieldsIf P ops S oi v a) (h : wpAnyH P md ops Q S fuel (listed.setIfInBounds i true) (a.put oi.dst v) w) (hs : Region.noSelect ops = true := by kernel_rfl) (hf : Region.free md ops listed i = true := by kernel_rfl) (hr : (Region.ready md ops listed).contains i = true := by kernel_rfl) (hQ : ∀ c a w, Q (.panic c) (a.put oi.dst v) w → Q (.panic c) a w := by exact fun _ _ _ h => h) : wpAnyH P md ops Q S (fuel + 1) listed a w := wpAnyH_take hi hs hf hr hQ hy hS h
theorem tkB {oi : Oper} {v : Value} {fuel : Nat} {listed : Array Bool} {a : Act} {w : World} (i : Nat) (h : wpAnyH P md ops Q S fuel (listed.setIfInBounds i true) (a.put oi.dst v) w) (hi : ops[i]? = some oi := by rfl) (hw : Region.wanted oi (yielded ops a.tmps) = true := by rfl) (hy : ∀ w, S w → (execOp a.eval oi).run P w = .ok (.value v) w := by (intro wz _; go_simp; try with_reducible rfl)) (hS : S w := by assumption) (hs : Region.noSelect ops = true := by kernel_rfl) (hf : Region.free md ops listed i = true := by kernel_rfl) (hr : (Region.ready md ops listed).contains i = true := by kernel_rfl) (hQ : ∀ c a w, Q (.panic c) (a.put oi.dst v) w → Q (.panic c) a w := by exact fun _ _ _ h => h) : wpAnyH P md ops Q S (fuel + 1) listed a w := wpAnyH_take hi hs hf hr hQ (.inl ⟨hw, hy⟩) hS h
theorem op1 {o : Oper} {fuel : Nat} {listed : Array Bool} {a : Act} {w : World} (i : Nat) (ho : ops[i]? = some o) (h : ∀ K' : Act → World → Prop, Shut (∀ a w, S w → (S w → wpAnyH P md ops Q S fuel (listed.setIfInBounds i true) a w) → K' a w) → if Region.wanted o (yielded ops a.tmps) = true then Oper.wp P o a w K' Q else K' (a.put o.dst undef) w) (hr : Region.ready md ops listed = [i] := by kernel_rfl) : wpAnyH P md ops Q S (fuel + 1) listed a w := wpAnyH_ready (rs := [i]) hr (by simp) (AllReadyH.cons ho h AllReadyH.nil)
end
end Go.Proofs.YtjeeldacnllipaaGreat
