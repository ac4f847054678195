/- A region that draws its order, whose operations read what every world of a class has, and whose calls hand on a world of that class: one walk in the order of the text. -/
import Derived.Test.YtlpkimpdeeiaaaaGreatEq
import Derived.Deep.QuietTactic
import Derived.BigQuiet
import Derived.Deep.CutBlock
import Derived.Deep.DeepCutAuto
import Derived.Deep.LoopGhost
import Derived.LoopN
namespace Go.Proofs.YtlpkimpdeeiaaaaGreat
open Go.RowKit

section
variable {P : Program} {ops : Array Oper} {C : World → Prop}
theorem wp_region_class (C : World → Prop) {id : Nat} {Q : Exit → Act → World → Prop} {a : Act} {w : World} {l : List Oper} (hm : P.follows .mixedOrders = true) (hB : Region.lexB .any l.toArray = true) (hC : C w.drew)
    (h : wpQuiet P l.toArray C (fun a' => ∀ w', C w' → Q .normal a' w') l a) : (Code.region id l.toArray true).wp P Q a w :=
  wp_region_quiet hm hB hC (by simpa using h)

/-- An array by value, indexed: elements of one cell. -/
theorem run_index_one (w : World) {t e : TypeId} {n : Nat} {d : TypeDesc} (hu : P.underlying t = some (.array n e)) (he : P.underlying e = some d) (hd : d.isRow = false) (hs : P.cellsOf e = 1) (cs : Array Value) (k : IntKind) (i : Int)
    (h0 : 0 ≤ i) (hn : i < n) {v : Value} (hv : cs[i.toNat]? = some v) : (Instr.index t (.agg cs) (.int k i)).run P w = .ok v w := by
  obtain ⟨info, hi⟩ := info_of_underlying he
  have hagg : (isAgg e).run P w = .ok false w := by
    unfold isAgg
    rw [Sem.run_bind, run_underlying he w]
    cases d <;> simp_all [TypeDesc.isRow]
  simp [Instr.index, asIntOf, Sem.run_bind, run_underlying hu, h0, hn, run_sizeOf w hi, hs, part, hagg, hv]

theorem quiet_load_mid {o : Oper} {a : Act} {K : Act → Prop} (ty : TypeId) (x : Operand) (ho : o.op = .load ty x) (b i : Nat) (hx : a.eval x = .pointer (some ⟨b, i, none⟩)) (cs : List Value) (d : TypeDesc)
    (hC : ∀ w, C w → w.rangeAt b i cs) (hu : P.underlying ty = some d) (hd : d.isRow = true) (hi : (P.info? ty).map (·.size) = some cs.length) (h : K (a.put o.dst (.agg cs.toArray))) : o.quiet P a C K :=
  ⟨_, fun w hw => by
    unfold Oper.quietAt execOp
    simp only [ho, hx, Instr.loadAt, Instr.sureAddr, Sem.run_bind, Sem.run_pure, Result.andThen_ok, run_loadVar_mid w b i ty cs d (hC w hw) hu hd hi]
    exact ⟨rfl, rfl⟩, h⟩

theorem quiet_load_arr {o : Oper} {a : Act} {K : Act → Prop} (ty : TypeId) (x : Operand) (ho : o.op = .load ty x) (b i : Nat) (hx : a.eval x = .pointer (some ⟨b, i, none⟩)) (cs : Array Value) (d : TypeDesc)
    (hC : ∀ w, C w → w.rangeAt b i cs.toList) (hu : P.underlying ty = some d) (hd : d.isRow = true) (hi : (P.info? ty).map (·.size) = some cs.size) (h : K (a.put o.dst (.agg cs))) : o.quiet P a C K :=
  quiet_load_mid ty x ho b i hx cs.toList d hC hu hd (by simpa using hi) (by simpa using h)
theorem wpList_load_arr {rest : List Oper} {op : Oper} {a : Act} {w : World} {Q : Exit → Act → World → Prop} (hgd : op.guard = none) (ty : TypeId) (x : Operand) (ho : op.op = .load ty x)
    (b o : Nat) (hx : a.eval x = .pointer (some ⟨b, o, none⟩)) (cs : Array Value) (d : TypeDesc) (hc : w.rangeAt b o cs.toList)
    (hu : P.underlying ty = some d) (hd : d.isRow = true) (hi : (P.info? ty).map (·.size) = some cs.size)
    (h : wpList P ops Q rest (a.put op.dst (.agg cs)) w) : wpList P ops Q (op :: rest) a w :=
  wpList_load_mid hgd ty x ho b o hx cs.toList d hc hu hd (by simpa using hi) (by simpa using h)

/-- The same at a guarded operation whose guard is met. -/
theorem wpList_load_arg {rest : List Oper} {op : Oper} {a : Act} {w : World} {Q : Exit → Act → World → Prop} (hw : Region.wanted op (yielded ops a.tmps) = true) (ty : TypeId) (x : Operand) (ho : op.op = .load ty x)
    (b o : Nat) (hx : a.eval x = .pointer (some ⟨b, o, none⟩)) (cs : Array Value) (d : TypeDesc) (hc : w.rangeAt b o cs.toList)
    (hu : P.underlying ty = some d) (hd : d.isRow = true) (hi : (P.info? ty).map (·.size) = some cs.size)
    (h : wpList P ops Q rest (a.put op.dst (.agg cs)) w) : wpList P ops Q (op :: rest) a w :=
  BigFrame.wpList_want hw fun _ hK => wp_load_mid ty x ho b o hx cs.toList d hc hu hd (by simpa using hi) (by simpa using hK _ _ h)

theorem quiet_load_one {o : Oper} {a : Act} {K : Act → Prop} (ty : TypeId) (x : Operand) (ho : o.op = .load ty x) (b i : Nat) (hx : a.eval x = .pointer (some ⟨b, i, none⟩)) (v : Value) (d : TypeDesc)
    (hC : ∀ w, C w → w.cell? ⟨b, i, none⟩ = some v) (hu : P.underlying ty = some d) (hd : d.isRow = false) (h : K (a.put o.dst v)) : o.quiet P a C K :=
  ⟨_, fun w hw => by
    have hagg : (isAgg ty).run P w = .ok false w := by
      unfold isAgg
      rw [Sem.run_bind, run_underlying hu w]
      cases d <;> simp_all [TypeDesc.isRow]
    unfold Oper.quietAt execOp
    simp [ho, hx, Instr.loadAt, Instr.sureAddr, loadVar, hagg, load, hC w hw, Sem.run, Sem.run_bind, Oper.quietUpon], h⟩

theorem wpList_neq_flat {rest : List Oper} {op : Oper} {a : Act} {w : World} {Q : Exit → Act → World → Prop} (hw : Region.wanted op (yielded ops a.tmps) = true) (t u : TypeId) (x y : Operand) (ho : op.op = .binOp .neq t x y u)
    {xs ys : Array Value} (hx : a.eval x = .agg xs) (hy : a.eval y = .agg ys) (m : Nat) (hm : m ≤ 10000) {ks : List Kd} {n : Nat}
    (hk : kindsOf P m t = some ks) (hl : ks.length = n) (hn : P.cellsOf t = n) {d : TypeDesc} (hu : P.underlying t = some d) (hd : d.isRow = true) (hg : P.eqGuardType P.depth t = false) (fx : fits ks xs.toList) (fy : fits ks ys.toList)
    (h : wpList P ops Q rest (a.put op.dst (.bool (!sames xs.toList ys.toList))) w) : wpList P ops Q (op :: rest) a w :=
  BigFrame.wpList_want hw fun _ hK => by
    unfold Oper.wp execOp
    simp only [ho, hx, hy, Sem.run_bind, run_eqGuard_agg w .neq t x y xs ys hg, Result.andThen_ok, run_neq_flat w m hm hk hl hn hu hd fx fy, Sem.run_pure]
    exact hK _ _ h
theorem wpList_eql_flat {rest : List Oper} {op : Oper} {a : Act} {w : World} {Q : Exit → Act → World → Prop} (hw : Region.wanted op (yielded ops a.tmps) = true) (t u : TypeId) (x y : Operand) (ho : op.op = .binOp .eql t x y u)
    {xs ys : Array Value} (hx : a.eval x = .agg xs) (hy : a.eval y = .agg ys) (m : Nat) (hm : m ≤ 10000) {ks : List Kd} {n : Nat}
    (hk : kindsOf P m t = some ks) (hl : ks.length = n) (hn : P.cellsOf t = n) {d : TypeDesc} (hu : P.underlying t = some d) (hd : d.isRow = true) (hg : P.eqGuardType P.depth t = false) (fx : fits ks xs.toList) (fy : fits ks ys.toList)
    (h : wpList P ops Q rest (a.put op.dst (.bool (sames xs.toList ys.toList))) w) : wpList P ops Q (op :: rest) a w :=
  BigFrame.wpList_want hw fun _ hK => by
    unfold Oper.wp execOp
    simp only [ho, hx, hy, Sem.run_bind, run_eqGuard_agg w .eql t x y xs ys hg, Result.andThen_ok, run_eql_flat w m hm hk hl hn hu hd fx fy, Sem.run_pure]
    exact hK _ _ h

theorem quiet_neq_flat {o : Oper} {a : Act} {K : Act → Prop} (t u : TypeId) (x y : Operand) (ho : o.op = .binOp .neq t x y u) {xs ys : Array Value} (hx : a.eval x = .agg xs) (hy : a.eval y = .agg ys) (m : Nat) (hm : m ≤ 10000) {ks : List Kd} {n : Nat}
    (hk : kindsOf P m t = some ks) (hl : ks.length = n) (hn : P.cellsOf t = n) {d : TypeDesc} (hu : P.underlying t = some d) (hd : d.isRow = true) (hg : P.eqGuardType P.depth t = false) (fx : fits ks xs.toList) (fy : fits ks ys.toList)
    (h : K (a.put o.dst (.bool (!sames xs.toList ys.toList)))) : o.quiet P a C K :=
  ⟨_, fun w _ => by
    unfold Oper.quietAt execOp
    simp only [ho, hx, hy, Sem.run_bind, run_eqGuard_agg w .neq t x y xs ys hg, Result.andThen_ok, run_neq_flat w m hm hk hl hn hu hd fx fy, Sem.run_pure]
    exact ⟨rfl, rfl⟩, h⟩
theorem quiet_eql_flat {o : Oper} {a : Act} {K : Act → Prop} (t u : TypeId) (x y : Operand) (ho : o.op = .binOp .eql t x y u) {xs ys : Array Value} (hx : a.eval x = .agg xs) (hy : a.eval y = .agg ys) (m : Nat) (hm : m ≤ 10000) {ks : List Kd} {n : Nat}
    (hk : kindsOf P m t = some ks) (hl : ks.length = n) (hn : P.cellsOf t = n) {d : TypeDesc} (hu : P.underlying t = some d) (hd : d.isRow = true) (hg : P.eqGuardType P.depth t = false) (fx : fits ks xs.toList) (fy : fits ks ys.toList)
    (h : K (a.put o.dst (.bool (sames xs.toList ys.toList)))) : o.quiet P a C K :=
  ⟨_, fun w _ => by
    unfold Oper.quietAt execOp
    simp only [ho, hx, hy, Sem.run_bind, run_eqGuard_agg w .eql t x y xs ys hg, Result.andThen_ok, run_eql_flat w m hm hk hl hn hu hd fx fy, Sem.run_pure]
    exact ⟨rfl, rfl⟩, h⟩
end

/-- A struct by value whose cells are all integers, of whatever kinds. -/
theorem open_mixed {P : Program} {w : World} {r : Reach} {b : Nat} {t : TypeId} {fs : Array Field} {n : Nat} {ts : List TypeId} {kk : Nat → IntKind} {v : Value} (hu : P.underlying t = some (.struct fs)) (hC : P.cellsOf t = n)
    (hT : P.cellTypes P.depth t = some ts) (hl : ts.length = n) (hk : ∀ i, i < n → ∃ u, ts[i]? = some u ∧ P.underlying u = some (.int (kk i))) (hv : Value.okWide P w r b t v) :
    ∃ c : Nat → Int, v = .agg ((List.range n).map fun i => Value.int (kk i) (c i)).toArray ∧ ∀ i, i < n → (kk i).min ≤ c i ∧ c i ≤ (kk i).max := by
  simp only [Value.okWide, hu] at hv
  obtain ⟨cs, rfl, hsz, ts', hts, _, hall⟩ := hv
  rw [hT] at hts
  cases hts
  have hcell : ∀ i, i < n → ∃ z, cs[i]? = some (.int (kk i) z) ∧ (kk i).min ≤ z ∧ z ≤ (kk i).max := fun i hi => by
    have hi' : i < cs.size := by omega
    obtain ⟨u, h1, h2⟩ := hall i _ (Array.getElem?_eq_getElem hi')
    obtain ⟨u', h3, h4⟩ := hk i hi
    rw [Nat.mod_eq_of_lt (by omega), h3] at h1
    cases h1
    simp only [Cell.okWide, Cell.ok, h4] at h2
    split at h2 <;> simp_all [IntKind.has]
  refine ⟨fun i => if h : i < n then (hcell i h).choose else 0, ?_, fun i hi => ?_⟩
  · congr 1
    apply Array.ext_getElem?
    intro i
    by_cases hi : i < n
    · rw [(hcell i hi).choose_spec.1]
      simp [hi]
    · rw [Array.getElem?_eq_none (by omega), Array.getElem?_eq_none (by simp; omega)]
  · simp only [hi, dif_pos]
    exact (hcell i hi).choose_spec.2

end Go.Proofs.YtlpkimpdeeiaaaaGreat
