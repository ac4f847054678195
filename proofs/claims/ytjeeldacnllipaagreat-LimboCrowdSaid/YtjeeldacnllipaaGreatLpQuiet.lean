import Derived.Test.YtjeeldacnllipaaGreatLpEq
import Derived.BigQuiet
import Derived.Deep.CutBlock
import Derived.Deep.DeepCutAuto
namespace Go.Proofs.YtjeeldacnllipaaGreat
set_option linter.unusedVariables false
set_option linter.unusedSimpArgs false
set_option linter.unnecessarySimpa false
section
open Go.RowKit
section
variable {P : Program} {ops : Array Oper} {C : World → Prop}
theorem zS (C : World → Prop) {id : Nat} {Q : Exit → Act → World → Prop} {a : Act} {w : World} {l : List Oper} (hm : P.follows .mixedOrders = true) (hB : Region.lexB .any l.toArray = true) (hC : C w.drew)
  (h : wpQuiet P l.toArray C (fun a' => ∀ w', C w' → Q .normal a' w') l a) : (Code.region id l.toArray true).wp P Q a w :=
 wp_region_quiet hm hB hC (by simpa using h)
theorem wQ (w : World) {t e : TypeId} {n : Nat} {d : TypeDesc} (hu : P.underlying t = some (.array n e)) (he : P.underlying e = some d) (hd : d.isRow = false) (hs : P.cellsOf e = 1) (cs : Array Value) (k : IntKind) (i : Int)
  (h0 : 0 ≤ i) (hn : i < n) {v : Value} (hv : cs[i.toNat]? = some v) : (Instr.index t (.agg cs) (.int k i)).run P w = .ok v w := by
 obtain ⟨info, hi⟩ := info_of_underlying he
 have hagg : (isAgg e).run P w = .ok false w := by
  unfold isAgg
  rw [Sem.run_bind, run_underlying he w]
  cases d <;> simp_all [TypeDesc.isRow]
 simp [Instr.index, asIntOf, Sem.run_bind, run_underlying hu, h0, hn, run_sizeOf w hi, hs, part, hagg, hv]
theorem mH {o : Oper} {a : Act} {K : Act → Prop} (ty : TypeId) (x : Operand) (ho : o.op = .load ty x) (b i : Nat) (hx : a.eval x = .pointer (some ⟨b, i, none⟩)) (cs : List Value) (d : TypeDesc)
  (hC : ∀ w, C w → w.rangeAt b i cs) (hu : P.underlying ty = some d) (hd : d.isRow = true) (hi : (P.info? ty).map (·.size) = some cs.length) (h : K (a.put o.dst (.agg cs.toArray))) : o.quiet P a C K :=
 ⟨_, fun w hw => by
  unfold Oper.quietAt execOp
  simp only [ho, hx, Instr.loadAt, Instr.sureAddr, Sem.run_bind, Sem.run_pure, Result.andThen_ok, run_loadVar_mid w b i ty cs d (hC w hw) hu hd hi]
  exact ⟨rfl, rfl⟩, h⟩
theorem yC {o : Oper} {a : Act} {K : Act → Prop} (ty : TypeId) (x : Operand) (ho : o.op = .load ty x) (b i : Nat) (hx : a.eval x = .pointer (some ⟨b, i, none⟩)) (cs : Array Value) (d : TypeDesc)
  (hC : ∀ w, C w → w.rangeAt b i cs.toList) (hu : P.underlying ty = some d) (hd : d.isRow = true) (hi : (P.info? ty).map (·.size) = some cs.size) (h : K (a.put o.dst (.agg cs))) : o.quiet P a C K :=
 mH ty x ho b i hx cs.toList d hC hu hd (by simpa using hi) (by simpa using h)
theorem wV {rest : List Oper} {op : Oper} {a : Act} {w : World} {Q : Exit → Act → World → Prop} (hgd : op.guard = none) (ty : TypeId) (x : Operand) (ho : op.op = .load ty x)
  (b o : Nat) (hx : a.eval x = .pointer (some ⟨b, o, none⟩)) (cs : Array Value) (d : TypeDesc) (hc : w.rangeAt b o cs.toList)
  (hu : P.underlying ty = some d) (hd : d.isRow = true) (hi : (P.info? ty).map (·.size) = some cs.size)
  (h : wpList P ops Q rest (a.put op.dst (.agg cs)) w) : wpList P ops Q (op :: rest) a w :=
 wpList_load_mid hgd ty x ho b o hx cs.toList d hc hu hd (by simpa using hi) (by simpa using h)
theorem nG {rest : List Oper} {op : Oper} {a : Act} {w : World} {Q : Exit → Act → World → Prop} (hw : Region.wanted op (yielded ops a.tmps) = true) (ty : TypeId) (x : Operand) (ho : op.op = .load ty x)
  (b o : Nat) (hx : a.eval x = .pointer (some ⟨b, o, none⟩)) (cs : Array Value) (d : TypeDesc) (hc : w.rangeAt b o cs.toList)
  (hu : P.underlying ty = some d) (hd : d.isRow = true) (hi : (P.info? ty).map (·.size) = some cs.size)
  (h : wpList P ops Q rest (a.put op.dst (.agg cs)) w) : wpList P ops Q (op :: rest) a w :=
 BigFrame.wpList_want hw fun _ hK => wp_load_mid ty x ho b o hx cs.toList d hc hu hd (by simpa using hi) (by simpa using hK _ _ h)
theorem yD {o : Oper} {a : Act} {K : Act → Prop} (ty : TypeId) (x : Operand) (ho : o.op = .load ty x) (b i : Nat) (hx : a.eval x = .pointer (some ⟨b, i, none⟩)) (v : Value) (d : TypeDesc)
  (hC : ∀ w, C w → w.cell? ⟨b, i, none⟩ = some v) (hu : P.underlying ty = some d) (hd : d.isRow = false) (h : K (a.put o.dst v)) : o.quiet P a C K :=
 ⟨_, fun w hw => by
  have hagg : (isAgg ty).run P w = .ok false w := by
   unfold isAgg
   rw [Sem.run_bind, run_underlying hu w]
   cases d <;> simp_all [TypeDesc.isRow]
  unfold Oper.quietAt execOp
  simp [ho, hx, Instr.loadAt, Instr.sureAddr, loadVar, hagg, load, hC w hw, Sem.run, Sem.run_bind, Oper.quietUpon], h⟩
theorem nE {rest : List Oper} {op : Oper} {a : Act} {w : World} {Q : Exit → Act → World → Prop} (hw : Region.wanted op (yielded ops a.tmps) = true) (t u : TypeId) (x y : Operand) (ho : op.op = .binOp .eql t x y u)
  {xs ys : Array Value} (hx : a.eval x = .agg xs) (hy : a.eval y = .agg ys) (m : Nat) (hm : m ≤ 10000) {ks : List Kd} {n : Nat}
  (hk : xR P m t = some ks) (hl : ks.length = n) (hn : P.cellsOf t = n) {d : TypeDesc} (hu : P.underlying t = some d) (hd : d.isRow = true) (hg : P.eqGuardType P.depth t = false) (fx : fits ks xs.toList) (fy : fits ks ys.toList)
  (h : wpList P ops Q rest (a.put op.dst (.bool (xP xs.toList ys.toList))) w) : wpList P ops Q (op :: rest) a w :=
 BigFrame.wpList_want hw fun _ hK => by
  unfold Oper.wp execOp
  simp only [ho, hx, hy, Sem.run_bind, run_eqGuard_agg w .eql t x y xs ys hg, Result.andThen_ok, run_eql_flat w m hm hk hl hn hu hd fx fy, Sem.run_pure]
  exact hK _ _ h
theorem vN {o : Oper} {a : Act} {K : Act → Prop} (t u : TypeId) (x y : Operand) (ho : o.op = .binOp .neq t x y u) {xs ys : Array Value} (hx : a.eval x = .agg xs) (hy : a.eval y = .agg ys) (m : Nat) (hm : m ≤ 10000) {ks : List Kd} {n : Nat}
  (hk : xR P m t = some ks) (hl : ks.length = n) (hn : P.cellsOf t = n) {d : TypeDesc} (hu : P.underlying t = some d) (hd : d.isRow = true) (hg : P.eqGuardType P.depth t = false) (fx : fits ks xs.toList) (fy : fits ks ys.toList)
  (h : K (a.put o.dst (.bool (!xP xs.toList ys.toList)))) : o.quiet P a C K :=
 ⟨_, fun w _ => by
  unfold Oper.quietAt execOp
  simp only [ho, hx, hy, Sem.run_bind, run_eqGuard_agg w .neq t x y xs ys hg, Result.andThen_ok, run_neq_flat w m hm hk hl hn hu hd fx fy, Sem.run_pure]
  exact ⟨rfl, rfl⟩, h⟩
end
end
end Go.Proofs.YtjeeldacnllipaaGreat
