/- Steps of regions that draw, of memory known in part: a variable is made; a literal is made, or appended. -/
import Derived.Test.YtlpkimpdeeiaaaaGreatHeldB
import Derived.Test.YtlpkimpdeeiaaaaGreatCom
import Derived.Great.BuildSlice
namespace Go.Proofs.YtlpkimpdeeiaaaaGreat
open Go.RowKit
set_option linter.unusedVariables false
set_option linter.unusedSimpArgs false
section
variable {P : Program} {op : Oper} {a : Act} {ops : Array Oper} {σ w : World} {M M0 : Mm} {Q : Exit → Act → World → Prop} {K : Act → World → Prop} {E : Prop}
/-- A variable is made, at a step of a region that draws. -/
theorem step_alloc (h : Has σ M w) (hg : op.guard = none) (t : TypeId) (ho : op.op = .alloc t) (z : Value) (hz : (P.info? t).bind (·.zero) = some z)
    (hk : ∀ b w', Has σ (M.upd b (.cells z.cells t)) w' → M b = none → K (a.put op.dst (.pointer (some ⟨b, 0, none⟩))) w') : if Region.wanted op (yielded ops a.tmps) = true then Oper.wp P op a w K Q else E := by
  have hw : Region.wanted op (yielded ops a.tmps) = true := by simp [Region.wanted, hg]
  rw [if_pos hw]
  cases hi : P.info? t with
  | none => simp [hi] at hz
  | some i =>
    have hz : i.zero = some z := by simpa [hi] using hz
    unfold Oper.wp execOp
    simp [ho, Instr.alloc, zeroValue, typeInfo, hi, hz, newVar, newRow, Sem.run_bind, Sem.run_pure, Result.andThen_ok]
    exact hk w.heap.size (w.alloc (.cells z.cells t)) (h.alloc _) h.fresh
/-- append of a literal made just now, at a step of a region that draws. -/
theorem step_applit {M0 : Mm} {w1 : World} {row : Array Value} {e' : TypeId} (h : Has σ M w) (hle : M0.le M) (hg : op.guard = none) (s x : Operand) (t : TypeId)
    (ho : op.op = .call { callee := .builtin .append, args := #[s, x], argTypes := #[t, t] })
    (hww : w1 = w.alloc (.cells row e'))
    {e : TypeId} {z : Value} {size bytes : Nat} (ht : P.underlying t = some (.slice e)) (hi : (P.info? e).map (fun i => (i.zero, i.size, i.bytes)) = some (some z, size, bytes)) (hzs : z.cells.size = size) (hsz : 0 < size)
    {v : Value} {n : Nat} {xs : List Value} (hs : a.eval s = v) (hown : Own M0 M e size v n xs) {m : Nat} (hx : a.eval x = .slice (some ⟨w.heap.size, 0, none⟩) m m) (hl : row.size = m * size) (h1 : row.toList.all (·.oneCell') = true)
    (h63 : n + m ≤ 140737488355328) (hbytes : (n + m) * bytes ≤ 140737488355328)
    (hk : ∀ v' w', Acc σ M0 w' e size v' (n + m) (xs ++ row.toList) → K (a.put op.dst v') w') : if Region.wanted op (yielded ops a.tmps) = true then Oper.wp P op a w1 K Q else E := by
  have hw : Region.wanted op (yielded ops a.tmps) = true := by simp [Region.wanted, hg]
  rw [if_pos hw]
  subst hww
  obtain ⟨i, hi1, hz, hsize, hby⟩ := info_parts hi
  have hc : ∀ j x, row.toList[j]? = some x → (w.alloc (.cells row e')).cell? ((⟨w.heap.size, 0, none⟩ : Addr).add j) = some x := fun j x hx => by
    rw [Addr.add_mid, Nat.zero_add, cell_of_row _ _ j row e' (0, 0) (heap_alloc_new w _)]
    simpa using hx
  obtain ⟨v', w', hr, M', hH, hl', hO, _⟩ := run_append_own_has (P := P) (h.quietAlloc (.cells row e')) hle t op.type e i z size bytes ht hi1 hz hsize hby hzs hsz hown (.slice (some ⟨w.heap.size, 0, none⟩) m m) (m := m) (news := row.toList)
    (.inr ⟨_, _, rfl, hc⟩) (by simpa using hl) (fun u hu => (List.all_eq_true.1 h1) u hu) (by unfold maxLen; omega) hbytes
  unfold Oper.wp execOp
  simp only [ho, resolve, invoke, builtin, Sem.run_bind, Sem.run_pure, Result.andThen_ok, List.map_toArray, List.map_cons, List.map_nil, hs, hx, hr]
  exact hk v' w' ⟨M', hH, hl', hO⟩
end
section
variable {M M' : Mm} {sz n b : Nat} {v : Value} {xs : List Value} {e : TypeId} {o : Obj}
theorem Own.upd_at {M0 : Mm} (h : Own M0 M' e sz v n xs) (hb : M0 b = some o) (o' : Obj) : Own M0 (M'.upd b o') e sz v n xs := by
  obtain ⟨hl, h⟩ := h
  refine ⟨hl, ?_⟩
  rcases h with h | ⟨g, cap, cur, hv, hg, hh, r⟩
  · exact .inl h
  · have hne : g ≠ b := fun e => by subst e; rw [hb] at hg; cases hg
    exact .inr ⟨g, cap, cur, hv, hg, by rw [Mm.upd_ne hne]; exact hh, r⟩
end
section
variable {P : Program} {ops : Array Oper} {rest : List Oper} {op : Oper} {a : Act} {σ w : World} {M : Mm} {Q : Exit → Act → World → Prop}
/-- A struct of one cell is stored into a block. -/
theorem wpList_storeS1_has (h : Has σ M w) (hg : op.guard = none) (t : TypeId) (x y : Operand) (ho : op.op = .store t x y) (hdst : op.dst = none) {b i : Nat} (hx : a.eval x = .pointer (some ⟨b, i, none⟩))
    {cs : Array Value} {v : Value} {e : TypeId} (hb : M b = some (.cells cs e (0, 0))) (hlt : i < cs.size) (hy : a.eval y = .agg #[v]) (hi : (P.info? t).map (·.size) = some 1) (h1 : v.oneCell' = true)
    (hk : ∀ w', Has σ (M.upd b (.cells (cs.setIfInBounds i v) e)) w' → wpList P ops Q rest a w') : wpList P ops Q (op :: rest) a w := by
  have hB : Blk w b cs e := h.at_ b _ hb
  have hcs : cs.toList = cs.toList.take i ++ [cs[i]] ++ cs.toList.drop (i + 1) := by
    rw [List.append_assoc, List.singleton_append, ← Array.getElem_toList, ← List.drop_eq_getElem_cons (by simpa using hlt), List.take_append_drop]
  have hB2 : Blk w b (cs.toList.take i ++ [cs[i]] ++ cs.toList.drop (i + 1)).toArray e := by rw [← hcs]; exact hB
  refine wpList_store_mid hg t x y ho b i #[v] hx hy ?_ hi (by simp [h1]) ?_
  · intro j hj
    obtain rfl : j = 0 := by simpa using hj
    exact ⟨by rw [hB.cell, Array.getElem?_eq_getElem (by omega)]; rfl, hB.free _⟩
  · rw [hdst]
    have hx := blk_setCells b e [v] i w (cs.toList.take i) [cs[i]] (cs.toList.drop (i + 1)) (by simp; omega) rfl hB2
    refine hk _ (h.put (only_setCells b _ i w) ?_)
    have e2 : (cs.toList.take i ++ [v] ++ cs.toList.drop (i + 1)).toArray = cs.setIfInBounds i v := by
      apply Array.toList_inj.1
      rw [Array.toList_setIfInBounds, List.set_eq_take_append_cons_drop, if_pos (by simpa using hlt)]
      simp
    rw [← e2]
    exact hx
end
/-- Two variables are made, and then stored. -/
theorem Mm.again {M : Mm} {b c : Nat} {o o' : Obj} (hb : M b = none) (hc : (M.upd b o) c = none) (x y : Obj) : M.le ((((M.upd b o).upd c o').upd b x).upd c y) ∧ ((((M.upd b o).upd c o').upd b x).upd c y) b = some x ∧ ((((M.upd b o).upd c o').upd b x).upd c y) c = some y := by
  have n := Mm.ne_of hc (Mm.upd_same M b o)
  refine ⟨Mm.le_upd (Mm.le_upd (Mm.le_trans (Mm.le_upd' hb _) (Mm.le_upd' hc _)) hb _) (Mm.none_of (Mm.le_upd' hb o) hc) _, (Mm.upd_ne n).trans (Mm.upd_same _ _ _), Mm.upd_same _ _ _⟩
/-- One block is known, and no other. -/
def Mm.one (b : Nat) (o : Obj) : Mm := fun c => if c = b then some o else none
theorem Mm.one_get (b : Nat) (o : Obj) : Mm.one b o b = some o := if_pos rfl
theorem Mm.one_le {b : Nat} {o : Obj} {M : Mm} (h : M b = some o) : (Mm.one b o).le M := fun c o' hc => by
  unfold Mm.one at hc
  split at hc
  · next e => subst e; cases hc; exact h
  · cases hc
theorem exec_build {P : Program} {a : Act} {o : Oper} (t : TypeId) (parts : Array (Nat × Operand)) (ho : o.op = .build t parts) (cells : Array Value) (h : P.built t (parts.map fun (i, x) => (i, a.eval x)).toList = some cells) (w : World) : (execOp a.eval o).run P w = .ok (.value (.agg cells)) w := by
  unfold execOp
  simp only [ho, Sem.run_bind, run_build w t _ cells h, Result.andThen_ok]
  rfl
theorem exec_build2 {P : Program} {a : Act} {o : Oper} (t : TypeId) (i1 i2 : Nat) (x1 x2 : Operand) (ho : o.op = .build t #[(i1, x1), (i2, x2)]) (v1 v2 : Value) (e1 : a.eval x1 = v1) (e2 : a.eval x2 = v2) (cells : Array Value) (h : P.built t [(i1, v1), (i2, v2)] = some cells) (w : World) : (execOp a.eval o).run P w = .ok (.value (.agg cells)) w := by
  refine exec_build t _ ho cells ?_ w
  simp only [List.map_toArray, List.map_cons, List.map_nil, e1, e2]
  exact h
theorem exec_build1 {P : Program} {a : Act} {o : Oper} (t : TypeId) (i1 : Nat) (x1 : Operand) (ho : o.op = .build t #[(i1, x1)]) (v1 : Value) (e1 : a.eval x1 = v1) (cells : Array Value) (h : P.built t [(i1, v1)] = some cells) (w : World) : (execOp a.eval o).run P w = .ok (.value (.agg cells)) w := by
  refine exec_build t #[(i1, x1)] ho cells ?_ w
  simp only [List.map_toArray, List.map_cons, List.map_nil, e1]
  exact h
/-- A slice literal of one struct, at a step of a region that draws. -/
theorem step_lit1 {P : Program} {op : Oper} {a : Act} {ops : Array Oper} {w : World} {Q : Exit → Act → World → Prop} {K : Act → World → Prop} {E : Prop} {e : TypeId} {z : Value} {size bytes : Nat} {cells : Array Value} (hg : op.guard = none) (t : TypeId) (x : Operand) (ho : op.op = .buildSlice t 1 #[(0, x)]) (hu : P.underlying t = some (.slice e)) (hi : (P.info? e).map (fun i => (i.zero, i.size, i.bytes)) = some (some z, size, bytes)) (hv : a.eval x = .agg cells) (hs : 0 < size) (hs2 : size ≤ 1000) (hf : Instr.fill (fun i => some (i * size, size)) ((Array.range (1 * size)).map (z.cells[· % z.cells.size]!)) [(0, .agg cells)] = some cells)
    (hk : K (a.put op.dst (.slice (some ⟨w.heap.size, 0, none⟩) 1 1)) (w.alloc (.cells cells e))) : if Region.wanted op (yielded ops a.tmps) = true then Oper.wp P op a w K Q else E := by
  have hw : Region.wanted op (yielded ops a.tmps) = true := by simp [Region.wanted, hg]
  rw [if_pos hw]
  obtain ⟨i, hi1, hz, hsize, hby⟩ := info_parts hi
  subst hsize
  refine wp_buildSlice t e 1 #[(0, x)] ho cells i z hu hi1 hz (by omega) (by omega) ?_ hk
  simp only [List.map_toArray, List.map_cons, List.map_nil, hv]
  exact hf
theorem wpList_build_has {P : Program} {ops : Array Oper} {rest : List Oper} {op : Oper} {a : Act} {w : World} {Q : Exit → Act → World → Prop} (hg : op.guard = none) (t : TypeId) (parts : Array (Nat × Operand)) (ho : op.op = .build t parts) (cells : Array Value) (h : P.built t (parts.map fun (i, x) => (i, a.eval x)).toList = some cells)
    (hk : wpList P ops Q rest (a.put op.dst (.agg cells)) w) : wpList P ops Q (op :: rest) a w :=
  wpList_plain hg fun _ hK => by
    unfold Oper.wp
    rw [exec_build t parts ho cells h w]
    exact hK _ _ hk
end Go.Proofs.YtlpkimpdeeiaaaaGreat
