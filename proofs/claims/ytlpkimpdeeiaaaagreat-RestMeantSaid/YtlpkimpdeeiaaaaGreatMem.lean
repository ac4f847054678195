/- Memory known in part: M says which blocks hold what; 'Has σ M w': the world w holds all of that, and its streams are σ's. Laws of the walk's operations over such worlds: each hands on a world that is a letter. -/
import Derived.Test.YtlpkimpdeeiaaaaGreatQuiet
import Derived.Great.BuildSlice
import Derived.Maps.AppendAt
namespace Go.Proofs.YtlpkimpdeeiaaaaGreat
open Go.RowKit
set_option linter.unusedVariables false
set_option linter.unusedSimpArgs false

abbrev Mm := Nat → Option Obj
def Mm.upd (M : Mm) (b : Nat) (o : Obj) : Mm := fun c => if c = b then some o else M c
def World.mm (w : World) : Mm := fun b => w.heap[b]?

structure Has (σ : World) (M : Mm) (w : World) : Prop where
  os : w.os = σ.os
  tape : w.tape = σ.tape
  output : w.output = σ.output
  size : σ.heap.size ≤ w.heap.size
  at_ : ∀ b o, M b = some o → w.heap[b]? = some o

section
variable {σ w w' : World} {M M' : Mm} {b c : Nat} {o o' : Obj} {cs : Array Value} {t : TypeId} {fz : Nat × Nat}
theorem Has.new (w : World) : Has w (World.mm w) w := ⟨rfl, rfl, rfl, Nat.le_refl _, fun _ _ h => h⟩
theorem Has.less (h : Has σ M w) (hm : ∀ b o, M' b = some o → M b = some o) : Has σ M' w := ⟨h.os, h.tape, h.output, h.size, fun b o hb => h.at_ b o (hm b o hb)⟩
theorem Has.lt (h : Has σ M w) (hb : M b = some o) : b < w.heap.size := lt_of_block (h.at_ b o hb)
theorem Has.fresh (h : Has σ M w) : M w.heap.size = none := by
  cases hc : M w.heap.size with
  | none => rfl
  | some o => exact absurd (h.lt hc) (by omega)
theorem Has.drew (h : Has σ M w) : Has σ M w.drew := ⟨h.os, h.tape, h.output, h.size, h.at_⟩
theorem Has.drewN (h : Has σ M w) (n : Nat) : Has σ M (w.drewN n) := ⟨h.os, h.tape, h.output, h.size, h.at_⟩
theorem Mm.upd_same (M : Mm) (b : Nat) (o : Obj) : M.upd b o b = some o := if_pos rfl
theorem Mm.upd_ne {M : Mm} (h : c ≠ b) : M.upd b o c = M c := if_neg h
theorem Mm.upd_upd (M : Mm) (b : Nat) (o o' : Obj) : (M.upd b o).upd b o' = M.upd b o' := by funext c; unfold Mm.upd; split <;> rfl
theorem Mm.upd_of (h : M b = none) (hc : M c = some o') : M.upd b o c = some o' := by rw [Mm.upd_ne (fun e => by subst e; rw [h] at hc; cases hc)]; exact hc
theorem Mm.ne_of (h : M b = none) (hc : M c = some o') : c ≠ b := fun e => by subst e; rw [h] at hc; cases hc
theorem Has.alloc (h : Has σ M w) (o : Obj) : Has σ (M.upd w.heap.size o) (w.alloc o) := by
  refine ⟨h.os, h.tape, h.output, Nat.le_trans h.size (by simp), fun b o' hb => ?_⟩
  by_cases e : b = w.heap.size
  · subst e
    rw [Mm.upd_same] at hb
    cases hb
    exact heap_alloc_new w o
  · rw [Mm.upd_ne e] at hb
    exact (Below.heap_alloc w o b (h.lt hb)).trans (h.at_ b o' hb)
theorem Has.quietAlloc (h : Has σ M w) (o : Obj) : Has σ M (w.alloc o) :=
  (h.alloc o).less fun b o' hb => by rw [Mm.upd_ne (Mm.ne_of h.fresh hb)]; exact hb
theorem Has.below (h : Has σ M w) (hb : Below w.heap.size w w') : Has σ M w' :=
  ⟨hb.os.trans h.os, hb.tape.trans h.tape, hb.output.trans h.output, Nat.le_trans h.size hb.size, fun b o hm => (hb.block b (h.lt hm)).trans (h.at_ b o hm)⟩
theorem Has.toBelow (h : Has σ M w) (hm : ∀ b o, World.mm σ b = some o → M b = some o) : Below σ.heap.size σ w := by
  refine ⟨h.os, h.tape, h.output, h.size, fun k hk => ?_⟩
  have he : World.mm σ k = some σ.heap[k] := Array.getElem?_eq_getElem hk
  rw [h.at_ k _ (hm k _ he), Array.getElem?_eq_getElem hk]
/-- The world behind a store: block b is another one. -/
theorem Has.put (h : Has σ M w) (ho : Only b w w') (hb : w'.heap[b]? = some o) : Has σ (M.upd b o) w' := by
  refine ⟨ho.os.trans h.os, ho.tape.trans h.tape, ho.output.trans h.output, by rw [ho.size]; exact h.size, fun c o' hc => ?_⟩
  by_cases e : c = b
  · subst e
    rw [Mm.upd_same] at hc
    cases hc
    exact hb
  · rw [Mm.upd_ne e] at hc
    exact (ho.block c e).trans (h.at_ c o' hc)
theorem Has.setCell (h : Has σ M w) (hb : M b = some (.cells cs t (0, 0))) (i : Nat) (v : Value) : Has σ (M.upd b (.cells (cs.setIfInBounds i v) t)) (w.setCell ⟨b, i, none⟩ v) :=
  h.put (only_setCell w b i v) (heap_setCell_same w b i cs t v (h.at_ b _ hb))
theorem Has.cell (h : Has σ M w) (hb : M b = some (.cells cs t fz)) (i : Nat) : w.cell? ⟨b, i, none⟩ = cs[i]? := cell_of_row w b i cs t fz (h.at_ b _ hb)
theorem Has.free (h : Has σ M w) (hb : M b = some (.cells cs t (0, 0))) (i : Nat) : w.frozen? ⟨b, i, none⟩ = false := frozen_of_row w b i cs t (h.at_ b _ hb)
theorem Has.range (h : Has σ M w) {i : Nat} {xs : Array Value} (hb : M b = some (.cells cs t fz)) (hx : xs = cs.extract i (i + xs.size)) : w.rangeAt b i xs.toList := by
  intro j v hv
  rw [h.cell hb]
  have hv : xs[j]? = some v := by simpa using hv
  have hj : j < xs.size := (Array.getElem?_eq_some_iff.1 hv).1
  rw [hx, Array.getElem?_extract] at hv
  split at hv
  · rw [← hv]
  · cases hv
end

/-! ### The operations -/
section
variable {P : Program} {ops : Array Oper} {rest : List Oper} {op : Oper} {a : Act} {σ w : World} {M : Mm} {Q : Exit → Act → World → Prop}

theorem wpList_box_has (h : Has σ M w) (hw : Region.wanted op (yielded ops a.tmps) = true) (t : TypeId) (x : Operand) (ho : op.op = .box t x)
    (hk : ∀ b w', Has σ (M.upd b (.cells (a.eval x).cells t)) w' → M b = none → wpList P ops Q rest (a.put op.dst (.pointer (some ⟨b, 0, none⟩))) w') : wpList P ops Q (op :: rest) a w :=
  BigFrame.wpList_want hw fun _ hK => by
    unfold Oper.wp execOp
    simp only [ho, Instr.box, newVar, newRow, Sem.run_bind, run_newObj, Sem.run_pure, Result.andThen_ok]
    exact hK _ _ (hk w.heap.size (w.alloc (.cells (a.eval x).cells t)) (h.alloc _) h.fresh)

theorem wpList_alloc_has (h : Has σ M w) (hw : Region.wanted op (yielded ops a.tmps) = true) (t : TypeId) (ho : op.op = .alloc t) (z : Value) (hz : (P.info? t).bind (·.zero) = some z)
    (hk : ∀ b w', Has σ (M.upd b (.cells z.cells t)) w' → M b = none → wpList P ops Q rest (a.put op.dst (.pointer (some ⟨b, 0, none⟩))) w') : wpList P ops Q (op :: rest) a w :=
  BigFrame.wpList_want hw fun _ hK => by
    cases hi : P.info? t with
    | none => simp [hi] at hz
    | some i =>
      have hz : i.zero = some z := by simpa [hi] using hz
      unfold Oper.wp execOp
      simp [ho, Instr.alloc, zeroValue, typeInfo, hi, hz, newVar, newRow, Sem.run_bind, Sem.run_pure, Result.andThen_ok]
      exact hK _ _ (hk w.heap.size (w.alloc (.cells z.cells t)) (h.alloc _) h.fresh)

theorem wpList_load_has (h : Has σ M w) (hw : Region.wanted op (yielded ops a.tmps) = true) (t : TypeId) (x : Operand) (ho : op.op = .load t x) {b i : Nat} (hx : a.eval x = .pointer (some ⟨b, i, none⟩))
    {cs : Array Value} {e : TypeId} {fz : Nat × Nat} (hb : M b = some (.cells cs e fz)) {d : TypeDesc} (hu : P.underlying t = some d) (hd : d.isRow = true) {n : Nat} (hi : (P.info? t).map (·.size) = some n) (hn : (cs.extract i (i + n)).size = n)
    (hk : wpList P ops Q rest (a.put op.dst (.agg (cs.extract i (i + n)))) w) : wpList P ops Q (op :: rest) a w :=
  wpList_load_arg hw t x ho b i hx (cs.extract i (i + n)) d (h.range hb (by rw [hn])) hu hd (by rw [hi, hn]) hk

theorem wpList_loadAll_has (h : Has σ M w) (hw : Region.wanted op (yielded ops a.tmps) = true) (t : TypeId) (x : Operand) (ho : op.op = .load t x) {b : Nat} (hx : a.eval x = .pointer (some ⟨b, 0, none⟩))
    {cs : Array Value} {e : TypeId} {fz : Nat × Nat} (hb : M b = some (.cells cs e fz)) {d : TypeDesc} (hu : P.underlying t = some d) (hd : d.isRow = true) (hi : (P.info? t).map (·.size) = some cs.size)
    (hk : wpList P ops Q rest (a.put op.dst (.agg cs)) w) : wpList P ops Q (op :: rest) a w :=
  wpList_load_arg hw t x ho b 0 hx cs d (h.range hb (by rw [Nat.zero_add]; simp)) hu hd hi hk

theorem wpList_load1_has (h : Has σ M w) (hw : Region.wanted op (yielded ops a.tmps) = true) (t : TypeId) (x : Operand) (ho : op.op = .load t x) {b i : Nat} (hx : a.eval x = .pointer (some ⟨b, i, none⟩))
    {cs : Array Value} {e : TypeId} {fz : Nat × Nat} (hb : M b = some (.cells cs e fz)) {v : Value} (hv : cs[i]? = some v) {d : TypeDesc} (hu : P.underlying t = some d) (hd : d.isRow = false)
    (hk : wpList P ops Q rest (a.put op.dst v) w) : wpList P ops Q (op :: rest) a w :=
  BigFrame.wpList_want hw fun _ hK => by
    have hagg : (isAgg t).run P w = .ok false w := by
      unfold isAgg
      rw [Sem.run_bind, run_underlying hu w]
      cases d <;> simp_all [TypeDesc.isRow]
    unfold Oper.wp execOp
    simp [ho, hx, Instr.loadAt, Instr.sureAddr, loadVar, hagg, load, h.cell hb, hv, Sem.run, Sem.run_bind]
    exact hK _ _ hk

/-- A value of one cell is stored. -/
theorem wpList_store1_has (h : Has σ M w) (hw : Region.wanted op (yielded ops a.tmps) = true) (t : TypeId) (x y : Operand) (ho : op.op = .store t x y) (hdst : op.dst = none) {b i : Nat} (hx : a.eval x = .pointer (some ⟨b, i, none⟩))
    {cs : Array Value} {e : TypeId} (hb : M b = some (.cells cs e (0, 0))) (hlt : i < cs.size) (h1 : (a.eval y).oneCell' = true) (hi : (P.info? t).map (·.size) = some 1)
    (hk : ∀ w', Has σ (M.upd b (.cells (cs.setIfInBounds i (a.eval y)) e)) w' → wpList P ops Q rest a w') : wpList P ops Q (op :: rest) a w :=
  BigFrame.wpList_want hw fun KK hK => by
    have hst : (store ⟨b, i, none⟩ (a.eval y)).run P w = .ok () (w.setCell ⟨b, i, none⟩ (a.eval y)) := by
      rw [run_store P w _ _ _ h1, h.cell hb, Array.getElem?_eq_getElem hlt]
      simp [h.free hb]
    have hc : (a.eval y).cells = #[a.eval y] := by revert h1; cases a.eval y <;> simp [Value.cells, Value.oneCell']
    have hadd : (⟨b, i, none⟩ : Addr).add 0 = ⟨b, i, none⟩ := rfl
    cases hq : P.info? t with
    | none => simp [hq] at hi
    | some ti =>
      have hs : ti.size = 1 := by simpa [hq] using hi
      have hsv : (storeVar t ⟨b, i, none⟩ (a.eval y)).run P w = .ok () (w.setCell ⟨b, i, none⟩ (a.eval y)) := by
        simp [storeVar, sizeOf, typeInfo, hq, hc, hs, storeCells, hadd, Sem.run_bind, hst]
      unfold Oper.wp execOp
      simp only [ho, hx, Instr.storeAt, Instr.sureAddr, Sem.run_bind, Sem.run_pure, Result.andThen_ok, hsv]
      show KK (a.put op.dst undef) _
      rw [hdst]
      exact hK _ _ (hk _ (h.setCell hb i _))

/-- A struct or an array is stored as a whole block. -/
theorem wpList_storeAll_has (h : Has σ M w) (hg : op.guard = none) (t : TypeId) (x y : Operand) (ho : op.op = .store t x y) (hdst : op.dst = none) {b : Nat} (hx : a.eval x = .pointer (some ⟨b, 0, none⟩))
    {cs cells : Array Value} {e : TypeId} (hb : M b = some (.cells cs e (0, 0))) (hy : a.eval y = .agg cells) {n : Nat} (hs : cs.size = n) (hn : cells.size = n) (hi : (P.info? t).map (·.size) = some n) (h1 : cells.toList.all (·.oneCell') = true)
    (hk : ∀ w', Has σ (M.upd b (.cells cells e)) w' → wpList P ops Q rest a w') : wpList P ops Q (op :: rest) a w :=
  wpList_store_whole hg t x y ho b cs cells e hx hy (h.at_ b _ hb) (hs.trans hn.symm) (by rw [hi, hn]) (by rw [Array.all_eq_true_iff_forall_mem]; exact fun x hx => List.all_eq_true.1 h1 x (by simpa using hx)) fun w' hx' ho' => by rw [hdst]; exact hk w' (h.put ho' hx')
end

/-! ### A slice that reads as a list of cells. -/
/-- The slice value v has n elements of 'size' cells each: these cells. -/
def Rd (M : Mm) (size : Nat) (v : Value) (n : Nat) (xs : List Value) : Prop :=
  xs.length = n * size ∧ ∃ A c, v = .slice A n c ∧ n ≤ c ∧ (0 < n → ∃ b o cs t fz, A = some ⟨b, o, none⟩ ∧ M b = some (.cells cs t fz) ∧ ∀ j u, xs[j]? = some u → cs[o + j]? = some u)
/-- M' knows all that M knows. -/
def Mm.le (M M' : Mm) : Prop := ∀ b o, M b = some o → M' b = some o
/-- A row of the call's own, in a block of which M0 says nothing. -/
def Own (M0 M : Mm) (e : TypeId) (size : Nat) (v : Value) (n : Nat) (xs : List Value) : Prop :=
  xs.length = n * size ∧
  ((v = .slice none 0 0 ∧ n = 0) ∨
   ∃ g cap cur, v = .slice (some ⟨g, 0, none⟩) n cap ∧ M0 g = none ∧ M g = some (.cells cur e (0, 0)) ∧ n ≤ cap ∧ cap ≤ maxLen ∧ cur.size = cap * size ∧ cur.toList.take (n * size) = xs)
/-- The world knows all of M, and the row of the call's own. -/
def Acc (σ : World) (M0 : Mm) (w : World) (e : TypeId) (size : Nat) (v : Value) (n : Nat) (xs : List Value) : Prop :=
  ∃ M, Has σ M w ∧ M0.le M ∧ Own M0 M e size v n xs

section
variable {σ w w' : World} {M M' M0 : Mm} {size n b : Nat} {v : Value} {xs : List Value} {e : TypeId} {o : Obj}
theorem Mm.le_refl (M : Mm) : M.le M := fun _ _ h => h
theorem Mm.le_trans (h : M0.le M) (h' : M.le M') : M0.le M' := fun b o hb => h' b o (h b o hb)
theorem Mm.le_upd (h : M0.le M) (hb : M0 b = none) (o : Obj) : M0.le (M.upd b o) := fun c o' hc => by
  rw [Mm.upd_ne (Mm.ne_of hb hc)]
  exact h c o' hc
theorem Mm.le_upd' (hb : M b = none) (o : Obj) : M.le (M.upd b o) := Mm.le_upd (Mm.le_refl M) hb o
theorem Mm.none_of (h : M0.le M) (hb : M b = none) : M0 b = none := by
  cases hc : M0 b with
  | none => rfl
  | some o => rw [h b o hc] at hb; cases hb
theorem Has.le (h : Has σ M w) (hm : M0.le M) : Has σ M0 w := h.less hm
theorem Rd.le (h : Rd M size v n xs) (hm : M.le M') : Rd M' size v n xs := by
  obtain ⟨hl, A, c, hv, hc, h⟩ := h
  refine ⟨hl, A, c, hv, hc, fun hn => ?_⟩
  obtain ⟨b, o, cs, t, fz, hA, hb, hx⟩ := h hn
  exact ⟨b, o, cs, t, fz, hA, hm _ _ hb, hx⟩
theorem Rd.nil (M : Mm) (size c : Nat) : Rd M size (.slice none 0 c) 0 [] := ⟨by simp, none, c, rfl, Nat.zero_le _, fun h => absurd h (by omega)⟩
theorem Own.nil (M0 M : Mm) (e : TypeId) (size : Nat) : Own M0 M e size (.slice none 0 0) 0 [] := ⟨by simp, .inl ⟨rfl, rfl⟩⟩
theorem Acc.nil (h : Has σ M w) (e : TypeId) (size : Nat) : Acc σ M w e size (.slice none 0 0) 0 [] := ⟨M, h, Mm.le_refl M, Own.nil _ _ _ _⟩
theorem Own.made {cs : Array Value} (hb : M b = none) (n : Nat) (hn : cs.size = n * size) (hm : n ≤ maxLen) : Own M (M.upd b (.cells cs e)) e size (.slice (some ⟨b, 0, none⟩) n n) n cs.toList :=
  ⟨by rw [Array.length_toList]; exact hn, .inr ⟨b, n, cs, rfl, hb, Mm.upd_same _ _ _, Nat.le_refl _, hm, hn, List.take_of_length_le (by rw [Array.length_toList]; omega)⟩⟩
theorem Own.ownsRow (h : Own M0 M e size v n xs) (hw : Has σ M w) : w.ownsRow 0 e size v n xs := by
  obtain ⟨hl, h⟩ := h
  refine ⟨hl, ?_⟩
  rcases h with h | ⟨g, cap, cur, hv, hg, hh, r⟩
  · exact .inl h
  · exact .inr ⟨g, cap, cur, hv, Nat.zero_le _, hw.at_ g _ hh, r⟩
theorem Own.base (h : Own M0 M e size v n xs) (hm : ∀ b, M0 b = none → M' b = none) : Own M' M e size v n xs := by
  obtain ⟨hl, h⟩ := h
  refine ⟨hl, ?_⟩
  rcases h with h | ⟨g, cap, cur, hv, hg, r⟩
  · exact .inl h
  · exact .inr ⟨g, cap, cur, hv, hm g hg, r⟩
theorem Own.le (h : Own M0 M e size v n xs) (hm : M.le M') : Own M0 M' e size v n xs := by
  obtain ⟨hl, h⟩ := h
  refine ⟨hl, ?_⟩
  rcases h with h | ⟨g, cap, cur, hv, hg, hh, r⟩
  · exact .inl h
  · exact .inr ⟨g, cap, cur, hv, hg, hm _ _ hh, r⟩
theorem Own.rd (h : Own M0 M e size v n xs) : Rd M size v n xs := by
  obtain ⟨hl, ⟨rfl, rfl⟩ | ⟨g, cap, cur, rfl, hg, hh, hc, hm, hs, ht⟩⟩ := h
  · exact ⟨hl, none, 0, rfl, Nat.le_refl _, fun hn => absurd hn (by omega)⟩
  · refine ⟨hl, _, _, rfl, hc, fun _ => ⟨g, 0, cur, e, _, rfl, hh, fun j u hu => ?_⟩⟩
    rw [← ht, List.getElem?_take] at hu
    split at hu
    · rw [Nat.zero_add]
      simpa using hu
    · cases hu
theorem Rd.len (h : Rd M size v n xs) : xs.length = n * size := h.1
end

section
variable {P : Program} {ops : Array Oper} {rest : List Oper} {op : Oper} {a : Act} {σ w : World} {M M0 : Mm} {Q : Exit → Act → World → Prop}
theorem run_append_own_has (h : Has σ M w) (hle : M0.le M) (t ty e : TypeId) (i : TypeInfo) (z : Value) (size bytes : Nat) (ht : P.underlying t = some (.slice e)) (hi : P.info? e = some i) (hz : i.zero = some z)
    (hsize : i.size = size) (hby : i.bytes = bytes) (hzs : z.cells.size = size) (hsz : 0 < size)
    {v : Value} {n : Nat} {xs : List Value} (hown : Own M0 M e size v n xs) (u : Value) {m : Nat} {news : List Value}
    (hu : (∃ c, u = .slice none 0 c ∧ m = 0) ∨ ∃ ad c, u = .slice (some ad) m c ∧ ∀ j x, news[j]? = some x → w.cell? (ad.add j) = some x) (hl : news.length = m * size) (h1 : ∀ u ∈ news, u.oneCell' = true)
    (h63 : n + m ≤ maxLen) (hbytes : (n + m) * bytes ≤ 140737488355328) :
    ∃ v' w', (Builtin.append_ #[t, t] ty #[v, u]).run P w = .ok v' w' ∧
      ∃ M', Has σ M' w' ∧ M0.le M' ∧ Own M0 M' e size v' (n + m) (xs ++ news) ∧ (∀ b o, some b ≠ v.ownBlock → M b = some o → M' b = some o) ∧ (∀ b, v'.ownBlock = some b → v.ownBlock = some b ∨ M b = none) := by
  rcases hu with ⟨c, rfl, rfl⟩ | ⟨ad, c, rfl, hc⟩
  · have hn : news = [] := List.eq_nil_of_length_eq_zero (by simpa using hl)
    subst hn
    refine ⟨v, w, ?_, M, h, hle, by simpa using hown, fun _ _ _ h => h, fun b hb => .inl hb⟩
    rcases hown.2 with ⟨rfl, rfl⟩ | ⟨g, cap, cur, rfl, _, _, hnc, _⟩
    · simp [Builtin.append_, run_underlying ht, sizeOf, typeInfo, hi, Builtin.lenOf, Builtin.firstCells]
    · simp [Builtin.append_, run_underlying ht, sizeOf, typeInfo, hi, Builtin.lenOf, Builtin.firstCells, hnc, storeCells]
  · obtain ⟨v', w', hr, ho, hg, _, hat⟩ := run_append_own_at (P := P) w 0 t ty e i z size bytes ht hi hz hsize hby hzs hsz v n xs (hown.ownsRow h) ad m c news hl hc h1 h63 hbytes (Nat.zero_le _)
    have hM : ∀ g, v.ownBlock = some g → M0 g = none := by
      intro g hg'
      rcases hown.2 with ⟨rfl, _⟩ | ⟨g', cap, cur, rfl, hn, _⟩
      · simp [Value.ownBlock] at hg'
      · simp [Value.ownBlock] at hg'
        subst hg'
        exact hn
    have hold : ∀ b o, some b ≠ v.ownBlock → M b = some o → w'.heap[b]? = some o := fun b o hb hm => (hg.block b (h.lt hm) hb).trans (h.at_ b o hm)
    refine ⟨v', w', hr, ?_⟩
    rcases ho.2 with ⟨hv, hn0⟩ | ⟨g, cap, cur, hv, _, hh, r⟩
    · -- nothing there: v was nil
      refine ⟨fun b => if some b = v.ownBlock then none else M b, ⟨hg.os.trans h.os, hg.tape.trans h.tape, hg.output.trans h.output, Nat.le_trans h.size hg.size, fun b o hb => ?_⟩, fun b o hb => ?_, ⟨ho.1, .inl ⟨hv, hn0⟩⟩, fun b o hb hm => ?_, fun b hb => ?_⟩
      · by_cases e1 : some b = v.ownBlock
        · simp only [if_pos e1] at hb; cases hb
        · simp only [if_neg e1] at hb; exact hold b o e1 hb
      · show (if some b = v.ownBlock then none else M b) = some o
        rw [if_neg (fun e1 => by rw [hM b e1.symm] at hb; cases hb)]
        exact hle b o hb
      · show (if some b = v.ownBlock then none else M b) = some o
        rw [if_neg hb]; exact hm
      · rw [hv] at hb
        simp [Value.ownBlock] at hb
    · have hgo : v.ownBlock = some g ∨ M g = none := by
        rcases hat with e1 | e1
        · left; rw [← e1, hv]; rfl
        · right
          rw [hv] at e1
          have : g = w.heap.size := by simpa [Value.ownBlock] using e1
          subst this
          exact h.fresh
      have hg0 : M0 g = none := by
        rcases hgo with e1 | e1
        · exact hM g e1
        · exact Mm.none_of hle e1
      refine ⟨fun b => if b = g then some (.cells cur e (0, 0)) else if some b = v.ownBlock then none else M b, ⟨hg.os.trans h.os, hg.tape.trans h.tape, hg.output.trans h.output, Nat.le_trans h.size hg.size, fun b o hb => ?_⟩, fun b o hb => ?_,
        ⟨ho.1, .inr ⟨g, cap, cur, hv, hg0, if_pos rfl, r⟩⟩, fun b o hb hm => ?_, fun b hb => ?_⟩
      · by_cases e0 : b = g
        · subst e0
          simp only [if_true] at hb
          cases hb
          exact hh
        · by_cases e1 : some b = v.ownBlock
          · simp only [if_neg e0, if_pos e1] at hb; cases hb
          · simp only [if_neg e0, if_neg e1] at hb; exact hold b o e1 hb
      · show (if b = g then some (Obj.cells cur e (0, 0)) else if some b = v.ownBlock then none else M b) = some o
        rw [if_neg (fun e0 => by subst e0; rw [hg0] at hb; cases hb), if_neg (fun e1 => by rw [hM b e1.symm] at hb; cases hb)]
        exact hle b o hb
      · show (if b = g then some (Obj.cells cur e (0, 0)) else if some b = v.ownBlock then none else M b) = some o
        rw [if_neg (fun e0 => by subst e0; rcases hgo with e1 | e1; exact hb e1.symm; rw [e1] at hm; cases hm), if_neg hb]
        exact hm
      · rw [hv] at hb
        have : g = b := by simpa [Value.ownBlock] using hb
        subst this
        exact hgo
end
end Go.Proofs.YtlpkimpdeeiaaaaGreat
