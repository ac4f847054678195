/- Laws for walks over 'Has': one element appended, quiet loads. -/
import Derived.Test.YtlpkimpdeeiaaaaGreatRegion
import Derived.Deep.RegionWith
namespace Go.Proofs.YtlpkimpdeeiaaaaGreat
open Go.RowKit
set_option linter.unusedVariables false
set_option linter.unusedSimpArgs false
set_option linter.unnecessarySimpa false

section
variable {P : Program} {ops : Array Oper} {rest : List Oper} {op : Oper} {a : Act} {σ w : World} {M : Mm} {Q : Exit → Act → World → Prop}

/-- What was made last, a slice literal of m elements, is appended onto a row of the call's own. -/
theorem wpList_append_lit {M0 : Mm} {w1 : World} {row : Array Value} {e' : TypeId} (h : Has σ M w) (hle : M0.le M) (hw : Region.wanted op (yielded ops a.tmps) = true) (s x : Operand) (t : TypeId)
    (ho : op.op = .call { callee := .builtin .append, args := #[s, x], argTypes := #[t, t] })
    (hww : w1 = w.alloc (.cells row e'))
    {e : TypeId} {z : Value} {size bytes : Nat} (ht : P.underlying t = some (.slice e)) (hi : (P.info? e).map (fun i => (i.zero, i.size, i.bytes)) = some (some z, size, bytes)) (hzs : z.cells.size = size) (hsz : 0 < size)
    {v : Value} {n : Nat} {xs : List Value} (hs : a.eval s = v) (hown : Own M0 M e size v n xs) {m : Nat} (hx : a.eval x = .slice (some ⟨w.heap.size, 0, none⟩) m m) (hl : row.size = m * size) (h1 : row.toList.all (·.oneCell') = true)
    (h63 : n + m ≤ 140737488355328) (hbytes : (n + m) * bytes ≤ 140737488355328)
    (hk : ∀ v' w', Acc σ M0 w' e size v' (n + m) (xs ++ row.toList) → wpList P ops Q rest (a.put op.dst v') w') : wpList P ops Q (op :: rest) a w1 :=
  BigFrame.wpList_want hw fun _ hK => by
    subst hww
    obtain ⟨i, hi1, hz, hsize, hby⟩ := info_parts hi
    have hc : ∀ j x, row.toList[j]? = some x → (w.alloc (.cells row e')).cell? ((⟨w.heap.size, 0, none⟩ : Addr).add j) = some x := fun j x hx => by
      rw [Addr.add_mid, Nat.zero_add, cell_of_row _ _ j row e' (0, 0) (heap_alloc_new w _)]
      simpa using hx
    obtain ⟨v', w', hr, M', hH, hl', hO, _⟩ := run_append_own_has (P := P) (h.quietAlloc (.cells row e')) hle t op.type e i z size bytes ht hi1 hz hsize hby hzs hsz hown (.slice (some ⟨w.heap.size, 0, none⟩) m m) (m := m) (news := row.toList)
      (.inr ⟨_, _, rfl, hc⟩) (by simpa using hl) (fun u hu => (List.all_eq_true.1 h1) u hu) (by unfold maxLen; omega) hbytes
    unfold Oper.wp execOp
    simp only [ho, resolve, invoke, builtin, Sem.run_bind, Sem.run_pure, Result.andThen_ok, List.map_toArray, List.map_cons, List.map_nil, hs, hx, hr]
    exact hK _ _ (hk v' w' ⟨M', hH, hl', hO⟩)

/-- A slice that reads as a list is appended onto a row of the call's own. -/
theorem wpList_append_rd {M0 : Mm} (h : Has σ M w) (hle : M0.le M) (hw : Region.wanted op (yielded ops a.tmps) = true) (s x : Operand) (t : TypeId)
    (ho : op.op = .call { callee := .builtin .append, args := #[s, x], argTypes := #[t, t] })
    {e : TypeId} {z : Value} {size bytes : Nat} (ht : P.underlying t = some (.slice e)) (hi : (P.info? e).map (fun i => (i.zero, i.size, i.bytes)) = some (some z, size, bytes)) (hzs : z.cells.size = size) (hsz : 0 < size)
    {v u : Value} {n : Nat} {xs : List Value} (hs : a.eval s = v) (hown : Own M0 M e size v n xs) {m : Nat} {ys : List Value} (hx : a.eval x = u) (hr : Rd M size u m ys) (h1 : ∀ y ∈ ys, y.oneCell' = true)
    (h63 : n + m ≤ 140737488355328) (hbytes : (n + m) * bytes ≤ 140737488355328)
    (hk : ∀ v' w', Acc σ M0 w' e size v' (n + m) (xs ++ ys) → wpList P ops Q rest (a.put op.dst v') w') : wpList P ops Q (op :: rest) a w :=
  BigFrame.wpList_want hw fun _ hK => by
    obtain ⟨i, hi1, hz, hsize, hby⟩ := info_parts hi
    obtain ⟨hl, A, c, rfl, hc, hA⟩ := hr
    have hu : (∃ c', Value.slice A m c = .slice none 0 c' ∧ m = 0) ∨ ∃ ad c', Value.slice A m c = .slice (some ad) m c' ∧ ∀ j x, ys[j]? = some x → w.cell? (ad.add j) = some x := by
      rcases Nat.eq_zero_or_pos m with h0 | h0
      · subst h0
        have hn : ys = [] := List.eq_nil_of_length_eq_zero (by simpa using hl)
        subst hn
        cases A with
        | none => exact .inl ⟨c, rfl, rfl⟩
        | some ad => exact .inr ⟨ad, c, rfl, fun j x hx => by simp at hx⟩
      · obtain ⟨b, o, cs, t', fz, rfl, hb, hx⟩ := hA h0
        refine .inr ⟨_, c, rfl, fun j x hj => ?_⟩
        rw [Addr.add_mid, h.cell hb]
        exact hx j x hj
    obtain ⟨v', w', hr, M', hH, hl', hO, _⟩ := run_append_own_has (P := P) h hle t op.type e i z size bytes ht hi1 hz hsize hby hzs hsz hown (.slice A m c) (m := m) (news := ys) hu hl h1 (by unfold maxLen; omega) hbytes
    unfold Oper.wp execOp
    simp only [ho, resolve, invoke, builtin, Sem.run_bind, Sem.run_pure, Result.andThen_ok, List.map_toArray, List.map_cons, List.map_nil, hs, hx, hr]
    exact hK _ _ (hk v' w' ⟨M', hH, hl', hO⟩)

/-- The number in a cell: for a loop's measure. -/
def cellN (w : World) (b i : Nat) : Nat := match w.cell? ⟨b, i, none⟩ with | some v => (intOf v).toNat | none => 0
theorem cellN_of {b i : Nat} {v : Value} (h : w.cell? ⟨b, i, none⟩ = some v) : cellN w b i = (intOf v).toNat := by unfold cellN; rw [h]
theorem Has.box (h : Has σ M w) (o : Obj) : ∃ M', Has σ M' (w.alloc o) ∧ M.le M' ∧ M' w.heap.size = some o ∧ M w.heap.size = none :=
  ⟨M.upd w.heap.size o, h.alloc o, Mm.le_upd' h.fresh o, Mm.upd_same _ _ _, h.fresh⟩
theorem quiet_load_has {o : Oper} {a : Act} {K : Act → Prop} (t : TypeId) (x : Operand) (ho : o.op = .load t x) {b i : Nat} (hx : a.eval x = .pointer (some ⟨b, i, none⟩))
    {cs : Array Value} {e : TypeId} {fz : Nat × Nat} (hb : M b = some (.cells cs e fz)) {v : Value} (hv : cs[i]? = some v) {d : TypeDesc} (hu : P.underlying t = some d) (hd : d.isRow = false) (h : K (a.put o.dst v)) : o.quiet P a (Has σ M) K :=
  quiet_load_one t x ho b i hx v d (fun w hw => by rw [hw.cell hb, hv]) hu hd h
theorem quiet_loadAgg_has {o : Oper} {a : Act} {K : Act → Prop} (t : TypeId) (x : Operand) (ho : o.op = .load t x) {b i : Nat} (hx : a.eval x = .pointer (some ⟨b, i, none⟩))
    {cs : Array Value} {e : TypeId} {fz : Nat × Nat} (hb : M b = some (.cells cs e fz)) {d : TypeDesc} (hu : P.underlying t = some d) (hd : d.isRow = true) {n : Nat} (hi : (P.info? t).map (·.size) = some n) (hn : (cs.extract i (i + n)).size = n)
    (h : K (a.put o.dst (.agg (cs.extract i (i + n))))) : o.quiet P a (Has σ M) K :=
  quiet_load_arr t x ho b i hx (cs.extract i (i + n)) d (fun w hw => hw.range hb (by rw [hn])) hu hd (by rw [hi, hn]) h

theorem quiet_agg_has {o : Oper} {a : Act} {K : Act → Prop} (t : TypeId) (x : Operand) (ho : o.op = .load t x) {b i : Nat} (hx : a.eval x = .pointer (some ⟨b, i, none⟩))
    {cs : Array Value} {e : TypeId} {fz : Nat × Nat} (hb : M b = some (.cells cs e fz)) {xs : Array Value} {n : Nat} (hc : cs.extract i (i + n) = xs) (hn : xs.size = n) {d : TypeDesc} (hu : P.underlying t = some d) (hd : d.isRow = true) (hi : (P.info? t).map (·.size) = some n)
    (h : K (a.put o.dst (.agg xs))) : o.quiet P a (Has σ M) K :=
  quiet_load_arr t x ho b i hx xs d (fun w hw => hw.range hb (by rw [hn, hc])) hu hd (by rw [hi, hn]) h
theorem wpList_agg_has (h : Has σ M w) (hw : Region.wanted op (yielded ops a.tmps) = true) (t : TypeId) (x : Operand) (ho : op.op = .load t x) {b i : Nat} (hx : a.eval x = .pointer (some ⟨b, i, none⟩))
    {cs : Array Value} {e : TypeId} {fz : Nat × Nat} (hb : M b = some (.cells cs e fz)) {xs : Array Value} {n : Nat} (hc : cs.extract i (i + n) = xs) (hn : xs.size = n) {d : TypeDesc} (hu : P.underlying t = some d) (hd : d.isRow = true) (hi : (P.info? t).map (·.size) = some n)
    (hk : wpList P ops Q rest (a.put op.dst (.agg xs)) w) : wpList P ops Q (op :: rest) a w :=
  wpList_load_arg hw t x ho b i hx xs d (h.range hb (by rw [hn, hc])) hu hd (by rw [hi, hn]) hk
end

/-! ### Lists of elements of several cells -/
section
variable {α : Type} {enc : α → List Value} {sz : Nat}
theorem flat_length (h : ∀ x, (enc x).length = sz) : ∀ l : List α, (l.flatMap enc).length = l.length * sz
  | [] => by simp
  | x :: l => by rw [List.flatMap_cons, List.length_append, h, flat_length h l, List.length_cons, Nat.add_mul]; omega
theorem flat_get (h : ∀ x, (enc x).length = sz) : ∀ (l : List α) (k : Nat) (x : α), l[k]? = some x → ∀ j, j < sz → (l.flatMap enc)[k * sz + j]? = (enc x)[j]?
  | [], k, x, hk, _, _ => by simp at hk
  | y :: l, 0, x, hk, j, hj => by
    simp at hk
    subst hk
    rw [List.flatMap_cons, Nat.zero_mul, Nat.zero_add, List.getElem?_append_left (by rw [h]; exact hj)]
  | y :: l, k + 1, x, hk, j, hj => by
    have e : (k + 1) * sz + j = sz + (k * sz + j) := by rw [Nat.add_mul]; omega
    rw [List.flatMap_cons, e, List.getElem?_append_right (by rw [h]; omega), h, Nat.add_sub_cancel_left]
    exact flat_get h l k x (by simpa using hk) j hj
/-- An element of a slice that reads as a list. -/
theorem Rd.elem {M : Mm} {v : Value} {n : Nat} {l : List α} (hr : Rd M sz v n (l.flatMap enc)) (h : ∀ x, (enc x).length = sz) {k : Nat} (hk : k < n) {x : α} (hx : l[k]? = some x) :
    ∃ b o c cs t fz, v = .slice (some ⟨b, o, none⟩) n c ∧ M b = some (.cells cs t fz) ∧ ∀ j u, (enc x)[j]? = some u → cs[o + k * sz + j]? = some u := by
  obtain ⟨_, A, c, rfl, hc, hA⟩ := hr
  obtain ⟨b, o, cs, t, fz, rfl, hb, hcs⟩ := hA (by omega)
  refine ⟨b, o, c, cs, t, fz, rfl, hb, fun j u hu => ?_⟩
  have hj : j < sz := by rw [← h x]; exact (List.getElem?_eq_some_iff.1 hu).1
  rw [Nat.add_assoc]
  exact hcs _ _ (by rw [flat_get h l k x hx j hj]; exact hu)
theorem extract_of {cs : Array Value} {i n : Nat} {xs : List Value} (h : ∀ j u, xs[j]? = some u → cs[i + j]? = some u) (hn : xs.length = n) : cs.extract i (i + n) = xs.toArray := by
  subst hn
  apply Array.ext_getElem?
  intro j
  by_cases hj : j < xs.length
  · have e := h j xs[j] (List.getElem?_eq_getElem hj)
    rw [Array.getElem?_extract]
    have hlt : i + j < cs.size := (Array.getElem?_eq_some_iff.1 e).1
    rw [if_pos (by omega), e]
    simp [hj]
  · rw [Array.getElem?_eq_none (by simp; omega), Array.getElem?_eq_none (by simp; omega)]
theorem Rd.form {M : Mm} {v : Value} {n sz : Nat} {xs : List Value} (h : Rd M sz v n xs) : ∃ A c, v = .slice A n c := by obtain ⟨_, A, c, hv, _⟩ := h; exact ⟨A, c, hv⟩
theorem Own.form {M M0 : Mm} {e : TypeId} {v : Value} {n sz : Nat} {xs : List Value} (h : Own M0 M e sz v n xs) : ∃ A c, v = .slice A n c := h.rd.form
/-- One cell of the call's own row is written. -/
theorem Own.put {M M0 : Mm} {e : TypeId} {g n c : Nat} {sz : Nat} {xs : List Value} (h : Own M0 M e sz (.slice (some ⟨g, 0, none⟩) n c) n xs) (i : Nat) (u : Value) :
    ∃ cur : Array Value, M g = some (.cells cur e (0, 0)) ∧ n * sz ≤ cur.size ∧ Own M0 (M.upd g (.cells (cur.setIfInBounds i u) e)) e sz (.slice (some ⟨g, 0, none⟩) n c) n (xs.set i u) ∧ M0 g = none := by
  obtain ⟨hl, ⟨hv, _⟩ | ⟨g', cap, cur, hv, hg, hh, hc, hm, hs, ht⟩⟩ := h
  · cases hv
  · cases hv
    have hle : n * sz ≤ cur.size := by rw [hs]; exact Nat.mul_le_mul_right _ hc
    refine ⟨cur, hh, hle, ⟨by simpa using hl, .inr ⟨g, _, _, rfl, hg, Mm.upd_same _ _ _, hc, hm, by simpa using hs, ?_⟩⟩, hg⟩
    rw [Array.toList_setIfInBounds, ← ht, List.take_set]
theorem Own.pos {M M0 : Mm} {e : TypeId} {v : Value} {n sz : Nat} {xs : List Value} (h : Own M0 M e sz v n xs) (hn : 0 < n) : ∃ g c, v = .slice (some ⟨g, 0, none⟩) n c := by
  obtain ⟨_, ⟨_, h0⟩ | ⟨g, cap, cur, hv, _⟩⟩ := h
  · omega
  · exact ⟨g, cap, hv⟩
theorem Own.at_ {M M0 : Mm} {e : TypeId} {g n c : Nat} {sz : Nat} {xs : List Value} (h : Own M0 M e sz (.slice (some ⟨g, 0, none⟩) n c) n xs) :
    ∃ cur : Array Value, M g = some (.cells cur e (0, 0)) ∧ ∀ (j : Nat) (u : Value), xs[j]? = some u → cur[j]? = some u := by
  obtain ⟨hl, ⟨hv, _⟩ | ⟨g', cap, cur, hv, hg, hh, hc, hm, hs, ht⟩⟩ := h
  · cases hv
  · cases hv
    refine ⟨cur, hh, fun j u hu => ?_⟩
    rw [← ht, List.getElem?_take] at hu
    split at hu
    · simpa using hu
    · cases hu
theorem oneCell_map {β : Type} {f : β → Value} (h : ∀ x, (f x).oneCell' = true) (l : List β) : ∀ u ∈ l.map f, u.oneCell' = true := fun u hu => by
  obtain ⟨x, _, rfl⟩ := List.mem_map.1 hu
  exact h x
theorem oneCell_flat (h : ∀ x, ∀ u ∈ enc x, u.oneCell' = true) (l : List α) : ∀ u ∈ l.flatMap enc, u.oneCell' = true := fun u hu => by
  obtain ⟨x, _, h1⟩ := List.mem_flatMap.1 hu
  exact h x u h1
end
end Go.Proofs.YtlpkimpdeeiaaaaGreat
