/- The base of all proofs over this seat: how a law's contract gives its row's statement, blocks of cells, arguments that are opened. -/
import Derived.Test.YtlpkimpdeeiaaaaGreatRows
import Derived.WalkKit
import Derived.ProofKit
import Derived.OpenShut
import Derived.WalkSpells
import Derived.WalkLawsBesides
import Derived.Lib.Hide
import Derived.Deep.MidRow
import Derived.Laws.Rows
namespace Go.Proofs.YtlpkimpdeeiaaaaGreat
open Go.ChangeShapes Go.WideShapes Go.ChangeAt Go.RowKit

section
variable {H : Type} {enc : TypeId × Value → H} {P : Program}

/-- All arguments read behind a call as they did, if below the old heap nothing has turned. -/
theorem trodAll_stays (hl : laidOutB P = true) {W W' : World} (hb : Below W.heap.size W W') : ∀ (ts : List TypeId) (vs : List Value) (ds : List (DataW H)) (ps : List MemPlace),
    (∀ t ∈ ts, P.readableRec t = true ∧ t < P.types.size) → (∀ x ∈ ps, x.block < W.heap.size) →
    DataW.TrodAll enc P W 0 (fun _ => true) true ts vs ds ps → DataW.TrodAll enc P W' 0 (fun b => decide (b < W.heap.size)) true ts vs ds ps
  | [], [], [], _, _, _, h => h
  | t :: ts, v :: vs, d :: ds, _, hr, hlt, h => by
    obtain ⟨p, q, h1, h2, rfl⟩ := h
    exact ⟨p, q, Below.trod hl (hr t (by simp)).1 (hr t (by simp)).2 h1 hb (fun x hx => hlt x (by simp [hx])), trodAll_stays hl hb ts vs ds q (fun t ht => hr t (by simp [ht])) (fun x hx => hlt x (by simp [hx])) h2, rfl⟩

/-- A law's contract gives its row's post. -/
theorem law_post (hl : laidOutB P = true) {f : Func} {s : ChangeSpec} {W W' : World} {args : Array Value} {ds gs : List (DataW H)} {before : List MemPlace} {t : TypeId}
    (hr : ∀ t ∈ f.params.toList, P.readableRec t = true ∧ t < P.types.size) (hres : f.resultTypes = #[t]) (ht : P.underlying t = some .bool)
    (hvars : s.vars = []) (hs : s.fn H (ds ++ gs) = { results := [.lit (.bool true)], args := ds })
    (hW : DataW.Whole enc P f.params.toList s.vars false W args.toList ds gs before) (hb : Below W.heap.size W W') :
    s.post enc P f false true false false W args (.bool true) W' := by
  obtain ⟨p, q, hA, hV, hpq, hz, hn⟩ := id hW
  have hlt := hW.lt
  rw [hvars] at hV
  obtain ⟨rfl, rfl⟩ := trodVars_none hV
  refine ⟨ds, [], before, [], p, [], hW, ?_, ?_, ?_, hb.frame _, fun h => by simp at h⟩
  · rw [hs, hres]
    exact trodAll_cons_mk (shut_bool ht _) trodAll_mk0
  · rw [hs]
    exact trodAll_stays hl hb _ _ _ _ hr (fun x hx => by simpa using hlt x (by simp [hpq, hx])) hA
  · rw [hs, hvars]
    rfl
end

/-! ### A block of cells, known whole. -/
def Blk (w : World) (b : Nat) (cs : Array Value) (t : TypeId) : Prop := w.heap[b]? = some (.cells cs t (0, 0))
section
variable {w : World} {b : Nat} {cs : Array Value} {t : TypeId}
theorem Blk.lt (h : Blk w b cs t) : b < w.heap.size := lt_of_block h
theorem Blk.cell (h : Blk w b cs t) (i : Nat) : w.cell? ⟨b, i, none⟩ = cs[i]? := cell_of_row w b i cs t _ h
theorem Blk.free (h : Blk w b cs t) (i : Nat) : w.frozen? ⟨b, i, none⟩ = false := frozen_of_row w b i cs t h
theorem Blk.new {w : World} {cs : Array Value} {t : TypeId} : Blk (w.alloc (.cells cs t)) w.heap.size cs t := heap_alloc_new w _
theorem Blk.alloc (h : Blk w b cs t) (o : Obj) : Blk (w.alloc o) b cs t := (Below.heap_alloc w o b h.lt).trans h
theorem Blk.set (h : Blk w b cs t) (i : Nat) (v : Value) : Blk (w.setCell ⟨b, i, none⟩ v) b (cs.setIfInBounds i v) t := heap_setCell_same w b i cs t v h
theorem Blk.other (h : Blk w b cs t) (a : Addr) (hb : b ≠ a.block) (v : Value) : Blk (w.setCell a v) b cs t := (heap_setCell_other w a b v hb).trans h
theorem Blk.drew (h : Blk w b cs t) : Blk w.drew b cs t := h
theorem Blk.drewN (h : Blk w b cs t) (n : Nat) : Blk (w.drewN n) b cs t := h
theorem Blk.below (h : Blk w b cs t) {w' : World} {B : Nat} (hb : Below B w w') (hB : b < B) : Blk w' b cs t := (hb.block b hB).trans h
end

/-! ### A struct or an array by value whose cells are all integers of one kind. -/
def ints (k : IntKind) (n : Nat) (c : Nat → Int) : Array Value := ((List.range n).map fun i => Value.int k (c i)).toArray
theorem ints_get {k : IntKind} {n : Nat} {c : Nat → Int} {i : Nat} (h : i < n) : (ints k n c)[i]? = some (.int k (c i)) := by simp [ints, h]
theorem ints_size (k : IntKind) (n : Nat) (c : Nat → Int) : (ints k n c).size = n := by simp [ints]
theorem ints_congr {k : IntKind} {n : Nat} {c d : Nat → Int} (h : ∀ i, i < n → c i = d i) : ints k n c = ints k n d := by
  unfold ints
  exact congrArg List.toArray (List.map_congr_left fun i hi => by rw [h i (by simpa using hi)])
def upd (c : Nat → Int) (i : Nat) (v : Int) : Nat → Int := fun j => if j = i then v else c j
theorem ints_set (k : IntKind) (n : Nat) (c : Nat → Int) (i : Nat) (v : Int) : (ints k n c).setIfInBounds i (.int k v) = ints k n (upd c i v) := by
  apply Array.ext_getElem?
  intro j
  by_cases hj : j < n
  · rw [ints_get hj, Array.getElem?_setIfInBounds, ints_get hj]
    unfold upd
    by_cases e : i = j
    · subst e; simp [ints_size, hj]
    · rw [if_neg e, if_neg (by omega)]
  · have h1 : ∀ c : Nat → Int, (ints k n c)[j]? = none := fun c => by rw [Array.getElem?_eq_none]; rw [ints_size]; omega
    rw [h1, Array.getElem?_setIfInBounds, h1]
    by_cases e : i = j
    · subst e; simp [ints_size, hj]
    · rw [if_neg e]

theorem open_ints_agg {P : Program} {w : World} {r : Reach} {b : Nat} {t e : TypeId} {fs : Array Field} {k : IntKind} {n : Nat} {v : Value} (hu : P.underlying t = some (.struct fs)) (hC : P.cellsOf t = n)
    (hT : P.cellTypes P.depth t = some (List.replicate n e)) (he : P.underlying e = some (.int k)) (hv : Value.okWide P w r b t v) :
    ∃ c : Nat → Int, v = .agg (ints k n c) ∧ ∀ i, i < n → k.min ≤ c i ∧ c i ≤ k.max := by
  simp only [Value.okWide, hu] at hv
  obtain ⟨cs, rfl, hsz, ts, hts, _, hall⟩ := hv
  rw [hT] at hts
  cases hts
  have hcell : ∀ i, i < n → ∃ z, cs[i]? = some (.int k z) ∧ k.min ≤ z ∧ z ≤ k.max := fun i hi => by
    have hi' : i < cs.size := by omega
    obtain ⟨u, h1, h2⟩ := hall i _ (Array.getElem?_eq_getElem hi')
    have hu : u = e := by
      have := List.mem_of_getElem? h1
      exact (List.mem_replicate.1 this).2
    subst hu
    simp only [Cell.okWide, Cell.ok, he] at h2
    split at h2 <;> simp_all [IntKind.has]
  refine ⟨fun i => if h : i < n then (hcell i h).choose else 0, ?_, fun i hi => ?_⟩
  · congr 1
    apply Array.ext_getElem?
    intro i
    by_cases hi : i < n
    · rw [ints_get hi]; simp only [hi, dif_pos]; exact (hcell i hi).choose_spec.1
    · rw [Array.getElem?_eq_none (by omega), Array.getElem?_eq_none (by rw [ints_size]; omega)]
  · simp only [hi, dif_pos]
    exact (hcell i hi).choose_spec.2

/-! ### A struct or an array, loaded or stored as a whole, in a block that is known whole. -/
/-- Only block b may have turned. -/
structure Only (b : Nat) (w w' : World) : Prop where
  os : w'.os = w.os
  tape : w'.tape = w.tape
  output : w'.output = w.output
  size : w'.heap.size = w.heap.size
  block : ∀ k, k ≠ b → w'.heap[k]? = w.heap[k]?
theorem Only.below {b B : Nat} {a w w' : World} (h : Only b w w') (hB : B ≤ b) (k : Below B a w) : Below B a w' :=
  k.trans ⟨h.os, h.tape, h.output, by rw [h.size]; exact Nat.le_refl _, fun i hi => h.block i (by omega)⟩
theorem Blk.only {w w' : World} {b c : Nat} {cs : Array Value} {t : TypeId} (h : Blk w c cs t) (ho : Only b w w') (hb : c ≠ b) : Blk w' c cs t := (ho.block c hb).trans h
theorem only_setCell (w : World) (b i : Nat) (v : Value) : Only b w (w.setCell ⟨b, i, none⟩ v) := ⟨rfl, rfl, rfl, by simp, fun k hk => heap_setCell_other w ⟨b, i, none⟩ k v hk⟩
theorem only_setCells (b : Nat) : ∀ (vs : List Value) (o : Nat) (w : World), Only b w (w.setCells b o vs)
  | [], _, _ => ⟨rfl, rfl, rfl, rfl, fun _ _ => rfl⟩
  | v :: r, o, w => by
    have h1 := only_setCell w b o v
    have h2 := only_setCells b r (o + 1) (w.setCell ⟨b, o, none⟩ v)
    exact ⟨h2.os.trans h1.os, h2.tape.trans h1.tape, h2.output.trans h1.output, h2.size.trans h1.size, fun k hk => (h2.block k hk).trans (h1.block k hk)⟩
theorem blk_setCells (b : Nat) (t : TypeId) : ∀ (vs : List Value) (o : Nat) (w : World) (pre old post : List Value), pre.length = o → old.length = vs.length → Blk w b (pre ++ old ++ post).toArray t → Blk (w.setCells b o vs) b (pre ++ vs ++ post).toArray t
  | [], o, w, pre, old, post, _, hl, h => by
    obtain rfl : old = [] := by simpa using hl
    exact h
  | v :: r, o, w, pre, old, post, ho, hl, h => by
    match old, hl with
    | x :: xs, hl =>
      have h1 := h.set o v
      have e : ((pre ++ x :: xs ++ post).toArray.setIfInBounds o v) = ((pre ++ [v]) ++ xs ++ post).toArray := by
        subst ho
        simp
      rw [e] at h1
      have := blk_setCells b t r (o + 1) (w.setCell ⟨b, o, none⟩ v) (pre ++ [v]) xs post (by simp [ho]) (by simpa using hl) h1
      simpa [World.setCells] using this

theorem wpList_store_whole {P : Program} {ops : Array Oper} {rest : List Oper} {op : Oper} {a : Act} {w : World} {Q : Exit → Act → World → Prop} (hgd : op.guard = none) (ty : TypeId) (x y : Operand) (ho : op.op = .store ty x y)
    (b : Nat) (cs cells : Array Value) (t : TypeId) (hx : a.eval x = .pointer (some ⟨b, 0, none⟩)) (hy : a.eval y = .agg cells)
    (hb : Blk w b cs t) (hs : cs.size = cells.size) (hi : (P.info? ty).map (·.size) = some cells.size) (h1 : cells.all (·.oneCell') = true)
    (h : ∀ w', Blk w' b cells t → Only b w w' → wpList P ops Q rest (a.put op.dst undef) w') : wpList P ops Q (op :: rest) a w := by
  refine wpList_store_mid hgd ty x y ho b 0 cells hx hy ?_ hi h1 (h _ ?_ (only_setCells b _ 0 w))
  · intro j hj
    rw [Nat.zero_add]
    exact ⟨by rw [hb.cell, Array.getElem?_eq_getElem (by omega)]; rfl, hb.free j⟩
  · have := blk_setCells b t cells.toList 0 w [] cs.toList [] rfl (by simpa using hs) (by simpa using hb)
    simpa using this
theorem ints_all (k : IntKind) (n : Nat) (c : Nat → Int) : (ints k n c).all (·.oneCell') = true := by
  rw [Array.all_eq_true_iff_forall_mem]
  intro x hx
  simp only [ints, List.mem_toArray, List.mem_map] at hx
  obtain ⟨i, _, rfl⟩ := hx
  rfl

theorem Blk.range {w : World} {b o : Nat} {t : TypeId} {pre mid post : List Value} (h : Blk w b (pre ++ mid ++ post).toArray t) (ho : pre.length = o) : w.rangeAt b o mid := by
  intro j v hv
  have hj : j < mid.length := (List.getElem?_eq_some_iff.1 hv).1
  rw [h.cell, List.getElem?_toArray, List.append_assoc, List.getElem?_append_right (by omega), List.getElem?_append_left (by omega), ← hv]
  congr 1
  omega
theorem below_put {B b i : Nat} {a w : World} (h : Below B a w) (hb : B ≤ b) (v : Value) : Below B a (w.setCell ⟨b, i, none⟩ v) := h.setCell hb v

theorem below_many {B : Nat} {a w : World} (h : Below B a w) (n : Nat) : Below B a (w.drewN n) := ⟨h.os, h.tape, h.output, h.size, h.block⟩

theorem own : ownKnob Tryz.prog.godebug = none := by kernel_rfl
theorem laidOut : laidOutB Tryz.prog = true := by kernel_rfl

end Go.Proofs.YtlpkimpdeeiaaaaGreat
