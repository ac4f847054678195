/- MintCrowd returns true for any configuration and any deeds, and leaves its arguments as they were. No condition. -/
import Derived.Test.YtjeeldacnllipaaGreatWalk
import Derived.ChangeSlices
import Derived.Deep.Slices
import Derived.Deep.Fields
import Derived.ChangeSame
import Derived.ChangeArms
import Derived.OpenShut
import Derived.Test.YtjeeldacnllipaaGreatMgC
import Derived.ChangeMaps5
import Derived.Test.YtjeeldacnllipaaGreatMgD
namespace Go.Proofs.YtjeeldacnllipaaGreat
set_option linter.unusedVariables false
set_option linter.unusedSimpArgs false
set_option linter.unnecessarySimpa false
section
open Go.ChangeShapes Go.WideShapes Go.RowKit

theorem block_of_cell {w : World} {a : Addr} {v : Value} (h : w.cell? a = some v) : ∃ cs t fz, w.heap[a.block]? = some (.cells cs t fz) ∧ a.spot = none ∧ cs[a.off]? = some v := by
 unfold World.cell? at h
 split at h
 ·rename_i cs t fz hb
  split at h
  ·cases h
  ·rename_i hs
   exact ⟨cs, t, fz, hb, by simpa using hs, h⟩
 ·cases h

theorem rd_of_cells {W : World} {A : Addr} {n c sz : Nat} {xs : List Value} (hl : xs.length = n * sz) (hc : n ≤ c) (hsz : 0 < sz) (h : ∀ j u, xs[j]? = some u → W.cell? (A.add j) = some u) : Rd (World.mm W) sz (.slice (some A) n c) n xs := by
 refine ⟨hl, some A, c, rfl, hc, fun hn => ?_⟩
 have hpos : 0 < xs.length := by rw [hl]; exact Nat.mul_pos hn hsz
 have h0 := h 0 _ (List.getElem?_eq_getElem hpos)
 obtain ⟨cs, t, fz, hb, hs, _⟩ := block_of_cell (a := A) (by simpa [Addr.add] using h0)
 obtain ⟨b, o, sp⟩ := A
 simp only at hs hb
 subst hs
 refine ⟨b, o, cs, t, fz, rfl, hb, fun j u hj => ?_⟩
 have h1 := h j u hj
 rw [Addr.add_mid] at h1
 rwa [cell_of_row W b (o + j) cs t fz hb] at h1

section
variable {H : Type} {enc : TypeId × Value → H} {P : Program} {w : World} {base : Nat} {spare : Nat → Bool} {held : Bool}
/-- A slice of integers. -/
theorem open_rd_ints {t e : TypeId} {k : IntKind} {v : Value} {d : DataW H} {p : List MemPlace} (ht : P.underlying t = some (.slice e)) (he : P.underlying e = some (.int k)) (hc : P.cellsOf e = 1) (hv : v.cells = #[v])
  (h : DataW.Trod enc P w base (fun _ => true) held t v d p) : ∃ (xs : List Int) (n : Nat), xs.length = n ∧ n ≤ maxLen ∧ Rd (World.mm w) 1 v n (xs.map (Value.int k)) := by
 obtain ⟨fuel, hf⟩ := h
 rcases open_ints ht he hc hf with ⟨h1, _⟩ | ⟨a, len, cap, zs, h1, _, hle, hm, hz, _, hcell, _⟩
 ·rw [hv] at h1
  have : v = .slice none 0 0 := by simpa using h1
  subst this
  exact ⟨[], 0, rfl, by decide, Rd.nil _ _ _⟩
 ·rw [hv] at h1
  have : v = .slice (some a) len cap := by simpa using h1
  subst this
  have hz : zs.length = cap := by simpa using hz
  refine ⟨zs.take len, len, by simp; omega, by omega, rd_of_cells (by simp; omega) hle (by omega) fun j u hj => ?_⟩
  rw [List.getElem?_map] at hj
  obtain ⟨x, hx, rfl⟩ := Option.map_eq_some_iff.1 hj
  rw [List.getElem?_take] at hx
  split at hx
  ·rename_i hlt
   rw [hcell j (by omega)]
   simp [List.getD, hx]
  ·cases hx

/-- A slice of structs whose fields are integers: kinds ks. -/
theorem open_rd_structs {t e : TypeId} {fs : Array Field} {ks : List IntKind} {v : Value} {d : DataW H} {p : List MemPlace} (ht : P.underlying t = some (.slice e)) (he : P.underlying e = some (.struct fs)) (hC : P.cellsOf e = ks.length) (hfs : fs.size = ks.length) (hpos : 0 < ks.length)
  (hks : ∀ (j : Nat) (f : Field) (k : IntKind), fs[j]? = some f → ks[j]? = some k → f.offset = j ∧ P.cellsOf f.type = 1 ∧ P.underlying f.type = some (.int k)) (hv : v.cells = #[v])
  (h : DataW.Trod enc P w base (fun _ => true) held t v d p) : ∃ (c : Nat → Nat → Int) (n : Nat), n ≤ maxLen ∧ Rd (World.mm w) ks.length v n ((List.range n).flatMap fun i => (List.range ks.length).map fun j => Value.int (ks.getD j .i64) (c i j)) := by
 obtain ⟨fuel, hf⟩ := h
 rcases Deep.open_slice ht hf with ⟨h1, _⟩ | ⟨a, len, cap, m, n, D, Pl, h1, _, hle, hm, hmm, _, hi⟩
 ·rw [hv] at h1
  have : v = .slice none 0 0 := by simpa using h1
  subst this
  exact ⟨fun _ _ => 0, 0, by decide, Rd.nil _ _ _⟩
 ·rw [hv] at h1
  have : v = .slice (some a) len cap := by simpa using h1
  subst this
  have hm' : m = cap := by simpa using hmm
  subst hm'
  have key : ∀ i j, i < len → j < ks.length → ∃ z, w.cell? (a.add (i * ks.length + j)) = some (.int (ks.getD j .i64) z) := by
   intro i j hil hj
   obtain ⟨cs', hcs, htr⟩ := hi i (by omega)
   rw [hC] at hcs
   obtain ⟨ys, n', hn', hy, hlen, hyl, hfl⟩ := DataW.trod_struct he htr
   obtain ⟨_, hcl, hat⟩ := World.cells?_some hcs
   have hfj : fs[j]? = some (fs[j]'(by omega)) := Array.getElem?_eq_getElem (by omega)
   obtain ⟨q1, q2, q3⟩ := hks j _ _ hfj (List.getElem?_eq_getElem hj)
   have h1 := hfl j _ hfj
   have hcj : j < cs'.length := by omega
   rw [q1, q2] at h1
   have hone : (cs'.drop j).take 1 = [cs'[j]] := by
    rw [List.drop_eq_getElem_cons hcj]
    rfl
   rw [hone] at h1
   have hys : ys[j]? = some (ys[j]'(by omega)) := List.getElem?_eq_getElem (by omega)
   obtain ⟨z, hz, _⟩ := DataW.trod_int q3 (h1.trans hys)
   refine ⟨z, ?_⟩
   have hcell := hat j (by omega)
   rw [← Deep.add_add, hcell, List.getElem?_eq_getElem hcj]
   simp only [List.cons.injEq, and_true] at hz
   rw [hz]
   simp [List.getD, hj]
  refine ⟨fun i j => if h : i < len ∧ j < ks.length then (key i j h.1 h.2).choose else 0, len, by omega, rd_of_cells ?_ hle hpos fun q u hq => ?_⟩
  ·rw [flat_length (sz := ks.length) (by simp)]
   simp
  ·have hq' := (List.getElem?_eq_some_iff.1 hq).1
   rw [flat_length (sz := ks.length) (by simp), List.length_range] at hq'
   obtain ⟨i, j, rfl, hil, hjl⟩ : ∃ i j, q = i * ks.length + j ∧ i < len ∧ j < ks.length :=
    ⟨q / ks.length, q % ks.length, by rw [Nat.mul_comm]; exact (Nat.div_add_mod _ _).symm, Nat.div_lt_of_lt_mul (by rw [Nat.mul_comm]; exact hq'), Nat.mod_lt _ hpos⟩
   rw [flat_get (sz := ks.length) (by simp) _ _ i (by simp [hil]) _ hjl] at hq
   rw [List.getElem?_map, List.getElem?_range hjl] at hq
   simp only [Option.map_some, Option.some.injEq] at hq
   rw [← hq, dif_pos ⟨hil, hjl⟩]
   exact (key i j hil hjl).choose_spec
end
end
section
open Go.ChangeShapes Go.WideShapes Go.RowKit
section
variable {H : Type} {enc : TypeId × Value → H} {P : Program} {w : World} {base : Nat} {held : Bool}
/-- A slice of elements of several cells each. -/
theorem open_rows {α : Type} {en : α → List Value} {sz : Nat} (hen : ∀ y, (en y).length = sz) (hpos : 0 < sz) {t e : TypeId} {v : Value} {d : DataW H} {ps : List MemPlace} (ht : P.underlying t = some (.slice e)) (hC : P.cellsOf e = sz)
  (hcell : ∀ (m : Nat) (cs : List Value) (x : DataW H × List MemPlace), DataW.trod enc P w base (fun _ => true) held m e cs = some x → ∃ y, cs = en y) (hv : v.cells = #[v])
  (h : DataW.Trod enc P w base (fun _ => true) held t v d ps) : ∃ L : List α, Rd (World.mm w) sz v L.length (L.flatMap en) := by
 obtain ⟨fuel, hf⟩ := h
 rcases Deep.open_slice ht hf with ⟨h1, _⟩ | ⟨a, len, cap, m, n, D, Pl, h1, _, hle, hm, hmm, _, hi⟩
 ·rw [hv] at h1
  have : v = .slice none 0 0 := by simpa using h1
  subst this
  exact ⟨[], Rd.nil _ _ _⟩
 ·rw [hv] at h1
  have : v = .slice (some a) len cap := by simpa using h1
  subst this
  have hm' : m = cap := by simpa using hmm
  subst hm'
  have key : ∀ i, i < len → ∃ y, ∀ j, j < sz → w.cell? (a.add (i * sz + j)) = (en y)[j]? := by
   intro i hil
   obtain ⟨cs', hcs, htr⟩ := hi i (by omega)
   rw [hC] at hcs
   obtain ⟨y, rfl⟩ := hcell n cs' _ htr
   obtain ⟨_, hcl, hat⟩ := World.cells?_some hcs
   refine ⟨y, fun j hj => ?_⟩
   rw [← Deep.add_add]
   exact hat j (by omega)
  cases len with
  | zero => exact ⟨[], by simpa using ⟨by simp, some a, m, rfl, Nat.zero_le _, fun h => absurd h (by omega)⟩⟩
  | succ len =>
   have L : List α := []
   obtain ⟨y0, _⟩ := key 0 (by omega)
   let f : Nat → α := fun i => if h : i < len + 1 then (key i h).choose else y0
   have hf2 : ∀ i, i < len + 1 → ∀ j, j < sz → w.cell? (a.add (i * sz + j)) = (en (f i))[j]? := fun i hi => by
    show ∀ j, j < sz → w.cell? (a.add (i * sz + j)) = (en (if h : i < len + 1 then (key i h).choose else y0))[j]?
    rw [dif_pos hi]
    exact (key i hi).choose_spec
   refine ⟨(List.range (len + 1)).map f, ?_⟩
   have hln : ((List.range (len + 1)).map f).length = len + 1 := by simp
   rw [hln]
   refine rd_of_cells (by rw [flat_length hen, hln]) hle hpos fun q u hq => ?_
   have hq' := (List.getElem?_eq_some_iff.1 hq).1
   rw [flat_length hen, hln] at hq'
   obtain ⟨i, j, rfl, hil, hjl⟩ : ∃ i j, q = i * sz + j ∧ i < len + 1 ∧ j < sz :=
    ⟨q / sz, q % sz, by rw [Nat.mul_comm]; exact (Nat.div_add_mod _ _).symm, Nat.div_lt_of_lt_mul (by rw [Nat.mul_comm]; exact hq'), Nat.mod_lt _ hpos⟩
   rw [flat_get hen _ i (f i) (by simp [hil]) j hjl] at hq
   rw [hf2 i hil j hjl, hq]
end
section
variable {H : Type} {enc : TypeId × Value → H} {w : World} {base : Nat} {held : Bool}
theorem one_int {spare : Nat → Bool} {k : IntKind} {n : Nat} {t : TypeId} {a : Value} {x : Option (DataW H × List MemPlace)} (hu : Tryz.prog.underlying t = some (.int k)) (h : DataW.trod enc Tryz.prog w base spare held n t [a] = x) (hx : x.isSome = true) : ∃ z, a = .int k z := by
 cases hx' : x with
 | none => rw [hx'] at hx; cases hx
 | some y =>
  rw [hx'] at h
  obtain ⟨z, hz, _⟩ := DataW.trod_int hu h
  simp only [List.cons.injEq, and_true] at hz
  exact ⟨z, hz⟩
theorem one_str {spare : Nat → Bool} {n : Nat} {t : TypeId} {a : Value} {x : Option (DataW H × List MemPlace)} (hu : Tryz.prog.underlying t = some .string) (h : DataW.trod enc Tryz.prog w base spare held n t [a] = x) (hx : x.isSome = true) : ∃ z, a = .string z := by
 cases hx' : x with
 | none => rw [hx'] at hx; cases hx
 | some y =>
  rw [hx'] at h
  obtain ⟨z, hz, _⟩ := DataW.trod_string hu h
  simp only [List.cons.injEq, and_true] at hz
  exact ⟨z, hz⟩
theorem pick_u {ts : List Nat} {i t : Nat} {Q : Nat → Prop} (h : ∃ u, ts[i % ts.length]? = some u ∧ Q u) (ht : ts[i % ts.length]? = some t) : Q t := by
 obtain ⟨u, h1, h2⟩ := h
 rw [ht] at h1
 cases h1
 exact h2
theorem slice_cell {P : Program} {r : Reach} {b : Nat} {t e : TypeId} {v : Value} (hu : P.underlying t = some (.slice e)) (hv : Cell.okWide P w r b t v) : v.cells = #[v] := by
 unfold Cell.okWide at hv
 rw [hu] at hv
 cases v <;> first | rfl | (simp [Cell.ok, hu] at hv)
theorem int_cell {P : Program} {r : Reach} {b : Nat} {t : TypeId} {k : IntKind} {v : Value} (hu : P.underlying t = some (.int k)) (hv : Cell.okWide P w r b t v) : ∃ z, v = .int k z := by
 unfold Cell.okWide at hv
 rw [hu] at hv
 cases v <;> simp [Cell.ok, hu] at hv
 obtain ⟨rfl, _⟩ := hv
 exact ⟨_, rfl⟩
theorem str_cell {P : Program} {r : Reach} {b : Nat} {t : TypeId} {v : Value} (hu : P.underlying t = some .string) (hv : Cell.okWide P w r b t v) : ∃ z, v = .string z := by
 unfold Cell.okWide at hv
 rw [hu] at hv
 cases v <;> simp [Cell.ok, hu] at hv
 exact ⟨_, rfl⟩
theorem bool_cell {P : Program} {r : Reach} {b : Nat} {t : TypeId} {v : Value} (hu : P.underlying t = some .bool) (hv : Cell.okWide P w r b t v) : ∃ z, v = .bool z := by
 unfold Cell.okWide at hv
 rw [hu] at hv
 cases v <;> simp [Cell.ok, hu] at hv
 exact ⟨_, rfl⟩
end
end
section
open Go.ChangeShapes Go.WideShapes Go.ChangeAt Go.RowKit Go.ChangeMaps
section
variable {H : Type} {enc : TypeId × Value → H} {w : World} {base : Nat} {held : Bool}
theorem one_nat {spare : Nat → Bool} {k : IntKind} {n : Nat} {t : TypeId} {a : Value} {x : Option (DataW H × List MemPlace)} (hk : k.min = 0) (hu : Tryz.prog.underlying t = some (.int k)) (h : DataW.trod enc Tryz.prog w base spare held n t [a] = x) (hx : x.isSome = true) : ∃ z : Nat, a = .int k (z : Nat) ∧ (z : Int) ≤ k.max := by
 cases hx' : x with
 | none => rw [hx'] at hx; cases hx
 | some y =>
  rw [hx'] at h
  obtain ⟨z, hz, _, hw⟩ := DataW.trod_int hu h
  simp only [List.cons.injEq, and_true] at hz
  simp only [Lit.wf, Bool.and_eq_true, decide_eq_true_eq, hk] at hw
  refine ⟨z.toNat, ?_, ?_⟩
  ·rw [hz, Int.toNat_of_nonneg hw.1]
  ·rw [Int.toNat_of_nonneg hw.1]; exact hw.2
set_option maxRecDepth 100000 in
theorem deed_cells {spare : Nat → Bool} (n : Nat) (cs : List Value) (x : DataW H × List MemPlace) (h : DataW.trod enc Tryz.prog w base spare held n 86 cs = some x) : ∃ y : DeedS, cs = encD y := by
 obtain ⟨ys, m, _, _, hl, hyl, hfl⟩ := DataW.trod_struct Tryz.underlying86 h
 have hl : cs.length = 6 := hl.trans (by kernel_rfl)
 match cs, hl with
 | [a0, a1, a2, a3, a4, a5], _ =>
  have hy : ∀ i, i < 6 → (ys[i]?).isSome = true := fun i hi => by rw [List.getElem?_eq_getElem (by rw [hyl]; exact hi)]; rfl
  obtain ⟨z0, rfl⟩ := one_int Tryz.underlying3 (hfl 0 _ rfl) (hy 0 (by omega))
  obtain ⟨z1, rfl⟩ := one_int Tryz.underlying3 (hfl 1 _ rfl) (hy 1 (by omega))
  obtain ⟨z2, rfl, b2⟩ := one_nat rfl Tryz.underlying5 (hfl 2 _ rfl) (hy 2 (by omega))
  obtain ⟨z3, rfl, b3⟩ := one_nat rfl Tryz.underlying42 (hfl 3 _ rfl) (hy 3 (by omega))
  obtain ⟨z4, rfl, b4⟩ := one_nat rfl Tryz.underlying42 (hfl 4 _ rfl) (hy 4 (by omega))
  obtain ⟨z5, rfl, b5⟩ := one_nat rfl Tryz.underlying42 (hfl 5 _ rfl) (hy 5 (by omega))
  have c2 : (z2 : Int) ≤ 255 := b2
  have c3 : (z3 : Int) ≤ 18446744073709551615 := b3
  have c4 : (z4 : Int) ≤ 18446744073709551615 := b4
  have c5 : (z5 : Int) ≤ 18446744073709551615 := b5
  exact ⟨⟨z0, z1, z2, z3, z4, z5, by omega, by omega, by omega, by omega⟩, rfl⟩
theorem cells_one {P : Program} {w : World} {r : Reach} {b : Nat} {t e : TypeId} {v : Value} (hu : P.underlying t = some (.slice e)) (hv : Value.okWide P w r b t v) : v.cells = #[v] := by
 simp only [Value.okWide, hu] at hv
 unfold Cell.okWide at hv
 rw [hu] at hv
 cases v <;> first | rfl | (simp [Cell.ok, hu] at hv)
set_option maxRecDepth 100000 in
theorem open_deeds {r : Reach} {b : Nat} {v : Value} {d : DataW H} {ps : List MemPlace} (hv : Value.okWide Tryz.prog w r b 79 v) (h : DataW.Trod enc Tryz.prog w base (fun _ => true) held 79 v d ps) : ∃ (L : List DeedS) (A : Option Addr) (n cap : Nat), v = .slice A n cap ∧ L.length = n ∧ Rd (World.mm w) 6 (.slice A n cap) n (L.flatMap encD) := by
 obtain ⟨L, hL⟩ := open_rows (en := encD) (sz := 6) (fun _ => rfl) (by omega) Tryz.underlying79 (by kernel_rfl) (fun m cs x h => deed_cells m cs x h) (cells_one Tryz.underlying79 hv) h
 obtain ⟨_, A, cap, rfl, _⟩ := id hL
 exact ⟨L, A, L.length, cap, rfl, rfl, hL⟩
end
end
section
section
open Go.ChangeShapes Go.WideShapes Go.ChangeAt Go.RowKit Go.ChangeMaps
theorem cellsConf : Tryz.prog.cellsOf 24 = 14 := by kernel_rfl
theorem typesConf : Tryz.prog.cellTypes Tryz.prog.depth 24 = some (List.replicate 14 3) := by kernel_rfl

set_option maxRecDepth 100000 in
theorem mintCrowd_lifted (os : Os) (started : os.Started) (H : Type) (enc : TypeId × Value → H) :
  ReturnsInHanded {} Tryz.checked os 7 .any (Rows.mintCrowdSpec.pre6 enc Tryz.prog Tryz.f7 Rows.mintCrowdRow.domain false) (Rows.mintCrowdSpec.post enc Tryz.prog Tryz.f7 false true false false) := by
 refine returnsInHanded_of_change (C := Tryz.checked) own started (by kernel_rfl) Tryz.func7
  (ChangeSpec.witness6 (enc := enc) (C := Tryz.checked) false ⟨#[], #[.agg #[.int .i64 0, .int .i64 0, .int .i64 0, .int .i64 0, .int .i64 0, .int .i64 0, .int .i64 0, .int .i64 0, .int .i64 0, .int .i64 0, .int .i64 0, .int .i64 0, .int .i64 0, .int .i64 0], .slice none 0 0], []⟩ 8 (by kernel_rfl) (by kernel_rfl) (by kernel_rfl) (by kernel_rfl)) ?_
 intro W base args ds gs before hval0 hW _ _
 have hval : ∀ (j : Nat) t v, Tryz.f7.params[j]? = some t → args[j]? = some v → Value.okWide Tryz.prog W .any base t v := hval0
 have hW' := hW
 obtain ⟨p, q, hA0, hV, rfl, hfz, hnd⟩ := hW
 have hA : DataW.TrodAll enc Tryz.prog W 0 (fun _ => true) true Tryz.f7.params.toList args.toList ds p := hA0
 rw [Tryz.params7] at hA hval
 obtain ⟨v0, vs0, d0, ds0, p0, q0, hargs, rfl, rfl, h0, r0⟩ := trodAll_cons hA
 obtain ⟨v1, vs1, d1, ds1, p1, q1, rfl, rfl, rfl, h1, r1⟩ := trodAll_cons r0
 obtain ⟨rfl, rfl, rfl⟩ := trodAll_nil r1
 obtain rfl : args = #[v0, v1] := by cases args; simp_all
 obtain ⟨rfl, rfl⟩ := trodVars_none hV
 obtain ⟨c, rfl, _⟩ := open_ints_agg Tryz.underlying24 cellsConf typesConf Tryz.underlying3 (hval 0 _ v0 rfl rfl)
 obtain ⟨L, A, n, cap, rfl, hl, hr⟩ := open_deeds (hval 1 _ v1 rfl rfl) h1
 have key : Calls Tryz.prog 7 #[confV c, .slice A n cap] W fun r w' => r = .returned (.bool true) ∧ Has W (World.mm W) w' := by
  cases hm : confMayB c
  ·exact mCrowd_no (Has.new W) c A n cap hm
  ·have hc := confMay_of hm
   obtain ⟨lev, B, S, hn⟩ := Nums.of hc
   by_cases h60 : n ≤ 600
   ·obtain ⟨gens, hg⟩ : ∃ gens : Nat, c 12 = (gens : Nat) := ⟨(c 12).toNat, by have := hc; unfold ConfMay at this; omega⟩
    obtain ⟨T, hT⟩ : ∃ T : Nat, c 1 = (T : Nat) := ⟨(c 1).toNat, by have := hc; unfold ConfMay at this; omega⟩
    exact mCrowd_long (Has.new W) c hc hn hg hT hr hl h60
   ·exact mCrowd_many (Has.new W) c hc hn A n cap hm (by omega)
 refine key.mono fun r W' ⟨hr, hb⟩ => ⟨_, hr, ?_⟩
 exact law_post laidOut (by rw [Tryz.params7]; decide +kernel) rfl Tryz.underlying4 rfl rfl hW' (hb.toBelow fun _ _ h => h)

theorem mintCrowd_holds : Rows.MintCrowdSaid :=
 OpenClaim.holds_of_wide 7 Tryz.f7 rfl rfl rfl rfl rfl rfl rfl ⟨rfl, rfl, rfl, rfl, rfl⟩ rfl rfl rfl rfl rfl (by kernel_rfl) Tryz.func7 (by kernel_rfl)
  (of_decide_eq_true (by kernel_rfl)) (by unfold Func.isWrapper; first | (rw [if_pos (by decide +kernel)]; kernel_rfl) | (rw [if_neg (by decide +kernel)]; exact ⟨rfl, rfl⟩))
  (fun os started H enc _ => mintCrowd_lifted os started H enc)
#print axioms mintCrowd_holds
end
end
end Go.Proofs.YtjeeldacnllipaaGreat
