/- Arguments that are slices, opened: as lists of cells of the world at first. -/
import Derived.Test.YtlpkimpdeeiaaaaGreatWalk
import Derived.ChangeSlices
import Derived.Deep.Slices
import Derived.Deep.Fields
import Derived.ChangeSame
import Derived.ChangeArms
namespace Go.Proofs.YtlpkimpdeeiaaaaGreat
open Go.ChangeShapes Go.WideShapes Go.RowKit
set_option linter.unusedVariables false
set_option linter.unusedSimpArgs false
set_option linter.unnecessarySimpa false

theorem block_of_cell {w : World} {a : Addr} {v : Value} (h : w.cell? a = some v) : ∃ cs t fz, w.heap[a.block]? = some (.cells cs t fz) ∧ a.spot = none ∧ cs[a.off]? = some v := by
  unfold World.cell? at h
  split at h
  · rename_i cs t fz hb
    split at h
    · cases h
    · rename_i hs
      exact ⟨cs, t, fz, hb, by simpa using hs, h⟩
  · cases h

theorem rd_of_cells {W : World} {A : Addr} {n c sz : Nat} {xs : List Value} (hl : xs.length = n * sz) (hc : n ≤ c) (hsz : 0 < sz) (h : ∀ j u, xs[j]? = some u → W.cell? (A.add j) = some u) : Rd (World.mm W) sz (.slice (some A) n c) n xs := by
  refine ⟨hl, some A, c, rfl, hc, fun hn => ?_⟩
  have hpos : 0 < xs.length := by rw [hl]; exact Nat.mul_pos hn hsz
  have h0 := h 0 _ (List.getElem?_eq_getElem hpos)
  obtain ⟨cs, t, fz, hb, hs, _⟩ := block_of_cell (a := A) (by simpa [Addr.add] using h0)
  obtain ⟨b, o, sp⟩ := A
  simp only at hs hb
  subst hs
  refine ⟨b, o, cs, t, fz, rfl, hb, fun j u hj => ?_⟩
  have h1 := h j u hj
  rw [Addr.add_mid] at h1
  rwa [cell_of_row W b (o + j) cs t fz hb] at h1

section
variable {H : Type} {enc : TypeId × Value → H} {P : Program} {w : World} {base : Nat} {spare : Nat → Bool} {held : Bool}
/-- A slice of integers. -/
theorem open_rd_ints {t e : TypeId} {k : IntKind} {v : Value} {d : DataW H} {p : List MemPlace} (ht : P.underlying t = some (.slice e)) (he : P.underlying e = some (.int k)) (hc : P.cellsOf e = 1) (hv : v.cells = #[v])
    (h : DataW.Trod enc P w base (fun _ => true) held t v d p) : ∃ (xs : List Int) (n : Nat), xs.length = n ∧ n ≤ maxLen ∧ Rd (World.mm w) 1 v n (xs.map (Value.int k)) := by
  obtain ⟨fuel, hf⟩ := h
  rcases open_ints ht he hc hf with ⟨h1, _⟩ | ⟨a, len, cap, zs, h1, _, hle, hm, hz, _, hcell, _⟩
  · rw [hv] at h1
    have : v = .slice none 0 0 := by simpa using h1
    subst this
    exact ⟨[], 0, rfl, by decide, Rd.nil _ _ _⟩
  · rw [hv] at h1
    have : v = .slice (some a) len cap := by simpa using h1
    subst this
    have hz : zs.length = cap := by simpa using hz
    refine ⟨zs.take len, len, by simp; omega, by omega, rd_of_cells (by simp; omega) hle (by omega) fun j u hj => ?_⟩
    rw [List.getElem?_map] at hj
    obtain ⟨x, hx, rfl⟩ := Option.map_eq_some_iff.1 hj
    rw [List.getElem?_take] at hx
    split at hx
    · rename_i hlt
      rw [hcell j (by omega)]
      simp [List.getD, hx]
    · cases hx

/-- A slice of structs whose fields are integers: kinds ks. -/
theorem open_rd_structs {t e : TypeId} {fs : Array Field} {ks : List IntKind} {v : Value} {d : DataW H} {p : List MemPlace} (ht : P.underlying t = some (.slice e)) (he : P.underlying e = some (.struct fs)) (hC : P.cellsOf e = ks.length) (hfs : fs.size = ks.length) (hpos : 0 < ks.length)
    (hks : ∀ (j : Nat) (f : Field) (k : IntKind), fs[j]? = some f → ks[j]? = some k → f.offset = j ∧ P.cellsOf f.type = 1 ∧ P.underlying f.type = some (.int k)) (hv : v.cells = #[v])
    (h : DataW.Trod enc P w base (fun _ => true) held t v d p) : ∃ (c : Nat → Nat → Int) (n : Nat), n ≤ maxLen ∧ Rd (World.mm w) ks.length v n ((List.range n).flatMap fun i => (List.range ks.length).map fun j => Value.int (ks.getD j .i64) (c i j)) := by
  obtain ⟨fuel, hf⟩ := h
  rcases Deep.open_slice ht hf with ⟨h1, _⟩ | ⟨a, len, cap, m, n, D, Pl, h1, _, hle, hm, hmm, _, hi⟩
  · rw [hv] at h1
    have : v = .slice none 0 0 := by simpa using h1
    subst this
    exact ⟨fun _ _ => 0, 0, by decide, Rd.nil _ _ _⟩
  · rw [hv] at h1
    have : v = .slice (some a) len cap := by simpa using h1
    subst this
    have hm' : m = cap := by simpa using hmm
    subst hm'
    have key : ∀ i j, i < len → j < ks.length → ∃ z, w.cell? (a.add (i * ks.length + j)) = some (.int (ks.getD j .i64) z) := by
      intro i j hil hj
      obtain ⟨cs', hcs, htr⟩ := hi i (by omega)
      rw [hC] at hcs
      obtain ⟨ys, n', hn', hy, hlen, hyl, hfl⟩ := DataW.trod_struct he htr
      obtain ⟨_, hcl, hat⟩ := World.cells?_some hcs
      have hfj : fs[j]? = some (fs[j]'(by omega)) := Array.getElem?_eq_getElem (by omega)
      obtain ⟨q1, q2, q3⟩ := hks j _ _ hfj (List.getElem?_eq_getElem hj)
      have h1 := hfl j _ hfj
      have hcj : j < cs'.length := by omega
      rw [q1, q2] at h1
      have hone : (cs'.drop j).take 1 = [cs'[j]] := by
        rw [List.drop_eq_getElem_cons hcj]
        rfl
      rw [hone] at h1
      have hys : ys[j]? = some (ys[j]'(by omega)) := List.getElem?_eq_getElem (by omega)
      obtain ⟨z, hz, _⟩ := DataW.trod_int q3 (h1.trans hys)
      refine ⟨z, ?_⟩
      have hcell := hat j (by omega)
      rw [← Deep.add_add, hcell, List.getElem?_eq_getElem hcj]
      simp only [List.cons.injEq, and_true] at hz
      rw [hz]
      simp [List.getD, hj]
    refine ⟨fun i j => if h : i < len ∧ j < ks.length then (key i j h.1 h.2).choose else 0, len, by omega, rd_of_cells ?_ hle hpos fun q u hq => ?_⟩
    · rw [flat_length (sz := ks.length) (by simp)]
      simp
    · have hq' := (List.getElem?_eq_some_iff.1 hq).1
      rw [flat_length (sz := ks.length) (by simp), List.length_range] at hq'
      obtain ⟨i, j, rfl, hil, hjl⟩ : ∃ i j, q = i * ks.length + j ∧ i < len ∧ j < ks.length :=
        ⟨q / ks.length, q % ks.length, by rw [Nat.mul_comm]; exact (Nat.div_add_mod _ _).symm, Nat.div_lt_of_lt_mul (by rw [Nat.mul_comm]; exact hq'), Nat.mod_lt _ hpos⟩
      rw [flat_get (sz := ks.length) (by simp) _ _ i (by simp [hil]) _ hjl] at hq
      rw [List.getElem?_map, List.getElem?_range hjl] at hq
      simp only [Option.map_some, Option.some.injEq] at hq
      rw [← hq, dif_pos ⟨hil, hjl⟩]
      exact (key i j hil hjl).choose_spec
end
end Go.Proofs.YtlpkimpdeeiaaaaGreat
