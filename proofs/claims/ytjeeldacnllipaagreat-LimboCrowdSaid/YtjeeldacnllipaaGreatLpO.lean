import Derived.Test.YtjeeldacnllipaaGreatLpMachT
import Derived.Deep.Fields
namespace Go.Proofs.YtjeeldacnllipaaGreat
set_option maxHeartbeats 100000000
set_option maxRecDepth 20000
set_option linter.unusedVariables false
set_option linter.unusedSimpArgs false
set_option linter.unnecessarySimpa false
section
open Go.RowKit
section
variable {P : Program} {ops : Array Oper} {rest : List Oper} {op : Oper} {a : Act} {σ w : World} {M M0 : Mm} {Q : Exit → Act → World → Prop}
theorem tK {e : TypeId} {n g cap : Nat} {xs : List Value} (h : Has σ M w) (hle : M0.le M) (hown : Own M0 M e 1 (.slice (some ⟨g, 0, none⟩) n cap) n xs)
  (hgd : op.guard = none) (t : TypeId) (x y : Operand) (ho : op.op = .store t x y) (hdst : op.dst = none) {k : Nat} (hx : a.eval x = .pointer (some ⟨g, k, none⟩)) (hk : k < n) {u : Value} (hy : a.eval y = u) (h1 : u.oneCell' = true) (hi : (P.info? t).map (·.size) = some 1)
  (hK : ∀ w' M', Has σ M' w' → M0.le M' → Own M0 M' e 1 (.slice (some ⟨g, 0, none⟩) n cap) n (xs.set k u) → wpList P ops Q rest a w') : wpList P ops Q (op :: rest) a w := by
 obtain ⟨cur, hg, hlt, hown', hng⟩ := hown.put k u
 refine zV h (by simp [Region.wanted, hgd]) t x y ho hdst hx hg (by omega) (by rw [hy]; exact h1) hi ?_
 intro w' h'
 rw [hy] at h'
 exact hK w' _ h' (Mm.le_upd hle hng _) hown'
end
def learn (K M M' : Mm) : Mm := fun c => match M c with | none => M' c | some _ => K c
def stable (K : Mm) (labK : Nat → Nat) : Mm := fun c => if labK c = 0 then K c else none
def outK (K M : Mm) (labK : Nat → Nat) (j : Nat) : Mm := fun c => match K c with | none => M c | some _ => if labK c = j then none else M c
section
variable {K M M' K' : Mm} {lab lab' labK labK' : Nat → Nat} {p n sz j : Nat} {s : MachS} {e : TypeId} {v : Value} {xs : List Value}
theorem Mach.learn (hM : Mach M lab p s) (hB : Base K M lab) (hle : M.le M') : ∃ lab', Mach M' lab' p s ∧ Base (learn K M M') M' lab' :=
 hM.more hB hle fun c o hc => by
  unfold Go.Proofs.YtjeeldacnllipaaGreat.learn at hc
  cases hm : M c with
  | none => rw [hm] at hc; exact ⟨hc, .inr rfl⟩
  | some x => rw [hm] at hc; exact ⟨hle _ _ (hB c o hc).1, .inl hc⟩
theorem learn_kp (hB : K.le M) (M' : Mm) (labK : Nat → Nat) : Kp Non K labK (learn K M M') (sW K labK fun _ => 0) := fun c o hc _ => by
 unfold learn sW
 rw [hB c o hc, hc]
 exact ⟨rfl, rfl⟩
theorem tC (K : Mm) (labK : Nat → Nat) : (stable K labK).le K := fun c o h => by unfold stable at h; split at h; exact h; cases h
theorem xS {A : Nat → Prop} (h : Kp A K labK K' labK') (hA : ¬ A 0) : (stable K labK).le (stable K' labK') := fun c o hc => by
 unfold stable at hc ⊢
 split at hc
 ·rename_i h0
  obtain ⟨a, b⟩ := h.get hc h0 hA
  rw [if_pos b]; exact a
 cases hc
theorem vM (K M : Mm) (labK : Nat → Nat) (j : Nat) : (outK K M labK j).le M := fun c o h => by
 unfold outK at h
 split at h
 ·exact h
 split at h
 ·cases h
 exact h
theorem outK_of {c : Nat} {o : Obj} (hB : K.le M) (hc : K c = some o) (hl : labK c ≠ j) : outK K M labK j c = some o := by
 unfold outK
 rw [hc]
 simp only [if_neg hl]
 exact hB _ _ hc
theorem Row.up (h : Row K labK j e sz v n xs) (hB : K.le M) : Own (outK K M labK j) M e sz v n xs := by
 obtain ⟨hl, ⟨hv, h0⟩ | ⟨g, cap, cur, hv, hg, hh, r⟩⟩ := h
 ·exact ⟨hl, .inl ⟨hv, h0⟩⟩
 have hgk : labK g = j := by
  by_cases e : labK g = j
  ·exact e
  rw [Mm.out_of hh e] at hg; cases hg
 refine ⟨hl, .inr ⟨g, cap, cur, hv, ?_, hB _ _ hh, r⟩⟩
 unfold outK
 rw [hh]
 simp only [if_pos hgk]
theorem Mach.rowTo (hM : Mach M lab p s) (hB : Base K M lab) (hle : (outK K M labK j).le M') (ho : Own (outK K M labK j) M' e sz v n xs) : ∃ lab' K' labK', Mach M' lab' p s ∧ Base K' M' lab' ∧ Kp (fun k => k = j) K labK K' labK' ∧ Row K' labK' j e sz v n xs := by
 have hO : ∀ c o, K c = some o → labK c ≠ j → outK K M labK j c = some o := fun c o hc hl => outK_of hB.le hc hl
 have hMO : ∀ c o, M c = some o → lab c ≠ 0 → outK K M labK j c = some o := fun c o hc hl => by
  have hk : K c = none := by
   cases h : K c with
   | none => rfl
   | some x => exact absurd (hB c x h).2 hl
  unfold outK
  rw [hk]
  exact hc
 obtain ⟨hl, ⟨hv, h0⟩ | ⟨g, cap, cur, hv, hg, hh, r⟩⟩ := ho
 ·refine ⟨lab, K.out labK j, labK, hM.keep (A := fun k => k = 0) (fun c o hc hA => ⟨hle _ _ (hMO c o hc hA), rfl⟩) (fun k hk => by omega), fun c o hc => ?_, fun c o hc hA => ⟨Mm.out_of hc hA, rfl⟩, hl, .inl ⟨hv, h0⟩⟩
  have hl2 : labK c ≠ j := fun e => by rw [Mm.out_none e] at hc; cases hc
  have hc2 := Mm.out_le _ _ _ _ _ hc
  exact ⟨hle _ _ (hO c o hc2 hl2), (hB c o hc2).2⟩
 have hne : ∀ c o, outK K M labK j c = some o → c ≠ g := fun c o hc e => by subst e; rw [hc] at hg; cases hg
 refine ⟨fun c => if c = g then 0 else lab c, fun c => if c = g then M' g else K.out labK j c, fun c => if c = g then j else labK c, hM.keep (A := fun k => k = 0) (fun c o hc hA => ⟨hle _ _ (hMO c o hc hA), if_neg (hne c o (hMO c o hc hA))⟩) (fun k hk => by omega), fun c o hc => ?_, fun c o hc hA => ?_, hl, .inr ⟨g, cap, cur, hv, ?_, ?_, r⟩⟩
 ·by_cases h1 : c = g
  ·subst h1; simp only [if_true] at hc ⊢; exact ⟨hc, trivial⟩
  simp only [if_neg h1] at hc ⊢
  have hl2 : labK c ≠ j := fun e => by rw [Mm.out_none e] at hc; cases hc
  have hc2 := Mm.out_le _ _ _ _ _ hc
  exact ⟨hle _ _ (hO c o hc2 hl2), (hB c o hc2).2⟩
 ·have h1 := hne c o (hO c o hc hA)
  simp only [if_neg h1]
  exact ⟨Mm.out_of hc hA, trivial⟩
 ·exact Mm.out_none (by simp)
 simp only [if_true]; exact hh
end
end
section
open Go.RowKit
def natv (l : List Nat) : List Value := l.map fun n : Nat => Value.int .i64 n
theorem uG (l : List Nat) (x : Nat) : natv (l ++ [x]) = natv l ++ [.int .i64 (x : Nat)] := by simp [natv]
def put1 {α : Type} (f : Nat → α) (k : Nat) (v : α) : Nat → α := fun j => if j = k then v else f j
theorem zY {α : Type} (f : Nat → α) (k : Nat) (v : α) : put1 f k v k = v := if_pos rfl
theorem zW {α : Type} {f : Nat → α} {k j : Nat} {v : α} (h : j ≠ k) : put1 f k v j = f j := if_neg h
theorem yV {α : Type} (f : Nat → α) (k : Nat) : put1 f k (f k) = f := by funext j; unfold put1; by_cases hj : j = k <;> simp [hj]
theorem oJ {α : Type} (f : Nat → α) (k : Nat) (a b : α) : put1 (put1 f k a) k b = put1 f k b := by funext j; unfold put1; by_cases hj : j = k <;> simp [hj]
end
section
open Go.RowKit
def enc2 (x : Int × Int) : List Value := [.int .i64 x.1, .int .i64 x.2]
theorem jY {K M : Mm} {labK : Nat → Nat} {j : Nat} (h : ∀ c o, K c = some o → labK c ≠ j) : outK K M labK j = M := by
 funext c
 unfold outK
 cases e : K c with
 | none => rfl
 | some o => simp only [if_neg (h c o e)]
end
section
open Go.ChangeShapes Go.WideShapes Go.RowKit
theorem kK {w : World} {a : Addr} {v : Value} (h : w.cell? a = some v) : ∃ cs t fz, w.heap[a.block]? = some (.cells cs t fz) ∧ a.spot = none ∧ cs[a.off]? = some v := by
 unfold World.cell? at h
 split at h
 ·rename_i cs t fz hb
  split at h
  ·cases h
  rename_i hs
  exact ⟨cs, t, fz, hb, by simpa using hs, h⟩
 cases h
theorem rd_of_cells {W : World} {A : Addr} {n c sz : Nat} {xs : List Value} (hl : xs.length = n * sz) (hc : n ≤ c) (hsz : 0 < sz) (h : ∀ j u, xs[j]? = some u → W.cell? (A.add j) = some u) : Rd (World.mm W) sz (.slice (some A) n c) n xs := by
 refine ⟨hl, some A, c, rfl, hc, fun hn => ?_⟩
 have hpos : 0 < xs.length := by rw [hl]; exact Nat.mul_pos hn hsz
 have h0 := h 0 _ (List.getElem?_eq_getElem hpos)
 obtain ⟨cs, t, fz, hb, hs, _⟩ := kK (a := A) (by simpa [Addr.add] using h0)
 obtain ⟨b, o, sp⟩ := A
 simp only at hs hb
 subst hs
 refine ⟨b, o, cs, t, fz, rfl, hb, fun j u hj => ?_⟩
 have h1 := h j u hj
 rw [Addr.add_mid] at h1
 rwa [cell_of_row W b (o + j) cs t fz hb] at h1
end
section
open Go.ChangeShapes Go.WideShapes Go.RowKit
section
variable {H : Type} {enc : TypeId × Value → H} {P : Program} {w : World} {base : Nat} {held : Bool}
theorem open_rows {α : Type} {en : α → List Value} {sz : Nat} (hen : ∀ y, (en y).length = sz) (hpos : 0 < sz) {t e : TypeId} {v : Value} {d : DataW H} {ps : List MemPlace} (ht : P.underlying t = some (.slice e)) (hC : P.cellsOf e = sz)
  (hcell : ∀ (m : Nat) (cs : List Value) (x : DataW H × List MemPlace), DataW.trod enc P w base (fun _ => true) held m e cs = some x → ∃ y, cs = en y) (hv : v.cells = #[v])
  (h : DataW.Trod enc P w base (fun _ => true) held t v d ps) : ∃ L : List α, Rd (World.mm w) sz v L.length (L.flatMap en) := by
 obtain ⟨fuel, hf⟩ := h
 rcases Deep.open_slice ht hf with ⟨h1, _⟩ | ⟨a, len, cap, m, n, D, Pl, h1, _, hle, hm, hmm, _, hi⟩
 ·rw [hv] at h1
  have : v = .slice none 0 0 := by simpa using h1
  subst this
  exact ⟨[], Rd.nil _ _ _⟩
 rw [hv] at h1
 have : v = .slice (some a) len cap := by simpa using h1
 subst this
 have hm' : m = cap := by simpa using hmm
 subst hm'
 have key : ∀ i, i < len → ∃ y, ∀ j, j < sz → w.cell? (a.add (i * sz + j)) = (en y)[j]? := by
  intro i hil
  obtain ⟨cs', hcs, htr⟩ := hi i (by omega)
  rw [hC] at hcs
  obtain ⟨y, rfl⟩ := hcell n cs' _ htr
  obtain ⟨_, hcl, hat⟩ := World.cells?_some hcs
  refine ⟨y, fun j hj => ?_⟩
  rw [← Deep.add_add]
  exact hat j (by omega)
 cases len with
 | zero => exact ⟨[], by simpa using ⟨by simp, some a, m, rfl, Nat.zero_le _, fun h => absurd h (by omega)⟩⟩
 | succ len =>
  have L : List α := []
  obtain ⟨y0, _⟩ := key 0 (by omega)
  let f : Nat → α := fun i => if h : i < len + 1 then (key i h).choose else y0
  have hf2 : ∀ i, i < len + 1 → ∀ j, j < sz → w.cell? (a.add (i * sz + j)) = (en (f i))[j]? := fun i hi => by
   show ∀ j, j < sz → w.cell? (a.add (i * sz + j)) = (en (if h : i < len + 1 then (key i h).choose else y0))[j]?
   rw [dif_pos hi]
   exact (key i hi).choose_spec
  refine ⟨(List.range (len + 1)).map f, ?_⟩
  have hln : ((List.range (len + 1)).map f).length = len + 1 := by simp
  rw [hln]
  refine rd_of_cells (by rw [rD hen, hln]) hle hpos fun q u hq => ?_
  have hq' := (List.getElem?_eq_some_iff.1 hq).1
  rw [rD hen, hln] at hq'
  obtain ⟨i, j, rfl, hil, hjl⟩ : ∃ i j, q = i * sz + j ∧ i < len + 1 ∧ j < sz :=
   ⟨q / sz, q % sz, by rw [Nat.mul_comm]; exact (Nat.div_add_mod _ _).symm, Nat.div_lt_of_lt_mul (by rw [Nat.mul_comm]; exact hq'), Nat.mod_lt _ hpos⟩
  rw [flat_get hen _ i (f i) (by simp [hil]) j hjl] at hq
  rw [hf2 i hil j hjl, hq]
end
section
variable {H : Type} {enc : TypeId × Value → H} {w : World} {base : Nat} {held : Bool}
theorem one_int {spare : Nat → Bool} {k : IntKind} {n : Nat} {t : TypeId} {a : Value} {x : Option (DataW H × List MemPlace)} (hu : Tryz.prog.underlying t = some (.int k)) (h : DataW.trod enc Tryz.prog w base spare held n t [a] = x) (hx : x.isSome = true) : ∃ z, a = .int k z := by
 cases hx' : x with
 | none => rw [hx'] at hx; cases hx
 | some y =>
  rw [hx'] at h
  obtain ⟨z, hz, _⟩ := DataW.trod_int hu h
  simp only [List.cons.injEq, and_true] at hz
  exact ⟨z, hz⟩
end
end
section
open Go.ChangeShapes Go.WideShapes Go.ChangeAt Go.RowKit Go.ChangeMaps
section
variable {H : Type} {enc : TypeId × Value → H} {w : World} {base : Nat} {held : Bool}
theorem jL : Tryz.prog.cellsOf 36 = 2 := by kernel_rfl
theorem cellsInt : Tryz.prog.cellsOf 3 = 1 := by kernel_rfl
set_option maxRecDepth 100000 in
theorem pair_cells {spare : Nat → Bool} (n : Nat) (cs : List Value) (x : DataW H × List MemPlace) (h : DataW.trod enc Tryz.prog w base spare held n 36 cs = some x) : ∃ y : Int × Int, cs = enc2 y := by
 obtain ⟨ys, m, _, _, hl, hyl, hfl⟩ := DataW.trod_array Tryz.underlying36 h
 have hl : cs.length = 2 := hl.trans jL
 rw [cellsInt] at hfl
 match cs, hl with
 | [a0, a1], _ =>
  have hy : ∀ i, i < 2 → (ys[i]?).isSome = true := fun i hi => by rw [List.getElem?_eq_getElem (by rw [hyl]; exact hi)]; rfl
  obtain ⟨z0, rfl⟩ := one_int Tryz.underlying3 (hfl 0 (by omega)) (hy 0 (by omega))
  obtain ⟨z1, rfl⟩ := one_int Tryz.underlying3 (hfl 1 (by omega)) (hy 1 (by omega))
  exact ⟨⟨z0, z1⟩, rfl⟩
theorem cells_one {P : Program} {w : World} {r : Reach} {b : Nat} {t e : TypeId} {v : Value} (hu : P.underlying t = some (.slice e)) (hv : Value.okWide P w r b t v) : v.cells = #[v] := by
 simp only [Value.okWide, hu] at hv
 unfold Cell.okWide at hv
 rw [hu] at hv
 cases v <;> first | rfl | (simp [Cell.ok, hu] at hv)
set_option maxRecDepth 100000 in
theorem open_pairs {r : Reach} {b : Nat} {v : Value} {d : DataW H} {ps : List MemPlace} (hv : Value.okWide Tryz.prog w r b 25 v) (h : DataW.Trod enc Tryz.prog w base (fun _ => true) held 25 v d ps) : ∃ (L : List (Int × Int)) (A : Option Addr) (n cap : Nat), v = .slice A n cap ∧ L.length = n ∧ Rd (World.mm w) 2 (.slice A n cap) n (L.flatMap enc2) := by
 obtain ⟨L, hL⟩ := open_rows (en := enc2) (sz := 2) (fun _ => rfl) (by omega) Tryz.underlying25 jL (fun m cs x h => pair_cells m cs x h) (cells_one Tryz.underlying25 hv) h
 obtain ⟨_, A, cap, rfl, _⟩ := id hL
 exact ⟨L, A, L.length, cap, rfl, rfl, hL⟩
end
end
end Go.Proofs.YtjeeldacnllipaaGreat
