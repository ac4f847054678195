/- Walks of layer 6 (cells): the words that threads share. -/
import Derived.Test.YtlpkimpdeeiaaaaGreatWords
import Derived.Lib.SlBuf
import Derived.Laws.CopyRow
namespace Go.Proofs.YtlpkimpdeeiaaaaGreat
open Go.RowKit
set_option linter.unusedVariables false
set_option linter.unusedSimpArgs false
set_option linter.unnecessarySimpa false
section
variable {P : Program} {σ w : World} {M : Mm} {ops : Array Oper} {rest : List Oper} {op : Oper} {a : Act} {Q : Exit → Act → World → Prop}
/-- All of a row is copied onto another one. -/
theorem wpList_copy_whole (h : Has σ M w) (hg : op.guard = none) (d s : Operand) (t t' : TypeId) (ho : op.op = .call { callee := .builtin .copy, args := #[d, s], argTypes := #[t, t'] })
    {g b n c c' : Nat} {cur arr : Array Value} {T e el : TypeId} {fz : Nat × Nat} (hd : a.eval d = .slice (some ⟨g, 0, none⟩) n c) (hs : a.eval s = .slice (some ⟨b, 0, none⟩) n c')
    (hu : P.underlying t = some (.slice el)) (hi : (P.info? el).map (·.size) = some 1)
    (hG : M g = some (.cells cur T (0, 0))) (hB : M b = some (.cells arr e fz)) (hc : cur.size = n) (ha : arr.size = n) (h1 : ∀ v ∈ arr.toList, v.oneCell' = true)
    (hk : ∀ w', Has σ (M.upd g (.cells arr T)) w' → wpList P ops Q rest (a.put op.dst (goInt n)) w') : wpList P ops Q (op :: rest) a w := by
  have hrun := run_copy_row (P := P) w t t' op.type el g 0 n c ⟨b, 0, none⟩ n c' cur T arr.toList hu hi (h.at_ g _ hG) (by simp [ha]) (fun j v hj => by
    have := h.cell hB j
    rw [show (⟨b, 0, none⟩ : Addr).add j = ⟨b, j, none⟩ from by unfold Addr.add; split <;> simp_all, this]
    simpa using hj) (by simp [ha, hc]) h1
  have hcs : (cur.toList.take 0 ++ arr.toList ++ cur.toList.drop (0 + arr.toList.length)).toArray = arr := by
    rw [List.drop_eq_nil_of_le (by simp [ha, hc])]
    simp
  rw [hcs] at hrun
  have hl : arr.toList.length = n := by simp [ha]
  rw [hl] at hrun
  refine Lib.wpList_copy_run w hg d s t t' ho _ _ hd hs hrun (hk _ (h.put ?_ (setRow_heap w g cur arr T (0, 0) (h.at_ g _ hG))))
  refine ⟨rfl, rfl, rfl, by simp [World.setRow], fun k hk => ?_⟩
  simp only [World.setRow, Array.getElem?_modify]
  rw [if_neg (fun e => hk e.symm)]
end
/-- What a memory holds. -/
structure MemS where
  wb : Nat
  N : Nat
  f : Nat → Int
  acc : Nat
  wr : Nat
  last : Int
  named : Bool
  flt : Bool
def MemS.cells (s : MemS) : Array Value := #[.slice (some ⟨s.wb, 0, none⟩) s.N s.N, .int .i64 (s.acc : Nat), .int .i64 (s.wr : Nat), .int .i64 s.last, .bool s.named, .bool s.flt]
def MemS.row (s : MemS) : Obj := .cells (ints .u64 s.N s.f) 46
/-- The memory is in block p. -/
structure IsMem (M : Mm) (p : Nat) (s : MemS) : Prop where
  obj : M p = some (.cells s.cells 97)
  row : M s.wb = some s.row
/-- An access. -/
def MemS.hit (s : MemS) (a : Int) : Bool := decide (0 ≤ a) && decide (a < s.N)
def MemS.at_ (s : MemS) (a : Int) : MemS := if s.hit a then { s with acc := s.acc + 1, last := a, named := true } else { s with acc := s.acc + 1, flt := true }
theorem MemS.at_wb (s : MemS) (a : Int) : (s.at_ a).wb = s.wb := by unfold MemS.at_; split <;> rfl
theorem MemS.at_row (s : MemS) (a : Int) : (s.at_ a).row = s.row := by unfold MemS.at_; split <;> rfl
theorem IsMem.ne {M : Mm} {p : Nat} {s : MemS} (h : IsMem M p s) : p ≠ s.wb := fun e => by
  have h1 := h.obj
  rw [e, h.row] at h1
  unfold MemS.row at h1
  simp only [Option.some.injEq, Obj.cells.injEq] at h1
  have h2 := h1.2.1
  revert h2
  decide
theorem IsMem.set {M : Mm} {p : Nat} {s s' : MemS} (h : IsMem M p s) (hw : s'.wb = s.wb) (hr : s'.row = s.row) : IsMem (M.upd p (.cells s'.cells 97)) p s' :=
  ⟨Mm.upd_same _ _ _, by rw [hw, hr, Mm.upd_ne h.ne.symm]; exact h.row⟩
end Go.Proofs.YtlpkimpdeeiaaaaGreat
