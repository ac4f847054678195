/- Walks of layer 21 (machine): Step. -/
import Derived.Test.YtlpkimpdeeiaaaaGreatMachW
namespace Go.Proofs.YtlpkimpdeeiaaaaGreat
open Go.RowKit
set_option linter.unusedVariables false
set_option linter.unusedSimpArgs false
set_option linter.unnecessarySimpa false
def entB (P : Program) (f : FuncId) : Bool := match P.funcs[f]? with
  | some fn => !(fn.name == "runtime.NumGoroutine") && !fn.body.isNone
  | none => false
theorem run_callFunc {P : Program} {f : FuncId} (h : entB P f = true) (args : Array Value) (w : World) : (callFunc f args).run P w = .ok (.enter f args) w := by
  unfold entB at h
  unfold callFunc
  cases hf : P.funcs[f]? with
  | none => simp [hf] at h
  | some fn =>
    simp only [hf, Bool.and_eq_true, Bool.not_eq_true'] at h
    rw [Sem.run_bind, run_program]
    simp only [Result.andThen_ok, hf, h.1, h.2, if_false, Bool.false_eq_true, Sem.run_pure]
/-- Clocks of levels from lv on, below l, go on. -/
def MachS.tickTo (s : MachS) (lv l : Nat) : MachS := { s with clk := fun k => if lv ≤ k ∧ k < l then s.clk k + 1 else s.clk k }
def MachS.tick (s : MachS) (lv : Nat) : MachS := s.tickTo lv 4
theorem tickTo_self (s : MachS) (lv : Nat) : s.tickTo lv lv = s := by
  unfold MachS.tickTo
  have : (fun k => if lv ≤ k ∧ k < lv then s.clk k + 1 else s.clk k) = s.clk := by funext k; rw [if_neg (by omega)]
  rw [this]
theorem tickTo_row (s : MachS) (lv l : Nat) (hl : lv ≤ l) (h4 : l < 4) : (s.tickTo lv l).row.setIfInBounds (4 + l) (.int .i64 ((s.clk l : Int) + 1)) = (s.tickTo lv (l + 1)).row := by
  have e : ∀ k, (s.tickTo lv (l + 1)).clk k = if k = l then s.clk l + 1 else (s.tickTo lv l).clk k := fun k => by
    unfold MachS.tickTo
    simp only
    by_cases hk : k = l
    · subst hk; rw [if_pos (by omega), if_pos rfl]
    · rw [if_neg hk]
      by_cases h1 : lv ≤ k ∧ k < l
      · rw [if_pos h1, if_pos (by omega)]
      · rw [if_neg h1, if_neg (by omega)]
  have hr : (s.tickTo lv (l + 1)).row = MachS.row { s.tickTo lv l with clk := fun k => if k = l then s.clk l + 1 else (s.tickTo lv l).clk k } := by
    have : (s.tickTo lv (l + 1)).clk = fun k => if k = l then s.clk l + 1 else (s.tickTo lv l).clk k := funext e
    unfold MachS.row
    simp only [this]
    rfl
  rw [hr]
  generalize s.tickTo lv l = s1
  obtain rfl | rfl | rfl | rfl : l = 0 ∨ l = 1 ∨ l = 2 ∨ l = 3 := by omega
  all_goals rfl
theorem tickTo_get (s : MachS) (lv l : Nat) (h4 : l < 4) : (s.tickTo lv l).row[4 + l]? = some (.int .i64 (s.clk l : Nat)) := by
  have : (s.tickTo lv l).clk l = s.clk l := by unfold MachS.tickTo; simp only; rw [if_neg (by omega)]
  rw [← this]
  obtain rfl | rfl | rfl | rfl : l = 0 ∨ l = 1 ∨ l = 2 ∨ l = 3 := by omega
  all_goals rfl
theorem Mach.watched {M : Mm} {lab : Nat → Nat} {p : Nat} {s : MachS} (hM : Mach M lab p s) (lv : Int) (acc wr : Nat) : Mach (M.upd p (.cells (s.watch lv acc wr).row 73)) lab p (s.watch lv acc wr) := by
  have e : s.watch lv acc wr = s ∨ s.watch lv acc wr = { s with fault := true } := by
    unfold MachS.watch
    split
    · exact .inl rfl
    · split
      · exact .inr rfl
      · exact .inl rfl
  rcases e with e | e
  · rw [e, Mm.upd_self hM.obj]; exact hM
  · rw [e]; exact hM.set rfl rfl rfl rfl rfl rfl rfl rfl rfl rfl rfl
theorem watch_thr (s : MachS) (lv : Int) (acc wr : Nat) : (s.watch lv acc wr).thr = s.thr ∧ (s.watch lv acc wr).tp = s.tp := by
  unfold MachS.watch
  split
  · exact ⟨rfl, rfl⟩
  · split <;> exact ⟨rfl, rfl⟩
end Go.Proofs.YtlpkimpdeeiaaaaGreat
