/- Walks of layer 21 (machine): watch. -/
import Derived.Test.YtlpkimpdeeiaaaaGreatMachN
namespace Go.Proofs.YtlpkimpdeeiaaaaGreat
open Go.RowKit
set_option linter.unusedVariables false
set_option linter.unusedSimpArgs false
set_option linter.unnecessarySimpa false
section
variable {σ w : World} {M M' : Mm} {lab lab' : Nat → Nat} {A : Nat → Prop} {t p : Nat} {s s' : MachS}
theorem Mm.upd_self {M : Mm} {b : Nat} {o : Obj} (h : M b = some o) : M.upd b o = M := by
  funext c
  unfold Mm.upd
  split
  · subst_vars; exact h.symm
  · rfl
theorem IsMem.le {q : Nat} {m : MemS} (h : IsMem M q m) (hle : M.le M') : IsMem M' q m := ⟨hle _ _ h.obj, hle _ _ h.row⟩
/-- Another state of the machine's own block. -/
theorem Mach.set (hM : Mach M lab p s) (e1 : s'.c = s.c) (e2 : s'.pl = s.pl) (e3 : s'.mp = s.mp) (e4 : s'.wp = s.wp) (e5 : s'.gv = s.gv) (e6 : s'.given = s.given) (e7 : s'.mem = s.mem) (e8 : s'.ward = s.ward) (e9 : s'.tv = s.tv) (e10 : s'.tp = s.tp) (e11 : s'.thr = s.thr) :
    Mach (M.upd p (.cells s'.row 73)) lab p s' := by
  have hK : Kp (fun j => j = 4) M lab (M.upd p (.cells s'.row 73)) lab := Kp.upd hM.mark _
  refine ⟨hM.toMach0.own (hK.mono fun _ h => .inl h) e1 e2 e3 e4 e5 e6 e7 e8 (Mm.upd_same _ _ _) hM.mark ?_ ?_, ?_⟩
  · rw [e9, e10]; exact hM.trow.keep hK (by omega)
  · rw [e10, e11]; intro t q hq; exact (hM.each t q hq).keep hK fun k hk => by unfold OfThr at hk; omega
  · rw [e10, e1]; exact hM.tlen
end
def MachS.inB (s : MachS) (a : Int) : Bool := decide (0 ≤ a ∧ a < s.c 0 * firsts s.c 10)
def MachS.lvOf (s : MachS) (a : Int) : Int := a / firsts s.c 10
def MachS.wrong (s : MachS) (lv : Int) (acc wr : Nat) : Bool := decide ((acc : Int) + 1 < (s.mem.acc : Int)) || (s.inB s.mem.last && (decide (lv < s.lvOf s.mem.last) || (decide (wr < s.mem.wr) && s.lvOf s.mem.last != lv)))
def MachS.watch (s : MachS) (lv : Int) (acc wr : Nat) : MachS := if s.mem.acc = acc then s else if s.wrong lv acc wr then { s with fault := true } else s
theorem zplc : (Tryz.prog.info? 103).bind (·.zero) = some (.agg #[.int .i64 0, .int .i64 0, .int .i64 0, .int .i64 0]) := by kernel_rfl
end Go.Proofs.YtlpkimpdeeiaaaaGreat
