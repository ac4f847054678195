/- Walks of layers 20, 21: steps that are none; a thread that isn't there. -/
import Derived.Test.YtlpkimpdeeiaaaaGreatMachD
import Derived.Test.YtlpkimpdeeiaaaaGreatThrC
namespace Go.Proofs.YtlpkimpdeeiaaaaGreat
open Go.RowKit
set_option linter.unusedVariables false
set_option linter.unusedSimpArgs false
set_option linter.unnecessarySimpa false
section
variable {σ w : World} {K M M' : Mm} {lab lab' : Nat → Nat} {p : Nat} {s : MachS}
/-- A thread is stalled, or isn't any more. -/
theorem Mach.stall (hM : Mach M lab p s) (hB : Base K M lab) {t q : Nat} (hq : s.tp[t]? = some q) (b : Bool) : ∃ row : Array Value, M q = some (.cells row 112) ∧ 9 < row.size ∧ Mach (M.upd q (.cells (row.setIfInBounds 9 (.bool b)) 112)) lab p { s with thr := fun j => if j = t then { s.thr t with st := b } else s.thr j } ∧ Base K (M.upd q (.cells (row.setIfInBounds 9 (.bool b)) 112)) lab := by
  obtain ⟨fv, hv, fbs, hT⟩ := hM.each t q hq
  have k1 : Kp (fun j => j = 10 + 4 * t) M lab (M.upd q (.cells ((ThrS.row { s.thr t with st := b } fv hv)) 112)) lab := Kp.upd hT.mark _
  have hK : Kp (OfThr t) M lab (M.upd q (.cells ((ThrS.row { s.thr t with st := b } fv hv)) 112)) lab := k1.mono fun k e => by subst e; exact ⟨by omega, by omega⟩
  have hT2 : IsThr (M.upd q (.cells ((ThrS.row { s.thr t with st := b } fv hv)) 112)) lab t q { s.thr t with st := b } :=
    ⟨fv, hv, fbs, Mm.upd_same _ _ _, hT.mark, hT.frow.keep k1 (by omega), hT.flen, hT.nodup, fun i b' f hb hf => k1.get (hT.frame i b' f hb hf).1 (hT.frame i b' f hb hf).2 (by omega), hT.hrow.keep k1 (by omega)⟩
  obtain ⟨a1, a2⟩ := hM.thrTo hB hq hK hT2
  exact ⟨(s.thr t).row fv hv, hT.obj, show 9 < 13 by omega, a1, a2⟩
end
end Go.Proofs.YtlpkimpdeeiaaaaGreat
