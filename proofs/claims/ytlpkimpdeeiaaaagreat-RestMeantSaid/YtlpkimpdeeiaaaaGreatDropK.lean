/- Walks of layer 21 (machine): Drop of a slot that is held: what is kept. -/
import Derived.Test.YtlpkimpdeeiaaaaGreatMachD
namespace Go.Proofs.YtlpkimpdeeiaaaaGreat
open Go.RowKit
set_option linter.unusedVariables false
set_option linter.unusedSimpArgs false
set_option linter.unnecessarySimpa false
def Dropped3 : Nat → Prop := fun k => k = 3 ∨ (k = 4 ∨ k = 6)
section
variable {σ w : World} {K M M' : Mm} {lab lab' : Nat → Nat} {p : Nat} {s : MachS}
theorem gone_kp (hM : Mach M lab p s) (l t : Int) : Kp Dropped3 M lab ((M.upd s.ward.hb (mapRow (s.ward.gone l t).held (s.ward.gone l t).hclk)).upd s.ward.gb (mapRow (s.ward.gone l t).gens (s.ward.gone l t).gclk)) lab := by
  have k1 : Kp (fun j => j = 3) M lab (M.upd s.ward.hb (mapRow (s.ward.gone l t).held (s.ward.gone l t).hclk)) lab := Kp.upd hM.wlab.2.1 _
  exact (k1.trans (Kp.upd hM.wlab.2.2 _)).mono fun _ h => .inl h
theorem Mach.gaveK (hM : Mach M lab p s) (hB : Base K M lab) {g : GivenS} {v : Value} {M3 : Mm} (hle : (M.out lab 6).le M3) (ho : Own (M.out lab 6) M3 199 6 v (s.given.length + 1) ((s.given ++ [g]).flatMap encG)) {s' : MachS} (hs : s' = { s with gv := v, given := s.given ++ [g] }) :
    ∃ lab', Base K (M3.upd p (.cells s'.row 73)) lab' ∧ Mach (M3.upd p (.cells s'.row 73)) lab' p s' ∧ Kp (fun k => k = 4 ∨ k = 6) M lab (M3.upd p (.cells s'.row 73)) lab' := by
  subst hs
  obtain ⟨lab', hK, hR⟩ := Row.grow hle ho
  obtain ⟨p1, p2⟩ := hK.get hM.obj hM.mark (by omega)
  have k3 : Kp (fun j => j = 4) M3 lab' (M3.upd p (.cells (MachS.row { s with gv := v, given := s.given ++ [g] }) 73)) lab' := Kp.upd p2 _
  have k4 : Kp (fun k => k = 4 ∨ k = 6) M lab (M3.upd p (.cells (MachS.row { s with gv := v, given := s.given ++ [g] }) 73)) lab' := (hK.mono fun _ h => .inr h).trans (k3.mono fun _ h => .inl h)
  obtain ⟨⟨o1, o2, h1, h2, h3, h4, h5, h6, h7, h8, h9, h10, h11, h12⟩, h13⟩ := hM
  obtain ⟨m1, m2⟩ := h4.keep h5 k4 (by omega)
  obtain ⟨w1, w2⟩ := h7.keep h8 k4 (by omega)
  obtain ⟨q1, q2⟩ := k4.get h2 h3 (by omega)
  refine ⟨lab', hB.keep k4 (by omega), ⟨⟨Mm.upd_same _ _ _, p2, h1, q1, q2, m1, m2, h6, w1, w2, h9, h10.keep k4 (by omega), fun t p' hp => (h11 t p' hp).keep k4 fun k hk => by have := hk.1; omega, ?_⟩, h13⟩, k4⟩
  have := hR.keep k3 (by omega)
  rw [List.length_append]
  exact this
/-- Behind Drop of what is held. -/
def MachS.gaveS (s : MachS) (lv t : Int) (gv : Value) : MachS := { s with ward := s.ward.gone lv t, gv := gv, given := s.given ++ [⟨lv, s.ward.link lv t, s.clk⟩] }
end
end Go.Proofs.YtlpkimpdeeiaaaaGreat
