/- Walks of layer 21 (machine): Warden, Drop, Given. -/
import Derived.Test.YtlpkimpdeeiaaaaGreatMachT
import Derived.Test.YtlpkimpdeeiaaaaGreatWardD
namespace Go.Proofs.YtlpkimpdeeiaaaaGreat
open Go.RowKit
set_option linter.unusedVariables false
set_option linter.unusedSimpArgs false
set_option linter.unnecessarySimpa false
theorem info_gv : (Tryz.prog.info? 199).map (fun i => (i.zero, i.size, i.bytes)) = some (some (.agg #[.int .i64 0, .int .u64 0, .int .i64 0, .int .i64 0, .int .i64 0, .int .i64 0]), 6, 48) := by kernel_rfl
theorem encG_len (g : GivenS) : (encG g).length = 6 := rfl
theorem encG_one (g : GivenS) : ∀ u ∈ encG g, u.oneCell' = true := by
  intro u hu
  simp only [encG, List.mem_cons, List.not_mem_nil, or_false] at hu
  rcases hu with rfl | rfl | rfl | rfl | rfl | rfl <;> rfl
section
variable {P : Program} {op : Oper} {a : Act} {ops : Array Oper} {σ w : World} {M : Mm} {Q : Exit → Act → World → Prop} {K : Act → World → Prop} {E : Prop}
theorem step_yields (hw : Region.wanted op (yielded ops a.tmps) = true) {S : World → Prop} {v : Value} (hy : YieldsIf P ops S op v a) (h : S w) (hk : K (a.put op.dst v) w) : if Region.wanted op (yielded ops a.tmps) = true then Oper.wp P op a w K Q else E := by
  rw [if_pos hw]
  rcases hy with ⟨_, hv⟩ | ⟨hw', _⟩
  · simp only [Oper.wp, hv w h, Oper.upon]
    exact hk
  · rw [hw] at hw'; cases hw'
end
section
variable {σ w : World} {K M M' : Mm} {lab lab' : Nat → Nat} {p : Nat} {s : MachS}
theorem mWarden_eq (h : Has σ M w) (hM : Mach M lab p s) : Calls Tryz.prog 60 #[.pointer (some ⟨p, 0, none⟩)] w fun r w' => r = .returned (.pointer (some ⟨s.wp, 0, none⟩)) ∧ Has σ M w' := by
  have c2 : w.cell? ⟨p, 2, none⟩ = some (.pointer (some ⟨s.wp, 0, none⟩)) := h.cell hM.obj 2
  go_enter Tryz.func60, Tryz.ntmps60
  go_wp2
  go_ret
  exact ⟨rfl, h⟩
/-- Another state of the warden. -/
theorem Mach.wardTo (hM : Mach M lab p s) (hB : Base K M lab) (hK : Kp (fun j => j = 3) M lab M' lab) {wd : WardS} (hw : IsWard M' s.wp wd) (e1 : wd.hb = s.ward.hb) (e2 : wd.gb = s.ward.gb) (e3 : wd.lv = s.ward.lv) (e4 : wd.sl = s.ward.sl) : Mach M' lab p { s with ward := wd } ∧ Base K M' lab := by
  obtain ⟨⟨o1, o2, h1, h2, h3, h4, h5, h6, h7, h8, h9, h10, h11, h12⟩, h13⟩ := hM
  obtain ⟨a1, a2⟩ := hK.get o1 o2 (by omega)
  obtain ⟨m1, m2⟩ := h4.keep h5 hK (by omega)
  obtain ⟨p1, p2⟩ := hK.get h2 h3 (by omega)
  refine ⟨⟨⟨a1, a2, h1, p1, p2, m1, m2, h6, hw, ⟨h8.1, ?_, ?_⟩, ⟨?_, ?_⟩, h10.keep hK (by omega), fun t p' hp => (h11 t p' hp).keep hK fun k hk => by have := hk.1; omega, h12.keep hK (by omega)⟩, h13⟩, hB.keep hK (by omega)⟩
  · show lab wd.hb = 3; rw [e1]; exact h8.2.1
  · show lab wd.gb = 3; rw [e2]; exact h8.2.2
  · show wd.lv = _; rw [e3]; exact h9.1
  · show wd.sl = _; rw [e4]; exact h9.2
theorem Mach.slip (hM : Mach M lab p s) (hB : Base K M lab) : Mach (M.upd s.wp (.cells s.ward.slip.cells 108)) lab p { s with ward := s.ward.slip } ∧ Base K (M.upd s.wp (.cells s.ward.slip.cells 108)) lab := by
  have hW := hM.ward
  exact hM.wardTo hB (Kp.upd hM.wlab.1 _) ⟨Mm.upd_same _ _ _, (Mm.upd_ne hW.neh.symm).trans hW.held, (Mm.upd_ne hW.neg.symm).trans hW.gens, hW.ne⟩ rfl rfl rfl rfl
theorem Mach.gone (hM : Mach M lab p s) (hB : Base K M lab) (l t : Int) {M' : Mm} (e : M' = (M.upd s.ward.hb (mapRow (s.ward.gone l t).held (s.ward.gone l t).hclk)).upd s.ward.gb (mapRow (s.ward.gone l t).gens (s.ward.gone l t).gclk)) : Mach M' lab p { s with ward := s.ward.gone l t } ∧ Base K M' lab := by
  subst e
  have hW := hM.ward
  have k1 : Kp (fun j => j = 3) M lab (M.upd s.ward.hb (mapRow (s.ward.gone l t).held (s.ward.gone l t).hclk)) lab := Kp.upd hM.wlab.2.1 _
  refine hM.wardTo hB (k1.trans (Kp.upd hM.wlab.2.2 _)) ⟨?_, ?_, Mm.upd_same _ _ _, hW.ne⟩ rfl rfl rfl rfl
  · exact (Mm.upd_ne hW.neg).trans ((Mm.upd_ne hW.neh).trans hW.obj)
  · exact (Mm.upd_ne hW.ne).trans (Mm.upd_same _ _ _)
/-- What was given is more. -/
theorem Mach.gave (hM : Mach M lab p s) (hB : Base K M lab) {g : GivenS} {v : Value} {M3 : Mm} (hle : (M.out lab 6).le M3) (ho : Own (M.out lab 6) M3 199 6 v (s.given.length + 1) ((s.given ++ [g]).flatMap encG)) {s' : MachS} (hs : s' = { s with gv := v, given := s.given ++ [g] }) :
    ∃ lab', Base K (M3.upd p (.cells s'.row 73)) lab' ∧ Mach (M3.upd p (.cells s'.row 73)) lab' p s' := by
  subst hs
  obtain ⟨lab', hK, hR⟩ := Row.grow hle ho
  obtain ⟨p1, p2⟩ := hK.get hM.obj hM.mark (by omega)
  have k3 : Kp (fun j => j = 4) M3 lab' (M3.upd p (.cells (MachS.row { s with gv := v, given := s.given ++ [g] }) 73)) lab' := Kp.upd p2 _
  have k4 : Kp (fun k => k = 4 ∨ k = 6) M lab (M3.upd p (.cells (MachS.row { s with gv := v, given := s.given ++ [g] }) 73)) lab' := (hK.mono fun _ h => .inr h).trans (k3.mono fun _ h => .inl h)
  obtain ⟨⟨o1, o2, h1, h2, h3, h4, h5, h6, h7, h8, h9, h10, h11, h12⟩, h13⟩ := hM
  obtain ⟨m1, m2⟩ := h4.keep h5 k4 (by omega)
  obtain ⟨w1, w2⟩ := h7.keep h8 k4 (by omega)
  obtain ⟨q1, q2⟩ := k4.get h2 h3 (by omega)
  refine ⟨lab', hB.keep k4 (by omega), ⟨Mm.upd_same _ _ _, p2, h1, q1, q2, m1, m2, h6, w1, w2, h9, h10.keep k4 (by omega), fun t p' hp => (h11 t p' hp).keep k4 fun k hk => by have := hk.1; omega, ?_⟩, h13⟩
  have := hR.keep k3 (by omega)
  rw [List.length_append]
  exact this
/-- Behind Drop. -/
def MachS.dropped (s : MachS) (lv t : Int) (gv : Value) : MachS := if s.ward.has lv t then { s with ward := s.ward.gone lv t, gv := gv, given := s.given ++ [⟨lv, s.ward.link lv t, s.clk⟩] } else { s with ward := s.ward.slip }
end
end Go.Proofs.YtlpkimpdeeiaaaaGreat
