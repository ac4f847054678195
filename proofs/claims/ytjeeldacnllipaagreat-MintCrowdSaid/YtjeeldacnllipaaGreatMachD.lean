/- Walks of layer 21 (machine): Warden, Drop, Given. -/
import Derived.Test.YtjeeldacnllipaaGreatMachT
import Derived.Test.YtjeeldacnllipaaGreatWardD
namespace Go.Proofs.YtjeeldacnllipaaGreat
open Go.RowKit
set_option linter.unusedVariables false
set_option linter.unusedSimpArgs false
set_option linter.unnecessarySimpa false
theorem info_gv : (Tryz.prog.info? 204).map (fun i => (i.zero, i.size, i.bytes)) = some (some (.agg #[.int .i64 0, .int .u64 0, .int .i64 0, .int .i64 0, .int .i64 0, .int .i64 0]), 6, 48) := by kernel_rfl
theorem encG_len (g : GivenS) : (encG g).length = 6 := rfl
theorem encG_one (g : GivenS) : ∀ u ∈ encG g, u.oneCell' = true := by
  intro u hu
  simp only [encG, List.mem_cons, List.not_mem_nil, or_false] at hu
  rcases hu with rfl | rfl | rfl | rfl | rfl | rfl <;> rfl
section
variable {P : Program} {op : Oper} {a : Act} {ops : Array Oper} {σ w : World} {M : Mm} {Q : Exit → Act → World → Prop} {K : Act → World → Prop} {E : Prop}
theorem step_yields (hw : Region.wanted op (yielded ops a.tmps) = true) {S : World → Prop} {v : Value} (hy : YieldsIf P ops S op v a) (h : S w) (hk : K (a.put op.dst v) w) : if Region.wanted op (yielded ops a.tmps) = true then Oper.wp P op a w K Q else E := by
  rw [if_pos hw]
  rcases hy with ⟨_, hv⟩ | ⟨hw', _⟩
  · simp only [Oper.wp, hv w h, Oper.upon]
    exact hk
  · rw [hw] at hw'; cases hw'
end
section
variable {σ w : World} {K M M' : Mm} {lab lab' : Nat → Nat} {p : Nat} {s : MachS}
theorem mWarden_eq (h : Has σ M w) (hM : Mach M lab p s) : Calls Tryz.prog 17 #[.pointer (some ⟨p, 0, none⟩)] w fun r w' => r = .returned (.pointer (some ⟨s.wp, 0, none⟩)) ∧ Has σ M w' := by
  have c2 : w.cell? ⟨p, 2, none⟩ = some (.pointer (some ⟨s.wp, 0, none⟩)) := h.cell hM.obj 2
  go_enter Tryz.func17, Tryz.ntmps17
  go_wp2
  go_ret
  exact ⟨rfl, h⟩
/-- Another state of the warden. -/
theorem Mach.wardTo (hM : Mach M lab p s) (hB : Base K M lab) (hK : Kp (fun j => j = 3) M lab M' lab) {wd : WardS} (hw : IsWard M' s.wp wd) (e1 : wd.hb = s.ward.hb) (e2 : wd.gb = s.ward.gb) (e3 : wd.lv = s.ward.lv) (e4 : wd.sl = s.ward.sl) : Mach M' lab p { s with ward := wd } ∧ Base K M' lab := by
  obtain ⟨⟨o1, o2, h1, h2, h3, h4, h5, h6, h7, h8, h9, h10, h11, h12⟩, h13⟩ := hM
  obtain ⟨a1, a2⟩ := hK.get o1 o2 (by omega)
  obtain ⟨m1, m2⟩ := h4.keep h5 hK (by omega)
  obtain ⟨p1, p2⟩ := hK.get h2 h3 (by omega)
  refine ⟨⟨⟨a1, a2, h1, p1, p2, m1, m2, h6, hw, ⟨h8.1, ?_, ?_⟩, ⟨?_, ?_⟩, h10.keep hK (by omega), fun t p' hp => (h11 t p' hp).keep hK fun k hk => by have := hk.1; omega, h12.keep hK (by omega)⟩, h13⟩, hB.keep hK (by omega)⟩
  · show lab wd.hb = 3; rw [e1]; exact h8.2.1
  · show lab wd.gb = 3; rw [e2]; exact h8.2.2
  · show wd.lv = _; rw [e3]; exact h9.1
  · show wd.sl = _; rw [e4]; exact h9.2
theorem Mach.slip (hM : Mach M lab p s) (hB : Base K M lab) : Mach (M.upd s.wp (.cells s.ward.slip.cells 130)) lab p { s with ward := s.ward.slip } ∧ Base K (M.upd s.wp (.cells s.ward.slip.cells 130)) lab := by
  have hW := hM.ward
  exact hM.wardTo hB (Kp.upd hM.wlab.1 _) ⟨Mm.upd_same _ _ _, (Mm.upd_ne hW.neh.symm).trans hW.held, (Mm.upd_ne hW.neg.symm).trans hW.gens, hW.ne⟩ rfl rfl rfl rfl
theorem Mach.gone (hM : Mach M lab p s) (hB : Base K M lab) (l t : Int) {M' : Mm} (e : M' = (M.upd s.ward.hb (mapRow (s.ward.gone l t).held (s.ward.gone l t).hclk)).upd s.ward.gb (mapRow (s.ward.gone l t).gens (s.ward.gone l t).gclk)) : Mach M' lab p { s with ward := s.ward.gone l t } ∧ Base K M' lab := by
  subst e
  have hW := hM.ward
  have k1 : Kp (fun j => j = 3) M lab (M.upd s.ward.hb (mapRow (s.ward.gone l t).held (s.ward.gone l t).hclk)) lab := Kp.upd hM.wlab.2.1 _
  refine hM.wardTo hB (k1.trans (Kp.upd hM.wlab.2.2 _)) ⟨?_, ?_, Mm.upd_same _ _ _, hW.ne⟩ rfl rfl rfl rfl
  · exact (Mm.upd_ne hW.neg).trans ((Mm.upd_ne hW.neh).trans hW.obj)
  · exact (Mm.upd_ne hW.ne).trans (Mm.upd_same _ _ _)
/-- What was given is more. -/
theorem Mach.gave (hM : Mach M lab p s) (hB : Base K M lab) {g : GivenS} {v : Value} {M3 : Mm} (hle : (M.out lab 6).le M3) (ho : Own (M.out lab 6) M3 204 6 v (s.given.length + 1) ((s.given ++ [g]).flatMap encG)) {s' : MachS} (hs : s' = { s with gv := v, given := s.given ++ [g] }) :
    ∃ lab', Base K (M3.upd p (.cells s'.row 115)) lab' ∧ Mach (M3.upd p (.cells s'.row 115)) lab' p s' := by
  subst hs
  obtain ⟨lab', hK, hR⟩ := Row.grow hle ho
  obtain ⟨p1, p2⟩ := hK.get hM.obj hM.mark (by omega)
  have k3 : Kp (fun j => j = 4) M3 lab' (M3.upd p (.cells (MachS.row { s with gv := v, given := s.given ++ [g] }) 115)) lab' := Kp.upd p2 _
  have k4 : Kp (fun k => k = 4 ∨ k = 6) M lab (M3.upd p (.cells (MachS.row { s with gv := v, given := s.given ++ [g] }) 115)) lab' := (hK.mono fun _ h => .inr h).trans (k3.mono fun _ h => .inl h)
  obtain ⟨⟨o1, o2, h1, h2, h3, h4, h5, h6, h7, h8, h9, h10, h11, h12⟩, h13⟩ := hM
  obtain ⟨m1, m2⟩ := h4.keep h5 k4 (by omega)
  obtain ⟨w1, w2⟩ := h7.keep h8 k4 (by omega)
  obtain ⟨q1, q2⟩ := k4.get h2 h3 (by omega)
  refine ⟨lab', hB.keep k4 (by omega), ⟨Mm.upd_same _ _ _, p2, h1, q1, q2, m1, m2, h6, w1, w2, h9, h10.keep k4 (by omega), fun t p' hp => (h11 t p' hp).keep k4 fun k hk => by have := hk.1; omega, ?_⟩, h13⟩
  have := hR.keep k3 (by omega)
  rw [List.length_append]
  exact this
/-- Behind Drop. -/
def MachS.dropped (s : MachS) (lv t : Int) (gv : Value) : MachS := if s.ward.has lv t then { s with ward := s.ward.gone lv t, gv := gv, given := s.given ++ [⟨lv, s.ward.link lv t, s.clk⟩] } else { s with ward := s.ward.slip }
set_option maxHeartbeats 4000000 in
set_option maxRecDepth 20000 in
theorem mDrop_eq (h : Has σ M w) (hM : Mach M lab p s) (hB : Base K M lab) (t slot : Int) {lv : Int} (hlv : levelOf s.c t = lv) (hst : StampE s.ward.gens s.ward.gclk) (hg : 0 ≤ valE lv slot s.ward.gens ∧ valE lv slot s.ward.gens < 1000000000) (hsl : s.ward.slips < 1000000000) (hn : s.given.length < 1000000) :
    Calls Tryz.prog 147 #[.pointer (some ⟨p, 0, none⟩), .int .i64 t, .int .i64 slot] w fun r w' => r = .returned (.tuple #[]) ∧ ∃ M' lab' gv, Has σ M' w' ∧ Base K M' lab' ∧ Mach M' lab' p (s.dropped lv slot gv) := by
  have LV := Lib.hid (fun (w : World) (h : Has σ M w) => mLevel_eq h hM t)
  rw [hlv] at LV
  have WD := Lib.hid (fun (w : World) (h : Has σ M w) => mWarden_eq h hM)
  have hs60 : s.ward.sl ≤ 1000000 := by rw [hM.wsz.2]; have := (Nums.of hM.may); obtain ⟨L, B, S, hn⟩ := this; have := hn.slo; have := hn.s0; omega
  have LK := Lib.hid (fun (w : World) (h : Has σ M w) => wardLink_eq h hM.ward lv slot hs60 hg)
  cases hh : s.ward.has lv slot
  · have DR := Lib.hid (fun (w : World) (h : Has σ M w) => drop_no h hM.ward lv slot hh hsl)
    obtain ⟨hM2, hB2⟩ := hM.slip hB
    have E : ∀ gv, s.dropped lv slot gv = { s with ward := s.ward.slip } := fun gv => by unfold MachS.dropped; rw [hh]; rfl
    have HM := Lib.hid hM2
    have HB := Lib.hid hB2
    replace E := Lib.hid E
    clear hM hB hM2 hB2 hlv hst hg hsl hn hs60 hh
    generalize M.upd s.wp _ = M2 at DR HM HB
    go_enter Tryz.func147, Tryz.ntmps147
    go_wp2_with (first
      | (go_at_call 12; refine (LV.out _ h).mono ?_; clear h; rintro _ w ⟨rfl, h⟩)
      | (go_at_call 17; refine (WD.out _ h).mono ?_; clear h; rintro _ w ⟨rfl, h⟩)
      | (go_at_call 18; refine (LK.out _ h).mono ?_; clear h; rintro _ w ⟨rfl, h⟩)
      | (go_at_call 148; refine (DR.out _ h).mono ?_; clear h; rintro _ w ⟨rfl, h⟩))
    go_end0
    exact ⟨rfl, M2, lab, undef, h, HB.out, by rw [E.out]; exact HM.out⟩
  · have DR := Lib.hid (fun (w : World) (h : Has σ M w) => drop_yes h hM.ward lv slot hh hst (by omega))
    obtain ⟨hM2, hB2⟩ := hM.gone hB lv slot rfl
    obtain ⟨g, G⟩ : ∃ g : GivenS, Hid (g = GivenS.mk lv (s.ward.link lv slot) s.clk) := ⟨_, rfl⟩
    have E : ∀ gv, s.dropped lv slot gv = { { s with ward := s.ward.gone lv slot } with gv := gv, given := s.given ++ [g] } := fun gv => by unfold MachS.dropped; rw [hh, G.out]; rfl
    replace E := Lib.hid E
    have EG : Hid (encG g = [.int .i64 lv, .int .u64 (s.ward.link lv slot), .int .i64 (s.clk 0 : Nat), .int .i64 (s.clk 1 : Nat), .int .i64 (s.clk 2 : Nat), .int .i64 (s.clk 3 : Nat)]) := by show _ = _; rw [G.out]; rfl
    clear hM hB hlv hst hg hsl hs60 hh
    generalize (M.upd s.ward.hb _).upd s.ward.gb _ = M2 at DR hM2 hB2
    obtain ⟨s2, E2⟩ : ∃ s2 : MachS, Hid (s2 = { s with ward := s.ward.gone lv slot }) := ⟨_, rfl⟩
    rw [← E2.out] at hM2 E
    have hp := hM2.obj
    have e8 : s2.row[8]? = some s2.gv := rfl
    have eg : Hid (s2.given = s.given) := by show _ = _; rw [E2.out]
    have e4 : s2.row.extract 4 (4 + 4) = #[.int .i64 (s.clk 0 : Nat), .int .i64 (s.clk 1 : Nat), .int .i64 (s.clk 2 : Nat), .int .i64 (s.clk 3 : Nat)] := by rw [E2.out]; rfl
    have l8 : 8 < s2.row.size := show 8 < 11 by omega
    have hown := hM2.grow
    have hpo := Mm.out_of (lab := lab) (k := 6) hp (by rw [hM2.mark]; omega)
    have hle := Mm.out_le M2 lab 6
    unfold Row at hown
    rw [eg.out] at hown
    have GAVE := Lib.hid (fun (M3 : Mm) (v : Value) hl ho => hM2.gave hB2 (g := g) (v := v) (M3 := M3) hl ho (s' := { s2 with gv := v, given := s2.given ++ [g] }) rfl)
    rw [eg.out] at GAVE
    have EQ : Hid (∀ v, s2.row.setIfInBounds 8 v = MachS.row { s2 with gv := v, given := s.given ++ [g] }) := Lib.hid fun v => rfl
    have FA : Hid (∀ g : GivenS, (s.given ++ [g]).flatMap encG = s.given.flatMap encG ++ encG g) := Lib.hid fun g => by simp
    replace FA := Lib.hid (FA.out g)
    clear hM2 hB2
    generalize s2.row = row at hp e8 e4 l8 EQ hpo
    generalize s2.gv = gv at e8 hown
    generalize s.given.flatMap encG = xs at hown FA
    generalize hnn : s.given.length = n at hown hn GAVE
    generalize s.ward.link lv slot = lk at LK EG
    generalize s.clk 0 = k0 at e4 EG
    generalize s.clk 1 = k1 at e4 EG
    generalize s.clk 2 = k2 at e4 EG
    generalize s.clk 3 = k3 at e4 EG
    go_enter Tryz.func147, Tryz.ntmps147
    go_upto_region 3 with (first
      | (go_at_call 12; refine (LV.out _ h).mono ?_; clear h; rintro _ w ⟨rfl, h⟩)
      | (go_at_call 17; refine (WD.out _ h).mono ?_; clear h; rintro _ w ⟨rfl, h⟩)
      | (go_at_call 18; refine (LK.out _ h).mono ?_; clear h; rintro _ w ⟨rfl, h⟩)
      | (go_at_call 148; refine (DR.out _ h).mono ?_; clear h; rintro _ w ⟨rfl, h⟩))
    clear LV WD LK DR
    have hpN := Mm.drop_none (M2.out lab 6) p
    have hdl : ((M2.out lab 6).drop p).le M2 := Mm.le_trans (Mm.drop_le _ _) hle
    have hd6 := Mm.drop_le (M2.out lab 6) p
    generalize (M2.out lab 6).drop p = MD at hpN hdl hd6
    generalize M2.out lab 6 = MR at hle hpo hown GAVE hd6
    refine wp_region_held_drew (S := Has σ (MD)) (by kernel_rfl) (h.drew.le hdl) (fun hHeld => ?_)
    refine wpAnyH_take (i := 0) (v := ?_) rfl (by kernel_rfl) (by kernel_rfl) (by kernel_rfl) (fun _ _ _ h => h) (Or.inl ⟨by rfl, ?_⟩) hHeld ?_
    rotate_left
    · (intro wz _; go_simp; try with_reducible rfl)
    try simp only [List.getElem_toArray, List.getElem_cons_succ, List.getElem_cons_zero, Act.put, List.setIfInBounds_toArray, List.set_cons_zero, List.set_cons_succ]
    refine wpAnyH_take (i := 1) (v := ?_) rfl (by kernel_rfl) (by kernel_rfl) (by kernel_rfl) (fun _ _ _ h => h) (Or.inl ⟨by rfl, ?_⟩) hHeld ?_
    rotate_left
    · (intro wz _; go_simp; try with_reducible rfl)
    try simp only [List.getElem_toArray, List.getElem_cons_succ, List.getElem_cons_zero, Act.put, List.setIfInBounds_toArray, List.set_cons_zero, List.set_cons_succ]
    refine wpAnyH_take (i := 2) (v := ?_) rfl (by kernel_rfl) (by kernel_rfl) (by kernel_rfl) (fun _ _ _ h => h) (Or.inl ⟨by rfl, ?_⟩) hHeld ?_
    rotate_left
    · (intro wz _; go_simp; try with_reducible rfl)
    try simp only [List.getElem_toArray, List.getElem_cons_succ, List.getElem_cons_zero, Act.put, List.setIfInBounds_toArray, List.set_cons_zero, List.set_cons_succ]
    refine wpAnyH_take (i := 3) (v := ?_) rfl (by kernel_rfl) (by kernel_rfl) (by kernel_rfl) (fun _ _ _ h => h) (Or.inl ⟨by rfl, ?_⟩) hHeld ?_
    rotate_left
    · (intro wz _; go_simp; try with_reducible rfl)
    try simp only [List.getElem_toArray, List.getElem_cons_succ, List.getElem_cons_zero, Act.put, List.setIfInBounds_toArray, List.set_cons_zero, List.set_cons_succ]
    refine wpAnyH_take (i := 5) (v := ?_) rfl (by kernel_rfl) (by kernel_rfl) (by kernel_rfl) (fun _ _ _ h => h) (Or.inl ⟨by rfl, ?_⟩) hHeld ?_
    rotate_left
    · (intro wz _; go_simp; try with_reducible rfl)
    try simp only [List.getElem_toArray, List.getElem_cons_succ, List.getElem_cons_zero, Act.put, List.setIfInBounds_toArray, List.set_cons_zero, List.set_cons_succ]
    refine wpAnyH_take (i := 6) (v := ?_) rfl (by kernel_rfl) (by kernel_rfl) (by kernel_rfl) (fun _ _ _ h => h) (Or.inl ⟨by rfl, ?_⟩) hHeld ?_
    rotate_left
    · (intro wz _; go_simp; try with_reducible rfl)
    try simp only [List.getElem_toArray, List.getElem_cons_succ, List.getElem_cons_zero, Act.put, List.setIfInBounds_toArray, List.set_cons_zero, List.set_cons_succ]
    refine wpAnyH_take (i := 7) (v := ?_) rfl (by kernel_rfl) (by kernel_rfl) (by kernel_rfl) (fun _ _ _ h => h) (Or.inl ⟨by rfl, ?_⟩) hHeld ?_
    rotate_left
    · (intro wz _; go_simp; try with_reducible rfl)
    try simp only [List.getElem_toArray, List.getElem_cons_succ, List.getElem_cons_zero, Act.put, List.setIfInBounds_toArray, List.set_cons_zero, List.set_cons_succ]
    refine wpAnyH_take (i := 8) (v := ?_) rfl (by kernel_rfl) (by kernel_rfl) (by kernel_rfl) (fun _ _ _ h => h) (Or.inl ⟨by rfl, ?_⟩) hHeld ?_
    rotate_left
    · (intro wz _; go_simp; try with_reducible rfl)
    try simp only [List.getElem_toArray, List.getElem_cons_succ, List.getElem_cons_zero, Act.put, List.setIfInBounds_toArray, List.set_cons_zero, List.set_cons_succ]
    refine wpAnyH_take (i := 9) (v := ?_) rfl (by kernel_rfl) (by kernel_rfl) (by kernel_rfl) (fun _ _ _ h => h) (Or.inl ⟨by rfl, ?_⟩) hHeld ?_
    rotate_left
    · (intro wz _; go_simp; try with_reducible rfl)
    try simp only [List.getElem_toArray, List.getElem_cons_succ, List.getElem_cons_zero, Act.put, List.setIfInBounds_toArray, List.set_cons_zero, List.set_cons_succ]
    replace h := h.drew
    generalize w.drew = w1 at h hHeld ⊢
    clear w
    obtain ⟨w, rfl⟩ : ∃ q : World, q = w1 := ⟨_, rfl⟩
    refine wpAnyH_ready (rs := [4, 10]) (by kernel_rfl) (by simp) ?_
    refine AllReadyH.cons rfl (fun K hK => ?_) (AllReadyH.cons rfl (fun K hK => ?_) AllReadyH.nil)
    · refine step_yields rfl (yields_load1 rfl 113 _ rfl rfl hp e8 Tryz.underlying113 rfl) h ?_
      refine hK.out _ _ hHeld (fun hHeld => ?_)
      clear hK K
      simp only [Act.put, List.setIfInBounds_toArray, List.set_cons_zero, List.set_cons_succ]
      refine wpAnyH_ready (rs := [10]) (by kernel_rfl) (by simp) ?_
      refine AllReadyH.cons rfl (fun K hK => ?_) AllReadyH.nil
      (refine step_yields rfl (yields_agg rfl 112 _ rfl rfl hp e4 rfl Tryz.underlying112 rfl (by kernel_rfl)) h ?_)
      refine hK.out _ _ (hHeld) (fun hHeld => ?_)
      clear hK K
      try simp only [Act.put, List.setIfInBounds_toArray, List.set_cons_zero, List.set_cons_succ]
      refine wpAnyH_take (i := 11) (v := ?_) rfl (by kernel_rfl) (by kernel_rfl) (by kernel_rfl) (fun _ _ _ h => h) (Or.inl ⟨by rfl, ?_⟩) hHeld ?_
      rotate_left
      · (intro wz _; go_simp; try with_reducible rfl)
      try simp only [List.getElem_toArray, List.getElem_cons_succ, List.getElem_cons_zero, Act.put, List.setIfInBounds_toArray, List.set_cons_zero, List.set_cons_succ]
      refine wpAnyH_ready (rs := [12]) (by kernel_rfl) (by simp) ?_
      refine AllReadyH.cons rfl (fun K hK => ?_) AllReadyH.nil
      go_simp
      refine hK.out _ _ ((h.quietAlloc _).le hdl) (fun hHeld => ?_)
      clear hK K
      try simp only [Act.put, List.setIfInBounds_toArray, List.set_cons_zero, List.set_cons_succ]
      clear hHeld
      obtain ⟨M3, hbx, hle2, hbl, hnl⟩ := h.box (.cells #[.int .i64 lv, .int .u64 lk, .int .i64 (k0 : Nat), .int .i64 (k1 : Nat), .int .i64 (k2 : Nat), .int .i64 (k3 : Nat)] 204)
      generalize w.alloc _ = wx at hbx ⊢
      generalize w.heap.size = bl at hbl hnl ⊢
      clear h
      try clear w
      have h := hbx
      clear hbx
      obtain ⟨w, rfl⟩ : ∃ x : World, x = wx := ⟨_, rfl⟩
      have hHeld : Has σ MD w := h.le (Mm.le_trans hdl hle2)
      have hrl : Rd M3 6 (.slice (some ⟨bl, 0, none⟩) 1 1) 1 [.int .i64 lv, .int .u64 lk, .int .i64 (k0 : Nat), .int .i64 (k1 : Nat), .int .i64 (k2 : Nat), .int .i64 (k3 : Nat)] := ⟨rfl, _, _, rfl, Nat.le_refl _, fun _ => ⟨bl, 0, _, _, _, rfl, hbl, fun j u hu => by simpa using hu⟩⟩
      have hleR := Mm.le_trans hle hle2
      have hownR := hown.le hle2
      refine wpAnyH_ready (rs := [13]) (by kernel_rfl) (by simp) ?_
      refine AllReadyH.cons rfl (fun K hK => ?_) AllReadyH.nil
      (refine step_append_rd h hleR rfl _ _ 113 rfl Tryz.underlying113 info_gv rfl (by omega) rfl hownR rfl hrl (by intro y hy; simp at hy; rcases hy with rfl | rfl | rfl | rfl | rfl | rfl <;> rfl) (by omega) (by omega) ?_; clear h; intro v w hacc; obtain ⟨M4, h, hl3, ho3⟩ := hacc)
      refine hK.out _ _ (h.le (Mm.le_trans hd6 hl3)) (fun hHeld => ?_)
      clear hK K
      try simp only [Act.put, List.setIfInBounds_toArray, List.set_cons_zero, List.set_cons_succ]
      obtain ⟨A, cc, rfl⟩ := ho3.form
      refine wpAnyH_take (i := 14) (v := ?_) rfl (by kernel_rfl) (by kernel_rfl) (by kernel_rfl) (fun _ _ _ h => h) (Or.inl ⟨by rfl, ?_⟩) hHeld ?_
      rotate_left
      · (intro wz _; go_simp; try with_reducible rfl)
      try simp only [List.getElem_toArray, List.getElem_cons_succ, List.getElem_cons_zero, Act.put, List.setIfInBounds_toArray, List.set_cons_zero, List.set_cons_succ]
      refine wpAnyH_take (i := 15) (v := ?_) rfl (by kernel_rfl) (by kernel_rfl) (by kernel_rfl) (fun _ _ _ h => h) (Or.inl ⟨by rfl, ?_⟩) hHeld ?_
      rotate_left
      · (intro wz _; go_simp; try with_reducible rfl)
      try simp only [List.getElem_toArray, List.getElem_cons_succ, List.getElem_cons_zero, Act.put, List.setIfInBounds_toArray, List.set_cons_zero, List.set_cons_succ]
      have hdo : ∀ o, MD.le (M4.upd p o) := fun o => Mm.le_upd (Mm.le_trans hd6 hl3) hpN o
      refine wpAnyH_ready (rs := [16]) (by kernel_rfl) (by simp) ?_
      refine AllReadyH.cons rfl (fun K hK => ?_) AllReadyH.nil
      (refine step_store1 (v := .slice A (n + 1) cc) h rfl 113 _ _ rfl rfl rfl (hl3 _ _ hpo) l8 rfl rfl (by kernel_rfl) ?_; clear h; intro w h)
      refine hK.out _ _ (h.le (hdo _)) (fun hHeld => ?_)
      clear hK K
      try simp only [Act.put, List.setIfInBounds_toArray, List.set_cons_zero, List.set_cons_succ]
      refine wpAnyH_done (by kernel_rfl) ?_ _
      rw [EQ.out] at h
      have ho4 : Own MR M4 204 6 (.slice A (n + 1) cc) (n + 1) ((s.given ++ [g]).flatMap encG) := by
        rw [FA.out, EG.out]
        exact ho3
      obtain ⟨lab', hB3, hM3⟩ := GAVE.out M4 _ hl3 ho4
      clear hdo ho4 ho3 hHeld hrl hleR hownR hl3 hle2
      go_wp2
      go_end0
      exact ⟨rfl, _, lab', _, h, hB3, by rw [E.out]; exact hM3⟩
    · refine step_yields rfl (yields_agg rfl 112 _ rfl rfl hp e4 rfl Tryz.underlying112 rfl (by kernel_rfl)) h ?_
      refine hK.out _ _ hHeld (fun hHeld => ?_)
      clear hK K
      simp only [Act.put, List.setIfInBounds_toArray, List.set_cons_zero, List.set_cons_succ]
      refine wpAnyH_take (i := 11) (v := ?_) rfl (by kernel_rfl) (by kernel_rfl) (by kernel_rfl) (fun _ _ _ h => h) (Or.inl ⟨by rfl, ?_⟩) hHeld ?_
      rotate_left
      · (intro wz _; go_simp; try with_reducible rfl)
      try simp only [List.getElem_toArray, List.getElem_cons_succ, List.getElem_cons_zero, Act.put, List.setIfInBounds_toArray, List.set_cons_zero, List.set_cons_succ]
      refine wpAnyH_ready (rs := [4, 12]) (by kernel_rfl) (by simp) ?_
      refine AllReadyH.cons rfl (fun K hK => ?_) (AllReadyH.cons rfl (fun K hK => ?_) AllReadyH.nil)
      · refine step_yields rfl (yields_load1 rfl 113 _ rfl rfl hp e8 Tryz.underlying113 rfl) h ?_
        refine hK.out _ _ hHeld (fun hHeld => ?_)
        clear hK K
        simp only [Act.put, List.setIfInBounds_toArray, List.set_cons_zero, List.set_cons_succ]
        refine wpAnyH_ready (rs := [12]) (by kernel_rfl) (by simp) ?_
        refine AllReadyH.cons rfl (fun K hK => ?_) AllReadyH.nil
        go_simp
        refine hK.out _ _ ((h.quietAlloc _).le hdl) (fun hHeld => ?_)
        clear hK K
        try simp only [Act.put, List.setIfInBounds_toArray, List.set_cons_zero, List.set_cons_succ]
        clear hHeld
        obtain ⟨M3, hbx, hle2, hbl, hnl⟩ := h.box (.cells #[.int .i64 lv, .int .u64 lk, .int .i64 (k0 : Nat), .int .i64 (k1 : Nat), .int .i64 (k2 : Nat), .int .i64 (k3 : Nat)] 204)
        generalize w.alloc _ = wx at hbx ⊢
        generalize w.heap.size = bl at hbl hnl ⊢
        clear h
        try clear w
        have h := hbx
        clear hbx
        obtain ⟨w, rfl⟩ : ∃ x : World, x = wx := ⟨_, rfl⟩
        have hHeld : Has σ MD w := h.le (Mm.le_trans hdl hle2)
        have hrl : Rd M3 6 (.slice (some ⟨bl, 0, none⟩) 1 1) 1 [.int .i64 lv, .int .u64 lk, .int .i64 (k0 : Nat), .int .i64 (k1 : Nat), .int .i64 (k2 : Nat), .int .i64 (k3 : Nat)] := ⟨rfl, _, _, rfl, Nat.le_refl _, fun _ => ⟨bl, 0, _, _, _, rfl, hbl, fun j u hu => by simpa using hu⟩⟩
        have hleR := Mm.le_trans hle hle2
        have hownR := hown.le hle2
        refine wpAnyH_ready (rs := [13]) (by kernel_rfl) (by simp) ?_
        refine AllReadyH.cons rfl (fun K hK => ?_) AllReadyH.nil
        (refine step_append_rd h hleR rfl _ _ 113 rfl Tryz.underlying113 info_gv rfl (by omega) rfl hownR rfl hrl (by intro y hy; simp at hy; rcases hy with rfl | rfl | rfl | rfl | rfl | rfl <;> rfl) (by omega) (by omega) ?_; clear h; intro v w hacc; obtain ⟨M4, h, hl3, ho3⟩ := hacc)
        refine hK.out _ _ (h.le (Mm.le_trans hd6 hl3)) (fun hHeld => ?_)
        clear hK K
        try simp only [Act.put, List.setIfInBounds_toArray, List.set_cons_zero, List.set_cons_succ]
        obtain ⟨A, cc, rfl⟩ := ho3.form
        refine wpAnyH_take (i := 14) (v := ?_) rfl (by kernel_rfl) (by kernel_rfl) (by kernel_rfl) (fun _ _ _ h => h) (Or.inl ⟨by rfl, ?_⟩) hHeld ?_
        rotate_left
        · (intro wz _; go_simp; try with_reducible rfl)
        try simp only [List.getElem_toArray, List.getElem_cons_succ, List.getElem_cons_zero, Act.put, List.setIfInBounds_toArray, List.set_cons_zero, List.set_cons_succ]
        refine wpAnyH_take (i := 15) (v := ?_) rfl (by kernel_rfl) (by kernel_rfl) (by kernel_rfl) (fun _ _ _ h => h) (Or.inl ⟨by rfl, ?_⟩) hHeld ?_
        rotate_left
        · (intro wz _; go_simp; try with_reducible rfl)
        try simp only [List.getElem_toArray, List.getElem_cons_succ, List.getElem_cons_zero, Act.put, List.setIfInBounds_toArray, List.set_cons_zero, List.set_cons_succ]
        have hdo : ∀ o, MD.le (M4.upd p o) := fun o => Mm.le_upd (Mm.le_trans hd6 hl3) hpN o
        refine wpAnyH_ready (rs := [16]) (by kernel_rfl) (by simp) ?_
        refine AllReadyH.cons rfl (fun K hK => ?_) AllReadyH.nil
        (refine step_store1 (v := .slice A (n + 1) cc) h rfl 113 _ _ rfl rfl rfl (hl3 _ _ hpo) l8 rfl rfl (by kernel_rfl) ?_; clear h; intro w h)
        refine hK.out _ _ (h.le (hdo _)) (fun hHeld => ?_)
        clear hK K
        try simp only [Act.put, List.setIfInBounds_toArray, List.set_cons_zero, List.set_cons_succ]
        refine wpAnyH_done (by kernel_rfl) ?_ _
        rw [EQ.out] at h
        have ho4 : Own MR M4 204 6 (.slice A (n + 1) cc) (n + 1) ((s.given ++ [g]).flatMap encG) := by
          rw [FA.out, EG.out]
          exact ho3
        obtain ⟨lab', hB3, hM3⟩ := GAVE.out M4 _ hl3 ho4
        clear hdo ho4 ho3 hHeld hrl hleR hownR hl3 hle2
        go_wp2
        go_end0
        exact ⟨rfl, _, lab', _, h, hB3, by rw [E.out]; exact hM3⟩
      · go_simp
        refine hK.out _ _ ((h.quietAlloc _).le hdl) (fun hHeld => ?_)
        clear hK K
        try simp only [Act.put, List.setIfInBounds_toArray, List.set_cons_zero, List.set_cons_succ]
        clear hHeld
        obtain ⟨M3, hbx, hle2, hbl, hnl⟩ := h.box (.cells #[.int .i64 lv, .int .u64 lk, .int .i64 (k0 : Nat), .int .i64 (k1 : Nat), .int .i64 (k2 : Nat), .int .i64 (k3 : Nat)] 204)
        generalize w.alloc _ = wx at hbx ⊢
        generalize w.heap.size = bl at hbl hnl ⊢
        clear h
        try clear w
        have h := hbx
        clear hbx
        obtain ⟨w, rfl⟩ : ∃ x : World, x = wx := ⟨_, rfl⟩
        have hHeld : Has σ MD w := h.le (Mm.le_trans hdl hle2)
        have hrl : Rd M3 6 (.slice (some ⟨bl, 0, none⟩) 1 1) 1 [.int .i64 lv, .int .u64 lk, .int .i64 (k0 : Nat), .int .i64 (k1 : Nat), .int .i64 (k2 : Nat), .int .i64 (k3 : Nat)] := ⟨rfl, _, _, rfl, Nat.le_refl _, fun _ => ⟨bl, 0, _, _, _, rfl, hbl, fun j u hu => by simpa using hu⟩⟩
        have hleR := Mm.le_trans hle hle2
        have hownR := hown.le hle2
        refine wpAnyH_ready (rs := [4]) (by kernel_rfl) (by simp) ?_
        refine AllReadyH.cons rfl (fun K hK => ?_) AllReadyH.nil
        (refine step_yields rfl (yields_load1 rfl 113 _ rfl rfl (hle2 _ _ hp) e8 Tryz.underlying113 rfl) h ?_)
        refine hK.out _ _ (hHeld) (fun hHeld => ?_)
        clear hK K
        try simp only [Act.put, List.setIfInBounds_toArray, List.set_cons_zero, List.set_cons_succ]
        refine wpAnyH_ready (rs := [13]) (by kernel_rfl) (by simp) ?_
        refine AllReadyH.cons rfl (fun K hK => ?_) AllReadyH.nil
        (refine step_append_rd h hleR rfl _ _ 113 rfl Tryz.underlying113 info_gv rfl (by omega) rfl hownR rfl hrl (by intro y hy; simp at hy; rcases hy with rfl | rfl | rfl | rfl | rfl | rfl <;> rfl) (by omega) (by omega) ?_; clear h; intro v w hacc; obtain ⟨M4, h, hl3, ho3⟩ := hacc)
        refine hK.out _ _ (h.le (Mm.le_trans hd6 hl3)) (fun hHeld => ?_)
        clear hK K
        try simp only [Act.put, List.setIfInBounds_toArray, List.set_cons_zero, List.set_cons_succ]
        obtain ⟨A, cc, rfl⟩ := ho3.form
        refine wpAnyH_take (i := 14) (v := ?_) rfl (by kernel_rfl) (by kernel_rfl) (by kernel_rfl) (fun _ _ _ h => h) (Or.inl ⟨by rfl, ?_⟩) hHeld ?_
        rotate_left
        · (intro wz _; go_simp; try with_reducible rfl)
        try simp only [List.getElem_toArray, List.getElem_cons_succ, List.getElem_cons_zero, Act.put, List.setIfInBounds_toArray, List.set_cons_zero, List.set_cons_succ]
        refine wpAnyH_take (i := 15) (v := ?_) rfl (by kernel_rfl) (by kernel_rfl) (by kernel_rfl) (fun _ _ _ h => h) (Or.inl ⟨by rfl, ?_⟩) hHeld ?_
        rotate_left
        · (intro wz _; go_simp; try with_reducible rfl)
        try simp only [List.getElem_toArray, List.getElem_cons_succ, List.getElem_cons_zero, Act.put, List.setIfInBounds_toArray, List.set_cons_zero, List.set_cons_succ]
        have hdo : ∀ o, MD.le (M4.upd p o) := fun o => Mm.le_upd (Mm.le_trans hd6 hl3) hpN o
        refine wpAnyH_ready (rs := [16]) (by kernel_rfl) (by simp) ?_
        refine AllReadyH.cons rfl (fun K hK => ?_) AllReadyH.nil
        (refine step_store1 (v := .slice A (n + 1) cc) h rfl 113 _ _ rfl rfl rfl (hl3 _ _ hpo) l8 rfl rfl (by kernel_rfl) ?_; clear h; intro w h)
        refine hK.out _ _ (h.le (hdo _)) (fun hHeld => ?_)
        clear hK K
        try simp only [Act.put, List.setIfInBounds_toArray, List.set_cons_zero, List.set_cons_succ]
        refine wpAnyH_done (by kernel_rfl) ?_ _
        rw [EQ.out] at h
        have ho4 : Own MR M4 204 6 (.slice A (n + 1) cc) (n + 1) ((s.given ++ [g]).flatMap encG) := by
          rw [FA.out, EG.out]
          exact ho3
        obtain ⟨lab', hB3, hM3⟩ := GAVE.out M4 _ hl3 ho4
        clear hdo ho4 ho3 hHeld hrl hleR hownR hl3 hle2
        go_wp2
        go_end0
        exact ⟨rfl, _, lab', _, h, hB3, by rw [E.out]; exact hM3⟩
end
end Go.Proofs.YtjeeldacnllipaaGreat
