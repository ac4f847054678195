/- Walks of layer 7 (warden): Drop, Link. -/
import Derived.Test.YtlpkimpdeeiaaaaGreatWardC
namespace Go.Proofs.YtlpkimpdeeiaaaaGreat
open Go.RowKit
set_option linter.unusedVariables false
set_option linter.unusedSimpArgs false
set_option linter.unnecessarySimpa false
def WardS.slip (s : WardS) : WardS := { s with slips := s.slips + 1 }
def WardS.has (s : WardS) (l t : Int) : Bool := s.there l t && decide (0 < valE l t s.held)
def WardS.gone (s : WardS) (l t : Int) : WardS := { s with held := delE l t s.held, gens := putE l t (valE l t s.gens + 1) s.gclk s.gens, gclk := if hasE l t s.gens then s.gclk else s.gclk + 1 }
section
variable {σ w : World} {M : Mm} {p : Nat} {s : WardS}
theorem note_no (h : Has σ M w) (hM : IsWard M p s) (hb : s.slips < 1000000000) : Calls Tryz.prog 45 #[.pointer (some ⟨p, 0, none⟩), .bool false] w fun r w' => r = .returned (.bool false) ∧ Has σ (M.upd p (.cells s.slip.cells 108)) w' := by
  have c4 : w.cell? ⟨p, 4, none⟩ = some (.int .i64 (s.slips : Nat)) := h.cell hM.obj 4
  have f4 := h.free hM.obj 4
  have w1 : IntKind.i64.wrap ((s.slips : Int) + 1) = (s.slips : Int) + 1 := IntWalk.i64_in _ (by omega)
  have HS : Has σ (M.upd p (.cells s.slip.cells 108)) (w.setCell ⟨p, 4, none⟩ (.int .i64 ((s.slips : Int) + 1))) := h.setCell hM.obj 4 _
  replace HS := Lib.hid HS
  clear hM hb
  go_enter Tryz.func45, Tryz.ntmps45
  go_wp2
  go_ret
  exact ⟨rfl, HS.out⟩
theorem IsWard.le {M' : Mm} (h : IsWard M p s) (hle : M.le M') : IsWard M' p s := ⟨hle _ _ h.obj, hle _ _ h.held, hle _ _ h.gens, h.ne⟩
/-- Link: of a slot that is there. -/
def WardS.link (s : WardS) (l t : Int) : Int := if s.there l t then ((mkLink t.toNat (valE l t s.gens).toNat : Nat) : Int) else 0
set_option maxRecDepth 20000 in
theorem wardLink_eq (h : Has σ M w) (hM : IsWard M p s) (l t : Int) (hsl : s.sl ≤ 1000000) (hg : 0 ≤ valE l t s.gens ∧ valE l t s.gens < 1000000000) : Calls Tryz.prog 62 #[.pointer (some ⟨p, 0, none⟩), .int .i64 l, .int .i64 t] w fun r w' => r = .returned (.int .u64 (s.link l t)) ∧ Has σ M w' := by
  have TH := Lib.hid (fun (M' : Mm) (w : World) (h : Has σ M' w) (hM : IsWard M' p s) => there_eq h hM l t)
  have hp := hM.obj
  have hgn := hM.gens
  have e3 : s.cells[3]? = some (.map (some s.gb)) := rfl
  have HM := Lib.hid hM
  have E : Hid (s.link l t = if s.there l t then ((mkLink t.toNat (valE l t s.gens).toNat : Nat) : Int) else 0) := rfl
  rw [E.out]
  clear E
  have dx : (#[.int .i64 l, .int .i64 t] : Array Value).extract 0 (0 + 2) = #[.int .i64 l, .int .i64 t] := rfl
  have dr := hM
  cases ht : s.there l t
  · rw [ht] at TH
    clear hM dr ht hg hsl
    unfold spotV at TH
    go_enter Tryz.func62, Tryz.ntmps62
    go_upto_region 2 with (fail)
    obtain ⟨M1, hbx, hle, hbq, hnx⟩ := h.box (.cells #[.int .i64 l, .int .i64 t] 114)
    generalize w.alloc _ = wx at hbx ⊢
    generalize w.heap.size = bx at hbq hnx ⊢
    clear h
    try clear w
    have h := hbx
    clear hbx
    obtain ⟨w, rfl⟩ : ∃ x : World, x = wx := ⟨_, rfl⟩
    have hM1 : IsWard M1 p s := HM.out.le hle
    have TH1 := Lib.hid (fun (w : World) (h : Has σ M1 w) => TH.out M1 w h hM1)
    clear TH hM1
    go_wp2_with (first
      | ((with_reducible show wpList _ _ _ ({ dst := _, op := Op.load 114 _, type := _, pos := _, after := _, guard := _ } :: _) _ _); refine wpList_agg_has h rfl 114 _ rfl rfl hbq dx rfl Tryz.underlying114 rfl (by kernel_rfl) ?_; try simp only [Act.put, List.setIfInBounds_toArray, List.set_cons_zero, List.set_cons_succ])
      | (go_at_call 46; refine (TH1.out _ h).mono ?_; clear h; rintro _ w ⟨rfl, hh⟩))
    go_ret
    exact ⟨rfl, hh.le hle⟩
  · rw [ht] at TH
    obtain ⟨a1, a2, a3, a4⟩ := WardS.there_iff.1 ht
    obtain ⟨n, rfl⟩ : ∃ n : Nat, t = n := ⟨t.toNat, by omega⟩
    obtain ⟨g, hgg⟩ : ∃ g : Nat, valE l n s.gens = g := ⟨(valE l n s.gens).toNat, by omega⟩
    rw [hgg] at hg ⊢
    have LM := Lib.hid (fun (M' : Mm) (w : World) (h : Has σ M' w) => (linkMake_any n g (by omega) (by omega) w).mono (R' := fun r w' => r = .returned (.int .u64 (mkLink n g : Nat)) ∧ Has σ M' w') fun r w' hr => ⟨hr.1, hr.2 ▸ h⟩)
    have HG := Lib.hid hgg
    simp only [if_true, Int.toNat_natCast]
    clear hM dr ht hg hsl a1 a2 a3 a4 hgg
    unfold spotV at TH
    go_enter Tryz.func62, Tryz.ntmps62
    go_upto_region 2 with (fail)
    obtain ⟨M1, hbx, hle, hbq, hnx⟩ := h.box (.cells #[.int .i64 l, .int .i64 n] 114)
    generalize w.alloc _ = wx at hbx ⊢
    generalize w.heap.size = bx at hbq hnx ⊢
    clear h
    try clear w
    have h := hbx
    clear hbx
    obtain ⟨w, rfl⟩ : ∃ x : World, x = wx := ⟨_, rfl⟩
    replace hp := hle _ _ hp
    replace hgn := hle _ _ hgn
    have hM1 : IsWard M1 p s := HM.out.le hle
    have TH1 := Lib.hid (fun (w : World) (h : Has σ M1 w) => TH.out M1 w h hM1)
    clear TH hM1
    go_upto_region 4 with (first
      | ((with_reducible show wpList _ _ _ ({ dst := _, op := Op.load 114 _, type := _, pos := _, after := _, guard := _ } :: _) _ _); refine wpList_agg_has h rfl 114 _ rfl rfl hbq dx rfl Tryz.underlying114 rfl (by kernel_rfl) ?_; try simp only [Act.put, List.setIfInBounds_toArray, List.set_cons_zero, List.set_cons_succ])
      | (go_at_call 46; refine (TH1.out _ h).mono ?_; clear h; rintro _ w ⟨rfl, h⟩))
    refine wp_region_class (Has σ M1) (by kernel_rfl) (by kernel_rfl) h.drew ?_
    clear h
    repeat (first
      | go_big_quiet_skip
      | (go_big_quiet_want; first
        | (refine quiet_agg_has 114 _ rfl rfl hbq dx rfl Tryz.underlying114 rfl (by kernel_rfl) ?_; simp only [Act.put, List.setIfInBounds_toArray, List.set_cons_zero, List.set_cons_succ]; go_big_quiet_on)
        | (refine quiet_load_has 106 _ rfl rfl hp e3 Tryz.underlying106 rfl ?_; simp only [Act.put, List.setIfInBounds_toArray, List.set_cons_zero, List.set_cons_succ]; go_big_quiet_on)
        | ((refine quiet_lookup_spot (l := l) (s := n) _ _ rfl rfl rfl hgn ?_; rw [HG.out]); simp only [Act.put, List.setIfInBounds_toArray, List.set_cons_zero, List.set_cons_succ]; go_big_quiet_on)
        | (go_big_quiet_op; first | go_big_quiet_on | go_big_quiet_call (first | with_reducible exact fun _ => rfl | with_reducible exact LM.out M1 _))))
    refine wpQuiet_nil ?_
    try clear w
    intro w h
    go_wp2
    go_ret
    exact ⟨rfl, h.le hle⟩
end
end Go.Proofs.YtlpkimpdeeiaaaaGreat
