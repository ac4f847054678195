/- Walks of layer 7 (warden): a slot is taken. -/
import Derived.Test.YtlpkimpdeeiaaaaGreatWard
namespace Go.Proofs.YtlpkimpdeeiaaaaGreat
open Go.RowKit
set_option linter.unusedVariables false
set_option linter.unusedSimpArgs false
set_option linter.unnecessarySimpa false
theorem note_yes {σ w : World} {M : Mm} (h : Has σ M w) (p : Nat) : Calls Tryz.prog 45 #[.pointer (some ⟨p, 0, none⟩), .bool true] w fun r w' => r = .returned (.bool true) ∧ Has σ M w' := by
  go_enter Tryz.func45, Tryz.ntmps45
  go_wp2
  go_ret
  exact ⟨rfl, h⟩
def WardS.take (s : WardS) (l t : Int) : WardS := { s with held := putE l t 1 s.hclk s.held, hclk := if hasE l t s.held then s.hclk else s.hclk + 1 }
set_option maxHeartbeats 2000000 in
set_option maxRecDepth 20000 in
theorem take_yes {σ w : World} {M : Mm} (h : Has σ M w) {p : Nat} {s : WardS} (hM : IsWard M p s) (l t : Int) (ht : s.there l t = true) (hv : valE l t s.held = 0) : Calls Tryz.prog 23 #[.pointer (some ⟨p, 0, none⟩), .int .i64 l, .int .i64 t] w fun r w' => r = .returned (.bool true) ∧ Has σ (M.upd s.hb (mapRow (s.take l t).held (s.take l t).hclk)) w' := by
  have TH := Lib.hid (fun (M' : Mm) (w : World) (h : Has σ M' w) (hM : IsWard M' p s) => there_eq h hM l t)
  rw [ht] at TH
  have NY := Lib.hid (fun (M' : Mm) (w : World) (h : Has σ M' w) => note_yes h p)
  have hp := hM.obj
  have hh := hM.held
  have e2 : s.cells[2]? = some (.map (some s.hb)) := rfl
  have E : Hid (mapRow (s.take l t).held (s.take l t).hclk = mapRow (putE l t 1 s.hclk s.held) (if hasE l t s.held then s.hclk else s.hclk + 1)) := rfl
  have HM := Lib.hid hM
  clear hM ht
  generalize mapRow (s.take l t).held (s.take l t).hclk = row at E ⊢
  have dx : (#[.int .i64 l, .int .i64 t] : Array Value).extract 0 (0 + 2) = #[.int .i64 l, .int .i64 t] := rfl
  unfold spotV at TH
  go_enter Tryz.func23, Tryz.ntmps23
  go_upto_region 2 with (fail)
  obtain ⟨M1, hbx, hle, hbq, hnx⟩ := h.box (.cells #[.int .i64 l, .int .i64 t] 114)
  generalize w.alloc _ = wx at hbx ⊢
  generalize w.heap.size = bx at hbq hnx ⊢
  clear h
  try clear w
  have h := hbx
  clear hbx
  obtain ⟨w, rfl⟩ : ∃ x : World, x = wx := ⟨_, rfl⟩
  replace hp := hle _ _ hp
  replace hh := hle _ _ hh
  have hM1 : IsWard M1 p s := ⟨hp, hh, hle _ _ HM.out.gens, HM.out.ne⟩
  have TH1 := Lib.hid (fun (w : World) (h : Has σ M1 w) => TH.out M1 w h hM1)
  clear TH hM1
  refine wp_region_class (Has σ M1) (by kernel_rfl) (by kernel_rfl) h.drew ?_
  clear h
  repeat (first
    | go_big_quiet_skip
    | (go_big_quiet_want; first
      | (refine quiet_agg_has 114 _ rfl rfl hbq dx rfl Tryz.underlying114 rfl (by kernel_rfl) ?_; simp only [Act.put, List.setIfInBounds_toArray, List.set_cons_zero, List.set_cons_succ]; go_big_quiet_on)
      | (refine quiet_load_has 106 _ rfl rfl hp e2 Tryz.underlying106 rfl ?_; simp only [Act.put, List.setIfInBounds_toArray, List.set_cons_zero, List.set_cons_succ]; go_big_quiet_on)
      | (refine quiet_lookup_spot (l := l) (s := t) _ _ rfl rfl rfl hh ?_; rw [hv]; simp only [Act.put, List.setIfInBounds_toArray, List.set_cons_zero, List.set_cons_succ]; go_big_quiet_on)
      | (go_big_quiet_op; first | go_big_quiet_on | go_big_quiet_call (first | with_reducible exact fun _ => rfl | with_reducible exact TH1.out _ | with_reducible exact NY.out M1 _))))
  refine wpQuiet_nil ?_
  try clear w
  intro w h
  go_upto_region 4 with (fail)
  replace h := h.drew
  have np : p ≠ s.hb := HM.out.neh
  have nb : bx ≠ s.hb := fun e => by rw [e, hh] at hbq; unfold mapRow at hbq; cases hbq
  have hL := Mm.drop_le M1 s.hb
  have hpL := Mm.drop_of hp np
  have hbL := Mm.drop_of hbq nb
  have hU : ∀ o w', Has σ (M1.upd s.hb o) w' → Has σ (M1.drop s.hb) w' := fun o w' h => h.le (by
    have e := Mm.drop_upd_eq M1 s.hb o
    rw [← e]
    exact Mm.le_upd' (Mm.drop_none _ _) _)
  generalize M1.drop s.hb = ML at hL hpL hbL hU
  replace hU := Lib.hid hU
  refine wp_region_held_drew (S := Has σ (ML)) (by kernel_rfl) (h.le hL) (fun hHeld => ?_)
  refine wpAnyH_take (i := 0) (v := ?_) rfl (by kernel_rfl) (by kernel_rfl) (by kernel_rfl) (fun _ _ _ h => h) (Or.inl ⟨by rfl, ?_⟩) hHeld ?_
  rotate_left
  · (intro wz _; go_simp; try with_reducible rfl)
  try simp only [List.getElem_toArray, List.getElem_cons_succ, List.getElem_cons_zero, Act.put, List.setIfInBounds_toArray, List.set_cons_zero, List.set_cons_succ]
  refine wpAnyH_take (i := 1) (v := ?_) rfl (by kernel_rfl) (by kernel_rfl) (by kernel_rfl) (fun _ _ _ h => h) (Or.inl ⟨by rfl, ?_⟩) hHeld ?_
  rotate_left
  · (intro wz _; go_simp; try with_reducible rfl)
  try simp only [List.getElem_toArray, List.getElem_cons_succ, List.getElem_cons_zero, Act.put, List.setIfInBounds_toArray, List.set_cons_zero, List.set_cons_succ]
  refine wpAnyH_take (i := 2) (v := ?_) rfl (by kernel_rfl) (by kernel_rfl) (by kernel_rfl) (fun _ _ _ h => h) (Or.inl ⟨by rfl, ?_⟩) hHeld ?_
  rotate_left
  · (intro wz _; go_simp; try with_reducible rfl)
  try simp only [List.getElem_toArray, List.getElem_cons_succ, List.getElem_cons_zero, Act.put, List.setIfInBounds_toArray, List.set_cons_zero, List.set_cons_succ]
  refine wpAnyH_take (i := 3) (v := _) rfl (by kernel_rfl) (by kernel_rfl) (by kernel_rfl) (fun _ _ _ h => h) (yields_load1 rfl 106 _ rfl rfl hpL e2 Tryz.underlying106 rfl) hHeld ?_
  try simp only [List.getElem_toArray, List.getElem_cons_succ, List.getElem_cons_zero, Act.put, List.setIfInBounds_toArray, List.set_cons_zero, List.set_cons_succ]
  refine wpAnyH_take (i := 4) (v := _) rfl (by kernel_rfl) (by kernel_rfl) (by kernel_rfl) (fun _ _ _ h => h) (yields_agg rfl 114 _ rfl rfl hbL dx rfl Tryz.underlying114 rfl (by kernel_rfl)) hHeld ?_
  try simp only [List.getElem_toArray, List.getElem_cons_succ, List.getElem_cons_zero, Act.put, List.setIfInBounds_toArray, List.set_cons_zero, List.set_cons_succ]
  generalize w.drew = w1 at h hHeld ⊢
  clear w
  obtain ⟨w, rfl⟩ : ∃ q : World, q = w1 := ⟨_, rfl⟩
  refine wpAnyH_ready (rs := [5]) (by kernel_rfl) (by simp) ?_
  refine AllReadyH.cons rfl (fun K hK => ?_) AllReadyH.nil
  (refine step_update_spot h rfl _ _ _ rfl rfl rfl rfl hh ?_; clear h; intro w h)
  refine hK.out _ _ (hU.out _ _ h) (fun hHeld => ?_)
  clear hK K
  try simp only [Act.put, List.setIfInBounds_toArray, List.set_cons_zero, List.set_cons_succ]
  refine wpAnyH_done (by kernel_rfl) ?_ _
  go_wp2
  go_ret
  refine ⟨rfl, ?_⟩
  rw [E.out]
  exact h.le (Mm.upd_mono hle _ _)
end Go.Proofs.YtlpkimpdeeiaaaaGreat
