import Derived.Test.YtjeeldacnllipaaGreatLpWard
namespace Go.Proofs.YtjeeldacnllipaaGreat
set_option maxHeartbeats 100000000
set_option maxRecDepth 20000
set_option linter.unusedVariables false
set_option linter.unusedSimpArgs false
set_option linter.unnecessarySimpa false
open List renaming getElem_toArray → qA, getElem_cons_succ → qB, getElem_cons_zero → qC, setIfInBounds_toArray → qD, set_cons_zero → qE, set_cons_succ → qF
section
open Go.RowKit
theorem slips_eq {σ w : World} {M : Mm} (h : Has σ M w) {p : Nat} {s : WardS} (hM : IsWard M p s) : Calls Tryz.prog 71 #[.pointer (some ⟨p, 0, none⟩)] w fun r w' => r = .returned (.int .i64 (s.slips : Nat)) ∧ Has σ M w' := by
 have c4 : w.cell? ⟨p, 4, none⟩ = some (.int .i64 (s.slips : Nat)) := h.cell hM.obj 4
 go_enter Tryz.func71, Tryz.ntmps71
 go_wp2
 go_ret
 exact ⟨rfl, h⟩
theorem note_yes {σ w : World} {M : Mm} (h : Has σ M w) (p : Nat) : Calls Tryz.prog 90 #[.pointer (some ⟨p, 0, none⟩), .bool true] w fun r w' => r = .returned (.bool true) ∧ Has σ M w' := by
 go_enter Tryz.func90, Tryz.ntmps90
 go_wp2
 go_ret
 exact ⟨rfl, h⟩
def WardS.take (s : WardS) (l t : Int) : WardS := { s with held := putE l t 1 s.hclk s.held, hclk := if hasE l t s.held then s.hclk else s.hclk + 1 }
theorem take_yes {σ w : World} {M : Mm} (h : Has σ M w) {p : Nat} {s : WardS} (hM : IsWard M p s) (l t : Int) (ht : s.there l t = true) (hv : valE l t s.held = 0) : Calls Tryz.prog 54 #[.pointer (some ⟨p, 0, none⟩), .int .i64 l, .int .i64 t] w fun r w' => r = .returned (.bool true) ∧ Has σ (M.upd s.hb (zH (s.take l t).held (s.take l t).hclk)) w' := by
 have TH := Lib.hid (fun (M' : Mm) (w : World) (h : Has σ M' w) (hM : IsWard M' p s) => rO h hM l t)
 rw [ht] at TH
 have NY := Lib.hid (fun (M' : Mm) (w : World) (h : Has σ M' w) => note_yes h p)
 have hp := hM.obj
 have hh := hM.held
 have e2 : s.cells[2]? = some (.map (some s.hb)) := rfl
 have E : Hid (zH (s.take l t).held (s.take l t).hclk = zH (putE l t 1 s.hclk s.held) (if hasE l t s.held then s.hclk else s.hclk + 1)) := rfl
 have HM := Lib.hid hM
 clear hM ht
 generalize zH (s.take l t).held (s.take l t).hclk = row at E ⊢
 have dx : (#[.int .i64 l, .int .i64 t] : Array Value).extract 0 (0 + 2) = #[.int .i64 l, .int .i64 t] := rfl
 unfold yF at TH
 go_enter Tryz.func54, Tryz.ntmps54
 go_upto_region 2 with (fail)
 obtain ⟨M1, hbx, hle, hbq, hnx⟩ := h.box (.cells #[.int .i64 l, .int .i64 t] 126)
 generalize w.alloc _ = wx at hbx ⊢
 generalize w.heap.size = bx at hbq hnx ⊢
 clear h
 try clear w
 have h := hbx
 clear hbx
 obtain ⟨w, rfl⟩ : ∃ x : World, x = wx := ⟨_, rfl⟩
 replace hp := hle _ _ hp
 replace hh := hle _ _ hh
 have hM1 : IsWard M1 p s := ⟨hp, hh, hle _ _ HM.out.gens, HM.out.ne⟩
 have TH1 := Lib.hid (fun (w : World) (h : Has σ M1 w) => TH.out M1 w h hM1)
 clear TH hM1
 refine zS (Has σ M1) (by kernel_rfl) (by kernel_rfl) h.drew ?_
 clear h
 repeat (first
  | go_big_quiet_skip
  | (go_big_quiet_want; first
   | (refine zL 126 _ rfl rfl hbq dx rfl Tryz.underlying126 rfl (by kernel_rfl) ?_; simp only [Act.put, qD, qE, qF]; go_big_quiet_on)
   | (refine zX 128 _ rfl rfl hp e2 Tryz.underlying128 rfl ?_; simp only [Act.put, qD, qE, qF]; go_big_quiet_on)
   | (refine xG (l := l) (s := t) _ _ rfl rfl rfl hh ?_; rw [hv]; simp only [Act.put, qD, qE, qF]; go_big_quiet_on)
   | (go_big_quiet_op; first | go_big_quiet_on | go_big_quiet_call (first | with_reducible exact fun _ => rfl | with_reducible exact TH1.out _ | with_reducible exact NY.out M1 _))))
 refine wpQuiet_nil ?_
 try clear w
 intro w h
 go_upto_region 4 with (fail)
 replace h := h.drew
 have np : p ≠ s.hb := HM.out.neh
 have nb : bx ≠ s.hb := fun e => by rw [e, hh] at hbq; unfold zH at hbq; cases hbq
 have hL := Mm.drop_le M1 s.hb
 have hpL := Mm.drop_of hp np
 have hbL := Mm.drop_of hbq nb
 have hU : ∀ o w', Has σ (M1.upd s.hb o) w' → Has σ (M1.drop s.hb) w' := fun o w' h => h.le (by
  have e := Mm.drop_upd_eq M1 s.hb o
  rw [← e]
  exact Mm.le_upd' (Mm.drop_none _ _) _)
 generalize M1.drop s.hb = ML at hL hpL hbL hU
 replace hU := Lib.hid hU
 refine wp_region_held_drew (S := Has σ (ML)) (by kernel_rfl) (h.le hL) (fun hHeld => ?_)
 refine tkB 0 ?_
 refine tkB 1 ?_
 refine tkB 2 ?_
 try simp only [qA, qB, qC, Act.put, qD, qE, qF]
 refine tkA 3 rfl hHeld (zU rfl 128 _ rfl rfl hpL e2 Tryz.underlying128 rfl) ?_
 try simp only [qA, qB, qC, Act.put, qD, qE, qF]
 refine tkA 4 rfl hHeld (yZ rfl 126 _ rfl rfl hbL dx rfl Tryz.underlying126 rfl (by kernel_rfl)) ?_
 try simp only [qA, qB, qC, Act.put, qD, qE, qF]
 generalize w.drew = w1 at h hHeld ⊢
 clear w
 obtain ⟨w, rfl⟩ : ∃ q : World, q = w1 := ⟨_, rfl⟩
 refine op1 5 rfl fun K hK => ?_
 (refine oL h rfl _ _ _ rfl rfl rfl rfl hh ?_; clear h; intro w h)
 refine hK.out _ _ (hU.out _ _ h) (fun hHeld => ?_)
 clear hK K
 try simp only [Act.put, qD, qE, qF]
 refine wpAnyH_done (by kernel_rfl) ?_ _
 go_wp2
 go_ret
 refine ⟨rfl, ?_⟩
 rw [E.out]
 exact h.le (Mm.upd_mono hle _ _)
end
end Go.Proofs.YtjeeldacnllipaaGreat
