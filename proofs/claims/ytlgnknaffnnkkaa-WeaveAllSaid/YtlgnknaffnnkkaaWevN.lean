/- Weaver: All; two scripts are equal up to a level. -/
import Derived.Test.YtlgnknaffnnkkaaWevM
namespace Go.Proofs.Ytlgnknaffnnkkaa
open Go.RowKit
set_option linter.unusedVariables false
set_option linter.unusedSimpArgs false
set_option linter.unnecessarySimpa false
theorem RdS.congr {M : Mm} {p : Nat → Value} {e : Value} {P P' : Nat → List PCall} {E E' : List PEnt} (h : RdS M p e P E) (hP : ∀ t, t < 8 → P t = P' t) (hE : E = E') : RdS M p e P' E' := by
  subst hE
  exact ⟨fun t ht => by rw [← hP t ht]; exact h.progs t ht, h.ents⟩
theorem keepP_le (c : Nat → Int) (l : Int) (P : Nat → List PCall) (t n : Nat) (h : (P t).length ≤ n) : (keepP c l false P t).length ≤ n := by unfold keepP; split; exact h; simp
set_option maxHeartbeats 2000000 in
theorem equal_true {σ w : World} {M : Mm} (h : Has σ M w) (c : Nat → Int) (p p' : Nat → Value) (e e' : Value) (P P' : Nat → List PCall) (E E' : List PEnt) (hs : RdS M p e P E) (hs' : RdS M p' e' P' E') (hE : E.length ≤ 1000000) (hE' : E'.length ≤ 1000000) (hP : ∀ t, t < 8 → (P t).length ≤ 1000000) (l : Int)
    (hkP : ∀ t, t < 8 → keepP c l false P' t = keepP c l false P t) (hkE : keepE c l false E' = keepE c l false E) :
    Calls Try.prog 12 #[scrV c p e, scrV c p' e', .int .i64 l] w fun r w' => r = .returned (.bool true) ∧ Has σ M w' := by
  have K1 : Hid (∀ (M' : Mm) (w : World), Has σ M' w → M.le M' → Calls Try.prog 19 #[scrV c p e, .int .i64 l, .bool false] w fun r w' => ∃ p1 e1 M2, r = .returned (scrV c p1 e1) ∧ Has σ M2 w' ∧ M'.le M2 ∧ RdS M2 p1 e1 (keepP c l false P) (keepE c l false E)) := fun M' w h hle => keep_has h c p e P E (hs.le hle) hE l false
  have K2 : Hid (∀ (M' : Mm) (w : World), Has σ M' w → M.le M' → Calls Try.prog 19 #[scrV c p' e', .int .i64 l, .bool false] w fun r w' => ∃ p1 e1 M2, r = .returned (scrV c p1 e1) ∧ Has σ M2 w' ∧ M'.le M2 ∧ RdS M2 p1 e1 (keepP c l false P) (keepE c l false E)) := fun M' w h hle => (keep_has h c p' e' P' E' (hs'.le hle) hE' l false).mono fun r w' ⟨p1, e1, M2, h1, h2, h3, h4⟩ => ⟨p1, e1, M2, h1, h2, h3, h4.congr hkP hkE⟩
  have SM : Hid (∀ (M' : Mm) (w : World) (p1 p2 : Nat → Value) (e1 e2 : Value), Has σ M' w → RdS M' p1 e1 (keepP c l false P) (keepE c l false E) → RdS M' p2 e2 (keepP c l false P) (keepE c l false E) → Calls Try.prog 9 #[scrV c p1 e1, scrV c p2 e2] w fun e w' => e = .returned (.bool true) ∧ Has σ M' w') := fun M' w p1 p2 e1 e2 h h1 h2 => same_true h c p1 p2 e1 e2 _ _ h1 h2 (Nat.le_trans (List.length_filter_le _ _) hE) (fun t ht => keepP_le c l P t _ (hP t ht))
  have x1 := scr_all c p e
  have x2 := scr_all c p' e'
  have z1 := scr_size c p e
  have z2 := scr_size c p' e'
  clear hs hs' hP hkP hkE
  simp only [scrV] at K1 K2 SM ⊢
  generalize scrRow c p e = r1 at *
  generalize scrRow c p' e' = r2 at *
  generalize keepP c l false P = PK at *
  generalize keepE c l false E = EK at *
  generalize hsr : (fun p e => scrRow c p e) = sr at *
  have HSR : Hid (∀ pf e, scrRow c pf e = sr pf e) := fun pf e => by rw [← hsr]
  clear hsr
  simp only [HSR.out] at K1 K2 SM
  go_enter Try.func12, Try.ntmps12
  go_upto_region 1 with (fail)
  obtain ⟨M2, hbx, hle2, hb3, hb4, hn3, hn4⟩ := h.box2 (.cells r1 29) (.cells r2 29)
  generalize (w.alloc _).alloc _ = wx at hbx ⊢
  have hne_b3_b4 : w.heap.size ≠ w.heap.size + 1 := Nat.ne_of_lt (Nat.lt_succ_self _)
  generalize w.heap.size + 1 = b4 at hb4 hn4 hne_b3_b4 ⊢
  generalize w.heap.size = b3 at hb3 hn3 hne_b3_b4 ⊢
  clear h
  try clear w
  have h := hbx
  clear hbx
  obtain ⟨w, rfl⟩ : ∃ x : World, x = wx := ⟨_, rfl⟩
  have K1k := Lib.hid (fun (w : World) (h : Has σ M2 w) => K1.out M2 w h hle2)
  replace h := h.drew
  refine wp_region_held_drew (S := Has σ (M2)) (by kernel_rfl) (h) (fun hHeld => ?_)
  refine wpAnyH_take (i := 0) (v := _) rfl (by kernel_rfl) (by kernel_rfl) (by kernel_rfl) (fun _ _ _ h => h) (yields_agg rfl 29 _ rfl rfl hb3 x1 z1 Try.underlying29 rfl (by kernel_rfl)) hHeld ?_
  try simp only [Act.put, List.setIfInBounds_toArray, List.set_cons_zero, List.set_cons_succ]
  refine wpAnyH_take (i := 1) (v := ?_) rfl (by kernel_rfl) (by kernel_rfl) (by kernel_rfl) (fun _ _ _ h => h) (Or.inl ⟨by rfl, ?_⟩) hHeld ?_
  rotate_left
  · (intro wz _; go_simp; try with_reducible rfl)
  try simp only [Act.put, List.setIfInBounds_toArray, List.set_cons_zero, List.set_cons_succ]
  refine wpAnyH_take (i := 3) (v := _) rfl (by kernel_rfl) (by kernel_rfl) (by kernel_rfl) (fun _ _ _ h => h) (yields_agg rfl 29 _ rfl rfl hb4 x2 z2 Try.underlying29 rfl (by kernel_rfl)) hHeld ?_
  try simp only [Act.put, List.setIfInBounds_toArray, List.set_cons_zero, List.set_cons_succ]
  refine wpAnyH_take (i := 4) (v := ?_) rfl (by kernel_rfl) (by kernel_rfl) (by kernel_rfl) (fun _ _ _ h => h) (Or.inl ⟨by rfl, ?_⟩) hHeld ?_
  rotate_left
  · (intro wz _; go_simp; try with_reducible rfl)
  try simp only [Act.put, List.setIfInBounds_toArray, List.set_cons_zero, List.set_cons_succ]
  generalize w.drew = w1 at h hHeld ⊢
  clear w
  obtain ⟨w, rfl⟩ : ∃ x : World, x = w1 := ⟨_, rfl⟩
  refine wpAnyH_ready (rs := [2]) (by kernel_rfl) (by simp) ?_
  refine AllReadyH.cons rfl (fun K hK => ?_) AllReadyH.nil
  (go_simp; go_wp2_with (go_at_call 19; refine (K1k.out _ h).mono ?_; clear h; rintro r w ⟨p1, e1, M3, rfl, h, hle3, hR1⟩))
  refine hK.out _ _ (h.le hle3) (fun hHeld => ?_)
  clear hK K
  try simp only [Act.put, List.setIfInBounds_toArray, List.set_cons_zero, List.set_cons_succ]
  have K2k := Lib.hid (fun (w : World) (h : Has σ M3 w) => K2.out M3 w h (Mm.le_trans hle2 hle3))
  refine wpAnyH_ready (rs := [5]) (by kernel_rfl) (by simp) ?_
  refine AllReadyH.cons rfl (fun K hK => ?_) AllReadyH.nil
  (go_simp; go_wp2_with (go_at_call 19; refine (K2k.out _ h).mono ?_; clear h; rintro r w ⟨p2, e2, M5, rfl, h, hle5, hR2⟩))
  refine hK.out _ _ (h.le (Mm.le_trans hle3 hle5)) (fun hHeld => ?_)
  clear hK K
  try simp only [Act.put, List.setIfInBounds_toArray, List.set_cons_zero, List.set_cons_succ]
  have SMk := Lib.hid (fun (w : World) (h : Has σ M5 w) => SM.out M5 w p1 p2 e1 e2 h (hR1.le hle5) hR2)
  refine wpAnyH_ready (rs := [6]) (by kernel_rfl) (by simp) ?_
  refine AllReadyH.cons rfl (fun K hK => ?_) AllReadyH.nil
  (go_simp; go_wp2_with (go_at_call 9; refine (SMk.out _ h).mono ?_; clear h; rintro r w ⟨rfl, h⟩))
  refine hK.out _ _ (h.le (Mm.le_trans hle3 hle5)) (fun hHeld => ?_)
  clear hK K
  try simp only [Act.put, List.setIfInBounds_toArray, List.set_cons_zero, List.set_cons_succ]
  refine wpAnyH_ready (rs := [7]) (by kernel_rfl) (by simp) ?_
  refine AllReadyH.cons rfl (fun K hK => ?_) AllReadyH.nil
  go_simp
  refine hK.out _ _ (h.le (Mm.le_trans hle3 hle5)) (fun hHeld => ?_)
  clear hK K
  try simp only [Act.put, List.setIfInBounds_toArray, List.set_cons_zero, List.set_cons_succ]
  refine wpAnyH_done (by kernel_rfl) ?_ _
  go_wp2
  go_ret
  exact ⟨rfl, h.le (Mm.le_trans hle2 (Mm.le_trans hle3 hle5))⟩
set_option maxHeartbeats 1000000 in
theorem all_has {σ w : World} {M : Mm} (h : Has σ M w) (c : Nat → Int) (p : Nat → Value) (e : Value) (l : Int) :
    Calls Try.prog 7 #[scrV c p e, .int .i64 l] w fun r w' => ∃ bs bl M', r = .returned (.func (.func 15) #[] #[.pointer (some ⟨bs, 0, none⟩), .pointer (some ⟨bl, 0, none⟩)]) ∧ Has σ M' w' ∧ M.le M' ∧ M' bs = some (.cells (scrRow c p e) 29) ∧ M' bl = some (.cells #[.int .i64 l] 3) ∧ M bs = none ∧ M bl = none := by
  simp only [scrV]
  generalize scrRow c p e = sr
  go_enter Try.func7, Try.ntmps7
  go_upto_region 1 with (fail)
  obtain ⟨M2, hbx, hle2, hb3, hb4, hn3, hn4⟩ := h.box2 (.cells sr 29) (.cells #[.int .i64 l] 3)
  generalize (w.alloc _).alloc _ = wx at hbx ⊢
  have hne_b3_b4 : w.heap.size ≠ w.heap.size + 1 := Nat.ne_of_lt (Nat.lt_succ_self _)
  generalize w.heap.size + 1 = b4 at hb4 hn4 hne_b3_b4 ⊢
  generalize w.heap.size = b3 at hb3 hn3 hne_b3_b4 ⊢
  clear h
  try clear w
  have h := hbx
  clear hbx
  obtain ⟨w, rfl⟩ : ∃ x : World, x = wx := ⟨_, rfl⟩
  go_wp2
  go_ret
  exact ⟨b3, b4, M2, rfl, h, hle2, hb3, hb4, hn3, hn4⟩
set_option maxHeartbeats 2000000 in
theorem alike1_has {σ w : World} {M : Mm} (h : Has σ M w) (c : Nat → Int) (p p' : Nat → Value) (e e' : Value) (P P' : Nat → List PCall) (E E' : List PEnt) (hs : RdS M p e P E) (hs' : RdS M p' e' P' E') (hE : E.length ≤ 1000000) (hE' : E'.length ≤ 1000000) (hP : ∀ t, t < 8 → (P t).length ≤ 1000000) (l : Int)
    (hkP : ∀ t, t < 8 → keepP c l false P' t = keepP c l false P t) (hkE : keepE c l false E' = keepE c l false E) (nm : ByteArray) {bf bs bl : Nat} (hbf : M bf = some (.cells #[.bool true] 4)) (hbs : M bs = some (.cells (scrRow c p e) 29)) (hbl : M bl = some (.cells #[.int .i64 l] 3)) :
    Calls Try.prog 11 #[.string nm, scrV c p' e', .pointer (some ⟨bf, 0, none⟩), .pointer (some ⟨bs, 0, none⟩), .pointer (some ⟨bl, 0, none⟩)] w fun r w' => r = .returned (.bool true) ∧ Has σ M w' := by
  have EQ : Hid (∀ (M' : Mm) (w : World), Has σ M' w → M.le M' → Calls Try.prog 12 #[scrV c p e, scrV c p' e', .int .i64 l] w fun r w' => r = .returned (.bool true) ∧ Has σ M' w') := fun M' w h hle => equal_true h c p p' e e' P P' E E' (hs.le hle) (hs'.le hle) hE hE' hP l hkP hkE
  have x1 := scr_all c p e
  have x2 := scr_all c p' e'
  have z1 := scr_size c p e
  have z2 := scr_size c p' e'
  have dl : (#[.int .i64 l] : Array Value)[0]? = some (.int .i64 l) := rfl
  have df : (#[.bool true] : Array Value)[0]? = some (.bool true) := rfl
  have lt1 : 0 < (#[.bool true] : Array Value).size := Nat.lt_succ_self 0
  clear hs hs' hP hkP hkE
  simp only [scrV] at EQ ⊢
  generalize scrRow c p e = r1 at *
  generalize scrRow c p' e' = r2 at *
  go_enter Try.func11, Try.ntmps11
  go_upto_region 1 with (fail)
  obtain ⟨M2, hbx, hle2, hb6, hn6⟩ := h.box (.cells r2 29)
  generalize w.alloc _ = wx at hbx ⊢
  generalize w.heap.size = b6 at hb6 hn6 ⊢
  clear h
  try clear w
  have h := hbx
  clear hbx
  obtain ⟨w, rfl⟩ : ∃ x : World, x = wx := ⟨_, rfl⟩
  have EQk := Lib.hid (fun (w : World) (h : Has σ M2 w) => EQ.out M2 w h hle2)
  have hbf' := hle2 _ _ hbf
  have hbs' := hle2 _ _ hbs
  have hbl' := hle2 _ _ hbl
  go_wp2_with (first
    | (with_reducible show wpList _ _ _ ({ dst := _, op := Op.load 4 _, type := _, pos := _, after := _, guard := _ } :: _) _ _; refine wpList_load1_has h rfl 4 _ rfl rfl hbf' df Try.underlying4 rfl ?_)
    | ((with_reducible show wpList _ _ _ ({ dst := _, op := Op.load 29 _, type := _, pos := _, after := _, guard := _ } :: _) _ _); refine wpList_agg_has h rfl 29 _ rfl rfl hbs' x1 z1 Try.underlying29 rfl (by kernel_rfl) ?_; try simp only [Act.put, List.setIfInBounds_toArray, List.set_cons_zero, List.set_cons_succ])
    | ((with_reducible show wpList _ _ _ ({ dst := _, op := Op.load 29 _, type := _, pos := _, after := _, guard := _ } :: _) _ _); refine wpList_agg_has h rfl 29 _ rfl rfl hb6 x2 z2 Try.underlying29 rfl (by kernel_rfl) ?_; try simp only [Act.put, List.setIfInBounds_toArray, List.set_cons_zero, List.set_cons_succ])
    | (with_reducible show wpList _ _ _ ({ dst := _, op := Op.load 3 _, type := _, pos := _, after := _, guard := _ } :: _) _ _; refine wpList_load1_has h rfl 3 _ rfl rfl hbl' dl Try.underlying3 rfl ?_)
    | (go_at_call 12; refine (EQk.out _ h).mono ?_; clear h; rintro r w ⟨rfl, h⟩)
    | (with_reducible show wpList _ _ _ ({ dst := _, op := Op.store 4 _ _, type := _, pos := _, after := _, guard := _ } :: _) _ _; refine wpList_store1_has h rfl 4 _ _ rfl rfl rfl hbf' lt1 rfl (by kernel_rfl) ?_; clear h; intro w h))
  go_ret
  replace h : Has σ (M2.upd bf (.cells #[.bool true] 4)) w := h
  refine ⟨rfl, h.le fun c x hc => ?_⟩
  by_cases e : c = bf
  · subst e; rw [Mm.upd_same]; rw [hbf] at hc; exact hc
  · rw [Mm.upd_ne e]; exact hle2 _ _ hc
end Go.Proofs.Ytlgnknaffnnkkaa
