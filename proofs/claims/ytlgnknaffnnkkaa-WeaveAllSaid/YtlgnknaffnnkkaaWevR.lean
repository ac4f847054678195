/- WeaveAll: the law's walk. -/
import Derived.Test.YtlgnknaffnnkkaaMakeB
import Derived.Test.YtlgnknaffnnkkaaMakeC
import Derived.Test.YtlgnknaffnnkkaaMakeD
import Derived.Test.YtlgnknaffnnkkaaMakeE
import Derived.Test.YtlgnknaffnnkkaaMakeF
namespace Go.Proofs.Ytlgnknaffnnkkaa
open Go.RowKit
set_option linter.unusedVariables false
set_option linter.unusedSimpArgs false
set_option linter.unnecessarySimpa false
theorem make_has {σ w : World} {M0 M : Mm} (h : Has σ M w) (hle0 : M0.le M) (c : Nat → Int) (p : Nat → Value) (e : Value) (P : Nat → List PCall) (E : List PEnt) (hs : RdS M0 p e P E) (hE : E.length ≤ 2000) (hP : ∀ t, t < 8 → (P t).length ≤ 60) (l : Int) {k : Nat} (hk : k < 9) :
    Calls Try.prog 10 #[scrV c p e, .int .i64 l, .int .i64 k] w fun r w' => Made σ M0 M w' c (varP c l P k) (varE c l E k) r := by
  rcases k with _ | _ | _ | _ | _ | _ | _ | _ | _ | k
  · exact make0_has h hle0 c p e P E hs hE hP l
  · exact make1_has h hle0 c p e P E hs hE hP l
  · exact make2_has h hle0 c p e P E hs hE hP l
  · exact make3_has h hle0 c p e P E hs hE hP l
  · exact make4_has h hle0 c p e P E hs hE hP l
  · exact make5_has h hle0 c p e P E hs hE hP l
  · exact make6_has h hle0 c p e P E hs hE hP l
  · exact make7_has h hle0 c p e P E hs hE hP l
  · exact make8_has h hle0 c p e P E hs hE hP l
  · omega
theorem varP_le (c : Nat → Int) (l : Int) (P : Nat → List PCall) (k t n : Nat) (h : (P t).length ≤ n) : (varP c l P k t).length ≤ n := by
  unfold varP
  split
  · exact keepP_le c l P t n h
  · unfold progTo; split
    · simp
    · exact h
  · unfold progTo; split
    · rw [List.length_reverse]; exact h
    · exact h
  · exact h
set_option maxRecDepth 100000 in
set_option maxHeartbeats 1000000 in
theorem all1_has {σ w : World} {M : Mm} (h : Has σ M w) (c : Nat → Int) (p p' : Nat → Value) (e e' : Value) (P : Nat → List PCall) (E : List PEnt) (hs : RdS M p e P E) (hE : E.length ≤ 2000) (hP : ∀ t, t < 8 → (P t).length ≤ 60) (l most : Int) {k : Nat} (hk : k < 9) (hs' : RdS M p' e' (varP c l P k) (varE c l E k))
    {bf bn bN bs bl bm bq : Nat} (hbf : M bf = some (.cells #[.bool true] 4)) (hbn : M bn = some (.cells #[.int .i64 k] 3)) (hbN : M bN = some (.cells #[.slice (some ⟨bq, 0, none⟩) 9 9] 32)) (hbq : M bq = some (.cells namesRow 9)) (hbs : M bs = some (.cells (scrRow c p e) 29)) (hbl : M bl = some (.cells #[.int .i64 l] 3)) (hbm : M bm = some (.cells #[.int .i64 most] 3)) (hfn : bf ≠ bn) (hmn : bm ≠ bn) :
    Calls Try.prog 8 #[.string (nameOf k), scrV c p' e', .pointer (some ⟨bf, 0, none⟩), .pointer (some ⟨bn, 0, none⟩), .pointer (some ⟨bN, 0, none⟩), .pointer (some ⟨bs, 0, none⟩), .pointer (some ⟨bl, 0, none⟩), .pointer (some ⟨bm, 0, none⟩)] w fun r w' => r = .returned (.bool (decide ((k : Int) + 1 ≠ most))) ∧ Has σ (M.upd bn (.cells #[.int .i64 ((k : Int) + 1)] 3)) w' := by
  have MK : Hid (∀ (M' : Mm) (w : World), Has σ M' w → M.le M' → Calls Try.prog 10 #[scrV c p e, .int .i64 l, .int .i64 k] w fun r w' => ∃ p2 e2 M2, r = .returned (scrV c p2 e2) ∧ Has σ M2 w' ∧ M'.le M2 ∧ RdS M2 p2 e2 (varP c l P k) (varE c l E k)) := fun M' w h hle => (make_has h hle c p e P E hs hE hP l hk).mono fun r w' ⟨p2, e2, M2, h1, h2, h3, h4⟩ => ⟨p2, e2, M2, h1, h2, h3, h4 M2 (fun _ _ h _ => h)⟩
  have SM : Hid (∀ (M' : Mm) (w : World) (p2 : Nat → Value) (e2 : Value), Has σ M' w → M.le M' → RdS M' p2 e2 (varP c l P k) (varE c l E k) → Calls Try.prog 9 #[scrV c p' e', scrV c p2 e2] w fun e w' => e = .returned (.bool true) ∧ Has σ M' w') := fun M' w p2 e2 h hle h2 => same_true h c p' p2 e' e2 _ _ (hs'.le hle) h2 (by have := varE_le c l E k 2000 hE; omega) (fun t ht => by have := varP_le c l P k t 60 (hP t ht); omega)
  have x1 := scr_all c p e
  have x2 := scr_all c p' e'
  have z1 := scr_size c p e
  have z2 := scr_size c p' e'
  have gn := names_get hk
  have df : (#[.bool true] : Array Value)[0]? = some (.bool true) := rfl
  have dn : (#[.int .i64 k] : Array Value)[0]? = some (.int .i64 k) := rfl
  have dN : (#[.slice (some ⟨bq, 0, none⟩) 9 9] : Array Value)[0]? = some (.slice (some ⟨bq, 0, none⟩) 9 9) := rfl
  have dl : (#[.int .i64 l] : Array Value)[0]? = some (.int .i64 l) := rfl
  have dm : (#[.int .i64 most] : Array Value)[0]? = some (.int .i64 most) := rfl
  clear hs hs' hP hE
  simp only [scrV] at MK SM ⊢
  generalize hsr : (fun p e => scrRow c p e) = sr
  have HSR : Hid (∀ pf e, scrRow c pf e = sr pf e) := fun pf e => by rw [← hsr]
  clear hsr
  simp only [HSR.out] at MK SM x1 x2 z1 z2 hbs ⊢
  generalize sr p e = r1 at *
  generalize sr p' e' = r2 at *
  generalize namesRow = nrow at *
  generalize nameOf k = nk at *
  generalize varP c l P k = VP at *
  generalize varE c l E k = VE at *
  go_enter Try.func8, Try.ntmps8
  go_upto_region 1 with (fail)
  obtain ⟨M2, hbx, hle2, hb9, hn9⟩ := h.box (.cells r2 29)
  generalize w.alloc _ = wx at hbx ⊢
  generalize w.heap.size = b9 at hb9 hn9 ⊢
  clear h
  try clear w
  have h := hbx
  clear hbx
  obtain ⟨w, rfl⟩ : ∃ x : World, x = wx := ⟨_, rfl⟩
  have hbf2 := hle2 _ _ hbf
  have hbn2 := hle2 _ _ hbn
  have hbN2 := hle2 _ _ hbN
  have hbq2 := hle2 _ _ hbq
  have hbs2 := hle2 _ _ hbs
  have hbl2 := hle2 _ _ hbl
  have hbm2 := hle2 _ _ hbm
  have n9 : bf ≠ b9 := Mm.ne_of hn9 hbf
  -- what is known but for the flag
  have d9 := Mm.drop_of hb9 (Ne.symm n9)
  have MKk := Lib.hid (fun (w : World) (h : Has σ M2 w) => MK.out M2 w h hle2)
  have eqn : (nk.toList == nk.toList) = true := beq_self_eq_true _
  have hk' : (k : Int) < 9 := by omega
  replace h := h.drew
  refine wp_region_held_drew (S := Has σ (M2)) (by kernel_rfl) (h) (fun hHeld => ?_)
  refine wpAnyH_take (i := 0) (v := _) rfl (by kernel_rfl) (by kernel_rfl) (by kernel_rfl) (fun _ _ _ h => h) (yields_load1 rfl 4 _ rfl rfl hbf2 df Try.underlying4 rfl) hHeld ?_
  try simp only [List.getElem_toArray, List.getElem_cons_succ, List.getElem_cons_zero, Act.put, List.setIfInBounds_toArray, List.set_cons_zero, List.set_cons_succ]
  refine wpAnyH_take (i := 1) (v := ?_) rfl (by kernel_rfl) (by kernel_rfl) (by kernel_rfl) (fun _ _ _ h => h) (Or.inl ⟨by rfl, ?_⟩) hHeld ?_
  rotate_left
  · (intro wz _; go_simp; try with_reducible rfl)
  try simp only [List.getElem_toArray, List.getElem_cons_succ, List.getElem_cons_zero, Act.put, List.setIfInBounds_toArray, List.set_cons_zero, List.set_cons_succ]
  refine wpAnyH_take (i := 2) (v := _) rfl (by kernel_rfl) (by kernel_rfl) (by kernel_rfl) (fun _ _ _ h => h) (yields_load1 rfl 3 _ rfl rfl hbn2 dn Try.underlying3 rfl) hHeld ?_
  try simp only [List.getElem_toArray, List.getElem_cons_succ, List.getElem_cons_zero, Act.put, List.setIfInBounds_toArray, List.set_cons_zero, List.set_cons_succ]
  refine wpAnyH_take (i := 3) (v := ?_) rfl (by kernel_rfl) (by kernel_rfl) (by kernel_rfl) (fun _ _ _ h => h) (Or.inl ⟨by rfl, ?_⟩) hHeld ?_
  rotate_left
  · (intro wz _; go_simp; try with_reducible rfl)
  try simp only [List.getElem_toArray, List.getElem_cons_succ, List.getElem_cons_zero, Act.put, List.setIfInBounds_toArray, List.set_cons_zero, List.set_cons_succ]
  refine wpAnyH_take (i := 4) (v := ?_) rfl (by kernel_rfl) (by kernel_rfl) (by kernel_rfl) (fun _ _ _ h => h) (Or.inl ⟨by rfl, ?_⟩) hHeld ?_
  rotate_left
  · (intro wz _; go_simp; try with_reducible rfl)
  try simp only [List.getElem_toArray, List.getElem_cons_succ, List.getElem_cons_zero, Act.put, List.setIfInBounds_toArray, List.set_cons_zero, List.set_cons_succ]
  refine wpAnyH_take (i := 5) (v := ?_) rfl (by kernel_rfl) (by kernel_rfl) (by kernel_rfl) (fun _ _ _ h => h) (Or.inl ⟨by rfl, ?_⟩) hHeld ?_
  rotate_left
  · (intro wz _; go_simp; try with_reducible rfl)
  try simp only [List.getElem_toArray, List.getElem_cons_succ, List.getElem_cons_zero, Act.put, List.setIfInBounds_toArray, List.set_cons_zero, List.set_cons_succ]
  refine wpAnyH_take (i := 6) (v := ?_) rfl (by kernel_rfl) (by kernel_rfl) (by kernel_rfl) (fun _ _ _ h => h) (Or.inl ⟨by rfl, ?_⟩) hHeld ?_
  rotate_left
  · (intro wz _; go_simp; try with_reducible rfl)
  try simp only [List.getElem_toArray, List.getElem_cons_succ, List.getElem_cons_zero, Act.put, List.setIfInBounds_toArray, List.set_cons_zero, List.set_cons_succ]
  refine wpAnyH_take (i := 7) (v := _) rfl (by kernel_rfl) (by kernel_rfl) (by kernel_rfl) (fun _ _ _ h => h) (yields_load1 rfl 32 _ rfl rfl hbN2 dN Try.underlying32 rfl) hHeld ?_
  try simp only [List.getElem_toArray, List.getElem_cons_succ, List.getElem_cons_zero, Act.put, List.setIfInBounds_toArray, List.set_cons_zero, List.set_cons_succ]
  refine wpAnyH_take (i := 8) (v := _) rfl (by kernel_rfl) (by kernel_rfl) (by kernel_rfl) (fun _ _ _ h => h) (yields_load1 rfl 3 _ rfl rfl hbn2 dn Try.underlying3 rfl) hHeld ?_
  try simp only [List.getElem_toArray, List.getElem_cons_succ, List.getElem_cons_zero, Act.put, List.setIfInBounds_toArray, List.set_cons_zero, List.set_cons_succ]
  refine wpAnyH_take (i := 9) (v := ?_) rfl (by kernel_rfl) (by kernel_rfl) (by kernel_rfl) (fun _ _ _ h => h) (Or.inl ⟨by rfl, ?_⟩) hHeld ?_
  rotate_left
  · (intro wz _; go_simp; try with_reducible rfl)
  try simp only [List.getElem_toArray, List.getElem_cons_succ, List.getElem_cons_zero, Act.put, List.setIfInBounds_toArray, List.set_cons_zero, List.set_cons_succ]
  refine wpAnyH_take (i := 10) (v := _) rfl (by kernel_rfl) (by kernel_rfl) (by kernel_rfl) (fun _ _ _ h => h) (yields_load1 rfl 9 _ rfl rfl hbq2 gn Try.underlying9 rfl) hHeld ?_
  try simp only [List.getElem_toArray, List.getElem_cons_succ, List.getElem_cons_zero, Act.put, List.setIfInBounds_toArray, List.set_cons_zero, List.set_cons_succ]
  refine wpAnyH_take (i := 11) (v := ?_) rfl (by kernel_rfl) (by kernel_rfl) (by kernel_rfl) (fun _ _ _ h => h) (Or.inl ⟨by rfl, ?_⟩) hHeld ?_
  rotate_left
  · (intro wz _; go_simp; try with_reducible rfl)
  try simp only [List.getElem_toArray, List.getElem_cons_succ, List.getElem_cons_zero, Act.put, List.setIfInBounds_toArray, List.set_cons_zero, List.set_cons_succ]
  refine wpAnyH_take (i := 12) (v := ?_) rfl (by kernel_rfl) (by kernel_rfl) (by kernel_rfl) (fun _ _ _ h => h) (Or.inl ⟨by rfl, ?_⟩) hHeld ?_
  rotate_left
  · (intro wz _; go_simp; try with_reducible rfl)
  try simp only [List.getElem_toArray, List.getElem_cons_succ, List.getElem_cons_zero, Act.put, List.setIfInBounds_toArray, List.set_cons_zero, List.set_cons_succ]
  refine wpAnyH_take (i := 13) (v := ?_) rfl (by kernel_rfl) (by kernel_rfl) (by kernel_rfl) (fun _ _ _ h => h) (Or.inl ⟨by rfl, ?_⟩) hHeld ?_
  rotate_left
  · (intro wz _; go_simp; try with_reducible rfl)
  try simp only [List.getElem_toArray, List.getElem_cons_succ, List.getElem_cons_zero, Act.put, List.setIfInBounds_toArray, List.set_cons_zero, List.set_cons_succ]
  refine wpAnyH_take (i := 14) (v := _) rfl (by kernel_rfl) (by kernel_rfl) (by kernel_rfl) (fun _ _ _ h => h) (yields_agg rfl 29 _ rfl rfl hb9 x2 z2 Try.underlying29 rfl (by kernel_rfl)) hHeld ?_
  try simp only [List.getElem_toArray, List.getElem_cons_succ, List.getElem_cons_zero, Act.put, List.setIfInBounds_toArray, List.set_cons_zero, List.set_cons_succ]
  refine wpAnyH_take (i := 15) (v := _) rfl (by kernel_rfl) (by kernel_rfl) (by kernel_rfl) (fun _ _ _ h => h) (yields_agg rfl 29 _ rfl rfl hbs2 x1 z1 Try.underlying29 rfl (by kernel_rfl)) hHeld ?_
  try simp only [List.getElem_toArray, List.getElem_cons_succ, List.getElem_cons_zero, Act.put, List.setIfInBounds_toArray, List.set_cons_zero, List.set_cons_succ]
  refine wpAnyH_take (i := 16) (v := _) rfl (by kernel_rfl) (by kernel_rfl) (by kernel_rfl) (fun _ _ _ h => h) (yields_load1 rfl 3 _ rfl rfl hbl2 dl Try.underlying3 rfl) hHeld ?_
  try simp only [List.getElem_toArray, List.getElem_cons_succ, List.getElem_cons_zero, Act.put, List.setIfInBounds_toArray, List.set_cons_zero, List.set_cons_succ]
  refine wpAnyH_take (i := 17) (v := _) rfl (by kernel_rfl) (by kernel_rfl) (by kernel_rfl) (fun _ _ _ h => h) (yields_load1 rfl 3 _ rfl rfl hbn2 dn Try.underlying3 rfl) hHeld ?_
  try simp only [List.getElem_toArray, List.getElem_cons_succ, List.getElem_cons_zero, Act.put, List.setIfInBounds_toArray, List.set_cons_zero, List.set_cons_succ]
  generalize w.drew = w1 at h hHeld ⊢
  clear w
  obtain ⟨w, rfl⟩ : ∃ x : World, x = w1 := ⟨_, rfl⟩
  refine wpAnyH_ready (rs := [18]) (by kernel_rfl) (by simp) ?_
  refine AllReadyH.cons rfl (fun K hK => ?_) AllReadyH.nil
  (go_simp; go_wp2_with (go_at_call 10; refine (MKk.out _ h).mono ?_; clear h; rintro r w ⟨p2, e2, M3, rfl, h, hle3, hR2⟩))
  refine hK.out _ _ (h.le hle3) (fun hHeld => ?_)
  clear hK K
  try simp only [Act.put, List.setIfInBounds_toArray, List.set_cons_zero, List.set_cons_succ]
  have SMk := Lib.hid (fun (w : World) (h : Has σ M3 w) => SM.out M3 w p2 e2 h (Mm.le_trans hle2 hle3) hR2)
  refine wpAnyH_ready (rs := [19]) (by kernel_rfl) (by simp) ?_
  refine AllReadyH.cons rfl (fun K hK => ?_) AllReadyH.nil
  (go_simp; go_wp2_with (go_at_call 9; refine (SMk.out _ h).mono ?_; clear h; rintro r w ⟨rfl, h⟩))
  refine hK.out _ _ (h.le hle3) (fun hHeld => ?_)
  clear hK K
  try simp only [Act.put, List.setIfInBounds_toArray, List.set_cons_zero, List.set_cons_succ]
  refine wpAnyH_take (i := 20) (v := ?_) rfl (by kernel_rfl) (by kernel_rfl) (by kernel_rfl) (fun _ _ _ h => h) (Or.inl ⟨by rfl, ?_⟩) hHeld ?_
  rotate_left
  · (intro wz _; go_simp; try with_reducible rfl)
  try simp only [List.getElem_toArray, List.getElem_cons_succ, List.getElem_cons_zero, Act.put, List.setIfInBounds_toArray, List.set_cons_zero, List.set_cons_succ]
  have hbf3 := hle3 _ _ hbf2
  have hc := h.cell hbf3 0
  have hz := h.free hbf3 0
  rw [df] at hc
  have hst := h.setCell hbf3 0 (.bool true)
  replace hst : Has σ (M3.upd bf (.cells #[.bool true] 4)) (w.setCell ⟨bf, 0, none⟩ (.bool true)) := hst
  have le3 : M2.le (M3.upd bf (.cells #[.bool true] 4)) := fun c x hx => by
    by_cases e : c = bf
    · subst e; rw [Mm.upd_same]; rw [hbf2] at hx; exact hx
    · rw [Mm.upd_ne e]; exact hle3 _ _ hx
  clear h
  have h := hst.le le3
  clear hst hbf3
  refine wpAnyH_ready (rs := [21]) (by kernel_rfl) (by simp) ?_
  refine AllReadyH.cons rfl (fun K hK => ?_) AllReadyH.nil
  go_simp
  refine hK.out _ _ (h) (fun hHeld => ?_)
  clear hK K
  try simp only [Act.put, List.setIfInBounds_toArray, List.set_cons_zero, List.set_cons_succ]
  refine wpAnyH_done (by kernel_rfl) ?_ _
  generalize World.setCell _ _ _ = w1 at h ⊢
  clear hc hz
  obtain ⟨w, rfl⟩ : ∃ x : World, x = w1 := ⟨_, rfl⟩
  have lt1 : 0 < (#[Value.int .i64 k] : Array Value).size := Nat.lt_succ_self 0
  go_upto_region 3 with (first
    | (with_reducible show wpList _ _ _ ({ dst := _, op := Op.load 3 _, type := _, pos := _, after := _, guard := _ } :: _) _ _; refine wpList_load1_has h rfl 3 _ rfl rfl hbn2 dn Try.underlying3 rfl ?_)
    | (with_reducible show wpList _ _ _ ({ dst := _, op := Op.store 3 _ _, type := _, pos := _, after := _, guard := _ } :: _) _ _; refine wpList_store1_has h rfl 3 _ _ rfl rfl rfl hbn2 lt1 rfl (by kernel_rfl) ?_; clear h; intro w h))
  replace h : Has σ (M2.upd bn (.cells #[.int .i64 ((k : Int) + 1)] 3)) w := h
  have hbn3 := Mm.upd_same M2 bn (.cells #[.int .i64 ((k : Int) + 1)] 3)
  have dn3 : (#[.int .i64 ((k : Int) + 1)] : Array Value)[0]? = some (.int .i64 ((k : Int) + 1)) := rfl
  have hbm3 : (M2.upd bn (.cells #[.int .i64 ((k : Int) + 1)] 3)) bm = some (.cells #[.int .i64 most] 3) := (Mm.upd_ne hmn).trans hbm2
  go_wp2_with (first
    | (with_reducible show wpList _ _ _ ({ dst := _, op := Op.load 3 _, type := _, pos := _, after := _, guard := _ } :: _) _ _; refine wpList_load1_has h rfl 3 _ rfl rfl hbn3 dn3 Try.underlying3 rfl ?_)
    | (with_reducible show wpList _ _ _ ({ dst := _, op := Op.load 3 _, type := _, pos := _, after := _, guard := _ } :: _) _ _; refine wpList_load1_has h rfl 3 _ rfl rfl hbm3 dm Try.underlying3 rfl ?_))
  go_ret
  refine ⟨?_, h.le (Mm.le_box hle2)⟩
  by_cases e : (k : Int) + 1 = most
  · simp [e]
  · simp [e]
theorem upd2_X {K M : Mm} {b b' : Nat} {o o' : Obj} (hne : b ≠ b') (hz : K b = none ∧ K b' = none) (hle : ((K.upd b o).upd b' o').le M) : ∃ K' : Mm, (K' b = none ∧ K' b' = none) ∧ ((K'.upd b o).upd b' o').le M ∧ ∀ c x, M c = some x → (((K.upd b o).upd b' o') c = none ∨ K c ≠ none) → K' c = some x := by
  have hb : ((K.upd b o).upd b' o') b = some o := (Mm.upd_ne hne).trans (Mm.upd_same _ _ _)
  have hb' : ((K.upd b o).upd b' o') b' = some o' := Mm.upd_same _ _ _
  refine ⟨(M.drop b).drop b', ⟨?_, Mm.drop_none _ _⟩, fun c x hc => ?_, fun c x hc hd => Mm.drop_of (Mm.drop_of hc fun e => ?_) fun e => ?_⟩
  · rw [show ((M.drop b).drop b') b = (M.drop b) b from if_neg hne]
    exact Mm.drop_none _ _
  · by_cases e' : c = b'
    · subst e'; rw [Mm.upd_same] at hc; rw [← hc]; exact hle _ _ hb'
    · rw [Mm.upd_ne e'] at hc
      by_cases e : c = b
      · subst e; rw [Mm.upd_same] at hc; rw [← hc]; exact hle _ _ hb
      · rw [Mm.upd_ne e] at hc; exact Mm.drop_le _ _ _ _ (Mm.drop_le _ _ _ _ hc)
  · subst e
    rcases hd with hd | hd
    · rw [hb] at hd; cases hd
    · exact hd hz.1
  · subst e
    rcases hd with hd | hd
    · rw [hb'] at hd; cases hd
    · exact hd hz.2
theorem Mm.le_upd2 {K : Mm} {b b' : Nat} {o o' : Obj} (hne : b ≠ b') (hz : K b = none ∧ K b' = none) : K.le ((K.upd b o).upd b' o') := Mm.le_trans (Mm.le_upd' hz.1 _) (Mm.le_upd' (by rw [Mm.upd_ne (Ne.symm hne)]; exact hz.2) _)
def wantOf (most : Int) : Nat := if 0 < most ∧ most < 9 then most.toNat else 9
set_option maxHeartbeats 2000000 in
theorem allAll_has {σ w : World} {M0 : Mm} (c : Nat → Int) (p : Nat → Value) (e : Value) (P : Nat → List PCall) (E : List PEnt) (hs : RdS M0 p e P E) (hE : E.length ≤ 2000) (hP : ∀ t, t < 8 → (P t).length ≤ 60) (l most : Int) {bs bl b2 b3 bm bf bn bN bq : Nat} (hbs : M0 bs = some (.cells (scrRow c p e) 29)) (hbl : M0 bl = some (.cells #[.int .i64 l] 3)) (hb2 : M0 b2 = some (.cells (scrRow c p e) 29)) (hb3 : M0 b3 = some (.cells #[.int .i64 l] 3)) (hbm : M0 bm = some (.cells #[.int .i64 most] 3)) (hbN : M0 bN = some (.cells #[.slice (some ⟨bq, 0, none⟩) 9 9] 32)) (hbq : M0 bq = some (.cells namesRow 9)) (hz : M0 bf = none ∧ M0 bn = none) (hne : bf ≠ bn) (h : Has σ ((M0.upd bf (.cells #[.bool true] 4)).upd bn (.cells #[.int .i64 0] 3)) w) :
    Calls Try.prog 15 #[.func (.func 8) #[] #[.pointer (some ⟨bf, 0, none⟩), .pointer (some ⟨bn, 0, none⟩), .pointer (some ⟨bN, 0, none⟩), .pointer (some ⟨b2, 0, none⟩), .pointer (some ⟨b3, 0, none⟩), .pointer (some ⟨bm, 0, none⟩)], .pointer (some ⟨bs, 0, none⟩), .pointer (some ⟨bl, 0, none⟩)] w fun r w' => (∃ u, r = .returned u) ∧ ∃ K' : Mm, (K' bf = none ∧ K' bn = none) ∧ M0.le K' ∧ Has σ ((K'.upd bf (.cells #[.bool true] 4)).upd bn (.cells #[.int .i64 (wantOf most)] 3)) w' := by
  have hP' : ∀ t, t < 8 → (P t).length ≤ 1000000 := fun t ht => by have := hP t ht; omega
  have hw1 : 1 ≤ wantOf most ∧ wantOf most ≤ 9 := by unfold wantOf; split <;> omega
  refine (allBody_has 8 #[.pointer (some ⟨bf, 0, none⟩), .pointer (some ⟨bn, 0, none⟩), .pointer (some ⟨bN, 0, none⟩), .pointer (some ⟨b2, 0, none⟩), .pointer (some ⟨b3, 0, none⟩), .pointer (some ⟨bm, 0, none⟩)] (fun (k : Nat) (K : Mm) => (K.upd bf (.cells #[.bool true] 4)).upd bn (.cells #[.int .i64 k] 3)) (fun K => K bf = none ∧ K bn = none) (fun k => decide ((k : Int) + 1 ≠ most)) (wantOf most) c p e P E hs (by omega) hP' l hbs hbl
    (fun k K hz => Mm.le_upd2 hne hz) (fun k K M hz hle => upd2_X hne hz hle) (fun k hk K w p' e' hz hle h hR => ?_) (by kernel_rfl) hw1.1 hw1.2 (fun k hk => decide_eq_true ?_) (fun h9 => decide_eq_false ?_) (K0 := M0) hz (Mm.le_refl _) h).mono fun r w' ⟨h1, K', hz, hle, hH⟩ => ⟨h1, K', hz, hle, hH⟩
  · have lu := Mm.le_upd2 (o := (.cells #[.bool true] 4)) (o' := .cells #[.int .i64 k] 3) hne hz
    have hlu := Mm.le_trans hle lu
    refine (all1_has h c p p' e e' P E (hs.le hlu) hE hP l most hk (hR.le lu) ((Mm.upd_ne hne).trans (Mm.upd_same _ _ _)) (Mm.upd_same _ _ _) (hlu _ _ hbN) (hlu _ _ hbq) (hlu _ _ hb2) (hlu _ _ hb3) (hlu _ _ hbm) hne (Mm.ne_of hz.2 (hle _ _ hbm))).mono fun r w' ⟨h1, h2⟩ => ⟨h1, K, hz, Mm.le_refl _, ?_⟩
    rw [Mm.upd_upd] at h2
    exact h2
  · unfold wantOf at hk
    split at hk <;> omega
  · unfold wantOf at h9 ⊢
    split at h9
    · rename_i hm
      rw [if_pos hm]
      omega
    · omega
end Go.Proofs.Ytlgnknaffnnkkaa
