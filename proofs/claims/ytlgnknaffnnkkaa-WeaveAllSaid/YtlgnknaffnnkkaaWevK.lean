/- Weaver: the variants whose entries are laid in parts. -/
import Derived.Test.YtlgnknaffnnkkaaWevJ
namespace Go.Proofs.Ytlgnknaffnnkkaa
open Go.RowKit
set_option linter.unusedVariables false
set_option linter.unusedSimpArgs false
set_option linter.unnecessarySimpa false
set_option maxHeartbeats 4000000 in
theorem clo4_has {σ : World} {M0 M : Mm} (hle0 : M0.le M) (c : Nat → Int) (p : Nat → Value) (e : Value) (P : Nat → List PCall) (E : List PEnt) (hs : RdS M0 p e P E) (A B : List PEnt) (hA : A.length ≤ 1000000) (hB : B.length ≤ 1000000) (l : Int) {bx ba bb : Nat} {va vb : Value} (hbx : M bx = some (.cells (weaRow c p e l) 46)) (hba : M ba = some (.cells #[va] 27)) (hbb : M bb = some (.cells #[vb] 27)) (ha : Rd M 2 va A.length (A.flatMap encE)) (hb : Rd M 2 vb B.length (B.flatMap encE)) :
    CloC 26 #[.pointer (some ⟨bx, 0, none⟩), .pointer (some ⟨ba, 0, none⟩), .pointer (some ⟨bb, 0, none⟩)] σ M0 M c P (A ++ B) := fun w h => by
  have EN : Hid (∀ (M : Mm) (w : World) (v : Value), Has σ M w → v.oneCell' = true → Calls Try.prog 27 #[weaV c p e l, v] w fun r w' => r = .returned (scrV c p v) ∧ Has σ M w') := fun M w v h hv => entries_has h c p e l v hs.one hs.ents.one hv
  have CT : Hid (∀ (M' : Mm) (w : World) (bq : Nat), Has σ M' w → M.le M' → M' bq = some (.cells #[va, vb] 27) → Calls Try.prog 28 #[.slice (some ⟨bq, 0, none⟩) 2 2] w fun r w' => ∃ v, r = .returned v ∧ Acc σ M' w' 43 2 v (A ++ B).length ((A ++ B).flatMap encE)) := fun M' w bq h hle hq => concat_has h va vb A B (ha.le hle) (hb.le hle) hA hB hq
  have RP0 : Hid (∀ t, t < 8 → Rd M0 7 (p t) (P t).length ((P t).flatMap encK)) := hs.progs
  have OP := Lib.hid hs.one
  obtain ⟨Aa, ca, rfl⟩ := ha.form
  obtain ⟨Ab, cb, rfl⟩ := hb.form
  generalize A.length = na at *
  generalize B.length = nb at *
  have x1 := wea_all c p e l
  have hz := wea_size c p e l
  have sz0 := scr_size (fun _ => 0) noP nilS
  have da : (#[Value.slice Aa na ca] : Array Value)[0]? = some (Value.slice Aa na ca) := rfl
  have db : (#[Value.slice Ab nb cb] : Array Value)[0]? = some (Value.slice Ab nb cb) := rfl
  clear hs ha hb
  simp only [weaV] at EN
  generalize weaRow c p e l = row at *
  generalize A ++ B = AB at *
  go_enter Try.func26, Try.ntmps26
  go_upto_region 1 with (first
    | ((with_reducible show wpList _ _ _ ({ dst := _, op := Op.alloc 29, type := _, pos := _, after := _, guard := _ } :: _) _ _); refine wpList_alloc_has h rfl 29 rfl _ zero_scr ?_; clear h; intro b4 w h hn4; try simp only [Act.put, List.setIfInBounds_toArray, List.set_cons_zero, List.set_cons_succ]))
  replace h : Has σ (M.upd b4 (.cells (scrRow (fun _ => 0) noP nilS) 29)) w := h
  have hle := Mm.le_upd' hn4 (.cells (scrRow (fun _ => 0) noP nilS) 29)
  have hb4 := Mm.upd_same M b4 (.cells (scrRow (fun _ => 0) noP nilS) 29)
  have hbx' := hbx
  have h04 := Mm.none_of hle0 hn4
  obtain ⟨M2, hM2⟩ : ∃ M2, M2 = M.upd b4 (.cells (scrRow (fun _ => 0) noP nilS) 29) := ⟨_, rfl⟩
  rw [← hM2] at h hle hb4
  clear hM2
  replace h := h.drew
  refine wp_region_held_drew (S := Has σ (M)) (by kernel_rfl) (h.le hle) (fun hHeld => ?_)
  refine wpAnyH_take (i := 0) (v := _) rfl (by kernel_rfl) (by kernel_rfl) (by kernel_rfl) (fun _ _ _ h => h) (yields_agg rfl 46 _ rfl rfl hbx x1 hz Try.underlying46 rfl (by kernel_rfl)) hHeld ?_
  try simp only [Act.put, List.setIfInBounds_toArray, List.set_cons_zero, List.set_cons_succ]
  refine wpAnyH_take (i := 1) (v := _) rfl (by kernel_rfl) (by kernel_rfl) (by kernel_rfl) (fun _ _ _ h => h) (yields_load1 rfl 27 _ rfl rfl hba da Try.underlying27 rfl) hHeld ?_
  try simp only [Act.put, List.setIfInBounds_toArray, List.set_cons_zero, List.set_cons_succ]
  refine wpAnyH_take (i := 2) (v := _) rfl (by kernel_rfl) (by kernel_rfl) (by kernel_rfl) (fun _ _ _ h => h) (yields_load1 rfl 27 _ rfl rfl hbb db Try.underlying27 rfl) hHeld ?_
  try simp only [Act.put, List.setIfInBounds_toArray, List.set_cons_zero, List.set_cons_succ]
  generalize w.drew = w1 at h hHeld ⊢
  clear w
  obtain ⟨w, rfl⟩ : ∃ x : World, x = w1 := ⟨_, rfl⟩
  refine wpAnyH_ready (rs := [3]) (by kernel_rfl) (by simp) ?_
  refine AllReadyH.cons rfl (fun K hK => ?_) AllReadyH.nil
  go_simp
  refine hK.out _ _ ((h.quietAlloc _).le hle) (fun hHeld => ?_)
  clear hK K
  try simp only [Act.put, List.setIfInBounds_toArray, List.set_cons_zero, List.set_cons_succ]
  clear hHeld
  obtain ⟨M3, hbx, hle3, hbq, hnq⟩ := h.box (.cells #[Value.slice Aa na ca, Value.slice Ab nb cb] 27)
  generalize w.alloc _ = wx at hbx ⊢
  generalize w.heap.size = bq at hbq hnq ⊢
  clear h
  try clear w
  have h := hbx
  clear hbx
  obtain ⟨w, rfl⟩ : ∃ x : World, x = wx := ⟨_, rfl⟩
  have hle2 := Mm.le_trans hle hle3
  have hb43 := hle3 _ _ hb4
  have hHeld : Has σ M w := h.le hle2
  have CTk := Lib.hid (fun (w : World) (h : Has σ M3 w) => CT.out M3 w bq h hle2 hbq)
  refine wpAnyH_ready (rs := [4]) (by kernel_rfl) (by simp) ?_
  refine AllReadyH.cons rfl (fun K hK => ?_) AllReadyH.nil
  (go_simp; go_wp2_with (go_at_call 28; refine (CTk.out _ h).mono ?_; clear h; rintro r w ⟨v2, rfl, M5, h, hle5, hown5⟩))
  refine hK.out _ _ (h.le (Mm.le_trans hle2 hle5)) (fun hHeld => ?_)
  clear hK K
  try simp only [Act.put, List.setIfInBounds_toArray, List.set_cons_zero, List.set_cons_succ]
  have ov := hown5.one
  have sz' := scr_size c p v2
  have one' := scr_one c p v2 OP.out ov
  have EV := Lib.hid (fun (w : World) (h : Has σ M5 w) => EN.out M5 w v2 h ov)
  simp only [scrV] at EV
  have SV : Hid (scrV c p v2 = .agg (scrRow c p v2)) := rfl
  generalize scrRow c p v2 = r2 at EV sz' one' SV
  have hb5' := hle5 _ _ hb43
  refine wpAnyH_ready (rs := [5]) (by kernel_rfl) (by simp) ?_
  refine AllReadyH.cons rfl (fun K hK => ?_) AllReadyH.nil
  (go_simp; go_wp2_with (go_at_call 27; refine (EV.out _ h).mono ?_; clear h; rintro e w ⟨rfl, h⟩))
  refine hK.out _ _ (h.le (Mm.le_trans hle2 hle5)) (fun hHeld => ?_)
  clear hK K
  try simp only [Act.put, List.setIfInBounds_toArray, List.set_cons_zero, List.set_cons_succ]
  refine wpAnyH_ready (rs := [6]) (by kernel_rfl) (by simp) ?_
  refine AllReadyH.cons rfl (fun K hK => ?_) AllReadyH.nil
  (refine step_storeAll (cells := r2) h rfl 29 _ _ rfl rfl rfl hb5' rfl (sz0.trans sz'.symm) (by rw [sz']; kernel_rfl) one' ?_; clear h; intro w h)
  refine hK.out _ _ (h.le (Mm.le_upd (Mm.le_trans hle2 hle5) hn4 _)) (fun hHeld => ?_)
  clear hK K
  try simp only [Act.put, List.setIfInBounds_toArray, List.set_cons_zero, List.set_cons_succ]
  refine wpAnyH_done (by kernel_rfl) ?_ _
  go_wp2
  have hleF : M.le (M5.upd b4 (.cells r2 29)) := Mm.le_upd (Mm.le_trans hle2 hle5) hn4 _
  exact bodyPost_ret (results_cell_row rfl _ _ _ _ _ _ _ rfl (h.at_ b4 _ (Mm.upd_same _ _ _)) Try.underlying29 rfl (by rw [sz']; kernel_rfl)) rfl ⟨p, v2, _, by rw [SV.out], h, hleF, fun N hN => ⟨fun t ht => (RP0.out t ht).le (Mm.le_in (Mm.le_trans hle0 hleF) hN), (hown5.upd_at hb43 _).rd_in fun c x h0 h1 => hN c x h1 (.inl (Mm.none_of hle2 h0))⟩⟩
set_option maxHeartbeats 4000000 in
theorem clo5_has {σ : World} {M0 M : Mm} (hle0 : M0.le M) (c : Nat → Int) (p : Nat → Value) (e : Value) (P : Nat → List PCall) (E : List PEnt) (hs : RdS M0 p e P E) (A B : List PEnt) (hA : A.length ≤ 1000000) (hB : B.length ≤ 1000000) (l : Int) {bx ba bb : Nat} {va vb : Value} (hbx : M bx = some (.cells (weaRow c p e l) 46)) (hba : M ba = some (.cells #[va] 27)) (hbb : M bb = some (.cells #[vb] 27)) (ha : Rd M 2 va A.length (A.flatMap encE)) (hb : Rd M 2 vb B.length (B.flatMap encE)) :
    CloC 29 #[.pointer (some ⟨bx, 0, none⟩), .pointer (some ⟨ba, 0, none⟩), .pointer (some ⟨bb, 0, none⟩)] σ M0 M c P (A ++ B) := fun w h => by
  have EN : Hid (∀ (M : Mm) (w : World) (v : Value), Has σ M w → v.oneCell' = true → Calls Try.prog 27 #[weaV c p e l, v] w fun r w' => r = .returned (scrV c p v) ∧ Has σ M w') := fun M w v h hv => entries_has h c p e l v hs.one hs.ents.one hv
  have CT : Hid (∀ (M' : Mm) (w : World) (bq : Nat), Has σ M' w → M.le M' → M' bq = some (.cells #[va, vb] 27) → Calls Try.prog 28 #[.slice (some ⟨bq, 0, none⟩) 2 2] w fun r w' => ∃ v, r = .returned v ∧ Acc σ M' w' 43 2 v (A ++ B).length ((A ++ B).flatMap encE)) := fun M' w bq h hle hq => concat_has h va vb A B (ha.le hle) (hb.le hle) hA hB hq
  have RP0 : Hid (∀ t, t < 8 → Rd M0 7 (p t) (P t).length ((P t).flatMap encK)) := hs.progs
  have OP := Lib.hid hs.one
  obtain ⟨Aa, ca, rfl⟩ := ha.form
  obtain ⟨Ab, cb, rfl⟩ := hb.form
  generalize A.length = na at *
  generalize B.length = nb at *
  have x1 := wea_all c p e l
  have hz := wea_size c p e l
  have sz0 := scr_size (fun _ => 0) noP nilS
  have da : (#[Value.slice Aa na ca] : Array Value)[0]? = some (Value.slice Aa na ca) := rfl
  have db : (#[Value.slice Ab nb cb] : Array Value)[0]? = some (Value.slice Ab nb cb) := rfl
  clear hs ha hb
  simp only [weaV] at EN
  generalize weaRow c p e l = row at *
  generalize A ++ B = AB at *
  go_enter Try.func29, Try.ntmps29
  go_upto_region 1 with (first
    | ((with_reducible show wpList _ _ _ ({ dst := _, op := Op.alloc 29, type := _, pos := _, after := _, guard := _ } :: _) _ _); refine wpList_alloc_has h rfl 29 rfl _ zero_scr ?_; clear h; intro b4 w h hn4; try simp only [Act.put, List.setIfInBounds_toArray, List.set_cons_zero, List.set_cons_succ]))
  replace h : Has σ (M.upd b4 (.cells (scrRow (fun _ => 0) noP nilS) 29)) w := h
  have hle := Mm.le_upd' hn4 (.cells (scrRow (fun _ => 0) noP nilS) 29)
  have hb4 := Mm.upd_same M b4 (.cells (scrRow (fun _ => 0) noP nilS) 29)
  have hbx' := hbx
  have h04 := Mm.none_of hle0 hn4
  obtain ⟨M2, hM2⟩ : ∃ M2, M2 = M.upd b4 (.cells (scrRow (fun _ => 0) noP nilS) 29) := ⟨_, rfl⟩
  rw [← hM2] at h hle hb4
  clear hM2
  replace h := h.drew
  refine wp_region_held_drew (S := Has σ (M)) (by kernel_rfl) (h.le hle) (fun hHeld => ?_)
  refine wpAnyH_take (i := 0) (v := _) rfl (by kernel_rfl) (by kernel_rfl) (by kernel_rfl) (fun _ _ _ h => h) (yields_agg rfl 46 _ rfl rfl hbx x1 hz Try.underlying46 rfl (by kernel_rfl)) hHeld ?_
  try simp only [Act.put, List.setIfInBounds_toArray, List.set_cons_zero, List.set_cons_succ]
  refine wpAnyH_take (i := 1) (v := _) rfl (by kernel_rfl) (by kernel_rfl) (by kernel_rfl) (fun _ _ _ h => h) (yields_load1 rfl 27 _ rfl rfl hba da Try.underlying27 rfl) hHeld ?_
  try simp only [Act.put, List.setIfInBounds_toArray, List.set_cons_zero, List.set_cons_succ]
  refine wpAnyH_take (i := 2) (v := _) rfl (by kernel_rfl) (by kernel_rfl) (by kernel_rfl) (fun _ _ _ h => h) (yields_load1 rfl 27 _ rfl rfl hbb db Try.underlying27 rfl) hHeld ?_
  try simp only [Act.put, List.setIfInBounds_toArray, List.set_cons_zero, List.set_cons_succ]
  generalize w.drew = w1 at h hHeld ⊢
  clear w
  obtain ⟨w, rfl⟩ : ∃ x : World, x = w1 := ⟨_, rfl⟩
  refine wpAnyH_ready (rs := [3]) (by kernel_rfl) (by simp) ?_
  refine AllReadyH.cons rfl (fun K hK => ?_) AllReadyH.nil
  go_simp
  refine hK.out _ _ ((h.quietAlloc _).le hle) (fun hHeld => ?_)
  clear hK K
  try simp only [Act.put, List.setIfInBounds_toArray, List.set_cons_zero, List.set_cons_succ]
  clear hHeld
  obtain ⟨M3, hbx, hle3, hbq, hnq⟩ := h.box (.cells #[Value.slice Aa na ca, Value.slice Ab nb cb] 27)
  generalize w.alloc _ = wx at hbx ⊢
  generalize w.heap.size = bq at hbq hnq ⊢
  clear h
  try clear w
  have h := hbx
  clear hbx
  obtain ⟨w, rfl⟩ : ∃ x : World, x = wx := ⟨_, rfl⟩
  have hle2 := Mm.le_trans hle hle3
  have hb43 := hle3 _ _ hb4
  have hHeld : Has σ M w := h.le hle2
  have CTk := Lib.hid (fun (w : World) (h : Has σ M3 w) => CT.out M3 w bq h hle2 hbq)
  refine wpAnyH_ready (rs := [4]) (by kernel_rfl) (by simp) ?_
  refine AllReadyH.cons rfl (fun K hK => ?_) AllReadyH.nil
  (go_simp; go_wp2_with (go_at_call 28; refine (CTk.out _ h).mono ?_; clear h; rintro r w ⟨v2, rfl, M5, h, hle5, hown5⟩))
  refine hK.out _ _ (h.le (Mm.le_trans hle2 hle5)) (fun hHeld => ?_)
  clear hK K
  try simp only [Act.put, List.setIfInBounds_toArray, List.set_cons_zero, List.set_cons_succ]
  have ov := hown5.one
  have sz' := scr_size c p v2
  have one' := scr_one c p v2 OP.out ov
  have EV := Lib.hid (fun (w : World) (h : Has σ M5 w) => EN.out M5 w v2 h ov)
  simp only [scrV] at EV
  have SV : Hid (scrV c p v2 = .agg (scrRow c p v2)) := rfl
  generalize scrRow c p v2 = r2 at EV sz' one' SV
  have hb5' := hle5 _ _ hb43
  refine wpAnyH_ready (rs := [5]) (by kernel_rfl) (by simp) ?_
  refine AllReadyH.cons rfl (fun K hK => ?_) AllReadyH.nil
  (go_simp; go_wp2_with (go_at_call 27; refine (EV.out _ h).mono ?_; clear h; rintro e w ⟨rfl, h⟩))
  refine hK.out _ _ (h.le (Mm.le_trans hle2 hle5)) (fun hHeld => ?_)
  clear hK K
  try simp only [Act.put, List.setIfInBounds_toArray, List.set_cons_zero, List.set_cons_succ]
  refine wpAnyH_ready (rs := [6]) (by kernel_rfl) (by simp) ?_
  refine AllReadyH.cons rfl (fun K hK => ?_) AllReadyH.nil
  (refine step_storeAll (cells := r2) h rfl 29 _ _ rfl rfl rfl hb5' rfl (sz0.trans sz'.symm) (by rw [sz']; kernel_rfl) one' ?_; clear h; intro w h)
  refine hK.out _ _ (h.le (Mm.le_upd (Mm.le_trans hle2 hle5) hn4 _)) (fun hHeld => ?_)
  clear hK K
  try simp only [Act.put, List.setIfInBounds_toArray, List.set_cons_zero, List.set_cons_succ]
  refine wpAnyH_done (by kernel_rfl) ?_ _
  go_wp2
  have hleF : M.le (M5.upd b4 (.cells r2 29)) := Mm.le_upd (Mm.le_trans hle2 hle5) hn4 _
  exact bodyPost_ret (results_cell_row rfl _ _ _ _ _ _ _ rfl (h.at_ b4 _ (Mm.upd_same _ _ _)) Try.underlying29 rfl (by rw [sz']; kernel_rfl)) rfl ⟨p, v2, _, by rw [SV.out], h, hleF, fun N hN => ⟨fun t ht => (RP0.out t ht).le (Mm.le_in (Mm.le_trans hle0 hleF) hN), (hown5.upd_at hb43 _).rd_in fun c x h0 h1 => hN c x h1 (.inl (Mm.none_of hle2 h0))⟩⟩
end Go.Proofs.Ytlgnknaffnnkkaa
