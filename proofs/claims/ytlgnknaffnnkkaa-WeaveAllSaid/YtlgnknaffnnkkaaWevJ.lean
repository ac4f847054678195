/- Weaver: what makes each variant. -/
import Derived.Test.YtlgnknaffnnkkaaWevI
import Derived.Test.YtlgnknaffnnkkaaWevD
namespace Go.Proofs.Ytlgnknaffnnkkaa
open Go.RowKit
set_option linter.unusedVariables false
set_option linter.unusedSimpArgs false
set_option linter.unnecessarySimpa false
theorem made_store {M0 M M2 M5 : Mm} {b4 : Nat} {o o' : Obj} {p : Nat → Value} {e : Value} {P : Nat → List PCall} {E : List PEnt} (hle : M.le M2) (hb4 : M2 b4 = some o) (h04 : M0 b4 = none)
    (hRN : ∀ N, (∀ c x, M5 c = some x → (M2 c = none ∨ M0 c ≠ none) → N c = some x) → RdS N p e P E) : ∀ N, (∀ c x, (M5.upd b4 o') c = some x → (M c = none ∨ M0 c ≠ none) → N c = some x) → RdS N p e P E := fun N2 hN2 =>
  hRN N2 fun c x hc hd => hN2 c x ((Mm.upd_ne fun e => by
    subst e
    rcases hd with hd | hd
    · rw [hb4] at hd; cases hd
    · exact hd h04).trans hc) (hd.imp (Mm.none_of hle) id)
/-- What each closure's contract says. -/
abbrev CloC (f : FuncId) (caps : Array Value) (σ : World) (M0 M : Mm) (c : Nat → Int) (P : Nat → List PCall) (E : List PEnt) : Prop := ∀ w, Has σ M w → Calls Try.prog f caps w fun r w' => Made σ M0 M w' c P E r
set_option maxHeartbeats 2000000 in
theorem clo2_has {σ : World} {M0 M : Mm} (hle0 : M0.le M) (c : Nat → Int) (p : Nat → Value) (e : Value) (P : Nat → List PCall) (E : List PEnt) (hs : RdS M0 p e P E) (hE : E.length ≤ 1000000) (hP : ∀ t, t < 8 → (P t).length ≤ 1000000) (l : Int) {bx : Nat} (hbx : M bx = some (.cells (weaRow c p e l) 46)) :
    CloC 23 #[.pointer (some ⟨bx, 0, none⟩)] σ M0 M c P (eachE c l 0 E) := fun w h => by
  have CC : Hid (∀ (M' : Mm) (w : World), Has σ M' w → M.le M' → Calls Try.prog 24 #[weaV c p e l, .int .i64 0] w fun r w' => Made σ M0 M' w' c P (eachE c l 0 E) r) := fun M' w h hle => by simpa using each_has h (Mm.le_trans hle0 hle) c p e P E hs hE l 0 (by omega)
  have x1 := wea_all c p e l
  have dl := wea_level c p e l
  have hz := wea_size c p e l
  have sz0 := scr_size (fun _ => 0) noP nilS
  clear hs hP
  simp only [weaV, scrV] at CC
  generalize hsr : scrRow c p e = sr at *
  clear hsr
  generalize weaRow c p e l = row at *
  generalize P = P' at *
  generalize (eachE c l 0 E) = E' at *
  go_enter Try.func23, Try.ntmps23
  go_upto_region 1 with (first
    | ((with_reducible show wpList _ _ _ ({ dst := _, op := Op.alloc 29, type := _, pos := _, after := _, guard := _ } :: _) _ _); refine wpList_alloc_has h rfl 29 rfl _ zero_scr ?_; clear h; intro b4 w h hn4; try simp only [Act.put, List.setIfInBounds_toArray, List.set_cons_zero, List.set_cons_succ]))
  replace h : Has σ (M.upd b4 (.cells (scrRow (fun _ => 0) noP nilS) 29)) w := h
  have hle := Mm.le_upd' hn4 (.cells (scrRow (fun _ => 0) noP nilS) 29)
  have hb4 := Mm.upd_same M b4 (.cells (scrRow (fun _ => 0) noP nilS) 29)
  have hbx' := hle _ _ hbx
  have h04 := Mm.none_of hle0 hn4
  generalize M.upd b4 (.cells (scrRow (fun _ => 0) noP nilS) 29) = M2 at *
  have CCk := Lib.hid (fun (w : World) (h : Has σ M2 w) => CC.out M2 w h hle)
  go_wp2_with (first
    | ((with_reducible show wpList _ _ _ ({ dst := _, op := Op.load 46 _, type := _, pos := _, after := _, guard := _ } :: _) _ _); refine wpList_agg_has h rfl 46 _ rfl rfl hbx' x1 hz Try.underlying46 rfl (by kernel_rfl) ?_; try simp only [Act.put, List.setIfInBounds_toArray, List.set_cons_zero, List.set_cons_succ])
    | (with_reducible show wpList _ _ _ ({ dst := _, op := Op.load 3 _, type := _, pos := _, after := _, guard := _ } :: _) _ _; refine wpList_load1_has h rfl 3 _ rfl rfl hbx' dl Try.underlying3 rfl ?_)
    | ((go_at_call 24; refine (CCk.out _ h).mono ?_; clear h; rintro r w ⟨p', e', M5, rfl, h, hle5, hRN⟩; have hR := hRN M5 mm_self; have hb45 := hle5 _ _ hb4; have sz' := scr_size c p' e'; have one' := scr_one c p' e' hR.one hR.ents.one; have hSV := Lib.hid (show scrV c p' e' = .agg (scrRow c p' e') from rfl); rw [hSV.out]; generalize scrRow c p' e' = r2 at sz' one' hSV))
    | ((with_reducible show wpList _ _ _ ({ dst := _, op := Op.store 29 _ _, type := _, pos := _, after := _, guard := _ } :: _) _ _); refine wpList_storeAll_has (cells := r2) h rfl 29 _ _ rfl rfl rfl hb45 rfl (sz0.trans sz'.symm) rfl (by rw [sz']; kernel_rfl) one' ?_; clear h; intro w h))
  exact bodyPost_ret (results_cell_row rfl _ _ _ _ _ _ _ rfl (h.at_ b4 _ (Mm.upd_same _ _ _)) Try.underlying29 rfl (by rw [sz']; kernel_rfl)) rfl ⟨p', e', _, by rw [hSV.out], h, Mm.le_upd (Mm.le_trans hle hle5) hn4 _, made_store hle hb4 h04 hRN⟩
set_option maxHeartbeats 2000000 in
theorem clo3_has {σ : World} {M0 M : Mm} (hle0 : M0.le M) (c : Nat → Int) (p : Nat → Value) (e : Value) (P : Nat → List PCall) (E : List PEnt) (hs : RdS M0 p e P E) (hE : E.length ≤ 1000000) (hP : ∀ t, t < 8 → (P t).length ≤ 1000000) (l : Int) {bx : Nat} (hbx : M bx = some (.cells (weaRow c p e l) 46)) :
    CloC 25 #[.pointer (some ⟨bx, 0, none⟩)] σ M0 M c P (eachE c l 2 E) := fun w h => by
  have CC : Hid (∀ (M' : Mm) (w : World), Has σ M' w → M.le M' → Calls Try.prog 24 #[weaV c p e l, .int .i64 2] w fun r w' => Made σ M0 M' w' c P (eachE c l 2 E) r) := fun M' w h hle => by simpa using each_has h (Mm.le_trans hle0 hle) c p e P E hs hE l 2 (by omega)
  have x1 := wea_all c p e l
  have dl := wea_level c p e l
  have hz := wea_size c p e l
  have sz0 := scr_size (fun _ => 0) noP nilS
  clear hs hP
  simp only [weaV, scrV] at CC
  generalize hsr : scrRow c p e = sr at *
  clear hsr
  generalize weaRow c p e l = row at *
  generalize P = P' at *
  generalize (eachE c l 2 E) = E' at *
  go_enter Try.func25, Try.ntmps25
  go_upto_region 1 with (first
    | ((with_reducible show wpList _ _ _ ({ dst := _, op := Op.alloc 29, type := _, pos := _, after := _, guard := _ } :: _) _ _); refine wpList_alloc_has h rfl 29 rfl _ zero_scr ?_; clear h; intro b4 w h hn4; try simp only [Act.put, List.setIfInBounds_toArray, List.set_cons_zero, List.set_cons_succ]))
  replace h : Has σ (M.upd b4 (.cells (scrRow (fun _ => 0) noP nilS) 29)) w := h
  have hle := Mm.le_upd' hn4 (.cells (scrRow (fun _ => 0) noP nilS) 29)
  have hb4 := Mm.upd_same M b4 (.cells (scrRow (fun _ => 0) noP nilS) 29)
  have hbx' := hle _ _ hbx
  have h04 := Mm.none_of hle0 hn4
  generalize M.upd b4 (.cells (scrRow (fun _ => 0) noP nilS) 29) = M2 at *
  have CCk := Lib.hid (fun (w : World) (h : Has σ M2 w) => CC.out M2 w h hle)
  go_wp2_with (first
    | ((with_reducible show wpList _ _ _ ({ dst := _, op := Op.load 46 _, type := _, pos := _, after := _, guard := _ } :: _) _ _); refine wpList_agg_has h rfl 46 _ rfl rfl hbx' x1 hz Try.underlying46 rfl (by kernel_rfl) ?_; try simp only [Act.put, List.setIfInBounds_toArray, List.set_cons_zero, List.set_cons_succ])
    | (with_reducible show wpList _ _ _ ({ dst := _, op := Op.load 3 _, type := _, pos := _, after := _, guard := _ } :: _) _ _; refine wpList_load1_has h rfl 3 _ rfl rfl hbx' dl Try.underlying3 rfl ?_)
    | ((go_at_call 24; refine (CCk.out _ h).mono ?_; clear h; rintro r w ⟨p', e', M5, rfl, h, hle5, hRN⟩; have hR := hRN M5 mm_self; have hb45 := hle5 _ _ hb4; have sz' := scr_size c p' e'; have one' := scr_one c p' e' hR.one hR.ents.one; have hSV := Lib.hid (show scrV c p' e' = .agg (scrRow c p' e') from rfl); rw [hSV.out]; generalize scrRow c p' e' = r2 at sz' one' hSV))
    | ((with_reducible show wpList _ _ _ ({ dst := _, op := Op.store 29 _ _, type := _, pos := _, after := _, guard := _ } :: _) _ _); refine wpList_storeAll_has (cells := r2) h rfl 29 _ _ rfl rfl rfl hb45 rfl (sz0.trans sz'.symm) rfl (by rw [sz']; kernel_rfl) one' ?_; clear h; intro w h))
  exact bodyPost_ret (results_cell_row rfl _ _ _ _ _ _ _ rfl (h.at_ b4 _ (Mm.upd_same _ _ _)) Try.underlying29 rfl (by rw [sz']; kernel_rfl)) rfl ⟨p', e', _, by rw [hSV.out], h, Mm.le_upd (Mm.le_trans hle hle5) hn4 _, made_store hle hb4 h04 hRN⟩
set_option maxHeartbeats 2000000 in
theorem clo6_has {σ : World} {M0 M : Mm} (hle0 : M0.le M) (c : Nat → Int) (p : Nat → Value) (e : Value) (P : Nat → List PCall) (E : List PEnt) (hs : RdS M0 p e P E) (hE : E.length ≤ 1000000) (hP : ∀ t, t < 8 → (P t).length ≤ 1000000) (l : Int) {bx : Nat} (hbx : M bx = some (.cells (weaRow c p e l) 46)) :
    CloC 30 #[.pointer (some ⟨bx, 0, none⟩)] σ M0 M c P (frE 3 (thrTo c l 8) ++ E) := fun w h => by
  have CC : Hid (∀ (M' : Mm) (w : World), Has σ M' w → M.le M' → Calls Try.prog 31 #[weaV c p e l, .int .i64 3] w fun r w' => Made σ M0 M' w' c P (frE 3 (thrTo c l 8) ++ E) r) := fun M' w h hle => first_has h (Mm.le_trans hle0 hle) c p e P E hs hE l 3
  have x1 := wea_all c p e l
  have dl := wea_level c p e l
  have hz := wea_size c p e l
  have sz0 := scr_size (fun _ => 0) noP nilS
  clear hs hP
  simp only [weaV, scrV] at CC
  generalize hsr : scrRow c p e = sr at *
  clear hsr
  generalize weaRow c p e l = row at *
  generalize P = P' at *
  generalize (frE 3 (thrTo c l 8) ++ E) = E' at *
  go_enter Try.func30, Try.ntmps30
  go_upto_region 1 with (first
    | ((with_reducible show wpList _ _ _ ({ dst := _, op := Op.alloc 29, type := _, pos := _, after := _, guard := _ } :: _) _ _); refine wpList_alloc_has h rfl 29 rfl _ zero_scr ?_; clear h; intro b4 w h hn4; try simp only [Act.put, List.setIfInBounds_toArray, List.set_cons_zero, List.set_cons_succ]))
  replace h : Has σ (M.upd b4 (.cells (scrRow (fun _ => 0) noP nilS) 29)) w := h
  have hle := Mm.le_upd' hn4 (.cells (scrRow (fun _ => 0) noP nilS) 29)
  have hb4 := Mm.upd_same M b4 (.cells (scrRow (fun _ => 0) noP nilS) 29)
  have hbx' := hle _ _ hbx
  have h04 := Mm.none_of hle0 hn4
  generalize M.upd b4 (.cells (scrRow (fun _ => 0) noP nilS) 29) = M2 at *
  have CCk := Lib.hid (fun (w : World) (h : Has σ M2 w) => CC.out M2 w h hle)
  go_wp2_with (first
    | ((with_reducible show wpList _ _ _ ({ dst := _, op := Op.load 46 _, type := _, pos := _, after := _, guard := _ } :: _) _ _); refine wpList_agg_has h rfl 46 _ rfl rfl hbx' x1 hz Try.underlying46 rfl (by kernel_rfl) ?_; try simp only [Act.put, List.setIfInBounds_toArray, List.set_cons_zero, List.set_cons_succ])
    | (with_reducible show wpList _ _ _ ({ dst := _, op := Op.load 3 _, type := _, pos := _, after := _, guard := _ } :: _) _ _; refine wpList_load1_has h rfl 3 _ rfl rfl hbx' dl Try.underlying3 rfl ?_)
    | ((go_at_call 31; refine (CCk.out _ h).mono ?_; clear h; rintro r w ⟨p', e', M5, rfl, h, hle5, hRN⟩; have hR := hRN M5 mm_self; have hb45 := hle5 _ _ hb4; have sz' := scr_size c p' e'; have one' := scr_one c p' e' hR.one hR.ents.one; have hSV := Lib.hid (show scrV c p' e' = .agg (scrRow c p' e') from rfl); rw [hSV.out]; generalize scrRow c p' e' = r2 at sz' one' hSV))
    | ((with_reducible show wpList _ _ _ ({ dst := _, op := Op.store 29 _ _, type := _, pos := _, after := _, guard := _ } :: _) _ _); refine wpList_storeAll_has (cells := r2) h rfl 29 _ _ rfl rfl rfl hb45 rfl (sz0.trans sz'.symm) rfl (by rw [sz']; kernel_rfl) one' ?_; clear h; intro w h))
  exact bodyPost_ret (results_cell_row rfl _ _ _ _ _ _ _ rfl (h.at_ b4 _ (Mm.upd_same _ _ _)) Try.underlying29 rfl (by rw [sz']; kernel_rfl)) rfl ⟨p', e', _, by rw [hSV.out], h, Mm.le_upd (Mm.le_trans hle hle5) hn4 _, made_store hle hb4 h04 hRN⟩
set_option maxHeartbeats 2000000 in
theorem clo7_has {σ : World} {M0 M : Mm} (hle0 : M0.le M) (c : Nat → Int) (p : Nat → Value) (e : Value) (P : Nat → List PCall) (E : List PEnt) (hs : RdS M0 p e P E) (hE : E.length ≤ 1000000) (hP : ∀ t, t < 8 → (P t).length ≤ 1000000) (l : Int) {bx : Nat} (hbx : M bx = some (.cells (weaRow c p e l) 46)) :
    CloC 32 #[.pointer (some ⟨bx, 0, none⟩)] σ M0 M c P (frE 1 (thrTo c l 8) ++ E) := fun w h => by
  have CC : Hid (∀ (M' : Mm) (w : World), Has σ M' w → M.le M' → Calls Try.prog 31 #[weaV c p e l, .int .i64 1] w fun r w' => Made σ M0 M' w' c P (frE 1 (thrTo c l 8) ++ E) r) := fun M' w h hle => first_has h (Mm.le_trans hle0 hle) c p e P E hs hE l 1
  have x1 := wea_all c p e l
  have dl := wea_level c p e l
  have hz := wea_size c p e l
  have sz0 := scr_size (fun _ => 0) noP nilS
  clear hs hP
  simp only [weaV, scrV] at CC
  generalize hsr : scrRow c p e = sr at *
  clear hsr
  generalize weaRow c p e l = row at *
  generalize P = P' at *
  generalize (frE 1 (thrTo c l 8) ++ E) = E' at *
  go_enter Try.func32, Try.ntmps32
  go_upto_region 1 with (first
    | ((with_reducible show wpList _ _ _ ({ dst := _, op := Op.alloc 29, type := _, pos := _, after := _, guard := _ } :: _) _ _); refine wpList_alloc_has h rfl 29 rfl _ zero_scr ?_; clear h; intro b4 w h hn4; try simp only [Act.put, List.setIfInBounds_toArray, List.set_cons_zero, List.set_cons_succ]))
  replace h : Has σ (M.upd b4 (.cells (scrRow (fun _ => 0) noP nilS) 29)) w := h
  have hle := Mm.le_upd' hn4 (.cells (scrRow (fun _ => 0) noP nilS) 29)
  have hb4 := Mm.upd_same M b4 (.cells (scrRow (fun _ => 0) noP nilS) 29)
  have hbx' := hle _ _ hbx
  have h04 := Mm.none_of hle0 hn4
  generalize M.upd b4 (.cells (scrRow (fun _ => 0) noP nilS) 29) = M2 at *
  have CCk := Lib.hid (fun (w : World) (h : Has σ M2 w) => CC.out M2 w h hle)
  go_wp2_with (first
    | ((with_reducible show wpList _ _ _ ({ dst := _, op := Op.load 46 _, type := _, pos := _, after := _, guard := _ } :: _) _ _); refine wpList_agg_has h rfl 46 _ rfl rfl hbx' x1 hz Try.underlying46 rfl (by kernel_rfl) ?_; try simp only [Act.put, List.setIfInBounds_toArray, List.set_cons_zero, List.set_cons_succ])
    | (with_reducible show wpList _ _ _ ({ dst := _, op := Op.load 3 _, type := _, pos := _, after := _, guard := _ } :: _) _ _; refine wpList_load1_has h rfl 3 _ rfl rfl hbx' dl Try.underlying3 rfl ?_)
    | ((go_at_call 31; refine (CCk.out _ h).mono ?_; clear h; rintro r w ⟨p', e', M5, rfl, h, hle5, hRN⟩; have hR := hRN M5 mm_self; have hb45 := hle5 _ _ hb4; have sz' := scr_size c p' e'; have one' := scr_one c p' e' hR.one hR.ents.one; have hSV := Lib.hid (show scrV c p' e' = .agg (scrRow c p' e') from rfl); rw [hSV.out]; generalize scrRow c p' e' = r2 at sz' one' hSV))
    | ((with_reducible show wpList _ _ _ ({ dst := _, op := Op.store 29 _ _, type := _, pos := _, after := _, guard := _ } :: _) _ _); refine wpList_storeAll_has (cells := r2) h rfl 29 _ _ rfl rfl rfl hb45 rfl (sz0.trans sz'.symm) rfl (by rw [sz']; kernel_rfl) one' ?_; clear h; intro w h))
  exact bodyPost_ret (results_cell_row rfl _ _ _ _ _ _ _ rfl (h.at_ b4 _ (Mm.upd_same _ _ _)) Try.underlying29 rfl (by rw [sz']; kernel_rfl)) rfl ⟨p', e', _, by rw [hSV.out], h, Mm.le_upd (Mm.le_trans hle hle5) hn4 _, made_store hle hb4 h04 hRN⟩
set_option maxHeartbeats 2000000 in
theorem clo8_has {σ : World} {M0 M : Mm} (hle0 : M0.le M) (c : Nat → Int) (p : Nat → Value) (e : Value) (P : Nat → List PCall) (E : List PEnt) (hs : RdS M0 p e P E) (hE : E.length ≤ 1000000) (hP : ∀ t, t < 8 → (P t).length ≤ 1000000) (l : Int) {bx : Nat} (hbx : M bx = some (.cells (weaRow c p e l) 46)) :
    CloC 33 #[.pointer (some ⟨bx, 0, none⟩)] σ M0 M c (progTo (fun (_ : List PCall) => ([] : List PCall)) (thrTo c l 8) P) E := fun w h => by
  have CC : Hid (∀ (M' : Mm) (w : World), Has σ M' w → M.le M' → Calls Try.prog 34 #[weaV c p e l, .func (.func 35) #[] #[]] w fun r w' => Made σ M0 M' w' c (progTo (fun (_ : List PCall) => ([] : List PCall)) (thrTo c l 8) P) E r) := fun M' w h hle => progNone_has h (Mm.le_trans hle0 hle) c p e P E hs hP l
  have x1 := wea_all c p e l
  have dl := wea_level c p e l
  have hz := wea_size c p e l
  have sz0 := scr_size (fun _ => 0) noP nilS
  clear hs hP
  simp only [weaV, scrV] at CC
  generalize hsr : scrRow c p e = sr at *
  clear hsr
  generalize weaRow c p e l = row at *
  generalize (progTo (fun (_ : List PCall) => ([] : List PCall)) (thrTo c l 8) P) = P' at *
  generalize E = E' at *
  go_enter Try.func33, Try.ntmps33
  go_upto_region 1 with (first
    | ((with_reducible show wpList _ _ _ ({ dst := _, op := Op.alloc 29, type := _, pos := _, after := _, guard := _ } :: _) _ _); refine wpList_alloc_has h rfl 29 rfl _ zero_scr ?_; clear h; intro b4 w h hn4; try simp only [Act.put, List.setIfInBounds_toArray, List.set_cons_zero, List.set_cons_succ]))
  replace h : Has σ (M.upd b4 (.cells (scrRow (fun _ => 0) noP nilS) 29)) w := h
  have hle := Mm.le_upd' hn4 (.cells (scrRow (fun _ => 0) noP nilS) 29)
  have hb4 := Mm.upd_same M b4 (.cells (scrRow (fun _ => 0) noP nilS) 29)
  have hbx' := hle _ _ hbx
  have h04 := Mm.none_of hle0 hn4
  generalize M.upd b4 (.cells (scrRow (fun _ => 0) noP nilS) 29) = M2 at *
  have CCk := Lib.hid (fun (w : World) (h : Has σ M2 w) => CC.out M2 w h hle)
  go_wp2_with (first
    | ((with_reducible show wpList _ _ _ ({ dst := _, op := Op.load 46 _, type := _, pos := _, after := _, guard := _ } :: _) _ _); refine wpList_agg_has h rfl 46 _ rfl rfl hbx' x1 hz Try.underlying46 rfl (by kernel_rfl) ?_; try simp only [Act.put, List.setIfInBounds_toArray, List.set_cons_zero, List.set_cons_succ])
    | (with_reducible show wpList _ _ _ ({ dst := _, op := Op.load 3 _, type := _, pos := _, after := _, guard := _ } :: _) _ _; refine wpList_load1_has h rfl 3 _ rfl rfl hbx' dl Try.underlying3 rfl ?_)
    | ((go_at_call 34; refine (CCk.out _ h).mono ?_; clear h; rintro r w ⟨p', e', M5, rfl, h, hle5, hRN⟩; have hR := hRN M5 mm_self; have hb45 := hle5 _ _ hb4; have sz' := scr_size c p' e'; have one' := scr_one c p' e' hR.one hR.ents.one; have hSV := Lib.hid (show scrV c p' e' = .agg (scrRow c p' e') from rfl); rw [hSV.out]; generalize scrRow c p' e' = r2 at sz' one' hSV))
    | ((with_reducible show wpList _ _ _ ({ dst := _, op := Op.store 29 _ _, type := _, pos := _, after := _, guard := _ } :: _) _ _); refine wpList_storeAll_has (cells := r2) h rfl 29 _ _ rfl rfl rfl hb45 rfl (sz0.trans sz'.symm) rfl (by rw [sz']; kernel_rfl) one' ?_; clear h; intro w h))
  exact bodyPost_ret (results_cell_row rfl _ _ _ _ _ _ _ rfl (h.at_ b4 _ (Mm.upd_same _ _ _)) Try.underlying29 rfl (by rw [sz']; kernel_rfl)) rfl ⟨p', e', _, by rw [hSV.out], h, Mm.le_upd (Mm.le_trans hle hle5) hn4 _, made_store hle hb4 h04 hRN⟩
set_option maxHeartbeats 2000000 in
theorem clo9_has {σ : World} {M0 M : Mm} (hle0 : M0.le M) (c : Nat → Int) (p : Nat → Value) (e : Value) (P : Nat → List PCall) (E : List PEnt) (hs : RdS M0 p e P E) (hE : E.length ≤ 1000000) (hP : ∀ t, t < 8 → (P t).length ≤ 1000000) (l : Int) {bx : Nat} (hbx : M bx = some (.cells (weaRow c p e l) 46)) :
    CloC 36 #[.pointer (some ⟨bx, 0, none⟩)] σ M0 M c (progTo List.reverse (thrTo c l 8) P) E := fun w h => by
  have CC : Hid (∀ (M' : Mm) (w : World), Has σ M' w → M.le M' → Calls Try.prog 34 #[weaV c p e l, .func (.func 37) #[] #[]] w fun r w' => Made σ M0 M' w' c (progTo List.reverse (thrTo c l 8) P) E r) := fun M' w h hle => progTurned_has h (Mm.le_trans hle0 hle) c p e P E hs hP l
  have x1 := wea_all c p e l
  have dl := wea_level c p e l
  have hz := wea_size c p e l
  have sz0 := scr_size (fun _ => 0) noP nilS
  clear hs hP
  simp only [weaV, scrV] at CC
  generalize hsr : scrRow c p e = sr at *
  clear hsr
  generalize weaRow c p e l = row at *
  generalize (progTo List.reverse (thrTo c l 8) P) = P' at *
  generalize E = E' at *
  go_enter Try.func36, Try.ntmps36
  go_upto_region 1 with (first
    | ((with_reducible show wpList _ _ _ ({ dst := _, op := Op.alloc 29, type := _, pos := _, after := _, guard := _ } :: _) _ _); refine wpList_alloc_has h rfl 29 rfl _ zero_scr ?_; clear h; intro b4 w h hn4; try simp only [Act.put, List.setIfInBounds_toArray, List.set_cons_zero, List.set_cons_succ]))
  replace h : Has σ (M.upd b4 (.cells (scrRow (fun _ => 0) noP nilS) 29)) w := h
  have hle := Mm.le_upd' hn4 (.cells (scrRow (fun _ => 0) noP nilS) 29)
  have hb4 := Mm.upd_same M b4 (.cells (scrRow (fun _ => 0) noP nilS) 29)
  have hbx' := hle _ _ hbx
  have h04 := Mm.none_of hle0 hn4
  generalize M.upd b4 (.cells (scrRow (fun _ => 0) noP nilS) 29) = M2 at *
  have CCk := Lib.hid (fun (w : World) (h : Has σ M2 w) => CC.out M2 w h hle)
  go_wp2_with (first
    | ((with_reducible show wpList _ _ _ ({ dst := _, op := Op.load 46 _, type := _, pos := _, after := _, guard := _ } :: _) _ _); refine wpList_agg_has h rfl 46 _ rfl rfl hbx' x1 hz Try.underlying46 rfl (by kernel_rfl) ?_; try simp only [Act.put, List.setIfInBounds_toArray, List.set_cons_zero, List.set_cons_succ])
    | (with_reducible show wpList _ _ _ ({ dst := _, op := Op.load 3 _, type := _, pos := _, after := _, guard := _ } :: _) _ _; refine wpList_load1_has h rfl 3 _ rfl rfl hbx' dl Try.underlying3 rfl ?_)
    | ((go_at_call 34; refine (CCk.out _ h).mono ?_; clear h; rintro r w ⟨p', e', M5, rfl, h, hle5, hRN⟩; have hR := hRN M5 mm_self; have hb45 := hle5 _ _ hb4; have sz' := scr_size c p' e'; have one' := scr_one c p' e' hR.one hR.ents.one; have hSV := Lib.hid (show scrV c p' e' = .agg (scrRow c p' e') from rfl); rw [hSV.out]; generalize scrRow c p' e' = r2 at sz' one' hSV))
    | ((with_reducible show wpList _ _ _ ({ dst := _, op := Op.store 29 _ _, type := _, pos := _, after := _, guard := _ } :: _) _ _); refine wpList_storeAll_has (cells := r2) h rfl 29 _ _ rfl rfl rfl hb45 rfl (sz0.trans sz'.symm) rfl (by rw [sz']; kernel_rfl) one' ?_; clear h; intro w h))
  exact bodyPost_ret (results_cell_row rfl _ _ _ _ _ _ _ rfl (h.at_ b4 _ (Mm.upd_same _ _ _)) Try.underlying29 rfl (by rw [sz']; kernel_rfl)) rfl ⟨p', e', _, by rw [hSV.out], h, Mm.le_upd (Mm.le_trans hle hle5) hn4 _, made_store hle hb4 h04 hRN⟩
set_option maxHeartbeats 2000000 in
theorem clo1_has {σ : World} {M0 M : Mm} (hle0 : M0.le M) (c : Nat → Int) (p : Nat → Value) (e : Value) (P : Nat → List PCall) (E : List PEnt) (hs : RdS M0 p e P E) (hE : E.length ≤ 1000000) (hP : ∀ t, t < 8 → (P t).length ≤ 1000000) (l : Int) {bx : Nat} (hbx : M bx = some (.cells (weaRow c p e l) 46)) :
    CloC 21 #[.pointer (some ⟨bx, 0, none⟩)] σ M0 M c (keepP c l false P) (keepE c l false E) := fun w h => by
  have CC : Hid (∀ (M' : Mm) (w : World), Has σ M' w → M.le M' → Calls Try.prog 22 #[scrV c p e, .int .i64 l] w fun r w' => Made σ M0 M' w' c (keepP c l false P) (keepE c l false E) r) := fun M' w h hle => to_has h (Mm.le_trans hle0 hle) c p e P E hs hE hP l
  have x1 := wea_scr c p e l
  have dl := wea_level c p e l
  have hz := scr_size c p e
  have sz0 := scr_size (fun _ => 0) noP nilS
  clear hs hP
  simp only [weaV, scrV] at CC
  generalize hsr : scrRow c p e = sr at *
  clear hsr
  generalize weaRow c p e l = row at *
  generalize (keepP c l false P) = P' at *
  generalize (keepE c l false E) = E' at *
  go_enter Try.func21, Try.ntmps21
  go_upto_region 1 with (first
    | ((with_reducible show wpList _ _ _ ({ dst := _, op := Op.alloc 29, type := _, pos := _, after := _, guard := _ } :: _) _ _); refine wpList_alloc_has h rfl 29 rfl _ zero_scr ?_; clear h; intro b4 w h hn4; try simp only [Act.put, List.setIfInBounds_toArray, List.set_cons_zero, List.set_cons_succ]))
  replace h : Has σ (M.upd b4 (.cells (scrRow (fun _ => 0) noP nilS) 29)) w := h
  have hle := Mm.le_upd' hn4 (.cells (scrRow (fun _ => 0) noP nilS) 29)
  have hb4 := Mm.upd_same M b4 (.cells (scrRow (fun _ => 0) noP nilS) 29)
  have hbx' := hle _ _ hbx
  have h04 := Mm.none_of hle0 hn4
  generalize M.upd b4 (.cells (scrRow (fun _ => 0) noP nilS) 29) = M2 at *
  have CCk := Lib.hid (fun (w : World) (h : Has σ M2 w) => CC.out M2 w h hle)
  go_wp2_with (first
    | ((with_reducible show wpList _ _ _ ({ dst := _, op := Op.load 29 _, type := _, pos := _, after := _, guard := _ } :: _) _ _); refine wpList_agg_has h rfl 29 _ rfl rfl hbx' x1 hz Try.underlying29 rfl (by kernel_rfl) ?_; try simp only [Act.put, List.setIfInBounds_toArray, List.set_cons_zero, List.set_cons_succ])
    | (with_reducible show wpList _ _ _ ({ dst := _, op := Op.load 3 _, type := _, pos := _, after := _, guard := _ } :: _) _ _; refine wpList_load1_has h rfl 3 _ rfl rfl hbx' dl Try.underlying3 rfl ?_)
    | ((go_at_call 22; refine (CCk.out _ h).mono ?_; clear h; rintro r w ⟨p', e', M5, rfl, h, hle5, hRN⟩; have hR := hRN M5 mm_self; have hb45 := hle5 _ _ hb4; have sz' := scr_size c p' e'; have one' := scr_one c p' e' hR.one hR.ents.one; have hSV := Lib.hid (show scrV c p' e' = .agg (scrRow c p' e') from rfl); rw [hSV.out]; generalize scrRow c p' e' = r2 at sz' one' hSV))
    | ((with_reducible show wpList _ _ _ ({ dst := _, op := Op.store 29 _ _, type := _, pos := _, after := _, guard := _ } :: _) _ _); refine wpList_storeAll_has (cells := r2) h rfl 29 _ _ rfl rfl rfl hb45 rfl (sz0.trans sz'.symm) rfl (by rw [sz']; kernel_rfl) one' ?_; clear h; intro w h))
  exact bodyPost_ret (results_cell_row rfl _ _ _ _ _ _ _ rfl (h.at_ b4 _ (Mm.upd_same _ _ _)) Try.underlying29 rfl (by rw [sz']; kernel_rfl)) rfl ⟨p', e', _, by rw [hSV.out], h, Mm.le_upd (Mm.le_trans hle hle5) hn4 _, made_store hle hb4 h04 hRN⟩
end Go.Proofs.Ytlgnknaffnnkkaa
