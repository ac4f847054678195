/- WeaveAll: the law. -/
import Derived.Test.YtlgnknaffnnkkaaWevR
namespace Go.Proofs.Ytlgnknaffnnkkaa
open Go.RowKit
set_option linter.unusedVariables false
set_option linter.unusedSimpArgs false
set_option linter.unnecessarySimpa false
theorem zero_strs : (Try.prog.info? 32).bind (·.zero) = some (.slice none 0 0) := by kernel_rfl
theorem want_in {most : Int} (h : 0 < most) (h' : most < 9) : (wantOf most : Int) = most := by unfold wantOf; rw [if_pos ⟨h, h'⟩]; omega
theorem want_out {most : Int} (h : ¬ (0 < most ∧ most < 9)) : (wantOf most : Int) = 9 := by unfold wantOf; rw [if_neg h]; rfl
set_option maxRecDepth 100000 in
set_option maxHeartbeats 2000000 in
theorem weaveAll_has {σ w : World} {M : Mm} (h : Has σ M w) (c : Nat → Int) (p : Nat → Value) (e : Value) (P : Nat → List PCall) (E : List PEnt) (hs : RdS M p e P E) (l most : Int) :
    Calls Try.prog 3 #[scrV c p e, .int .i64 l, .int .i64 most] w fun r w' => r = .returned (.bool true) ∧ Has σ M w' := by
  have GR : Hid (∀ (M' : Mm) (w : World), Has σ M' w → M.le M' → Calls Try.prog 5 #[scrV c p e, .int .i64 2000] w fun e w' => e = .returned (.bool (greatB P E 2000)) ∧ Has σ M' w') := fun M' w h hle => great_has h c p e P E (hs.le hle) 2000
  have LV : Hid (∀ (M' : Mm) (w : World), Has σ M' w → Calls Try.prog 6 #[] w fun r w' => r = .returned (.bool true) ∧ Has σ M' w') := fun M' w h => lives_has h
  have AL : Hid (∀ (M' : Mm) (w : World), Has σ M' w → Calls Try.prog 7 #[scrV c p e, .int .i64 l] w fun r w' => ∃ bs bl M2, r = .returned (.func (.func 15) #[] #[.pointer (some ⟨bs, 0, none⟩), .pointer (some ⟨bl, 0, none⟩)]) ∧ Has σ M2 w' ∧ M'.le M2 ∧ M2 bs = some (.cells (scrRow c p e) 29) ∧ M2 bl = some (.cells #[.int .i64 l] 3) ∧ M' bs = none ∧ M' bl = none) := fun M' w h => all_has h c p e l
  have AA : Hid (greatB P E 2000 = false → ∀ (M0 : Mm) (w : World) (bs bl b2 b3 bm bf bn bN bq : Nat), M.le M0 → M0 bs = some (.cells (scrRow c p e) 29) → M0 bl = some (.cells #[.int .i64 l] 3) → M0 b2 = some (.cells (scrRow c p e) 29) → M0 b3 = some (.cells #[.int .i64 l] 3) → M0 bm = some (.cells #[.int .i64 most] 3) → M0 bN = some (.cells #[.slice (some ⟨bq, 0, none⟩) 9 9] 32) → M0 bq = some (.cells namesRow 9) → (M0 bf = none ∧ M0 bn = none) → bf ≠ bn → Has σ ((M0.upd bf (.cells #[.bool true] 4)).upd bn (.cells #[.int .i64 0] 3)) w →
      Calls Try.prog 15 #[.func (.func 8) #[] #[.pointer (some ⟨bf, 0, none⟩), .pointer (some ⟨bn, 0, none⟩), .pointer (some ⟨bN, 0, none⟩), .pointer (some ⟨b2, 0, none⟩), .pointer (some ⟨b3, 0, none⟩), .pointer (some ⟨bm, 0, none⟩)], .pointer (some ⟨bs, 0, none⟩), .pointer (some ⟨bl, 0, none⟩)] w fun r w' => (∃ u, r = .returned u) ∧ ∃ K' : Mm, (K' bf = none ∧ K' bn = none) ∧ M0.le K' ∧ Has σ ((K'.upd bf (.cells #[.bool true] 4)).upd bn (.cells #[.int .i64 (wantOf most)] 3)) w') := fun hg M0 w bs bl b2 b3 bm bf bn bN bq hle h1 h2 h3 h4 h5 h6 h7 h8 h9 h => by
    obtain ⟨g1, g2⟩ := great_not (n := 2000) hg
    exact allAll_has c p e P E (hs.le hle) g2 g1 l most h1 h2 h3 h4 h5 h6 h7 h8 h9 h
  have sa := scr_all c p e
  have sz := scr_size c p e
  have dl : (#[.int .i64 l] : Array Value)[0]? = some (.int .i64 l) := rfl
  have dm : (#[.int .i64 most] : Array Value)[0]? = some (.int .i64 most) := rfl
  have dt : (#[.bool true] : Array Value)[0]? = some (.bool true) := rfl
  clear hs
  simp only [scrV] at GR AL ⊢
  generalize scrRow c p e = row at *
  generalize greatB P E 2000 = g at *
  go_enter Try.func3, Try.ntmps3
  go_upto_region 1 with (first
    | ((with_reducible show wpList _ _ _ ({ dst := _, op := Op.box 29 _, type := _, pos := _, after := _, guard := _ } :: _) _ _); refine wpList_box_has h rfl 29 _ rfl ?_; clear h; intro b2 w h hn2; try simp only [Act.put, List.setIfInBounds_toArray, List.set_cons_zero, List.set_cons_succ])
    | ((with_reducible show wpList _ _ _ ({ dst := some 4, op := Op.box 3 _, type := _, pos := _, after := _, guard := _ } :: _) _ _); refine wpList_box_has h rfl 3 _ rfl ?_; clear h; intro b3 w h hn3; try simp only [Act.put, List.setIfInBounds_toArray, List.set_cons_zero, List.set_cons_succ])
    | ((with_reducible show wpList _ _ _ ({ dst := _, op := Op.box 3 _, type := _, pos := _, after := _, guard := _ } :: _) _ _); refine wpList_box_has h rfl 3 _ rfl ?_; clear h; intro bm w h hnm; try simp only [Act.put, List.setIfInBounds_toArray, List.set_cons_zero, List.set_cons_succ]))
  replace h : Has σ (((M.upd b2 (.cells row 29)).upd b3 (.cells #[.int .i64 l] 3)).upd bm (.cells #[.int .i64 most] 3)) w := h
  replace hn3 : (M.upd b2 (.cells row 29)) b3 = none := hn3
  replace hnm : ((M.upd b2 (.cells row 29)).upd b3 (.cells #[.int .i64 l] 3)) bm = none := hnm
  have le3 := Mm.le_upd' hn3 (.cells #[.int .i64 l] 3)
  have le4 := Mm.le_upd' hnm (.cells #[.int .i64 most] 3)
  have le2 := Mm.le_upd' hn2 (.cells row 29)
  have hb2 := le4 _ _ (le3 _ _ (Mm.upd_same M b2 (.cells row 29)))
  have hb3 := le4 _ _ (Mm.upd_same (M.upd b2 (.cells row 29)) b3 (.cells #[.int .i64 l] 3))
  have hbm := Mm.upd_same ((M.upd b2 (.cells row 29)).upd b3 (.cells #[.int .i64 l] 3)) bm (.cells #[.int .i64 most] 3)
  have hle2 := Mm.le_trans le2 (Mm.le_trans le3 le4)
  generalize (((M.upd b2 (.cells row 29)).upd b3 (.cells #[.int .i64 l] 3)).upd bm (.cells #[.int .i64 most] 3)) = M2 at *
  clear le2 le3 le4 hn2 hn3 hnm
  have GRk := Lib.hid (fun (w : World) (h : Has σ M2 w) => GR.out M2 w h hle2)
  have LVk := Lib.hid (fun (w : World) (h : Has σ M2 w) => LV.out M2 w h)
  cases g
  · have AAf := Lib.hid (AA.out rfl)
    have hnf : ∀ (bs bl : Nat) (w : World), (binOp .eql 34 (.func (.func 15) #[] #[.pointer (some ⟨bs, 0, none⟩), .pointer (some ⟨bl, 0, none⟩)]) .nilFunc).run Try.prog w = .ok (.bool false) w := fun bs bl w => by kernel_rfl
    go_upto_region 4 with (first
      | ((with_reducible show wpList _ _ _ ({ dst := _, op := Op.load 29 _, type := _, pos := _, after := _, guard := _ } :: _) _ _); refine wpList_agg_has h rfl 29 _ rfl rfl hb2 sa sz Try.underlying29 rfl (by kernel_rfl) ?_; try simp only [Act.put, List.setIfInBounds_toArray, List.set_cons_zero, List.set_cons_succ])
      | (go_at_call 5; refine (GRk.out _ h).mono ?_; clear h; rintro r w ⟨rfl, h⟩)
      | ((with_reducible show wpList _ _ _ ({ dst := _, op := Op.alloc 32, type := _, pos := _, after := _, guard := _ } :: _) _ _); refine wpList_alloc_has (h.alloc (.cells namesRow 9)) rfl 32 rfl _ zero_strs ?_; have hnq := h.fresh; generalize w.heap.size = bq at hnq ⊢; clear h; intro bN w h hnN; try simp only [Act.put, List.setIfInBounds_toArray, List.set_cons_zero, List.set_cons_succ])
      | (with_reducible show wpList _ _ _ ({ dst := _, op := Op.store 32 _ _, type := _, pos := _, after := _, guard := _ } :: _) _ _; refine wpList_store1_has h rfl 32 _ _ rfl rfl rfl (Mm.upd_same _ _ _) (Nat.lt_succ_self 0) rfl (by kernel_rfl) ?_; clear h; intro w h))
    rw [Mm.upd_upd] at h
    replace h : Has σ ((M2.upd bq (.cells namesRow 9)).upd bN (.cells #[.slice (some ⟨bq, 0, none⟩) 9 9] 32)) w := h
    have leq := Mm.le_upd' hnq (.cells namesRow 9)
    have leN := Mm.le_upd' hnN (.cells #[.slice (some ⟨bq, 0, none⟩) 9 9] 32)
    have hbq := leN _ _ (Mm.upd_same M2 bq (.cells namesRow 9))
    have hbN := Mm.upd_same (M2.upd bq (.cells namesRow 9)) bN (.cells #[.slice (some ⟨bq, 0, none⟩) 9 9] 32)
    have hle3 : M2.le ((M2.upd bq (.cells namesRow 9)).upd bN (.cells #[.slice (some ⟨bq, 0, none⟩) 9 9] 32)) := Mm.le_trans leq leN
    generalize (M2.upd bq (.cells namesRow 9)).upd bN (.cells #[.slice (some ⟨bq, 0, none⟩) 9 9] 32) = M3 at *
    clear leq leN hnN hnq GRk LVk GR AA
    generalize namesRow = nrow at *
    have ALk := Lib.hid (fun (w : World) (h : Has σ M3 w) => AL.out M3 w h)
    have hb23 := hle3 _ _ hb2
    have hb33 := hle3 _ _ hb3
    go_upto_region 9 with (first
      | ((with_reducible show wpList _ _ _ ({ dst := _, op := Op.load 29 _, type := _, pos := _, after := _, guard := _ } :: _) _ _); refine wpList_agg_has h rfl 29 _ rfl rfl hb23 sa sz Try.underlying29 rfl (by kernel_rfl) ?_; try simp only [Act.put, List.setIfInBounds_toArray, List.set_cons_zero, List.set_cons_succ])
      | (with_reducible show wpList _ _ _ ({ dst := _, op := Op.load 3 _, type := _, pos := _, after := _, guard := _ } :: _) _ _; refine wpList_load1_has h rfl 3 _ rfl rfl hb33 dl Try.underlying3 rfl ?_)
      | (go_at_call 7; refine (ALk.out _ h).mono ?_; clear h; rintro r w ⟨bs, bl, M4, rfl, h, hle4, hbs, hbl, _, _⟩)
      | ((with_reducible show wpList _ _ _ ({ dst := _, op := Op.alloc 3, type := _, pos := _, after := _, guard := _ } :: _) _ _); refine wpList_alloc_has h rfl 3 rfl _ zero_int ?_; clear h; intro bn w h hnn; try simp only [Act.put, List.setIfInBounds_toArray, List.set_cons_zero, List.set_cons_succ])
      | (with_reducible show wpList _ _ _ ({ dst := _, op := Op.store 3 _ _, type := _, pos := _, after := _, guard := _ } :: _) _ _; refine wpList_store1_has h rfl 3 _ _ rfl rfl rfl (Mm.upd_same _ _ _) (Nat.lt_succ_self 0) rfl (by kernel_rfl) ?_; clear h; intro w h)
      | ((with_reducible show wpList _ _ _ ({ dst := _, op := Op.alloc 4, type := _, pos := _, after := _, guard := _ } :: _) _ _); refine wpList_alloc_has h rfl 4 rfl _ zero_bool ?_; clear h; intro bf w h hnf2; try simp only [Act.put, List.setIfInBounds_toArray, List.set_cons_zero, List.set_cons_succ])
      | (with_reducible show wpList _ _ _ ({ dst := _, op := Op.store 4 _ _, type := _, pos := _, after := _, guard := _ } :: _) _ _; refine wpList_store1_has h rfl 4 _ _ rfl rfl rfl (Mm.upd_same _ _ _) (Nat.lt_succ_self 0) rfl (by kernel_rfl) ?_; clear h; intro w h))
    have hfn : bf ≠ bn := fun e => by subst e; rw [Mm.upd_same] at hnf2; cases hnf2
    have hf4 : M4 bf = none := by rw [Mm.upd_ne hfn, Mm.upd_ne hfn] at hnf2; exact hnf2
    rw [Mm.upd_upd, Mm.upd_upd, Mm.upd_comm (Ne.symm hfn)] at h
    replace h : Has σ ((M4.upd bf (.cells #[.bool true] 4)).upd bn (.cells #[.int .i64 0] 3)) w := h
    have le34 := Mm.le_trans hle3 hle4
    have hbmN := le34 _ _ hbm
    have AAk := Lib.hid (fun (w : World) => AAf.out M4 w bs bl b2 b3 bm bf bn bN bq (Mm.le_trans hle2 le34) hbs hbl (le34 _ _ hb2) (le34 _ _ hb3) hbmN (hle4 _ _ hbN) (hle4 _ _ hbq) ⟨hf4, hnn⟩ hfn)
    clear AAf hnf ALk AL hbs hbl hnf2
    go_upto_region 10 with (first
      | (go_at_call 15; refine (AAk.out _ h).mono ?_; clear h; rintro r w ⟨⟨u, rfl⟩, K', hzK, hleK, h⟩))
    have lu := Mm.le_upd2 (o := (.cells #[.bool true] 4)) (o' := .cells #[.int .i64 (wantOf most)] 3) hfn hzK
    have hbmK := lu _ _ (hleK _ _ hbmN)
    have hbfK : ((K'.upd bf (.cells #[.bool true] 4)).upd bn (.cells #[.int .i64 (wantOf most)] 3)) bf = some (.cells #[.bool true] 4) := (Mm.upd_ne hfn).trans (Mm.upd_same _ _ _)
    have hbnK := Mm.upd_same (K'.upd bf (.cells #[.bool true] 4)) bn (.cells #[.int .i64 (wantOf most)] 3)
    have hMK := Mm.le_trans hle2 (Mm.le_trans le34 (Mm.le_trans hleK lu))
    generalize (K'.upd bf (.cells #[.bool true] 4)).upd bn (.cells #[.int .i64 (wantOf most)] 3) = MK at *
    clear AAk lu hleK hzK
    have LVk := Lib.hid (fun (w : World) (h : Has σ MK w) => LV.out MK w h)
    have dn : (#[.int .i64 (wantOf most)] : Array Value)[0]? = some (.int .i64 (wantOf most)) := rfl
    by_cases h1 : 0 < most
    · by_cases h2 : most < 9
      · rw [want_in h1 h2] at dn hbnK
        go_wp2_with (first
          | (with_reducible show wpList _ _ _ ({ dst := _, op := Op.load 3 _, type := _, pos := _, after := _, guard := _ } :: _) _ _; refine wpList_load1_has h rfl 3 _ rfl rfl hbmK dm Try.underlying3 rfl ?_)
          | (with_reducible show wpList _ _ _ ({ dst := _, op := Op.load 4 _, type := _, pos := _, after := _, guard := _ } :: _) _ _; refine wpList_load1_has h rfl 4 _ rfl rfl hbfK dt Try.underlying4 rfl ?_)
          | (with_reducible show wpList _ _ _ ({ dst := _, op := Op.load 3 _, type := _, pos := _, after := _, guard := _ } :: _) _ _; refine wpList_load1_has h rfl 3 _ rfl rfl hbnK dn Try.underlying3 rfl ?_)
          | (go_at_call 6; refine (LVk.out _ h).mono ?_; clear h; rintro r w ⟨rfl, h⟩))
        go_ret
        exact ⟨by simp, h.le hMK⟩
      · rw [want_out (fun h => h2 h.2)] at dn hbnK
        go_wp2_with (first
          | (with_reducible show wpList _ _ _ ({ dst := _, op := Op.load 3 _, type := _, pos := _, after := _, guard := _ } :: _) _ _; refine wpList_load1_has h rfl 3 _ rfl rfl hbmK dm Try.underlying3 rfl ?_)
          | (with_reducible show wpList _ _ _ ({ dst := _, op := Op.load 4 _, type := _, pos := _, after := _, guard := _ } :: _) _ _; refine wpList_load1_has h rfl 4 _ rfl rfl hbfK dt Try.underlying4 rfl ?_)
          | (with_reducible show wpList _ _ _ ({ dst := _, op := Op.load 3 _, type := _, pos := _, after := _, guard := _ } :: _) _ _; refine wpList_load1_has h rfl 3 _ rfl rfl hbnK dn Try.underlying3 rfl ?_)
          | (go_at_call 6; refine (LVk.out _ h).mono ?_; clear h; rintro r w ⟨rfl, h⟩))
        go_ret
        exact ⟨by simp, h.le hMK⟩
    · rw [want_out (fun h => h1 h.1)] at dn hbnK
      go_wp2_with (first
        | (with_reducible show wpList _ _ _ ({ dst := _, op := Op.load 3 _, type := _, pos := _, after := _, guard := _ } :: _) _ _; refine wpList_load1_has h rfl 3 _ rfl rfl hbmK dm Try.underlying3 rfl ?_)
        | (with_reducible show wpList _ _ _ ({ dst := _, op := Op.load 4 _, type := _, pos := _, after := _, guard := _ } :: _) _ _; refine wpList_load1_has h rfl 4 _ rfl rfl hbfK dt Try.underlying4 rfl ?_)
        | (with_reducible show wpList _ _ _ ({ dst := _, op := Op.load 3 _, type := _, pos := _, after := _, guard := _ } :: _) _ _; refine wpList_load1_has h rfl 3 _ rfl rfl hbnK dn Try.underlying3 rfl ?_)
        | (go_at_call 6; refine (LVk.out _ h).mono ?_; clear h; rintro r w ⟨rfl, h⟩))
      go_ret
      exact ⟨by simp, h.le hMK⟩
  · go_wp2_with (first
      | ((with_reducible show wpList _ _ _ ({ dst := _, op := Op.load 29 _, type := _, pos := _, after := _, guard := _ } :: _) _ _); refine wpList_agg_has h rfl 29 _ rfl rfl hb2 sa sz Try.underlying29 rfl (by kernel_rfl) ?_; try simp only [Act.put, List.setIfInBounds_toArray, List.set_cons_zero, List.set_cons_succ])
      | (go_at_call 5; refine (GRk.out _ h).mono ?_; clear h; rintro r w ⟨rfl, h⟩)
      | (go_at_call 6; refine (LVk.out _ h).mono ?_; clear h; rintro r w ⟨rfl, h⟩))
    go_ret
    exact ⟨rfl, h.le hle2⟩
end Go.Proofs.Ytlgnknaffnnkkaa
