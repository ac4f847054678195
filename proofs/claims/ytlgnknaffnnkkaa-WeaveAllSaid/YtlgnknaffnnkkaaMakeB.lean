/- The document's 'make'. -/
import Derived.Test.YtlgnknaffnnkkaaMakeA
import Derived.Test.YtlgnknaffnnkkaaWevP
namespace Go.Proofs.Ytlgnknaffnnkkaa
open Go.RowKit
set_option linter.unusedVariables false
set_option linter.unusedSimpArgs false
set_option linter.unnecessarySimpa false

set_option maxRecDepth 100000 in
set_option maxHeartbeats 4000000 in
theorem make3_has {σ w : World} {M0 M : Mm} (h : Has σ M w) (hle0 : M0.le M) (c : Nat → Int) (p : Nat → Value) (e : Value) (P : Nat → List PCall) (E : List PEnt) (hs0 : RdS M0 p e P E) (hE : E.length ≤ 2000) (hP : ∀ t, t < 8 → (P t).length ≤ 60) (l : Int) :
    Calls Try.prog 10 #[scrV c p e, .int .i64 l, .int .i64 3] w fun r w' => Made σ M0 M w' c (varP c l P 3) (varE c l E 3) r := by
  have hs := hs0.le hle0
  have AB : Hid (∀ (M : Mm) (w : World) (t : Int), Has σ M w → Calls Try.prog 18 #[confV c, .int .i64 t, .int .i64 l] w fun e w' => e = .returned (.bool (aboveB c t l)) ∧ Has σ M w') := fun M w t h => refAbove_has h c t l
  have RS0 := Lib.hid hs0
  have OP := Lib.hid hs.one
  have RP : Hid (∀ t, t < 8 → Rd M 7 (p t) (P t).length ((P t).flatMap encK)) := hs.progs
  have he := hs.ents
  have oe := hs.ents.one
  have HP := Lib.hid hP
  have KE0 : Hid (∀ (M' : Mm) (w : World), Has σ M' w → M.le M' → Calls Try.prog 19 #[scrV c p e, .int .i64 l, .bool false] w fun r w' => ∃ p' e' M2 K, r = .returned (scrV c p' e') ∧ Has σ M2 w' ∧ M'.le M2 ∧ M'.le K ∧ (∀ t, t < 8 → Rd M0 7 (p' t) (keepP c l false P t).length ((keepP c l false P t).flatMap encK)) ∧ Own K M2 43 2 e' (keepE c l false E).length ((keepE c l false E).flatMap encE)) := fun M' w h hle => keep_has0 h (Mm.le_trans hle0 hle) c p e P E hs0 (by omega) l false
  clear hs hs0 hP
  obtain ⟨A, cap, rfl⟩ := he.form
  obtain ⟨n, hl⟩ : ∃ n, E.length = n := ⟨_, rfl⟩
  rw [hl] at he hE KE0 RS0 ⊢
  have HL := Lib.hid hl
  clear hl
  have GT := Lib.hid (fun (t : Nat) (ht : t < 8) => scr_prog c p (.slice A n cap) ht)
  have g1 := scr_ents c p (.slice A n cap)
  have x0 := scr_conf c p (.slice A n cap)
  have sa := scr_all c p (.slice A n cap)
  have sz := scr_size c p (.slice A n cap)
  have one := scr_one c p (.slice A n cap) OP.out oe
  have SP := Lib.hid (fun (pf pf' : Nat → Value) (v e : Value) (t : Nat) (ht : t < 8) => scr_set_prog c pf pf' e v ht)
  have SE := Lib.hid (fun (pf : Nat → Value) (e v : Value) => scr_set_ents c pf e v)
  have SG := Lib.hid (fun (pf : Nat → Value) (e : Value) => scr_ents c pf e)
  have SZ := Lib.hid (fun (pf : Nat → Value) (e : Value) => scr_size c pf e)
  have SA := Lib.hid (fun (pf : Nat → Value) (e : Value) => scr_all c pf e)
  have SO := Lib.hid (fun (pf : Nat → Value) (e : Value) (h : ∀ t, t < 8 → (pf t).oneCell' = true) (oe : e.oneCell' = true) => scr_one c pf e h oe)
  have sz0 := scr_size (fun _ => 0) noP nilS
  have HSC : Hid (∀ pf e, scrV c pf e = .agg (scrRow c pf e)) := fun _ _ => rfl
  simp only [confV, ints14_lit] at AB
  simp only [HSC.out] at KE0 ⊢
  generalize hsr : (fun pf e => scrRow c pf e) = sr
  have HSR : Hid (∀ pf e, scrRow c pf e = sr pf e) := fun pf e => by rw [← hsr]
  clear hsr
  simp only [HSR.out] at SP SE SG SZ SA SO HSC KE0 GT g1 x0 sa sz one ⊢
  generalize hrow : sr p (.slice A n cap) = row at g1 x0 sa sz one GT KE0 ⊢
  have HROW := Lib.hid hrow
  clear hrow oe
  go_enter Try.func10, Try.ntmps10
  go_upto_region 1 with (fail)
  obtain ⟨M2, hbx, hle2, hb3, hb6, hn3, hn6⟩ := h.box2 (.cells row 29) (.cells #[.int .i64 0, .int .i64 0, .int .i64 0, .int .i64 0, .int .i64 0, .int .i64 0, .int .i64 0, .int .i64 0, .int .i64 0, .int .i64 0, .int .i64 0, .int .i64 0, .int .i64 0, .int .i64 0, .slice none 0 0, .slice none 0 0, .slice none 0 0, .slice none 0 0, .slice none 0 0, .slice none 0 0, .slice none 0 0, .slice none 0 0, .slice none 0 0] 29)
  generalize (w.alloc _).alloc _ = wx at hbx ⊢
  have hne_b3_b6 : w.heap.size ≠ w.heap.size + 1 := Nat.ne_of_lt (Nat.lt_succ_self _)
  generalize w.heap.size + 1 = b6 at hb6 hn6 hne_b3_b6 ⊢
  generalize w.heap.size = b3 at hb3 hn3 hne_b3_b6 ⊢
  clear h
  try clear w
  have h := hbx
  clear hbx
  obtain ⟨w, rfl⟩ : ∃ x : World, x = wx := ⟨_, rfl⟩
  have hb6 : M2 b6 = some (.cells (scrRow (fun _ => 0) noP nilS) 29) := hb6
  go_upto_region 2 with (first
    | ((with_reducible show wpList _ _ _ ({ dst := _, op := Op.load 29 _, type := _, pos := _, after := _, guard := _ } :: _) _ _); refine wpList_agg_has h rfl 29 _ rfl rfl hb3 sa sz Try.underlying29 rfl (by kernel_rfl) ?_; try simp only [Act.put, List.setIfInBounds_toArray, List.set_cons_zero, List.set_cons_succ])
    | ((with_reducible show wpList _ _ _ ({ dst := _, op := Op.alloc 29, type := _, pos := _, after := _, guard := _ } :: _) _ _); refine wpList_alloc_has h rfl 29 rfl _ zero_scr ?_; clear h; intro b7 w h hn7; try simp only [Act.put, List.setIfInBounds_toArray, List.set_cons_zero, List.set_cons_succ])
    | ((with_reducible show wpList _ _ _ ({ dst := _, op := Op.store 29 _ _, type := _, pos := _, after := _, guard := _ } :: _) _ _); refine wpList_storeAll_has (cells := row) h rfl 29 _ _ rfl rfl rfl (Mm.upd_same _ _ _) rfl (sz0.trans sz.symm) rfl (by rw [sz]; kernel_rfl) one ?_; clear h; intro w h))
  rw [Mm.upd_upd] at h
  have lt22 : 22 < row.size := by omega
  go_upto_region 3 with (first
    | ((with_reducible show wpList _ _ _ ({ dst := _, op := Op.store 27 _ _, type := _, pos := _, after := _, guard := _ } :: _) _ _); refine wpList_store1_has h rfl 27 _ _ rfl rfl rfl (Mm.upd_same _ _ _) lt22 rfl (by kernel_rfl) ?_; clear h; intro w h))
  rw [Mm.upd_upd] at h
  replace h : Has σ (M2.upd b7 (.cells (row.setIfInBounds 22 nilS) 29)) w := h
  rw [← HROW.out, SE.out] at h
  have MI : MakeInv σ M2 w b7 (.cells (sr p nilS) 29) nilS nilS nilS [] [] [] := ⟨M2, h, hn7, Mm.le_refl _, Own.nil _ _ _ _, Own.nil _ _ _ _, Own.nil _ _ _ _, Apart.nil _ _ _, Apart.nil _ _ _, Apart.nil _ _ _⟩
  clear h lt22
  have hn6' := hn6
  generalize hN : M2 = N at MI hb3 hb6 hn7
  have HN := Lib.hid hN
  rw [hN] at hle2
  clear hN
  replace he := he.le hle2
  go_wp2
  go_loopw [8, 9, 10] (fun vh vl i wr => ∃ (k : Nat) (v : Value), k ≤ n ∧ i = .int .i64 k ∧ MakeInv σ N wr b7 (.cells (sr p v) 29) v vh vl (eachE c l 1 (E.take k)) (hiE c l (E.take k)) (loE c l (E.take k))) (fun _ _ i _ => n - (intOf i).toNat)
  case atStart => exact ⟨0, nilS, by omega, rfl, by simpa [eachE, hiE, loE] using MI⟩
  case round =>
    clear MI w
    obtain ⟨w, rfl⟩ : ∃ x : World, x = wr := ⟨_, rfl⟩
    obtain ⟨k, v, hk, rfl, M', h, h7, hle, o1, o2, o3, a1, a2, a3⟩ := hrel
    obtain ⟨vh, hv, o2, a1, a3⟩ : ∃ u, u = _ ∧ Own N M' 43 2 u _ _ ∧ Apart _ u ∧ Apart u _ := ⟨_, rfl, o2, a1, a3⟩
    subst hv
    obtain ⟨vl, hv, o3, a2, a3⟩ : ∃ u, u = _ ∧ Own N M' 43 2 u _ _ ∧ Apart _ u ∧ Apart _ u := ⟨_, rfl, o3, a2, a3⟩
    subst hv
    have le7 := Mm.le_upd' h7 (.cells (sr p v) 29)
    have hle6 := Mm.le_trans hle le7
    have hb3' := hle6 _ _ hb3
    by_cases hlt : k < n
    · obtain ⟨⟨x1', x2'⟩, hx⟩ : ∃ x, E[k]? = some x := ⟨_, List.getElem?_eq_getElem (by rw [HL.out]; exact hlt)⟩
      have DE : Hid (eachE c l 1 (E.take (k + 1)) = eachE c l 1 (E.take k) ++ List.replicate (manyOf c l 1 (x1', x2')) (x1', x2')) := by show _ = _; rw [take_snoc'' hx, eachE_snoc]
      have DH : Hid (hiE c l (E.take (k + 1)) = hiE c l (E.take k) ++ if aboveB c x1' l then [(x1', x2')] else []) := by show _ = _; rw [take_snoc'' hx, hiE_snoc]
      have DL : Hid (loE c l (E.take (k + 1)) = loE c l (E.take k) ++ if aboveB c x1' l then [] else [(x1', x2')]) := by show _ = _; rw [take_snoc'' hx, loE_snoc]
      have l0 : (eachE c l 1 (E.take k)).length ≤ 100000 := by have := eachE_le c l (m := 1) (by omega) (E.take k); have := List.length_take_le k E; omega
      have l1 : (hiE c l (E.take k)).length ≤ 1000000 := by have := hiE_le c l (E.take k); have := List.length_take_le k E; omega
      have l2 : (loE c l (E.take k)).length ≤ 1000000 := by have := loE_le c l (E.take k); have := List.length_take_le k E; omega
      obtain ⟨b1, o0, c1, cs1, t1, f1, e1, hM1, hx1⟩ := he.elem encE_len hlt hx
      cases e1
      have hM1' := hle6 _ _ hM1
      have hc1 : cs1.extract (o0 + k * 2) (o0 + k * 2 + 2) = #[.int .i64 x1', .int .i64 x2'] := extract_of hx1 rfl
      have e2 : (#[.int .i64 0, .int .i64 0] : Array Value).size = 2 := rfl
      have e2' : (#[.int .i64 x1', .int .i64 x2'] : Array Value).size = 2 := rfl
      have d0 : (#[.int .i64 x1', .int .i64 x2'] : Array Value)[0]? = some (.int .i64 x1') := rfl
      have d1 : (#[.int .i64 x1', .int .i64 x2'] : Array Value)[1]? = some (.int .i64 x2') := rfl
      have xe := ent_all x1' x2'
      have MO : Hid (manyOf c l 1 (x1', x2') = if aboveB c x1' l && x2' == 0 then 1 else 1) := rfl
      clear hx1 hx hM1
      go_upto_region 8 with (first
        | (with_reducible show wpList _ _ _ ({ dst := _, op := Op.load 27 _, type := _, pos := _, after := _, guard := _ } :: _) _ _; refine wpList_load1_has h rfl 27 _ rfl rfl hb3' g1 Try.underlying27 rfl ?_)
        | ((with_reducible show wpList _ _ _ ({ dst := _, op := Op.load 43 _, type := _, pos := _, after := _, guard := _ } :: _) _ _); refine wpList_agg_has h rfl 43 _ rfl rfl hM1' hc1 rfl Try.underlying43 rfl (by kernel_rfl) ?_; try simp only [Act.put, List.setIfInBounds_toArray, List.set_cons_zero, List.set_cons_succ])
        | ((with_reducible show wpList _ _ _ ({ dst := _, op := Op.alloc 43, type := _, pos := _, after := _, guard := _ } :: _) _ _); refine wpList_alloc_has h rfl 43 rfl _ zero_ent ?_; clear h; intro b11 w h hn11; try simp only [Act.put, List.setIfInBounds_toArray, List.set_cons_zero, List.set_cons_succ])
        | ((with_reducible show wpList _ _ _ ({ dst := _, op := Op.store 43 _ _, type := _, pos := _, after := _, guard := _ } :: _) _ _); refine wpList_storeAll_has (cells := #[.int .i64 x1', .int .i64 x2']) h rfl 43 _ _ rfl rfl rfl (Mm.upd_same _ _ _) rfl (e2.trans e2'.symm) rfl (by rw [e2']; kernel_rfl) (by rfl) ?_; clear h; intro w h))
      clear hc1 hM1' e2 e2'
      rw [Mm.upd_upd] at h
      have hI := Lib.hid (fun (w : World) (h : Has σ ((M'.upd b7 (.cells (sr p v) 29)).upd b11 (.cells #[.int .i64 x1', .int .i64 x2'] 43)) w) => MakeInv.boxed h7 hle o1 o2 o3 a1 a2 a3 hn11 h)
      have hN11 := Mm.none_of hle6 hn11
      have hb11' := Mm.upd_same (M'.upd b7 (.cells (sr p v) 29)) b11 (.cells #[.int .i64 x1', .int .i64 x2'] 43)
      have hb3'' := (Mm.le_upd' hn11 (.cells #[.int .i64 x1', .int .i64 x2'] 43)) _ _ hb3'
      have ABk := Lib.hid (fun (w : World) (h : Has σ ((M'.upd b7 (.cells (sr p v) 29)).upd b11 (.cells #[.int .i64 x1', .int .i64 x2'] 43)) w) => AB.out _ w x1' h)
      clear o1 o2 o3 a1 a2 a3 hle h7 le7 hle6 hb3' hn11
      generalize (M'.upd b7 (.cells (sr p v) 29)).upd b11 (.cells #[.int .i64 x1', .int .i64 x2'] 43) = M7 at *
      generalize aboveB c x1' l = bk at ABk MO DH DL
      generalize manyOf c l 1 (x1', x2') = q at DE MO
      cases bk
      · obtain rfl : q = 1 := by rw [MO.out]; rfl
        clear MO
        replace DH : Hid (hiE c l (E.take (k + 1)) = hiE c l (E.take k)) := by show _ = _; rw [DH.out]; simp
        replace DL : Hid (loE c l (E.take (k + 1)) = loE c l (E.take k) ++ [(x1', x2')]) := by show _ = _; rw [DL.out]; simp
        go_wp2_with (first
          | ((with_reducible show wpList _ _ _ ({ dst := _, op := Op.load 24 _, type := _, pos := _, after := _, guard := _ } :: _) _ _); refine wpList_agg_has h rfl 24 _ rfl rfl hb3'' x0 rfl Try.underlying24 rfl (by kernel_rfl) ?_; try simp only [Act.put, List.setIfInBounds_toArray, List.set_cons_zero, List.set_cons_succ])
          | (with_reducible show wpList _ _ _ ({ dst := _, op := Op.load 3 _, type := _, pos := _, after := _, guard := _ } :: _) _ _; refine wpList_load1_has h rfl 3 _ rfl rfl hb11' d0 Try.underlying3 rfl ?_)
          | (with_reducible show wpList _ _ _ ({ dst := _, op := Op.load 3 _, type := _, pos := _, after := _, guard := _ } :: _) _ _; refine wpList_load1_has h rfl 3 _ rfl rfl hb11' d1 Try.underlying3 rfl ?_)
          | (go_at_call 18; refine (ABk.out _ h).mono ?_; clear h; rintro e w ⟨rfl, h⟩))
        replace hI := hI.out
        go_loopw [14] (fun i wr => ∃ (j : Nat) (v : Value), j ≤ 1 ∧ i = .int .i64 j ∧ MakeInv σ (N.upd b11 (.cells #[.int .i64 x1', .int .i64 x2'] 43)) wr b7 (.cells (sr p v) 29) v vh vl (eachE c l 1 (E.take k) ++ List.replicate j (x1', x2')) (hiE c l (E.take k)) (loE c l (E.take k))) (fun i _ => 1 - (intOf i).toNat)
        case atStart => exact ⟨0, v, by omega, rfl, by simpa using hI w h⟩
        case round =>
          clear h w hI
          obtain ⟨w, rfl⟩ : ∃ x : World, x = wr := ⟨_, rfl⟩
          obtain ⟨j, v, hj, rfl, Mj, h, hj7, hjle, o1, o2, o3, a1, a2, a3⟩ := hrel
          have hjr := Lib.hid (show (j : Int) = j from rfl)
          have gv := SG.out p v
          have lt22 : 22 < (sr p v).size := by rw [SZ.out]; omega
          have SEv := Lib.hid (fun v' => SE.out p v v')
          have hb7j := Mm.upd_same Mj b7 (.cells (sr p v) 29)
          have hleB := Mm.le_trans hjle (Mm.le_upd' hj7 (.cells (sr p v) 29))
          have hb11 := hleB _ _ (Mm.upd_same N b11 (.cells #[.int .i64 x1', .int .i64 x2'] 43))
          have xe := ent_all x1' x2'
          by_cases hjq : j < 1
          · have lenA : (eachE c l 1 (E.take k) ++ List.replicate j (x1', x2')).length ≤ 1000000 := by rw [List.length_append, List.length_replicate]; omega
            have lel := Mm.less_le (Mj.upd b7 (.cells (sr p v) 29)) v
            have ol := Own.less (o1.box (o := (.cells (sr p v) 29)) hj7)
            have KE := Lib.hid (fun (w : World) (v' : Value) (hacc : Acc σ ((Mj.upd b7 (.cells (sr p v) 29)).less v) w 43 2 v' _ (_ ++ encE (x1', x2'))) => MakeInv.ents hj7 hjle o1 o2 o3 a1 a2 a3 hacc)
            generalize Mj.upd b7 (.cells (sr p v) 29) = M6 at *
            clear o1 o2 o3 a1 a2 a3 hjle hj7 hleB
            generalize sr p v = rv at gv lt22 hb7j SEv KE
            go_wp2_with (first
              | (with_reducible show wpList _ _ _ ({ dst := _, op := Op.load 27 _, type := _, pos := _, after := _, guard := _ } :: _) _ _; refine wpList_load1_has h rfl 27 _ rfl rfl hb7j gv Try.underlying27 rfl ?_)
              | ((with_reducible show wpList _ _ _ ({ dst := _, op := Op.load 43 _, type := _, pos := _, after := _, guard := _ } :: _) _ _); refine wpList_agg_has h rfl 43 _ rfl rfl hb11 xe rfl Try.underlying43 rfl (by kernel_rfl) ?_; try simp only [Act.put, List.setIfInBounds_toArray, List.set_cons_zero, List.set_cons_succ])
              | (at_builtin; refine wpList_append_lit h lel rfl _ _ _ rfl rfl Try.underlying27 info_ent rfl (by omega) rfl ol rfl rfl rfl (by omega) (by omega) ?_; clear h lel ol; intro v w hacc)
              | ((with_reducible show wpList _ _ _ ({ dst := _, op := Op.store 27 _ _, type := _, pos := _, after := _, guard := _ } :: _) _ _); obtain ⟨one5, M5, h, hb75, KM⟩ := KE.out _ _ hacc; refine wpList_store1_has h rfl 27 _ _ rfl rfl rfl hb75 lt22 one5 (by kernel_rfl) ?_; clear h; intro w h))
            replace h : Has σ (M5.upd b7 (.cells (rv.setIfInBounds 22 v) 29)) w := h
            rw [SEv.out] at h
            have KM2 := KM _ _ h
            first | (go_roundw; (case rel => exact ⟨j + 1, v, by omega, by go_num, by rw [List.replicate_succ', ← List.append_assoc]; exact KM2⟩); (case measure => simp [intOf]; omega)) | exact ⟨⟨j + 1, v, by omega, congrArg (Value.int .i64) (by omega), by rw [List.replicate_succ', ← List.append_assoc]; exact KM2⟩, by simp [intOf]; omega⟩ | exact ⟨⟨j + 1, by omega, by omega, v, by rw [List.replicate_succ', ← List.append_assoc]; exact KM2⟩, by simp [intOf]; omega⟩
          · obtain rfl : j = 1 := by omega
            clear hj hjq SEv lt22 gv
            obtain ⟨ve, rfl⟩ : ∃ x, x = v := ⟨_, rfl⟩
            have leN11 := Mm.le_upd' hN11 (.cells #[.int .i64 x1', .int .i64 x2'] 43)
            have lel := Mm.less_le (Mj.upd b7 (.cells (sr p ve) 29)) vl
            have ol := Own.less (o3.box (o := .cells (sr p ve) 29) hj7)
            have KM := Lib.hid (fun (w : World) (v' : Value) (hacc : Acc σ ((Mj.upd b7 (.cells (sr p ve) 29)).less vl) w 43 2 v' _ (_ ++ encE (x1', x2'))) => (MakeInv.low hj7 hjle o1 o2 o3 a1 a2 a3 hacc).base leN11)
            generalize Mj.upd b7 (.cells (sr p ve) 29) = M6 at *
            clear o1 o2 o3 a1 a2 a3 hjle hj7 hleB
            go_wp2_with (first
              | ((with_reducible show wpList _ _ _ ({ dst := _, op := Op.load 43 _, type := _, pos := _, after := _, guard := _ } :: _) _ _); refine wpList_agg_has h rfl 43 _ rfl rfl hb11 xe rfl Try.underlying43 rfl (by kernel_rfl) ?_; try simp only [Act.put, List.setIfInBounds_toArray, List.set_cons_zero, List.set_cons_succ])
              | (at_builtin; refine wpList_append_lit h lel rfl _ _ _ rfl rfl Try.underlying27 info_ent rfl (by omega) rfl ol rfl rfl rfl (by omega) (by omega) ?_; clear h lel ol; intro v w hacc))
            have KM2 := KM.out _ _ hacc
            first | (go_roundw; (case rel => exact ⟨k + 1, ve, by omega, by go_num, by rw [DE.out, DH.out, DL.out]; exact KM2⟩); (case measure => simp [intOf]; omega)) | exact ⟨⟨k + 1, by omega, by omega, ve, by rw [DE.out, DH.out, DL.out]; exact KM2⟩, by simp [intOf]; omega⟩
      · replace DH : Hid (hiE c l (E.take (k + 1)) = hiE c l (E.take k) ++ [(x1', x2')]) := by show _ = _; rw [DH.out]; simp
        replace DL : Hid (loE c l (E.take (k + 1)) = loE c l (E.take k)) := by show _ = _; rw [DL.out]; simp
        cases h0 : (x2' == 0)
        · have h0' : ¬ x2' = 0 := by simpa using h0
          obtain rfl : q = 1 := by rw [MO.out, h0]; rfl
          clear MO h0
          go_wp2_with (first
            | ((with_reducible show wpList _ _ _ ({ dst := _, op := Op.load 24 _, type := _, pos := _, after := _, guard := _ } :: _) _ _); refine wpList_agg_has h rfl 24 _ rfl rfl hb3'' x0 rfl Try.underlying24 rfl (by kernel_rfl) ?_; try simp only [Act.put, List.setIfInBounds_toArray, List.set_cons_zero, List.set_cons_succ])
            | (with_reducible show wpList _ _ _ ({ dst := _, op := Op.load 3 _, type := _, pos := _, after := _, guard := _ } :: _) _ _; refine wpList_load1_has h rfl 3 _ rfl rfl hb11' d0 Try.underlying3 rfl ?_)
            | (with_reducible show wpList _ _ _ ({ dst := _, op := Op.load 3 _, type := _, pos := _, after := _, guard := _ } :: _) _ _; refine wpList_load1_has h rfl 3 _ rfl rfl hb11' d1 Try.underlying3 rfl ?_)
            | (go_at_call 18; refine (ABk.out _ h).mono ?_; clear h; rintro e w ⟨rfl, h⟩))
          replace hI := hI.out
          clear h0'
          go_loopw [14] (fun i wr => ∃ (j : Nat) (v : Value), j ≤ 1 ∧ i = .int .i64 j ∧ MakeInv σ (N.upd b11 (.cells #[.int .i64 x1', .int .i64 x2'] 43)) wr b7 (.cells (sr p v) 29) v vh vl (eachE c l 1 (E.take k) ++ List.replicate j (x1', x2')) (hiE c l (E.take k)) (loE c l (E.take k))) (fun i _ => 1 - (intOf i).toNat)
          case atStart => exact ⟨0, v, by omega, rfl, by simpa using hI w h⟩
          case round =>
            clear h w hI
            obtain ⟨w, rfl⟩ : ∃ x : World, x = wr := ⟨_, rfl⟩
            obtain ⟨j, v, hj, rfl, Mj, h, hj7, hjle, o1, o2, o3, a1, a2, a3⟩ := hrel
            have hjr := Lib.hid (show (j : Int) = j from rfl)
            have gv := SG.out p v
            have lt22 : 22 < (sr p v).size := by rw [SZ.out]; omega
            have SEv := Lib.hid (fun v' => SE.out p v v')
            have hb7j := Mm.upd_same Mj b7 (.cells (sr p v) 29)
            have hleB := Mm.le_trans hjle (Mm.le_upd' hj7 (.cells (sr p v) 29))
            have hb11 := hleB _ _ (Mm.upd_same N b11 (.cells #[.int .i64 x1', .int .i64 x2'] 43))
            have xe := ent_all x1' x2'
            by_cases hjq : j < 1
            · have lenA : (eachE c l 1 (E.take k) ++ List.replicate j (x1', x2')).length ≤ 1000000 := by rw [List.length_append, List.length_replicate]; omega
              have lel := Mm.less_le (Mj.upd b7 (.cells (sr p v) 29)) v
              have ol := Own.less (o1.box (o := (.cells (sr p v) 29)) hj7)
              have KE := Lib.hid (fun (w : World) (v' : Value) (hacc : Acc σ ((Mj.upd b7 (.cells (sr p v) 29)).less v) w 43 2 v' _ (_ ++ encE (x1', x2'))) => MakeInv.ents hj7 hjle o1 o2 o3 a1 a2 a3 hacc)
              generalize Mj.upd b7 (.cells (sr p v) 29) = M6 at *
              clear o1 o2 o3 a1 a2 a3 hjle hj7 hleB
              generalize sr p v = rv at gv lt22 hb7j SEv KE
              go_wp2_with (first
                | (with_reducible show wpList _ _ _ ({ dst := _, op := Op.load 27 _, type := _, pos := _, after := _, guard := _ } :: _) _ _; refine wpList_load1_has h rfl 27 _ rfl rfl hb7j gv Try.underlying27 rfl ?_)
                | ((with_reducible show wpList _ _ _ ({ dst := _, op := Op.load 43 _, type := _, pos := _, after := _, guard := _ } :: _) _ _); refine wpList_agg_has h rfl 43 _ rfl rfl hb11 xe rfl Try.underlying43 rfl (by kernel_rfl) ?_; try simp only [Act.put, List.setIfInBounds_toArray, List.set_cons_zero, List.set_cons_succ])
                | (at_builtin; refine wpList_append_lit h lel rfl _ _ _ rfl rfl Try.underlying27 info_ent rfl (by omega) rfl ol rfl rfl rfl (by omega) (by omega) ?_; clear h lel ol; intro v w hacc)
                | ((with_reducible show wpList _ _ _ ({ dst := _, op := Op.store 27 _ _, type := _, pos := _, after := _, guard := _ } :: _) _ _); obtain ⟨one5, M5, h, hb75, KM⟩ := KE.out _ _ hacc; refine wpList_store1_has h rfl 27 _ _ rfl rfl rfl hb75 lt22 one5 (by kernel_rfl) ?_; clear h; intro w h))
              replace h : Has σ (M5.upd b7 (.cells (rv.setIfInBounds 22 v) 29)) w := h
              rw [SEv.out] at h
              have KM2 := KM _ _ h
              first | (go_roundw; (case rel => exact ⟨j + 1, v, by omega, by go_num, by rw [List.replicate_succ', ← List.append_assoc]; exact KM2⟩); (case measure => simp [intOf]; omega)) | exact ⟨⟨j + 1, v, by omega, congrArg (Value.int .i64) (by omega), by rw [List.replicate_succ', ← List.append_assoc]; exact KM2⟩, by simp [intOf]; omega⟩ | exact ⟨⟨j + 1, by omega, by omega, v, by rw [List.replicate_succ', ← List.append_assoc]; exact KM2⟩, by simp [intOf]; omega⟩
            · obtain rfl : j = 1 := by omega
              clear hj hjq SEv lt22 gv
              obtain ⟨ve, rfl⟩ : ∃ x, x = v := ⟨_, rfl⟩
              have leN11 := Mm.le_upd' hN11 (.cells #[.int .i64 x1', .int .i64 x2'] 43)
              have lel := Mm.less_le (Mj.upd b7 (.cells (sr p ve) 29)) vh
              have ol := Own.less (o2.box (o := .cells (sr p ve) 29) hj7)
              have KM := Lib.hid (fun (w : World) (v' : Value) (hacc : Acc σ ((Mj.upd b7 (.cells (sr p ve) 29)).less vh) w 43 2 v' _ (_ ++ encE (x1', x2'))) => (MakeInv.high hj7 hjle o1 o2 o3 a1 a2 a3 hacc).base leN11)
              generalize Mj.upd b7 (.cells (sr p ve) 29) = M6 at *
              clear o1 o2 o3 a1 a2 a3 hjle hj7 hleB
              go_wp2_with (first
                | ((with_reducible show wpList _ _ _ ({ dst := _, op := Op.load 43 _, type := _, pos := _, after := _, guard := _ } :: _) _ _); refine wpList_agg_has h rfl 43 _ rfl rfl hb11 xe rfl Try.underlying43 rfl (by kernel_rfl) ?_; try simp only [Act.put, List.setIfInBounds_toArray, List.set_cons_zero, List.set_cons_succ])
                | (at_builtin; refine wpList_append_lit h lel rfl _ _ _ rfl rfl Try.underlying27 info_ent rfl (by omega) rfl ol rfl rfl rfl (by omega) (by omega) ?_; clear h lel ol; intro v w hacc))
              have KM2 := KM.out _ _ hacc
              first | (go_roundw; (case rel => exact ⟨k + 1, ve, by omega, by go_num, by rw [DE.out, DH.out, DL.out]; exact KM2⟩); (case measure => simp [intOf]; omega)) | exact ⟨⟨k + 1, by omega, by omega, ve, by rw [DE.out, DH.out, DL.out]; exact KM2⟩, by simp [intOf]; omega⟩
        · have h0' : x2' = 0 := by simpa using h0
          obtain rfl : q = 1 := by rw [MO.out, h0]; rfl
          clear MO h0
          go_wp2_with (first
            | ((with_reducible show wpList _ _ _ ({ dst := _, op := Op.load 24 _, type := _, pos := _, after := _, guard := _ } :: _) _ _); refine wpList_agg_has h rfl 24 _ rfl rfl hb3'' x0 rfl Try.underlying24 rfl (by kernel_rfl) ?_; try simp only [Act.put, List.setIfInBounds_toArray, List.set_cons_zero, List.set_cons_succ])
            | (with_reducible show wpList _ _ _ ({ dst := _, op := Op.load 3 _, type := _, pos := _, after := _, guard := _ } :: _) _ _; refine wpList_load1_has h rfl 3 _ rfl rfl hb11' d0 Try.underlying3 rfl ?_)
            | (with_reducible show wpList _ _ _ ({ dst := _, op := Op.load 3 _, type := _, pos := _, after := _, guard := _ } :: _) _ _; refine wpList_load1_has h rfl 3 _ rfl rfl hb11' d1 Try.underlying3 rfl ?_)
            | (go_at_call 18; refine (ABk.out _ h).mono ?_; clear h; rintro e w ⟨rfl, h⟩))
          replace hI := hI.out
          clear h0'
          go_loopw [14] (fun i wr => ∃ (j : Nat) (v : Value), j ≤ 1 ∧ i = .int .i64 j ∧ MakeInv σ (N.upd b11 (.cells #[.int .i64 x1', .int .i64 x2'] 43)) wr b7 (.cells (sr p v) 29) v vh vl (eachE c l 1 (E.take k) ++ List.replicate j (x1', x2')) (hiE c l (E.take k)) (loE c l (E.take k))) (fun i _ => 1 - (intOf i).toNat)
          case atStart => exact ⟨0, v, by omega, rfl, by simpa using hI w h⟩
          case round =>
            clear h w hI
            obtain ⟨w, rfl⟩ : ∃ x : World, x = wr := ⟨_, rfl⟩
            obtain ⟨j, v, hj, rfl, Mj, h, hj7, hjle, o1, o2, o3, a1, a2, a3⟩ := hrel
            have hjr := Lib.hid (show (j : Int) = j from rfl)
            have gv := SG.out p v
            have lt22 : 22 < (sr p v).size := by rw [SZ.out]; omega
            have SEv := Lib.hid (fun v' => SE.out p v v')
            have hb7j := Mm.upd_same Mj b7 (.cells (sr p v) 29)
            have hleB := Mm.le_trans hjle (Mm.le_upd' hj7 (.cells (sr p v) 29))
            have hb11 := hleB _ _ (Mm.upd_same N b11 (.cells #[.int .i64 x1', .int .i64 x2'] 43))
            have xe := ent_all x1' x2'
            by_cases hjq : j < 1
            · have lenA : (eachE c l 1 (E.take k) ++ List.replicate j (x1', x2')).length ≤ 1000000 := by rw [List.length_append, List.length_replicate]; omega
              have lel := Mm.less_le (Mj.upd b7 (.cells (sr p v) 29)) v
              have ol := Own.less (o1.box (o := (.cells (sr p v) 29)) hj7)
              have KE := Lib.hid (fun (w : World) (v' : Value) (hacc : Acc σ ((Mj.upd b7 (.cells (sr p v) 29)).less v) w 43 2 v' _ (_ ++ encE (x1', x2'))) => MakeInv.ents hj7 hjle o1 o2 o3 a1 a2 a3 hacc)
              generalize Mj.upd b7 (.cells (sr p v) 29) = M6 at *
              clear o1 o2 o3 a1 a2 a3 hjle hj7 hleB
              generalize sr p v = rv at gv lt22 hb7j SEv KE
              go_wp2_with (first
                | (with_reducible show wpList _ _ _ ({ dst := _, op := Op.load 27 _, type := _, pos := _, after := _, guard := _ } :: _) _ _; refine wpList_load1_has h rfl 27 _ rfl rfl hb7j gv Try.underlying27 rfl ?_)
                | ((with_reducible show wpList _ _ _ ({ dst := _, op := Op.load 43 _, type := _, pos := _, after := _, guard := _ } :: _) _ _); refine wpList_agg_has h rfl 43 _ rfl rfl hb11 xe rfl Try.underlying43 rfl (by kernel_rfl) ?_; try simp only [Act.put, List.setIfInBounds_toArray, List.set_cons_zero, List.set_cons_succ])
                | (at_builtin; refine wpList_append_lit h lel rfl _ _ _ rfl rfl Try.underlying27 info_ent rfl (by omega) rfl ol rfl rfl rfl (by omega) (by omega) ?_; clear h lel ol; intro v w hacc)
                | ((with_reducible show wpList _ _ _ ({ dst := _, op := Op.store 27 _ _, type := _, pos := _, after := _, guard := _ } :: _) _ _); obtain ⟨one5, M5, h, hb75, KM⟩ := KE.out _ _ hacc; refine wpList_store1_has h rfl 27 _ _ rfl rfl rfl hb75 lt22 one5 (by kernel_rfl) ?_; clear h; intro w h))
              replace h : Has σ (M5.upd b7 (.cells (rv.setIfInBounds 22 v) 29)) w := h
              rw [SEv.out] at h
              have KM2 := KM _ _ h
              first | (go_roundw; (case rel => exact ⟨j + 1, v, by omega, by go_num, by rw [List.replicate_succ', ← List.append_assoc]; exact KM2⟩); (case measure => simp [intOf]; omega)) | exact ⟨⟨j + 1, v, by omega, congrArg (Value.int .i64) (by omega), by rw [List.replicate_succ', ← List.append_assoc]; exact KM2⟩, by simp [intOf]; omega⟩ | exact ⟨⟨j + 1, by omega, by omega, v, by rw [List.replicate_succ', ← List.append_assoc]; exact KM2⟩, by simp [intOf]; omega⟩
            · obtain rfl : j = 1 := by omega
              clear hj hjq SEv lt22 gv
              obtain ⟨ve, rfl⟩ : ∃ x, x = v := ⟨_, rfl⟩
              have leN11 := Mm.le_upd' hN11 (.cells #[.int .i64 x1', .int .i64 x2'] 43)
              have lel := Mm.less_le (Mj.upd b7 (.cells (sr p ve) 29)) vh
              have ol := Own.less (o2.box (o := .cells (sr p ve) 29) hj7)
              have KM := Lib.hid (fun (w : World) (v' : Value) (hacc : Acc σ ((Mj.upd b7 (.cells (sr p ve) 29)).less vh) w 43 2 v' _ (_ ++ encE (x1', x2'))) => (MakeInv.high hj7 hjle o1 o2 o3 a1 a2 a3 hacc).base leN11)
              generalize Mj.upd b7 (.cells (sr p ve) 29) = M6 at *
              clear o1 o2 o3 a1 a2 a3 hjle hj7 hleB
              go_wp2_with (first
                | ((with_reducible show wpList _ _ _ ({ dst := _, op := Op.load 43 _, type := _, pos := _, after := _, guard := _ } :: _) _ _); refine wpList_agg_has h rfl 43 _ rfl rfl hb11 xe rfl Try.underlying43 rfl (by kernel_rfl) ?_; try simp only [Act.put, List.setIfInBounds_toArray, List.set_cons_zero, List.set_cons_succ])
                | (at_builtin; refine wpList_append_lit h lel rfl _ _ _ rfl rfl Try.underlying27 info_ent rfl (by omega) rfl ol rfl rfl rfl (by omega) (by omega) ?_; clear h lel ol; intro v w hacc))
              have KM2 := KM.out _ _ hacc
              first | (go_roundw; (case rel => exact ⟨k + 1, ve, by omega, by go_num, by rw [DE.out, DH.out, DL.out]; exact KM2⟩); (case measure => simp [intOf]; omega)) | exact ⟨⟨k + 1, by omega, by omega, ve, by rw [DE.out, DH.out, DL.out]; exact KM2⟩, by simp [intOf]; omega⟩
    · obtain rfl : k = n := by omega
      have EA : E.take k = E := List.take_of_length_le (by rw [HL.out]; exact Nat.le_refl _)
      rw [EA] at o1 o2 o3
      clear EA hlt hk
      have hb7 := Mm.upd_same M' b7 (.cells (sr p v) 29)
      have hb6' := hle6 _ _ hb6
      have o1B := o1.box (o := (.cells (sr p v) 29)) h7
      have o2B := o2.box (o := (.cells (sr p v) 29)) h7
      have o3B := o3.box (o := (.cells (sr p v) 29)) h7
      have leB := Mm.le_box (X := (.cells (sr p v) 29)) (b := b7) hle
      have n67 : b6 ≠ b7 := Mm.ne_of hn7 hb6
      have leMB : M.le (N.upd b7 (.cells (sr p v) 29)) := Mm.le_upd hle2 (Mm.none_of hle2 hn7) _
      have hbN6 : (N.upd b7 (.cells (sr p v) 29)) b6 = some (.cells (scrRow (fun _ => 0) noP nilS) 29) := (Mm.upd_ne n67).trans hb6
      have lh := hiE_le c l E
      have ll := loE_le c l E
      rw [HL.out] at lh ll
      generalize M'.upd b7 (.cells (sr p v) 29) = ME at *
      go_wp2_with (first
        | (with_reducible show wpList _ _ _ ({ dst := _, op := Op.load 27 _, type := _, pos := _, after := _, guard := _ } :: _) _ _; refine wpList_load1_has h rfl 27 _ rfl rfl hb3' g1 Try.underlying27 rfl ?_))
      go_loopw [15, 16] (fun vf i wr => ∃ t : Nat, t ≤ 8 ∧ i = .int .i64 t ∧ vf = nilS ∧ Has σ ME wr) (fun _ i _ => 8 - (intOf i).toNat)
      case atStart => exact ⟨0, by omega, rfl, rfl, h⟩
      case round =>
        clear h w
        obtain ⟨w, rfl⟩ : ∃ x : World, x = wr := ⟨_, rfl⟩
        obtain ⟨t, ht, rfl, rfl, h⟩ := hrel
        by_cases hlt : t < 8
        · have ABk := Lib.hid (fun (w : World) (h : Has σ ME w) => AB.out ME w t h)
          generalize aboveB c t l = bk at ABk
          cases bk
          · go_wp2_with (first
              | ((with_reducible show wpList _ _ _ ({ dst := _, op := Op.load 24 _, type := _, pos := _, after := _, guard := _ } :: _) _ _); refine wpList_agg_has h rfl 24 _ rfl rfl hb3' x0 rfl Try.underlying24 rfl (by kernel_rfl) ?_; try simp only [Act.put, List.setIfInBounds_toArray, List.set_cons_zero, List.set_cons_succ])
              | (go_at_call 18; refine (ABk.out _ h).mono ?_; clear h; rintro e w ⟨rfl, h⟩))
            go_roundw
            case rel => exact ⟨t + 1, by omega, by go_num, rfl, h⟩
            case measure => simp [intOf]; omega
          · go_wp2_with (first
              | ((with_reducible show wpList _ _ _ ({ dst := _, op := Op.load 24 _, type := _, pos := _, after := _, guard := _ } :: _) _ _); refine wpList_agg_has h rfl 24 _ rfl rfl hb3' x0 rfl Try.underlying24 rfl (by kernel_rfl) ?_; try simp only [Act.put, List.setIfInBounds_toArray, List.set_cons_zero, List.set_cons_succ])
              | (go_at_call 18; refine (ABk.out _ h).mono ?_; clear h; rintro e w ⟨rfl, h⟩))
            go_roundw
            case rel => exact ⟨t + 1, by omega, by go_num, rfl, h⟩
            case measure => simp [intOf]; omega
        · obtain rfl : t = 8 := by omega
          have lel := Mm.less_le ME vl
          have ol := Own.less o3B
          have rdh := o2B.rd
          have oh := oneE (hiE c l E)
          have lt22 : 22 < (sr p v).size := by rw [SZ.out]; omega
          have SEv := Lib.hid (fun v' => SE.out p v v')
          obtain ⟨ve, hve⟩ : ∃ x, x = v := ⟨_, rfl⟩
          rw [← hve] at hb7 hbN6 leB o1B o2B o3B lt22 SEv leMB
          clear hve
          go_upto_region 49 with (first
            | (at_builtin; refine wpList_append_rd h lel rfl _ _ _ rfl Try.underlying27 info_ent rfl (by omega) rfl ol rfl rdh oh (by omega) (by omega) ?_; clear h lel ol; intro v w hacc)
            | ((with_reducible show wpList _ _ _ ({ dst := _, op := Op.store 27 _ _, type := _, pos := _, after := _, guard := _ } :: _) _ _); obtain ⟨M5, h, hle5, own5, _⟩ := Acc.split o3B leB hacc; have one5 := own5.one; refine wpList_store1_has h rfl 27 _ _ rfl rfl rfl (hle5 _ _ (Mm.upd_same _ _ _)) lt22 one5 (by kernel_rfl) ?_; clear h; intro w h))
          replace h : Has σ (M5.upd b7 (.cells ((sr p ve).setIfInBounds 22 v) 29)) w := h
          rw [SEv.out] at h
          have own6 := Own.upd_both own5 (.cells (sr p v) 29)
          have hb7F := Mm.upd_same M5 b7 (.cells (sr p v) 29)
          have leN6 : (N.upd b7 (.cells (sr p v) 29)).le (M5.upd b7 (.cells (sr p v) 29)) := Mm.le_upd_both hle5 _
          have hbN6' : (N.upd b7 (.cells (sr p v) 29)) b6 = some (.cells (scrRow (fun _ => 0) noP nilS) 29) := (Mm.upd_ne n67).trans hb6
          have hb6F := leN6 _ _ hbN6'
          have leMB' : M.le (N.upd b7 (.cells (sr p v) 29)) := Mm.le_upd hle2 (Mm.none_of hle2 hn7) _
          have hMF := Mm.le_trans leMB' leN6
          have onep := OP.out
          have onev := own6.one
          have hRF : ∀ N2, (∀ c x, ((M5.upd b7 (.cells (sr p v) 29)).upd b6 (.cells (sr p v) 29)) c = some x → (M c = none ∨ M0 c ≠ none) → N2 c = some x) → RdS N2 p v P (loE c l E ++ hiE c l E) := fun N2 hN2 => ⟨fun t ht => (RS0.out.progs t ht).le (Mm.le_in (Mm.le_trans hle0 (Mm.le_upd hMF hn6' _)) hN2), by
            have := (own6.upd_at hbN6' (.cells (sr p v) 29)).rd_in (N := N2) fun c x h0 h1 => hN2 c x h1 (.inl (Mm.none_of leMB' h0))
            rw [List.length_append, List.flatMap_append]
            exact this⟩
          clear own6 leN6 hbN6' leMB' one5
          generalize M5.upd b7 (.cells (sr p v) 29) = F at *
          obtain ⟨pF, hpF⟩ : ∃ x, x = p := ⟨_, rfl⟩
          obtain ⟨vF, hvF⟩ : ∃ x, x = v := ⟨_, rfl⟩
          rw [← hpF] at hRF hb7F onep
          rw [← hvF] at hRF hb7F onev
          clear hpF hvF
          have sa' := SA.out pF vF
          have sz' := SZ.out pF vF
          have one' := SO.out pF vF onep onev
          have HSV := Lib.hid (HSC.out pF vF)
          have hFm := Mm.le_upd hMF hn6' (.cells (sr pF vF) 29)
          generalize sr pF vF = rv at hb7F sa' sz' one' HSV hRF hFm
          go_wp2_with (first
            | ((with_reducible show wpList _ _ _ ({ dst := _, op := Op.load 29 _, type := _, pos := _, after := _, guard := _ } :: _) _ _); refine wpList_agg_has h rfl 29 _ rfl rfl hb7F sa' sz' Try.underlying29 rfl (by kernel_rfl) ?_; try simp only [Act.put, List.setIfInBounds_toArray, List.set_cons_zero, List.set_cons_succ])
            | ((with_reducible show wpList _ _ _ ({ dst := _, op := Op.store 29 _ _, type := _, pos := _, after := _, guard := _ } :: _) _ _); refine wpList_storeAll_has (cells := rv) h rfl 29 _ _ rfl rfl rfl hb6F rfl (sz0.trans sz'.symm) rfl (by rw [sz']; kernel_rfl) one' ?_; clear h; intro w h))
          exact bodyPost_ret (results_cell_row rfl _ _ _ _ _ _ _ rfl (h.at_ b6 _ (Mm.upd_same _ _ _)) Try.underlying29 rfl (by rw [sz']; kernel_rfl)) rfl ⟨pF, vF, _, by rw [HSV.out], h, hFm, hRF⟩
set_option maxRecDepth 100000 in
set_option maxHeartbeats 4000000 in
theorem make4_has {σ w : World} {M0 M : Mm} (h : Has σ M w) (hle0 : M0.le M) (c : Nat → Int) (p : Nat → Value) (e : Value) (P : Nat → List PCall) (E : List PEnt) (hs0 : RdS M0 p e P E) (hE : E.length ≤ 2000) (hP : ∀ t, t < 8 → (P t).length ≤ 60) (l : Int) :
    Calls Try.prog 10 #[scrV c p e, .int .i64 l, .int .i64 4] w fun r w' => Made σ M0 M w' c (varP c l P 4) (varE c l E 4) r := by
  have hs := hs0.le hle0
  have AB : Hid (∀ (M : Mm) (w : World) (t : Int), Has σ M w → Calls Try.prog 18 #[confV c, .int .i64 t, .int .i64 l] w fun e w' => e = .returned (.bool (aboveB c t l)) ∧ Has σ M w') := fun M w t h => refAbove_has h c t l
  have RS0 := Lib.hid hs0
  have OP := Lib.hid hs.one
  have RP : Hid (∀ t, t < 8 → Rd M 7 (p t) (P t).length ((P t).flatMap encK)) := hs.progs
  have he := hs.ents
  have oe := hs.ents.one
  have HP := Lib.hid hP
  have KE0 : Hid (∀ (M' : Mm) (w : World), Has σ M' w → M.le M' → Calls Try.prog 19 #[scrV c p e, .int .i64 l, .bool false] w fun r w' => ∃ p' e' M2 K, r = .returned (scrV c p' e') ∧ Has σ M2 w' ∧ M'.le M2 ∧ M'.le K ∧ (∀ t, t < 8 → Rd M0 7 (p' t) (keepP c l false P t).length ((keepP c l false P t).flatMap encK)) ∧ Own K M2 43 2 e' (keepE c l false E).length ((keepE c l false E).flatMap encE)) := fun M' w h hle => keep_has0 h (Mm.le_trans hle0 hle) c p e P E hs0 (by omega) l false
  clear hs hs0 hP
  obtain ⟨A, cap, rfl⟩ := he.form
  obtain ⟨n, hl⟩ : ∃ n, E.length = n := ⟨_, rfl⟩
  rw [hl] at he hE KE0 RS0 ⊢
  have HL := Lib.hid hl
  clear hl
  have GT := Lib.hid (fun (t : Nat) (ht : t < 8) => scr_prog c p (.slice A n cap) ht)
  have g1 := scr_ents c p (.slice A n cap)
  have x0 := scr_conf c p (.slice A n cap)
  have sa := scr_all c p (.slice A n cap)
  have sz := scr_size c p (.slice A n cap)
  have one := scr_one c p (.slice A n cap) OP.out oe
  have SP := Lib.hid (fun (pf pf' : Nat → Value) (v e : Value) (t : Nat) (ht : t < 8) => scr_set_prog c pf pf' e v ht)
  have SE := Lib.hid (fun (pf : Nat → Value) (e v : Value) => scr_set_ents c pf e v)
  have SG := Lib.hid (fun (pf : Nat → Value) (e : Value) => scr_ents c pf e)
  have SZ := Lib.hid (fun (pf : Nat → Value) (e : Value) => scr_size c pf e)
  have SA := Lib.hid (fun (pf : Nat → Value) (e : Value) => scr_all c pf e)
  have SO := Lib.hid (fun (pf : Nat → Value) (e : Value) (h : ∀ t, t < 8 → (pf t).oneCell' = true) (oe : e.oneCell' = true) => scr_one c pf e h oe)
  have sz0 := scr_size (fun _ => 0) noP nilS
  have HSC : Hid (∀ pf e, scrV c pf e = .agg (scrRow c pf e)) := fun _ _ => rfl
  simp only [confV, ints14_lit] at AB
  simp only [HSC.out] at KE0 ⊢
  generalize hsr : (fun pf e => scrRow c pf e) = sr
  have HSR : Hid (∀ pf e, scrRow c pf e = sr pf e) := fun pf e => by rw [← hsr]
  clear hsr
  simp only [HSR.out] at SP SE SG SZ SA SO HSC KE0 GT g1 x0 sa sz one ⊢
  generalize hrow : sr p (.slice A n cap) = row at g1 x0 sa sz one GT KE0 ⊢
  have HROW := Lib.hid hrow
  clear hrow oe
  go_enter Try.func10, Try.ntmps10
  go_upto_region 1 with (fail)
  obtain ⟨M2, hbx, hle2, hb3, hb6, hn3, hn6⟩ := h.box2 (.cells row 29) (.cells #[.int .i64 0, .int .i64 0, .int .i64 0, .int .i64 0, .int .i64 0, .int .i64 0, .int .i64 0, .int .i64 0, .int .i64 0, .int .i64 0, .int .i64 0, .int .i64 0, .int .i64 0, .int .i64 0, .slice none 0 0, .slice none 0 0, .slice none 0 0, .slice none 0 0, .slice none 0 0, .slice none 0 0, .slice none 0 0, .slice none 0 0, .slice none 0 0] 29)
  generalize (w.alloc _).alloc _ = wx at hbx ⊢
  have hne_b3_b6 : w.heap.size ≠ w.heap.size + 1 := Nat.ne_of_lt (Nat.lt_succ_self _)
  generalize w.heap.size + 1 = b6 at hb6 hn6 hne_b3_b6 ⊢
  generalize w.heap.size = b3 at hb3 hn3 hne_b3_b6 ⊢
  clear h
  try clear w
  have h := hbx
  clear hbx
  obtain ⟨w, rfl⟩ : ∃ x : World, x = wx := ⟨_, rfl⟩
  have hb6 : M2 b6 = some (.cells (scrRow (fun _ => 0) noP nilS) 29) := hb6
  go_upto_region 2 with (first
    | ((with_reducible show wpList _ _ _ ({ dst := _, op := Op.load 29 _, type := _, pos := _, after := _, guard := _ } :: _) _ _); refine wpList_agg_has h rfl 29 _ rfl rfl hb3 sa sz Try.underlying29 rfl (by kernel_rfl) ?_; try simp only [Act.put, List.setIfInBounds_toArray, List.set_cons_zero, List.set_cons_succ])
    | ((with_reducible show wpList _ _ _ ({ dst := _, op := Op.alloc 29, type := _, pos := _, after := _, guard := _ } :: _) _ _); refine wpList_alloc_has h rfl 29 rfl _ zero_scr ?_; clear h; intro b7 w h hn7; try simp only [Act.put, List.setIfInBounds_toArray, List.set_cons_zero, List.set_cons_succ])
    | ((with_reducible show wpList _ _ _ ({ dst := _, op := Op.store 29 _ _, type := _, pos := _, after := _, guard := _ } :: _) _ _); refine wpList_storeAll_has (cells := row) h rfl 29 _ _ rfl rfl rfl (Mm.upd_same _ _ _) rfl (sz0.trans sz.symm) rfl (by rw [sz]; kernel_rfl) one ?_; clear h; intro w h))
  rw [Mm.upd_upd] at h
  have lt22 : 22 < row.size := by omega
  go_upto_region 3 with (first
    | ((with_reducible show wpList _ _ _ ({ dst := _, op := Op.store 27 _ _, type := _, pos := _, after := _, guard := _ } :: _) _ _); refine wpList_store1_has h rfl 27 _ _ rfl rfl rfl (Mm.upd_same _ _ _) lt22 rfl (by kernel_rfl) ?_; clear h; intro w h))
  rw [Mm.upd_upd] at h
  replace h : Has σ (M2.upd b7 (.cells (row.setIfInBounds 22 nilS) 29)) w := h
  rw [← HROW.out, SE.out] at h
  have MI : MakeInv σ M2 w b7 (.cells (sr p nilS) 29) nilS nilS nilS [] [] [] := ⟨M2, h, hn7, Mm.le_refl _, Own.nil _ _ _ _, Own.nil _ _ _ _, Own.nil _ _ _ _, Apart.nil _ _ _, Apart.nil _ _ _, Apart.nil _ _ _⟩
  clear h lt22
  have hn6' := hn6
  generalize hN : M2 = N at MI hb3 hb6 hn7
  have HN := Lib.hid hN
  rw [hN] at hle2
  clear hN
  replace he := he.le hle2
  go_wp2
  go_loopw [8, 9, 10] (fun vh vl i wr => ∃ (k : Nat) (v : Value), k ≤ n ∧ i = .int .i64 k ∧ MakeInv σ N wr b7 (.cells (sr p v) 29) v vh vl (eachE c l 1 (E.take k)) (hiE c l (E.take k)) (loE c l (E.take k))) (fun _ _ i _ => n - (intOf i).toNat)
  case atStart => exact ⟨0, nilS, by omega, rfl, by simpa [eachE, hiE, loE] using MI⟩
  case round =>
    clear MI w
    obtain ⟨w, rfl⟩ : ∃ x : World, x = wr := ⟨_, rfl⟩
    obtain ⟨k, v, hk, rfl, M', h, h7, hle, o1, o2, o3, a1, a2, a3⟩ := hrel
    obtain ⟨vh, hv, o2, a1, a3⟩ : ∃ u, u = _ ∧ Own N M' 43 2 u _ _ ∧ Apart _ u ∧ Apart u _ := ⟨_, rfl, o2, a1, a3⟩
    subst hv
    obtain ⟨vl, hv, o3, a2, a3⟩ : ∃ u, u = _ ∧ Own N M' 43 2 u _ _ ∧ Apart _ u ∧ Apart _ u := ⟨_, rfl, o3, a2, a3⟩
    subst hv
    have le7 := Mm.le_upd' h7 (.cells (sr p v) 29)
    have hle6 := Mm.le_trans hle le7
    have hb3' := hle6 _ _ hb3
    by_cases hlt : k < n
    · obtain ⟨⟨x1', x2'⟩, hx⟩ : ∃ x, E[k]? = some x := ⟨_, List.getElem?_eq_getElem (by rw [HL.out]; exact hlt)⟩
      have DE : Hid (eachE c l 1 (E.take (k + 1)) = eachE c l 1 (E.take k) ++ List.replicate (manyOf c l 1 (x1', x2')) (x1', x2')) := by show _ = _; rw [take_snoc'' hx, eachE_snoc]
      have DH : Hid (hiE c l (E.take (k + 1)) = hiE c l (E.take k) ++ if aboveB c x1' l then [(x1', x2')] else []) := by show _ = _; rw [take_snoc'' hx, hiE_snoc]
      have DL : Hid (loE c l (E.take (k + 1)) = loE c l (E.take k) ++ if aboveB c x1' l then [] else [(x1', x2')]) := by show _ = _; rw [take_snoc'' hx, loE_snoc]
      have l0 : (eachE c l 1 (E.take k)).length ≤ 100000 := by have := eachE_le c l (m := 1) (by omega) (E.take k); have := List.length_take_le k E; omega
      have l1 : (hiE c l (E.take k)).length ≤ 1000000 := by have := hiE_le c l (E.take k); have := List.length_take_le k E; omega
      have l2 : (loE c l (E.take k)).length ≤ 1000000 := by have := loE_le c l (E.take k); have := List.length_take_le k E; omega
      obtain ⟨b1, o0, c1, cs1, t1, f1, e1, hM1, hx1⟩ := he.elem encE_len hlt hx
      cases e1
      have hM1' := hle6 _ _ hM1
      have hc1 : cs1.extract (o0 + k * 2) (o0 + k * 2 + 2) = #[.int .i64 x1', .int .i64 x2'] := extract_of hx1 rfl
      have e2 : (#[.int .i64 0, .int .i64 0] : Array Value).size = 2 := rfl
      have e2' : (#[.int .i64 x1', .int .i64 x2'] : Array Value).size = 2 := rfl
      have d0 : (#[.int .i64 x1', .int .i64 x2'] : Array Value)[0]? = some (.int .i64 x1') := rfl
      have d1 : (#[.int .i64 x1', .int .i64 x2'] : Array Value)[1]? = some (.int .i64 x2') := rfl
      have xe := ent_all x1' x2'
      have MO : Hid (manyOf c l 1 (x1', x2') = if aboveB c x1' l && x2' == 0 then 1 else 1) := rfl
      clear hx1 hx hM1
      go_upto_region 8 with (first
        | (with_reducible show wpList _ _ _ ({ dst := _, op := Op.load 27 _, type := _, pos := _, after := _, guard := _ } :: _) _ _; refine wpList_load1_has h rfl 27 _ rfl rfl hb3' g1 Try.underlying27 rfl ?_)
        | ((with_reducible show wpList _ _ _ ({ dst := _, op := Op.load 43 _, type := _, pos := _, after := _, guard := _ } :: _) _ _); refine wpList_agg_has h rfl 43 _ rfl rfl hM1' hc1 rfl Try.underlying43 rfl (by kernel_rfl) ?_; try simp only [Act.put, List.setIfInBounds_toArray, List.set_cons_zero, List.set_cons_succ])
        | ((with_reducible show wpList _ _ _ ({ dst := _, op := Op.alloc 43, type := _, pos := _, after := _, guard := _ } :: _) _ _); refine wpList_alloc_has h rfl 43 rfl _ zero_ent ?_; clear h; intro b11 w h hn11; try simp only [Act.put, List.setIfInBounds_toArray, List.set_cons_zero, List.set_cons_succ])
        | ((with_reducible show wpList _ _ _ ({ dst := _, op := Op.store 43 _ _, type := _, pos := _, after := _, guard := _ } :: _) _ _); refine wpList_storeAll_has (cells := #[.int .i64 x1', .int .i64 x2']) h rfl 43 _ _ rfl rfl rfl (Mm.upd_same _ _ _) rfl (e2.trans e2'.symm) rfl (by rw [e2']; kernel_rfl) (by rfl) ?_; clear h; intro w h))
      clear hc1 hM1' e2 e2'
      rw [Mm.upd_upd] at h
      have hI := Lib.hid (fun (w : World) (h : Has σ ((M'.upd b7 (.cells (sr p v) 29)).upd b11 (.cells #[.int .i64 x1', .int .i64 x2'] 43)) w) => MakeInv.boxed h7 hle o1 o2 o3 a1 a2 a3 hn11 h)
      have hN11 := Mm.none_of hle6 hn11
      have hb11' := Mm.upd_same (M'.upd b7 (.cells (sr p v) 29)) b11 (.cells #[.int .i64 x1', .int .i64 x2'] 43)
      have hb3'' := (Mm.le_upd' hn11 (.cells #[.int .i64 x1', .int .i64 x2'] 43)) _ _ hb3'
      have ABk := Lib.hid (fun (w : World) (h : Has σ ((M'.upd b7 (.cells (sr p v) 29)).upd b11 (.cells #[.int .i64 x1', .int .i64 x2'] 43)) w) => AB.out _ w x1' h)
      clear o1 o2 o3 a1 a2 a3 hle h7 le7 hle6 hb3' hn11
      generalize (M'.upd b7 (.cells (sr p v) 29)).upd b11 (.cells #[.int .i64 x1', .int .i64 x2'] 43) = M7 at *
      generalize aboveB c x1' l = bk at ABk MO DH DL
      generalize manyOf c l 1 (x1', x2') = q at DE MO
      cases bk
      · obtain rfl : q = 1 := by rw [MO.out]; rfl
        clear MO
        replace DH : Hid (hiE c l (E.take (k + 1)) = hiE c l (E.take k)) := by show _ = _; rw [DH.out]; simp
        replace DL : Hid (loE c l (E.take (k + 1)) = loE c l (E.take k) ++ [(x1', x2')]) := by show _ = _; rw [DL.out]; simp
        go_wp2_with (first
          | ((with_reducible show wpList _ _ _ ({ dst := _, op := Op.load 24 _, type := _, pos := _, after := _, guard := _ } :: _) _ _); refine wpList_agg_has h rfl 24 _ rfl rfl hb3'' x0 rfl Try.underlying24 rfl (by kernel_rfl) ?_; try simp only [Act.put, List.setIfInBounds_toArray, List.set_cons_zero, List.set_cons_succ])
          | (with_reducible show wpList _ _ _ ({ dst := _, op := Op.load 3 _, type := _, pos := _, after := _, guard := _ } :: _) _ _; refine wpList_load1_has h rfl 3 _ rfl rfl hb11' d0 Try.underlying3 rfl ?_)
          | (with_reducible show wpList _ _ _ ({ dst := _, op := Op.load 3 _, type := _, pos := _, after := _, guard := _ } :: _) _ _; refine wpList_load1_has h rfl 3 _ rfl rfl hb11' d1 Try.underlying3 rfl ?_)
          | (go_at_call 18; refine (ABk.out _ h).mono ?_; clear h; rintro e w ⟨rfl, h⟩))
        replace hI := hI.out
        go_loopw [14] (fun i wr => ∃ (j : Nat) (v : Value), j ≤ 1 ∧ i = .int .i64 j ∧ MakeInv σ (N.upd b11 (.cells #[.int .i64 x1', .int .i64 x2'] 43)) wr b7 (.cells (sr p v) 29) v vh vl (eachE c l 1 (E.take k) ++ List.replicate j (x1', x2')) (hiE c l (E.take k)) (loE c l (E.take k))) (fun i _ => 1 - (intOf i).toNat)
        case atStart => exact ⟨0, v, by omega, rfl, by simpa using hI w h⟩
        case round =>
          clear h w hI
          obtain ⟨w, rfl⟩ : ∃ x : World, x = wr := ⟨_, rfl⟩
          obtain ⟨j, v, hj, rfl, Mj, h, hj7, hjle, o1, o2, o3, a1, a2, a3⟩ := hrel
          have hjr := Lib.hid (show (j : Int) = j from rfl)
          have gv := SG.out p v
          have lt22 : 22 < (sr p v).size := by rw [SZ.out]; omega
          have SEv := Lib.hid (fun v' => SE.out p v v')
          have hb7j := Mm.upd_same Mj b7 (.cells (sr p v) 29)
          have hleB := Mm.le_trans hjle (Mm.le_upd' hj7 (.cells (sr p v) 29))
          have hb11 := hleB _ _ (Mm.upd_same N b11 (.cells #[.int .i64 x1', .int .i64 x2'] 43))
          have xe := ent_all x1' x2'
          by_cases hjq : j < 1
          · have lenA : (eachE c l 1 (E.take k) ++ List.replicate j (x1', x2')).length ≤ 1000000 := by rw [List.length_append, List.length_replicate]; omega
            have lel := Mm.less_le (Mj.upd b7 (.cells (sr p v) 29)) v
            have ol := Own.less (o1.box (o := (.cells (sr p v) 29)) hj7)
            have KE := Lib.hid (fun (w : World) (v' : Value) (hacc : Acc σ ((Mj.upd b7 (.cells (sr p v) 29)).less v) w 43 2 v' _ (_ ++ encE (x1', x2'))) => MakeInv.ents hj7 hjle o1 o2 o3 a1 a2 a3 hacc)
            generalize Mj.upd b7 (.cells (sr p v) 29) = M6 at *
            clear o1 o2 o3 a1 a2 a3 hjle hj7 hleB
            generalize sr p v = rv at gv lt22 hb7j SEv KE
            go_wp2_with (first
              | (with_reducible show wpList _ _ _ ({ dst := _, op := Op.load 27 _, type := _, pos := _, after := _, guard := _ } :: _) _ _; refine wpList_load1_has h rfl 27 _ rfl rfl hb7j gv Try.underlying27 rfl ?_)
              | ((with_reducible show wpList _ _ _ ({ dst := _, op := Op.load 43 _, type := _, pos := _, after := _, guard := _ } :: _) _ _); refine wpList_agg_has h rfl 43 _ rfl rfl hb11 xe rfl Try.underlying43 rfl (by kernel_rfl) ?_; try simp only [Act.put, List.setIfInBounds_toArray, List.set_cons_zero, List.set_cons_succ])
              | (at_builtin; refine wpList_append_lit h lel rfl _ _ _ rfl rfl Try.underlying27 info_ent rfl (by omega) rfl ol rfl rfl rfl (by omega) (by omega) ?_; clear h lel ol; intro v w hacc)
              | ((with_reducible show wpList _ _ _ ({ dst := _, op := Op.store 27 _ _, type := _, pos := _, after := _, guard := _ } :: _) _ _); obtain ⟨one5, M5, h, hb75, KM⟩ := KE.out _ _ hacc; refine wpList_store1_has h rfl 27 _ _ rfl rfl rfl hb75 lt22 one5 (by kernel_rfl) ?_; clear h; intro w h))
            replace h : Has σ (M5.upd b7 (.cells (rv.setIfInBounds 22 v) 29)) w := h
            rw [SEv.out] at h
            have KM2 := KM _ _ h
            first | (go_roundw; (case rel => exact ⟨j + 1, v, by omega, by go_num, by rw [List.replicate_succ', ← List.append_assoc]; exact KM2⟩); (case measure => simp [intOf]; omega)) | exact ⟨⟨j + 1, v, by omega, congrArg (Value.int .i64) (by omega), by rw [List.replicate_succ', ← List.append_assoc]; exact KM2⟩, by simp [intOf]; omega⟩ | exact ⟨⟨j + 1, by omega, by omega, v, by rw [List.replicate_succ', ← List.append_assoc]; exact KM2⟩, by simp [intOf]; omega⟩
          · obtain rfl : j = 1 := by omega
            clear hj hjq SEv lt22 gv
            obtain ⟨ve, rfl⟩ : ∃ x, x = v := ⟨_, rfl⟩
            have leN11 := Mm.le_upd' hN11 (.cells #[.int .i64 x1', .int .i64 x2'] 43)
            have lel := Mm.less_le (Mj.upd b7 (.cells (sr p ve) 29)) vl
            have ol := Own.less (o3.box (o := .cells (sr p ve) 29) hj7)
            have KM := Lib.hid (fun (w : World) (v' : Value) (hacc : Acc σ ((Mj.upd b7 (.cells (sr p ve) 29)).less vl) w 43 2 v' _ (_ ++ encE (x1', x2'))) => (MakeInv.low hj7 hjle o1 o2 o3 a1 a2 a3 hacc).base leN11)
            generalize Mj.upd b7 (.cells (sr p ve) 29) = M6 at *
            clear o1 o2 o3 a1 a2 a3 hjle hj7 hleB
            go_wp2_with (first
              | ((with_reducible show wpList _ _ _ ({ dst := _, op := Op.load 43 _, type := _, pos := _, after := _, guard := _ } :: _) _ _); refine wpList_agg_has h rfl 43 _ rfl rfl hb11 xe rfl Try.underlying43 rfl (by kernel_rfl) ?_; try simp only [Act.put, List.setIfInBounds_toArray, List.set_cons_zero, List.set_cons_succ])
              | (at_builtin; refine wpList_append_lit h lel rfl _ _ _ rfl rfl Try.underlying27 info_ent rfl (by omega) rfl ol rfl rfl rfl (by omega) (by omega) ?_; clear h lel ol; intro v w hacc))
            have KM2 := KM.out _ _ hacc
            first | (go_roundw; (case rel => exact ⟨k + 1, ve, by omega, by go_num, by rw [DE.out, DH.out, DL.out]; exact KM2⟩); (case measure => simp [intOf]; omega)) | exact ⟨⟨k + 1, by omega, by omega, ve, by rw [DE.out, DH.out, DL.out]; exact KM2⟩, by simp [intOf]; omega⟩
      · replace DH : Hid (hiE c l (E.take (k + 1)) = hiE c l (E.take k) ++ [(x1', x2')]) := by show _ = _; rw [DH.out]; simp
        replace DL : Hid (loE c l (E.take (k + 1)) = loE c l (E.take k)) := by show _ = _; rw [DL.out]; simp
        cases h0 : (x2' == 0)
        · have h0' : ¬ x2' = 0 := by simpa using h0
          obtain rfl : q = 1 := by rw [MO.out, h0]; rfl
          clear MO h0
          go_wp2_with (first
            | ((with_reducible show wpList _ _ _ ({ dst := _, op := Op.load 24 _, type := _, pos := _, after := _, guard := _ } :: _) _ _); refine wpList_agg_has h rfl 24 _ rfl rfl hb3'' x0 rfl Try.underlying24 rfl (by kernel_rfl) ?_; try simp only [Act.put, List.setIfInBounds_toArray, List.set_cons_zero, List.set_cons_succ])
            | (with_reducible show wpList _ _ _ ({ dst := _, op := Op.load 3 _, type := _, pos := _, after := _, guard := _ } :: _) _ _; refine wpList_load1_has h rfl 3 _ rfl rfl hb11' d0 Try.underlying3 rfl ?_)
            | (with_reducible show wpList _ _ _ ({ dst := _, op := Op.load 3 _, type := _, pos := _, after := _, guard := _ } :: _) _ _; refine wpList_load1_has h rfl 3 _ rfl rfl hb11' d1 Try.underlying3 rfl ?_)
            | (go_at_call 18; refine (ABk.out _ h).mono ?_; clear h; rintro e w ⟨rfl, h⟩))
          replace hI := hI.out
          clear h0'
          go_loopw [14] (fun i wr => ∃ (j : Nat) (v : Value), j ≤ 1 ∧ i = .int .i64 j ∧ MakeInv σ (N.upd b11 (.cells #[.int .i64 x1', .int .i64 x2'] 43)) wr b7 (.cells (sr p v) 29) v vh vl (eachE c l 1 (E.take k) ++ List.replicate j (x1', x2')) (hiE c l (E.take k)) (loE c l (E.take k))) (fun i _ => 1 - (intOf i).toNat)
          case atStart => exact ⟨0, v, by omega, rfl, by simpa using hI w h⟩
          case round =>
            clear h w hI
            obtain ⟨w, rfl⟩ : ∃ x : World, x = wr := ⟨_, rfl⟩
            obtain ⟨j, v, hj, rfl, Mj, h, hj7, hjle, o1, o2, o3, a1, a2, a3⟩ := hrel
            have hjr := Lib.hid (show (j : Int) = j from rfl)
            have gv := SG.out p v
            have lt22 : 22 < (sr p v).size := by rw [SZ.out]; omega
            have SEv := Lib.hid (fun v' => SE.out p v v')
            have hb7j := Mm.upd_same Mj b7 (.cells (sr p v) 29)
            have hleB := Mm.le_trans hjle (Mm.le_upd' hj7 (.cells (sr p v) 29))
            have hb11 := hleB _ _ (Mm.upd_same N b11 (.cells #[.int .i64 x1', .int .i64 x2'] 43))
            have xe := ent_all x1' x2'
            by_cases hjq : j < 1
            · have lenA : (eachE c l 1 (E.take k) ++ List.replicate j (x1', x2')).length ≤ 1000000 := by rw [List.length_append, List.length_replicate]; omega
              have lel := Mm.less_le (Mj.upd b7 (.cells (sr p v) 29)) v
              have ol := Own.less (o1.box (o := (.cells (sr p v) 29)) hj7)
              have KE := Lib.hid (fun (w : World) (v' : Value) (hacc : Acc σ ((Mj.upd b7 (.cells (sr p v) 29)).less v) w 43 2 v' _ (_ ++ encE (x1', x2'))) => MakeInv.ents hj7 hjle o1 o2 o3 a1 a2 a3 hacc)
              generalize Mj.upd b7 (.cells (sr p v) 29) = M6 at *
              clear o1 o2 o3 a1 a2 a3 hjle hj7 hleB
              generalize sr p v = rv at gv lt22 hb7j SEv KE
              go_wp2_with (first
                | (with_reducible show wpList _ _ _ ({ dst := _, op := Op.load 27 _, type := _, pos := _, after := _, guard := _ } :: _) _ _; refine wpList_load1_has h rfl 27 _ rfl rfl hb7j gv Try.underlying27 rfl ?_)
                | ((with_reducible show wpList _ _ _ ({ dst := _, op := Op.load 43 _, type := _, pos := _, after := _, guard := _ } :: _) _ _); refine wpList_agg_has h rfl 43 _ rfl rfl hb11 xe rfl Try.underlying43 rfl (by kernel_rfl) ?_; try simp only [Act.put, List.setIfInBounds_toArray, List.set_cons_zero, List.set_cons_succ])
                | (at_builtin; refine wpList_append_lit h lel rfl _ _ _ rfl rfl Try.underlying27 info_ent rfl (by omega) rfl ol rfl rfl rfl (by omega) (by omega) ?_; clear h lel ol; intro v w hacc)
                | ((with_reducible show wpList _ _ _ ({ dst := _, op := Op.store 27 _ _, type := _, pos := _, after := _, guard := _ } :: _) _ _); obtain ⟨one5, M5, h, hb75, KM⟩ := KE.out _ _ hacc; refine wpList_store1_has h rfl 27 _ _ rfl rfl rfl hb75 lt22 one5 (by kernel_rfl) ?_; clear h; intro w h))
              replace h : Has σ (M5.upd b7 (.cells (rv.setIfInBounds 22 v) 29)) w := h
              rw [SEv.out] at h
              have KM2 := KM _ _ h
              first | (go_roundw; (case rel => exact ⟨j + 1, v, by omega, by go_num, by rw [List.replicate_succ', ← List.append_assoc]; exact KM2⟩); (case measure => simp [intOf]; omega)) | exact ⟨⟨j + 1, v, by omega, congrArg (Value.int .i64) (by omega), by rw [List.replicate_succ', ← List.append_assoc]; exact KM2⟩, by simp [intOf]; omega⟩ | exact ⟨⟨j + 1, by omega, by omega, v, by rw [List.replicate_succ', ← List.append_assoc]; exact KM2⟩, by simp [intOf]; omega⟩
            · obtain rfl : j = 1 := by omega
              clear hj hjq SEv lt22 gv
              obtain ⟨ve, rfl⟩ : ∃ x, x = v := ⟨_, rfl⟩
              have leN11 := Mm.le_upd' hN11 (.cells #[.int .i64 x1', .int .i64 x2'] 43)
              have lel := Mm.less_le (Mj.upd b7 (.cells (sr p ve) 29)) vh
              have ol := Own.less (o2.box (o := .cells (sr p ve) 29) hj7)
              have KM := Lib.hid (fun (w : World) (v' : Value) (hacc : Acc σ ((Mj.upd b7 (.cells (sr p ve) 29)).less vh) w 43 2 v' _ (_ ++ encE (x1', x2'))) => (MakeInv.high hj7 hjle o1 o2 o3 a1 a2 a3 hacc).base leN11)
              generalize Mj.upd b7 (.cells (sr p ve) 29) = M6 at *
              clear o1 o2 o3 a1 a2 a3 hjle hj7 hleB
              go_wp2_with (first
                | ((with_reducible show wpList _ _ _ ({ dst := _, op := Op.load 43 _, type := _, pos := _, after := _, guard := _ } :: _) _ _); refine wpList_agg_has h rfl 43 _ rfl rfl hb11 xe rfl Try.underlying43 rfl (by kernel_rfl) ?_; try simp only [Act.put, List.setIfInBounds_toArray, List.set_cons_zero, List.set_cons_succ])
                | (at_builtin; refine wpList_append_lit h lel rfl _ _ _ rfl rfl Try.underlying27 info_ent rfl (by omega) rfl ol rfl rfl rfl (by omega) (by omega) ?_; clear h lel ol; intro v w hacc))
              have KM2 := KM.out _ _ hacc
              first | (go_roundw; (case rel => exact ⟨k + 1, ve, by omega, by go_num, by rw [DE.out, DH.out, DL.out]; exact KM2⟩); (case measure => simp [intOf]; omega)) | exact ⟨⟨k + 1, by omega, by omega, ve, by rw [DE.out, DH.out, DL.out]; exact KM2⟩, by simp [intOf]; omega⟩
        · have h0' : x2' = 0 := by simpa using h0
          obtain rfl : q = 1 := by rw [MO.out, h0]; rfl
          clear MO h0
          go_wp2_with (first
            | ((with_reducible show wpList _ _ _ ({ dst := _, op := Op.load 24 _, type := _, pos := _, after := _, guard := _ } :: _) _ _); refine wpList_agg_has h rfl 24 _ rfl rfl hb3'' x0 rfl Try.underlying24 rfl (by kernel_rfl) ?_; try simp only [Act.put, List.setIfInBounds_toArray, List.set_cons_zero, List.set_cons_succ])
            | (with_reducible show wpList _ _ _ ({ dst := _, op := Op.load 3 _, type := _, pos := _, after := _, guard := _ } :: _) _ _; refine wpList_load1_has h rfl 3 _ rfl rfl hb11' d0 Try.underlying3 rfl ?_)
            | (with_reducible show wpList _ _ _ ({ dst := _, op := Op.load 3 _, type := _, pos := _, after := _, guard := _ } :: _) _ _; refine wpList_load1_has h rfl 3 _ rfl rfl hb11' d1 Try.underlying3 rfl ?_)
            | (go_at_call 18; refine (ABk.out _ h).mono ?_; clear h; rintro e w ⟨rfl, h⟩))
          replace hI := hI.out
          clear h0'
          go_loopw [14] (fun i wr => ∃ (j : Nat) (v : Value), j ≤ 1 ∧ i = .int .i64 j ∧ MakeInv σ (N.upd b11 (.cells #[.int .i64 x1', .int .i64 x2'] 43)) wr b7 (.cells (sr p v) 29) v vh vl (eachE c l 1 (E.take k) ++ List.replicate j (x1', x2')) (hiE c l (E.take k)) (loE c l (E.take k))) (fun i _ => 1 - (intOf i).toNat)
          case atStart => exact ⟨0, v, by omega, rfl, by simpa using hI w h⟩
          case round =>
            clear h w hI
            obtain ⟨w, rfl⟩ : ∃ x : World, x = wr := ⟨_, rfl⟩
            obtain ⟨j, v, hj, rfl, Mj, h, hj7, hjle, o1, o2, o3, a1, a2, a3⟩ := hrel
            have hjr := Lib.hid (show (j : Int) = j from rfl)
            have gv := SG.out p v
            have lt22 : 22 < (sr p v).size := by rw [SZ.out]; omega
            have SEv := Lib.hid (fun v' => SE.out p v v')
            have hb7j := Mm.upd_same Mj b7 (.cells (sr p v) 29)
            have hleB := Mm.le_trans hjle (Mm.le_upd' hj7 (.cells (sr p v) 29))
            have hb11 := hleB _ _ (Mm.upd_same N b11 (.cells #[.int .i64 x1', .int .i64 x2'] 43))
            have xe := ent_all x1' x2'
            by_cases hjq : j < 1
            · have lenA : (eachE c l 1 (E.take k) ++ List.replicate j (x1', x2')).length ≤ 1000000 := by rw [List.length_append, List.length_replicate]; omega
              have lel := Mm.less_le (Mj.upd b7 (.cells (sr p v) 29)) v
              have ol := Own.less (o1.box (o := (.cells (sr p v) 29)) hj7)
              have KE := Lib.hid (fun (w : World) (v' : Value) (hacc : Acc σ ((Mj.upd b7 (.cells (sr p v) 29)).less v) w 43 2 v' _ (_ ++ encE (x1', x2'))) => MakeInv.ents hj7 hjle o1 o2 o3 a1 a2 a3 hacc)
              generalize Mj.upd b7 (.cells (sr p v) 29) = M6 at *
              clear o1 o2 o3 a1 a2 a3 hjle hj7 hleB
              generalize sr p v = rv at gv lt22 hb7j SEv KE
              go_wp2_with (first
                | (with_reducible show wpList _ _ _ ({ dst := _, op := Op.load 27 _, type := _, pos := _, after := _, guard := _ } :: _) _ _; refine wpList_load1_has h rfl 27 _ rfl rfl hb7j gv Try.underlying27 rfl ?_)
                | ((with_reducible show wpList _ _ _ ({ dst := _, op := Op.load 43 _, type := _, pos := _, after := _, guard := _ } :: _) _ _); refine wpList_agg_has h rfl 43 _ rfl rfl hb11 xe rfl Try.underlying43 rfl (by kernel_rfl) ?_; try simp only [Act.put, List.setIfInBounds_toArray, List.set_cons_zero, List.set_cons_succ])
                | (at_builtin; refine wpList_append_lit h lel rfl _ _ _ rfl rfl Try.underlying27 info_ent rfl (by omega) rfl ol rfl rfl rfl (by omega) (by omega) ?_; clear h lel ol; intro v w hacc)
                | ((with_reducible show wpList _ _ _ ({ dst := _, op := Op.store 27 _ _, type := _, pos := _, after := _, guard := _ } :: _) _ _); obtain ⟨one5, M5, h, hb75, KM⟩ := KE.out _ _ hacc; refine wpList_store1_has h rfl 27 _ _ rfl rfl rfl hb75 lt22 one5 (by kernel_rfl) ?_; clear h; intro w h))
              replace h : Has σ (M5.upd b7 (.cells (rv.setIfInBounds 22 v) 29)) w := h
              rw [SEv.out] at h
              have KM2 := KM _ _ h
              first | (go_roundw; (case rel => exact ⟨j + 1, v, by omega, by go_num, by rw [List.replicate_succ', ← List.append_assoc]; exact KM2⟩); (case measure => simp [intOf]; omega)) | exact ⟨⟨j + 1, v, by omega, congrArg (Value.int .i64) (by omega), by rw [List.replicate_succ', ← List.append_assoc]; exact KM2⟩, by simp [intOf]; omega⟩ | exact ⟨⟨j + 1, by omega, by omega, v, by rw [List.replicate_succ', ← List.append_assoc]; exact KM2⟩, by simp [intOf]; omega⟩
            · obtain rfl : j = 1 := by omega
              clear hj hjq SEv lt22 gv
              obtain ⟨ve, rfl⟩ : ∃ x, x = v := ⟨_, rfl⟩
              have leN11 := Mm.le_upd' hN11 (.cells #[.int .i64 x1', .int .i64 x2'] 43)
              have lel := Mm.less_le (Mj.upd b7 (.cells (sr p ve) 29)) vh
              have ol := Own.less (o2.box (o := .cells (sr p ve) 29) hj7)
              have KM := Lib.hid (fun (w : World) (v' : Value) (hacc : Acc σ ((Mj.upd b7 (.cells (sr p ve) 29)).less vh) w 43 2 v' _ (_ ++ encE (x1', x2'))) => (MakeInv.high hj7 hjle o1 o2 o3 a1 a2 a3 hacc).base leN11)
              generalize Mj.upd b7 (.cells (sr p ve) 29) = M6 at *
              clear o1 o2 o3 a1 a2 a3 hjle hj7 hleB
              go_wp2_with (first
                | ((with_reducible show wpList _ _ _ ({ dst := _, op := Op.load 43 _, type := _, pos := _, after := _, guard := _ } :: _) _ _); refine wpList_agg_has h rfl 43 _ rfl rfl hb11 xe rfl Try.underlying43 rfl (by kernel_rfl) ?_; try simp only [Act.put, List.setIfInBounds_toArray, List.set_cons_zero, List.set_cons_succ])
                | (at_builtin; refine wpList_append_lit h lel rfl _ _ _ rfl rfl Try.underlying27 info_ent rfl (by omega) rfl ol rfl rfl rfl (by omega) (by omega) ?_; clear h lel ol; intro v w hacc))
              have KM2 := KM.out _ _ hacc
              first | (go_roundw; (case rel => exact ⟨k + 1, ve, by omega, by go_num, by rw [DE.out, DH.out, DL.out]; exact KM2⟩); (case measure => simp [intOf]; omega)) | exact ⟨⟨k + 1, by omega, by omega, ve, by rw [DE.out, DH.out, DL.out]; exact KM2⟩, by simp [intOf]; omega⟩
    · obtain rfl : k = n := by omega
      have EA : E.take k = E := List.take_of_length_le (by rw [HL.out]; exact Nat.le_refl _)
      rw [EA] at o1 o2 o3
      clear EA hlt hk
      have hb7 := Mm.upd_same M' b7 (.cells (sr p v) 29)
      have hb6' := hle6 _ _ hb6
      have o1B := o1.box (o := (.cells (sr p v) 29)) h7
      have o2B := o2.box (o := (.cells (sr p v) 29)) h7
      have o3B := o3.box (o := (.cells (sr p v) 29)) h7
      have leB := Mm.le_box (X := (.cells (sr p v) 29)) (b := b7) hle
      have n67 : b6 ≠ b7 := Mm.ne_of hn7 hb6
      have leMB : M.le (N.upd b7 (.cells (sr p v) 29)) := Mm.le_upd hle2 (Mm.none_of hle2 hn7) _
      have hbN6 : (N.upd b7 (.cells (sr p v) 29)) b6 = some (.cells (scrRow (fun _ => 0) noP nilS) 29) := (Mm.upd_ne n67).trans hb6
      have lh := hiE_le c l E
      have ll := loE_le c l E
      rw [HL.out] at lh ll
      generalize M'.upd b7 (.cells (sr p v) 29) = ME at *
      go_wp2_with (first
        | (with_reducible show wpList _ _ _ ({ dst := _, op := Op.load 27 _, type := _, pos := _, after := _, guard := _ } :: _) _ _; refine wpList_load1_has h rfl 27 _ rfl rfl hb3' g1 Try.underlying27 rfl ?_))
      go_loopw [15, 16] (fun vf i wr => ∃ t : Nat, t ≤ 8 ∧ i = .int .i64 t ∧ vf = nilS ∧ Has σ ME wr) (fun _ i _ => 8 - (intOf i).toNat)
      case atStart => exact ⟨0, by omega, rfl, rfl, h⟩
      case round =>
        clear h w
        obtain ⟨w, rfl⟩ : ∃ x : World, x = wr := ⟨_, rfl⟩
        obtain ⟨t, ht, rfl, rfl, h⟩ := hrel
        by_cases hlt : t < 8
        · have ABk := Lib.hid (fun (w : World) (h : Has σ ME w) => AB.out ME w t h)
          generalize aboveB c t l = bk at ABk
          cases bk
          · go_wp2_with (first
              | ((with_reducible show wpList _ _ _ ({ dst := _, op := Op.load 24 _, type := _, pos := _, after := _, guard := _ } :: _) _ _); refine wpList_agg_has h rfl 24 _ rfl rfl hb3' x0 rfl Try.underlying24 rfl (by kernel_rfl) ?_; try simp only [Act.put, List.setIfInBounds_toArray, List.set_cons_zero, List.set_cons_succ])
              | (go_at_call 18; refine (ABk.out _ h).mono ?_; clear h; rintro e w ⟨rfl, h⟩))
            go_roundw
            case rel => exact ⟨t + 1, by omega, by go_num, rfl, h⟩
            case measure => simp [intOf]; omega
          · go_wp2_with (first
              | ((with_reducible show wpList _ _ _ ({ dst := _, op := Op.load 24 _, type := _, pos := _, after := _, guard := _ } :: _) _ _); refine wpList_agg_has h rfl 24 _ rfl rfl hb3' x0 rfl Try.underlying24 rfl (by kernel_rfl) ?_; try simp only [Act.put, List.setIfInBounds_toArray, List.set_cons_zero, List.set_cons_succ])
              | (go_at_call 18; refine (ABk.out _ h).mono ?_; clear h; rintro e w ⟨rfl, h⟩))
            go_roundw
            case rel => exact ⟨t + 1, by omega, by go_num, rfl, h⟩
            case measure => simp [intOf]; omega
        · obtain rfl : t = 8 := by omega
          have lel := Mm.less_le ME vh
          have ol := Own.less o2B
          have rdh := o3B.rd
          have oh := oneE (loE c l E)
          have lt22 : 22 < (sr p v).size := by rw [SZ.out]; omega
          have SEv := Lib.hid (fun v' => SE.out p v v')
          obtain ⟨ve, hve⟩ : ∃ x, x = v := ⟨_, rfl⟩
          rw [← hve] at hb7 hbN6 leB o1B o2B o3B lt22 SEv leMB
          clear hve
          go_upto_region 49 with (first
            | (at_builtin; refine wpList_append_rd h lel rfl _ _ _ rfl Try.underlying27 info_ent rfl (by omega) rfl ol rfl rdh oh (by omega) (by omega) ?_; clear h lel ol; intro v w hacc)
            | ((with_reducible show wpList _ _ _ ({ dst := _, op := Op.store 27 _ _, type := _, pos := _, after := _, guard := _ } :: _) _ _); obtain ⟨M5, h, hle5, own5, _⟩ := Acc.split o2B leB hacc; have one5 := own5.one; refine wpList_store1_has h rfl 27 _ _ rfl rfl rfl (hle5 _ _ (Mm.upd_same _ _ _)) lt22 one5 (by kernel_rfl) ?_; clear h; intro w h))
          replace h : Has σ (M5.upd b7 (.cells ((sr p ve).setIfInBounds 22 v) 29)) w := h
          rw [SEv.out] at h
          have own6 := Own.upd_both own5 (.cells (sr p v) 29)
          have hb7F := Mm.upd_same M5 b7 (.cells (sr p v) 29)
          have leN6 : (N.upd b7 (.cells (sr p v) 29)).le (M5.upd b7 (.cells (sr p v) 29)) := Mm.le_upd_both hle5 _
          have hbN6' : (N.upd b7 (.cells (sr p v) 29)) b6 = some (.cells (scrRow (fun _ => 0) noP nilS) 29) := (Mm.upd_ne n67).trans hb6
          have hb6F := leN6 _ _ hbN6'
          have leMB' : M.le (N.upd b7 (.cells (sr p v) 29)) := Mm.le_upd hle2 (Mm.none_of hle2 hn7) _
          have hMF := Mm.le_trans leMB' leN6
          have onep := OP.out
          have onev := own6.one
          have hRF : ∀ N2, (∀ c x, ((M5.upd b7 (.cells (sr p v) 29)).upd b6 (.cells (sr p v) 29)) c = some x → (M c = none ∨ M0 c ≠ none) → N2 c = some x) → RdS N2 p v P (hiE c l E ++ loE c l E) := fun N2 hN2 => ⟨fun t ht => (RS0.out.progs t ht).le (Mm.le_in (Mm.le_trans hle0 (Mm.le_upd hMF hn6' _)) hN2), by
            have := (own6.upd_at hbN6' (.cells (sr p v) 29)).rd_in (N := N2) fun c x h0 h1 => hN2 c x h1 (.inl (Mm.none_of leMB' h0))
            rw [List.length_append, List.flatMap_append]
            exact this⟩
          clear own6 leN6 hbN6' leMB' one5
          generalize M5.upd b7 (.cells (sr p v) 29) = F at *
          obtain ⟨pF, hpF⟩ : ∃ x, x = p := ⟨_, rfl⟩
          obtain ⟨vF, hvF⟩ : ∃ x, x = v := ⟨_, rfl⟩
          rw [← hpF] at hRF hb7F onep
          rw [← hvF] at hRF hb7F onev
          clear hpF hvF
          have sa' := SA.out pF vF
          have sz' := SZ.out pF vF
          have one' := SO.out pF vF onep onev
          have HSV := Lib.hid (HSC.out pF vF)
          have hFm := Mm.le_upd hMF hn6' (.cells (sr pF vF) 29)
          generalize sr pF vF = rv at hb7F sa' sz' one' HSV hRF hFm
          go_wp2_with (first
            | ((with_reducible show wpList _ _ _ ({ dst := _, op := Op.load 29 _, type := _, pos := _, after := _, guard := _ } :: _) _ _); refine wpList_agg_has h rfl 29 _ rfl rfl hb7F sa' sz' Try.underlying29 rfl (by kernel_rfl) ?_; try simp only [Act.put, List.setIfInBounds_toArray, List.set_cons_zero, List.set_cons_succ])
            | ((with_reducible show wpList _ _ _ ({ dst := _, op := Op.store 29 _ _, type := _, pos := _, after := _, guard := _ } :: _) _ _); refine wpList_storeAll_has (cells := rv) h rfl 29 _ _ rfl rfl rfl hb6F rfl (sz0.trans sz'.symm) rfl (by rw [sz']; kernel_rfl) one' ?_; clear h; intro w h))
          exact bodyPost_ret (results_cell_row rfl _ _ _ _ _ _ _ rfl (h.at_ b6 _ (Mm.upd_same _ _ _)) Try.underlying29 rfl (by rw [sz']; kernel_rfl)) rfl ⟨pF, vF, _, by rw [HSV.out], h, hFm, hRF⟩
end Go.Proofs.Ytlgnknaffnnkkaa
