/- Walks of layer 16: Next. -/
import Derived.Test.YtjnhklhgcbknkaaGreatDoorPfE
import Derived.Test.YtjnhklhgcbknkaaGreatDoorPfF
import Derived.Deep.LoopGhost
import Derived.Deep.LoopGhost
import Derived.Deep.LoopGhost
import Derived.Deep.LoopGhost
import Derived.Deep.LoopGhost
namespace Go.Proofs.YtjnhklhgcbknkaaGreatDoor
open Go.RowKit
set_option linter.unusedVariables false
set_option linter.unusedSimpArgs false
set_option linter.unnecessarySimpa false
/-- What holds at each round of the outer loop. -/
def NxRel (σ : World) (M1 : Mm) (l : List OpS) (order : List Int) (n g : Nat) (v i : Value) (wr : World) : Prop := ∃ k : Nat, k + g = n ∧ i = .int .i64 k ∧ Acc σ M1 wr 3 1 v (nextK l order k).length (ints1 (nextK l order k))
/-- What holds at each round of the inner loop. -/
def NxIn (σ : World) (M2 : Mm) (l : List OpS) (order : List Int) (n k g : Nat) (i : Value) (wr : World) : Prop := ∃ (j : Nat) (M' : Mm), j + g = n ∧ i = .int .i64 j ∧ Has σ M' wr ∧ M2.le M' ∧ ∀ u, u < j → BadO l order k u = false
def NxPost (σ : World) (M : Mm) (l : List OpS) (order : List Int) (r : Ending) (w' : World) : Prop := ∃ v, r = .returned v ∧ Acc σ M w' 3 1 v (NextO l order).length (ints1 (NextO l order))
theorem NxRel.skip {σ wr : World} {M1 M2 : Mm} {l : List OpS} {order : List Int} {n k g : Nat} {v : Value} (hk : k + (g + 1) = n) (hle : M1.le M2) (hown : Own M1 M2 3 1 v (nextK l order k).length (ints1 (nextK l order k))) (h : Has σ M2 wr) (hf : FreeO l order k = false) :
    NxRel σ M1 l order n g v (.int .i64 ((k : Int) + 1)) wr := by
  have e : nextK l order (k + 1) = nextK l order k := by rw [nextK_succ, hf]; simp
  refine ⟨k + 1, by omega, rfl, ?_⟩
  rw [e]
  exact ⟨M2, h, hle, hown⟩
theorem NxRel.take {σ wr : World} {M1 : Mm} {l : List OpS} {order : List Int} {n k g : Nat} {v : Value} (hk : k + (g + 1) = n) (hf : FreeO l order k = true) (hacc : Acc σ M1 wr 3 1 v ((nextK l order k).length + 1) (ints1 (nextK l order k) ++ [.int .i64 k])) :
    NxRel σ M1 l order n g v (.int .i64 ((k : Int) + 1)) wr := by
  have e : nextK l order (k + 1) = nextK l order k ++ [(k : Int)] := by rw [nextK_succ, hf]; rfl
  refine ⟨k + 1, by omega, rfl, ?_⟩
  rw [e]
  simpa [ints1] using hacc
theorem badO_of {l : List OpS} {order : List Int} {i j : Nat} {a b : OpS} (ha : l[j]? = some a) (hb : l[i]? = some b) : BadO l order i j = (decide (posO (j : Nat) order = 0) && decide (j ≠ i) && a.ahead b) := by
  unfold BadO; rw [ha, hb]
set_option maxHeartbeats 4000000 in
set_option maxRecDepth 20000 in
theorem next_eq {σ w : World} {M : Mm} (h : Has σ M w) (va vo : Value) (l : List OpS) (order : List Int) (n m : Nat) (hl : l.length = n) (hm : order.length = m) (ha : Rd M 16 va n (l.flatMap encO)) (ho : Rd M 1 vo m (ints1 order)) (hn1 : n ≤ 1000000) (hm1 : m ≤ 1000000) :
    Calls Tryz.prog 21 #[va, vo] w fun r w' => NxPost σ M l order r w' := by
  have PL := Lib.hid (places_eq h va vo _ order n m hm ha ho hn1 hm1)
  obtain ⟨A, c, rfl⟩ := ha.form
  obtain ⟨B, d, rfl⟩ := ho.form
  have HA := Lib.hid ha
  have HL := Lib.hid hl
  have HM := Lib.hid hm
  clear ha ho hl hm
  go_enter Tryz.func21, Tryz.ntmps21
  go_wp2
  go_step3
  go_wp2_with (first
    | ((go_at_call 36; refine PL.out.mono ?_; clear h; rintro _ w ⟨bb, pm, es, M1, rfl, hok, hP, h, hle1, hpm, hnp⟩)))
  go_step3
  go_wp2
  clear PL hok
  have HP := Lib.hid hP
  clear hP
  go_loopg [7, 20] n (fun g v i wr => NxRel σ M1 l order n g v i wr)
  case atStart => exact ⟨0, by omega, rfl, Acc.nil h _ _⟩
  case round =>
    clear h w
    obtain ⟨w, rfl⟩ : ∃ x : World, x = wr := ⟨_, rfl⟩
    obtain ⟨k, hk, rfl, M', h, hle, hown⟩ := hrel
    obtain ⟨v, rfl⟩ : ∃ x : Value, x = u7 := ⟨_, rfl⟩
    cases gk with
    | zero =>
      obtain rfl : k = n := by omega
      go_wp2
      try rw [Exit.noGoto_ret]
      go_ret
      exact ⟨_, rfl, by
        have e : NextO l order = nextK l order k := by unfold NextO nextK; rw [HL.out]
        rw [e]
        exact ⟨M', h, Mm.le_trans hle1 hle, hown.base fun b hb => Mm.none_of hle1 hb⟩⟩
    | succ g =>
      have hlt : k < n := by omega
      have hlt' : (k : Int) < (n : Int) := by omega
      obtain ⟨o, ho⟩ : ∃ o, l[k]? = some o := ⟨_, List.getElem?_eq_getElem (by have := HL.out; omega)⟩
      have HO := Lib.hid ho
      obtain ⟨bl, ol, cl, csl, tl, fl, e1, hMl, hxl⟩ := HA.out.elem encO_len hlt ho
      cases e1
      have hMl1 := hle _ _ (hle1 _ _ hMl)
      have g16 : csl.extract (ol + k * 16) (ol + k * 16 + 16) = o.row := extract_of (n := 16) hxl rfl
      have HOWN := Lib.hid hown
      clear hxl hMl ho hown
      go_upto_region 6 with (first
        | ((with_reducible show wpList _ _ _ ({ dst := _, op := Op.load 32 _, type := _, pos := _, after := _, guard := _ } :: _) _ _); refine wpList_agg_has h rfl 32 _ rfl rfl hMl1 g16 rfl Tryz.underlying32 rfl (by kernel_rfl) ?_; try simp only [Act.put, List.setIfInBounds_toArray, List.set_cons_zero, List.set_cons_succ])
        | ((with_reducible show wpList _ _ _ ({ dst := _, op := Op.alloc 32, type := _, pos := _, after := _, guard := _ } :: _) _ _); refine wpList_alloc_has h rfl 32 rfl _ zoper ?_; clear h; intro bo w h hnb; try simp only [Act.put, List.setIfInBounds_toArray, List.set_cons_zero, List.set_cons_succ])
        | ((with_reducible show wpList _ _ _ ({ dst := _, op := Op.store 32 _ _, type := _, pos := _, after := _, guard := _ } :: _) _ _); refine wpList_storeAll_has (cells := o.row) h rfl 32 _ _ rfl rfl rfl (Mm.upd_same _ _ _) rfl rfl rfl (by kernel_rfl) rfl ?_; clear h; intro w h))
      rw [Mm.upd_upd] at h
      have hbo := Mm.upd_same M' bo (.cells o.row 32)
      have hle2 : M'.le (M'.upd bo (.cells o.row 32)) := Mm.le_upd' hnb _
      clear hMl1 g16 hnb
      generalize M'.upd bo _ = M2 at h hbo hle2
      have OWN2 : Hid (Own M1 M2 3 1 v (nextK l order k).length (ints1 (nextK l order k))) := HOWN.out.le hle2
      have hle3 := Mm.le_trans hle hle2
      clear HOWN hle hle2
      have hpm2 : M2 pm = some (.map (es.map EntI.e).toArray es.length) := hle3 _ _ hpm
      have LK := run_lookup_int h (es := es) (clock := es.length) hpm2 (k : Int)
      have HV : Hid (valI (k : Int) es = (posO (k : Nat) order : Nat)) := by
        show valI (k : Int) es = (posO (k : Nat) order : Nat)
        rw [HP.out.val (k : Int) (by omega) hlt', if_pos (by have := posO_len (k : Nat) order; have := HM.out; omega)]
      rw [HV.out] at LK
      obtain ⟨pk, hpk⟩ : ∃ pk, posO (k : Nat) order = pk := ⟨_, rfl⟩
      rw [hpk] at LK HV
      have HPK := Lib.hid hpk
      by_cases hp0 : pk = 0
      · have p1 : decide (0 < (pk : Int)) = false := decide_eq_false (by omega)
        have p2 : decide (0 < pk) = false := decide_eq_false (by omega)
        clear hpk
        go_upto_region 8 with (fail)
        clear LK p1 p2
        go_loopg [31] n (fun g i wr => NxIn σ M2 l order n k g i wr)
        case atStart => exact ⟨0, M2, by omega, rfl, h, Mm.le_refl _, fun u hu => absurd hu (by omega)⟩
        case round =>
          clear h w
          obtain ⟨w, rfl⟩ : ∃ x : World, x = wr := ⟨_, rfl⟩
          obtain ⟨j, M', hj, rfl, h, hle4, hall⟩ := hrel
          have HALL := Lib.hid hall
          clear hall
          cases gk with
          | zero =>
            obtain rfl : j = n := by omega
            have FR := Lib.hid (freeO_yes HL.out (HPK.out.trans hp0) HALL.out)
            obtain ⟨hown, hle⟩ : Own M1 M' 3 1 v (nextK l order k).length (ints1 (nextK l order k)) ∧ M1.le M' := ⟨OWN2.out.le hle4, Mm.le_trans hle3 hle4⟩
            have hkl := nextK_le l order k
            clear HALL OWN2 HP HV HPK hbo hpm2 hle3 hle4
            obtain ⟨nl, hnl⟩ : ∃ nl, (nextK l order k).length = nl := ⟨_, rfl⟩
            rw [hnl] at hown hkl
            have HNL := Lib.hid hnl
            clear hnl
            go_wp2_with (first
              | (at_builtin; refine wpList_append_lit h hle rfl _ _ _ rfl rfl Tryz.underlying33 info_int rfl (by omega) rfl hown rfl rfl rfl (by omega) (by omega) ?_; clear h hle hown; intro v w hacc))
            go_roundg g
            case measure => omega
            case rel => exact NxRel.take hk FR.out (by rw [HNL.out]; exact hacc)
          | succ gi =>
            have hjn : j < n := by omega
            have hjn' : (j : Int) < (n : Int) := by omega
            obtain ⟨y, hy⟩ : ∃ y, l[j]? = some y := ⟨_, List.getElem?_eq_getElem (by have := HL.out; omega)⟩
            have BD := Lib.hid (badO_of (order := order) hy HO.out)
            obtain ⟨bl, ol, cl, csl, tl, fl, e1, hMl, hxl⟩ := HA.out.elem encO_len hjn hy
            cases e1
            have hMl1 := hle4 _ _ (hle3 _ _ (Mm.le_refl M1 _ _ (hle1 _ _ hMl)))
            have g16 : csl.extract (ol + j * 16) (ol + j * 16 + 16) = y.row := extract_of (n := 16) hxl rfl
            clear hxl hMl hy
            go_upto_region 10 with (first
              | ((with_reducible show wpList _ _ _ ({ dst := _, op := Op.load 32 _, type := _, pos := _, after := _, guard := _ } :: _) _ _); refine wpList_agg_has h rfl 32 _ rfl rfl hMl1 g16 rfl Tryz.underlying32 rfl (by kernel_rfl) ?_; try simp only [Act.put, List.setIfInBounds_toArray, List.set_cons_zero, List.set_cons_succ])
              | ((with_reducible show wpList _ _ _ ({ dst := _, op := Op.alloc 32, type := _, pos := _, after := _, guard := _ } :: _) _ _); refine wpList_alloc_has h rfl 32 rfl _ zoper ?_; clear h; intro bp w h hnb; try simp only [Act.put, List.setIfInBounds_toArray, List.set_cons_zero, List.set_cons_succ])
              | ((with_reducible show wpList _ _ _ ({ dst := _, op := Op.store 32 _ _, type := _, pos := _, after := _, guard := _ } :: _) _ _); refine wpList_storeAll_has (cells := y.row) h rfl 32 _ _ rfl rfl rfl (Mm.upd_same _ _ _) rfl rfl rfl (by kernel_rfl) rfl ?_; clear h; intro w h))
            rw [Mm.upd_upd] at h
            have hbp := Mm.upd_same M' bp (.cells y.row 32)
            have hle5 : M2.le (M'.upd bp (.cells y.row 32)) := Mm.le_trans hle4 (Mm.le_upd' hnb _)
            clear hMl1 g16 hnb hle4
            generalize M'.upd bp _ = M3 at h hbp hle5
            have hbo3 := hle5 _ _ hbo
            have LKj := run_lookup_int h (es := es) (clock := es.length) (hle5 _ _ hpm2) (j : Int)
            rw [show valI (j : Int) es = (posO (j : Nat) order : Nat) from by
              rw [HP.out.val (j : Int) (by omega) hjn', if_pos (by have := posO_len (j : Nat) order; have := HM.out; omega)]] at LKj
            obtain ⟨pj, hpj⟩ : ∃ pj, posO (j : Nat) order = pj := ⟨_, rfl⟩
            rw [hpj] at LKj
            have BE : Hid (BadO l order k j = (decide (pj = 0) && decide (j ≠ k) && y.ahead o)) := by have := BD.out; rw [hpj] at this; exact this
            have dz : y.row.extract 0 (0 + 16) = y.row := rfl
            have do_ : o.row.extract 0 (0 + 16) = o.row := rfl
            have zy : y.row.size = 16 := rfl
            have zo : o.row.size = 16 := rfl
            clear hpj BD
            by_cases hq0 : pj = 0
            · subst hq0
              by_cases hjk : j = k
              · have BF : Hid (BadO l order k j = false) := by show BadO l order k j = false; rw [BE.out]; simp [hjk]
                subst hjk
                go_wp2
                go_roundg gi
                case measure => omega
                case rel => exact ⟨j + 1, M3, by omega, by go_num, h, hle5, fun u hu => by
                  by_cases e : u = j
                  · subst e; exact BF.out
                  · exact HALL.out u (by omega)⟩
              · cases hA : y.ahead o
                · have BF : Hid (BadO l order k j = false) := by show BadO l order k j = false; rw [BE.out, hA]; simp
                  have AH : Hid (∀ (w : World), Has σ M3 w → Calls Tryz.prog 37 #[.agg y.row, .agg o.row] w fun r w' => r = .returned (.bool false) ∧ Has σ M3 w') := fun w h => hA ▸ ahead_eq h y o
                  have d2 : ((j : Int) == (k : Int)) = false := beq_eq_false_iff_ne.2 (by omega)
                  have d3 : ((j : Int) != (k : Int)) = true := by rw [bne, d2]; rfl
                  have d4 : (j != k) = true := by rw [bne, beq_eq_false_iff_ne.2 hjk]; rfl
                  clear hA hjk BE
                  go_wp2_with (first
                    | ((with_reducible show wpList _ _ _ ({ dst := _, op := Op.load 32 _, type := _, pos := _, after := _, guard := _ } :: _) _ _); refine wpList_agg_has h rfl 32 _ rfl rfl hbp dz zy Tryz.underlying32 rfl (by kernel_rfl) ?_; try simp only [Act.put, List.setIfInBounds_toArray, List.set_cons_zero, List.set_cons_succ])
                    | ((with_reducible show wpList _ _ _ ({ dst := _, op := Op.load 32 _, type := _, pos := _, after := _, guard := _ } :: _) _ _); refine wpList_agg_has h rfl 32 _ rfl rfl hbo3 do_ zo Tryz.underlying32 rfl (by kernel_rfl) ?_; try simp only [Act.put, List.setIfInBounds_toArray, List.set_cons_zero, List.set_cons_succ])
                    | (go_at_call 37; refine (AH.out _ h).mono ?_; clear h; rintro _ w ⟨rfl, h⟩))
                  go_roundg gi
                  case measure => omega
                  case rel => exact ⟨j + 1, M3, by omega, by go_num, h, hle5, fun u hu => by
                    by_cases e : u = j
                    · subst e; exact BF.out
                    · exact HALL.out u (by omega)⟩
                · have BF : Hid (BadO l order k j = true) := by show BadO l order k j = true; rw [BE.out, hA]; simp [hjk]
                  have FN := Lib.hid (freeO_no (order := order) HL.out hjn BF.out)
                  have AH : Hid (∀ (w : World), Has σ M3 w → Calls Tryz.prog 37 #[.agg y.row, .agg o.row] w fun r w' => r = .returned (.bool true) ∧ Has σ M3 w') := fun w h => hA ▸ ahead_eq h y o
                  have d2 : ((j : Int) == (k : Int)) = false := beq_eq_false_iff_ne.2 (by omega)
                  have d3 : ((j : Int) != (k : Int)) = true := by rw [bne, d2]; rfl
                  have d4 : (j != k) = true := by rw [bne, beq_eq_false_iff_ne.2 hjk]; rfl
                  clear hA hjk BE
                  go_wp2_with (first
                    | ((with_reducible show wpList _ _ _ ({ dst := _, op := Op.load 32 _, type := _, pos := _, after := _, guard := _ } :: _) _ _); refine wpList_agg_has h rfl 32 _ rfl rfl hbp dz zy Tryz.underlying32 rfl (by kernel_rfl) ?_; try simp only [Act.put, List.setIfInBounds_toArray, List.set_cons_zero, List.set_cons_succ])
                    | ((with_reducible show wpList _ _ _ ({ dst := _, op := Op.load 32 _, type := _, pos := _, after := _, guard := _ } :: _) _ _); refine wpList_agg_has h rfl 32 _ rfl rfl hbo3 do_ zo Tryz.underlying32 rfl (by kernel_rfl) ?_; try simp only [Act.put, List.setIfInBounds_toArray, List.set_cons_zero, List.set_cons_succ])
                    | (go_at_call 37; refine (AH.out _ h).mono ?_; clear h; rintro _ w ⟨rfl, h⟩))
                  go_roundg g
                  case measure => omega
                  case rel => exact NxRel.skip hk (Mm.le_trans hle3 hle5) (OWN2.out.le hle5) h FN.out
            · have BF : Hid (BadO l order k j = false) := by show BadO l order k j = false; rw [BE.out]; simp [hq0]
              have d1 : ((pj : Int) == 0) = false := beq_eq_false_iff_ne.2 (by omega)
              clear hq0
              go_wp2
              go_roundg gi
              case measure => omega
              case rel => exact ⟨j + 1, M3, by omega, by go_num, h, hle5, fun u hu => by
                by_cases e : u = j
                · subst e; exact BF.out
                · exact HALL.out u (by omega)⟩
      · have p1 : decide (0 < (pk : Int)) = true := decide_eq_true (by omega)
        have p2 : decide (0 < pk) = true := decide_eq_true (by omega)
        clear hpk
        go_wp2
        go_roundg g
        case measure => omega
        case rel => exact NxRel.skip hk hle3 OWN2.out h (freeO_in (by rw [HPK.out]; exact hp0))
end Go.Proofs.YtjnhklhgcbknkaaGreatDoor
