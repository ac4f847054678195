/- Weaver: parted. -/
import Derived.Test.YtlgnknaffnnkkaaWevB
namespace Go.Proofs.Ytlgnknaffnnkkaa
open Go.RowKit
set_option linter.unusedVariables false
set_option linter.unusedSimpArgs false
set_option linter.unnecessarySimpa false

def hiE (c : Nat → Int) (l : Int) (E : List PEnt) : List PEnt := E.filter fun x => aboveB c x.1 l
def loE (c : Nat → Int) (l : Int) (E : List PEnt) : List PEnt := E.filter fun x => !aboveB c x.1 l
theorem hiE_snoc (c : Nat → Int) (l : Int) (E : List PEnt) (x : PEnt) : hiE c l (E ++ [x]) = hiE c l E ++ if aboveB c x.1 l then [x] else [] := by
  unfold hiE
  rw [List.filter_append]
  congr 1
  simp only [List.filter_cons, List.filter_nil]
theorem loE_snoc (c : Nat → Int) (l : Int) (E : List PEnt) (x : PEnt) : loE c l (E ++ [x]) = loE c l E ++ if aboveB c x.1 l then [] else [x] := by
  unfold loE
  rw [List.filter_append]
  congr 1
  simp only [List.filter_cons, List.filter_nil]
  cases aboveB c x.1 l <;> rfl
theorem hiE_le (c : Nat → Int) (l : Int) (E : List PEnt) : (hiE c l E).length ≤ E.length := List.length_filter_le _ _
theorem loE_le (c : Nat → Int) (l : Int) (E : List PEnt) : (loE c l E).length ≤ E.length := List.length_filter_le _ _
set_option maxHeartbeats 2000000 in
theorem parted_has {σ w : World} {M : Mm} (h : Has σ M w) (c : Nat → Int) (p : Nat → Value) (e : Value) (E : List PEnt) (he : Rd M 2 e E.length (E.flatMap encE)) (hE : E.length ≤ 1000000) (l : Int) :
    Calls Try.prog 20 #[weaV c p e l] w fun r w' => ∃ a b M', r = .returned (.tuple #[a, b]) ∧ Has σ M' w' ∧ M.le M' ∧ Own M M' 43 2 a (hiE c l E).length ((hiE c l E).flatMap encE) ∧ Own M M' 43 2 b (loE c l E).length ((loE c l E).flatMap encE) := by
  have AB : Hid (∀ (M : Mm) (w : World) (t : Int), Has σ M w → Calls Try.prog 39 #[weaV c p e l, .int .i64 t] w fun e w' => e = .returned (.bool (aboveB c t l)) ∧ Has σ M w') := fun M w t h => weaAbove_has h c p e t l
  obtain ⟨A, cap, rfl⟩ := he.form
  obtain ⟨n, hl⟩ : ∃ n, E.length = n := ⟨_, rfl⟩
  rw [hl] at he hE AB ⊢
  have HL := Lib.hid hl
  clear hl
  have x1 := wea_all c p (.slice A n cap) l
  have g1 := wea_ents c p (.slice A n cap) l
  have hz := wea_size c p (.slice A n cap) l
  simp only [weaV] at AB ⊢
  generalize weaRow c p (.slice A n cap) l = row at *
  go_enter Try.func20, Try.ntmps20
  go_upto_region 1 with (fail)
  obtain ⟨M2, hbx, hle2, hb2, hn2⟩ := h.box (.cells row 46)
  generalize w.alloc _ = wx at hbx ⊢
  generalize w.heap.size = b2 at hb2 hn2 ⊢
  clear h
  try clear w
  have h := hbx
  clear hbx
  obtain ⟨w, rfl⟩ : ∃ x : World, x = wx := ⟨_, rfl⟩
  replace he := he.le hle2
  go_wp2_with (first
    | (with_reducible show wpList _ _ _ ({ dst := _, op := Op.load 27 _, type := _, pos := _, after := _, guard := _ } :: _) _ _; refine wpList_load1_has h rfl 27 _ rfl rfl hb2 g1 Try.underlying27 rfl ?_))
  go_loopw [2, 3, 10] (fun vh vl i wr => ∃ (k : Nat) (M' : Mm), k ≤ n ∧ i = .int .i64 k ∧ Has σ M' wr ∧ M2.le M' ∧ Own M2 M' 43 2 vh (hiE c l (E.take k)).length ((hiE c l (E.take k)).flatMap encE) ∧ Own M2 M' 43 2 vl (loE c l (E.take k)).length ((loE c l (E.take k)).flatMap encE) ∧ Apart vh vl) (fun _ _ i _ => n - (intOf i).toNat)
  case atStart => exact ⟨0, M2, by omega, rfl, h, Mm.le_refl _, by simpa [hiE] using Own.nil _ _ _ _, by simpa [loE] using Own.nil _ _ _ _, Apart.nil _ _ _⟩
  case round =>
    clear h w
    obtain ⟨w, rfl⟩ : ∃ x : World, x = wr := ⟨_, rfl⟩
    obtain ⟨k, M', hk, rfl, h, hle, hownh, hownl, hap⟩ := hrel
    have hb2' := hle _ _ hb2
    obtain ⟨vh, hv, hownh, hap⟩ : ∃ v, v = _ ∧ Own M2 M' 43 2 v _ _ ∧ Apart v _ := ⟨_, rfl, hownh, hap⟩
    subst hv
    obtain ⟨vl, hv, hownl, hap⟩ : ∃ v, v = _ ∧ Own M2 M' 43 2 v _ _ ∧ Apart _ v := ⟨_, rfl, hownl, hap⟩
    subst hv
    by_cases hlt : k < n
    · obtain ⟨⟨x1', x2'⟩, hx⟩ : ∃ x, E[k]? = some x := ⟨_, List.getElem?_eq_getElem (by rw [HL.out]; exact hlt)⟩
      have DH : Hid (hiE c l (E.take (k + 1)) = hiE c l (E.take k) ++ if aboveB c x1' l then [(x1', x2')] else []) := by show _ = _; rw [take_snoc'' hx, hiE_snoc]
      have DL : Hid (loE c l (E.take (k + 1)) = loE c l (E.take k) ++ if aboveB c x1' l then [] else [(x1', x2')]) := by show _ = _; rw [take_snoc'' hx, loE_snoc]
      have l1 : (hiE c l (E.take k)).length ≤ 1000000 := by have := hiE_le c l (E.take k); have := List.length_take_le k E; omega
      have l2 : (loE c l (E.take k)).length ≤ 1000000 := by have := loE_le c l (E.take k); have := List.length_take_le k E; omega
      obtain ⟨b1, o1, c1, cs1, t1, f1, e1, hM1, hx1⟩ := he.elem encE_len hlt hx
      cases e1
      have hM1' := hle _ _ hM1
      have hc1 : cs1.extract (o1 + k * 2) (o1 + k * 2 + 2) = #[.int .i64 x1', .int .i64 x2'] := extract_of hx1 rfl
      have e2 : (#[.int .i64 0, .int .i64 0] : Array Value).size = 2 := rfl
      have e2' : (#[.int .i64 x1', .int .i64 x2'] : Array Value).size = 2 := rfl
      have d0 : (#[.int .i64 x1', .int .i64 x2'] : Array Value)[0]? = some (.int .i64 x1') := rfl
      have xe := ent_all x1' x2'
      clear hx1 hx hM1
      go_upto_region 4 with (first
        | ((with_reducible show wpList _ _ _ ({ dst := _, op := Op.load 43 _, type := _, pos := _, after := _, guard := _ } :: _) _ _); refine wpList_agg_has h rfl 43 _ rfl rfl hM1' hc1 rfl Try.underlying43 rfl (by kernel_rfl) ?_; try simp only [Act.put, List.setIfInBounds_toArray, List.set_cons_zero, List.set_cons_succ])
        | ((with_reducible show wpList _ _ _ ({ dst := _, op := Op.alloc 43, type := _, pos := _, after := _, guard := _ } :: _) _ _); refine wpList_alloc_has h rfl 43 rfl _ zero_ent ?_; clear h; intro b7 w h hn7; try simp only [Act.put, List.setIfInBounds_toArray, List.set_cons_zero, List.set_cons_succ])
        | ((with_reducible show wpList _ _ _ ({ dst := _, op := Op.store 43 _ _, type := _, pos := _, after := _, guard := _ } :: _) _ _); refine wpList_storeAll_has (cells := #[.int .i64 x1', .int .i64 x2']) h rfl 43 _ _ rfl rfl rfl (Mm.upd_same _ _ _) rfl (e2.trans e2'.symm) rfl (by rw [e2']; kernel_rfl) (by rfl) ?_; clear h; intro w h))
      clear hc1 hM1' e2 e2'
      rw [Mm.upd_upd] at h
      have hb7' := Mm.upd_same M' b7 (.cells #[.int .i64 x1', .int .i64 x2'] 43)
      have hle3 := Mm.le_upd' hn7 (.cells #[.int .i64 x1', .int .i64 x2'] 43)
      generalize M'.upd b7 (.cells #[.int .i64 x1', .int .i64 x2'] 43) = M3 at h hb7' hle3
      replace hb2' := hle3 _ _ hb2'
      replace hle := Mm.le_trans hle hle3
      replace hownh := hownh.le hle3
      replace hownl := hownl.le hle3
      clear hle3 hn7
      have ABk := Lib.hid (fun (w : World) (h : Has σ M3 w) => AB.out _ w x1' h)
      generalize aboveB c x1' l = bk at ABk DH DL
      have leh := Mm.less_le M3 vh
      have lel := Mm.less_le M3 vl
      have oh := Own.less hownh
      have ol := Own.less hownl
      cases bk
      · replace DH : Hid (hiE c l (E.take (k + 1)) = hiE c l (E.take k)) := by show _ = _; rw [DH.out]; simp
        replace DL : Hid (loE c l (E.take (k + 1)) = loE c l (E.take k) ++ [(x1', x2')]) := by show _ = _; rw [DL.out]; simp
        go_wp2_with (first
          | ((with_reducible show wpList _ _ _ ({ dst := _, op := Op.load 46 _, type := _, pos := _, after := _, guard := _ } :: _) _ _); refine wpList_agg_has h rfl 46 _ rfl rfl hb2' x1 hz Try.underlying46 rfl (by kernel_rfl) ?_; try simp only [Act.put, List.setIfInBounds_toArray, List.set_cons_zero, List.set_cons_succ])
          | (with_reducible show wpList _ _ _ ({ dst := _, op := Op.load 3 _, type := _, pos := _, after := _, guard := _ } :: _) _ _; refine wpList_load1_has h rfl 3 _ rfl rfl hb7' d0 Try.underlying3 rfl ?_)
          | ((with_reducible show wpList _ _ _ ({ dst := _, op := Op.load 43 _, type := _, pos := _, after := _, guard := _ } :: _) _ _); refine wpList_agg_has h rfl 43 _ rfl rfl hb7' xe rfl Try.underlying43 rfl (by kernel_rfl) ?_; try simp only [Act.put, List.setIfInBounds_toArray, List.set_cons_zero, List.set_cons_succ])
          | (go_at_call 39; refine (ABk.out _ h).mono ?_; clear h; rintro e w ⟨rfl, h⟩)
          | (at_builtin; refine wpList_append_lit h lel rfl _ _ _ rfl rfl Try.underlying27 info_ent rfl (by omega) rfl ol rfl rfl rfl (by omega) (by omega) ?_; clear h lel ol; intro v w hacc))
        obtain ⟨M5, h, hle5, own5, keep⟩ := Acc.split hownl hle hacc
        obtain ⟨own6, ap6⟩ := keep _ _ _ _ _ hownh hap.symm
        go_roundw
        case rel => exact ⟨k + 1, M5, by omega, by go_num, h, hle5, by rw [DH.out]; exact own6, by rw [DL.out, List.length_append, List.flatMap_append]; simpa [encE] using own5, ap6.symm⟩
        case measure => simp [intOf]; omega
      · replace DH : Hid (hiE c l (E.take (k + 1)) = hiE c l (E.take k) ++ [(x1', x2')]) := by show _ = _; rw [DH.out]; simp
        replace DL : Hid (loE c l (E.take (k + 1)) = loE c l (E.take k)) := by show _ = _; rw [DL.out]; simp
        go_wp2_with (first
          | ((with_reducible show wpList _ _ _ ({ dst := _, op := Op.load 46 _, type := _, pos := _, after := _, guard := _ } :: _) _ _); refine wpList_agg_has h rfl 46 _ rfl rfl hb2' x1 hz Try.underlying46 rfl (by kernel_rfl) ?_; try simp only [Act.put, List.setIfInBounds_toArray, List.set_cons_zero, List.set_cons_succ])
          | (with_reducible show wpList _ _ _ ({ dst := _, op := Op.load 3 _, type := _, pos := _, after := _, guard := _ } :: _) _ _; refine wpList_load1_has h rfl 3 _ rfl rfl hb7' d0 Try.underlying3 rfl ?_)
          | ((with_reducible show wpList _ _ _ ({ dst := _, op := Op.load 43 _, type := _, pos := _, after := _, guard := _ } :: _) _ _); refine wpList_agg_has h rfl 43 _ rfl rfl hb7' xe rfl Try.underlying43 rfl (by kernel_rfl) ?_; try simp only [Act.put, List.setIfInBounds_toArray, List.set_cons_zero, List.set_cons_succ])
          | (go_at_call 39; refine (ABk.out _ h).mono ?_; clear h; rintro e w ⟨rfl, h⟩)
          | (at_builtin; refine wpList_append_lit h leh rfl _ _ _ rfl rfl Try.underlying27 info_ent rfl (by omega) rfl oh rfl rfl rfl (by omega) (by omega) ?_; clear h leh oh; intro v w hacc))
        obtain ⟨M5, h, hle5, own5, keep⟩ := Acc.split hownh hle hacc
        obtain ⟨own6, ap6⟩ := keep _ _ _ _ _ hownl hap
        go_roundw
        case rel => exact ⟨k + 1, M5, by omega, by go_num, h, hle5, by rw [DH.out, List.length_append, List.flatMap_append]; simpa [encE] using own5, by rw [DL.out]; exact own6, ap6⟩
        case measure => simp [intOf]; omega
    · obtain rfl : k = n := by omega
      have EA : E.take k = E := List.take_of_length_le (by rw [HL.out]; exact Nat.le_refl _)
      rw [EA] at hownh hownl
      go_wp2
      go_ret2
      exact ⟨_, _, M', rfl, h, Mm.le_trans hle2 hle, hownh.base fun b hb => Mm.none_of hle2 hb, hownl.base fun b hb => Mm.none_of hle2 hb⟩
end Go.Proofs.Ytlgnknaffnnkkaa
