/- Weaver: threads, entries, parted, each. -/
import Derived.Test.YtlgnknaffnnkkaaScrD
namespace Go.Proofs.Ytlgnknaffnnkkaa
open Go.RowKit
set_option linter.unusedVariables false
set_option linter.unusedSimpArgs false
set_option linter.unnecessarySimpa false

section
variable {σ w : World} {M M0 M2 M' : Mm} {e e' : TypeId} {sz sz' n m : Nat} {v u : Value} {xs ys : List Value}
/-- Two rows that lie apart. -/
def Apart (v u : Value) : Prop := ∀ g, v.ownBlock = some g → u.ownBlock ≠ some g
theorem Apart.symm (h : Apart v u) : Apart u v := fun g hg hv => h g hv hg
theorem Apart.nil (u : Value) (n c : Nat) : Apart (.slice none n c) u := fun g h => by cases h
/-- What is known, but for a row. -/
def Mm.less (M : Mm) (v : Value) : Mm := fun b => if v.ownBlock = some b then none else M b
theorem Mm.less_le (M : Mm) (v : Value) : (M.less v).le M := fun b o h => by unfold Mm.less at h; split at h; cases h; exact h
theorem Own.less (h : Own M0 M e sz v n xs) : Own (M.less v) M e sz v n xs := by
  obtain ⟨hl, h | ⟨g, cap, cur, hv, hg, r⟩⟩ := h
  · exact ⟨hl, .inl h⟩
  · exact ⟨hl, .inr ⟨g, cap, cur, hv, by subst hv; simp [Mm.less, Value.ownBlock], r⟩⟩
theorem Own.keep (h : Own M0 M e' sz' u m ys) (ha : Apart v u) (hle : (M.less v).le M') : Own M0 M' e' sz' u m ys := by
  obtain ⟨hl, h | ⟨g, cap, cur, hv, hg, hh, r⟩⟩ := h
  · exact ⟨hl, .inl h⟩
  · refine ⟨hl, .inr ⟨g, cap, cur, hv, hg, hle _ _ ?_, r⟩⟩
    unfold Mm.less
    rw [if_neg fun hvg => ha g hvg (by subst hv; rfl)]
    exact hh
/-- Something was appended to one row: the others are as they were. -/
theorem Acc.split (hO : Own M2 M e sz v n xs) (hle : M2.le M) {v' : Value} {n' : Nat} {xs' : List Value} (hacc : Acc σ (M.less v) w e sz v' n' xs') :
    ∃ M', Has σ M' w ∧ M2.le M' ∧ Own M2 M' e sz v' n' xs' ∧ ∀ (e2 : TypeId) (sz2 : Nat) (u : Value) (m : Nat) (ys : List Value), Own M2 M e2 sz2 u m ys → Apart v u → Own M2 M' e2 sz2 u m ys ∧ Apart v' u := by
  obtain ⟨M', h, hl', hO'⟩ := hacc
  have hv2 : ∀ b, v.ownBlock = some b → M2 b = none := fun b hb => by
    rcases hO.2 with ⟨rfl, _⟩ | ⟨g, cap, cur, rfl, hg, _⟩
    · cases hb
    · cases hb; exact hg
  refine ⟨M', h, fun b o hb => hl' _ _ ?_, hO'.base fun b hb => ?_, fun e2 sz2 u m ys hu ha => ⟨hu.keep ha hl', ?_⟩⟩
  · unfold Mm.less
    rw [if_neg fun hvb => by rw [hv2 b hvb] at hb; cases hb]
    exact hle _ _ hb
  · unfold Mm.less at hb
    split at hb
    · rename_i hvb; exact hv2 b hvb
    · exact Mm.none_of hle hb
  · intro g hg hug
    have h0 : (M.less v) g = none := by
      rcases hO'.2 with ⟨rfl, _⟩ | ⟨g', cap, cur, rfl, hg', _⟩
      · cases hg
      · cases hg; exact hg'
    rcases hu.2 with ⟨rfl, _⟩ | ⟨g', cap, cur, rfl, _, hh, _⟩
    · cases hug
    · cases hug
      unfold Mm.less at h0
      rw [if_neg fun hvg => ha _ hvg rfl, hh] at h0
      cases h0
end

section
variable {M M' : Mm} {b c : Nat} {o o' : Obj}
/-- What is known, but for one block. -/
def Mm.drop (M : Mm) (b : Nat) : Mm := fun c => if c = b then none else M c
theorem Mm.drop_le (M : Mm) (b : Nat) : (M.drop b).le M := fun c o h => by unfold Mm.drop at h; split at h; cases h; exact h
theorem Mm.drop_of (h : M c = some o) (hne : c ≠ b) : M.drop b c = some o := by unfold Mm.drop; rw [if_neg hne]; exact h
theorem Mm.drop_upd (h : (M.drop b).le M') (o : Obj) : (M.drop b).le (M'.upd b o) := fun c x hc => by
  have hne : c ≠ b := fun e => by subst e; simp [Mm.drop] at hc
  rw [Mm.upd_ne hne]
  exact h _ _ hc
theorem Mm.ne_cells {cs cs' : Array Value} {t t' : TypeId} (h : M b = some (.cells cs t)) (h' : M c = some (.cells cs' t')) (ht : t ≠ t') : b ≠ c := fun e => by
  subst e
  rw [h] at h'
  injection h' with h'
  injection h' with _ h'
  exact ht h'
end
section
variable {M0 M' : Mm} {e : TypeId} {sz n b : Nat} {v : Value} {xs : List Value} {o o' : Obj}
theorem Own.rd_drop (h : Own M0 M' e sz v n xs) (hb : M0 b = some o) : Rd (M'.drop b) sz v n xs := by
  obtain ⟨hl, ⟨rfl, rfl⟩ | ⟨g, cap, cur, rfl, hg, hh, hc, hm, hs, ht⟩⟩ := h
  · exact ⟨hl, none, 0, rfl, Nat.le_refl _, fun hn => absurd hn (by omega)⟩
  · have hne : g ≠ b := fun e => by subst e; rw [hb] at hg; cases hg
    have h2 : Own M0 (M'.drop b) e sz (.slice (some ⟨g, 0, none⟩) n cap) n xs := ⟨hl, .inr ⟨g, cap, cur, rfl, hg, Mm.drop_of hh hne, hc, hm, hs, ht⟩⟩
    exact h2.rd
theorem Mm.drop_upd_eq (M : Mm) (b : Nat) (o : Obj) : (M.drop b).upd b o = M.upd b o := by
  funext c
  unfold Mm.upd Mm.drop
  split
  · rfl
  · rfl
theorem Own.rd_drop2 {b' : Nat} (h : Own M0 M' e sz v n xs) (hb : M0 b = some o) (hb' : M0 b' = some o') : Rd ((M'.drop b).drop b') sz v n xs := by
  obtain ⟨hl, ⟨rfl, rfl⟩ | ⟨g, cap, cur, rfl, hg, hh, hc, hm, hs, ht⟩⟩ := h
  · exact ⟨hl, none, 0, rfl, Nat.le_refl _, fun hn => absurd hn (by omega)⟩
  · have hne : g ≠ b := fun e => by subst e; rw [hb] at hg; cases hg
    have hne' : g ≠ b' := fun e => by subst e; rw [hb'] at hg; cases hg
    have h2 : Own M0 ((M'.drop b).drop b') e sz (.slice (some ⟨g, 0, none⟩) n cap) n xs := ⟨hl, .inr ⟨g, cap, cur, rfl, hg, Mm.drop_of (Mm.drop_of hh hne) hne', hc, hm, hs, ht⟩⟩
    exact h2.rd
theorem Has.two {σ w : World} {M : Mm} {b b' : Nat} {o o' : Obj} (h : Has σ (M.upd b o) w) (hb : M b' = some o') (hne : b' ≠ b) : Has σ ((((M.drop b).drop b').upd b' o').upd b o) w := h.less fun c x hc => by
  by_cases e : c = b
  · subst e; rw [Mm.upd_same] at hc ⊢; exact hc
  · rw [Mm.upd_ne e] at hc ⊢
    by_cases e' : c = b'
    · subst e'; rw [Mm.upd_same] at hc; rw [← hc]; exact hb
    · rw [Mm.upd_ne e'] at hc
      exact Mm.drop_le _ _ _ _ (Mm.drop_le _ _ _ _ hc)
theorem Mm.drop_none (M : Mm) (b : Nat) : M.drop b b = none := if_pos rfl
theorem Mm.le_drop {N : Mm} (hN : N b = none) (h : N.le M') : N.le (M'.drop b) := fun c x hc => Mm.drop_of (h _ _ hc) fun e => by subst e; rw [hN] at hc; cases hc
end
section
variable {M0 M M' N : Mm} {e : TypeId} {sz n b : Nat} {v : Value} {xs : List Value} {o o' : Obj}
theorem Own.rd_in (h : Own M0 M' e sz v n xs) (hN : ∀ c x, M0 c = none → M' c = some x → N c = some x) : Rd N sz v n xs := by
  obtain ⟨hl, ⟨rfl, rfl⟩ | ⟨g, cap, cur, rfl, hg, hh, r⟩⟩ := h
  · exact ⟨hl, none, 0, rfl, Nat.le_refl _, fun hn => absurd hn (by omega)⟩
  · have h2 : Own M0 N e sz (.slice (some ⟨g, 0, none⟩) n cap) n xs := ⟨hl, .inr ⟨g, cap, cur, rfl, hg, hN _ _ hg hh, r⟩⟩
    exact h2.rd
theorem Mm.drop_mono (h : M.le M') (b : Nat) : (M.drop b).le (M'.drop b) := fun c x hc => by
  have hne : c ≠ b := fun e => by subst e; simp [Mm.drop] at hc
  exact Mm.drop_of (h _ _ (Mm.drop_le _ _ _ _ hc)) hne
theorem Mm.drop_in {c : Nat} {x : Obj} (h : M c = some x) (h0 : M0 c = none) (hb : M0 b = some o) : M.drop b c = some x := Mm.drop_of h fun e => by subst e; rw [hb] at h0; cases h0
end
theorem info_int : (Try.prog.info? 3).map (fun i => (i.zero, i.size, i.bytes)) = some (some (.int .i64 0), 1, 8) := by kernel_rfl
theorem encE_one (x : PEnt) : ∀ u ∈ encE x, u.oneCell' = true := by intro u hu; simp [encE] at hu; rcases hu with rfl | rfl <;> rfl
theorem encK_one (x : PCall) : ∀ u ∈ encK x, u.oneCell' = true := by intro u hu; simp [encK] at hu; rcases hu with rfl | rfl | rfl | rfl | rfl | rfl | rfl <;> rfl
theorem wea_size (c : Nat → Int) (p : Nat → Value) (e : Value) (l : Int) : (weaRow c p e l).size = 24 := by kernel_rfl
def encN (t : Nat) : List Value := [.int .i64 t]
theorem encN_len (t : Nat) : (encN t).length = 1 := rfl
/-- The threads above, of the first k. -/
def thrTo (c : Nat → Int) (l : Int) (k : Nat) : List Nat := (List.range k).filter fun t => aboveB c t l
theorem thrTo_succ (c : Nat → Int) (l : Int) (k : Nat) : thrTo c l (k + 1) = thrTo c l k ++ if aboveB c k l then [k] else [] := by
  unfold thrTo
  rw [List.range_succ, List.filter_append]
  congr 1
  simp only [List.filter_cons, List.filter_nil]
theorem thrTo_le (c : Nat → Int) (l : Int) (k : Nat) : (thrTo c l k).length ≤ k := Nat.le_trans (List.length_filter_le _ _) (by simp)
theorem thrTo_lt {c : Nat → Int} {l : Int} {k t : Nat} (h : t ∈ thrTo c l k) : t < k := List.mem_range.1 (List.mem_filter.1 h).1

set_option maxHeartbeats 1000000 in
theorem threads_has {σ w : World} {M : Mm} (h : Has σ M w) (c : Nat → Int) (p : Nat → Value) (e : Value) (l : Int) :
    Calls Try.prog 44 #[weaV c p e l] w fun r w' => ∃ v, r = .returned v ∧ Acc σ M w' 3 1 v (thrTo c l 8).length ((thrTo c l 8).flatMap encN) := by
  have AB : Hid (∀ (M : Mm) (w : World) (t : Int), Has σ M w → Calls Try.prog 39 #[weaV c p e l, .int .i64 t] w fun e w' => e = .returned (.bool (aboveB c t l)) ∧ Has σ M w') := fun M w t h => weaAbove_has h c p e t l
  have x1 := wea_all c p e l
  have hz := wea_size c p e l
  simp only [weaV] at AB ⊢
  generalize weaRow c p e l = row at *
  go_enter Try.func44, Try.ntmps44
  go_upto_region 1 with (fail)
  obtain ⟨M2, hbx, hle2, hb1, hn1⟩ := h.box (.cells row 46)
  generalize w.alloc _ = wx at hbx ⊢
  generalize w.heap.size = b1 at hb1 hn1 ⊢
  clear h
  try clear w
  have h := hbx
  clear hbx
  obtain ⟨w, rfl⟩ : ∃ x : World, x = wx := ⟨_, rfl⟩
  go_wp2
  go_loopw [3, 5] (fun v i wr => ∃ k : Nat, k ≤ 8 ∧ i = .int .i64 k ∧ Acc σ M2 wr 3 1 v (thrTo c l k).length ((thrTo c l k).flatMap encN)) (fun _ i _ => 8 - (intOf i).toNat)
  case atStart => exact ⟨0, by omega, rfl, Acc.nil h _ _⟩
  case round =>
    clear h w
    obtain ⟨w, rfl⟩ : ∃ x : World, x = wr := ⟨_, rfl⟩
    obtain ⟨k, hk, rfl, M', h, hle, hown⟩ := hrel
    by_cases hlt : k < 8
    · have hb1' := hle _ _ hb1
      have D := Lib.hid (thrTo_succ c l k)
      have hl := thrTo_le c l k
      have ABk := Lib.hid (fun (w : World) (h : Has σ M' w) => AB.out M' w k h)
      generalize aboveB c k l = bk at ABk D
      cases bk
      · replace D : Hid (thrTo c l (k + 1) = thrTo c l k) := by show _ = _; rw [D.out]; simp
        go_wp2_with (first
          | ((with_reducible show wpList _ _ _ ({ dst := _, op := Op.load 46 _, type := _, pos := _, after := _, guard := _ } :: _) _ _); refine wpList_agg_has h rfl 46 _ rfl rfl hb1' x1 hz Try.underlying46 rfl (by kernel_rfl) ?_; try simp only [Act.put, List.setIfInBounds_toArray, List.set_cons_zero, List.set_cons_succ])
          | (go_at_call 39; refine (ABk.out _ h).mono ?_; clear h; rintro e w ⟨rfl, h⟩))
        go_roundw
        case rel => exact ⟨k + 1, by omega, by go_num, by rw [D.out]; exact ⟨M', h, hle, hown⟩⟩
        case measure => simp [intOf]; omega
      · replace D : Hid (thrTo c l (k + 1) = thrTo c l k ++ [k]) := by show _ = _; rw [D.out]; simp
        go_wp2_with (first
          | ((with_reducible show wpList _ _ _ ({ dst := _, op := Op.load 46 _, type := _, pos := _, after := _, guard := _ } :: _) _ _); refine wpList_agg_has h rfl 46 _ rfl rfl hb1' x1 hz Try.underlying46 rfl (by kernel_rfl) ?_; try simp only [Act.put, List.setIfInBounds_toArray, List.set_cons_zero, List.set_cons_succ])
          | (go_at_call 39; refine (ABk.out _ h).mono ?_; clear h; rintro e w ⟨rfl, h⟩)
          | (at_builtin; refine wpList_append_lit h hle rfl _ _ _ rfl rfl Try.underlying70 info_int rfl (by omega) rfl hown rfl rfl rfl (by omega) (by omega) ?_; clear h hle hown; intro v w hacc))
        go_roundw
        case rel => exact ⟨k + 1, by omega, by go_num, by rw [D.out, List.flatMap_append, List.length_append]; simpa [encN] using hacc⟩
        case measure => simp [intOf]; omega
    · obtain rfl : k = 8 := by omega
      go_wp2
      go_ret
      exact ⟨_, rfl, M', h, Mm.le_trans hle2 hle, hown.base fun b hb => Mm.none_of hle2 hb⟩

set_option maxHeartbeats 2000000 in
theorem entries_has {σ w : World} {M : Mm} (h : Has σ M w) (c : Nat → Int) (p : Nat → Value) (e : Value) (l : Int) (v : Value) (hp : ∀ t, t < 8 → (p t).oneCell' = true) (he : e.oneCell' = true) (hv : v.oneCell' = true) :
    Calls Try.prog 27 #[weaV c p e l, v] w fun r w' => r = .returned (scrV c p v) ∧ Has σ M w' := by
  have x1 := wea_scr c p e l
  have hz := wea_size c p e l
  have sz := scr_size c p e
  have sz' := scr_size c p v
  have sz0 := scr_size (fun _ => 0) noP nilS
  have one := scr_one c p e hp he
  have one' := scr_one c p v hp hv
  have sa := scr_all c p v
  have SE := Lib.hid (scr_set_ents c p e v)
  have lt2 : 22 < (scrRow c p e).size := by omega
  clear hp he
  simp only [weaV, scrV]
  generalize weaRow c p e l = row at *
  generalize scrRow c p e = r1 at *
  generalize scrRow c p v = r2 at *
  go_enter Try.func27, Try.ntmps27
  go_upto_region 1 with (fail)
  obtain ⟨M2, hbx, hle2, hb2, hb4, hn2, hn4⟩ := h.box2 (.cells row 46) (.cells #[.int .i64 0, .int .i64 0, .int .i64 0, .int .i64 0, .int .i64 0, .int .i64 0, .int .i64 0, .int .i64 0, .int .i64 0, .int .i64 0, .int .i64 0, .int .i64 0, .int .i64 0, .int .i64 0, .slice none 0 0, .slice none 0 0, .slice none 0 0, .slice none 0 0, .slice none 0 0, .slice none 0 0, .slice none 0 0, .slice none 0 0, .slice none 0 0] 29)
  generalize (w.alloc _).alloc _ = wx at hbx ⊢
  have hne_b2_b4 : w.heap.size ≠ w.heap.size + 1 := Nat.ne_of_lt (Nat.lt_succ_self _)
  generalize w.heap.size + 1 = b4 at hb4 hn4 hne_b2_b4 ⊢
  generalize w.heap.size = b2 at hb2 hn2 hne_b2_b4 ⊢
  clear h
  try clear w
  have h := hbx
  clear hbx
  obtain ⟨w, rfl⟩ : ∃ x : World, x = wx := ⟨_, rfl⟩
  have hb4 : M2 b4 = some (.cells (scrRow (fun _ => 0) noP nilS) 29) := hb4
  go_upto_region 2 with (first
    | ((with_reducible show wpList _ _ _ ({ dst := _, op := Op.load 29 _, type := _, pos := _, after := _, guard := _ } :: _) _ _); refine wpList_agg_has h rfl 29 _ rfl rfl hb2 x1 sz Try.underlying29 rfl (by kernel_rfl) ?_; try simp only [Act.put, List.setIfInBounds_toArray, List.set_cons_zero, List.set_cons_succ])
    | ((with_reducible show wpList _ _ _ ({ dst := _, op := Op.alloc 29, type := _, pos := _, after := _, guard := _ } :: _) _ _); refine wpList_alloc_has h rfl 29 rfl _ zero_scr ?_; clear h; intro b5 w h hn5; try simp only [Act.put, List.setIfInBounds_toArray, List.set_cons_zero, List.set_cons_succ])
    | ((with_reducible show wpList _ _ _ ({ dst := _, op := Op.store 29 _ _, type := _, pos := _, after := _, guard := _ } :: _) _ _); refine wpList_storeAll_has (cells := r1) h rfl 29 _ _ rfl rfl rfl (Mm.upd_same _ _ _) rfl (sz0.trans sz.symm) rfl (by rw [sz]; kernel_rfl) one ?_; clear h; intro w h))
  rw [Mm.upd_upd] at h
  have x54 : b4 ≠ b5 := Mm.ne_of hn5 hb4
  have hb5 := Mm.upd_same M2 b5 (.cells r1 29)
  have hle3 := Mm.le_upd' hn5 (.cells r2 29)
  generalize hM3 : M2.upd b5 (.cells r1 29) = M3 at h hb5
  go_upto_region 3 with (first
    | ((with_reducible show wpList _ _ _ ({ dst := _, op := Op.store 27 _ _, type := _, pos := _, after := _, guard := _ } :: _) _ _); refine wpList_store1_has h rfl 27 _ _ rfl rfl rfl hb5 lt2 hv (by kernel_rfl) ?_; clear h; intro w h))
  replace h : Has σ (M3.upd b5 (.cells (r1.setIfInBounds 22 v) 29)) w := h
  rw [SE.out, ← hM3, Mm.upd_upd] at h
  clear hM3 hb5 M3 SE lt2
  have hb5 := Mm.upd_same M2 b5 (.cells r2 29)
  have hb4' : (M2.upd b5 (.cells r2 29)) b4 = some (.cells (scrRow (fun _ => 0) noP nilS) 29) := by rw [Mm.upd_ne x54]; exact hb4
  generalize M2.upd b5 (.cells r2 29) = M3 at *
  go_wp2_with (first
    | ((with_reducible show wpList _ _ _ ({ dst := _, op := Op.load 29 _, type := _, pos := _, after := _, guard := _ } :: _) _ _); refine wpList_agg_has h rfl 29 _ rfl rfl hb5 sa sz' Try.underlying29 rfl (by kernel_rfl) ?_; try simp only [Act.put, List.setIfInBounds_toArray, List.set_cons_zero, List.set_cons_succ])
    | ((with_reducible show wpList _ _ _ ({ dst := _, op := Op.store 29 _ _, type := _, pos := _, after := _, guard := _ } :: _) _ _); refine wpList_storeAll_has (cells := r2) h rfl 29 _ _ rfl rfl rfl hb4' rfl (sz0.trans sz'.symm) rfl (by rw [sz']; kernel_rfl) one' ?_; clear h; intro w h))
  exact bodyPost_ret (results_cell_row rfl _ _ _ _ _ _ _ rfl (h.at_ b4 _ (Mm.upd_same _ _ _)) Try.underlying29 rfl (by rw [sz']; kernel_rfl)) rfl ⟨rfl, h.le (Mm.le_upd (Mm.le_trans hle2 hle3) hn4 _)⟩
end Go.Proofs.Ytlgnknaffnnkkaa
