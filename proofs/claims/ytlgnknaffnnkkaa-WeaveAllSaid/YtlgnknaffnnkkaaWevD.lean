/- Weaver: first. -/
import Derived.Test.YtlgnknaffnnkkaaHeld
import Derived.Test.YtlgnknaffnnkkaaWevC
namespace Go.Proofs.Ytlgnknaffnnkkaa
open Go.RowKit
set_option linter.unusedVariables false
set_option linter.unusedSimpArgs false
set_option linter.unnecessarySimpa false
def frE (what : Int) (ts : List Nat) : List PEnt := ts.map fun (t : Nat) => (((t : Nat) : Int), what)
theorem frE_snoc (what : Int) (ts : List Nat) (t : Nat) : frE what (ts ++ [t]) = frE what ts ++ [((t : Int), what)] := by simp [frE]
set_option maxHeartbeats 2000000 in
theorem first_has {σ w : World} {M0 M : Mm} (h : Has σ M w) (hle0 : M0.le M) (c : Nat → Int) (p : Nat → Value) (e : Value) (P : Nat → List PCall) (E : List PEnt) (hs0 : RdS M0 p e P E) (hE : E.length ≤ 1000000) (l what : Int) :
    Calls Try.prog 31 #[weaV c p e l, .int .i64 what] w fun r w' => Made σ M0 M w' c P (frE what (thrTo c l 8) ++ E) r := by
  have hs := hs0.le hle0
  have RP0 : Hid (∀ t, t < 8 → Rd M0 7 (p t) (P t).length ((P t).flatMap encK)) := hs0.progs
  clear hs0
  have EN : Hid (∀ (M : Mm) (w : World) (v : Value), Has σ M w → v.oneCell' = true → Calls Try.prog 27 #[weaV c p e l, v] w fun r w' => r = .returned (scrV c p v) ∧ Has σ M w') := fun M w v h hv => entries_has h c p e l v hs.one hs.ents.one hv
  have TH : Hid (∀ (M : Mm) (w : World), Has σ M w → Calls Try.prog 44 #[weaV c p e l] w fun r w' => ∃ v, r = .returned v ∧ Acc σ M w' 3 1 v (thrTo c l 8).length ((thrTo c l 8).flatMap encN)) := fun M w h => threads_has h c p e l
  have RP : Hid (∀ t, t < 8 → Rd M 7 (p t) (P t).length ((P t).flatMap encK)) := hs.progs
  have OP := Lib.hid hs.one
  have he := hs.ents
  clear hs
  obtain ⟨A, cap, rfl⟩ := he.form
  obtain ⟨n, hl⟩ : ∃ n, E.length = n := ⟨_, rfl⟩
  rw [hl] at he hE EN TH ⊢
  have HL := Lib.hid hl
  clear hl
  have x1 := wea_all c p (.slice A n cap) l
  have g1 := wea_ents c p (.slice A n cap) l
  have hz := wea_size c p (.slice A n cap) l
  simp only [weaV] at EN TH ⊢
  generalize weaRow c p (.slice A n cap) l = row at *
  have hts := thrTo_le c l 8
  generalize thrTo c l 8 = ts at *
  go_enter Try.func31, Try.ntmps31
  go_upto_region 1 with (fail)
  obtain ⟨M2, hbx, hle2, hb2, hb4, hn2, hn4⟩ := h.box2 (.cells row 46) (.cells #[.int .i64 0, .int .i64 0, .int .i64 0, .int .i64 0, .int .i64 0, .int .i64 0, .int .i64 0, .int .i64 0, .int .i64 0, .int .i64 0, .int .i64 0, .int .i64 0, .int .i64 0, .int .i64 0, .slice none 0 0, .slice none 0 0, .slice none 0 0, .slice none 0 0, .slice none 0 0, .slice none 0 0, .slice none 0 0, .slice none 0 0, .slice none 0 0] 29)
  generalize (w.alloc _).alloc _ = wx at hbx ⊢
  have hne_b2_b4 : w.heap.size ≠ w.heap.size + 1 := Nat.ne_of_lt (Nat.lt_succ_self _)
  generalize w.heap.size + 1 = b4 at hb4 hn4 hne_b2_b4 ⊢
  generalize w.heap.size = b2 at hb2 hn2 hne_b2_b4 ⊢
  clear h
  try clear w
  have h := hbx
  clear hbx
  obtain ⟨w, rfl⟩ : ∃ x : World, x = wx := ⟨_, rfl⟩
  have hb4 : M2 b4 = some (.cells (scrRow (fun _ => 0) noP nilS) 29) := hb4
  replace he := he.le hle2
  have TH2 := Lib.hid (fun (w : World) (h : Has σ M2 w) => TH.out M2 w h)
  go_wp2_with (first
    | ((with_reducible show wpList _ _ _ ({ dst := _, op := Op.load 46 _, type := _, pos := _, after := _, guard := _ } :: _) _ _); refine wpList_agg_has h rfl 46 _ rfl rfl hb2 x1 hz Try.underlying46 rfl (by kernel_rfl) ?_; try simp only [Act.put, List.setIfInBounds_toArray, List.set_cons_zero, List.set_cons_succ])
    | (go_at_call 44; refine (TH2.out _ h).mono ?_; clear h; rintro r w ⟨tv, rfl, M3, h, hle3, ht⟩; obtain ⟨TA, tc, rfl⟩ := ht.form))
  replace hb2 := hle3 _ _ hb2
  replace hb4 := hle3 _ _ hb4
  replace he := he.le hle3
  have htr := ht.rd
  clear ht TH TH2
  go_loopw [5, 11] (fun v i wr => ∃ k : Nat, k ≤ ts.length ∧ i = .int .i64 k ∧ Acc σ M3 wr 43 2 v k ((frE what (ts.take k)).flatMap encE)) (fun _ i _ => ts.length - (intOf i).toNat)
  case atStart => exact ⟨0, by omega, rfl, by simpa [frE] using Acc.nil h _ _⟩
  case round =>
    clear h w
    obtain ⟨w, rfl⟩ : ∃ x : World, x = wr := ⟨_, rfl⟩
    obtain ⟨k, hk, rfl, M', h, hle, hown⟩ := hrel
    obtain ⟨v, hv, hown⟩ : ∃ v, v = _ ∧ Own M3 M' 43 2 v _ _ := ⟨_, rfl, hown⟩
    subst hv
    by_cases hlt : k < ts.length
    · obtain ⟨t, hx⟩ : ∃ x, ts[k]? = some x := ⟨_, List.getElem?_eq_getElem hlt⟩
      have D : Hid (frE what (ts.take (k + 1)) = frE what (ts.take k) ++ [((t : Int), what)]) := by show _ = _; rw [take_snoc'' hx, frE_snoc]
      obtain ⟨b1, o1, c1, cs1, t1, f1, e1, hM1, hx1⟩ := htr.elem encN_len hlt hx
      cases e1
      have hM1' := hle _ _ hM1
      have d0 : cs1[o1 + k]? = some (.int .i64 t) := by simpa using hx1 0 _ rfl
      clear hx1 hx hM1
      go_wp2_with (first
        | (with_reducible show wpList _ _ _ ({ dst := _, op := Op.load 3 _, type := _, pos := _, after := _, guard := _ } :: _) _ _; refine wpList_load1_has h rfl 3 _ rfl rfl hM1' d0 Try.underlying3 rfl ?_)
        | (at_builtin; refine wpList_append_lit h hle rfl _ _ _ rfl rfl Try.underlying27 info_ent rfl (by omega) rfl hown rfl rfl rfl (by omega) (by omega) ?_; clear h hle hown; intro v w hacc))
      go_roundw
      case rel => exact ⟨k + 1, by omega, by go_num, by rw [D.out, List.flatMap_append]; simpa [encE] using hacc⟩
      case measure => simp [intOf]; omega
    · obtain rfl : k = ts.length := by omega
      have EA : ts.take ts.length = ts := List.take_of_length_le (Nat.le_refl _)
      rw [EA] at hown
      have hb2' := hle _ _ hb2
      have he' := he.le hle
      have oe : ∀ y ∈ E.flatMap encE, y.oneCell' = true := oneCell_flat encE_one E
      have n24 : b2 ≠ b4 := Mm.ne_cells hb2 hb4 (by decide)
      have hbS := Mm.drop_of hb2 n24
      have lS := Mm.le_trans (Mm.drop_le M3 b4) hle
      have sz0 := scr_size (fun _ => 0) noP nilS
      have hl8 : (frE what ts).length = ts.length := by simp [frE]
      go_upto_region 7 with (fail)
      refine wp_region_held_drew (S := Has σ (M3.drop b4)) (by kernel_rfl) (h.drew.le lS) (fun hHeld => ?_)
      refine wpAnyH_take (i := 0) (v := _) rfl (by kernel_rfl) (by kernel_rfl) (by kernel_rfl) (fun _ _ _ h => h) (yields_agg rfl 46 _ rfl rfl hbS x1 hz Try.underlying46 rfl (by kernel_rfl)) hHeld ?_
      try simp only [Act.put, List.setIfInBounds_toArray, List.set_cons_zero, List.set_cons_succ]
      refine wpAnyH_take (i := 1) (v := ?_) rfl (by kernel_rfl) (by kernel_rfl) (by kernel_rfl) (fun _ _ _ h => h) (Or.inl ⟨by rfl, ?_⟩) hHeld ?_
      rotate_left
      · (intro wz _; go_simp; try with_reducible rfl)
      try simp only [Act.put, List.setIfInBounds_toArray, List.set_cons_zero, List.set_cons_succ]
      refine wpAnyH_take (i := 2) (v := ?_) rfl (by kernel_rfl) (by kernel_rfl) (by kernel_rfl) (fun _ _ _ h => h) (Or.inl ⟨by rfl, ?_⟩) hHeld ?_
      rotate_left
      · (intro wz _; go_simp; try with_reducible rfl)
      try simp only [Act.put, List.setIfInBounds_toArray, List.set_cons_zero, List.set_cons_succ]
      refine wpAnyH_take (i := 3) (v := ?_) rfl (by kernel_rfl) (by kernel_rfl) (by kernel_rfl) (fun _ _ _ h => h) (Or.inl ⟨by rfl, ?_⟩) hHeld ?_
      rotate_left
      · (intro wz _; go_simp; try with_reducible rfl)
      try simp only [Act.put, List.setIfInBounds_toArray, List.set_cons_zero, List.set_cons_succ]
      refine wpAnyH_take (i := 4) (v := _) rfl (by kernel_rfl) (by kernel_rfl) (by kernel_rfl) (fun _ _ _ h => h) (yields_load1 rfl 27 _ rfl rfl hbS g1 Try.underlying27 rfl) hHeld ?_
      try simp only [Act.put, List.setIfInBounds_toArray, List.set_cons_zero, List.set_cons_succ]
      refine wpAnyH_ready (rs := [5]) (by kernel_rfl) (by simp) ?_
      refine AllReadyH.cons rfl (fun K hK => ?_) AllReadyH.nil
      (refine step_append_rd h.drew hle rfl _ _ _ rfl Try.underlying27 info_ent rfl (by omega) rfl hown rfl he' oe (by omega) (by omega) ?_; clear h lS; intro v2 w hacc; obtain ⟨M5, h, hle5, hown5⟩ := hacc)
      refine hK.out _ _ (h.le (Mm.le_trans (Mm.drop_le M3 b4) hle5)) (fun hHeld => ?_)
      clear hK K
      try simp only [Act.put, List.setIfInBounds_toArray, List.set_cons_zero, List.set_cons_succ]
      have ov := hown5.one
      have sz' := scr_size c p v2
      have one' := scr_one c p v2 OP.out ov
      have EV := Lib.hid (fun (w : World) (h : Has σ M5 w) => EN.out M5 w v2 h ov)
      simp only [scrV] at EV
      have SV : Hid (scrV c p v2 = .agg (scrRow c p v2)) := rfl
      generalize scrRow c p v2 = r2 at EV sz' one' SV
      have hb5' := hle5 _ _ hb4
      refine wpAnyH_ready (rs := [6]) (by kernel_rfl) (by simp) ?_
      refine AllReadyH.cons rfl (fun K hK => ?_) AllReadyH.nil
      (go_simp; go_wp2_with (go_at_call 27; refine (EV.out _ h).mono ?_; clear h; rintro e w ⟨rfl, h⟩))
      refine hK.out _ _ (h.le (Mm.le_trans (Mm.drop_le M3 b4) hle5)) (fun hHeld => ?_)
      clear hK K
      try simp only [Act.put, List.setIfInBounds_toArray, List.set_cons_zero, List.set_cons_succ]
      refine wpAnyH_ready (rs := [7]) (by kernel_rfl) (by simp) ?_
      refine AllReadyH.cons rfl (fun K hK => ?_) AllReadyH.nil
      (refine step_storeAll (cells := r2) h rfl 29 _ _ rfl rfl rfl hb5' rfl (sz0.trans sz'.symm) (by rw [sz']; kernel_rfl) one' ?_; clear h; intro w h)
      refine hK.out _ _ (h.le (Mm.drop_upd (Mm.le_trans (Mm.drop_le M3 b4) hle5) _)) (fun hHeld => ?_)
      clear hK K
      try simp only [Act.put, List.setIfInBounds_toArray, List.set_cons_zero, List.set_cons_succ]
      refine wpAnyH_done (by kernel_rfl) ?_ _
      go_wp2
      have hleF : M.le (M5.upd b4 (.cells r2 29)) := Mm.le_upd (Mm.le_trans hle2 (Mm.le_trans hle3 hle5)) hn4 _
      refine bodyPost_ret (results_cell_row rfl _ _ _ _ _ _ _ rfl (h.at_ b4 _ (Mm.upd_same _ _ _)) Try.underlying29 rfl (by rw [sz']; kernel_rfl)) rfl ⟨p, v2, _, by rw [SV.out], h, hleF, fun N hN => ⟨fun t ht => (RP0.out t ht).le (Mm.le_in (Mm.le_trans hle0 hleF) hN), ?_⟩⟩
      have := (hown5.upd_at hb4 (.cells r2 29)).rd_in (N := N) fun c x h0 h1 => hN c x h1 (.inl (Mm.none_of (Mm.le_trans hle2 hle3) h0))
      rw [List.flatMap_append, List.length_append, hl8, HL.out]
      exact this
end Go.Proofs.Ytlgnknaffnnkkaa
