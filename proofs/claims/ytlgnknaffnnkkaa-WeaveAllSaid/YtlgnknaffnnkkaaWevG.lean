/- Weaver: programs. -/
import Derived.Test.YtlgnknaffnnkkaaWevF
namespace Go.Proofs.Ytlgnknaffnnkkaa
open Go.RowKit
set_option linter.unusedVariables false
set_option linter.unusedSimpArgs false
set_option linter.unnecessarySimpa false
set_option maxHeartbeats 1000000 in
theorem turned_has {σ w : World} {M : Mm} (h : Has σ M w) (v : Value) (P : List PCall) (hr : Rd M 7 v P.length (P.flatMap encK)) (hP : P.length ≤ 1000000) :
    Calls Try.prog 37 #[v] w fun r w' => ∃ u, r = .returned u ∧ Acc σ M w' 55 7 u P.reverse.length (P.reverse.flatMap encK) := by
  have CL := Lib.hid (clone_has h v P hr hP)
  have RV : Hid (∀ (M' : Mm) (w : World) (u : Value), Has σ M' w → M.le M' → Own M M' 55 7 u P.length (P.flatMap encK) → Calls Try.prog 46 #[u] w fun r w' => (∃ x, r = .returned x) ∧ Acc σ M w' 55 7 u P.length (P.reverse.flatMap encK)) := fun M' w u h hle ho => reverse_has h hle u P ho hP
  rw [List.length_reverse]
  generalize P.reverse = R at *
  generalize P.length = n at *
  go_enter Try.func37, Try.ntmps37
  go_wp2_with (first
    | (go_at_call 45; refine (CL.out).mono ?_; clear h; rintro r w ⟨u, rfl, M1, h, hle, hown⟩)
    | (go_at_call 46; refine (RV.out _ _ _ h hle hown).mono ?_; clear h; rintro r w ⟨⟨x, rfl⟩, M1, h, hle, hown⟩))
  go_ret
  exact ⟨_, rfl, M1, h, hle, hown⟩
set_option maxHeartbeats 1000000 in
theorem none_has {σ w : World} {M : Mm} (h : Has σ M w) (v : Value) (P : List PCall) :
    Calls Try.prog 35 #[v] w fun r w' => ∃ u, r = .returned u ∧ Acc σ M w' 55 7 u (([] : List PCall)).length ((([] : List PCall)).flatMap encK) := by
  go_enter Try.func35, Try.ntmps35
  go_wp2
  go_ret
  exact ⟨_, rfl, Acc.nil h _ _⟩
/-- Programs, those of some threads turned into others. -/
def progTo (g : List PCall → List PCall) (ts : List Nat) (P : Nat → List PCall) (t : Nat) : List PCall := if t ∈ ts then g (P t) else P t
theorem progTo_snoc (g : List PCall → List PCall) (ts : List Nat) (t : Nat) (P : Nat → List PCall) (s : Nat) : progTo g (ts ++ [t]) P s = if s = t then g (P t) else progTo g ts P s := by
  unfold progTo
  by_cases h : s = t
  · subst h; simp
  · simp [h]
set_option maxHeartbeats 2000000 in
theorem progTurned_has {σ w : World} {M0 M : Mm} (h : Has σ M w) (hle0 : M0.le M) (c : Nat → Int) (p : Nat → Value) (e : Value) (P : Nat → List PCall) (E : List PEnt) (hs0 : RdS M0 p e P E) (hP : ∀ t, t < 8 → (P t).length ≤ 1000000) (l : Int) :
    Calls Try.prog 34 #[weaV c p e l, .func (.func 37) #[] #[]] w fun r w' => Made σ M0 M w' c (progTo List.reverse (thrTo c l 8) P) E r := by
  have hs := hs0.le hle0
  have RS0 := Lib.hid hs0
  clear hs0
  have OC : Hid (∀ (M' : Mm) (w : World) (t : Nat), t < 8 → Has σ M' w → M.le M' → Calls Try.prog 37 #[p t] w fun r w' => ∃ u, r = .returned u ∧ Acc σ M' w' 55 7 u (List.reverse (P t)).length ((List.reverse (P t)).flatMap encK)) := fun M' w t ht h hle => by simpa using turned_has h (p t) (P t) ((hs.progs t ht).le hle) (hP t ht)
  have TH : Hid (∀ (M : Mm) (w : World), Has σ M w → Calls Try.prog 44 #[weaV c p e l] w fun r w' => ∃ v, r = .returned v ∧ Acc σ M w' 3 1 v (thrTo c l 8).length ((thrTo c l 8).flatMap encN)) := fun M w h => threads_has h c p e l
  have OP := hs.one
  have oe := hs.ents.one
  have TL : Hid (∀ t, t ∈ thrTo c l 8 → t < 8) := fun t ht => thrTo_lt ht
  have x0 := wea_scr c p e l
  have x1 := wea_all c p e l
  have gp := Lib.hid (fun (t : Nat) (ht : t < 8) => wea_prog c p e l ht)
  have hz := wea_size c p e l
  simp only [weaV] at TH ⊢
  generalize weaRow c p e l = row at *
  have hts := thrTo_le c l 8
  generalize thrTo c l 8 = ts at *
  have sz := scr_size c p e
  have sz0 := scr_size (fun _ => 0) noP nilS
  have one := scr_one c p e OP oe
  have SP := Lib.hid (fun (pf pf' : Nat → Value) (v : Value) (t : Nat) (ht : t < 8) => scr_set_prog c pf pf' e v ht)
  have SZ := Lib.hid (fun (pf : Nat → Value) => scr_size c pf e)
  have SA := Lib.hid (fun (pf : Nat → Value) => scr_all c pf e)
  have SO := Lib.hid (fun (pf : Nat → Value) (h : ∀ t, t < 8 → (pf t).oneCell' = true) => scr_one c pf e h oe)
  clear OP
  have HSC : Hid (∀ pf, scrV c pf e = .agg (scrRow c pf e)) := fun _ => rfl
  have RS := Lib.hid hs
  clear hs
  generalize hsr : (fun pf => scrRow c pf e) = sr
  have HSR : Hid (∀ pf, scrRow c pf e = sr pf) := fun pf => by rw [← hsr]
  clear hsr
  rw [HSR.out] at x0 sz one
  simp only [HSR.out] at SP SZ SA SO HSC
  go_enter Try.func34, Try.ntmps34
  go_upto_region 1 with (fail)
  obtain ⟨M2, hbx, hle2, hb2, hb4, hn2, hn4⟩ := h.box2 (.cells row 46) (.cells #[.int .i64 0, .int .i64 0, .int .i64 0, .int .i64 0, .int .i64 0, .int .i64 0, .int .i64 0, .int .i64 0, .int .i64 0, .int .i64 0, .int .i64 0, .int .i64 0, .int .i64 0, .int .i64 0, .slice none 0 0, .slice none 0 0, .slice none 0 0, .slice none 0 0, .slice none 0 0, .slice none 0 0, .slice none 0 0, .slice none 0 0, .slice none 0 0] 29)
  generalize (w.alloc _).alloc _ = wx at hbx ⊢
  have hne_b2_b4 : w.heap.size ≠ w.heap.size + 1 := Nat.ne_of_lt (Nat.lt_succ_self _)
  generalize w.heap.size + 1 = b4 at hb4 hn4 hne_b2_b4 ⊢
  generalize w.heap.size = b2 at hb2 hn2 hne_b2_b4 ⊢
  clear h
  try clear w
  have h := hbx
  clear hbx
  obtain ⟨w, rfl⟩ : ∃ x : World, x = wx := ⟨_, rfl⟩
  have hb4 : M2 b4 = some (.cells (scrRow (fun _ => 0) noP nilS) 29) := hb4
  go_upto_region 2 with (first
    | ((with_reducible show wpList _ _ _ ({ dst := _, op := Op.load 29 _, type := _, pos := _, after := _, guard := _ } :: _) _ _); refine wpList_agg_has h rfl 29 _ rfl rfl hb2 x0 sz Try.underlying29 rfl (by kernel_rfl) ?_; try simp only [Act.put, List.setIfInBounds_toArray, List.set_cons_zero, List.set_cons_succ])
    | ((with_reducible show wpList _ _ _ ({ dst := _, op := Op.alloc 29, type := _, pos := _, after := _, guard := _ } :: _) _ _); refine wpList_alloc_has h rfl 29 rfl _ zero_scr ?_; clear h; intro b5 w h hn5; try simp only [Act.put, List.setIfInBounds_toArray, List.set_cons_zero, List.set_cons_succ])
    | ((with_reducible show wpList _ _ _ ({ dst := _, op := Op.store 29 _ _, type := _, pos := _, after := _, guard := _ } :: _) _ _); refine wpList_storeAll_has (cells := (sr p)) h rfl 29 _ _ rfl rfl rfl (Mm.upd_same _ _ _) rfl (sz0.trans sz.symm) rfl (by rw [sz]; kernel_rfl) one ?_; clear h; intro w h))
  rw [Mm.upd_upd] at h
  have hle3 := Mm.le_upd' hn5 (.cells (sr p) 29)
  obtain ⟨M3, hM3⟩ : ∃ M3, M3 = M2.upd b5 (.cells (sr p) 29) := ⟨_, rfl⟩
  rw [← hM3] at h hle3
  have hb5 : M3 b5 = some (.cells (sr p) 29) := by rw [hM3]; exact Mm.upd_same _ _ _
  have hM23 := Lib.hid hM3
  clear hM3
  have hb2' := hle3 _ _ hb2
  have TH2 := Lib.hid (fun (w : World) (h : Has σ M3 w) => TH.out M3 w h)
  go_wp2_with (first
    | ((with_reducible show wpList _ _ _ ({ dst := _, op := Op.load 46 _, type := _, pos := _, after := _, guard := _ } :: _) _ _); refine wpList_agg_has h rfl 46 _ rfl rfl hb2' x1 hz Try.underlying46 rfl (by kernel_rfl) ?_; try simp only [Act.put, List.setIfInBounds_toArray, List.set_cons_zero, List.set_cons_succ])
    | (go_at_call 44; refine (TH2.out _ h).mono ?_; clear h; rintro r w ⟨tv, rfl, M4, h, hle4, ht⟩; obtain ⟨TA, tc, rfl⟩ := ht.form))
  have n45 : b4 ≠ b5 := Mm.ne_of hn5 hb4
  have n24 : b2 ≠ b4 := Mm.ne_cells hb2 hb4 (by decide)
  have hb43 : M3 b4 = some (.cells (scrRow (fun _ => 0) noP nilS) 29) := hle3 _ _ hb4
  have htr := ht.rd_drop2 hb5 hb43
  clear ht TH TH2 hb2'
  have hb54 := hle4 _ _ hb5
  have hb44 := hle4 _ _ hb43
  -- what is known beside the blocks b4, b5
  have leN : M.le ((M4.drop b5).drop b4) := Mm.le_drop hn4 (Mm.le_drop (Mm.none_of hle2 hn5) (Mm.le_trans hle2 (Mm.le_trans hle3 hle4)))
  have hb2N : ((M4.drop b5).drop b4) b2 = some (.cells row 46) := Mm.drop_of (Mm.drop_of (hle4 _ _ (hle3 _ _ hb2)) (Mm.ne_of hn5 hb2)) n24
  have hN4 := Mm.drop_none (M4.drop b5) b4
  have hN5 : ((M4.drop b5).drop b4) b5 = none := by rw [show ((M4.drop b5).drop b4) b5 = (M4.drop b5) b5 from if_neg (Ne.symm n45)]; exact Mm.drop_none _ _
  have hH : Has σ ((((M4.drop b5).drop b4).upd b4 (.cells (scrRow (fun _ => 0) noP nilS) 29)).upd b5 (.cells (sr p) 29)) w := Has.two (h.less fun c o hc => by
    by_cases e : c = b5
    · subst e; rw [Mm.upd_same] at hc; rw [← hc]; exact hb54
    · rw [Mm.upd_ne e] at hc; exact hc) hb44 n45
  generalize (M4.drop b5).drop b4 = N at *
  clear hb54 hb5 hb43 hb44 hle4 hle3 hM23 h M3 M4
  go_loopw [13] (fun i wr => ∃ (k : Nat) (N' : Mm) (pf : Nat → Value), k ≤ ts.length ∧ i = .int .i64 k ∧ Has σ ((N'.upd b4 (.cells (scrRow (fun _ => 0) noP nilS) 29)).upd b5 (.cells (sr pf) 29)) wr ∧ N.le N' ∧ N' b4 = none ∧ N' b5 = none ∧ ∀ N, (∀ c x, N' c = some x → (M c = none ∨ M0 c ≠ none) → N c = some x) → ∀ t, t < 8 → Rd N 7 (pf t) (progTo List.reverse (ts.take k) P t).length ((progTo List.reverse (ts.take k) P t).flatMap encK)) (fun i _ => ts.length - (intOf i).toNat)
  case atStart => exact ⟨0, N, p, by omega, rfl, hH, Mm.le_refl _, hN4, hN5, fun N' hN' t ht => by simpa [progTo] using (RS0.out.progs t ht).le (Mm.le_in (Mm.le_trans hle0 leN) hN')⟩
  case round =>
    clear hH w hN5 hN4
    obtain ⟨w, rfl⟩ : ∃ x : World, x = wr := ⟨_, rfl⟩
    obtain ⟨k, N', pf, hk, rfl, h, hle, hN4, hN5, hR⟩ := hrel
    have hN45 : (N'.upd b4 (.cells (scrRow (fun _ => 0) noP nilS) 29)) b5 = none := by rw [Mm.upd_ne (Ne.symm n45)]; exact hN5
    by_cases hlt : k < ts.length
    · obtain ⟨t, hx⟩ : ∃ x, ts[k]? = some x := ⟨_, List.getElem?_eq_getElem hlt⟩
      have ht8 := TL.out t (List.mem_of_getElem? hx)
      have D : Hid (∀ s, progTo List.reverse (ts.take (k + 1)) P s = if s = t then List.reverse (P t) else progTo List.reverse (ts.take k) P s) := fun s => by rw [take_snoc'' hx, progTo_snoc]
      obtain ⟨b1, o1, c1, cs1, t1, f1, e1, hM1, hx1⟩ := htr.elem encN_len hlt hx
      cases e1
      have hle5 := Mm.le_trans (Mm.le_upd' hN4 (.cells (scrRow (fun _ => 0) noP nilS) 29)) (Mm.le_upd' hN45 (.cells (sr pf) 29))
      have hM1' := hle5 _ _ (hle _ _ hM1)
      have hb2' := hle5 _ _ (hle _ _ hb2N)
      have hb5 := Mm.upd_same (N'.upd b4 (.cells (scrRow (fun _ => 0) noP nilS) 29)) b5 (.cells (sr pf) 29)
      have hb4' : ((N'.upd b4 (.cells (scrRow (fun _ => 0) noP nilS) 29)).upd b5 (.cells (sr pf) 29)) b4 = some (.cells (scrRow (fun _ => 0) noP nilS) 29) := by rw [Mm.upd_ne n45]; exact Mm.upd_same _ _ _
      have d0 : cs1[o1 + k]? = some (.int .i64 t) := by simpa using hx1 0 _ rfl
      have gt := gp.out t ht8
      clear hx1 hx hM1
      have lt14 : 14 + t < (sr pf).size := by rw [SZ.out]; omega
      have hleM : M.le ((N'.upd b4 (.cells (scrRow (fun _ => 0) noP nilS) 29)).upd b5 (.cells (sr pf) 29)) := Mm.le_trans leN (Mm.le_trans hle hle5)
      have HR := Lib.hid hR
      clear hR
      obtain ⟨M6, hM6⟩ : ∃ M6, M6 = (N'.upd b4 (.cells (scrRow (fun _ => 0) noP nilS) 29)).upd b5 (.cells (sr pf) 29) := ⟨_, rfl⟩
      rw [← hM6] at h hle5 hM1' hb2' hb5 hb4' hleM
      have H6 := Lib.hid hM6
      clear hM6
      have OCk := Lib.hid (fun (w : World) (h : Has σ M6 w) => OC.out M6 w t ht8 h hleM)
      generalize p t = pt at gt OCk
      go_upto_region 5 with (first
        | (with_reducible show wpList _ _ _ ({ dst := _, op := Op.load 3 _, type := _, pos := _, after := _, guard := _ } :: _) _ _; refine wpList_load1_has h rfl 3 _ rfl rfl hM1' d0 Try.underlying3 rfl ?_))
      go_wp2_with (first
        | (with_reducible show wpList _ _ _ ({ dst := _, op := Op.load 25 _, type := _, pos := _, after := _, guard := _ } :: _) _ _; refine wpList_load1_has h rfl 25 _ rfl rfl hb2' gt Try.underlying25 rfl ?_)
        | ((go_at_call 37; refine (OCk.out _ h).mono ?_; clear h; rintro r w ⟨u, rfl, M7, h, hle7, hown⟩; have hb57 := hle7 _ _ hb5; have ou := hown.one))
        | ((with_reducible show wpList _ _ _ ({ dst := _, op := Op.store 25 _ _, type := _, pos := _, after := _, guard := _ } :: _) _ _); refine wpList_store1_has h rfl 25 _ _ rfl rfl rfl hb57 lt14 ou (by kernel_rfl) ?_; clear h; intro w h))
      replace h : Has σ (M7.upd b5 (.cells ((sr pf).setIfInBounds (14 + t) u) 29)) w := h
      rw [SP.out pf (fun s => if s = t then u else pf s) u t ht8 (fun s _ => rfl)] at h
      replace h := h.two (hle7 _ _ hb4') n45
      have leN' : N'.le ((M7.drop b5).drop b4) := Mm.le_drop hN4 (Mm.le_drop hN5 (Mm.le_trans hle5 hle7))
      go_roundw
      case rel => exact ⟨k + 1, (M7.drop b5).drop b4, _, by omega, by go_num, h, Mm.le_trans hle leN', Mm.drop_none _ _, by rw [show ((M7.drop b5).drop b4) b5 = (M7.drop b5) b5 from if_neg (Ne.symm n45)]; exact Mm.drop_none _ _, fun N2 hN2 s hs => by
        rw [D.out s]
        by_cases e : s = t
        · simp only [e, if_true]
          exact hown.rd_in fun c x h0 h1 => hN2 c x (Mm.drop_in (Mm.drop_in h1 h0 hb5) h0 hb4') (.inl (Mm.none_of hleM h0))
        · simp only [if_neg e]
          exact HR.out N2 (fun c x hc hd => hN2 c x (leN' c x hc) hd) s hs⟩
      case measure => simp [intOf]; omega
    · obtain rfl : k = ts.length := by omega
      have EA : ts.take ts.length = ts := List.take_of_length_le (Nat.le_refl _)
      rw [EA] at hR
      have hb5 := Mm.upd_same (N'.upd b4 (.cells (scrRow (fun _ => 0) noP nilS) 29)) b5 (.cells (sr pf) 29)
      have hb4' : ((N'.upd b4 (.cells (scrRow (fun _ => 0) noP nilS) 29)).upd b5 (.cells (sr pf) 29)) b4 = some (.cells (scrRow (fun _ => 0) noP nilS) 29) := by rw [Mm.upd_ne n45]; exact Mm.upd_same _ _ _
      have hle5 := Mm.le_trans (Mm.le_upd' hN4 (.cells (scrRow (fun _ => 0) noP nilS) 29)) (Mm.le_upd' hN45 (.cells (sr pf) 29))
      have sz' := SZ.out pf
      have sa := SA.out pf
      have one' := SO.out pf (fun t ht => (hR N' (fun _ _ h _ => h) t ht).one)
      have HR := Lib.hid hR
      clear hR EA hlt
      go_wp2_with (first
        | ((with_reducible show wpList _ _ _ ({ dst := _, op := Op.load 29 _, type := _, pos := _, after := _, guard := _ } :: _) _ _); refine wpList_agg_has h rfl 29 _ rfl rfl hb5 sa sz' Try.underlying29 rfl (by kernel_rfl) ?_; try simp only [Act.put, List.setIfInBounds_toArray, List.set_cons_zero, List.set_cons_succ])
        | ((with_reducible show wpList _ _ _ ({ dst := _, op := Op.store 29 _ _, type := _, pos := _, after := _, guard := _ } :: _) _ _); refine wpList_storeAll_has (cells := (sr pf)) h rfl 29 _ _ rfl rfl rfl hb4' rfl (sz0.trans sz'.symm) rfl (by rw [sz']; kernel_rfl) one' ?_; clear h; intro w h))
      have hleN : N'.le (((N'.upd b4 (.cells (scrRow (fun _ => 0) noP nilS) 29)).upd b5 (.cells (sr pf) 29)).upd b4 (.cells (sr pf) 29)) := Mm.le_upd hle5 hN4 _
      have hleF : M.le (((N'.upd b4 (.cells (scrRow (fun _ => 0) noP nilS) 29)).upd b5 (.cells (sr pf) 29)).upd b4 (.cells (sr pf) 29)) := Mm.le_trans leN (Mm.le_trans hle hleN)
      refine bodyPost_ret (results_cell_row rfl _ _ _ _ _ _ _ rfl (h.at_ b4 _ (Mm.upd_same _ _ _)) Try.underlying29 rfl (by rw [sz']; kernel_rfl)) rfl ⟨pf, e, _, by rw [HSC.out], h, hleF, fun N2 hN2 => ⟨fun t ht => HR.out N2 (fun c x hc hd => hN2 c x (hleN c x hc) hd) t ht, RS0.out.ents.le (Mm.le_in (Mm.le_trans hle0 hleF) hN2)⟩⟩
set_option maxHeartbeats 2000000 in
theorem progNone_has {σ w : World} {M0 M : Mm} (h : Has σ M w) (hle0 : M0.le M) (c : Nat → Int) (p : Nat → Value) (e : Value) (P : Nat → List PCall) (E : List PEnt) (hs0 : RdS M0 p e P E) (hP : ∀ t, t < 8 → (P t).length ≤ 1000000) (l : Int) :
    Calls Try.prog 34 #[weaV c p e l, .func (.func 35) #[] #[]] w fun r w' => Made σ M0 M w' c (progTo (fun (_ : List PCall) => ([] : List PCall)) (thrTo c l 8) P) E r := by
  have hs := hs0.le hle0
  have RS0 := Lib.hid hs0
  clear hs0
  have OC : Hid (∀ (M' : Mm) (w : World) (t : Nat), t < 8 → Has σ M' w → M.le M' → Calls Try.prog 35 #[p t] w fun r w' => ∃ u, r = .returned u ∧ Acc σ M' w' 55 7 u ((fun (_ : List PCall) => ([] : List PCall)) (P t)).length (((fun (_ : List PCall) => ([] : List PCall)) (P t)).flatMap encK)) := fun M' w t ht h hle => none_has h (p t) (P t)
  have TH : Hid (∀ (M : Mm) (w : World), Has σ M w → Calls Try.prog 44 #[weaV c p e l] w fun r w' => ∃ v, r = .returned v ∧ Acc σ M w' 3 1 v (thrTo c l 8).length ((thrTo c l 8).flatMap encN)) := fun M w h => threads_has h c p e l
  have OP := hs.one
  have oe := hs.ents.one
  have TL : Hid (∀ t, t ∈ thrTo c l 8 → t < 8) := fun t ht => thrTo_lt ht
  have x0 := wea_scr c p e l
  have x1 := wea_all c p e l
  have gp := Lib.hid (fun (t : Nat) (ht : t < 8) => wea_prog c p e l ht)
  have hz := wea_size c p e l
  simp only [weaV] at TH ⊢
  generalize weaRow c p e l = row at *
  have hts := thrTo_le c l 8
  generalize thrTo c l 8 = ts at *
  have sz := scr_size c p e
  have sz0 := scr_size (fun _ => 0) noP nilS
  have one := scr_one c p e OP oe
  have SP := Lib.hid (fun (pf pf' : Nat → Value) (v : Value) (t : Nat) (ht : t < 8) => scr_set_prog c pf pf' e v ht)
  have SZ := Lib.hid (fun (pf : Nat → Value) => scr_size c pf e)
  have SA := Lib.hid (fun (pf : Nat → Value) => scr_all c pf e)
  have SO := Lib.hid (fun (pf : Nat → Value) (h : ∀ t, t < 8 → (pf t).oneCell' = true) => scr_one c pf e h oe)
  clear OP
  have HSC : Hid (∀ pf, scrV c pf e = .agg (scrRow c pf e)) := fun _ => rfl
  have RS := Lib.hid hs
  clear hs
  generalize hsr : (fun pf => scrRow c pf e) = sr
  have HSR : Hid (∀ pf, scrRow c pf e = sr pf) := fun pf => by rw [← hsr]
  clear hsr
  rw [HSR.out] at x0 sz one
  simp only [HSR.out] at SP SZ SA SO HSC
  go_enter Try.func34, Try.ntmps34
  go_upto_region 1 with (fail)
  obtain ⟨M2, hbx, hle2, hb2, hb4, hn2, hn4⟩ := h.box2 (.cells row 46) (.cells #[.int .i64 0, .int .i64 0, .int .i64 0, .int .i64 0, .int .i64 0, .int .i64 0, .int .i64 0, .int .i64 0, .int .i64 0, .int .i64 0, .int .i64 0, .int .i64 0, .int .i64 0, .int .i64 0, .slice none 0 0, .slice none 0 0, .slice none 0 0, .slice none 0 0, .slice none 0 0, .slice none 0 0, .slice none 0 0, .slice none 0 0, .slice none 0 0] 29)
  generalize (w.alloc _).alloc _ = wx at hbx ⊢
  have hne_b2_b4 : w.heap.size ≠ w.heap.size + 1 := Nat.ne_of_lt (Nat.lt_succ_self _)
  generalize w.heap.size + 1 = b4 at hb4 hn4 hne_b2_b4 ⊢
  generalize w.heap.size = b2 at hb2 hn2 hne_b2_b4 ⊢
  clear h
  try clear w
  have h := hbx
  clear hbx
  obtain ⟨w, rfl⟩ : ∃ x : World, x = wx := ⟨_, rfl⟩
  have hb4 : M2 b4 = some (.cells (scrRow (fun _ => 0) noP nilS) 29) := hb4
  go_upto_region 2 with (first
    | ((with_reducible show wpList _ _ _ ({ dst := _, op := Op.load 29 _, type := _, pos := _, after := _, guard := _ } :: _) _ _); refine wpList_agg_has h rfl 29 _ rfl rfl hb2 x0 sz Try.underlying29 rfl (by kernel_rfl) ?_; try simp only [Act.put, List.setIfInBounds_toArray, List.set_cons_zero, List.set_cons_succ])
    | ((with_reducible show wpList _ _ _ ({ dst := _, op := Op.alloc 29, type := _, pos := _, after := _, guard := _ } :: _) _ _); refine wpList_alloc_has h rfl 29 rfl _ zero_scr ?_; clear h; intro b5 w h hn5; try simp only [Act.put, List.setIfInBounds_toArray, List.set_cons_zero, List.set_cons_succ])
    | ((with_reducible show wpList _ _ _ ({ dst := _, op := Op.store 29 _ _, type := _, pos := _, after := _, guard := _ } :: _) _ _); refine wpList_storeAll_has (cells := (sr p)) h rfl 29 _ _ rfl rfl rfl (Mm.upd_same _ _ _) rfl (sz0.trans sz.symm) rfl (by rw [sz]; kernel_rfl) one ?_; clear h; intro w h))
  rw [Mm.upd_upd] at h
  have hle3 := Mm.le_upd' hn5 (.cells (sr p) 29)
  obtain ⟨M3, hM3⟩ : ∃ M3, M3 = M2.upd b5 (.cells (sr p) 29) := ⟨_, rfl⟩
  rw [← hM3] at h hle3
  have hb5 : M3 b5 = some (.cells (sr p) 29) := by rw [hM3]; exact Mm.upd_same _ _ _
  have hM23 := Lib.hid hM3
  clear hM3
  have hb2' := hle3 _ _ hb2
  have TH2 := Lib.hid (fun (w : World) (h : Has σ M3 w) => TH.out M3 w h)
  go_wp2_with (first
    | ((with_reducible show wpList _ _ _ ({ dst := _, op := Op.load 46 _, type := _, pos := _, after := _, guard := _ } :: _) _ _); refine wpList_agg_has h rfl 46 _ rfl rfl hb2' x1 hz Try.underlying46 rfl (by kernel_rfl) ?_; try simp only [Act.put, List.setIfInBounds_toArray, List.set_cons_zero, List.set_cons_succ])
    | (go_at_call 44; refine (TH2.out _ h).mono ?_; clear h; rintro r w ⟨tv, rfl, M4, h, hle4, ht⟩; obtain ⟨TA, tc, rfl⟩ := ht.form))
  have n45 : b4 ≠ b5 := Mm.ne_of hn5 hb4
  have n24 : b2 ≠ b4 := Mm.ne_cells hb2 hb4 (by decide)
  have hb43 : M3 b4 = some (.cells (scrRow (fun _ => 0) noP nilS) 29) := hle3 _ _ hb4
  have htr := ht.rd_drop2 hb5 hb43
  clear ht TH TH2 hb2'
  have hb54 := hle4 _ _ hb5
  have hb44 := hle4 _ _ hb43
  -- what is known beside the blocks b4, b5
  have leN : M.le ((M4.drop b5).drop b4) := Mm.le_drop hn4 (Mm.le_drop (Mm.none_of hle2 hn5) (Mm.le_trans hle2 (Mm.le_trans hle3 hle4)))
  have hb2N : ((M4.drop b5).drop b4) b2 = some (.cells row 46) := Mm.drop_of (Mm.drop_of (hle4 _ _ (hle3 _ _ hb2)) (Mm.ne_of hn5 hb2)) n24
  have hN4 := Mm.drop_none (M4.drop b5) b4
  have hN5 : ((M4.drop b5).drop b4) b5 = none := by rw [show ((M4.drop b5).drop b4) b5 = (M4.drop b5) b5 from if_neg (Ne.symm n45)]; exact Mm.drop_none _ _
  have hH : Has σ ((((M4.drop b5).drop b4).upd b4 (.cells (scrRow (fun _ => 0) noP nilS) 29)).upd b5 (.cells (sr p) 29)) w := Has.two (h.less fun c o hc => by
    by_cases e : c = b5
    · subst e; rw [Mm.upd_same] at hc; rw [← hc]; exact hb54
    · rw [Mm.upd_ne e] at hc; exact hc) hb44 n45
  generalize (M4.drop b5).drop b4 = N at *
  clear hb54 hb5 hb43 hb44 hle4 hle3 hM23 h M3 M4
  go_loopw [13] (fun i wr => ∃ (k : Nat) (N' : Mm) (pf : Nat → Value), k ≤ ts.length ∧ i = .int .i64 k ∧ Has σ ((N'.upd b4 (.cells (scrRow (fun _ => 0) noP nilS) 29)).upd b5 (.cells (sr pf) 29)) wr ∧ N.le N' ∧ N' b4 = none ∧ N' b5 = none ∧ ∀ N, (∀ c x, N' c = some x → (M c = none ∨ M0 c ≠ none) → N c = some x) → ∀ t, t < 8 → Rd N 7 (pf t) (progTo (fun (_ : List PCall) => ([] : List PCall)) (ts.take k) P t).length ((progTo (fun (_ : List PCall) => ([] : List PCall)) (ts.take k) P t).flatMap encK)) (fun i _ => ts.length - (intOf i).toNat)
  case atStart => exact ⟨0, N, p, by omega, rfl, hH, Mm.le_refl _, hN4, hN5, fun N' hN' t ht => by simpa [progTo] using (RS0.out.progs t ht).le (Mm.le_in (Mm.le_trans hle0 leN) hN')⟩
  case round =>
    clear hH w hN5 hN4
    obtain ⟨w, rfl⟩ : ∃ x : World, x = wr := ⟨_, rfl⟩
    obtain ⟨k, N', pf, hk, rfl, h, hle, hN4, hN5, hR⟩ := hrel
    have hN45 : (N'.upd b4 (.cells (scrRow (fun _ => 0) noP nilS) 29)) b5 = none := by rw [Mm.upd_ne (Ne.symm n45)]; exact hN5
    by_cases hlt : k < ts.length
    · obtain ⟨t, hx⟩ : ∃ x, ts[k]? = some x := ⟨_, List.getElem?_eq_getElem hlt⟩
      have ht8 := TL.out t (List.mem_of_getElem? hx)
      have D : Hid (∀ s, progTo (fun (_ : List PCall) => ([] : List PCall)) (ts.take (k + 1)) P s = if s = t then (fun (_ : List PCall) => ([] : List PCall)) (P t) else progTo (fun (_ : List PCall) => ([] : List PCall)) (ts.take k) P s) := fun s => by rw [take_snoc'' hx, progTo_snoc]
      obtain ⟨b1, o1, c1, cs1, t1, f1, e1, hM1, hx1⟩ := htr.elem encN_len hlt hx
      cases e1
      have hle5 := Mm.le_trans (Mm.le_upd' hN4 (.cells (scrRow (fun _ => 0) noP nilS) 29)) (Mm.le_upd' hN45 (.cells (sr pf) 29))
      have hM1' := hle5 _ _ (hle _ _ hM1)
      have hb2' := hle5 _ _ (hle _ _ hb2N)
      have hb5 := Mm.upd_same (N'.upd b4 (.cells (scrRow (fun _ => 0) noP nilS) 29)) b5 (.cells (sr pf) 29)
      have hb4' : ((N'.upd b4 (.cells (scrRow (fun _ => 0) noP nilS) 29)).upd b5 (.cells (sr pf) 29)) b4 = some (.cells (scrRow (fun _ => 0) noP nilS) 29) := by rw [Mm.upd_ne n45]; exact Mm.upd_same _ _ _
      have d0 : cs1[o1 + k]? = some (.int .i64 t) := by simpa using hx1 0 _ rfl
      have gt := gp.out t ht8
      clear hx1 hx hM1
      have lt14 : 14 + t < (sr pf).size := by rw [SZ.out]; omega
      have hleM : M.le ((N'.upd b4 (.cells (scrRow (fun _ => 0) noP nilS) 29)).upd b5 (.cells (sr pf) 29)) := Mm.le_trans leN (Mm.le_trans hle hle5)
      have HR := Lib.hid hR
      clear hR
      obtain ⟨M6, hM6⟩ : ∃ M6, M6 = (N'.upd b4 (.cells (scrRow (fun _ => 0) noP nilS) 29)).upd b5 (.cells (sr pf) 29) := ⟨_, rfl⟩
      rw [← hM6] at h hle5 hM1' hb2' hb5 hb4' hleM
      have H6 := Lib.hid hM6
      clear hM6
      have OCk := Lib.hid (fun (w : World) (h : Has σ M6 w) => OC.out M6 w t ht8 h hleM)
      generalize p t = pt at gt OCk
      go_upto_region 5 with (first
        | (with_reducible show wpList _ _ _ ({ dst := _, op := Op.load 3 _, type := _, pos := _, after := _, guard := _ } :: _) _ _; refine wpList_load1_has h rfl 3 _ rfl rfl hM1' d0 Try.underlying3 rfl ?_))
      go_wp2_with (first
        | (with_reducible show wpList _ _ _ ({ dst := _, op := Op.load 25 _, type := _, pos := _, after := _, guard := _ } :: _) _ _; refine wpList_load1_has h rfl 25 _ rfl rfl hb2' gt Try.underlying25 rfl ?_)
        | ((go_at_call 35; refine (OCk.out _ h).mono ?_; clear h; rintro r w ⟨u, rfl, M7, h, hle7, hown⟩; have hb57 := hle7 _ _ hb5; have ou := hown.one))
        | ((with_reducible show wpList _ _ _ ({ dst := _, op := Op.store 25 _ _, type := _, pos := _, after := _, guard := _ } :: _) _ _); refine wpList_store1_has h rfl 25 _ _ rfl rfl rfl hb57 lt14 ou (by kernel_rfl) ?_; clear h; intro w h))
      replace h : Has σ (M7.upd b5 (.cells ((sr pf).setIfInBounds (14 + t) u) 29)) w := h
      rw [SP.out pf (fun s => if s = t then u else pf s) u t ht8 (fun s _ => rfl)] at h
      replace h := h.two (hle7 _ _ hb4') n45
      have leN' : N'.le ((M7.drop b5).drop b4) := Mm.le_drop hN4 (Mm.le_drop hN5 (Mm.le_trans hle5 hle7))
      go_roundw
      case rel => exact ⟨k + 1, (M7.drop b5).drop b4, _, by omega, by go_num, h, Mm.le_trans hle leN', Mm.drop_none _ _, by rw [show ((M7.drop b5).drop b4) b5 = (M7.drop b5) b5 from if_neg (Ne.symm n45)]; exact Mm.drop_none _ _, fun N2 hN2 s hs => by
        rw [D.out s]
        by_cases e : s = t
        · simp only [e, if_true]
          exact hown.rd_in fun c x h0 h1 => hN2 c x (Mm.drop_in (Mm.drop_in h1 h0 hb5) h0 hb4') (.inl (Mm.none_of hleM h0))
        · simp only [if_neg e]
          exact HR.out N2 (fun c x hc hd => hN2 c x (leN' c x hc) hd) s hs⟩
      case measure => simp [intOf]; omega
    · obtain rfl : k = ts.length := by omega
      have EA : ts.take ts.length = ts := List.take_of_length_le (Nat.le_refl _)
      rw [EA] at hR
      have hb5 := Mm.upd_same (N'.upd b4 (.cells (scrRow (fun _ => 0) noP nilS) 29)) b5 (.cells (sr pf) 29)
      have hb4' : ((N'.upd b4 (.cells (scrRow (fun _ => 0) noP nilS) 29)).upd b5 (.cells (sr pf) 29)) b4 = some (.cells (scrRow (fun _ => 0) noP nilS) 29) := by rw [Mm.upd_ne n45]; exact Mm.upd_same _ _ _
      have hle5 := Mm.le_trans (Mm.le_upd' hN4 (.cells (scrRow (fun _ => 0) noP nilS) 29)) (Mm.le_upd' hN45 (.cells (sr pf) 29))
      have sz' := SZ.out pf
      have sa := SA.out pf
      have one' := SO.out pf (fun t ht => (hR N' (fun _ _ h _ => h) t ht).one)
      have HR := Lib.hid hR
      clear hR EA hlt
      go_wp2_with (first
        | ((with_reducible show wpList _ _ _ ({ dst := _, op := Op.load 29 _, type := _, pos := _, after := _, guard := _ } :: _) _ _); refine wpList_agg_has h rfl 29 _ rfl rfl hb5 sa sz' Try.underlying29 rfl (by kernel_rfl) ?_; try simp only [Act.put, List.setIfInBounds_toArray, List.set_cons_zero, List.set_cons_succ])
        | ((with_reducible show wpList _ _ _ ({ dst := _, op := Op.store 29 _ _, type := _, pos := _, after := _, guard := _ } :: _) _ _); refine wpList_storeAll_has (cells := (sr pf)) h rfl 29 _ _ rfl rfl rfl hb4' rfl (sz0.trans sz'.symm) rfl (by rw [sz']; kernel_rfl) one' ?_; clear h; intro w h))
      have hleN : N'.le (((N'.upd b4 (.cells (scrRow (fun _ => 0) noP nilS) 29)).upd b5 (.cells (sr pf) 29)).upd b4 (.cells (sr pf) 29)) := Mm.le_upd hle5 hN4 _
      have hleF : M.le (((N'.upd b4 (.cells (scrRow (fun _ => 0) noP nilS) 29)).upd b5 (.cells (sr pf) 29)).upd b4 (.cells (sr pf) 29)) := Mm.le_trans leN (Mm.le_trans hle hleN)
      refine bodyPost_ret (results_cell_row rfl _ _ _ _ _ _ _ rfl (h.at_ b4 _ (Mm.upd_same _ _ _)) Try.underlying29 rfl (by rw [sz']; kernel_rfl)) rfl ⟨pf, e, _, by rw [HSC.out], h, hleF, fun N2 hN2 => ⟨fun t ht => HR.out N2 (fun c x hc hd => hN2 c x (hleN c x hc) hd) t ht, RS0.out.ents.le (Mm.le_in (Mm.le_trans hle0 hleF) hN2)⟩⟩
end Go.Proofs.Ytlgnknaffnnkkaa
