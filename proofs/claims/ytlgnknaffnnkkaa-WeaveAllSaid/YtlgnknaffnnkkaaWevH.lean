/- purge.To. -/
import Derived.Test.YtlgnknaffnnkkaaWevG
namespace Go.Proofs.Ytlgnknaffnnkkaa
open Go.RowKit
set_option linter.unusedVariables false
set_option linter.unusedSimpArgs false
set_option linter.unnecessarySimpa false
set_option maxHeartbeats 1000000 in
theorem stays_has {σ w : World} {M : Mm} (h : Has σ M w) (c : Nat → Int) (p : Nat → Value) (e : Value) (t l : Int) {bs bl : Nat} (hbs : M bs = some (.cells (scrRow c p e) 29)) (hbl : M bl = some (.cells #[.int .i64 l] 3)) :
    Calls Try.prog 41 #[.int .i64 t, .pointer (some ⟨bs, 0, none⟩), .pointer (some ⟨bl, 0, none⟩)] w fun r w' => r = .returned (.bool (!aboveB c t l)) ∧ Has σ M w' := by
  have AB := Lib.hid (fun (w : World) (h : Has σ M w) => purgeAbove_has h c p e t l)
  have x1 := scr_all c p e
  have hz := scr_size c p e
  have dl : (#[.int .i64 l] : Array Value)[0]? = some (.int .i64 l) := rfl
  simp only [scrV] at AB
  generalize scrRow c p e = row at *
  generalize aboveB c t l = b at *
  go_enter Try.func41, Try.ntmps41
  go_wp2_with (first
    | ((with_reducible show wpList _ _ _ ({ dst := _, op := Op.load 29 _, type := _, pos := _, after := _, guard := _ } :: _) _ _); refine wpList_agg_has h rfl 29 _ rfl rfl hbs x1 hz Try.underlying29 rfl (by kernel_rfl) ?_; try simp only [Act.put, List.setIfInBounds_toArray, List.set_cons_zero, List.set_cons_succ])
    | (with_reducible show wpList _ _ _ ({ dst := _, op := Op.load 3 _, type := _, pos := _, after := _, guard := _ } :: _) _ _; refine wpList_load1_has h rfl 3 _ rfl rfl hbl dl Try.underlying3 rfl ?_)
    | (go_at_call 42; refine (AB.out _ h).mono ?_; clear h; rintro r w ⟨rfl, h⟩))
  go_ret
  exact ⟨rfl, h⟩
/-- What stays of the programs, of the first k threads. -/
def stayTo (c : Nat → Int) (l : Int) (P : Nat → List PCall) (k t : Nat) : List PCall := if t < k ∧ aboveB c t l = false then P t else []
theorem stayTo_succ (c : Nat → Int) (l : Int) (P : Nat → List PCall) (k s : Nat) : stayTo c l P (k + 1) s = if s = k then (if aboveB c k l = false then P k else []) else stayTo c l P k s := by
  unfold stayTo
  by_cases e : s = k
  · subst e
    simp
  · simp only [if_neg e]
    congr 1
    simp only [eq_iff_iff]
    constructor
    · exact fun ⟨h1, h2⟩ => ⟨by omega, h2⟩
    · exact fun ⟨h1, h2⟩ => ⟨by omega, h2⟩
theorem keepE_snoc (c : Nat → Int) (l : Int) (E : List PEnt) (x : PEnt) : keepE c l false (E ++ [x]) = keepE c l false E ++ if aboveB c x.1 l then [] else [x] := by
  unfold keepE
  rw [List.filter_append]
  congr 1
  simp only [List.filter_cons, List.filter_nil]
  cases aboveB c x.1 l <;> rfl
theorem keepE_le (c : Nat → Int) (l : Int) (E : List PEnt) : (keepE c l false E).length ≤ E.length := List.length_filter_le _ _
theorem prog_size (p : Nat → Value) : (progRow p).size = 8 := by kernel_rfl
theorem run_index_prog (p : Nat → Value) {k : Nat} (hk : k < 8) (w : World) : (Instr.index 26 (.agg (progRow p)) (.int .i64 k)).run Try.prog w = .ok (p k) w := by
  rcases k with _ | _ | _ | _ | _ | _ | _ | _ | k
  all_goals first | omega | kernel_rfl
theorem Mm.drop_self {M : Mm} {b : Nat} {o : Obj} (h : M b = some o) : (M.drop b).upd b o = M := by
  funext c
  unfold Mm.upd Mm.drop
  split
  · rename_i e; subst e; exact h.symm
  · rfl
theorem stayTo_same (c : Nat → Int) (l : Int) (P : Nat → List PCall) (k : Nat) (h : aboveB c k l = true) (s : Nat) : stayTo c l P (k + 1) s = stayTo c l P k s := by
  rw [stayTo_succ]
  by_cases e : s = k
  · subst e; rw [if_pos rfl, h]; simp [stayTo]
  · rw [if_neg e]
set_option maxHeartbeats 4000000 in
theorem purgeKeep_has {σ w : World} {M0 M : Mm} (h : Has σ M w) (hle0 : M0.le M) (c : Nat → Int) (p : Nat → Value) (e : Value) (P : Nat → List PCall) (E : List PEnt) (hs0 : RdS M0 p e P E) (hE : E.length ≤ 1000000) (hP : ∀ t, t < 8 → (P t).length ≤ 1000000) (l : Int) {bs bl : Nat} (hbs : M bs = some (.cells (scrRow c p e) 29)) (hbl : M bl = some (.cells #[.int .i64 l] 3)) :
    Calls Try.prog 40 #[scrV c p e, .func (.func 41) #[] #[.pointer (some ⟨bs, 0, none⟩), .pointer (some ⟨bl, 0, none⟩)]] w fun r w' => Made σ M0 M w' c (keepP c l false P) (keepE c l false E) r := by
  have hs := hs0.le hle0
  clear hs0
  have ST : Hid (∀ (M' : Mm) (w : World) (t : Int), Has σ M' w → M.le M' → Calls Try.prog 41 #[.int .i64 t, .pointer (some ⟨bs, 0, none⟩), .pointer (some ⟨bl, 0, none⟩)] w fun r w' => r = .returned (.bool (!aboveB c t l)) ∧ Has σ M' w') := fun M' w t h hle => stays_has h c p e t l (hle _ _ hbs) (hle _ _ hbl)
  have x0 := scr_conf c p e
  have xp := scr_progs c p e
  have g1 := scr_ents c p e
  have zp := prog_size p
  have IX := Lib.hid (fun (k : Nat) (hk : k < 8) => run_index_prog p hk)
  have RP : Hid (∀ t, t < 8 → Rd M 7 (p t) (P t).length ((P t).flatMap encK)) := hs.progs
  have OK : Hid (∀ t, t < 8 → ∀ y ∈ (P t).flatMap encK, y.oneCell' = true) := fun t _ => oneK (P t)
  have HP := Lib.hid hP
  have he := hs.ents
  clear hs hbs hbl hP
  obtain ⟨A, cap, rfl⟩ := he.form
  obtain ⟨n, hl⟩ : ∃ n, E.length = n := ⟨_, rfl⟩
  rw [hl] at he hE x0 xp g1 ⊢
  have HL := Lib.hid hl
  clear hl
  simp only [scrV]
  generalize scrRow c p (.slice A n cap) = row at *
  have SP := Lib.hid (fun (pf pf' : Nat → Value) (v e : Value) (t : Nat) (ht : t < 8) => scr_set_prog c pf pf' e v ht)
  have SE := Lib.hid (fun (pf : Nat → Value) (e v : Value) => scr_set_ents c pf e v)
  have SG := Lib.hid (fun (pf : Nat → Value) (e : Value) => scr_ents c pf e)
  have SZ := Lib.hid (fun (pf : Nat → Value) (e : Value) => scr_size c pf e)
  have SA := Lib.hid (fun (pf : Nat → Value) (e : Value) => scr_all c pf e)
  have SO := Lib.hid (fun (pf : Nat → Value) (e : Value) (h : ∀ t, t < 8 → (pf t).oneCell' = true) (oe : e.oneCell' = true) => scr_one c pf e h oe)
  have BC := built_conf c
  have O0 := scr_one0 c
  have HSC : Hid (∀ pf e, scrV c pf e = .agg (scrRow c pf e)) := fun _ _ => rfl
  generalize hsr : (fun pf e => scrRow c pf e) = sr
  have HSR : Hid (∀ pf e, scrRow c pf e = sr pf e) := fun pf e => by rw [← hsr]
  clear hsr
  have sz0 := scr_size (fun _ => 0) noP nilS
  simp only [HSR.out] at SP SE SG SZ SA SO HSC
  rw [HSR.out] at BC O0
  have szn := SZ.out noP nilS
  go_enter Try.func40, Try.ntmps40
  go_upto_region 1 with (fail)
  obtain ⟨M2, hbx, hle2, hb2, hb4, hn2, hn4⟩ := h.box2 (.cells row 29) (.cells #[.int .i64 0, .int .i64 0, .int .i64 0, .int .i64 0, .int .i64 0, .int .i64 0, .int .i64 0, .int .i64 0, .int .i64 0, .int .i64 0, .int .i64 0, .int .i64 0, .int .i64 0, .int .i64 0, .slice none 0 0, .slice none 0 0, .slice none 0 0, .slice none 0 0, .slice none 0 0, .slice none 0 0, .slice none 0 0, .slice none 0 0, .slice none 0 0] 29)
  generalize (w.alloc _).alloc _ = wx at hbx ⊢
  have hne_b2_b4 : w.heap.size ≠ w.heap.size + 1 := Nat.ne_of_lt (Nat.lt_succ_self _)
  generalize w.heap.size + 1 = b4 at hb4 hn4 hne_b2_b4 ⊢
  generalize w.heap.size = b2 at hb2 hn2 hne_b2_b4 ⊢
  clear h
  try clear w
  have h := hbx
  clear hbx
  obtain ⟨w, rfl⟩ : ∃ x : World, x = wx := ⟨_, rfl⟩
  have hb4 : M2 b4 = some (.cells (scrRow (fun _ => 0) noP nilS) 29) := hb4
  go_upto_region 2 with (first
    | ((with_reducible show wpList _ _ _ ({ dst := _, op := Op.load 24 _, type := _, pos := _, after := _, guard := _ } :: _) _ _); refine wpList_agg_has h rfl 24 _ rfl rfl hb2 x0 rfl Try.underlying24 rfl (by kernel_rfl) ?_; try simp only [Act.put, List.setIfInBounds_toArray, List.set_cons_zero, List.set_cons_succ])
    | ((with_reducible show wpList _ _ _ ({ dst := _, op := Op.build 29 _, type := _, pos := _, after := _, guard := _ } :: _) _ _); refine wpList_build1 rfl 29 0 _ rfl rfl BC ?_; try simp only [Act.put, List.setIfInBounds_toArray, List.set_cons_zero, List.set_cons_succ])
    | ((with_reducible show wpList _ _ _ ({ dst := _, op := Op.alloc 29, type := _, pos := _, after := _, guard := _ } :: _) _ _); refine wpList_alloc_has h rfl 29 rfl _ zero_scr ?_; clear h; intro b5 w h hn5; try simp only [Act.put, List.setIfInBounds_toArray, List.set_cons_zero, List.set_cons_succ])
    | ((with_reducible show wpList _ _ _ ({ dst := _, op := Op.store 29 _ _, type := _, pos := _, after := _, guard := _ } :: _) _ _); refine wpList_storeAll_has (cells := (sr noP nilS)) h rfl 29 _ _ rfl rfl rfl (Mm.upd_same _ _ _) rfl (sz0.trans szn.symm) rfl (by rw [szn]; kernel_rfl) O0 ?_; clear h; intro w h))
  rw [Mm.upd_upd] at h
  have leN : M.le (M2.drop b4) := Mm.le_drop hn4 hle2
  have hb2N : (M2.drop b4) b2 = some (.cells row 29) := Mm.drop_of hb2 hne_b2_b4
  have hN4 := Mm.drop_none M2 b4
  have n45 : b4 ≠ b5 := Mm.ne_of hn5 hb4
  have hN5 : (M2.drop b4) b5 = none := by rw [show (M2.drop b4) b5 = M2 b5 from if_neg (Ne.symm n45)]; exact hn5
  rw [← Mm.drop_self hb4] at h
  generalize M2.drop b4 = N at *
  have hle5 := Mm.le_trans (Mm.le_upd' hN4 (.cells (scrRow (fun _ => 0) noP nilS) 29)) (Mm.le_upd' (b := b5) (by rw [Mm.upd_ne (Ne.symm n45)]; exact hN5) (.cells (sr noP nilS) 29))
  have hb2' := hle5 _ _ hb2N
  go_wp2_with (first
    | ((with_reducible show wpList _ _ _ ({ dst := _, op := Op.load 26 _, type := _, pos := _, after := _, guard := _ } :: _) _ _); refine wpList_agg_has h rfl 26 _ rfl rfl hb2' xp zp Try.underlying26 rfl (by kernel_rfl) ?_; try simp only [Act.put, List.setIfInBounds_toArray, List.set_cons_zero, List.set_cons_succ]))
  clear hle5 hb2'
  go_loopw [15] (fun i wr => ∃ (k : Nat) (N' : Mm) (pf : Nat → Value), k ≤ 8 ∧ i = .int .i64 k ∧ Has σ ((N'.upd b4 (.cells (scrRow (fun _ => 0) noP nilS) 29)).upd b5 (.cells (sr pf nilS) 29)) wr ∧ N.le N' ∧ N' b4 = none ∧ N' b5 = none ∧ ∀ N, (∀ c x, N' c = some x → M c = none → N c = some x) → ∀ t, t < 8 → Rd N 7 (pf t) (stayTo c l P k t).length ((stayTo c l P k t).flatMap encK)) (fun i _ => 8 - (intOf i).toNat)
  case atStart => exact ⟨0, N, noP, by omega, rfl, h, Mm.le_refl _, hN4, hN5, fun N2 _ t ht => by simpa [stayTo] using Rd.nil _ _ _⟩
  case round =>
    clear h w hN5 hN4
    obtain ⟨w, rfl⟩ : ∃ x : World, x = wr := ⟨_, rfl⟩
    obtain ⟨k, N', pf, hk, rfl, h, hle, hN4, hN5, hR⟩ := hrel
    have hN45 : (N'.upd b4 (.cells (scrRow (fun _ => 0) noP nilS) 29)) b5 = none := by rw [Mm.upd_ne (Ne.symm n45)]; exact hN5
    have hle5 := Mm.le_trans (Mm.le_upd' hN4 (.cells (scrRow (fun _ => 0) noP nilS) 29)) (Mm.le_upd' hN45 (.cells (sr pf nilS) 29))
    have hb5 := Mm.upd_same (N'.upd b4 (.cells (scrRow (fun _ => 0) noP nilS) 29)) b5 (.cells (sr pf nilS) 29)
    have hb4' : ((N'.upd b4 (.cells (scrRow (fun _ => 0) noP nilS) 29)).upd b5 (.cells (sr pf nilS) 29)) b4 = some (.cells (scrRow (fun _ => 0) noP nilS) 29) := by rw [Mm.upd_ne n45]; exact Mm.upd_same _ _ _
    have hleM : M.le ((N'.upd b4 (.cells (scrRow (fun _ => 0) noP nilS) 29)).upd b5 (.cells (sr pf nilS) 29)) := Mm.le_trans leN (Mm.le_trans hle hle5)
    have HR := Lib.hid hR
    clear hR
    by_cases hlt : k < 8
    · have D : Hid (∀ s, stayTo c l P (k + 1) s = if s = k then (if aboveB c k l = false then P k else []) else stayTo c l P k s) := fun s => stayTo_succ c l P k s
      have DS : Hid (aboveB c k l = true → ∀ s, stayTo c l P (k + 1) s = stayTo c l P k s) := fun h s => stayTo_same c l P k h s
      obtain ⟨M6, hM6⟩ : ∃ M6, M6 = (N'.upd b4 (.cells (scrRow (fun _ => 0) noP nilS) 29)).upd b5 (.cells (sr pf nilS) 29) := ⟨_, rfl⟩
      rw [← hM6] at h hle5 hb5 hb4' hleM
      have H6 := Lib.hid hM6
      clear hM6
      have STk := Lib.hid (fun (w : World) (h : Has σ M6 w) => ST.out M6 w k h hleM)
      have ix := IX.out k hlt
      have rpk := (RP.out k hlt).le hleM
      have okk := OK.out k hlt
      have hpk := HP.out k hlt
      have lt14 : 14 + k < (sr pf nilS).size := by rw [SZ.out]; omega
      generalize hbk : aboveB c k l = bk at D DS STk
      cases bk
      · simp only [if_true] at D
        obtain ⟨A1, c1, hp⟩ := rpk.form
        rw [hp] at ix rpk
        clear DS hbk hp
        generalize P k = pk at *
        go_wp2_with (first
          | (go_at_call 41; refine (STk.out _ h).mono ?_; clear h; rintro r w ⟨rfl, h⟩)
          | (at_builtin; refine wpList_append_rd (h.alloc _) (Mm.le_upd' h.fresh _) rfl _ _ _ rfl Try.underlying25 info_call rfl (by omega) rfl (Own.made h.fresh 0 rfl (by decide)) rfl (rpk.le (Mm.le_upd' h.fresh _)) okk (by omega) (by omega) ?_; clear h; intro v w hacc)
          | ((with_reducible show wpList _ _ _ ({ dst := _, op := Op.store 25 _ _, type := _, pos := _, after := _, guard := _ } :: _) _ _); obtain ⟨M7, h, hle7, hown⟩ := hacc; have hb57 := hle7 _ _ hb5; have ou := hown.one; refine wpList_store1_has h rfl 25 _ _ rfl rfl rfl hb57 lt14 ou (by kernel_rfl) ?_; clear h; intro w h))
        replace h : Has σ (M7.upd b5 (.cells ((sr pf nilS).setIfInBounds (14 + k) v) 29)) w := h
        rw [SP.out pf (fun s => if s = k then v else pf s) v nilS k hlt (fun s _ => rfl)] at h
        replace h := h.two (hle7 _ _ hb4') n45
        have leN' : N'.le ((M7.drop b5).drop b4) := Mm.le_drop hN4 (Mm.le_drop hN5 (Mm.le_trans hle5 hle7))
        refine ⟨⟨k + 1, (M7.drop b5).drop b4, _, by omega, congrArg (Value.int .i64) (by omega), h, Mm.le_trans hle leN', Mm.drop_none _ _, by rw [show ((M7.drop b5).drop b4) b5 = (M7.drop b5) b5 from if_neg (Ne.symm n45)]; exact Mm.drop_none _ _, fun N2 hN2 s hs => ?_⟩, by simp [intOf]; omega⟩
        rw [D.out s]
        by_cases e : s = k
        · simp only [e, if_true]
          have := hown.rd_in (N := N2) fun c x h0 h1 => hN2 c x (Mm.drop_in (Mm.drop_in h1 h0 hb5) h0 hb4') (Mm.none_of hleM h0)
          simpa using this
        · simp only [if_neg e]
          exact HR.out N2 (fun c x hc hd => hN2 c x (leN' c x hc) hd) s hs
      · replace DS := Lib.hid (DS.out rfl)
        clear D rpk
        go_wp2_with (first
          | (go_at_call 41; refine (STk.out _ h).mono ?_; clear h; rintro r w ⟨rfl, h⟩))
        go_roundw
        case rel => exact ⟨k + 1, N', pf, by omega, by go_num, by rw [← H6.out]; exact h, hle, hN4, hN5, fun N2 hN2 s hs => by rw [DS.out s]; exact HR.out N2 hN2 s hs⟩
        case measure => simp [intOf]; omega
    · obtain rfl : k = 8 := by omega
      have PF : Hid (∀ t, t < 8 → stayTo c l P 8 t = keepP c l false P t) := fun t ht => by simp [stayTo, keepP, ht]
      have RPF : Hid (∀ N2, (∀ c x, N' c = some x → M c = none → N2 c = some x) → ∀ t, t < 8 → Rd N2 7 (pf t) (keepP c l false P t).length ((keepP c l false P t).flatMap encK)) := fun N2 hN2 t ht => by rw [← PF.out t ht]; exact HR.out N2 hN2 t ht
      have OPF : Hid (∀ t, t < 8 → (pf t).oneCell' = true) := fun t ht => (HR.out N' (fun _ _ h _ => h) t ht).one
      have leB := Mm.le_upd' hN4 (.cells (scrRow (fun _ => 0) noP nilS) 29)
      have hb2' := hle5 _ _ (hle _ _ hb2N)
      have he' := he.le hleM
      clear HR PF RP OK HP IX hlt hk
      go_wp2_with (first
        | (with_reducible show wpList _ _ _ ({ dst := _, op := Op.load 27 _, type := _, pos := _, after := _, guard := _ } :: _) _ _; refine wpList_load1_has h rfl 27 _ rfl rfl hb2' g1 Try.underlying27 rfl ?_))
      have hBb4 : (N'.upd b4 (.cells (scrRow (fun _ => 0) noP nilS) 29)) b4 = some (.cells (scrRow (fun _ => 0) noP nilS) 29) := Mm.upd_same _ _ _
      generalize N'.upd b4 (.cells (scrRow (fun _ => 0) noP nilS) 29) = B at *
      go_loopw [32] (fun i wr => ∃ (k : Nat) (v : Value), k ≤ n ∧ i = .int .i64 k ∧ Acc σ (B.upd b5 (.cells (sr pf v) 29)) wr 43 2 v (keepE c l false (E.take k)).length ((keepE c l false (E.take k)).flatMap encE)) (fun i _ => n - (intOf i).toNat)
      case atStart => exact ⟨0, nilS, by omega, rfl, by simpa [keepE] using Acc.nil h _ _⟩
      case round =>
        clear h w
        obtain ⟨w, rfl⟩ : ∃ x : World, x = wr := ⟨_, rfl⟩
        obtain ⟨k, v, hk, rfl, M', h, hle6, hown⟩ := hrel
        have hBM : N'.le M' := fun b o hb => hle6 _ _ (by rw [Mm.upd_ne (fun e => by subst e; rw [hN5] at hb; cases hb)]; exact leB _ _ hb)
        have hMM := Mm.le_trans leN (Mm.le_trans hle hBM)
        have hb4'' := hle6 b4 _ ((Mm.upd_ne n45).trans hBb4)
        have hb5' := hle6 _ _ (Mm.upd_same _ _ _)
        by_cases hlt : k < n
        · obtain ⟨⟨x1', x2'⟩, hx⟩ : ∃ x, E[k]? = some x := ⟨_, List.getElem?_eq_getElem (by rw [HL.out]; exact hlt)⟩
          have D : Hid (keepE c l false (E.take (k + 1)) = keepE c l false (E.take k) ++ if aboveB c x1' l then [] else [(x1', x2')]) := by show _ = _; rw [take_snoc'' hx, keepE_snoc]
          have hlen : (keepE c l false (E.take k)).length ≤ 1000000 := by have := keepE_le c l (E.take k); have := List.length_take_le k E; omega
          obtain ⟨b1, o1, c1, cs1, t1, f1, e1, hM1, hx1⟩ := (he.le hMM).elem encE_len hlt hx
          cases e1
          have hc1 : cs1.extract (o1 + k * 2) (o1 + k * 2 + 2) = #[.int .i64 x1', .int .i64 x2'] := extract_of hx1 rfl
          have e2 : (#[.int .i64 0, .int .i64 0] : Array Value).size = 2 := rfl
          have e2' : (#[.int .i64 x1', .int .i64 x2'] : Array Value).size = 2 := rfl
          have d0 : (#[.int .i64 x1', .int .i64 x2'] : Array Value)[0]? = some (.int .i64 x1') := rfl
          have xe := ent_all x1' x2'
          clear hx1 hx
          go_upto_region 11 with (first
            | ((with_reducible show wpList _ _ _ ({ dst := _, op := Op.load 43 _, type := _, pos := _, after := _, guard := _ } :: _) _ _); refine wpList_agg_has h rfl 43 _ rfl rfl hM1 hc1 rfl Try.underlying43 rfl (by kernel_rfl) ?_; try simp only [Act.put, List.setIfInBounds_toArray, List.set_cons_zero, List.set_cons_succ])
            | ((with_reducible show wpList _ _ _ ({ dst := _, op := Op.alloc 43, type := _, pos := _, after := _, guard := _ } :: _) _ _); refine wpList_alloc_has h rfl 43 rfl _ zero_ent ?_; clear h; intro b9 w h hn9; try simp only [Act.put, List.setIfInBounds_toArray, List.set_cons_zero, List.set_cons_succ])
            | ((with_reducible show wpList _ _ _ ({ dst := _, op := Op.store 43 _ _, type := _, pos := _, after := _, guard := _ } :: _) _ _); refine wpList_storeAll_has (cells := #[.int .i64 x1', .int .i64 x2']) h rfl 43 _ _ rfl rfl rfl (Mm.upd_same _ _ _) rfl (e2.trans e2'.symm) rfl (by rw [e2']; kernel_rfl) (by rfl) ?_; clear h; intro w h))
          clear hc1 hM1 e2 e2'
          rw [Mm.upd_upd] at h
          have hb9 := Mm.upd_same M' b9 (.cells #[.int .i64 x1', .int .i64 x2'] 43)
          have hle9 := Mm.le_upd' hn9 (.cells #[.int .i64 x1', .int .i64 x2'] 43)
          generalize M'.upd b9 (.cells #[.int .i64 x1', .int .i64 x2'] 43) = M3 at h hb9 hle9
          have hle3 := Mm.le_trans hle6 hle9
          have own3 := hown.le hle9
          have hMM3 := Mm.le_trans hMM hle9
          have hb53 := hle9 _ _ hb5'
          clear hle9 hn9
          have STk := Lib.hid (fun (w : World) (h : Has σ M3 w) => ST.out M3 w x1' h hMM3)
          have gv := SG.out pf v
          have lt22 : 22 < (sr pf v).size := by rw [SZ.out]; omega
          have SEv := Lib.hid (fun v' => SE.out pf v v')
          generalize aboveB c x1' l = bk at D STk
          cases bk
          · replace D : Hid (keepE c l false (E.take (k + 1)) = keepE c l false (E.take k) ++ [(x1', x2')]) := by show _ = _; rw [D.out]; simp
            generalize hrv : sr pf v = rv at hb53 gv lt22 SEv hle3 own3
            clear hrv
            go_wp2_with (first
              | (with_reducible show wpList _ _ _ ({ dst := _, op := Op.load 3 _, type := _, pos := _, after := _, guard := _ } :: _) _ _; refine wpList_load1_has h rfl 3 _ rfl rfl hb9 d0 Try.underlying3 rfl ?_)
              | (go_at_call 41; refine (STk.out _ h).mono ?_; clear h; rintro r w ⟨rfl, h⟩)
              | (with_reducible show wpList _ _ _ ({ dst := _, op := Op.load 27 _, type := _, pos := _, after := _, guard := _ } :: _) _ _; refine wpList_load1_has h rfl 27 _ rfl rfl hb53 gv Try.underlying27 rfl ?_)
              | ((with_reducible show wpList _ _ _ ({ dst := _, op := Op.load 43 _, type := _, pos := _, after := _, guard := _ } :: _) _ _); refine wpList_agg_has h rfl 43 _ rfl rfl hb9 xe rfl Try.underlying43 rfl (by kernel_rfl) ?_; try simp only [Act.put, List.setIfInBounds_toArray, List.set_cons_zero, List.set_cons_succ])
              | (at_builtin; refine wpList_append_lit h hle3 rfl _ _ _ rfl rfl Try.underlying27 info_ent rfl (by omega) rfl own3 rfl rfl rfl (by omega) (by omega) ?_; clear h hle3 own3; intro v w hacc)
              | ((with_reducible show wpList _ _ _ ({ dst := _, op := Op.store 27 _ _, type := _, pos := _, after := _, guard := _ } :: _) _ _); obtain ⟨M5, h, hle5', hown5⟩ := hacc; have one5 := hown5.one; refine wpList_store1_has h rfl 27 _ _ rfl rfl rfl (Mm.le_get hle5' (Mm.upd_same _ _ _)) lt22 one5 (by kernel_rfl) ?_; clear h; intro w h))
            replace h : Has σ (M5.upd b5 (.cells (rv.setIfInBounds 22 v) 29)) w := h
            have le5 := Mm.le_upd_both hle5' (.cells (rv.setIfInBounds 22 v) 29)
            have own5 := Own.upd_both hown5 (.cells (rv.setIfInBounds 22 v) 29)
            rw [SEv.out] at h le5 own5
            refine ⟨⟨k + 1, v, by omega, congrArg (Value.int .i64) (by omega), ⟨_, h, le5, ?_⟩⟩, by simp [intOf]; omega⟩
            rw [D.out, List.length_append, List.flatMap_append]
            simpa [encE] using own5
          · replace D : Hid (keepE c l false (E.take (k + 1)) = keepE c l false (E.take k)) := by show _ = _; rw [D.out]; simp
            go_wp2_with (first
              | (with_reducible show wpList _ _ _ ({ dst := _, op := Op.load 3 _, type := _, pos := _, after := _, guard := _ } :: _) _ _; refine wpList_load1_has h rfl 3 _ rfl rfl hb9 d0 Try.underlying3 rfl ?_)
              | (go_at_call 41; refine (STk.out _ h).mono ?_; clear h; rintro r w ⟨rfl, h⟩))
            exact ⟨⟨k + 1, v, by omega, congrArg (Value.int .i64) (by omega), by rw [D.out]; exact ⟨M3, h, hle3, own3⟩⟩, by simp [intOf]; omega⟩
        · obtain rfl : k = n := by omega
          have EA : E.take k = E := List.take_of_length_le (by rw [HL.out]; exact Nat.le_refl _)
          rw [EA] at hown
          clear EA hlt hk
          have sz' := SZ.out pf v
          have sa := SA.out pf v
          have one' := SO.out pf v OPF.out hown.one
          have HSV := Lib.hid (HSC.out pf v)
          generalize hrv : sr pf v = rv at hb5' sa one' sz' hle6 hown HSV
          clear hrv
          go_wp2_with (first
            | ((with_reducible show wpList _ _ _ ({ dst := _, op := Op.load 29 _, type := _, pos := _, after := _, guard := _ } :: _) _ _); refine wpList_agg_has h rfl 29 _ rfl rfl hb5' sa sz' Try.underlying29 rfl (by kernel_rfl) ?_; try simp only [Act.put, List.setIfInBounds_toArray, List.set_cons_zero, List.set_cons_succ])
            | ((with_reducible show wpList _ _ _ ({ dst := _, op := Op.store 29 _ _, type := _, pos := _, after := _, guard := _ } :: _) _ _); refine wpList_storeAll_has (cells := rv) h rfl 29 _ _ rfl rfl rfl hb4'' rfl (sz0.trans sz'.symm) rfl (by rw [sz']; kernel_rfl) one' ?_; clear h; intro w h))
          have leMB : M.le (B.upd b5 (.cells rv 29)) := fun b o hb => (Mm.upd_ne (Mm.ne_of (Mm.none_of (Mm.le_trans leN hle) hN5) hb)).trans (leB _ _ (hle _ _ (leN _ _ hb)))
          have hNF : N'.le (M'.upd b4 (.cells rv 29)) := Mm.le_upd hBM hN4 _
          exact bodyPost_ret (results_cell_row rfl _ _ _ _ _ _ _ rfl (h.at_ b4 _ (Mm.upd_same _ _ _)) Try.underlying29 rfl (by rw [sz']; kernel_rfl)) rfl ⟨pf, v, _, by rw [HSV.out], h, Mm.le_trans leN (Mm.le_trans hle hNF), fun N2 hN2 => ⟨fun t ht => RPF.out N2 (fun c x hc hd => hN2 c x (hNF c x hc) (.inl hd)) t ht, (hown.upd_at ((Mm.upd_ne n45).trans hBb4) _).rd_in fun c x h0 h1 => hN2 c x h1 (.inl (Mm.none_of leMB h0))⟩⟩
theorem mm_self {M : Mm} {q : Nat → Prop} : ∀ c x, M c = some x → q c → M c = some x := fun _ _ h _ => h
set_option maxHeartbeats 2000000 in
theorem to_has {σ w : World} {M0 M : Mm} (h : Has σ M w) (hle0 : M0.le M) (c : Nat → Int) (p : Nat → Value) (e : Value) (P : Nat → List PCall) (E : List PEnt) (hs : RdS M0 p e P E) (hE : E.length ≤ 1000000) (hP : ∀ t, t < 8 → (P t).length ≤ 1000000) (l : Int) :
    Calls Try.prog 22 #[scrV c p e, .int .i64 l] w fun r w' => Made σ M0 M w' c (keepP c l false P) (keepE c l false E) r := by
  have KP : Hid (∀ (M' : Mm) (w : World) (bs bl : Nat), Has σ M' w → M.le M' → M' bs = some (.cells (scrRow c p e) 29) → M' bl = some (.cells #[.int .i64 l] 3) →
      Calls Try.prog 40 #[scrV c p e, .func (.func 41) #[] #[.pointer (some ⟨bs, 0, none⟩), .pointer (some ⟨bl, 0, none⟩)]] w fun r w' => Made σ M0 M' w' c (keepP c l false P) (keepE c l false E) r) := fun M' w bs bl h hle h1 h2 => purgeKeep_has h (Mm.le_trans hle0 hle) c p e P E hs hE hP l h1 h2
  have sa := scr_all c p e
  have sz := scr_size c p e
  have sz0 := scr_size (fun _ => 0) noP nilS
  clear hs hP
  simp only [scrV] at KP ⊢
  generalize scrRow c p e = row at *
  generalize keepP c l false P = P' at *
  generalize keepE c l false E = E' at *
  go_enter Try.func22, Try.ntmps22
  go_upto_region 1 with (first
    | ((with_reducible show wpList _ _ _ ({ dst := _, op := Op.box 29 _, type := _, pos := _, after := _, guard := _ } :: _) _ _); refine wpList_box_has h rfl 29 _ rfl ?_; clear h; intro b2 w h hn2; try simp only [Act.put, List.setIfInBounds_toArray, List.set_cons_zero, List.set_cons_succ])
    | ((with_reducible show wpList _ _ _ ({ dst := _, op := Op.box 3 _, type := _, pos := _, after := _, guard := _ } :: _) _ _); refine wpList_box_has h rfl 3 _ rfl ?_; clear h; intro b3 w h hn3; try simp only [Act.put, List.setIfInBounds_toArray, List.set_cons_zero, List.set_cons_succ])
    | ((with_reducible show wpList _ _ _ ({ dst := _, op := Op.alloc 29, type := _, pos := _, after := _, guard := _ } :: _) _ _); refine wpList_alloc_has h rfl 29 rfl _ zero_scr ?_; clear h; intro b4 w h hn4; try simp only [Act.put, List.setIfInBounds_toArray, List.set_cons_zero, List.set_cons_succ]))
  replace h : Has σ (((M.upd b2 (.cells row 29)).upd b3 (.cells #[.int .i64 l] 3)).upd b4 (.cells (scrRow (fun _ => 0) noP nilS) 29)) w := h
  replace hn3 : (M.upd b2 (.cells row 29)) b3 = none := hn3
  replace hn4 : ((M.upd b2 (.cells row 29)).upd b3 (.cells #[.int .i64 l] 3)) b4 = none := hn4
  have le3 := Mm.le_upd' hn3 (.cells #[.int .i64 l] 3)
  have le4 := Mm.le_upd' hn4 (.cells (scrRow (fun _ => 0) noP nilS) 29)
  have le2 := Mm.le_upd' hn2 (.cells row 29)
  have hb2 := le4 _ _ (le3 _ _ (Mm.upd_same M b2 (.cells row 29)))
  have hb3 := le4 _ _ (Mm.upd_same (M.upd b2 (.cells row 29)) b3 (.cells #[.int .i64 l] 3))
  have hb4 := Mm.upd_same ((M.upd b2 (.cells row 29)).upd b3 (.cells #[.int .i64 l] 3)) b4 (.cells (scrRow (fun _ => 0) noP nilS) 29)
  have hle := Mm.le_trans le2 (Mm.le_trans le3 le4)
  have hN4 : M b4 = none := Mm.none_of (Mm.le_trans le2 le3) hn4
  generalize (((M.upd b2 (.cells row 29)).upd b3 (.cells #[.int .i64 l] 3)).upd b4 (.cells (scrRow (fun _ => 0) noP nilS) 29)) = M2 at *
  clear le2 le3 le4 hn2 hn3 hn4
  have KPk := Lib.hid (fun (w : World) (h : Has σ M2 w) => KP.out M2 w b2 b3 h hle hb2 hb3)
  go_wp2_with (first
    | ((with_reducible show wpList _ _ _ ({ dst := _, op := Op.load 29 _, type := _, pos := _, after := _, guard := _ } :: _) _ _); refine wpList_agg_has h rfl 29 _ rfl rfl hb2 sa sz Try.underlying29 rfl (by kernel_rfl) ?_; try simp only [Act.put, List.setIfInBounds_toArray, List.set_cons_zero, List.set_cons_succ])
    | (go_at_call 40; refine (KPk.out _ h).mono ?_; clear h; rintro r w ⟨p', e', M5, rfl, h, hle5, hRN⟩; have hR := hRN M5 mm_self; have hb45 := hle5 _ _ hb4; have sz' := scr_size c p' e'; have one' := scr_one c p' e' hR.one hR.ents.one; have hSV := Lib.hid (show scrV c p' e' = .agg (scrRow c p' e') from rfl); rw [hSV.out]; generalize scrRow c p' e' = r2 at sz' one' hSV)
    | ((with_reducible show wpList _ _ _ ({ dst := _, op := Op.store 29 _ _, type := _, pos := _, after := _, guard := _ } :: _) _ _); refine wpList_storeAll_has (cells := r2) h rfl 29 _ _ rfl rfl rfl hb45 rfl (sz0.trans sz'.symm) rfl (by rw [sz']; kernel_rfl) one' ?_; clear h; intro w h))
  have h04 := Mm.none_of hle0 hN4
  refine bodyPost_ret (results_cell_row rfl _ _ _ _ _ _ _ rfl (h.at_ b4 _ (Mm.upd_same _ _ _)) Try.underlying29 rfl (by rw [sz']; kernel_rfl)) rfl ⟨p', e', _, by rw [hSV.out], h, Mm.le_upd (Mm.le_trans hle hle5) hN4 _, fun N2 hN2 => hRN N2 fun c x hc hd => hN2 c x ((Mm.upd_ne fun e => ?_).trans hc) (hd.imp (Mm.none_of hle) id)⟩
  subst e
  rcases hd with hd | hd
  · rw [hb4] at hd; cases hd
  · exact hd h04
end Go.Proofs.Ytlgnknaffnnkkaa
