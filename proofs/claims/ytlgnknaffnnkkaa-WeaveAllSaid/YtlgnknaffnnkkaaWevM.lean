/- Weaver: all variants are told, one behind the other. -/
import Derived.Test.YtlgnknaffnnkkaaWevL
namespace Go.Proofs.Ytlgnknaffnnkkaa
open Go.RowKit
set_option linter.unusedVariables false
set_option linter.unusedSimpArgs false
set_option linter.unnecessarySimpa false
def varP (c : Nat → Int) (l : Int) (P : Nat → List PCall) : Nat → Nat → List PCall
  | 0 => keepP c l false P | 7 => progTo (fun (_ : List PCall) => ([] : List PCall)) (thrTo c l 8) P | 8 => progTo List.reverse (thrTo c l 8) P | _ => P
def varE (c : Nat → Int) (l : Int) (E : List PEnt) : Nat → List PEnt
  | 0 => keepE c l false E | 1 => eachE c l 0 E | 2 => eachE c l 2 E | 3 => loE c l E ++ hiE c l E | 4 => hiE c l E ++ loE c l E | 5 => frE 3 (thrTo c l 8) ++ E | 6 => frE 1 (thrTo c l 8) ++ E | _ => E
theorem clo_all {σ : World} {M0 M : Mm} (hle0 : M0.le M) (c : Nat → Int) (p : Nat → Value) (e : Value) (P : Nat → List PCall) (E : List PEnt) (hs : RdS M0 p e P E) (hE : E.length ≤ 1000000) (hP : ∀ t, t < 8 → (P t).length ≤ 1000000) (l : Int) {bx bh bl : Nat} {vh vl : Value} (hbx : M bx = some (.cells (weaRow c p e l) 46)) (hbh : M bh = some (.cells #[vh] 27)) (hbl : M bl = some (.cells #[vl] 27))
    (hh : Rd M 2 vh (hiE c l E).length ((hiE c l E).flatMap encE)) (hl : Rd M 2 vl (loE c l E).length ((loE c l E).flatMap encE)) {k : Nat} (hk : k < 9) :
    CloC (cloF k) (cloA bx bh bl k) σ M0 M c (varP c l P k) (varE c l E k) := by
  have h1 := hiE_le c l E
  have h2 := loE_le c l E
  rcases k with _ | _ | _ | _ | _ | _ | _ | _ | _ | k
  · exact clo1_has hle0 c p e P E hs hE hP l hbx
  · exact clo2_has hle0 c p e P E hs hE hP l hbx
  · exact clo3_has hle0 c p e P E hs hE hP l hbx
  · exact clo4_has hle0 c p e P E hs _ _ (by omega) (by omega) l hbx hbl hbh hl hh
  · exact clo5_has hle0 c p e P E hs _ _ (by omega) (by omega) l hbx hbh hbl hh hl
  · exact clo6_has hle0 c p e P E hs hE hP l hbx
  · exact clo7_has hle0 c p e P E hs hE hP l hbx
  · exact clo8_has hle0 c p e P E hs hE hP l hbx
  · exact clo9_has hle0 c p e P E hs hE hP l hbx
  · omega
section
variable {P : Program} {ops : Array Oper} {rest : List Oper} {o : Oper} {a : Act} {w : World} {Q : Exit → Act → World → Prop}
/-- A struct with two parts given. -/
theorem wpList_build2 (hg : o.guard = none) (t : TypeId) (i j : Nat) (x y : Operand) (ho : o.op = .build t #[(i, x), (j, y)]) {v u : Value} (hx : a.eval x = v) (hy : a.eval y = u) {cells : Array Value} (hf : P.built t [(i, v), (j, u)] = some cells)
    (h : wpList P ops Q rest (a.put o.dst (.agg cells)) w) : wpList P ops Q (o :: rest) a w :=
  wpList_buildTo hg t _ ho o.dst rfl cells (by simpa [hx, hy] using hf) h
end
theorem built_wea (c : Nat → Int) (p : Nat → Value) (e : Value) (l : Int) : Try.prog.built 46 [(0, .agg (scrRow c p e)), (1, .int .i64 l)] = some (weaRow c p e l) := by kernel_rfl
def entB (P : Program) (f : FuncId) : Bool := match P.funcs[f]? with
  | some fn => !(fn.name == "runtime.NumGoroutine") && !fn.body.isNone
  | none => false
theorem run_callFunc {P : Program} {f : FuncId} (h : entB P f = true) (args : Array Value) (w : World) : (callFunc f args).run P w = .ok (.enter f args) w := by
  unfold entB at h
  unfold callFunc
  cases hf : P.funcs[f]? with
  | none => simp [hf] at h
  | some fn =>
    simp only [hf, Bool.and_eq_true, Bool.not_eq_true'] at h
    rw [Sem.run_bind, run_program]
    simp only [Result.andThen_ok, hf, h.1, h.2, if_false, Bool.false_eq_true, Sem.run_pure]
theorem clo_ent {k : Nat} (hk : k < 9) : entB Try.prog (cloF k) = true := by
  rcases k with _ | _ | _ | _ | _ | _ | _ | _ | _ | k
  all_goals first | omega | kernel_rfl
set_option maxHeartbeats 4000000 in
theorem allBody_has {σ w : World} {M0 : Mm} (Y : FuncId) (caps : Array Value) (S : Nat → Mm → Mm) (Z : Mm → Prop) (goes : Nat → Bool) (kend : Nat)
    (c : Nat → Int) (p : Nat → Value) (e : Value) (P : Nat → List PCall) (E : List PEnt) (hs : RdS M0 p e P E) (hE : E.length ≤ 1000000) (hP : ∀ t, t < 8 → (P t).length ≤ 1000000) (l : Int) {bs bl : Nat}
    (hbs : M0 bs = some (.cells (scrRow c p e) 29)) (hbl : M0 bl = some (.cells #[.int .i64 l] 3))
    (hS : ∀ k K, Z K → K.le (S k K))
    (hX : ∀ k K M, Z K → (S k K).le M → ∃ K', Z K' ∧ (S k K').le M ∧ ∀ c x, M c = some x → ((S k K) c = none ∨ K c ≠ none) → K' c = some x)
    (hY : ∀ k, k < 9 → ∀ K w p' e', Z K → M0.le K → Has σ (S k K) w → RdS K p' e' (varP c l P k) (varE c l E k) → Calls Try.prog Y (#[.string (nameOf k), scrV c p' e'] ++ caps) w fun r w' => r = .returned (.bool (goes k)) ∧ ∃ K', Z K' ∧ K.le K' ∧ Has σ (S (k + 1) K') w')
    (hent : entB Try.prog Y = true) (hk1 : 1 ≤ kend) (hk9 : kend ≤ 9) (hg1 : ∀ k, k + 1 < kend → goes k = true) (hg2 : kend < 9 → goes (kend - 1) = false)
    {K0 : Mm} (hZ : Z K0) (hle0 : M0.le K0) (h : Has σ (S 0 K0) w) :
    Calls Try.prog 15 #[.func (.func Y) #[] caps, .pointer (some ⟨bs, 0, none⟩), .pointer (some ⟨bl, 0, none⟩)] w fun r w' => (∃ u, r = .returned u) ∧ ∃ K', Z K' ∧ K0.le K' ∧ Has σ (S kend K') w' := by
  have le0S := Mm.le_trans hle0 (hS 0 K0 hZ)
  have MH : Hid (∀ (M : Mm) (w : World), Has σ M w → (S 0 K0).le M → Calls Try.prog 16 #[weaV c p e l] w fun r w' => ∃ bx bh bl bc vh vl M', r = .returned (.slice (some ⟨bc, 0, none⟩) 9 9) ∧ Has σ M' w' ∧ M.le M' ∧ (M bx = none ∧ M' bx = some (.cells (weaRow c p e l) 46)) ∧ (M bh = none ∧ M' bh = some (.cells #[vh] 27)) ∧ (M bl = none ∧ M' bl = some (.cells #[vl] 27)) ∧ (M bc = none ∧ M' bc = some (.cells (cloRow bx bh bl) 48)) ∧
      Own M M' 43 2 vh (hiE c l E).length ((hiE c l E).flatMap encE) ∧ Own M M' 43 2 vl (loE c l E).length ((loE c l E).flatMap encE)) := fun M w h hle => made_has h c p e E (hs.le (Mm.le_trans le0S hle)).ents hE l
  have CA : Hid (∀ (M : Mm) (bx bh bl : Nat) (vh vl : Value), M0.le M → M bx = some (.cells (weaRow c p e l) 46) → M bh = some (.cells #[vh] 27) → M bl = some (.cells #[vl] 27) → Rd M 2 vh (hiE c l E).length ((hiE c l E).flatMap encE) → Rd M 2 vl (loE c l E).length ((loE c l E).flatMap encE) → ∀ k, k < 9 → CloC (cloF k) (cloA bx bh bl k) σ M0 M c (varP c l P k) (varE c l E k)) := fun M bx bh bl vh vl h0 h1 h2 h3 h4 h5 k hk => clo_all h0 c p e P E hs hE hP l h1 h2 h3 h4 h5 hk
  have hS := Lib.hid hS
  have hX := Lib.hid hX
  have hY := Lib.hid hY
  have hg1 := Lib.hid hg1
  have hg2 := Lib.hid hg2
  have cy := Lib.hid (fun (args : Array Value) => run_callFunc hent args)
  clear hent
  have BW := built_wea c p e l
  have sa := scr_all c p e
  have sz := scr_size c p e
  have dl : (#[.int .i64 l] : Array Value)[0]? = some (.int .i64 l) := rfl
  have hbs0 := le0S _ _ hbs
  have hbl0 := le0S _ _ hbl
  have NM := Lib.hid (fun (w : World) (h : Has σ (S 0 K0) w) => names_has h)
  clear hs hP
  simp only [weaV] at MH
  generalize scrRow c p e = sr at *
  generalize weaRow c p e l = wr at *
  go_enter Try.func15, Try.ntmps15
  go_upto_region 1 with (first
    | (go_at_call 13; refine (NM.out _ h).mono ?_; clear h; rintro r w ⟨bq, M1, rfl, h, hle1, hnq, hbq⟩))
  have hbs1 := hle1 _ _ hbs0
  have hbl1 := hle1 _ _ hbl0
  have MHk := Lib.hid (fun (w : World) (h : Has σ M1 w) => MH.out M1 w h hle1)
  go_wp2_with (first
    | ((with_reducible show wpList _ _ _ ({ dst := _, op := Op.load 29 _, type := _, pos := _, after := _, guard := _ } :: _) _ _); refine wpList_agg_has h rfl 29 _ rfl rfl hbs1 sa sz Try.underlying29 rfl (by kernel_rfl) ?_; try simp only [Act.put, List.setIfInBounds_toArray, List.set_cons_zero, List.set_cons_succ])
    | (with_reducible show wpList _ _ _ ({ dst := _, op := Op.load 3 _, type := _, pos := _, after := _, guard := _ } :: _) _ _; refine wpList_load1_has h rfl 3 _ rfl rfl hbl1 dl Try.underlying3 rfl ?_)
    | ((with_reducible show wpList _ _ _ ({ dst := _, op := Op.build 46 _, type := _, pos := _, after := _, guard := _ } :: _) _ _); refine wpList_build2 rfl 46 0 1 _ _ rfl rfl rfl BW ?_; try simp only [Act.put, List.setIfInBounds_toArray, List.set_cons_zero, List.set_cons_succ])
    | (go_at_call 16; refine (MHk.out _ h).mono ?_; clear h; rintro r w ⟨bx, bh, bb, bc, vh, vl, M2, rfl, h, hle2, ⟨nx, hbx⟩, ⟨nh, hbh⟩, ⟨nb, hbb⟩, ⟨nc, hbc⟩, oh, ol⟩))
  obtain ⟨K1, hZ1, hSK1, hin⟩ := hX.out 0 K0 M2 hZ (Mm.le_trans hle1 hle2)
  have le01 : K0.le K1 := fun c x hc => hin c x (hle2 _ _ (hle1 _ _ (hS.out 0 K0 hZ _ _ hc))) (.inr (by rw [hc]; exact fun h => by cases h))
  have hbq1 := hin bq _ (hle2 _ _ hbq) (.inl hnq)
  have hbx1 := hin bx _ hbx (.inl (Mm.none_of hle1 nx))
  have hbh1 := hin bh _ hbh (.inl (Mm.none_of hle1 nh))
  have hbb1 := hin bb _ hbb (.inl (Mm.none_of hle1 nb))
  have hbc1 := hin bc _ hbc (.inl (Mm.none_of hle1 nc))
  have rh1 := oh.rd_in (N := K1) fun c x h0 h1 => hin c x h1 (.inl (Mm.none_of hle1 h0))
  have rl1 := ol.rd_in (N := K1) fun c x h0 h1 => hin c x h1 (.inl (Mm.none_of hle1 h0))
  replace h := h.le hSK1
  have CC : Hid (∀ (K : Mm) (k : Nat), k < 9 → Z K → K1.le K → CloC (cloF k) (cloA bx bh bb k) σ M0 (S k K) c (varP c l P k) (varE c l E k)) := fun K k hk hz hl => by
    have hl' := Mm.le_trans hl (hS.out k K hz)
    exact CA.out (S k K) bx bh bb vh vl (Mm.le_trans hle0 (Mm.le_trans le01 hl')) (hl' _ _ hbx1) (hl' _ _ hbh1) (hl' _ _ hbb1) (rh1.le hl') (rl1.le hl') k hk
  have GC : Hid (∀ k, k < 9 → (cloRow bx bh bb)[k]? = some (.func (.func (cloF k)) #[] (cloA bx bh bb k))) := fun k hk => clo_get bx bh bb hk
  have GN : Hid (∀ k, k < 9 → namesRow[k]? = some (.string (nameOf k))) := fun k hk => names_get hk
  have HSV : Hid (∀ p e, scrV c p e = .agg (scrRow c p e)) := fun _ _ => rfl
  generalize cloRow bx bh bb = crow at *
  generalize namesRow = nrow at *
  clear hin hSK1 oh ol nx nh nb nc hbq hbx hbh hbb hbc rh1 rl1 hnq MH CA MHk NM hle2 hle1 hbx1 hbh1 hbb1
  go_loopw [13] (fun i wr => ∃ (k : Nat) (K : Mm), k ≤ kend ∧ (k = kend → kend = 9) ∧ i = .int .i64 k ∧ Z K ∧ K1.le K ∧ Has σ (S k K) wr) (fun i _ => 9 - (intOf i).toNat)
  case atStart => exact ⟨0, K1, by omega, by omega, rfl, hZ1, Mm.le_refl _, h⟩
  case round =>
    clear h w
    obtain ⟨w, rfl⟩ : ∃ x : World, x = wr := ⟨_, rfl⟩
    obtain ⟨k, K, hke, hk9', rfl, hZK, hleK, h⟩ := hrel
    by_cases hlt : k < 9
    · have hkk : k < kend := by
        rcases Nat.lt_or_ge k kend with h1 | h1
        · exact h1
        · have := hk9' (by omega); omega
      have G1 := Lib.hid (hg1.out k)
      have G2 : Hid (k + 1 = kend → kend < 9 → goes k = false) := fun e h9 => by have := hg2.out h9; rwa [show kend - 1 = k by omega] at this
      have hlS := Mm.le_trans hleK (hS.out k K hZK)
      have hbc' := hlS _ _ hbc1
      have gk := GC.out k hlt
      have gn := GN.out k hlt
      have CCk := Lib.hid (CC.out K k hlt hZK hleK)
      have YK : Hid (∀ (K5 : Mm) (w : World) (p' : Nat → Value) (e' : Value), Z K5 → M0.le K5 → Has σ (S k K5) w → RdS K5 p' e' (varP c l P k) (varE c l E k) → Calls Try.prog Y (#[.string (nameOf k), scrV c p' e'] ++ caps) w fun r w' => r = .returned (.bool (goes k)) ∧ ∃ K', Z K' ∧ K5.le K' ∧ Has σ (S (k + 1) K') w') := fun K5 w p' e' h1 h2 h3 h4 => hY.out k hlt K5 w p' e' h1 h2 h3 h4
      have cf := Lib.hid (run_callFunc (clo_ent hlt) (cloA bx bh bb k))
      generalize varP c l P k = VP at *
      generalize varE c l E k = VE at *
      generalize cloF k = fk at *
      generalize cloA bx bh bb k = ck at *
      generalize nameOf k = nk at *
      generalize goes k = gk' at *
      clear hk9' hke
      have HK := Lib.hid hkk
      clear hkk
      go_upto_region 4 with (first
        | ((with_reducible show wpList _ _ _ ({ dst := _, op := Op.load 48 _, type := _, pos := _, after := _, guard := _ } :: _) _ _); refine wpList_load1_has h rfl 48 _ rfl rfl hbc' gk Try.underlying48 rfl ?_))
      replace h := h.drew
      refine wp_region_held_drew (S := Has σ (K1)) (by kernel_rfl) (h.le hlS) (fun hHeld => ?_)
      refine wpAnyH_take (i := 0) (v := ?_) rfl (by kernel_rfl) (by kernel_rfl) (by kernel_rfl) (fun _ _ _ h => h) (Or.inl ⟨by rfl, ?_⟩) hHeld ?_
      rotate_left
      · (intro wz _; go_simp; try with_reducible rfl)
      try simp only [Act.put, List.setIfInBounds_toArray, List.set_cons_zero, List.set_cons_succ]
      refine wpAnyH_take (i := 1) (v := ?_) rfl (by kernel_rfl) (by kernel_rfl) (by kernel_rfl) (fun _ _ _ h => h) (Or.inl ⟨by rfl, ?_⟩) hHeld ?_
      rotate_left
      · (intro wz _; go_simp; try with_reducible rfl)
      try simp only [Act.put, List.setIfInBounds_toArray, List.set_cons_zero, List.set_cons_succ]
      refine wpAnyH_take (i := 2) (v := ?_) rfl (by kernel_rfl) (by kernel_rfl) (by kernel_rfl) (fun _ _ _ h => h) (Or.inl ⟨by rfl, ?_⟩) hHeld ?_
      rotate_left
      · (intro wz _; go_simp; try with_reducible rfl)
      try simp only [Act.put, List.setIfInBounds_toArray, List.set_cons_zero, List.set_cons_succ]
      refine wpAnyH_take (i := 3) (v := ?_) rfl (by kernel_rfl) (by kernel_rfl) (by kernel_rfl) (fun _ _ _ h => h) (Or.inl ⟨by rfl, ?_⟩) hHeld ?_
      rotate_left
      · (intro wz _; go_simp; try with_reducible rfl)
      try simp only [Act.put, List.setIfInBounds_toArray, List.set_cons_zero, List.set_cons_succ]
      refine wpAnyH_take (i := 4) (v := _) rfl (by kernel_rfl) (by kernel_rfl) (by kernel_rfl) (fun _ _ _ h => h) (yields_load1 rfl 9 _ rfl rfl hbq1 gn Try.underlying9 rfl) hHeld ?_
      try simp only [Act.put, List.setIfInBounds_toArray, List.set_cons_zero, List.set_cons_succ]
      refine wpAnyH_take (i := 5) (v := ?_) rfl (by kernel_rfl) (by kernel_rfl) (by kernel_rfl) (fun _ _ _ h => h) (Or.inl ⟨by rfl, ?_⟩) hHeld ?_
      rotate_left
      · (intro wz _; go_simp; try with_reducible rfl)
      try simp only [Act.put, List.setIfInBounds_toArray, List.set_cons_zero, List.set_cons_succ]
      generalize w.drew = w1 at h hHeld ⊢
      clear w
      obtain ⟨w, rfl⟩ : ∃ x : World, x = w1 := ⟨_, rfl⟩
      have leK5 : ∀ (M5 K5 : Mm), (S k K).le M5 → (∀ c x, M5 c = some x → ((S k K) c = none ∨ K c ≠ none) → K5 c = some x) → K.le K5 := fun M5 K5 h1 h2 c x hc => h2 c x (h1 _ _ (hS.out k K hZK _ _ hc)) (.inr (by rw [hc]; exact fun h => by cases h))
      have cf := cf.out
      refine wpAnyH_ready (rs := [6]) (by kernel_rfl) (by simp) ?_
      refine AllReadyH.cons rfl (fun K hK => ?_) AllReadyH.nil
      (go_simp; refine (CCk.out _ h).mono ?_; clear h cf; rintro r w ⟨p', e', M5, rfl, h, hle5, hRN⟩; rw [HSV.out])
      refine hK.out _ _ (h.le (Mm.le_trans hlS hle5)) (fun hHeld => ?_)
      clear hK K
      try simp only [Act.put, List.setIfInBounds_toArray, List.set_cons_zero, List.set_cons_succ]
      obtain ⟨K5, hZ5, hSK5, hin5⟩ := hX.out k K M5 hZK hle5
      have hl5 := leK5 M5 K5 hle5 hin5
      have h05 := Mm.le_trans hle0 (Mm.le_trans le01 (Mm.le_trans hleK hl5))
      have RD5 := hRN K5 (fun c x h1 h2 => hin5 c x h1 (h2.imp id fun h0 => by
        cases hm : M0 c with
        | none => exact absurd hm h0
        | some o => rw [Mm.le_trans hle0 (Mm.le_trans le01 hleK) _ _ hm]; exact fun h => by cases h))
      have YK5 := Lib.hid (fun (w : World) (h : Has σ (S k K5) w) => YK.out K5 w p' e' hZ5 h05 h RD5)
      simp only [HSV.out] at YK5
      replace h := h.le hSK5
      have cy := cy.out
      clear hRN hin5 leK5 hSK5
      refine wpAnyH_ready (rs := [7]) (by kernel_rfl) (by simp) ?_
      refine AllReadyH.cons rfl (fun K hK => ?_) AllReadyH.nil
      (go_simp; refine (YK5.out _ h).mono ?_; clear h cy; rintro r w ⟨rfl, K6, hZ6, hl6, h⟩)
      refine hK.out _ _ (h.le (Mm.le_trans hleK (Mm.le_trans hl5 (Mm.le_trans hl6 (hS.out _ _ hZ6))))) (fun hHeld => ?_)
      clear hK K
      try simp only [Act.put, List.setIfInBounds_toArray, List.set_cons_zero, List.set_cons_succ]
      refine wpAnyH_take (i := 8) (v := ?_) rfl (by kernel_rfl) (by kernel_rfl) (by kernel_rfl) (fun _ _ _ h => h) (Or.inl ⟨by rfl, ?_⟩) hHeld ?_
      rotate_left
      · (intro wz _; go_simp; try with_reducible rfl)
      try simp only [Act.put, List.setIfInBounds_toArray, List.set_cons_zero, List.set_cons_succ]
      refine wpAnyH_done (by kernel_rfl) ?_ _
      cases gk'
      · have hke : k + 1 = kend := by
          have h1 := HK.out
          rcases Nat.lt_or_ge (k + 1) kend with h2 | h2
          · cases G1.out h2
          · omega
        subst hke
        go_wp2
        try simp only [Exit.inBlock, Exit.then]
        refine bodyPost_ret (results_none rfl _ _ _) rfl ?_
        exact ⟨⟨_, rfl⟩, K6, hZ6, Mm.le_trans le01 (Mm.le_trans hleK (Mm.le_trans hl5 hl6)), h⟩
      · go_wp2
        go_roundw
        case rel => exact ⟨k + 1, K6, by have := HK.out; omega, fun e => by
          rcases Nat.lt_or_ge kend 9 with h9 | h9
          · cases G2.out e h9
          · omega, by go_num, hZ6, Mm.le_trans hleK (Mm.le_trans hl5 hl6), h⟩
        case measure => simp [intOf]; omega
    · obtain rfl : k = 9 := by omega
      obtain rfl : kend = 9 := by omega
      go_wp2
      go_end0
      exact ⟨⟨_, rfl⟩, K, hZK, Mm.le_trans le01 hleK, h⟩
end Go.Proofs.Ytlgnknaffnnkkaa
