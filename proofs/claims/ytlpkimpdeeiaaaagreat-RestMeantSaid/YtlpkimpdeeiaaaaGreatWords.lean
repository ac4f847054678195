/- Walk of machine.first: all words at first. -/
import Derived.Test.YtlpkimpdeeiaaaaGreatPlanD
import Derived.Test.YtlpkimpdeeiaaaaGreatLinks
import Derived.Test.YtlpkimpdeeiaaaaGreatWordsP
namespace Go.Proofs.YtlpkimpdeeiaaaaGreat
open Go.RowKit
set_option linter.unusedVariables false
set_option linter.unusedSimpArgs false
set_option linter.unnecessarySimpa false
theorem conf_has {σ w : World} {M : Mm} (h : Has σ M w) (c : Nat → Int) {p : Nat} (hp : M p = some (planRow c)) :
    Calls Tryz.prog 25 #[.pointer (some ⟨p, 0, none⟩)] w fun e w' => e = .returned (.agg (ints .i64 14 c)) ∧ Has σ M w' := by
  have hx : (ints .i64 35 (planC c)).extract 0 (0 + 14) = ints .i64 14 c := rfl
  have hz : (ints .i64 14 c).size = 14 := rfl
  have one : (ints .i64 14 c).toList.all (·.oneCell') = true := rfl
  go_enter Tryz.func25, Tryz.ntmps25
  go_upto_region 1 with (fail)
  obtain ⟨M4, hbx, hle4, hb4, hn4⟩ := h.box (.cells #[.int .i64 0, .int .i64 0, .int .i64 0, .int .i64 0, .int .i64 0, .int .i64 0, .int .i64 0, .int .i64 0, .int .i64 0, .int .i64 0, .int .i64 0, .int .i64 0, .int .i64 0, .int .i64 0] 29)
  generalize w.alloc _ = wx at hbx ⊢
  generalize w.heap.size = b4 at hb4 hn4 ⊢
  clear h
  try clear w
  have h := hbx
  clear hbx
  obtain ⟨w, rfl⟩ : ∃ x : World, x = wx := ⟨_, rfl⟩
  have hp4 := hle4 _ _ hp
  obtain ⟨r, HR⟩ : ∃ r, Hid (r = ints .i64 14 c) := ⟨_, rfl⟩
  rw [← HR.out] at hx hz one
  have hzr := hz
  go_wp2_with (first
    | ((with_reducible show wpList _ _ _ ({ dst := _, op := Op.load 29 _, type := _, pos := _, after := _, guard := _ } :: _) _ _); refine wpList_agg_has h rfl 29 _ rfl rfl hp4 hx hz Tryz.underlying29 rfl (by kernel_rfl) ?_; try simp only [Act.put, List.setIfInBounds_toArray, List.set_cons_zero, List.set_cons_succ])
    | (refine wpList_storeAll_has (cells := r) h rfl 29 _ _ rfl rfl rfl hb4 rfl hzr.symm rfl (by rw [hzr]; kernel_rfl) one ?_; clear h; intro w h))
  exact bodyPost_ret (results_cell_row rfl _ _ _ _ _ _ _ rfl (h.at_ b4 _ (Mm.upd_same _ _ _)) Tryz.underlying29 rfl (by rw [hzr]; kernel_rfl)) rfl ⟨by rw [HR.out], h.le (Mm.le_upd hle4 hn4 _)⟩
theorem info_u64 : (Tryz.prog.info? 46).map (fun i => (i.zero, i.size, i.bytes)) = some (some (.int .u64 0), 1, 8) := by kernel_rfl
theorem made_u64 (n : Nat) : madeCells (Value.int .u64 0).cells (n * 1) = ints .u64 n fun _ => 0 := by
  apply Array.ext_getElem?
  intro i
  unfold madeCells ints
  by_cases hi : i < n
  · simp [Value.cells, hi, Nat.mod_one]
  · simp [Value.cells, hi]
theorem mk_u64 (N : Nat) (h : N ≤ 100000) (W : World) : (Instr.makeSlice 24 (.int .i64 N) (.int .i64 N)).run Tryz.prog W = .ok (.slice (some ⟨W.heap.size, 0, none⟩) N N) (W.alloc (.cells (ints .u64 N fun _ => 0) 46)) := by
  obtain ⟨i, hi, he⟩ := Option.map_eq_some_iff.1 info_u64
  simp only [Prod.mk.injEq] at he
  obtain ⟨h1, h2, h3⟩ := he
  rw [run_makeSlice W 24 46 i (.int .u64 0) Tryz.underlying24 hi h1 .i64 .i64 N N (by omega) (by omega) (by rw [h2, Int.toNat_natCast]; omega) (by rw [h3]; omega) (by omega), Int.toNat_natCast, h2, made_u64]
/-- The configuration's numbers, as naturals. -/
structure Nums (c : Nat → Int) (L B S : Nat) : Prop where
  lev : c 0 = L
  lim : c 11 = B
  slo : c 10 = S
  l0 : 1 ≤ L ∧ L ≤ 4
  s0 : 2 ≤ S ∧ S ≤ 60
  b0 : 1 ≤ B ∧ B ≤ 40
theorem Nums.of {c : Nat → Int} (hc : ConfMay c) : ∃ L B S, Nums c L B S :=
  ⟨(c 0).toNat, (c 11).toNat, (c 10).toNat, by have := hc.1; omega, by have := hc.2.2.2.2.2.1; omega, by have := hc.2.2.2.2.1; omega, by have := hc.1; omega, by have := hc.2.2.2.2.1; omega, by have := hc.2.2.2.2.2.1; omega⟩
theorem Nums.sz {c : Nat → Int} {L B S : Nat} (h : Nums c L B S) : firsts c 10 = ((18 + B + 6 * S : Nat) : Int) := by
  have h1 := h.lim
  have h2 := h.slo
  unfold firsts
  simp
  omega
/-- Where a place is, of a level, kind, number. -/
theorem at_nat {σ w : World} {M : Mm} (h : Has σ M w) {c : Nat → Int} (hc : ConfMay c) {L B S : Nat} (hn : Nums c L B S) {p : Nat} (hp : M p = some (planRow c)) {l k r : Nat} {lv i j kk : Int} (hl : l < L) (hlv : lv = l) (hkk : kk = k) (hk : InK c k i j) (hr : firsts c k + numK k i j = (r : Int)) :
    Calls Tryz.prog 42 #[.pointer (some ⟨p, 0, none⟩), .agg (plc lv kk i j)] w fun e w' => e = .returned (.int .i64 ((l * (18 + B + 6 * S) + r : Nat) : Int)) ∧ Has σ M w' := by
  subst hlv hkk
  refine (at_yes h c hc hp l k i j (by omega) (by rw [hn.lev]; omega) hk).mono fun e w' ⟨he, hw⟩ => ⟨?_, hw⟩
  rw [he]
  congr 2
  unfold atK
  rw [hn.sz, Int.add_assoc, hr]
  push_cast
  omega
theorem put_step {σ w : World} {M Mb : Mm} {b : Nat} {o : Obj} (h : Has σ (M.upd b o) w) (hle : Mb.le M) (nb : Mb b = none) : ∃ M', Has σ M' w ∧ Mb.le M' ∧ M' b = some o := ⟨_, h, Mm.le_upd hle nb _, Mm.upd_same _ _ _⟩
set_option maxRecDepth 20000 in
set_option maxHeartbeats 4000000 in
theorem first_eq {σ w : World} {M : Mm} (h : Has σ M w) (c : Nat → Int) (hc : ConfMay c) {L B S : Nat} (hn : Nums c L B S) {p : Nat} (hp : M p = some (planRow c)) :
    Calls Tryz.prog 20 #[.pointer (some ⟨p, 0, none⟩)] w fun e w' => ∃ b M', e = .returned (.slice (some ⟨b, 0, none⟩) (L * (18 + B + 6 * S)) (L * (18 + B + 6 * S))) ∧ Has σ M' w' ∧ M.le M' ∧ M b = none ∧ M' b = some (.cells (ints .u64 (L * (18 + B + 6 * S)) (wl B S L)) 46) := by
  have hl0 := hn.l0
  have hs0 := hn.s0
  have hb0 := hn.b0
  have hf8 : firsts c 8 = 18 + (B : Int) := by have := hn.lim; unfold firsts; simp; omega
  have hf9 : firsts c 9 = 18 + (B : Int) + S := by have := hn.lim; have := hn.slo; unfold firsts; simp; omega
  have hm8 : many c 8 = S := by have := hn.slo; unfold many; simp; omega
  have hm9 : many c 9 = S * 5 := by have := hn.slo; unfold many; simp; omega
  have hNL : c 0 * firsts c 10 = ((L * (18 + B + 6 * S) : Nat) : Int) := by rw [hn.lev, hn.sz]; push_cast; rfl
  have hNb : L * (18 + B + 6 * S) ≤ 4 * 418 := Nat.mul_le_mul hl0.2 (by omega)
  have WD := Lib.hid (fun (M : Mm) (w : World) (h : Has σ M w) hp => words_has h c hc (p := p) hp)
  rw [hNL] at WD
  have CF := Lib.hid (fun (M : Mm) (w : World) (h : Has σ M w) hp => conf_has h c (p := p) hp)
  have A0 := Lib.hid (fun (M' : Mm) (w : World) (h : Has σ M' w) (hle : M.le M') (l : Nat) (hl : l < L) => at_nat h hc hn (hle _ _ hp) (l := l) (k := 0) (r := 0) (lv := l) (i := 0) (j := 0) (kk := 0) hl rfl rfl ⟨by decide, by decide, by decide, by decide, fun _ => rfl, by show (0 : Int) < 1; omega⟩ rfl)
  have A1 := Lib.hid (fun (M' : Mm) (w : World) (h : Has σ M' w) (hle : M.le M') (l : Nat) (hl : l < L) => at_nat h hc hn (hle _ _ hp) (l := l) (k := 1) (r := 1) (lv := l) (i := 0) (j := 0) (kk := 1) hl rfl rfl ⟨by decide, by decide, by decide, by decide, fun _ => rfl, by show (0 : Int) < 1; omega⟩ rfl)
  have A2 := Lib.hid (fun (M' : Mm) (w : World) (h : Has σ M' w) (hle : M.le M') (l : Nat) (hl : l < L) => at_nat h hc hn (hle _ _ hp) (l := l) (k := 2) (r := 2) (lv := l) (i := 0) (j := 0) (kk := 2) hl rfl rfl ⟨by decide, by decide, by decide, by decide, fun _ => rfl, by show (0 : Int) < 1; omega⟩ rfl)
  have A3 := Lib.hid (fun (M' : Mm) (w : World) (h : Has σ M' w) (hle : M.le M') (l : Nat) (hl : l < L) => at_nat h hc hn (hle _ _ hp) (l := l) (k := 3) (r := 3) (lv := l) (i := 0) (j := 0) (kk := 3) hl rfl rfl ⟨by decide, by decide, by decide, by decide, fun _ => rfl, by show (0 : Int) < 1; omega⟩ rfl)
  have A9 := Lib.hid (fun (M' : Mm) (w : World) (h : Has σ M' w) (hle : M.le M') (l : Nat) (hl : l < L) => at_nat h hc hn (hle _ _ hp) (l := l) (k := 9) (r := 18 + B + S) (lv := l) (i := 1) (j := 0) (kk := 9) hl rfl rfl ⟨by decide, by decide, by decide, by decide, fun _ => rfl, by show (1 - 1) * 5 + 0 < many c 9; rw [hm9]; omega⟩ (by rw [hf9]; show _ + ((1 - 1) * 5 + 0) = _; push_cast; omega))
  have A8 := Lib.hid (fun (M' : Mm) (w : World) (h : Has σ M' w) (hle : M.le M') (l s : Nat) (hl : l < L) (hs1 : 2 ≤ s) (hs2 : s < S) => at_nat h hc hn (hle _ _ hp) (l := l) (k := 8) (r := 18 + B + (s - 1)) (lv := l) (i := s) (j := 0) (kk := 8) hl rfl rfl ⟨by decide, by show (1 : Int) ≤ s; omega, by decide, by decide, fun _ => rfl, by show (s : Int) - 1 < many c 8; rw [hm8]; omega⟩ (by rw [hf8]; show _ + ((s : Int) - 1) = _; omega))
  unfold plc at A0 A1 A2 A3 A8 A9
  have MK := Lib.hid (linkMake_any 1 0 (by omega) (by omega))
  have TP := Lib.hid (linkTop_any 2 0 (by omega) (by omega))
  have HD := Lib.hid (handleHead_any 0 1 (by omega) (by omega))
  rw [mkLink_1] at MK
  rw [mkTop_2] at TP
  rw [mkHead_1] at HD
  have HS := Lib.hid (wls_begin B S · hs0.1)
  have HE := Lib.hid (wls_end B S)
  have HT := Lib.hid (wls_step B S)
  have HI := Lib.hid (fun (l r : Nat) => @idx_lt (18 + B + 6 * S) l L r)
  have hd0 : (ints .i64 14 c)[0]? = some (.int .i64 (L : Int)) := by rw [← hn.lev]; rfl
  have hd10 : (ints .i64 14 c)[10]? = some (.int .i64 (S : Int)) := by rw [← hn.slo]; rfl
  have hz14 : (ints .i64 14 c).size = 14 := rfl
  have one14 : (ints .i64 14 c).toList.all (·.oneCell') = true := rfl
  have zconf : (Tryz.prog.info? 29).bind (·.zero) = some (.agg #[.int .i64 0, .int .i64 0, .int .i64 0, .int .i64 0, .int .i64 0, .int .i64 0, .int .i64 0, .int .i64 0, .int .i64 0, .int .i64 0, .int .i64 0, .int .i64 0, .int .i64 0, .int .i64 0]) := by kernel_rfl
  have WZ := Lib.hid (wl_zero B S)
  clear hf8 hf9 hm8 hm9 hNL hc hn
  generalize hsz : 18 + B + 6 * S = sz at *
  generalize hN : L * sz = N at *
  have MS := mk_u64 N (by omega)
  go_enter Tryz.func20, Tryz.ntmps20
  go_upto_region 2 with (first
    | (go_at_call 40; refine (WD.out _ _ h hp).mono ?_; clear h; rintro r w ⟨rfl, h⟩))
  clear MS
  obtain ⟨M1, hbx, hle1, hwb, hnw⟩ := h.box (.cells (ints .u64 N fun _ => 0) 46)
  generalize w.alloc _ = wx at hbx ⊢
  generalize w.heap.size = wb at hwb hnw ⊢
  clear h
  try clear w
  have h := hbx
  clear hbx
  obtain ⟨w, rfl⟩ : ∃ x : World, x = wx := ⟨_, rfl⟩
  generalize ints .i64 14 c = r14 at CF hd0 hd10 hz14 one14
  go_upto_region 3 with (first
    | (go_at_call 25; refine (CF.out _ _ h (hle1 _ _ hp)).mono ?_; clear h; rintro r w ⟨rfl, h⟩)
    | ((with_reducible show wpList _ _ _ ({ dst := some 4, op := Op.alloc 29, type := _, pos := _, after := _, guard := _ } :: _) _ _); refine wpList_alloc_has h rfl 29 rfl _ zconf ?_; clear h; intro bc w h hnc; try simp only [Act.put, List.setIfInBounds_toArray, List.set_cons_zero, List.set_cons_succ])
    | (refine wpList_storeAll_has (cells := r14) h rfl 29 _ _ rfl rfl rfl (Mm.upd_same _ _ _) rfl hz14.symm rfl (by rw [hz14]; kernel_rfl) one14 ?_; clear h; intro w h))
  rw [Mm.upd_upd] at h
  have hneq : wb ≠ bc := Mm.ne_of hnc hwb
  have hbcM : M bc = none := Mm.none_of hle1 hnc
  have hwb2 := (Mm.upd_ne (o := .cells r14 29) hneq).trans hwb
  obtain ⟨Mb, hMb⟩ : ∃ Mb, Mb = M.upd bc (.cells r14 29) := ⟨_, rfl⟩
  have hleB : Mb.le (M1.upd bc (.cells r14 29)) := by
    rw [hMb]
    intro q o hq
    unfold Mm.upd at hq ⊢
    split at hq
    · rw [if_pos (by assumption)]; exact hq
    · rw [if_neg (by assumption)]; exact hle1 _ _ hq
  have nb : Mb wb = none := by rw [hMb, Mm.upd_ne hneq]; exact hnw
  have hbc : Mb bc = some (.cells r14 29) := by rw [hMb]; exact Mm.upd_same _ _ _
  have hMle : M.le Mb := by rw [hMb]; exact Mm.le_upd' hbcM _
  generalize M1.upd bc _ = M2 at h hwb2 hleB
  clear hMb hle1 hnc hwb hneq hbcM
  have hbc2 := hleB _ _ hbc
  go_upto_region 4 with (first
    | (with_reducible show wpList _ _ _ ({ dst := _, op := Op.load 3 _, type := _, pos := _, after := _, guard := _ } :: _) _ _; refine wpList_load1_has h rfl 3 _ rfl rfl hbc2 hd0 Tryz.underlying3 rfl ?_))
  clear hbc2
  go_loopw [5, 6, 7, 15] (fun v5 v6 v7 i wr => ∃ (l : Nat) (M' : Mm), l ≤ L ∧ i = .int .i64 l ∧ Has σ M' wr ∧ Mb.le M' ∧ M' wb = some (.cells (ints .u64 N (wl B S l)) 46)) (fun _ _ _ i _ => L - (intOf i).toNat)
  case atStart => exact ⟨0, M2, Nat.zero_le _, rfl, h, hleB, by rw [WZ.out]; exact hwb2⟩
  case round =>
    clear h hleB hwb2 w
    obtain ⟨w, rfl⟩ : ∃ x : World, x = wr := ⟨_, rfl⟩
    obtain ⟨l, M', hl, rfl, h, hle, hwb⟩ := hrel
    by_cases hlt : l < L
    · have HL := Lib.hid hlt
      have HB := Lib.hid (HS.out l)
      have i0 : l * sz + 0 < N := HI.out l 0 hlt (by omega)
      have i1 : l * sz + 1 < N := HI.out l 1 hlt (by omega)
      have i2 : l * sz + 2 < N := HI.out l 2 hlt (by omega)
      have i3 : l * sz + 3 < N := HI.out l 3 hlt (by omega)
      have i9 : l * sz + (18 + B + S) < N := HI.out l (18 + B + S) hlt (by omega)
      have I8 : Hid (∀ s, 2 ≤ s → s < S → l * sz + (18 + B + (s - 1)) < N) := fun s h2 h3 => HI.out l _ hlt (by omega)
      have B0 := Lib.hid (fun (M' : Mm) (w : World) (h : Has σ M' w) (hle : M.le M') => A0.out M' w h hle l hlt)
      have B1 := Lib.hid (fun (M' : Mm) (w : World) (h : Has σ M' w) (hle : M.le M') => A1.out M' w h hle l hlt)
      have B2 := Lib.hid (fun (M' : Mm) (w : World) (h : Has σ M' w) (hle : M.le M') => A2.out M' w h hle l hlt)
      have B3 := Lib.hid (fun (M' : Mm) (w : World) (h : Has σ M' w) (hle : M.le M') => A3.out M' w h hle l hlt)
      have B9 := Lib.hid (fun (M' : Mm) (w : World) (h : Has σ M' w) (hle : M.le M') => A9.out M' w h hle l hlt)
      have B8 := Lib.hid (fun (M' : Mm) (w : World) (h : Has σ M' w) (hle : M.le M') s => A8.out M' w h hle l s hlt)
      have T8 := Lib.hid (fun s => HT.out l s)
      have HE1 := Lib.hid (HE.out l)
      clear A0 A1 A2 A3 A8 A9 HS HT HI HE hN
      generalize l * sz + 0 = j0 at *
      generalize l * sz + 1 = j1 at *
      generalize l * sz + 2 = j2 at *
      generalize l * sz + 3 = j3 at *
      generalize l * sz + (18 + B + S) = j9 at *
      go_upto_region 7 with (first
        | (go_at_call 41; refine (MK.out _).mono ?_; rintro r w' ⟨rfl, rfl⟩))
      have hlm := Lib.hid (Mm.le_trans hMle hle)
      go_upto_region 8 with (first
        | (go_at_call 42; refine (B1.out _ _ h hlm.out).mono ?_; clear h; rintro r w ⟨rfl, h⟩)
        | (with_reducible show wpList _ _ _ ({ dst := _, op := Op.store 46 _ _, type := _, pos := _, after := _, guard := _ } :: _) _ _; refine wpList_store1_has h rfl 46 _ _ rfl rfl rfl hwb (by rw [ints_size]; exact i1) rfl (by kernel_rfl) ?_; clear h; intro w h))
      obtain ⟨M', hq, hleq, hwbq⟩ := put_step (o := .cells (Array.setIfInBounds _ j1 (.int .u64 2)) 46) h hle nb
      replace h := hq
      replace hle := hleq
      replace hwb := hwbq
      clear hq hleq hwbq
      rw [ints_set] at hwb
      clear hlm
      have hlm := Lib.hid (Mm.le_trans hMle hle)
      go_upto_region 9 with (first
        | (go_at_call 42; refine (B2.out _ _ h hlm.out).mono ?_; clear h; rintro r w ⟨rfl, h⟩)
        | (with_reducible show wpList _ _ _ ({ dst := _, op := Op.store 46 _ _, type := _, pos := _, after := _, guard := _ } :: _) _ _; refine wpList_store1_has h rfl 46 _ _ rfl rfl rfl hwb (by rw [ints_size]; exact i2) rfl (by kernel_rfl) ?_; clear h; intro w h))
      obtain ⟨M', hq, hleq, hwbq⟩ := put_step (o := .cells (Array.setIfInBounds _ j2 (.int .u64 1)) 46) h hle nb
      replace h := hq
      replace hle := hleq
      replace hwb := hwbq
      clear hq hleq hwbq
      rw [ints_set] at hwb
      clear hlm
      have hlm := Lib.hid (Mm.le_trans hMle hle)
      go_upto_region 10 with (first
        | (go_at_call 42; refine (B3.out _ _ h hlm.out).mono ?_; clear h; rintro r w ⟨rfl, h⟩)
        | (with_reducible show wpList _ _ _ ({ dst := _, op := Op.store 46 _ _, type := _, pos := _, after := _, guard := _ } :: _) _ _; refine wpList_store1_has h rfl 46 _ _ rfl rfl rfl hwb (by rw [ints_size]; exact i3) rfl (by kernel_rfl) ?_; clear h; intro w h))
      obtain ⟨M', hq, hleq, hwbq⟩ := put_step (o := .cells (Array.setIfInBounds _ j3 (.int .u64 1)) 46) h hle nb
      replace h := hq
      replace hle := hleq
      replace hwb := hwbq
      clear hq hleq hwbq
      rw [ints_set] at hwb
      clear hlm
      have hlm := Lib.hid (Mm.le_trans hMle hle)
      go_upto_region 11 with (first
        | (go_at_call 42; refine (B0.out _ _ h hlm.out).mono ?_; clear h; rintro r w ⟨rfl, h⟩)
        | (with_reducible show wpList _ _ _ ({ dst := _, op := Op.store 46 _ _, type := _, pos := _, after := _, guard := _ } :: _) _ _; refine wpList_store1_has h rfl 46 _ _ rfl rfl rfl hwb (by rw [ints_size]; exact i0) rfl (by kernel_rfl) ?_; clear h; intro w h)
        | (go_at_call 43; refine (TP.out _).mono ?_; rintro r w' ⟨rfl, rfl⟩))
      obtain ⟨M', hq, hleq, hwbq⟩ := put_step (o := .cells (Array.setIfInBounds _ j0 (.int .u64 2)) 46) h hle nb
      replace h := hq
      replace hle := hleq
      replace hwb := hwbq
      clear hq hleq hwbq
      rw [ints_set] at hwb
      clear hlm
      have hlm := Lib.hid (Mm.le_trans hMle hle)
      go_upto_region 12 with (first
        | (go_at_call 42; refine (B9.out _ _ h hlm.out).mono ?_; clear h; rintro r w ⟨rfl, h⟩)
        | (with_reducible show wpList _ _ _ ({ dst := _, op := Op.store 46 _ _, type := _, pos := _, after := _, guard := _ } :: _) _ _; refine wpList_store1_has h rfl 46 _ _ rfl rfl rfl hwb (by rw [ints_size]; exact i9) rfl (by kernel_rfl) ?_; clear h; intro w h)
        | (go_at_call 44; refine (HD.out _).mono ?_; rintro r w' ⟨rfl, rfl⟩))
      obtain ⟨M', hq, hleq, hwbq⟩ := put_step (o := .cells (Array.setIfInBounds _ j9 (.int .u64 1)) 46) h hle nb
      replace h := hq
      replace hle := hleq
      replace hwb := hwbq
      clear hq hleq hwbq
      rw [ints_set] at hwb
      clear hlm
      rw [HB.out] at hwb
      clear HB B0 B1 B2 B3 B9 i0 i1 i2 i3 i9
      go_upto_region 13 with (fail)
      go_loopw [7] (fun s wr => ∃ (s' : Nat) (M' : Mm), 2 ≤ s' ∧ s' ≤ S ∧ s = .int .i64 s' ∧ Has σ M' wr ∧ Mb.le M' ∧ M' wb = some (.cells (ints .u64 N (wls B S l s')) 46)) (fun s _ => S - (intOf s).toNat)
      case atStart => exact ⟨2, M', Nat.le_refl _, hs0.1, rfl, h, hle, hwb⟩
      case round =>
        clear h hle hwb w
        obtain ⟨w, rfl⟩ : ∃ x : World, x = wr := ⟨_, rfl⟩
        obtain ⟨s, M', h2, hsS, rfl, h, hle, hwb⟩ := hrel
        by_cases hs : s < S
        · have i8 := I8.out s h2 hs
          have E8 := Lib.hid (T8.out s h2 hs)
          have C8 := Lib.hid (fun (M' : Mm) (w : World) (h : Has σ M' w) (hle : M.le M') => B8.out M' w h hle s h2 hs)
          have hbc2 := hle _ _ hbc
          have hlm := Lib.hid (Mm.le_trans hMle hle)
          have w1 : IntKind.u64.wrap ((s : Int) + 1) = (s : Int) + 1 := IntWalk.u64_in _ (by omega)
          generalize l * sz + (18 + B + (s - 1)) = j8 at *
          go_upto_region 14 with (first
            | (with_reducible show wpList _ _ _ ({ dst := _, op := Op.load 3 _, type := _, pos := _, after := _, guard := _ } :: _) _ _; refine wpList_load1_has h rfl 3 _ rfl rfl hbc2 hd10 Tryz.underlying3 rfl ?_)
            | (go_at_call 42; refine (C8.out _ _ h hlm.out).mono ?_; clear h; rintro r w ⟨rfl, h⟩)
            | (with_reducible show wpList _ _ _ ({ dst := _, op := Op.store 46 _ _, type := _, pos := _, after := _, guard := _ } :: _) _ _; refine wpList_store1_has h rfl 46 _ _ rfl rfl rfl hwb (by rw [ints_size]; exact i8) rfl (by kernel_rfl) ?_; clear h; intro w h))
          obtain ⟨M', hq, hleq, hwbq⟩ := put_step (o := .cells (Array.setIfInBounds _ j8 (.int .u64 ((s : Int) + 1))) 46) h hle nb
          replace h := hq
          replace hle := hleq
          replace hwb := hwbq
          clear hq hleq hwbq
          rw [ints_set] at hwb
          rw [E8.out] at hwb
          go_wp2
          go_roundw
          case rel => exact ⟨s + 1, M', by omega, by omega, by go_num, h, hle, hwb⟩
          case measure => simp [intOf]; omega
        · obtain rfl : s = S := by omega
          have hbc2 := hle _ _ hbc
          rw [HE1.out] at hwb
          go_wp2_with (first
            | (with_reducible show wpList _ _ _ ({ dst := _, op := Op.load 3 _, type := _, pos := _, after := _, guard := _ } :: _) _ _; refine wpList_load1_has h rfl 3 _ rfl rfl hbc2 hd10 Tryz.underlying3 rfl ?_))
          go_roundw
          case rel => exact ⟨l + 1, M', by have := HL.out; omega, by go_num, h, hle, hwb⟩
          case measure => simp [intOf]; have := HL.out; omega
    · obtain rfl : l = L := by omega
      go_wp2
      go_ret
      exact ⟨wb, M', rfl, h, Mm.le_trans hMle hle, Mm.none_of hMle nb, hwb⟩
end Go.Proofs.YtlpkimpdeeiaaaaGreat
