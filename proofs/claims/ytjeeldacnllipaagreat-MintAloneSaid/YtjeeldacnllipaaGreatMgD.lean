/- Law 25, MintAlone: the law's walk. -/
import Derived.Test.YtjeeldacnllipaaGreatMgC
import Derived.Great.BuildSlice
namespace Go.Proofs.YtjeeldacnllipaaGreat
section
open Go.RowKit
set_option linter.unusedVariables false
set_option linter.unusedSimpArgs false
set_option linter.unnecessarySimpa false
theorem exec_build {P : Program} {a : Act} {o : Oper} (t : TypeId) (parts : Array (Nat × Operand)) (ho : o.op = .build t parts) (cells : Array Value) (h : P.built t (parts.map fun (i, x) => (i, a.eval x)).toList = some cells) (w : World) : (execOp a.eval o).run P w = .ok (.value (.agg cells)) w := by
  unfold execOp
  simp only [ho, Sem.run_bind, run_build w t _ cells h, Result.andThen_ok]
  rfl
theorem exec_build2 {P : Program} {a : Act} {o : Oper} (t : TypeId) (i1 i2 : Nat) (x1 x2 : Operand) (ho : o.op = .build t #[(i1, x1), (i2, x2)]) (v1 v2 : Value) (e1 : a.eval x1 = v1) (e2 : a.eval x2 = v2) (cells : Array Value) (h : P.built t [(i1, v1), (i2, v2)] = some cells) (w : World) : (execOp a.eval o).run P w = .ok (.value (.agg cells)) w := by
  refine exec_build t _ ho cells ?_ w
  simp only [List.map_toArray, List.map_cons, List.map_nil, e1, e2]
  exact h
/-- A slice literal of one struct, at a step of a region that draws. -/
theorem step_lit1 {P : Program} {op : Oper} {a : Act} {ops : Array Oper} {w : World} {Q : Exit → Act → World → Prop} {K : Act → World → Prop} {E : Prop} {e : TypeId} {z : Value} {size bytes : Nat} {cells : Array Value} (hg : op.guard = none) (t : TypeId) (x : Operand) (ho : op.op = .buildSlice t 1 #[(0, x)]) (hu : P.underlying t = some (.slice e)) (hi : (P.info? e).map (fun i => (i.zero, i.size, i.bytes)) = some (some z, size, bytes)) (hv : a.eval x = .agg cells) (hs : 0 < size) (hs2 : size ≤ 1000) (hf : Instr.fill (fun i => some (i * size, size)) ((Array.range (1 * size)).map (z.cells[· % z.cells.size]!)) [(0, .agg cells)] = some cells)
    (hk : K (a.put op.dst (.slice (some ⟨w.heap.size, 0, none⟩) 1 1)) (w.alloc (.cells cells e))) : if Region.wanted op (yielded ops a.tmps) = true then Oper.wp P op a w K Q else E := by
  have hw : Region.wanted op (yielded ops a.tmps) = true := by simp [Region.wanted, hg]
  rw [if_pos hw]
  obtain ⟨i, hi1, hz, hsize, hby⟩ := info_parts hi
  subst hsize
  refine wp_buildSlice t e 1 #[(0, x)] ho cells i z hu hi1 hz (by omega) (by omega) ?_ hk
  simp only [List.map_toArray, List.map_cons, List.map_nil, hv]
  exact hf
set_option maxHeartbeats 100000000 in
set_option maxRecDepth 20000 in
theorem mAlone_long {σ w : World} {M : Mm} (h : Has σ M w) (c : Nat → Int) (hc : ConfMay c) {L B S gens T : Nat} (hn : Nums c L B S) (hg : c 12 = (gens : Nat)) (hT : c 1 = (T : Nat)) {A : Option Addr} {n cap : Nat} {lst : List DeedS} (hr : Rd M 6 (.slice A n cap) n (lst.flatMap encD)) (hl : lst.length = n) (h60 : n ≤ 60) :
    Calls Tryz.prog 6 #[confV c, .slice A n cap] w fun r w' => r = .returned (.bool true) ∧ Has σ M w' := by
  have NW := Lib.hid (fun (M' : Mm) (w : World) (h : Has σ M' w) => mNew_yes h c hc hn)
  have LI := Lib.hid (fun (M' : Mm) (w : World) (h : Has σ M' w) => mi_lives h)
  have RN := Lib.hid (fun (M' : Mm) (w : World) (h : Has σ M' w) => refNew_eq h c (S := S) hn.slo hn.s0.1 hn.s0.2)
  have hx : (ints .i64 14 c).extract 0 (0 + 14) = ints .i64 14 c := rfl
  have hz : (ints .i64 14 c).size = 14 := rfl
  have r0 : (ints .i64 14 c)[0]? = some (.int .i64 (L : Nat)) := by rw [← hn.lev]; rfl
  have g60 : decide ((60 : Int) < (n : Int)) = false := decide_eq_false (by omega)
  have g60' : ¬ (60 : Int) < (n : Int) := by omega
  have hl0 := hn.l0
  have MS := mk_mades L (by omega)
  have HC := Lib.hid hc
  have HNU := Lib.hid hn
  have HG := Lib.hid hg
  have HT := Lib.hid hT
  have HR := Lib.hid hr
  have HL := Lib.hid hl
  have hn60 : n ≤ 60 := h60
  unfold confV at NW RN ⊢
  clear hc hn hg hT hr hl h60
  generalize hrw : ints .i64 14 c = row at NW RN hx hz r0 ⊢
  have HRW := Lib.hid hrw
  clear hrw
  go_enter Tryz.func6, Tryz.ntmps6
  go_upto_region 1 with (fail)
  obtain ⟨M1, hbx, hle1, hbf, hnf⟩ := h.box (.cells row 24)
  generalize w.alloc _ = wx at hbx ⊢
  generalize w.heap.size = bf at hbf hnf ⊢
  clear h
  try clear w
  have h := hbx
  clear hbx
  obtain ⟨w, rfl⟩ : ∃ x : World, x = wx := ⟨_, rfl⟩
  go_upto_region 5 with (first
    | ((with_reducible show wpList _ _ _ ({ dst := _, op := Op.load 24 _, type := _, pos := _, after := _, guard := _ } :: _) _ _); refine wpList_agg_has h rfl 24 _ rfl rfl hbf hx hz Tryz.underlying24 rfl (by kernel_rfl) ?_; try simp only [Act.put, List.setIfInBounds_toArray, List.set_cons_zero, List.set_cons_succ])
    | ((go_at_call 9; refine (NW.out _ _ h).mono ?_; clear h; rintro _ w ⟨p, M2, lab2, s, rfl, h, hB2, hM2, hN⟩)))
  have HM2 := Lib.hid hM2
  have HB2 := Lib.hid hB2
  have HN := Lib.hid hN
  have hbf2 := hB2.le _ _ hbf
  clear hM2 hB2 hN NW
  go_upto_region 6 with (first
    | (with_reducible show wpList _ _ _ ({ dst := _, op := Op.load 3 _, type := _, pos := _, after := _, guard := _ } :: _) _ _; refine wpList_load1_has h rfl 3 _ rfl rfl hbf2 r0 Tryz.underlying3 rfl ?_))
  clear MS
  obtain ⟨M3, hbx, hle3, hbh, hnh⟩ := h.box (.cells (nils L).toArray 87)
  generalize w.alloc _ = wx at hbx ⊢
  generalize w.heap.size = bh at hbh hnh ⊢
  clear h
  try clear w
  have h := hbx
  clear hbx
  obtain ⟨w, rfl⟩ : ∃ x : World, x = wx := ⟨_, rfl⟩
  have hO3 : Own (outK M1 M2 (fun _ => 0) 2) M3 87 1 (.slice (some ⟨bh, 0, none⟩) L L) L (nils L) := by
    rw [outK_self (fun c o hc => by show (0 : Nat) ≠ 2; decide)]
    exact ⟨by simp [nils], .inr ⟨bh, L, _, rfl, hnh, hbh, Nat.le_refl _, by unfold maxLen; omega, by simp [nils], by rw [Nat.mul_one]; exact List.take_of_length_le (by simp [nils])⟩⟩
  obtain ⟨lab3, K3, labK3, hM3, hB3, hK3, hR3⟩ := HM2.out.rowTo HB2.out (by rw [outK_self (fun c o hc => by show (0 : Nat) ≠ 2; decide)]; exact hle3) hO3
  have hS3 : M1.le (stable K3 labK3) := fun c o hc => by
    obtain ⟨a, b⟩ := hK3 c o hc (by show ¬ (0 : Nat) = 2; decide)
    unfold stable
    rw [if_pos (show labK3 c = 0 from b)]
    exact a
  have hA3 : LawM K3 labK3 L S 0 (.slice none 0 0) (.slice (some ⟨bh, 0, none⟩) L L) (fun _ => (.slice none 0 0, .slice none 0 0)) (fun _ => .slice none 0 0) (fun _ => slots (S - 1)) (fun _ => List.replicate S 0) (fun _ => []) :=
    ⟨Row.nil _ _ _ _ _, fun k hk => absurd hk (Nat.not_lt_zero _), fun k hk => absurd hk (Nat.not_lt_zero _), hR3, fun k hk => Row.nil _ _ _ _ _⟩
  have HM3 := Lib.hid hM3
  have HB3 := Lib.hid hB3
  have HS3 := Lib.hid hS3
  have HA3 := Lib.hid hA3
  have HLE1 := Lib.hid hle1
  clear hO3 hM3 hB3 hK3 hR3 hS3 hA3 hbf2 hle3 hbh hnh HM2 HB2 hle1
  go_upto_region 7 with (fail)
  go_loopw [7, 9] (fun xv u wr => ∃ (k : Nat) (M : Mm) (lab : Nat → Nat) (K : Mm) (labK : Nat → Nat) (fx : Nat → Value × Value), k ≤ L ∧ u = .int .i64 (k : Nat) ∧ Has σ M wr ∧ Mach M lab p s ∧ Base K M lab ∧ M1.le (stable K labK) ∧ LawM K labK L S k xv (.slice (some ⟨bh, 0, none⟩) L L) fx (fun _ => .slice none 0 0) (fun _ => slots (S - 1)) (fun _ => List.replicate S 0) (fun _ => [])) (fun _ u _ => L - (intOf u).toNat)
  case atStart => exact ⟨0, M3, lab3, K3, labK3, _, Nat.zero_le _, rfl, h, HM3.out, HB3.out, HS3.out, HA3.out⟩
  case round =>
    clear h w HM3 HB3 HS3 HA3 lab3 K3 labK3 M3 M2
    obtain ⟨w, rfl⟩ : ∃ x : World, x = wr := ⟨_, rfl⟩
    obtain ⟨k, M2, lab2, K2, labK2, fx, hk, rfl, h, hM2, hB2, hS2, hA2⟩ := hrel
    have hbf2 := hB2.le _ _ (stable_le _ _ _ _ (hS2 _ _ hbf))
    obtain ⟨xA, xc, rfl⟩ := hA2.xrow.form
    by_cases hlt : k < L
    · have RN2 := Lib.hid (fun (w : World) (h : Has σ M2 w) => RN.out M2 w h)
      have HM2 := Lib.hid hM2
      have HB2 := Lib.hid hB2
      have HS2 := Lib.hid hS2
      have HA2 := Lib.hid hA2
      have HLT := Lib.hid hlt
      have hlt' : (k : Int) < (L : Int) := by omega
      have k4 : k < 4 := by omega
      clear hM2 hB2 hS2 hA2 hlt hk
      go_upto_region 8 with (first
        | (with_reducible show wpList _ _ _ ({ dst := _, op := Op.load 3 _, type := _, pos := _, after := _, guard := _ } :: _) _ _; refine wpList_load1_has h rfl 3 _ rfl rfl hbf2 r0 Tryz.underlying3 rfl ?_)
        | ((with_reducible show wpList _ _ _ ({ dst := _, op := Op.load 24 _, type := _, pos := _, after := _, guard := _ } :: _) _ _); refine wpList_agg_has h rfl 24 _ rfl rfl hbf2 hx hz Tryz.underlying24 rfl (by kernel_rfl) ?_; try simp only [Act.put, List.setIfInBounds_toArray, List.set_cons_zero, List.set_cons_succ])
        | ((go_at_call 39; refine (RN2.out _ h).mono ?_; clear h; rintro _ w ⟨uL, uG, M5, rfl, h, hle5, oL, oG⟩; obtain ⟨A1, c1, rfl⟩ := oL.form; obtain ⟨A2, c2, rfl⟩ := oG.form; obtain ⟨lab5, hM5, hB5⟩ := HM2.out.learn HB2.out hle5; have hA5 := HA2.out.keep (learn_kp HB2.out.le M5 labK2); have rL := learn_rd HB2.out.le labK2 oL; have rG := learn_rd HB2.out.le labK2 oG; have hS5 := Mm.le_trans HS2.out (stable_kp (learn_kp HB2.out.le M5 labK2) (fun h => h)); have hO := hA5.xrow.up hB5.le; have hOle := outK_le (learn K2 M2 M5) M5 (relab K2 labK2 fun _ => 0) 1))
        | (at_builtin; refine wpList_append_lit h hOle rfl _ _ _ rfl rfl Tryz.underlying80 info_F rfl (by omega) rfl hO rfl rfl rfl (by omega) (by omega) ?_; clear h hOle hO; intro v w hacc))
      obtain ⟨M7, h, hle7, hown7⟩ := hacc
      obtain ⟨lab7, K7, labK7, hM7, hB7, hK7, hR7⟩ := hM5.rowTo hB5 hle7 hown7
      have hA7 := hA5.push hK7 hR7 (by rw [slots_len]; exact rL) rG
      have hS7 := Mm.le_trans hS5 (stable_kp hK7 (by omega))
      clear rL rG oL oG hA5 hM5 hB5 hK7 hR7 hS5 hle5 RN2
      go_wp2
      go_roundw
      case rel => exact ⟨k + 1, M7, lab7, K7, labK7, _, by have := HLT.out; omega, by go_num, h, hM7, hB7, hS7, hA7⟩
      case measure => have := HLT.out; simp [intOf]; omega
    · have e : L = k := by omega
      subst e
      have hAI : MaJ c S B L T s.tp 0 s (fun _ => slots (S - 1)) (fun _ => List.replicate S 0) (fun _ => []) := ⟨⟨0, 0, gm0 B S, Nat.le_refl _, absM_first HNU.out HC.out HN.out hM2.wsz, Nat.le_refl _, MaI.first HNU.out.s0.1⟩⟩
      obtain ⟨gx, cx, hxe⟩ := Own.pos hA2.xrow (by omega)
      cases hxe
      have HM2 := Lib.hid hM2
      have HB2 := Lib.hid hB2
      have HS2 := Lib.hid hS2
      have HA2 := Lib.hid hA2
      have HAI := Lib.hid hAI
      have hlt' : ¬ (L : Int) < (L : Int) := by omega
      obtain ⟨tp, HTP⟩ : ∃ tp, Hid (tp = s.tp) := ⟨_, rfl⟩
      obtain ⟨tlen, HTL⟩ : ∃ tl, Hid (tl = tp.length ∧ (tl : Int) = c 1) := ⟨_, Lib.hid ⟨rfl, by rw [HTP.out, hM2.tlen, HN.out.c]⟩⟩
      rw [← HTP.out] at HAI
      clear hM2 hB2 hS2 hA2 hk hlt hAI RN
      go_upto_region 11 with (first
        | (with_reducible show wpList _ _ _ ({ dst := _, op := Op.load 3 _, type := _, pos := _, after := _, guard := _ } :: _) _ _; refine wpList_load1_has h rfl 3 _ rfl rfl hbf2 r0 Tryz.underlying3 rfl ?_))
      clear hbf2
      go_loopw [10] (fun u wr => ∃ (i : Nat) (M : Mm) (lab : Nat → Nat) (K : Mm) (labK : Nat → Nat) (s : MachS) (fx : Nat → Value × Value) (fh : Nat → Value) (Lf gl : Nat → List Nat) (md : Nat → List Mk), i ≤ n ∧ u = .int .i64 (i : Nat) ∧ Has σ M wr ∧ Mach M lab p s ∧ Base K M lab ∧ M1.le (stable K labK) ∧ LawM K labK L S L (.slice (some ⟨gx, 0, none⟩) L xc) (.slice (some ⟨bh, 0, none⟩) L L) fx fh Lf gl md ∧ MaJ c S B L T tp i s Lf gl md) (fun u _ => n - (intOf u).toNat)
      case atStart => exact ⟨0, M2, lab2, K2, labK2, s, _, _, _, _, _, Nat.zero_le _, rfl, h, HM2.out, HB2.out, HS2.out, HA2.out, HAI.out⟩
      case round =>
        clear h w HM2 HB2 HS2 HA2 HAI HN HTP lab2 K2 labK2 M2 fx
        obtain ⟨w, rfl⟩ : ∃ x : World, x = wr := ⟨_, rfl⟩
        obtain ⟨i, M2, lab2, K2, labK2, s, fx, fh, Lf, gl, md, hi, rfl, h, hM2, hB2, hS2, hA2, hAI⟩ := hrel
        have hKM := hB2.le
        have HM2 := Lib.hid hM2
        have HB2 := Lib.hid hB2
        have HS2 := Lib.hid hS2
        have HA2 := Lib.hid hA2
        have HAI := Lib.hid hAI
        have HKM := Lib.hid hKM
        clear hM2 hB2 hS2 hA2 hAI hKM
        by_cases hlt : i < n
        · have hrd : Rd M2 6 (.slice A n cap) n (lst.flatMap encD) := HR.out.le (Mm.le_trans HLE1.out (Mm.le_trans HS2.out (Mm.le_trans (stable_le _ _) HKM.out)))
          obtain ⟨e, he⟩ : ∃ e, lst[i]? = some e := ⟨_, List.getElem?_eq_getElem (by rw [HL.out]; exact hlt)⟩
          obtain ⟨bl, ol, cl, csl, tl2, fzl, hle, hbl, hcl⟩ := hrd.elem (enc := encD) encD_len hlt he
          obtain ⟨et, eg, est, ek, ea, eb, hst, hek, hea, heb⟩ := e
          obtain ⟨drow, hdr⟩ : ∃ r : Array Value, (encD ⟨et, eg, est, ek, ea, eb, hst, hek, hea, heb⟩).toArray = r := ⟨_, rfl⟩
          have hxD : csl.extract (ol + i * 6) (ol + i * 6 + 6) = drow := by rw [← hdr]; exact extract_of (xs := encD ⟨et, eg, est, ek, ea, eb, hst, hek, hea, heb⟩) hcl rfl
          have hzD : drow.size = 6 := by rw [← hdr]; rfl
          have hoD : drow.toList.all (·.oneCell') = true := by rw [← hdr]; rfl
          have dd0 : drow[0]? = some (.int .i64 et) := by rw [← hdr]; rfl
          have dd1 : drow[1]? = some (.int .i64 eg) := by rw [← hdr]; rfl
          have dd2 : drow[2]? = some (.int .u8 (est : Nat)) := by rw [← hdr]; rfl
          have dd3 : drow[3]? = some (.int .u64 (ek : Nat)) := by rw [← hdr]; rfl
          have dd4 : drow[4]? = some (.int .u64 (ea : Nat)) := by rw [← hdr]; rfl
          have dd5 : drow[5]? = some (.int .u64 (eb : Nat)) := by rw [← hdr]; rfl
          have HE := Lib.hid (⟨hst, hek, hea, heb⟩ : est < 256 ∧ ek < 18446744073709551616 ∧ ea < 18446744073709551616 ∧ eb < 18446744073709551616)
          cases hle
          have hlt' : (i : Int) < (n : Int) := by omega
          have HLT := Lib.hid hlt
          clear hcl hrd he hlt hi hdr hst hek hea heb
          go_upto_region 14 with (first
            | ((with_reducible show wpList _ _ _ ({ dst := _, op := Op.load 86 _, type := _, pos := _, after := _, guard := _ } :: _) _ _); refine wpList_agg_has h rfl 86 _ rfl rfl hbl hxD hzD Tryz.underlying86 rfl (by kernel_rfl) ?_; try simp only [Act.put, List.setIfInBounds_toArray, List.set_cons_zero, List.set_cons_succ])
            | ((with_reducible show wpList _ _ _ ({ dst := _, op := Op.alloc 86, type := _, pos := _, after := _, guard := _ } :: _) _ _); refine wpList_alloc_has h rfl 86 rfl _ zD ?_; clear h; intro b11 w h hn11; try simp only [Act.put, List.setIfInBounds_toArray, List.set_cons_zero, List.set_cons_succ])
            | ((with_reducible show wpList _ _ _ ({ dst := _, op := Op.store 86 _ _, type := _, pos := _, after := _, guard := _ } :: _) _ _); (refine wpList_storeAll_has (cells := drow) h rfl 86 _ _ rfl rfl rfl (Mm.upd_same _ _ _) rfl rfl hzD (by kernel_rfl) hoD ?_); clear h; intro w h))
          rw [Mm.upd_upd] at h
          have hle3 := Mm.le_upd' hn11 (.cells drow 86)
          have hb11 := Mm.upd_same M2 b11 (.cells drow 86)
          generalize M2.upd b11 _ = M3 at h hle3 hb11
          obtain ⟨lab3, hM3, hB3⟩ := HM2.out.learn HB2.out hle3
          have hkp3 := learn_kp HB2.out.le M3 labK2
          have hA3 := HA2.out.keep hkp3
          have hS3 := Mm.le_trans HS2.out (stable_kp hkp3 fun h => h)
          have hst3 : stable (learn K2 M2 M3) (relab K2 labK2 fun _ => 0) b11 = some (.cells drow 86) := by
            have k0 : K2 b11 = none := Mm.none_of HKM.out hn11
            unfold stable learn relab
            simp only [k0, hn11, hb11, if_true]
          generalize learn K2 M2 M3 = K3 at *
          generalize relab K2 labK2 (fun _ => 0) = labK3 at *
          have HM3 := Lib.hid hM3
          have HB3 := Lib.hid hB3
          have HS3 := Lib.hid hS3
          have HA3 := Lib.hid hA3
          have HST3 := Lib.hid hst3
          have HK3 := Lib.hid hB3.le
          clear hM3 hB3 hS3 hA3 hst3 hkp3 hle3 hn11 HM2 HB2 HS2 HA2 HKM hbl hxD hzD hoD K2 labK2 lab2 M2
          have LV := Lib.hid (fun (w : World) (h : Has σ M3 w) => mLevel_eq h HM3.out et)
          go_upto_region 15 with (first
            | (with_reducible show wpList _ _ _ ({ dst := _, op := Op.load 3 _, type := _, pos := _, after := _, guard := _ } :: _) _ _; refine wpList_load1_has h rfl 3 _ rfl rfl hb11 dd0 Tryz.underlying3 rfl ?_)
            | (go_at_call 12; refine (LV.out _ h).mono ?_; clear h; rintro _ w ⟨rfl, h⟩))
          obtain ⟨a, m, g, ha, hA, hm, hI⟩ := HAI.out.all
          by_cases htt : 0 ≤ et ∧ et < (T : Int)
          · obtain ⟨tn, rfl⟩ : ∃ tn : Nat, et = (tn : Nat) := ⟨et.toNat, by omega⟩
            have htn : tn < T := by omega
            obtain ⟨elv, ll⟩ := levT_of HC.out HNU.out HT.out htn
            rw [hA.cc, elv]
            obtain ⟨lv, hlv⟩ : ∃ lv, levT c tn = lv := ⟨_, rfl⟩
            rw [hlv] at ll elv ⊢
            obtain ⟨curH, hcb, hcu⟩ := Own.at_ HA3.out.hrow
            obtain ⟨Ah, ch, hfe⟩ := (HA3.out.each lv ll).form
            have eH : curH[lv]? = some (.slice Ah (md lv).length ch) := by
              rw [← hfe]
              exact hcu lv _ (by rw [List.getElem?_map, List.getElem?_range ll]; rfl)
            have hbm := HK3.out _ _ hcb
            obtain ⟨nh, hnh⟩ : ∃ nh, (md lv).length = nh := ⟨_, rfl⟩
            rw [hnh] at eH
            have gl0 : decide ((lv : Int) < 0) = false := decide_eq_false (by omega)
            have hll : (lv : Int) < (L : Int) := by omega
            have HALL := Lib.hid (⟨ha, hA, hm, hI⟩ : a ≤ 12 * i ∧ AbsM c tp a s g ∧ m ≤ i ∧ MaI S B L T m g Lf gl md)
            have HLV := Lib.hid hlv
            have HNH := Lib.hid hnh
            have HTN := Lib.hid htn
            clear ha hA hm hI hlv elv hnh hfe hcb hcu htt LV htn
            refine wp_region_class (Has σ M3) (by kernel_rfl) (by kernel_rfl) h.drew ?_
            clear h
            repeat (first
              | go_big_quiet_skip
              | (go_big_quiet_want; first
                | (refine quiet_load_has 87 _ rfl rfl hbm eH Tryz.underlying87 rfl ?_; simp only [Act.put, List.setIfInBounds_toArray, List.set_cons_zero, List.set_cons_succ]; go_big_quiet_on)
                | (refine quiet_load_has 3 _ rfl rfl hb11 dd1 Tryz.underlying3 rfl ?_; simp only [Act.put, List.setIfInBounds_toArray, List.set_cons_zero, List.set_cons_succ]; go_big_quiet_on)
                | (go_big_quiet_op; first | go_big_quiet_on | go_big_quiet_call (first | with_reducible exact fun _ => rfl))))
            refine wpQuiet_nil ?_
            try clear w
            intro w h
            clear hbm eH hll
            by_cases hw : (nh : Int) ≤ eg
            · have hw2 : decide ((nh : Int) ≤ eg) = true := decide_eq_true hw
              go_wp2
              go_roundw
              case rel => exact ⟨i + 1, M3, lab3, K3, labK3, s, fx, fh, Lf, gl, md, by have := HLT.out; omega, by first | rfl | go_num, h, HM3.out, HB3.out, HS3.out, HA3.out, HAI.out.mono (Nat.le_succ _)⟩
              case measure => have := HLT.out; simp [intOf]; omega
            · have hw2 : decide ((nh : Int) ≤ eg) = false := decide_eq_false hw
              go_upto_region 16 with (fail)
              clear hw2 gl0
              have hi1000 : a ≤ 1000 ∧ m ≤ 1000 := by have h1 := HALL.out.1; have h2 := HALL.out.2.2.1; have h3 := HLT.out; omega
              obtain ⟨q, hq⟩ : ∃ q, tp[tn]? = some q := ⟨_, List.getElem?_eq_getElem (by have h1 := HTL.out; have h2 := HT.out; have h3 := HTN.out; omega)⟩
              have HQ := Lib.hid hq
              have HI := Lib.hid hi1000
              have hL60 : (Lf lv).length ≤ 60 := by have h1 := HALL.out.2.2.2.free ll; have h2 := HNU.out.s0.2; omega
              have HL60 := Lib.hid hL60
              clear hq hi1000 hL60
              by_cases hneg : eg < 0
              · as_aux_lemma =>
                  have st4 : est % 4 < 4 := Nat.mod_lt _ (by decide)
                  have t1 : ((est : Int)).tmod 4 = ((est % 4 : Nat) : Int) := by rw [Int.tmod_eq_emod_of_nonneg (by omega)]; omega
                  generalize est % 4 = sm at st4 t1
                  have w1 : IntKind.u8.wrap (sm : Int) = (sm : Int) := IntWalk.u8_in _ (by omega)
                  have w2 : IntKind.i64.wrap (sm : Int) = (sm : Int) := IntWalk.i64_in _ (by omega)
                  have w3 : IntKind.u64.wrap (sm : Int) = (sm : Int) := IntWalk.u64_in _ (by omega)
                  have hneg' : ¬ 0 ≤ eg := by omega
                  have hll : (lv : Int) < (L : Int) := by omega
                  clear hw
                  go_upto_region 23 with (first
                    | (with_reducible show wpList _ _ _ ({ dst := _, op := Op.load 3 _, type := _, pos := _, after := _, guard := _ } :: _) _ _; refine wpList_load1_has h rfl 3 _ rfl rfl hb11 dd1 Tryz.underlying3 rfl ?_)
                    | (with_reducible show wpList _ _ _ ({ dst := _, op := Op.load 5 _, type := _, pos := _, after := _, guard := _ } :: _) _ _; refine wpList_load1_has h rfl 5 _ rfl rfl hb11 dd2 Tryz.underlying5 rfl ?_))
                  clear hneg' hneg
                  obtain ⟨curX, hxb, hcx⟩ := Own.at_ HA3.out.xrow
                  have hrL := HA3.out.xl lv ll
                  have hrG := HA3.out.xg lv ll
                  obtain ⟨AL, cL, hfL⟩ := hrL.form
                  obtain ⟨AG, cG, hfG⟩ := hrG.form
                  have hxx : curX.extract (lv * 2) (lv * 2 + 2) = #[(fx lv).1, (fx lv).2] := extract_of (xs := encF (fx lv)) (fun j u hu => hcx _ _ (by rw [flat_get encF_len _ lv (fx lv) (by rw [List.getElem?_map, List.getElem?_range ll]; rfl) j (by have := (List.getElem?_eq_some_iff.1 hu).1; simpa [encF] using this)]; exact hu)) rfl
                  have hxb3 := HK3.out _ _ hxb
                  have hst3 := Mm.le_trans (stable_le K3 labK3) HK3.out
                  have RT := Lib.hid (fun (w : World) (h : Has σ M3 w) => refTake_gm h (hrL.le hst3) (hrG.le hst3) (HALL.out.2.2.2.gen lv ll) (fun x hx => ⟨((HALL.out.2.2.2.lv lv ll).rng x hx).1, ((HALL.out.2.2.2.lv lv ll).rng x hx).2.1⟩) HNU.out.s0.2)
                  rw [hfL, hfG] at hxx RT
                  have HRL := Lib.hid hrL
                  have HRG := Lib.hid hrG
                  have HFL := Lib.hid hfL
                  have HFG := Lib.hid hfG
                  clear hxb hcx hrL hrG hfL hfG hst3
                  obtain ⟨x0, hx0⟩ : ∃ x0, (Lf lv).headD 0 = x0 := ⟨_, rfl⟩
                  obtain ⟨y0, hy0⟩ : ∃ y0, toldN B S g lv (Lf lv) = y0 := ⟨_, rfl⟩
                  obtain ⟨l2, hl2⟩ : ∃ l2, (Lf lv).tail = l2 := ⟨_, rfl⟩
                  rw [hx0, hy0, hl2] at RT
                  have hx60 : x0 ≤ 60 := by
                    rw [← hx0]
                    have h2 := HNU.out.s0.2
                    cases hL : Lf lv with
                    | nil => simp
                    | cons z r => have := ((HALL.out.2.2.2.lv lv ll).rng z (by rw [hL]; exact List.mem_cons_self)).2.1; simp; omega
                  have hy32 : y0 ≤ 1000 := by
                    rw [← hy0]
                    have h2 := HI.out.2
                    cases hL : Lf lv with
                    | nil => simp [toldN]
                    | cons z r =>
                      have h3 := (HALL.out.2.2.2.lv lv ll).rng z (by rw [hL]; exact List.mem_cons_self)
                      have := ((HALL.out.2.2.2.lv lv ll).hd z h3.1 h3.2.1).2
                      show genOf (g.w lv (oNd B S z 0)) ≤ 1000
                      omega
                  have HL2 := Lib.hid hl2
                  have HX0 := Lib.hid hx0
                  have HY0 := Lib.hid hy0
                  clear hx0 hy0 hl2
                  have hxz : (#[.slice AL (Lf lv).length cL, .slice AG S cG] : Array Value).size = 2 := rfl
                  go_upto_region 24 with (first
                    | ((with_reducible show wpList _ _ _ ({ dst := _, op := Op.load 83 _, type := _, pos := _, after := _, guard := _ } :: _) _ _); refine wpList_agg_has h rfl 83 _ rfl rfl hxb3 hxx hxz Tryz.underlying83 rfl (by kernel_rfl) ?_; try simp only [Act.put, List.setIfInBounds_toArray, List.set_cons_zero, List.set_cons_succ])
                    | ((go_at_call 42; refine (RT.out _ h).mono ?_; clear h; rintro _ w ⟨u, rfl, h, hu⟩; have hu2 := hu _ (by rw [← HFL.out]; exact HRL.out); obtain ⟨Au, cu, rfl⟩ := hu2.form; have HU2 := Lib.hid hu2; clear hu hu2))
                    | ((with_reducible show wpList _ _ _ ({ dst := _, op := Op.alloc 83, type := _, pos := _, after := _, guard := _ } :: _) _ _); refine wpList_alloc_has h rfl 83 rfl _ zF ?_; clear h; intro b15 w h hn15; try simp only [Act.put, List.setIfInBounds_toArray, List.set_cons_zero, List.set_cons_succ])
                    | ((with_reducible show wpList _ _ _ ({ dst := _, op := Op.store 83 _ _, type := _, pos := _, after := _, guard := _ } :: _) _ _); (refine wpList_storeAll_has (cells := #[.slice Au l2.length cu, .slice AG S cG]) h rfl 83 _ _ rfl rfl rfl (Mm.upd_same _ _ _) rfl rfl rfl (by kernel_rfl) rfl ?_); clear h; intro w h))
                  rw [Mm.upd_upd] at h
                  have hle4 := Mm.le_upd' hn15 (.cells #[.slice Au l2.length cu, .slice AG S cG] 83)
                  have hb15 := Mm.upd_same M3 b15 (.cells #[.slice Au l2.length cu, .slice AG S cG] 83)
                  generalize M3.upd b15 _ = M4 at h hle4 hb15
                  have hM4 := HM3.out.keep (Kp.le hle4 fun _ => 0) fun _ _ h => h
                  have hB4 := HB3.out.keep (Kp.le hle4 fun _ => 0) fun h => h
                  have hO := HA3.out.xrow.up hB4.le
                  have hOle := outK_le K3 M4 labK3 1
                  have hx15 : (#[.slice Au l2.length cu, .slice AG S cG] : Array Value).extract 0 (0 + 2) = #[.slice Au l2.length cu, .slice AG S cG] := rfl
                  have HM4 := Lib.hid hM4
                  have HB4 := Lib.hid hB4
                  have oneu : ∀ u ∈ encF (.slice Au l2.length cu, .slice AG S cG), u.oneCell' = true := by
                    intro u hu
                    simp only [encF, List.mem_cons, List.not_mem_nil, or_false] at hu
                    rcases hu with rfl | rfl <;> rfl
                  clear hM4 hB4 RT hxx hxz hxb3 hn15 hb11
                  go_upto_region 25 with (first
                    | ((with_reducible show wpList _ _ _ ({ dst := _, op := Op.load 83 _, type := _, pos := _, after := _, guard := _ } :: _) _ _); refine wpList_agg_has h rfl 83 _ rfl rfl hb15 hx15 rfl Tryz.underlying83 rfl (by kernel_rfl) ?_; try simp only [Act.put, List.setIfInBounds_toArray, List.set_cons_zero, List.set_cons_succ])
                    | ((with_reducible show wpList _ _ _ ({ dst := _, op := Op.store 83 _ _, type := _, pos := _, after := _, guard := _ } :: _) _ _); (refine wpList_putRow (L := (List.range L).map fx) encF_len h hOle hO (by simp) rfl 83 _ _ rfl rfl (k := lv) rfl rfl ll (.slice Au l2.length cu, .slice AG S cG) rfl oneu (by kernel_rfl) ?_); clear h hOle hO; intro w M5 h hle5 hown5))
                  obtain ⟨lab5, K5, labK5, hM5, hB5, hK5, hR5⟩ := HM4.out.rowTo HB4.out hle5 hown5
                  have hA5 := HA3.out.setX hK5 hR5 HU2.out (by rw [← HFG.out]; exact HRG.out)
                  have hS5 := Mm.le_trans HS3.out (stable_kp hK5 (by omega))
                  have hst5 := stable_kp hK5 (by omega) _ _ HST3.out
                  have hb5 := hB5.le _ _ (stable_le _ _ _ _ hst5)
                  have HM5 := Lib.hid hM5
                  have HB5 := Lib.hid hB5
                  have HS5 := Lib.hid hS5
                  have HA5 := Lib.hid hA5
                  have HST5 := Lib.hid hst5
                  clear hM5 hB5 hS5 hA5 hst5 hK5 hR5 hle5 hown5 hx15 hb15 hle4 HM4 HB4 oneu HU2 HRL HRG HFL HFG HM3 HB3 HS3 HA3 HST3 HK3
                  have P1 : Hid (∀ w, Has σ M5 w → Calls Tryz.prog 14 #[.pointer (some ⟨p, 0, none⟩), .int .i64 (tn : Nat), (.func (.func 41) #[] #[]), .int .i64 12, .int .i64 30, .slice (some ⟨w.heap.size, 0, none⟩) 4 4] (w.alloc (.cells #[.int .u64 (sm : Nat), .int .u64 (ek : Nat), .int .u64 (ea : Nat), .int .u64 (eb : Nat)] 42)) fun r w' => ∃ k : Nat, r = .returned (.int .i64 (k : Nat)) ∧ 0 < k ∧ k ≤ 12 ∧ ∃ M' lab' s', Has σ M' w' ∧ Mach M' lab' p s' ∧ Base K5 M' lab' ∧ AbsM c tp (a + k) s' (mintR B S g tn lv (Lf lv) [sm, ek, ea, eb])) := Lib.hid fun w h => by
                    obtain ⟨M8, h8, hle8, hb8, hn8⟩ := h.box (.cells #[.int .u64 (sm : Nat), .int .u64 (ek : Nat), .int .u64 (ea : Nat), .int .u64 (eb : Nat)] 42)
                    have := mint_alone (t := tn) (m := m) h8 (HM5.out.keep (Kp.le hle8 fun _ => 0) fun _ _ h => h) (HB5.out.keep (Kp.le hle8 fun _ => 0) fun h => h) HALL.out.2.1 HC.out HNU.out HT.out (by have := HI.out.1; omega) (by have := HI.out.2; omega) HTN.out HQ.out (HALL.out.2.2.2.idle tn HTN.out) (Ls := Lf lv) (by rw [HLV.out]; exact HALL.out.2.2.2.lv lv ll) (us := [sm, ek, ea, eb]) (rv := .slice (some ⟨w.heap.size, 0, none⟩) 4 4) ⟨rfl, some ⟨w.heap.size, 0, none⟩, 4, rfl, Nat.le_refl _, fun _ => ⟨w.heap.size, 0, _, _, _, rfl, hb8, fun j y hy => by rw [Nat.zero_add]; simpa [u64s] using hy⟩⟩ (by simp) (by show sm < 256; omega) (most := 12) (by omega) (by omega)
                    rw [HLV.out] at this
                    exact this
                  go_upto_region 26 with (first
                    | (with_reducible show wpList _ _ _ ({ dst := _, op := Op.load 3 _, type := _, pos := _, after := _, guard := _ } :: _) _ _; refine wpList_load1_has h rfl 3 _ rfl rfl hb5 dd0 Tryz.underlying3 rfl ?_)
                    | (with_reducible show wpList _ _ _ ({ dst := _, op := Op.load 42 _, type := _, pos := _, after := _, guard := _ } :: _) _ _; refine wpList_load1_has h rfl 42 _ rfl rfl hb5 dd3 Tryz.underlying42 rfl ?_)
                    | (with_reducible show wpList _ _ _ ({ dst := _, op := Op.load 42 _, type := _, pos := _, after := _, guard := _ } :: _) _ _; refine wpList_load1_has h rfl 42 _ rfl rfl hb5 dd4 Tryz.underlying42 rfl ?_)
                    | (with_reducible show wpList _ _ _ ({ dst := _, op := Op.load 42 _, type := _, pos := _, after := _, guard := _ } :: _) _ _; refine wpList_load1_has h rfl 42 _ rfl rfl hb5 dd5 Tryz.underlying42 rfl ?_)
                    | ((go_at_call 14; refine (P1.out _ h).mono ?_; clear h; rintro _ w ⟨ka, rfl, hk0, hk12, M6, lab6, s3, h, hM6, hB6, hA6⟩; have gka : ¬ (ka : Int) < 0 := by omega)))
                  have gka2 : decide ((ka : Int) < 0) = false := decide_eq_false (by omega)
                  obtain ⟨trow, ty, tr, hqb, htr, htz, hto, d0, d1⟩ := m_tolds hM6 hA6 HQ.out
                  obtain ⟨tl0, tl1⟩ := mintR_told (B := B) (S := S) (t := tn) (l := lv) (g := g) (Lf lv) [sm, ek, ea, eb]
                  rw [tl0, HX0.out] at d0
                  have TH := Lib.hid (fun (w : World) (h : Has σ M6 w) => mThread_yes h hM6 (t := tn) (q := q) (by rw [hA6.ttp]; exact HQ.out))
                  have hA5' := HA5.out
                  have hb6 := hB6.le _ _ (stable_le _ _ _ _ HST5.out)
                  have hI6 := HALL.out.2.2.2.mint (t := tn) ll (by have := HI.out.2; omega) HNU.out.s0.2 [sm, ek, ea, eb]
                  rw [HX0.out, HY0.out, HL2.out] at hI6
                  have hgl : put1 gl lv (gl lv) = gl := put1_self _ _
                  rw [hgl] at hA5'
                  have HI6 := Lib.hid hI6
                  have HA5 := Lib.hid hA5'
                  have HM6 := Lib.hid hM6
                  have HB6 := Lib.hid hB6
                  have HA6 := Lib.hid hA6
                  have HK12 := Lib.hid (⟨hk0, hk12⟩ : _ ∧ _)
                  have HT1 := Lib.hid tl1
                  clear hgl hA5' hI6 hM6 hB6 hA6 tl0 tl1 hk0 hk12 P1 hb5 HM5 HB5
                  go_upto_region 29 with (first
                    | (with_reducible show wpList _ _ _ ({ dst := _, op := Op.load 3 _, type := _, pos := _, after := _, guard := _ } :: _) _ _; refine wpList_load1_has h rfl 3 _ rfl rfl hb6 dd0 Tryz.underlying3 rfl ?_)
                    | (go_at_call 13; refine (TH.out _ h).mono ?_; clear h; rintro _ w ⟨rfl, h⟩)
                    | ((with_reducible show wpList _ _ _ ({ dst := _, op := Op.load 43 _, type := _, pos := _, after := _, guard := _ } :: _) _ _); refine wpList_agg_has h rfl 43 _ rfl rfl hqb htr htz Tryz.underlying43 rfl (by kernel_rfl) ?_; try simp only [Act.put, List.setIfInBounds_toArray, List.set_cons_zero, List.set_cons_succ])
                    | ((with_reducible show wpList _ _ _ ({ dst := _, op := Op.alloc 43, type := _, pos := _, after := _, guard := _ } :: _) _ _); refine wpList_alloc_has h rfl 43 rfl _ zTA ?_; clear h; intro b19 w h hn19; try simp only [Act.put, List.setIfInBounds_toArray, List.set_cons_zero, List.set_cons_succ])
                    | ((with_reducible show wpList _ _ _ ({ dst := _, op := Op.store 43 _ _, type := _, pos := _, after := _, guard := _ } :: _) _ _); (refine wpList_storeAll_has (cells := tr) h rfl 43 _ _ rfl rfl rfl (Mm.upd_same _ _ _) rfl rfl htz (by kernel_rfl) hto ?_); clear h; intro w h))
                  rw [Mm.upd_upd] at h
                  have hle7 := Mm.le_upd' hn19 (.cells tr 43)
                  have hb19 := Mm.upd_same M6 b19 (.cells tr 43)
                  generalize M6.upd b19 _ = M7 at h hle7 hb19
                  have hM7 := HM6.out.keep (Kp.le hle7 fun _ => 0) fun _ _ h => h
                  have hB7 := HB6.out.keep (Kp.le hle7 fun _ => 0) fun h => h
                  have HM7 := Lib.hid hM7
                  have HB7 := Lib.hid hB7
                  have wx : IntKind.u64.wrap (x0 : Int) = (x0 : Int) := IntWalk.u64_in _ (by omega)
                  have wy : IntKind.u64.wrap (y0 : Int) = (y0 : Int) := IntWalk.u64_in _ (by omega)
                  clear hM7 hB7 HM6 HB6 hb6 hqb htr htz hto hn19 hle7 TH
                  by_cases hz0 : x0 = 0
                  · subst hz0
                    have hAI7 : MaJ c S B L T tp (i + 1) s3 (put1 Lf lv l2) gl md := ⟨⟨a + ka, m + 1, _, by have h1 := HALL.out.1; have h2 := HK12.out.2; omega, HA6.out, by have := HALL.out.2.2.1; omega, by have h1 := HI6.out; rw [if_pos rfl] at h1; exact h1⟩⟩
                    go_upto_region 33 with (first
                      | (with_reducible show wpList _ _ _ ({ dst := _, op := Op.load 42 _, type := _, pos := _, after := _, guard := _ } :: _) _ _; refine wpList_load1_has h rfl 42 _ rfl rfl hb19 d0 Tryz.underlying42 rfl ?_))
                    obtain ⟨M9, lab9, K9, labK9, fx9, fh9, Lf9, gl9, md9, HP9⟩ : ∃ M9 lab9 K9 labK9 fx9 fh9 Lf9 gl9 md9, Hid (Has σ M9 w ∧ Mach M9 lab9 p s3 ∧ Base K9 M9 lab9 ∧ M1.le (stable K9 labK9) ∧ LawM K9 labK9 L S L (.slice (some ⟨gx, 0, none⟩) L xc) (.slice (some ⟨bh, 0, none⟩) L L) fx9 fh9 Lf9 gl9 md9 ∧ MaJ c S B L T tp (i + 1) s3 Lf9 gl9 md9) := ⟨_, _, _, _, _, _, _, _, _, Lib.hid ⟨h, HM7.out, HB7.out, HS5.out, HA5.out, hAI7⟩⟩
                    clear h hAI7 HM7 HB7 HS5 HA5 hb19 d0 d1 wx wy gka gka2 HST5 HI6 HA6
                    have h := HP9.out.1
                    obtain ⟨a9, m9, g9, ha9, hA9, hm9, hI9⟩ := HP9.out.2.2.2.2.2.all
                    have hsh9 := hI9.short ll
                    have HS9 := Lib.hid (fun (w : World) (h : Has σ M9 w) => has_eq (lst := md9 lv) h HP9.out.2.1 hA9 HNU.out ll ((HP9.out.2.2.2.2.1.each lv ll).rd.le HP9.out.2.2.1.le) rfl (by have := HNU.out.s0.2; omega) fun x hx => ⟨(hI9.all lv ll x hx).1, (hI9.all lv ll x hx).2.1, (hI9.all lv ll x hx).2.2.2⟩)
                    have FT9 := Lib.hid (fun (w : World) (h : Has σ M9 w) => mFault_eq h HP9.out.2.1)
                    rw [hA9.good] at FT9
                    obtain ⟨curH9, hcb9, hcu9⟩ := Own.at_ HP9.out.2.2.2.2.1.hrow
                    obtain ⟨Ah9, ch9, hfe9⟩ := (HP9.out.2.2.2.2.1.each lv ll).form
                    have eH9 : curH9[lv]? = some (.slice Ah9 (md9 lv).length ch9) := by
                      rw [← hfe9]
                      exact hcu9 lv _ (by rw [List.getElem?_map, List.getElem?_range ll]; rfl)
                    have hbm9 := HP9.out.2.2.1.le _ _ hcb9
                    rw [hfe9] at HS9
                    obtain ⟨nh9, hnh9⟩ : ∃ k, (md9 lv).length = k := ⟨_, rfl⟩
                    rw [hnh9] at eH9 HS9
                    clear ha9 hA9 hm9 hI9 hsh9 hcb9 hcu9 hfe9 hnh9
                    have hllt : (lv : Int) < (L : Int) := by omega
                    go_wp2_with (first
                      | (with_reducible show wpList _ _ _ ({ dst := _, op := Op.load 87 _, type := _, pos := _, after := _, guard := _ } :: _) _ _; refine wpList_load1_has h rfl 87 _ rfl rfl hbm9 eH9 Tryz.underlying87 rfl ?_)
                      | (go_at_call 44; refine (HS9.out _ h).mono ?_; clear h; rintro _ w ⟨rfl, h⟩)
                      | (go_at_call 24; refine (FT9.out _ h).mono ?_; clear h; rintro _ w ⟨rfl, h⟩))
                    go_roundw
                    case rel => exact ⟨i + 1, M9, lab9, K9, labK9, s3, fx9, fh9, Lf9, gl9, md9, by have := HLT.out; omega, by first | rfl | go_num, h, HP9.out.2.1, HP9.out.2.2.1, HP9.out.2.2.2.1, HP9.out.2.2.2.2.1, HP9.out.2.2.2.2.2⟩
                    case measure => have := HLT.out; simp [intOf]; omega
                  · rw [HT1.out (by rw [HX0.out]; exact hz0), HY0.out] at d1
                    have gz : ((x0 : Int) != 0) = true := by simp; omega
                    obtain ⟨curH5, hcb5, hcu5⟩ := Own.at_ HA5.out.hrow
                    obtain ⟨Ah5, ch5, hfe5⟩ := (HA5.out.each lv ll).form
                    have eH5 : curH5[lv]? = some (.slice Ah5 (md lv).length ch5) := by
                      rw [← hfe5]
                      exact hcu5 lv _ (by rw [List.getElem?_map, List.getElem?_range ll]; rfl)
                    have hbm5 := HB7.out.le _ _ hcb5
                    have hO5 : Own (outK K5 M7 labK5 (10 + lv)) M7 91 6 (.slice Ah5 (md lv).length ch5) (md lv).length ((md lv).flatMap encM) := by rw [← hfe5]; exact (HA5.out.each lv ll).up HB7.out.le
                    have hOle5 := outK_le K5 M7 labK5 (10 + lv)
                    have hst7 := stable_outK (j := 10 + lv) HB7.out.le (by omega) _ _ HST5.out
                    have hb7 := HB7.out.le _ _ (stable_le _ _ _ _ HST5.out)
                    have hn60h : nh ≤ 60 := by
                      have h1 := HALL.out.2.2.2.short ll
                      rw [HNH.out] at h1
                      have := HNU.out.s0.2
                      omega
                    rw [HNH.out] at eH5 hO5
                    have RM := Lib.hid fun (w : World) (h : Has σ M7 w) => refMade_eq h y0 sm ek ea eb (by omega) (by omega)
                    obtain ⟨hd, hhd⟩ : ∃ hd, mkHead y0 sm = hd := ⟨_, rfl⟩
                    rw [hhd] at RM
                    have HHD := Lib.hid hhd
                    have HZ0 := Lib.hid hz0
                    clear hcb5 hcu5 hfe5 hhd hz0
                    go_upto_region 32 with (first
                      | (with_reducible show wpList _ _ _ ({ dst := _, op := Op.load 42 _, type := _, pos := _, after := _, guard := _ } :: _) _ _; refine wpList_load1_has h rfl 42 _ rfl rfl hb19 d0 Tryz.underlying42 rfl ?_)
                      | (with_reducible show wpList _ _ _ ({ dst := _, op := Op.load 42 _, type := _, pos := _, after := _, guard := _ } :: _) _ _; refine wpList_load1_has h rfl 42 _ rfl rfl hb19 d1 Tryz.underlying42 rfl ?_))
                    clear hb19 d0 d1 wx wy gka gka2 gz
                    have hg11 := Mm.one_get b11 (.cells drow 86)
                    have hD7 : (Mm.one b11 (.cells drow 86)).le M7 := Mm.one_le hb7
                    go_cut [] from 57 to 226 (fun wx => ∃ (M9 : Mm) (lab9 : Nat → Nat) (K9 : Mm) (labK9 : Nat → Nat) (fx9 : Nat → Value × Value) (fh9 : Nat → Value), Has σ M9 wx ∧ Mach M9 lab9 p s3 ∧ Base K9 M9 lab9 ∧ M1.le (stable K9 labK9) ∧ LawM K9 labK9 L S L (.slice (some ⟨gx, 0, none⟩) L xc) (.slice (some ⟨bh, 0, none⟩) L L) fx9 fh9 (put1 Lf lv l2) gl (put1 md lv (md lv ++ [(x0, hd, ek, ea, eb)])))
                    case first =>
                     as_aux_lemma =>
                      refine wp_region_held_drew (S := Has σ (Mm.one b11 (.cells drow 86))) (by kernel_rfl) (h.drew.le hD7) (fun hHeld => ?_)
                      refine wpAnyH_take (i := 0) (v := ?_) rfl (by kernel_rfl) (by kernel_rfl) (by kernel_rfl) (fun _ _ _ h => h) (Or.inl ⟨by rfl, ?_⟩) hHeld ?_
                      rotate_left
                      · (intro wz _; go_simp; try with_reducible rfl)
                      try simp only [List.getElem_toArray, List.getElem_cons_succ, List.getElem_cons_zero, Act.put, List.setIfInBounds_toArray, List.set_cons_zero, List.set_cons_succ]
                      refine wpAnyH_take (i := 1) (v := ?_) rfl (by kernel_rfl) (by kernel_rfl) (by kernel_rfl) (fun _ _ _ h => h) (Or.inl ⟨by rfl, ?_⟩) hHeld ?_
                      rotate_left
                      · (intro wz _; go_simp; try with_reducible rfl)
                      try simp only [List.getElem_toArray, List.getElem_cons_succ, List.getElem_cons_zero, Act.put, List.setIfInBounds_toArray, List.set_cons_zero, List.set_cons_succ]
                      refine wpAnyH_take (i := 2) (v := ?_) rfl (by kernel_rfl) (by kernel_rfl) (by kernel_rfl) (fun _ _ _ h => h) (Or.inl ⟨by rfl, ?_⟩) hHeld ?_
                      rotate_left
                      · (intro wz _; go_simp; try with_reducible rfl)
                      try simp only [List.getElem_toArray, List.getElem_cons_succ, List.getElem_cons_zero, Act.put, List.setIfInBounds_toArray, List.set_cons_zero, List.set_cons_succ]
                      refine wpAnyH_take (i := 3) (v := ?_) rfl (by kernel_rfl) (by kernel_rfl) (by kernel_rfl) (fun _ _ _ h => h) (Or.inl ⟨by rfl, ?_⟩) hHeld ?_
                      rotate_left
                      · (intro wz _; go_simp; try with_reducible rfl)
                      try simp only [List.getElem_toArray, List.getElem_cons_succ, List.getElem_cons_zero, Act.put, List.setIfInBounds_toArray, List.set_cons_zero, List.set_cons_succ]
                      refine wpAnyH_take (i := 4) (v := ?_) rfl (by kernel_rfl) (by kernel_rfl) (by kernel_rfl) (fun _ _ _ h => h) (Or.inl ⟨by rfl, ?_⟩) hHeld ?_
                      rotate_left
                      · (intro wz _; go_simp; try with_reducible rfl)
                      try simp only [List.getElem_toArray, List.getElem_cons_succ, List.getElem_cons_zero, Act.put, List.setIfInBounds_toArray, List.set_cons_zero, List.set_cons_succ]
                      refine wpAnyH_take (i := 6) (v := ?_) rfl (by kernel_rfl) (by kernel_rfl) (by kernel_rfl) (fun _ _ _ h => h) (Or.inl ⟨by rfl, ?_⟩) hHeld ?_
                      rotate_left
                      · (intro wz _; go_simp; try with_reducible rfl)
                      try simp only [List.getElem_toArray, List.getElem_cons_succ, List.getElem_cons_zero, Act.put, List.setIfInBounds_toArray, List.set_cons_zero, List.set_cons_succ]
                      refine wpAnyH_take (i := 7) (v := ?_) rfl (by kernel_rfl) (by kernel_rfl) (by kernel_rfl) (fun _ _ _ h => h) (Or.inl ⟨by rfl, ?_⟩) hHeld ?_
                      rotate_left
                      · (intro wz _; go_simp; try with_reducible rfl)
                      try simp only [List.getElem_toArray, List.getElem_cons_succ, List.getElem_cons_zero, Act.put, List.setIfInBounds_toArray, List.set_cons_zero, List.set_cons_succ]
                      refine wpAnyH_take (i := 8) (v := ?_) rfl (by kernel_rfl) (by kernel_rfl) (by kernel_rfl) (fun _ _ _ h => h) (Or.inl ⟨by rfl, ?_⟩) hHeld ?_
                      rotate_left
                      · (intro wz _; go_simp; try with_reducible rfl)
                      try simp only [List.getElem_toArray, List.getElem_cons_succ, List.getElem_cons_zero, Act.put, List.setIfInBounds_toArray, List.set_cons_zero, List.set_cons_succ]
                      refine wpAnyH_take (i := 9) (v := ?_) rfl (by kernel_rfl) (by kernel_rfl) (by kernel_rfl) (fun _ _ _ h => h) (Or.inl ⟨by rfl, ?_⟩) hHeld ?_
                      rotate_left
                      · (intro wz _; go_simp; try with_reducible rfl)
                      try simp only [List.getElem_toArray, List.getElem_cons_succ, List.getElem_cons_zero, Act.put, List.setIfInBounds_toArray, List.set_cons_zero, List.set_cons_succ]
                      refine wpAnyH_take (i := 10) (v := _) rfl (by kernel_rfl) (by kernel_rfl) (by kernel_rfl) (fun _ _ _ h => h) (yields_load1 rfl 42 _ rfl rfl hg11 dd3 Tryz.underlying42 rfl) hHeld ?_
                      try simp only [List.getElem_toArray, List.getElem_cons_succ, List.getElem_cons_zero, Act.put, List.setIfInBounds_toArray, List.set_cons_zero, List.set_cons_succ]
                      refine wpAnyH_take (i := 11) (v := ?_) rfl (by kernel_rfl) (by kernel_rfl) (by kernel_rfl) (fun _ _ _ h => h) (Or.inl ⟨by rfl, ?_⟩) hHeld ?_
                      rotate_left
                      · (intro wz _; go_simp; try with_reducible rfl)
                      try simp only [List.getElem_toArray, List.getElem_cons_succ, List.getElem_cons_zero, Act.put, List.setIfInBounds_toArray, List.set_cons_zero, List.set_cons_succ]
                      refine wpAnyH_take (i := 12) (v := _) rfl (by kernel_rfl) (by kernel_rfl) (by kernel_rfl) (fun _ _ _ h => h) (yields_load1 rfl 42 _ rfl rfl hg11 dd4 Tryz.underlying42 rfl) hHeld ?_
                      try simp only [List.getElem_toArray, List.getElem_cons_succ, List.getElem_cons_zero, Act.put, List.setIfInBounds_toArray, List.set_cons_zero, List.set_cons_succ]
                      refine wpAnyH_take (i := 13) (v := ?_) rfl (by kernel_rfl) (by kernel_rfl) (by kernel_rfl) (fun _ _ _ h => h) (Or.inl ⟨by rfl, ?_⟩) hHeld ?_
                      rotate_left
                      · (intro wz _; go_simp; try with_reducible rfl)
                      try simp only [List.getElem_toArray, List.getElem_cons_succ, List.getElem_cons_zero, Act.put, List.setIfInBounds_toArray, List.set_cons_zero, List.set_cons_succ]
                      refine wpAnyH_take (i := 14) (v := _) rfl (by kernel_rfl) (by kernel_rfl) (by kernel_rfl) (fun _ _ _ h => h) (yields_load1 rfl 42 _ rfl rfl hg11 dd5 Tryz.underlying42 rfl) hHeld ?_
                      try simp only [List.getElem_toArray, List.getElem_cons_succ, List.getElem_cons_zero, Act.put, List.setIfInBounds_toArray, List.set_cons_zero, List.set_cons_succ]
                      replace h := h.drew
                      generalize w.drew = wq at h hHeld ⊢
                      clear w hg11
                      obtain ⟨w, rfl⟩ : ∃ q : World, q = wq := ⟨_, rfl⟩
                      refine wpAnyH_ready (rs := [5, 15]) (by kernel_rfl) (by simp) ?_
                      refine AllReadyH.cons rfl (fun K hK => ?_) (AllReadyH.cons rfl (fun K hK => ?_) AllReadyH.nil)
                      · skip
                        refine step_yields rfl (yields_load1 rfl 87 _ rfl rfl hbm5 eH5 Tryz.underlying87 rfl) h ?_
                        refine hK.out _ _ hHeld (fun hHeld => ?_); clear hK K; simp only [Act.put, List.setIfInBounds_toArray, List.set_cons_zero, List.set_cons_succ]
                        refine wpAnyH_ready (rs := [15]) (by kernel_rfl) (by simp) ?_
                        refine AllReadyH.cons rfl (fun K hK => ?_) AllReadyH.nil
                        (go_simp; go_wp2_with (go_at_call 43; refine (RM.out _ h).mono ?_; clear h; rintro _ w ⟨rfl, h⟩))
                        refine hK.out _ _ (h.le hD7) (fun hHeld => ?_)
                        clear hK K
                        try simp only [Act.put, List.setIfInBounds_toArray, List.set_cons_zero, List.set_cons_succ]
                        refine wpAnyH_take (i := 16) (v := .agg #[.int .i64 (x0 : Nat), .int .u64 (hd : Nat), .int .u64 0, .int .u64 (ek : Nat), .int .u64 (ea : Nat), .int .u64 (eb : Nat)]) rfl (by kernel_rfl) (by kernel_rfl) (by kernel_rfl) (fun _ _ _ h => h) (Or.inl ⟨by rfl, fun wz _ => exec_build2 91 _ _ _ _ rfl (.int .i64 (x0 : Nat)) (.agg #[.int .u64 (hd : Nat), .int .u64 0, .int .u64 (ek : Nat), .int .u64 (ea : Nat), .int .u64 (eb : Nat)]) rfl rfl _ (by kernel_rfl) wz⟩) hHeld ?_; try simp only [List.getElem_toArray, List.getElem_cons_succ, List.getElem_cons_zero, Act.put, List.setIfInBounds_toArray, List.set_cons_zero, List.set_cons_succ]
                        refine wpAnyH_ready (rs := [17]) (by kernel_rfl) (by simp) ?_
                        refine AllReadyH.cons rfl (fun K hK => ?_) AllReadyH.nil
                        (refine step_lit1 rfl 87 _ rfl Tryz.underlying87 info_M rfl (by decide) (by decide) (by kernel_rfl) ?_)
                        refine hK.out _ _ ((h.quietAlloc _).le hD7) (fun hHeld => ?_)
                        clear hK K
                        try simp only [Act.put, List.setIfInBounds_toArray, List.set_cons_zero, List.set_cons_succ]
                        refine wpAnyH_ready (rs := [18]) (by kernel_rfl) (by simp) ?_
                        refine AllReadyH.cons rfl (fun K hK => ?_) AllReadyH.nil
                        (refine step_applit h hOle5 rfl _ _ _ rfl rfl Tryz.underlying87 info_M rfl (by omega) rfl hO5 rfl rfl rfl (by omega) (by omega) ?_; clear h hHeld hOle5 hO5; intro v w hacc; obtain ⟨M8, h, hle8, hown8⟩ := hacc)
                        refine hK.out _ _ (h.le (Mm.one_le (hle8 _ _ hst7))) (fun hHeld => ?_)
                        clear hK K
                        try simp only [Act.put, List.setIfInBounds_toArray, List.set_cons_zero, List.set_cons_succ]
                        obtain ⟨A8, c8, rfl⟩ := hown8.form
                        obtain ⟨lab8, K8, labK8, hM8, hB8, hK8, hR8⟩ := HM7.out.rowTo HB7.out hle8 hown8
                        have hH8 := ((HA5.out.hrow).keep hK8 (by omega)).up hB8.le
                        have hHle8 := outK_le K8 M8 labK8 2
                        have hst8 := stable_outK (j := 2) hB8.le (by omega) _ _ (stable_kp hK8 (show ¬ 0 = 10 + lv by omega) _ _ HST5.out)
                        refine wpAnyH_take (i := 19) (v := ?_) rfl (by kernel_rfl) (by kernel_rfl) (by kernel_rfl) (fun _ _ _ h => h) (Or.inl ⟨by rfl, ?_⟩) hHeld ?_
                        rotate_left
                        · (intro wz _; go_simp; try with_reducible rfl)
                        try simp only [List.getElem_toArray, List.getElem_cons_succ, List.getElem_cons_zero, Act.put, List.setIfInBounds_toArray, List.set_cons_zero, List.set_cons_succ]
                        refine wpAnyH_ready (rs := [20]) (by kernel_rfl) (by simp) ?_
                        refine AllReadyH.cons rfl (fun K hK => ?_) AllReadyH.nil
                        (refine step_putOne h hHle8 hH8 rfl 87 _ _ rfl rfl (k := lv) rfl ll (u := .slice A8 (nh + 1) c8) rfl rfl (by kernel_rfl) ?_; clear h hHeld hHle8 hH8; intro w M10 h hle10 hown10)
                        refine hK.out _ _ (h.le (Mm.one_le (hle10 _ _ hst8))) (fun hHeld => ?_)
                        clear hK K
                        try simp only [Act.put, List.setIfInBounds_toArray, List.set_cons_zero, List.set_cons_succ]
                        refine wpAnyH_done (by kernel_rfl) ?_ _
                        clear hHeld
                        obtain ⟨lab10, K10, labK10, hM10, hB10, hK10, hR10⟩ := hM8.rowTo hB8 hle10 hown10
                        have eF : (md lv ++ [(x0, hd, ek, ea, eb)]).flatMap encM = (md lv).flatMap encM ++ (#[.int .i64 (x0 : Nat), .int .u64 (hd : Nat), .int .u64 0, .int .u64 (ek : Nat), .int .u64 (ea : Nat), .int .u64 (eb : Nat)] : Array Value).toList := by rw [List.flatMap_append]; rfl
                        have hA10 := HA5.out.setH ll hK8 (h2 := md lv ++ [(x0, hd, ek, ea, eb)]) (by rw [eF, List.length_append, HNH.out]; exact hR8) hK10 hR10
                        have hS10 := Mm.le_trans (Mm.le_trans HS5.out (stable_kp hK8 (by omega))) (stable_kp hK10 (by omega))
                        have hEnd := h
                        go_wp2
                        all_goals (go_meet; (case rel => exact ⟨M10, lab10, K10, labK10, _, _, hEnd, hM10, hB10, hS10, hA10⟩))
                      · skip
                        (go_simp; go_wp2_with (go_at_call 43; refine (RM.out _ h).mono ?_; clear h; rintro _ w ⟨rfl, h⟩))
                        refine hK.out _ _ (h.le hD7) (fun hHeld => ?_)
                        clear hK K
                        try simp only [Act.put, List.setIfInBounds_toArray, List.set_cons_zero, List.set_cons_succ]
                        refine wpAnyH_take (i := 16) (v := .agg #[.int .i64 (x0 : Nat), .int .u64 (hd : Nat), .int .u64 0, .int .u64 (ek : Nat), .int .u64 (ea : Nat), .int .u64 (eb : Nat)]) rfl (by kernel_rfl) (by kernel_rfl) (by kernel_rfl) (fun _ _ _ h => h) (Or.inl ⟨by rfl, fun wz _ => exec_build2 91 _ _ _ _ rfl (.int .i64 (x0 : Nat)) (.agg #[.int .u64 (hd : Nat), .int .u64 0, .int .u64 (ek : Nat), .int .u64 (ea : Nat), .int .u64 (eb : Nat)]) rfl rfl _ (by kernel_rfl) wz⟩) hHeld ?_; try simp only [List.getElem_toArray, List.getElem_cons_succ, List.getElem_cons_zero, Act.put, List.setIfInBounds_toArray, List.set_cons_zero, List.set_cons_succ]
                        refine wpAnyH_ready (rs := [5, 17]) (by kernel_rfl) (by simp) ?_
                        refine AllReadyH.cons rfl (fun K hK => ?_) (AllReadyH.cons rfl (fun K hK => ?_) AllReadyH.nil)
                        · skip
                          refine step_yields rfl (yields_load1 rfl 87 _ rfl rfl hbm5 eH5 Tryz.underlying87 rfl) h ?_
                          refine hK.out _ _ hHeld (fun hHeld => ?_); clear hK K; simp only [Act.put, List.setIfInBounds_toArray, List.set_cons_zero, List.set_cons_succ]
                          refine wpAnyH_ready (rs := [17]) (by kernel_rfl) (by simp) ?_
                          refine AllReadyH.cons rfl (fun K hK => ?_) AllReadyH.nil
                          (refine step_lit1 rfl 87 _ rfl Tryz.underlying87 info_M rfl (by decide) (by decide) (by kernel_rfl) ?_)
                          refine hK.out _ _ ((h.quietAlloc _).le hD7) (fun hHeld => ?_)
                          clear hK K
                          try simp only [Act.put, List.setIfInBounds_toArray, List.set_cons_zero, List.set_cons_succ]
                          refine wpAnyH_ready (rs := [18]) (by kernel_rfl) (by simp) ?_
                          refine AllReadyH.cons rfl (fun K hK => ?_) AllReadyH.nil
                          (refine step_applit h hOle5 rfl _ _ _ rfl rfl Tryz.underlying87 info_M rfl (by omega) rfl hO5 rfl rfl rfl (by omega) (by omega) ?_; clear h hHeld hOle5 hO5; intro v w hacc; obtain ⟨M8, h, hle8, hown8⟩ := hacc)
                          refine hK.out _ _ (h.le (Mm.one_le (hle8 _ _ hst7))) (fun hHeld => ?_)
                          clear hK K
                          try simp only [Act.put, List.setIfInBounds_toArray, List.set_cons_zero, List.set_cons_succ]
                          obtain ⟨A8, c8, rfl⟩ := hown8.form
                          obtain ⟨lab8, K8, labK8, hM8, hB8, hK8, hR8⟩ := HM7.out.rowTo HB7.out hle8 hown8
                          have hH8 := ((HA5.out.hrow).keep hK8 (by omega)).up hB8.le
                          have hHle8 := outK_le K8 M8 labK8 2
                          have hst8 := stable_outK (j := 2) hB8.le (by omega) _ _ (stable_kp hK8 (show ¬ 0 = 10 + lv by omega) _ _ HST5.out)
                          refine wpAnyH_take (i := 19) (v := ?_) rfl (by kernel_rfl) (by kernel_rfl) (by kernel_rfl) (fun _ _ _ h => h) (Or.inl ⟨by rfl, ?_⟩) hHeld ?_
                          rotate_left
                          · (intro wz _; go_simp; try with_reducible rfl)
                          try simp only [List.getElem_toArray, List.getElem_cons_succ, List.getElem_cons_zero, Act.put, List.setIfInBounds_toArray, List.set_cons_zero, List.set_cons_succ]
                          refine wpAnyH_ready (rs := [20]) (by kernel_rfl) (by simp) ?_
                          refine AllReadyH.cons rfl (fun K hK => ?_) AllReadyH.nil
                          (refine step_putOne h hHle8 hH8 rfl 87 _ _ rfl rfl (k := lv) rfl ll (u := .slice A8 (nh + 1) c8) rfl rfl (by kernel_rfl) ?_; clear h hHeld hHle8 hH8; intro w M10 h hle10 hown10)
                          refine hK.out _ _ (h.le (Mm.one_le (hle10 _ _ hst8))) (fun hHeld => ?_)
                          clear hK K
                          try simp only [Act.put, List.setIfInBounds_toArray, List.set_cons_zero, List.set_cons_succ]
                          refine wpAnyH_done (by kernel_rfl) ?_ _
                          clear hHeld
                          obtain ⟨lab10, K10, labK10, hM10, hB10, hK10, hR10⟩ := hM8.rowTo hB8 hle10 hown10
                          have eF : (md lv ++ [(x0, hd, ek, ea, eb)]).flatMap encM = (md lv).flatMap encM ++ (#[.int .i64 (x0 : Nat), .int .u64 (hd : Nat), .int .u64 0, .int .u64 (ek : Nat), .int .u64 (ea : Nat), .int .u64 (eb : Nat)] : Array Value).toList := by rw [List.flatMap_append]; rfl
                          have hA10 := HA5.out.setH ll hK8 (h2 := md lv ++ [(x0, hd, ek, ea, eb)]) (by rw [eF, List.length_append, HNH.out]; exact hR8) hK10 hR10
                          have hS10 := Mm.le_trans (Mm.le_trans HS5.out (stable_kp hK8 (by omega))) (stable_kp hK10 (by omega))
                          have hEnd := h
                          go_wp2
                          all_goals (go_meet; (case rel => exact ⟨M10, lab10, K10, labK10, _, _, hEnd, hM10, hB10, hS10, hA10⟩))
                        · skip
                          (refine step_lit1 rfl 87 _ rfl Tryz.underlying87 info_M rfl (by decide) (by decide) (by kernel_rfl) ?_)
                          refine hK.out _ _ ((h.quietAlloc _).le hD7) (fun hHeld => ?_)
                          clear hK K
                          try simp only [Act.put, List.setIfInBounds_toArray, List.set_cons_zero, List.set_cons_succ]
                          refine wpAnyH_ready (rs := [5]) (by kernel_rfl) (by simp) ?_
                          refine AllReadyH.cons rfl (fun K hK => ?_) AllReadyH.nil
                          refine step_yields rfl (yields_load1 rfl 87 _ rfl rfl hbm5 eH5 Tryz.underlying87 rfl) (h.quietAlloc _) ?_
                          refine hK.out _ _ hHeld (fun hHeld => ?_); clear hK K; simp only [Act.put, List.setIfInBounds_toArray, List.set_cons_zero, List.set_cons_succ]
                          refine wpAnyH_ready (rs := [18]) (by kernel_rfl) (by simp) ?_
                          refine AllReadyH.cons rfl (fun K hK => ?_) AllReadyH.nil
                          (refine step_applit h hOle5 rfl _ _ _ rfl rfl Tryz.underlying87 info_M rfl (by omega) rfl hO5 rfl rfl rfl (by omega) (by omega) ?_; clear h hHeld hOle5 hO5; intro v w hacc; obtain ⟨M8, h, hle8, hown8⟩ := hacc)
                          refine hK.out _ _ (h.le (Mm.one_le (hle8 _ _ hst7))) (fun hHeld => ?_)
                          clear hK K
                          try simp only [Act.put, List.setIfInBounds_toArray, List.set_cons_zero, List.set_cons_succ]
                          obtain ⟨A8, c8, rfl⟩ := hown8.form
                          obtain ⟨lab8, K8, labK8, hM8, hB8, hK8, hR8⟩ := HM7.out.rowTo HB7.out hle8 hown8
                          have hH8 := ((HA5.out.hrow).keep hK8 (by omega)).up hB8.le
                          have hHle8 := outK_le K8 M8 labK8 2
                          have hst8 := stable_outK (j := 2) hB8.le (by omega) _ _ (stable_kp hK8 (show ¬ 0 = 10 + lv by omega) _ _ HST5.out)
                          refine wpAnyH_take (i := 19) (v := ?_) rfl (by kernel_rfl) (by kernel_rfl) (by kernel_rfl) (fun _ _ _ h => h) (Or.inl ⟨by rfl, ?_⟩) hHeld ?_
                          rotate_left
                          · (intro wz _; go_simp; try with_reducible rfl)
                          try simp only [List.getElem_toArray, List.getElem_cons_succ, List.getElem_cons_zero, Act.put, List.setIfInBounds_toArray, List.set_cons_zero, List.set_cons_succ]
                          refine wpAnyH_ready (rs := [20]) (by kernel_rfl) (by simp) ?_
                          refine AllReadyH.cons rfl (fun K hK => ?_) AllReadyH.nil
                          (refine step_putOne h hHle8 hH8 rfl 87 _ _ rfl rfl (k := lv) rfl ll (u := .slice A8 (nh + 1) c8) rfl rfl (by kernel_rfl) ?_; clear h hHeld hHle8 hH8; intro w M10 h hle10 hown10)
                          refine hK.out _ _ (h.le (Mm.one_le (hle10 _ _ hst8))) (fun hHeld => ?_)
                          clear hK K
                          try simp only [Act.put, List.setIfInBounds_toArray, List.set_cons_zero, List.set_cons_succ]
                          refine wpAnyH_done (by kernel_rfl) ?_ _
                          clear hHeld
                          obtain ⟨lab10, K10, labK10, hM10, hB10, hK10, hR10⟩ := hM8.rowTo hB8 hle10 hown10
                          have eF : (md lv ++ [(x0, hd, ek, ea, eb)]).flatMap encM = (md lv).flatMap encM ++ (#[.int .i64 (x0 : Nat), .int .u64 (hd : Nat), .int .u64 0, .int .u64 (ek : Nat), .int .u64 (ea : Nat), .int .u64 (eb : Nat)] : Array Value).toList := by rw [List.flatMap_append]; rfl
                          have hA10 := HA5.out.setH ll hK8 (h2 := md lv ++ [(x0, hd, ek, ea, eb)]) (by rw [eF, List.length_append, HNH.out]; exact hR8) hK10 hR10
                          have hS10 := Mm.le_trans (Mm.le_trans HS5.out (stable_kp hK8 (by omega))) (stable_kp hK10 (by omega))
                          have hEnd := h
                          go_wp2
                          all_goals (go_meet; (case rel => exact ⟨M10, lab10, K10, labK10, _, _, hEnd, hM10, hB10, hS10, hA10⟩))
                    case rest =>
                      as_aux_lemma =>
                        obtain ⟨M10, lab10, K10, labK10, fx10, fh10, h10, hM10, hB10, hS10, hA10⟩ := hcut
                        obtain ⟨w, rfl⟩ : ∃ q : World, q = wc := ⟨_, rfl⟩
                        clear h
                        have h := h10
                        clear h10
                        have hAI10 : MaJ c S B L T tp (i + 1) s3 (put1 Lf lv l2) gl (put1 md lv (md lv ++ [(x0, hd, ek, ea, eb)])) := ⟨⟨a + ka, m + 1, _, by have h1 := HALL.out.1; have h2 := HK12.out.2; omega, HA6.out, by have := HALL.out.2.2.1; omega, by have h1 := HI6.out; rw [if_neg HZ0.out] at h1; rw [← HHD.out]; exact h1⟩⟩
                        obtain ⟨M9, lab9, K9, labK9, fx9, fh9, Lf9, gl9, md9, HP9⟩ : ∃ M9 lab9 K9 labK9 fx9 fh9 Lf9 gl9 md9, Hid (Has σ M9 w ∧ Mach M9 lab9 p s3 ∧ Base K9 M9 lab9 ∧ M1.le (stable K9 labK9) ∧ LawM K9 labK9 L S L (.slice (some ⟨gx, 0, none⟩) L xc) (.slice (some ⟨bh, 0, none⟩) L L) fx9 fh9 Lf9 gl9 md9 ∧ MaJ c S B L T tp (i + 1) s3 Lf9 gl9 md9) := ⟨_, _, _, _, _, _, _, _, _, Lib.hid ⟨h, hM10, hB10, hS10, hA10, hAI10⟩⟩
                        clear h hAI10 hM10 hB10 hA10 hS10 hbm5 eH5 HM7 HB7 HS5 HA5 HST5 HI6 HA6 hst7 hb7 hD7 RM hO5 hOle5 hg11
                        go_upto_region 33 with (fail)
                        have h := HP9.out.1
                        obtain ⟨a9, m9, g9, ha9, hA9, hm9, hI9⟩ := HP9.out.2.2.2.2.2.all
                        have hsh9 := hI9.short ll
                        have HS9 := Lib.hid (fun (w : World) (h : Has σ M9 w) => has_eq (lst := md9 lv) h HP9.out.2.1 hA9 HNU.out ll ((HP9.out.2.2.2.2.1.each lv ll).rd.le HP9.out.2.2.1.le) rfl (by have := HNU.out.s0.2; omega) fun x hx => ⟨(hI9.all lv ll x hx).1, (hI9.all lv ll x hx).2.1, (hI9.all lv ll x hx).2.2.2⟩)
                        have FT9 := Lib.hid (fun (w : World) (h : Has σ M9 w) => mFault_eq h HP9.out.2.1)
                        rw [hA9.good] at FT9
                        obtain ⟨curH9, hcb9, hcu9⟩ := Own.at_ HP9.out.2.2.2.2.1.hrow
                        obtain ⟨Ah9, ch9, hfe9⟩ := (HP9.out.2.2.2.2.1.each lv ll).form
                        have eH9 : curH9[lv]? = some (.slice Ah9 (md9 lv).length ch9) := by
                          rw [← hfe9]
                          exact hcu9 lv _ (by rw [List.getElem?_map, List.getElem?_range ll]; rfl)
                        have hbm9 := HP9.out.2.2.1.le _ _ hcb9
                        rw [hfe9] at HS9
                        obtain ⟨nh9, hnh9⟩ : ∃ k, (md9 lv).length = k := ⟨_, rfl⟩
                        rw [hnh9] at eH9 HS9
                        clear ha9 hA9 hm9 hI9 hsh9 hcb9 hcu9 hfe9 hnh9
                        have hllt : (lv : Int) < (L : Int) := by omega
                        go_wp2_with (first
                          | (with_reducible show wpList _ _ _ ({ dst := _, op := Op.load 87 _, type := _, pos := _, after := _, guard := _ } :: _) _ _; refine wpList_load1_has h rfl 87 _ rfl rfl hbm9 eH9 Tryz.underlying87 rfl ?_)
                          | (go_at_call 44; refine (HS9.out _ h).mono ?_; clear h; rintro _ w ⟨rfl, h⟩)
                          | (go_at_call 24; refine (FT9.out _ h).mono ?_; clear h; rintro _ w ⟨rfl, h⟩))
                        go_roundw
                        case rel => exact ⟨i + 1, M9, lab9, K9, labK9, s3, fx9, fh9, Lf9, gl9, md9, by have := HLT.out; omega, by first | rfl | go_num, h, HP9.out.2.1, HP9.out.2.2.1, HP9.out.2.2.2.1, HP9.out.2.2.2.2.1, HP9.out.2.2.2.2.2⟩
                        case measure => have := HLT.out; simp [intOf]; omega
              · as_aux_lemma =>
                  obtain ⟨wn, rfl⟩ : ∃ wn : Nat, eg = (wn : Nat) := ⟨eg.toNat, by omega⟩
                  have hwn : wn < nh := by omega
                  obtain ⟨curH5, hcb5, hcu5⟩ := Own.at_ HA3.out.hrow
                  have hE := HA3.out.each lv ll
                  obtain ⟨Ah5, ch5, hfe5⟩ := hE.form
                  have eH5 : curH5[lv]? = some (.slice Ah5 (md lv).length ch5) := by
                    rw [← hfe5]
                    exact hcu5 lv _ (by rw [List.getElem?_map, List.getElem?_range ll]; rfl)
                  rw [hfe5] at hE
                  rw [HNH.out] at eH5 hE
                  obtain ⟨gh, cgh, hce⟩ := Own.pos hE (by omega)
                  cases hce
                  obtain ⟨curE, hgE, hcE⟩ := Own.at_ hE
                  obtain ⟨y, hyq⟩ : ∃ y, (md lv)[wn]? = some y := ⟨_, List.getElem?_eq_getElem (by rw [HNH.out]; exact hwn)⟩
                  obtain ⟨x, hyx⟩ : ∃ x, y.1 = x := ⟨_, rfl⟩
                  have ex : curE[wn * 6 + 0]? = some (.int .i64 (x : Nat)) := hcE (wn * 6 + 0) _ ((flat_get encM_len (md lv) wn y hyq 0 (by decide)).trans (by rw [← hyx]; rfl))
                  rw [Nat.add_zero] at ex
                  have hbm5 := HK3.out _ _ hcb5
                  have hgE5 := HK3.out _ _ hgE
                  have hrdE : Rd M3 6 (.slice (some ⟨gh, 0, none⟩) nh ch5) nh ((md lv).flatMap encM) := hE.rd.le HK3.out
                  have HYQ := Lib.hid hyq
                  have HYX := Lib.hid hyx
                  have hll : (lv : Int) < (L : Int) := by omega
                  have hwn' : (wn : Int) < (nh : Int) := by omega
                  have hn60h : nh ≤ 60 := by
                    have h1 := HALL.out.2.2.2.short ll
                    rw [HNH.out] at h1
                    have := HNU.out.s0.2
                    omega
                  have HCUR := Lib.hid hcb5
                  have hszH : lv < curH5.size := (Array.getElem?_eq_some_iff.1 eH5).1
                  clear hw hneg hcu5 hfe5 hcE hgE hyq hyx hE hcb5
                  go_upto_region 17 with (first
                    | (with_reducible show wpList _ _ _ ({ dst := _, op := Op.load 3 _, type := _, pos := _, after := _, guard := _ } :: _) _ _; refine wpList_load1_has h rfl 3 _ rfl rfl hb11 dd1 Tryz.underlying3 rfl ?_))
                  refine wp_region_class (Has σ M3) (by kernel_rfl) (by kernel_rfl) h.drew ?_
                  clear h
                  repeat (first
                    | go_big_quiet_skip
                    | (go_big_quiet_want; first
                      | (refine quiet_load_has 87 _ rfl rfl hbm5 eH5 Tryz.underlying87 rfl ?_; simp only [Act.put, List.setIfInBounds_toArray, List.set_cons_zero, List.set_cons_succ]; go_big_quiet_on)
                      | (refine quiet_load_has 3 _ rfl rfl hb11 dd1 Tryz.underlying3 rfl ?_; simp only [Act.put, List.setIfInBounds_toArray, List.set_cons_zero, List.set_cons_succ]; go_big_quiet_on)
                      | (refine quiet_load_has 3 _ rfl rfl hgE5 ex Tryz.underlying3 rfl ?_; simp only [Act.put, List.setIfInBounds_toArray, List.set_cons_zero, List.set_cons_succ]; go_big_quiet_on)
                      | (go_big_quiet_op; first | go_big_quiet_on | go_big_quiet_call (first | with_reducible exact fun _ => rfl))))
                  refine wpQuiet_nil ?_
                  try clear w
                  intro w h
                  go_upto_region 18 with (fail)
                  clear ex hgE5
                  have hr1 : Rd M3 6 (.slice (some ⟨gh, 0, none⟩) wn ch5) wn (((md lv).flatMap encM).take (wn * 6)) := by
                    have := hrdE.upto_n (k := wn) (by decide) (by omega)
                    simpa [sliced, Addr.add_mid] using this
                  have hr2 : Rd M3 6 (.slice (if ch5 = wn + 1 then some ⟨gh, 0, none⟩ else some ⟨gh, (wn + 1) * 6, none⟩) (nh - (wn + 1)) (ch5 - (wn + 1))) (nh - (wn + 1)) (((md lv).flatMap encM).drop ((wn + 1) * 6)) := by
                    have := hrdE.from_n (l := wn + 1) (by decide) (by omega)
                    simpa [sliced, Addr.add_mid] using this
                  have one1 : ∀ v ∈ ((md lv).flatMap encM).take (wn * 6), v.oneCell' = true := fun v hv => encM_one _ v (List.mem_of_mem_take hv)
                  have one2 : ∀ v ∈ ((md lv).flatMap encM).drop ((wn + 1) * 6), v.oneCell' = true := fun v hv => encM_one _ v (List.mem_of_mem_drop hv)
                  have hch : nh ≤ ch5 := by obtain ⟨_, A', c', e, hc, _⟩ := hrdE; cases e; exact hc
                  have hKS : (outK K3 M3 labK3 2).le M3 := outK_le _ _ _ _
                  have hKd := stable_outK (j := 2) HB3.out.le (by omega) _ _ HST3.out
                  have hKbh : outK K3 M3 labK3 2 bh = none := by
                    obtain ⟨_, ⟨hv, _⟩ | ⟨g', cap', cur', hv, hg', _⟩⟩ := HA3.out.hrow.up HK3.out
                    · cases hv
                    · cases hv; exact hg'
                  generalize outK K3 M3 labK3 2 = KS at hKS hKbh hKd
                  have wq1 : IntKind.i64.wrap ((wn : Int) + 1) = ((wn + 1 : Nat) : Int) := by rw [show (wn : Int) + 1 = ((wn + 1 : Nat) : Int) by omega]; exact IntWalk.i64_in _ (by omega)
                  have s1 : (0 : Int) ≤ (wn : Int) ∧ (wn : Int) ≤ (ch5 : Int) := by omega
                  have s2 : ((wn + 1 : Nat) : Int) ≤ (nh : Int) := by omega
                  have s4 : 0 ≤ (wn : Int) + 1 ∧ (wn : Int) + 1 ≤ (nh : Int) := by omega
                  clear hrdE
                  have HXS := Lib.hid (flatM_erase (md lv) wn (by rw [HNH.out]; exact hwn))
                  generalize ((md lv).flatMap encM).take (wn * 6) = xs1 at *
                  generalize ((md lv).flatMap encM).drop ((wn + 1) * 6) = xs2 at *
                  go_cut [] from 57 to 226 (fun wx => ∃ (M5 : Mm) (v : Value), M3.le M5 ∧ Own M3 M5 91 6 v (nh - 1) (xs1 ++ xs2) ∧ Has σ (M5.upd bh (.cells (curH5.setIfInBounds lv v) 87)) wx)
                  case first =>
                    as_aux_lemma =>
                      refine wp_region_held_drew (S := Has σ (KS)) (by kernel_rfl) (h.drew.le hKS) (fun hHeld => ?_)
                      refine wpAnyH_take (i := 0) (v := ?_) rfl (by kernel_rfl) (by kernel_rfl) (by kernel_rfl) (fun _ _ _ h => h) (Or.inl ⟨by rfl, ?_⟩) hHeld ?_
                      rotate_left
                      · (intro wz _; go_simp; try with_reducible rfl)
                      try simp only [List.getElem_toArray, List.getElem_cons_succ, List.getElem_cons_zero, Act.put, List.setIfInBounds_toArray, List.set_cons_zero, List.set_cons_succ]
                      refine wpAnyH_take (i := 1) (v := ?_) rfl (by kernel_rfl) (by kernel_rfl) (by kernel_rfl) (fun _ _ _ h => h) (Or.inl ⟨by rfl, ?_⟩) hHeld ?_
                      rotate_left
                      · (intro wz _; go_simp; try with_reducible rfl)
                      try simp only [List.getElem_toArray, List.getElem_cons_succ, List.getElem_cons_zero, Act.put, List.setIfInBounds_toArray, List.set_cons_zero, List.set_cons_succ]
                      refine wpAnyH_take (i := 3) (v := ?_) rfl (by kernel_rfl) (by kernel_rfl) (by kernel_rfl) (fun _ _ _ h => h) (Or.inl ⟨by rfl, ?_⟩) hHeld ?_
                      rotate_left
                      · (intro wz _; go_simp; try with_reducible rfl)
                      try simp only [List.getElem_toArray, List.getElem_cons_succ, List.getElem_cons_zero, Act.put, List.setIfInBounds_toArray, List.set_cons_zero, List.set_cons_succ]
                      refine wpAnyH_take (i := 4) (v := ?_) rfl (by kernel_rfl) (by kernel_rfl) (by kernel_rfl) (fun _ _ _ h => h) (Or.inl ⟨by rfl, ?_⟩) hHeld ?_
                      rotate_left
                      · (intro wz _; go_simp; try with_reducible rfl)
                      try simp only [List.getElem_toArray, List.getElem_cons_succ, List.getElem_cons_zero, Act.put, List.setIfInBounds_toArray, List.set_cons_zero, List.set_cons_succ]
                      refine wpAnyH_take (i := 5) (v := ?_) rfl (by kernel_rfl) (by kernel_rfl) (by kernel_rfl) (fun _ _ _ h => h) (Or.inl ⟨by rfl, ?_⟩) hHeld ?_
                      rotate_left
                      · (intro wz _; go_simp; try with_reducible rfl)
                      try simp only [List.getElem_toArray, List.getElem_cons_succ, List.getElem_cons_zero, Act.put, List.setIfInBounds_toArray, List.set_cons_zero, List.set_cons_succ]
                      refine wpAnyH_take (i := 7) (v := ?_) rfl (by kernel_rfl) (by kernel_rfl) (by kernel_rfl) (fun _ _ _ h => h) (Or.inl ⟨by rfl, ?_⟩) hHeld ?_
                      rotate_left
                      · (intro wz _; go_simp; try with_reducible rfl)
                      try simp only [List.getElem_toArray, List.getElem_cons_succ, List.getElem_cons_zero, Act.put, List.setIfInBounds_toArray, List.set_cons_zero, List.set_cons_succ]
                      refine wpAnyH_take (i := 8) (v := _) rfl (by kernel_rfl) (by kernel_rfl) (by kernel_rfl) (fun _ _ _ h => h) (yields_load1 rfl 3 _ rfl rfl hKd dd1 Tryz.underlying3 rfl) hHeld ?_
                      try simp only [List.getElem_toArray, List.getElem_cons_succ, List.getElem_cons_zero, Act.put, List.setIfInBounds_toArray, List.set_cons_zero, List.set_cons_succ]
                      refine wpAnyH_take (i := 11) (v := ?_) rfl (by kernel_rfl) (by kernel_rfl) (by kernel_rfl) (fun _ _ _ h => h) (Or.inl ⟨by rfl, ?_⟩) hHeld ?_
                      rotate_left
                      · (intro wz _; go_simp; try with_reducible rfl)
                      try simp only [List.getElem_toArray, List.getElem_cons_succ, List.getElem_cons_zero, Act.put, List.setIfInBounds_toArray, List.set_cons_zero, List.set_cons_succ]
                      refine wpAnyH_take (i := 12) (v := ?_) rfl (by kernel_rfl) (by kernel_rfl) (by kernel_rfl) (fun _ _ _ h => h) (Or.inl ⟨by rfl, ?_⟩) hHeld ?_
                      rotate_left
                      · (intro wz _; go_simp; try with_reducible rfl)
                      try simp only [List.getElem_toArray, List.getElem_cons_succ, List.getElem_cons_zero, Act.put, List.setIfInBounds_toArray, List.set_cons_zero, List.set_cons_succ]
                      refine wpAnyH_take (i := 13) (v := ?_) rfl (by kernel_rfl) (by kernel_rfl) (by kernel_rfl) (fun _ _ _ h => h) (Or.inl ⟨by rfl, ?_⟩) hHeld ?_
                      rotate_left
                      · (intro wz _; go_simp; try with_reducible rfl)
                      try simp only [List.getElem_toArray, List.getElem_cons_succ, List.getElem_cons_zero, Act.put, List.setIfInBounds_toArray, List.set_cons_zero, List.set_cons_succ]
                      refine wpAnyH_take (i := 15) (v := ?_) rfl (by kernel_rfl) (by kernel_rfl) (by kernel_rfl) (fun _ _ _ h => h) (Or.inl ⟨by rfl, ?_⟩) hHeld ?_
                      rotate_left
                      · (intro wz _; go_simp; try with_reducible rfl)
                      try simp only [List.getElem_toArray, List.getElem_cons_succ, List.getElem_cons_zero, Act.put, List.setIfInBounds_toArray, List.set_cons_zero, List.set_cons_succ]
                      refine wpAnyH_take (i := 16) (v := _) rfl (by kernel_rfl) (by kernel_rfl) (by kernel_rfl) (fun _ _ _ h => h) (yields_load1 rfl 3 _ rfl rfl hKd dd1 Tryz.underlying3 rfl) hHeld ?_
                      try simp only [List.getElem_toArray, List.getElem_cons_succ, List.getElem_cons_zero, Act.put, List.setIfInBounds_toArray, List.set_cons_zero, List.set_cons_succ]
                      refine wpAnyH_take (i := 17) (v := ?_) rfl (by kernel_rfl) (by kernel_rfl) (by kernel_rfl) (fun _ _ _ h => h) (Or.inl ⟨by rfl, ?_⟩) hHeld ?_
                      rotate_left
                      · (intro wz _; go_simp; try with_reducible rfl)
                      try simp only [List.getElem_toArray, List.getElem_cons_succ, List.getElem_cons_zero, Act.put, List.setIfInBounds_toArray, List.set_cons_zero, List.set_cons_succ]
                      replace h := h.drew
                      generalize w.drew = wq at h hHeld ⊢
                      obtain ⟨w, rfl⟩ : ∃ q : World, q = wq := ⟨_, rfl⟩
                      have hbmC := hbm5
                      refine wpAnyH_ready (rs := [2, 6, 14]) (by kernel_rfl) (by simp) ?_
                      refine AllReadyH.cons rfl (fun K hK => ?_) (AllReadyH.cons rfl (fun K hK => ?_) (AllReadyH.cons rfl (fun K hK => ?_) AllReadyH.nil))
                      · skip
                        go_simp
                        refine hK.out _ _ ((h.quietAlloc _).le hKS) (fun hHeld => ?_)
                        clear hK K
                        try simp only [Act.put, List.setIfInBounds_toArray, List.set_cons_zero, List.set_cons_succ]
                        clear hHeld
                        obtain ⟨Mn, hbx, hlen, hb2, hn2⟩ := h.box (.cells #[] 91)
                        generalize w.alloc _ = wx at hbx ⊢
                        generalize w.heap.size = b2 at hb2 hn2 ⊢
                        clear h
                        try clear w
                        have h := hbx
                        clear hbx
                        obtain ⟨w, rfl⟩ : ∃ x : World, x = wx := ⟨_, rfl⟩
                        have hHeld := h.le (Mm.le_trans hKS hlen)
                        replace hbmC := hlen _ _ hbm5
                        have hown1 : Own M3 Mn 91 6 (.slice (some ⟨b2, 0, none⟩) 0 0) 0 [] := ⟨rfl, .inr ⟨b2, 0, #[], rfl, hn2, hb2, Nat.le_refl _, by unfold maxLen; omega, rfl, rfl⟩⟩
                        refine wpAnyH_ready (rs := [6, 14]) (by kernel_rfl) (by simp) ?_
                        refine AllReadyH.cons rfl (fun K hK => ?_) (AllReadyH.cons rfl (fun K hK => ?_) AllReadyH.nil)
                        · skip
                          refine step_yields rfl (yields_load1 rfl 87 _ rfl rfl hbmC eH5 Tryz.underlying87 rfl) h ?_
                          refine hK.out _ _ hHeld (fun hHeld => ?_)
                          clear hK K
                          simp only [Act.put, List.setIfInBounds_toArray, List.set_cons_zero, List.set_cons_succ]
                          refine wpAnyH_take (i := 9) (v := ?_) rfl (by kernel_rfl) (by kernel_rfl) (by kernel_rfl) (fun _ _ _ h => h) (Or.inl ⟨by rfl, ?_⟩) hHeld ?_
                          rotate_left
                          · (intro wz _; go_simp; try with_reducible rfl)
                          try simp only [List.getElem_toArray, List.getElem_cons_succ, List.getElem_cons_zero, Act.put, List.setIfInBounds_toArray, List.set_cons_zero, List.set_cons_succ]
                          refine wpAnyH_ready (rs := [10, 14]) (by kernel_rfl) (by simp) ?_
                          refine AllReadyH.cons rfl (fun K hK => ?_) (AllReadyH.cons rfl (fun K hK => ?_) AllReadyH.nil)
                          · skip
                            refine step_append_rd (M0 := M3) h hlen rfl _ _ 87 rfl Tryz.underlying87 info_M rfl (by omega) rfl hown1 rfl (hr1.le hlen) one1 (by omega) (by omega) ?_
                            clear h hHeld hown1 hb2 hn2 hbmC hlen
                            intro v4 w hacc4
                            obtain ⟨M4, h, hle4, hown4⟩ := hacc4
                            rw [Nat.zero_add, List.nil_append] at hown4
                            refine hK.out _ _ (h.le (Mm.le_trans hKS hle4)) (fun hHeld => ?_)
                            clear hK K
                            simp only [Act.put, List.setIfInBounds_toArray, List.set_cons_zero, List.set_cons_succ]
                            have hbmC := hle4 _ _ hbm5
                            refine wpAnyH_ready (rs := [14]) (by kernel_rfl) (by simp) ?_
                            refine AllReadyH.cons rfl (fun K hK => ?_) AllReadyH.nil
                            refine step_yields rfl (yields_load1 rfl 87 _ rfl rfl hbmC eH5 Tryz.underlying87 rfl) h ?_
                            refine hK.out _ _ hHeld (fun hHeld => ?_)
                            clear hK K
                            simp only [Act.put, List.setIfInBounds_toArray, List.set_cons_zero, List.set_cons_succ]
                            refine wpAnyH_take (i := 18) (v := ?_) rfl (by kernel_rfl) (by kernel_rfl) (by kernel_rfl) (fun _ _ _ h => h) (Or.inl ⟨by rfl, ?_⟩) hHeld ?_
                            rotate_left
                            · (intro wz _; go_simp; try with_reducible rfl)
                            try simp only [List.getElem_toArray, List.getElem_cons_succ, List.getElem_cons_zero, Act.put, List.setIfInBounds_toArray, List.set_cons_zero, List.set_cons_succ]
                            refine wpAnyH_ready (rs := [19]) (by kernel_rfl) (by simp) ?_
                            refine AllReadyH.cons rfl (fun K hK => ?_) AllReadyH.nil
                            refine step_append_rd (M0 := M3) h hle4 rfl _ _ 87 rfl Tryz.underlying87 info_M rfl (by omega) rfl hown4 rfl (hr2.le hle4) one2 (by omega) (by omega) ?_
                            clear h hHeld hown4 hbmC hle4
                            intro v6 w hacc6
                            obtain ⟨M6, h, hle6, hown6⟩ := hacc6
                            rw [show wn + (nh - (wn + 1)) = nh - 1 by omega] at hown6
                            obtain ⟨A6, c6, rfl⟩ := hown6.form
                            refine hK.out _ _ (h.le (Mm.le_trans hKS hle6)) (fun hHeld => ?_)
                            clear hK K
                            simp only [Act.put, List.setIfInBounds_toArray, List.set_cons_zero, List.set_cons_succ]
                            have hbmC := hle6 _ _ hbm5
                            refine wpAnyH_take (i := 20) (v := ?_) rfl (by kernel_rfl) (by kernel_rfl) (by kernel_rfl) (fun _ _ _ h => h) (Or.inl ⟨by rfl, ?_⟩) hHeld ?_
                            rotate_left
                            · (intro wz _; go_simp; try with_reducible rfl)
                            try simp only [List.getElem_toArray, List.getElem_cons_succ, List.getElem_cons_zero, Act.put, List.setIfInBounds_toArray, List.set_cons_zero, List.set_cons_succ]
                            refine wpAnyH_ready (rs := [21]) (by kernel_rfl) (by simp) ?_
                            refine AllReadyH.cons rfl (fun K hK => ?_) AllReadyH.nil
                            refine step_store1 h rfl 87 _ _ rfl rfl rfl hbmC hszH rfl rfl (by kernel_rfl) ?_
                            clear h hHeld
                            intro w h
                            refine hK.out _ _ (h.le (Mm.le_upd (Mm.le_trans hKS hle6) hKbh _)) (fun hHeld => ?_)
                            clear hK K
                            refine wpAnyH_done (by kernel_rfl) ?_ _
                            have hEnd := h
                            go_wp2
                            all_goals (go_meet; (case rel => exact ⟨M6, _, hle6, hown6, hEnd⟩))
                          · skip
                            refine step_yields rfl (yields_load1 rfl 87 _ rfl rfl hbmC eH5 Tryz.underlying87 rfl) h ?_
                            refine hK.out _ _ hHeld (fun hHeld => ?_)
                            clear hK K
                            simp only [Act.put, List.setIfInBounds_toArray, List.set_cons_zero, List.set_cons_succ]
                            refine wpAnyH_take (i := 18) (v := ?_) rfl (by kernel_rfl) (by kernel_rfl) (by kernel_rfl) (fun _ _ _ h => h) (Or.inl ⟨by rfl, ?_⟩) hHeld ?_
                            rotate_left
                            · (intro wz _; go_simp; try with_reducible rfl)
                            try simp only [List.getElem_toArray, List.getElem_cons_succ, List.getElem_cons_zero, Act.put, List.setIfInBounds_toArray, List.set_cons_zero, List.set_cons_succ]
                            refine wpAnyH_ready (rs := [10]) (by kernel_rfl) (by simp) ?_
                            refine AllReadyH.cons rfl (fun K hK => ?_) AllReadyH.nil
                            refine step_append_rd (M0 := M3) h hlen rfl _ _ 87 rfl Tryz.underlying87 info_M rfl (by omega) rfl hown1 rfl (hr1.le hlen) one1 (by omega) (by omega) ?_
                            clear h hHeld hown1 hb2 hn2 hbmC hlen
                            intro v4 w hacc4
                            obtain ⟨M4, h, hle4, hown4⟩ := hacc4
                            rw [Nat.zero_add, List.nil_append] at hown4
                            refine hK.out _ _ (h.le (Mm.le_trans hKS hle4)) (fun hHeld => ?_)
                            clear hK K
                            simp only [Act.put, List.setIfInBounds_toArray, List.set_cons_zero, List.set_cons_succ]
                            have hbmC := hle4 _ _ hbm5
                            refine wpAnyH_ready (rs := [19]) (by kernel_rfl) (by simp) ?_
                            refine AllReadyH.cons rfl (fun K hK => ?_) AllReadyH.nil
                            refine step_append_rd (M0 := M3) h hle4 rfl _ _ 87 rfl Tryz.underlying87 info_M rfl (by omega) rfl hown4 rfl (hr2.le hle4) one2 (by omega) (by omega) ?_
                            clear h hHeld hown4 hbmC hle4
                            intro v6 w hacc6
                            obtain ⟨M6, h, hle6, hown6⟩ := hacc6
                            rw [show wn + (nh - (wn + 1)) = nh - 1 by omega] at hown6
                            obtain ⟨A6, c6, rfl⟩ := hown6.form
                            refine hK.out _ _ (h.le (Mm.le_trans hKS hle6)) (fun hHeld => ?_)
                            clear hK K
                            simp only [Act.put, List.setIfInBounds_toArray, List.set_cons_zero, List.set_cons_succ]
                            have hbmC := hle6 _ _ hbm5
                            refine wpAnyH_take (i := 20) (v := ?_) rfl (by kernel_rfl) (by kernel_rfl) (by kernel_rfl) (fun _ _ _ h => h) (Or.inl ⟨by rfl, ?_⟩) hHeld ?_
                            rotate_left
                            · (intro wz _; go_simp; try with_reducible rfl)
                            try simp only [List.getElem_toArray, List.getElem_cons_succ, List.getElem_cons_zero, Act.put, List.setIfInBounds_toArray, List.set_cons_zero, List.set_cons_succ]
                            refine wpAnyH_ready (rs := [21]) (by kernel_rfl) (by simp) ?_
                            refine AllReadyH.cons rfl (fun K hK => ?_) AllReadyH.nil
                            refine step_store1 h rfl 87 _ _ rfl rfl rfl hbmC hszH rfl rfl (by kernel_rfl) ?_
                            clear h hHeld
                            intro w h
                            refine hK.out _ _ (h.le (Mm.le_upd (Mm.le_trans hKS hle6) hKbh _)) (fun hHeld => ?_)
                            clear hK K
                            refine wpAnyH_done (by kernel_rfl) ?_ _
                            have hEnd := h
                            go_wp2
                            all_goals (go_meet; (case rel => exact ⟨M6, _, hle6, hown6, hEnd⟩))
                        · skip
                          refine step_yields rfl (yields_load1 rfl 87 _ rfl rfl hbmC eH5 Tryz.underlying87 rfl) h ?_
                          refine hK.out _ _ hHeld (fun hHeld => ?_)
                          clear hK K
                          simp only [Act.put, List.setIfInBounds_toArray, List.set_cons_zero, List.set_cons_succ]
                          refine wpAnyH_take (i := 18) (v := ?_) rfl (by kernel_rfl) (by kernel_rfl) (by kernel_rfl) (fun _ _ _ h => h) (Or.inl ⟨by rfl, ?_⟩) hHeld ?_
                          rotate_left
                          · (intro wz _; go_simp; try with_reducible rfl)
                          try simp only [List.getElem_toArray, List.getElem_cons_succ, List.getElem_cons_zero, Act.put, List.setIfInBounds_toArray, List.set_cons_zero, List.set_cons_succ]
                          refine wpAnyH_ready (rs := [6]) (by kernel_rfl) (by simp) ?_
                          refine AllReadyH.cons rfl (fun K hK => ?_) AllReadyH.nil
                          refine step_yields rfl (yields_load1 rfl 87 _ rfl rfl hbmC eH5 Tryz.underlying87 rfl) h ?_
                          refine hK.out _ _ hHeld (fun hHeld => ?_)
                          clear hK K
                          simp only [Act.put, List.setIfInBounds_toArray, List.set_cons_zero, List.set_cons_succ]
                          refine wpAnyH_take (i := 9) (v := ?_) rfl (by kernel_rfl) (by kernel_rfl) (by kernel_rfl) (fun _ _ _ h => h) (Or.inl ⟨by rfl, ?_⟩) hHeld ?_
                          rotate_left
                          · (intro wz _; go_simp; try with_reducible rfl)
                          try simp only [List.getElem_toArray, List.getElem_cons_succ, List.getElem_cons_zero, Act.put, List.setIfInBounds_toArray, List.set_cons_zero, List.set_cons_succ]
                          refine wpAnyH_ready (rs := [10]) (by kernel_rfl) (by simp) ?_
                          refine AllReadyH.cons rfl (fun K hK => ?_) AllReadyH.nil
                          refine step_append_rd (M0 := M3) h hlen rfl _ _ 87 rfl Tryz.underlying87 info_M rfl (by omega) rfl hown1 rfl (hr1.le hlen) one1 (by omega) (by omega) ?_
                          clear h hHeld hown1 hb2 hn2 hbmC hlen
                          intro v4 w hacc4
                          obtain ⟨M4, h, hle4, hown4⟩ := hacc4
                          rw [Nat.zero_add, List.nil_append] at hown4
                          refine hK.out _ _ (h.le (Mm.le_trans hKS hle4)) (fun hHeld => ?_)
                          clear hK K
                          simp only [Act.put, List.setIfInBounds_toArray, List.set_cons_zero, List.set_cons_succ]
                          have hbmC := hle4 _ _ hbm5
                          refine wpAnyH_ready (rs := [19]) (by kernel_rfl) (by simp) ?_
                          refine AllReadyH.cons rfl (fun K hK => ?_) AllReadyH.nil
                          refine step_append_rd (M0 := M3) h hle4 rfl _ _ 87 rfl Tryz.underlying87 info_M rfl (by omega) rfl hown4 rfl (hr2.le hle4) one2 (by omega) (by omega) ?_
                          clear h hHeld hown4 hbmC hle4
                          intro v6 w hacc6
                          obtain ⟨M6, h, hle6, hown6⟩ := hacc6
                          rw [show wn + (nh - (wn + 1)) = nh - 1 by omega] at hown6
                          obtain ⟨A6, c6, rfl⟩ := hown6.form
                          refine hK.out _ _ (h.le (Mm.le_trans hKS hle6)) (fun hHeld => ?_)
                          clear hK K
                          simp only [Act.put, List.setIfInBounds_toArray, List.set_cons_zero, List.set_cons_succ]
                          have hbmC := hle6 _ _ hbm5
                          refine wpAnyH_take (i := 20) (v := ?_) rfl (by kernel_rfl) (by kernel_rfl) (by kernel_rfl) (fun _ _ _ h => h) (Or.inl ⟨by rfl, ?_⟩) hHeld ?_
                          rotate_left
                          · (intro wz _; go_simp; try with_reducible rfl)
                          try simp only [List.getElem_toArray, List.getElem_cons_succ, List.getElem_cons_zero, Act.put, List.setIfInBounds_toArray, List.set_cons_zero, List.set_cons_succ]
                          refine wpAnyH_ready (rs := [21]) (by kernel_rfl) (by simp) ?_
                          refine AllReadyH.cons rfl (fun K hK => ?_) AllReadyH.nil
                          refine step_store1 h rfl 87 _ _ rfl rfl rfl hbmC hszH rfl rfl (by kernel_rfl) ?_
                          clear h hHeld
                          intro w h
                          refine hK.out _ _ (h.le (Mm.le_upd (Mm.le_trans hKS hle6) hKbh _)) (fun hHeld => ?_)
                          clear hK K
                          refine wpAnyH_done (by kernel_rfl) ?_ _
                          have hEnd := h
                          go_wp2
                          all_goals (go_meet; (case rel => exact ⟨M6, _, hle6, hown6, hEnd⟩))
                      · skip
                        refine step_yields rfl (yields_load1 rfl 87 _ rfl rfl hbmC eH5 Tryz.underlying87 rfl) h ?_
                        refine hK.out _ _ hHeld (fun hHeld => ?_)
                        clear hK K
                        simp only [Act.put, List.setIfInBounds_toArray, List.set_cons_zero, List.set_cons_succ]
                        refine wpAnyH_take (i := 9) (v := ?_) rfl (by kernel_rfl) (by kernel_rfl) (by kernel_rfl) (fun _ _ _ h => h) (Or.inl ⟨by rfl, ?_⟩) hHeld ?_
                        rotate_left
                        · (intro wz _; go_simp; try with_reducible rfl)
                        try simp only [List.getElem_toArray, List.getElem_cons_succ, List.getElem_cons_zero, Act.put, List.setIfInBounds_toArray, List.set_cons_zero, List.set_cons_succ]
                        refine wpAnyH_ready (rs := [2, 14]) (by kernel_rfl) (by simp) ?_
                        refine AllReadyH.cons rfl (fun K hK => ?_) (AllReadyH.cons rfl (fun K hK => ?_) AllReadyH.nil)
                        · skip
                          go_simp
                          refine hK.out _ _ ((h.quietAlloc _).le hKS) (fun hHeld => ?_)
                          clear hK K
                          try simp only [Act.put, List.setIfInBounds_toArray, List.set_cons_zero, List.set_cons_succ]
                          clear hHeld
                          obtain ⟨Mn, hbx, hlen, hb2, hn2⟩ := h.box (.cells #[] 91)
                          generalize w.alloc _ = wx at hbx ⊢
                          generalize w.heap.size = b2 at hb2 hn2 ⊢
                          clear h
                          try clear w
                          have h := hbx
                          clear hbx
                          obtain ⟨w, rfl⟩ : ∃ x : World, x = wx := ⟨_, rfl⟩
                          have hHeld := h.le (Mm.le_trans hKS hlen)
                          replace hbmC := hlen _ _ hbm5
                          have hown1 : Own M3 Mn 91 6 (.slice (some ⟨b2, 0, none⟩) 0 0) 0 [] := ⟨rfl, .inr ⟨b2, 0, #[], rfl, hn2, hb2, Nat.le_refl _, by unfold maxLen; omega, rfl, rfl⟩⟩
                          refine wpAnyH_ready (rs := [10, 14]) (by kernel_rfl) (by simp) ?_
                          refine AllReadyH.cons rfl (fun K hK => ?_) (AllReadyH.cons rfl (fun K hK => ?_) AllReadyH.nil)
                          · skip
                            refine step_append_rd (M0 := M3) h hlen rfl _ _ 87 rfl Tryz.underlying87 info_M rfl (by omega) rfl hown1 rfl (hr1.le hlen) one1 (by omega) (by omega) ?_
                            clear h hHeld hown1 hb2 hn2 hbmC hlen
                            intro v4 w hacc4
                            obtain ⟨M4, h, hle4, hown4⟩ := hacc4
                            rw [Nat.zero_add, List.nil_append] at hown4
                            refine hK.out _ _ (h.le (Mm.le_trans hKS hle4)) (fun hHeld => ?_)
                            clear hK K
                            simp only [Act.put, List.setIfInBounds_toArray, List.set_cons_zero, List.set_cons_succ]
                            have hbmC := hle4 _ _ hbm5
                            refine wpAnyH_ready (rs := [14]) (by kernel_rfl) (by simp) ?_
                            refine AllReadyH.cons rfl (fun K hK => ?_) AllReadyH.nil
                            refine step_yields rfl (yields_load1 rfl 87 _ rfl rfl hbmC eH5 Tryz.underlying87 rfl) h ?_
                            refine hK.out _ _ hHeld (fun hHeld => ?_)
                            clear hK K
                            simp only [Act.put, List.setIfInBounds_toArray, List.set_cons_zero, List.set_cons_succ]
                            refine wpAnyH_take (i := 18) (v := ?_) rfl (by kernel_rfl) (by kernel_rfl) (by kernel_rfl) (fun _ _ _ h => h) (Or.inl ⟨by rfl, ?_⟩) hHeld ?_
                            rotate_left
                            · (intro wz _; go_simp; try with_reducible rfl)
                            try simp only [List.getElem_toArray, List.getElem_cons_succ, List.getElem_cons_zero, Act.put, List.setIfInBounds_toArray, List.set_cons_zero, List.set_cons_succ]
                            refine wpAnyH_ready (rs := [19]) (by kernel_rfl) (by simp) ?_
                            refine AllReadyH.cons rfl (fun K hK => ?_) AllReadyH.nil
                            refine step_append_rd (M0 := M3) h hle4 rfl _ _ 87 rfl Tryz.underlying87 info_M rfl (by omega) rfl hown4 rfl (hr2.le hle4) one2 (by omega) (by omega) ?_
                            clear h hHeld hown4 hbmC hle4
                            intro v6 w hacc6
                            obtain ⟨M6, h, hle6, hown6⟩ := hacc6
                            rw [show wn + (nh - (wn + 1)) = nh - 1 by omega] at hown6
                            obtain ⟨A6, c6, rfl⟩ := hown6.form
                            refine hK.out _ _ (h.le (Mm.le_trans hKS hle6)) (fun hHeld => ?_)
                            clear hK K
                            simp only [Act.put, List.setIfInBounds_toArray, List.set_cons_zero, List.set_cons_succ]
                            have hbmC := hle6 _ _ hbm5
                            refine wpAnyH_take (i := 20) (v := ?_) rfl (by kernel_rfl) (by kernel_rfl) (by kernel_rfl) (fun _ _ _ h => h) (Or.inl ⟨by rfl, ?_⟩) hHeld ?_
                            rotate_left
                            · (intro wz _; go_simp; try with_reducible rfl)
                            try simp only [List.getElem_toArray, List.getElem_cons_succ, List.getElem_cons_zero, Act.put, List.setIfInBounds_toArray, List.set_cons_zero, List.set_cons_succ]
                            refine wpAnyH_ready (rs := [21]) (by kernel_rfl) (by simp) ?_
                            refine AllReadyH.cons rfl (fun K hK => ?_) AllReadyH.nil
                            refine step_store1 h rfl 87 _ _ rfl rfl rfl hbmC hszH rfl rfl (by kernel_rfl) ?_
                            clear h hHeld
                            intro w h
                            refine hK.out _ _ (h.le (Mm.le_upd (Mm.le_trans hKS hle6) hKbh _)) (fun hHeld => ?_)
                            clear hK K
                            refine wpAnyH_done (by kernel_rfl) ?_ _
                            have hEnd := h
                            go_wp2
                            all_goals (go_meet; (case rel => exact ⟨M6, _, hle6, hown6, hEnd⟩))
                          · skip
                            refine step_yields rfl (yields_load1 rfl 87 _ rfl rfl hbmC eH5 Tryz.underlying87 rfl) h ?_
                            refine hK.out _ _ hHeld (fun hHeld => ?_)
                            clear hK K
                            simp only [Act.put, List.setIfInBounds_toArray, List.set_cons_zero, List.set_cons_succ]
                            refine wpAnyH_take (i := 18) (v := ?_) rfl (by kernel_rfl) (by kernel_rfl) (by kernel_rfl) (fun _ _ _ h => h) (Or.inl ⟨by rfl, ?_⟩) hHeld ?_
                            rotate_left
                            · (intro wz _; go_simp; try with_reducible rfl)
                            try simp only [List.getElem_toArray, List.getElem_cons_succ, List.getElem_cons_zero, Act.put, List.setIfInBounds_toArray, List.set_cons_zero, List.set_cons_succ]
                            refine wpAnyH_ready (rs := [10]) (by kernel_rfl) (by simp) ?_
                            refine AllReadyH.cons rfl (fun K hK => ?_) AllReadyH.nil
                            refine step_append_rd (M0 := M3) h hlen rfl _ _ 87 rfl Tryz.underlying87 info_M rfl (by omega) rfl hown1 rfl (hr1.le hlen) one1 (by omega) (by omega) ?_
                            clear h hHeld hown1 hb2 hn2 hbmC hlen
                            intro v4 w hacc4
                            obtain ⟨M4, h, hle4, hown4⟩ := hacc4
                            rw [Nat.zero_add, List.nil_append] at hown4
                            refine hK.out _ _ (h.le (Mm.le_trans hKS hle4)) (fun hHeld => ?_)
                            clear hK K
                            simp only [Act.put, List.setIfInBounds_toArray, List.set_cons_zero, List.set_cons_succ]
                            have hbmC := hle4 _ _ hbm5
                            refine wpAnyH_ready (rs := [19]) (by kernel_rfl) (by simp) ?_
                            refine AllReadyH.cons rfl (fun K hK => ?_) AllReadyH.nil
                            refine step_append_rd (M0 := M3) h hle4 rfl _ _ 87 rfl Tryz.underlying87 info_M rfl (by omega) rfl hown4 rfl (hr2.le hle4) one2 (by omega) (by omega) ?_
                            clear h hHeld hown4 hbmC hle4
                            intro v6 w hacc6
                            obtain ⟨M6, h, hle6, hown6⟩ := hacc6
                            rw [show wn + (nh - (wn + 1)) = nh - 1 by omega] at hown6
                            obtain ⟨A6, c6, rfl⟩ := hown6.form
                            refine hK.out _ _ (h.le (Mm.le_trans hKS hle6)) (fun hHeld => ?_)
                            clear hK K
                            simp only [Act.put, List.setIfInBounds_toArray, List.set_cons_zero, List.set_cons_succ]
                            have hbmC := hle6 _ _ hbm5
                            refine wpAnyH_take (i := 20) (v := ?_) rfl (by kernel_rfl) (by kernel_rfl) (by kernel_rfl) (fun _ _ _ h => h) (Or.inl ⟨by rfl, ?_⟩) hHeld ?_
                            rotate_left
                            · (intro wz _; go_simp; try with_reducible rfl)
                            try simp only [List.getElem_toArray, List.getElem_cons_succ, List.getElem_cons_zero, Act.put, List.setIfInBounds_toArray, List.set_cons_zero, List.set_cons_succ]
                            refine wpAnyH_ready (rs := [21]) (by kernel_rfl) (by simp) ?_
                            refine AllReadyH.cons rfl (fun K hK => ?_) AllReadyH.nil
                            refine step_store1 h rfl 87 _ _ rfl rfl rfl hbmC hszH rfl rfl (by kernel_rfl) ?_
                            clear h hHeld
                            intro w h
                            refine hK.out _ _ (h.le (Mm.le_upd (Mm.le_trans hKS hle6) hKbh _)) (fun hHeld => ?_)
                            clear hK K
                            refine wpAnyH_done (by kernel_rfl) ?_ _
                            have hEnd := h
                            go_wp2
                            all_goals (go_meet; (case rel => exact ⟨M6, _, hle6, hown6, hEnd⟩))
                        · skip
                          refine step_yields rfl (yields_load1 rfl 87 _ rfl rfl hbmC eH5 Tryz.underlying87 rfl) h ?_
                          refine hK.out _ _ hHeld (fun hHeld => ?_)
                          clear hK K
                          simp only [Act.put, List.setIfInBounds_toArray, List.set_cons_zero, List.set_cons_succ]
                          refine wpAnyH_take (i := 18) (v := ?_) rfl (by kernel_rfl) (by kernel_rfl) (by kernel_rfl) (fun _ _ _ h => h) (Or.inl ⟨by rfl, ?_⟩) hHeld ?_
                          rotate_left
                          · (intro wz _; go_simp; try with_reducible rfl)
                          try simp only [List.getElem_toArray, List.getElem_cons_succ, List.getElem_cons_zero, Act.put, List.setIfInBounds_toArray, List.set_cons_zero, List.set_cons_succ]
                          refine wpAnyH_ready (rs := [2]) (by kernel_rfl) (by simp) ?_
                          refine AllReadyH.cons rfl (fun K hK => ?_) AllReadyH.nil
                          go_simp
                          refine hK.out _ _ ((h.quietAlloc _).le hKS) (fun hHeld => ?_)
                          clear hK K
                          try simp only [Act.put, List.setIfInBounds_toArray, List.set_cons_zero, List.set_cons_succ]
                          clear hHeld
                          obtain ⟨Mn, hbx, hlen, hb2, hn2⟩ := h.box (.cells #[] 91)
                          generalize w.alloc _ = wx at hbx ⊢
                          generalize w.heap.size = b2 at hb2 hn2 ⊢
                          clear h
                          try clear w
                          have h := hbx
                          clear hbx
                          obtain ⟨w, rfl⟩ : ∃ x : World, x = wx := ⟨_, rfl⟩
                          have hHeld := h.le (Mm.le_trans hKS hlen)
                          replace hbmC := hlen _ _ hbm5
                          have hown1 : Own M3 Mn 91 6 (.slice (some ⟨b2, 0, none⟩) 0 0) 0 [] := ⟨rfl, .inr ⟨b2, 0, #[], rfl, hn2, hb2, Nat.le_refl _, by unfold maxLen; omega, rfl, rfl⟩⟩
                          refine wpAnyH_ready (rs := [10]) (by kernel_rfl) (by simp) ?_
                          refine AllReadyH.cons rfl (fun K hK => ?_) AllReadyH.nil
                          refine step_append_rd (M0 := M3) h hlen rfl _ _ 87 rfl Tryz.underlying87 info_M rfl (by omega) rfl hown1 rfl (hr1.le hlen) one1 (by omega) (by omega) ?_
                          clear h hHeld hown1 hb2 hn2 hbmC hlen
                          intro v4 w hacc4
                          obtain ⟨M4, h, hle4, hown4⟩ := hacc4
                          rw [Nat.zero_add, List.nil_append] at hown4
                          refine hK.out _ _ (h.le (Mm.le_trans hKS hle4)) (fun hHeld => ?_)
                          clear hK K
                          simp only [Act.put, List.setIfInBounds_toArray, List.set_cons_zero, List.set_cons_succ]
                          have hbmC := hle4 _ _ hbm5
                          refine wpAnyH_ready (rs := [19]) (by kernel_rfl) (by simp) ?_
                          refine AllReadyH.cons rfl (fun K hK => ?_) AllReadyH.nil
                          refine step_append_rd (M0 := M3) h hle4 rfl _ _ 87 rfl Tryz.underlying87 info_M rfl (by omega) rfl hown4 rfl (hr2.le hle4) one2 (by omega) (by omega) ?_
                          clear h hHeld hown4 hbmC hle4
                          intro v6 w hacc6
                          obtain ⟨M6, h, hle6, hown6⟩ := hacc6
                          rw [show wn + (nh - (wn + 1)) = nh - 1 by omega] at hown6
                          obtain ⟨A6, c6, rfl⟩ := hown6.form
                          refine hK.out _ _ (h.le (Mm.le_trans hKS hle6)) (fun hHeld => ?_)
                          clear hK K
                          simp only [Act.put, List.setIfInBounds_toArray, List.set_cons_zero, List.set_cons_succ]
                          have hbmC := hle6 _ _ hbm5
                          refine wpAnyH_take (i := 20) (v := ?_) rfl (by kernel_rfl) (by kernel_rfl) (by kernel_rfl) (fun _ _ _ h => h) (Or.inl ⟨by rfl, ?_⟩) hHeld ?_
                          rotate_left
                          · (intro wz _; go_simp; try with_reducible rfl)
                          try simp only [List.getElem_toArray, List.getElem_cons_succ, List.getElem_cons_zero, Act.put, List.setIfInBounds_toArray, List.set_cons_zero, List.set_cons_succ]
                          refine wpAnyH_ready (rs := [21]) (by kernel_rfl) (by simp) ?_
                          refine AllReadyH.cons rfl (fun K hK => ?_) AllReadyH.nil
                          refine step_store1 h rfl 87 _ _ rfl rfl rfl hbmC hszH rfl rfl (by kernel_rfl) ?_
                          clear h hHeld
                          intro w h
                          refine hK.out _ _ (h.le (Mm.le_upd (Mm.le_trans hKS hle6) hKbh _)) (fun hHeld => ?_)
                          clear hK K
                          refine wpAnyH_done (by kernel_rfl) ?_ _
                          have hEnd := h
                          go_wp2
                          all_goals (go_meet; (case rel => exact ⟨M6, _, hle6, hown6, hEnd⟩))
                      · skip
                        refine step_yields rfl (yields_load1 rfl 87 _ rfl rfl hbmC eH5 Tryz.underlying87 rfl) h ?_
                        refine hK.out _ _ hHeld (fun hHeld => ?_)
                        clear hK K
                        simp only [Act.put, List.setIfInBounds_toArray, List.set_cons_zero, List.set_cons_succ]
                        refine wpAnyH_take (i := 18) (v := ?_) rfl (by kernel_rfl) (by kernel_rfl) (by kernel_rfl) (fun _ _ _ h => h) (Or.inl ⟨by rfl, ?_⟩) hHeld ?_
                        rotate_left
                        · (intro wz _; go_simp; try with_reducible rfl)
                        try simp only [List.getElem_toArray, List.getElem_cons_succ, List.getElem_cons_zero, Act.put, List.setIfInBounds_toArray, List.set_cons_zero, List.set_cons_succ]
                        refine wpAnyH_ready (rs := [2, 6]) (by kernel_rfl) (by simp) ?_
                        refine AllReadyH.cons rfl (fun K hK => ?_) (AllReadyH.cons rfl (fun K hK => ?_) AllReadyH.nil)
                        · skip
                          go_simp
                          refine hK.out _ _ ((h.quietAlloc _).le hKS) (fun hHeld => ?_)
                          clear hK K
                          try simp only [Act.put, List.setIfInBounds_toArray, List.set_cons_zero, List.set_cons_succ]
                          clear hHeld
                          obtain ⟨Mn, hbx, hlen, hb2, hn2⟩ := h.box (.cells #[] 91)
                          generalize w.alloc _ = wx at hbx ⊢
                          generalize w.heap.size = b2 at hb2 hn2 ⊢
                          clear h
                          try clear w
                          have h := hbx
                          clear hbx
                          obtain ⟨w, rfl⟩ : ∃ x : World, x = wx := ⟨_, rfl⟩
                          have hHeld := h.le (Mm.le_trans hKS hlen)
                          replace hbmC := hlen _ _ hbm5
                          have hown1 : Own M3 Mn 91 6 (.slice (some ⟨b2, 0, none⟩) 0 0) 0 [] := ⟨rfl, .inr ⟨b2, 0, #[], rfl, hn2, hb2, Nat.le_refl _, by unfold maxLen; omega, rfl, rfl⟩⟩
                          refine wpAnyH_ready (rs := [6]) (by kernel_rfl) (by simp) ?_
                          refine AllReadyH.cons rfl (fun K hK => ?_) AllReadyH.nil
                          refine step_yields rfl (yields_load1 rfl 87 _ rfl rfl hbmC eH5 Tryz.underlying87 rfl) h ?_
                          refine hK.out _ _ hHeld (fun hHeld => ?_)
                          clear hK K
                          simp only [Act.put, List.setIfInBounds_toArray, List.set_cons_zero, List.set_cons_succ]
                          refine wpAnyH_take (i := 9) (v := ?_) rfl (by kernel_rfl) (by kernel_rfl) (by kernel_rfl) (fun _ _ _ h => h) (Or.inl ⟨by rfl, ?_⟩) hHeld ?_
                          rotate_left
                          · (intro wz _; go_simp; try with_reducible rfl)
                          try simp only [List.getElem_toArray, List.getElem_cons_succ, List.getElem_cons_zero, Act.put, List.setIfInBounds_toArray, List.set_cons_zero, List.set_cons_succ]
                          refine wpAnyH_ready (rs := [10]) (by kernel_rfl) (by simp) ?_
                          refine AllReadyH.cons rfl (fun K hK => ?_) AllReadyH.nil
                          refine step_append_rd (M0 := M3) h hlen rfl _ _ 87 rfl Tryz.underlying87 info_M rfl (by omega) rfl hown1 rfl (hr1.le hlen) one1 (by omega) (by omega) ?_
                          clear h hHeld hown1 hb2 hn2 hbmC hlen
                          intro v4 w hacc4
                          obtain ⟨M4, h, hle4, hown4⟩ := hacc4
                          rw [Nat.zero_add, List.nil_append] at hown4
                          refine hK.out _ _ (h.le (Mm.le_trans hKS hle4)) (fun hHeld => ?_)
                          clear hK K
                          simp only [Act.put, List.setIfInBounds_toArray, List.set_cons_zero, List.set_cons_succ]
                          have hbmC := hle4 _ _ hbm5
                          refine wpAnyH_ready (rs := [19]) (by kernel_rfl) (by simp) ?_
                          refine AllReadyH.cons rfl (fun K hK => ?_) AllReadyH.nil
                          refine step_append_rd (M0 := M3) h hle4 rfl _ _ 87 rfl Tryz.underlying87 info_M rfl (by omega) rfl hown4 rfl (hr2.le hle4) one2 (by omega) (by omega) ?_
                          clear h hHeld hown4 hbmC hle4
                          intro v6 w hacc6
                          obtain ⟨M6, h, hle6, hown6⟩ := hacc6
                          rw [show wn + (nh - (wn + 1)) = nh - 1 by omega] at hown6
                          obtain ⟨A6, c6, rfl⟩ := hown6.form
                          refine hK.out _ _ (h.le (Mm.le_trans hKS hle6)) (fun hHeld => ?_)
                          clear hK K
                          simp only [Act.put, List.setIfInBounds_toArray, List.set_cons_zero, List.set_cons_succ]
                          have hbmC := hle6 _ _ hbm5
                          refine wpAnyH_take (i := 20) (v := ?_) rfl (by kernel_rfl) (by kernel_rfl) (by kernel_rfl) (fun _ _ _ h => h) (Or.inl ⟨by rfl, ?_⟩) hHeld ?_
                          rotate_left
                          · (intro wz _; go_simp; try with_reducible rfl)
                          try simp only [List.getElem_toArray, List.getElem_cons_succ, List.getElem_cons_zero, Act.put, List.setIfInBounds_toArray, List.set_cons_zero, List.set_cons_succ]
                          refine wpAnyH_ready (rs := [21]) (by kernel_rfl) (by simp) ?_
                          refine AllReadyH.cons rfl (fun K hK => ?_) AllReadyH.nil
                          refine step_store1 h rfl 87 _ _ rfl rfl rfl hbmC hszH rfl rfl (by kernel_rfl) ?_
                          clear h hHeld
                          intro w h
                          refine hK.out _ _ (h.le (Mm.le_upd (Mm.le_trans hKS hle6) hKbh _)) (fun hHeld => ?_)
                          clear hK K
                          refine wpAnyH_done (by kernel_rfl) ?_ _
                          have hEnd := h
                          go_wp2
                          all_goals (go_meet; (case rel => exact ⟨M6, _, hle6, hown6, hEnd⟩))
                        · skip
                          refine step_yields rfl (yields_load1 rfl 87 _ rfl rfl hbmC eH5 Tryz.underlying87 rfl) h ?_
                          refine hK.out _ _ hHeld (fun hHeld => ?_)
                          clear hK K
                          simp only [Act.put, List.setIfInBounds_toArray, List.set_cons_zero, List.set_cons_succ]
                          refine wpAnyH_take (i := 9) (v := ?_) rfl (by kernel_rfl) (by kernel_rfl) (by kernel_rfl) (fun _ _ _ h => h) (Or.inl ⟨by rfl, ?_⟩) hHeld ?_
                          rotate_left
                          · (intro wz _; go_simp; try with_reducible rfl)
                          try simp only [List.getElem_toArray, List.getElem_cons_succ, List.getElem_cons_zero, Act.put, List.setIfInBounds_toArray, List.set_cons_zero, List.set_cons_succ]
                          refine wpAnyH_ready (rs := [2]) (by kernel_rfl) (by simp) ?_
                          refine AllReadyH.cons rfl (fun K hK => ?_) AllReadyH.nil
                          go_simp
                          refine hK.out _ _ ((h.quietAlloc _).le hKS) (fun hHeld => ?_)
                          clear hK K
                          try simp only [Act.put, List.setIfInBounds_toArray, List.set_cons_zero, List.set_cons_succ]
                          clear hHeld
                          obtain ⟨Mn, hbx, hlen, hb2, hn2⟩ := h.box (.cells #[] 91)
                          generalize w.alloc _ = wx at hbx ⊢
                          generalize w.heap.size = b2 at hb2 hn2 ⊢
                          clear h
                          try clear w
                          have h := hbx
                          clear hbx
                          obtain ⟨w, rfl⟩ : ∃ x : World, x = wx := ⟨_, rfl⟩
                          have hHeld := h.le (Mm.le_trans hKS hlen)
                          replace hbmC := hlen _ _ hbm5
                          have hown1 : Own M3 Mn 91 6 (.slice (some ⟨b2, 0, none⟩) 0 0) 0 [] := ⟨rfl, .inr ⟨b2, 0, #[], rfl, hn2, hb2, Nat.le_refl _, by unfold maxLen; omega, rfl, rfl⟩⟩
                          refine wpAnyH_ready (rs := [10]) (by kernel_rfl) (by simp) ?_
                          refine AllReadyH.cons rfl (fun K hK => ?_) AllReadyH.nil
                          refine step_append_rd (M0 := M3) h hlen rfl _ _ 87 rfl Tryz.underlying87 info_M rfl (by omega) rfl hown1 rfl (hr1.le hlen) one1 (by omega) (by omega) ?_
                          clear h hHeld hown1 hb2 hn2 hbmC hlen
                          intro v4 w hacc4
                          obtain ⟨M4, h, hle4, hown4⟩ := hacc4
                          rw [Nat.zero_add, List.nil_append] at hown4
                          refine hK.out _ _ (h.le (Mm.le_trans hKS hle4)) (fun hHeld => ?_)
                          clear hK K
                          simp only [Act.put, List.setIfInBounds_toArray, List.set_cons_zero, List.set_cons_succ]
                          have hbmC := hle4 _ _ hbm5
                          refine wpAnyH_ready (rs := [19]) (by kernel_rfl) (by simp) ?_
                          refine AllReadyH.cons rfl (fun K hK => ?_) AllReadyH.nil
                          refine step_append_rd (M0 := M3) h hle4 rfl _ _ 87 rfl Tryz.underlying87 info_M rfl (by omega) rfl hown4 rfl (hr2.le hle4) one2 (by omega) (by omega) ?_
                          clear h hHeld hown4 hbmC hle4
                          intro v6 w hacc6
                          obtain ⟨M6, h, hle6, hown6⟩ := hacc6
                          rw [show wn + (nh - (wn + 1)) = nh - 1 by omega] at hown6
                          obtain ⟨A6, c6, rfl⟩ := hown6.form
                          refine hK.out _ _ (h.le (Mm.le_trans hKS hle6)) (fun hHeld => ?_)
                          clear hK K
                          simp only [Act.put, List.setIfInBounds_toArray, List.set_cons_zero, List.set_cons_succ]
                          have hbmC := hle6 _ _ hbm5
                          refine wpAnyH_take (i := 20) (v := ?_) rfl (by kernel_rfl) (by kernel_rfl) (by kernel_rfl) (fun _ _ _ h => h) (Or.inl ⟨by rfl, ?_⟩) hHeld ?_
                          rotate_left
                          · (intro wz _; go_simp; try with_reducible rfl)
                          try simp only [List.getElem_toArray, List.getElem_cons_succ, List.getElem_cons_zero, Act.put, List.setIfInBounds_toArray, List.set_cons_zero, List.set_cons_succ]
                          refine wpAnyH_ready (rs := [21]) (by kernel_rfl) (by simp) ?_
                          refine AllReadyH.cons rfl (fun K hK => ?_) AllReadyH.nil
                          refine step_store1 h rfl 87 _ _ rfl rfl rfl hbmC hszH rfl rfl (by kernel_rfl) ?_
                          clear h hHeld
                          intro w h
                          refine hK.out _ _ (h.le (Mm.le_upd (Mm.le_trans hKS hle6) hKbh _)) (fun hHeld => ?_)
                          clear hK K
                          refine wpAnyH_done (by kernel_rfl) ?_ _
                          have hEnd := h
                          go_wp2
                          all_goals (go_meet; (case rel => exact ⟨M6, _, hle6, hown6, hEnd⟩))
                  case rest =>
                    as_aux_lemma =>
                      obtain ⟨M5, v5, hle5, hown5, hC⟩ := hcut
                      clear h hr1 hr2 one1 one2 hKS hKbh hKd wq1 s1 s2 s4 hbm5 eH5
                      obtain ⟨A5, c5, rfl⟩ := hown5.form
                      obtain ⟨lab6, K6, labK6, hM6, hB6, hK6, hR6⟩ := HM3.out.rowTo HB3.out (j := 10 + lv) (Mm.le_trans (outK_le _ _ _ _) hle5) (hown5.base fun b hb => Mm.none_of (outK_le _ _ _ _) hb)
                      have hH6 := ((HA3.out.hrow).keep hK6 (by omega)).up hB6.le
                      obtain ⟨curZ, hgZ, hltZ, hownZ, hngZ⟩ := hH6.put lv (.slice A5 (nh - 1) c5)
                      have eZ := (hle5 _ _ (HK3.out _ _ HCUR.out)).symm.trans hgZ
                      cases eZ
                      obtain ⟨lab7, K7, labK7, hM7, hB7, hK7, hR7⟩ := hM6.rowTo hB6 (j := 2) (Mm.le_upd (outK_le _ _ _ _) hngZ _) hownZ
                      have hA7 := HA3.out.setH ll hK6 (h2 := (md lv).eraseIdx wn) (by rw [HXS.out, List.length_eraseIdx, HNH.out, if_pos hwn]; exact hR6) hK7 hR7
                      have hkk := Mm.le_trans (stable_kp hK6 (by omega)) (stable_kp hK7 (by omega))
                      have hS7 := Mm.le_trans HS3.out hkk
                      have hST7 := hkk _ _ HST3.out
                      clear hR6 hH6 hgZ hltZ hownZ hngZ hK7 hR7 hK6 hM6 hB6 hown5 hle5 HXS hkk
                      obtain ⟨w, rfl⟩ : ∃ q : World, q = wc := ⟨_, rfl⟩
                      have h := hC
                      clear hC hb11
                      generalize M5.upd bh _ = M7 at *
                      clear HCUR HST3 HM3 HB3 HS3 HA3 HK3
                      obtain ⟨x1, x2, xh, xn⟩ := HALL.out.2.2.2.all lv ll y (List.mem_of_getElem? HYQ.out)
                      rw [HYX.out] at x1 x2 xh
                      have hS60 := HNU.out.s0.2
                      have wx : IntKind.u64.wrap (x : Int) = (x : Int) := IntWalk.u64_in _ (by omega)
                      have hgen := ((HALL.out.2.2.2.lv lv ll).hd x x1 x2).2
                      have hbf7 := hB7.le _ _ (stable_le _ _ _ _ (hS7 _ _ hbf))
                      obtain ⟨curX, hxb, hcx⟩ := Own.at_ hA7.xrow
                      have hrL := hA7.xl lv ll
                      have hrG := hA7.xg lv ll
                      obtain ⟨AL, cL, hfL⟩ := hrL.form
                      obtain ⟨AG, cG, hfG⟩ := hrG.form
                      have hxx : curX.extract (lv * 2) (lv * 2 + 2) = #[(fx lv).1, (fx lv).2] := extract_of (xs := encF (fx lv)) (fun j u hu => hcx _ _ (by rw [flat_get encF_len _ lv (fx lv) (by rw [List.getElem?_map, List.getElem?_range ll]; rfl) j (by have := (List.getElem?_eq_some_iff.1 hu).1; simpa [encF] using this)]; exact hu)) rfl
                      have hxb7 := hB7.le _ _ hxb
                      have RGV := Lib.hid fun (w : World) (h : Has σ M7 w) => refGive_gm h c HG.out hB7.le hrL hrG (HALL.out.2.2.2.gen lv ll) x1 x2 hS60 HL60.out (by have := HI.out.2; omega)
                      unfold confV at RGV
                      rw [HRW.out] at RGV
                      rw [hfL, hfG] at hxx RGV
                      obtain ⟨l2, hl2⟩ : ∃ l2, gaveL B S gens g lv x (Lf lv) = l2 := ⟨_, rfl⟩
                      obtain ⟨g2, hg2⟩ : ∃ g2, (gl lv).set (x - 1) (genOf (g.w lv (oNd B S x 0)) + 1) = g2 := ⟨_, rfl⟩
                      rw [hl2, hg2] at RGV
                      have hl60 : l2.length ≤ 1000 := by
                        rw [← hl2]
                        unfold gaveL
                        have := HL60.out
                        split
                        · simp; omega
                        · omega
                      have HL2 := Lib.hid hl2
                      have HG2 := Lib.hid hg2
                      have HM7 := Lib.hid hM7
                      have HB7 := Lib.hid hB7
                      have HS7 := Lib.hid hS7
                      have HA7 := Lib.hid hA7
                      have HST7 := Lib.hid hST7
                      have HXX := Lib.hid (⟨x1, x2, xh, hgen⟩ : 1 ≤ x ∧ x ≤ S ∧ g.held lv x = true ∧ genOf (g.w lv (oNd B S x 0)) ≤ m)
                      have hxz : (#[.slice AL (Lf lv).length cL, .slice AG S cG] : Array Value).size = 2 := rfl
                      clear hl2 hg2 hxb hcx hrL hrG hfL hfG hgen hM7 hB7 hS7 hA7 hST7 x1 x2 xh xn hbf7
                      go_upto_region 19 with (fail)
                      refine wp_region_held_drew (S := Has σ (M1)) (by kernel_rfl) (h.drew.le (Mm.le_trans HS7.out (Mm.le_trans (stable_le _ _) HB7.out.le))) (fun hHeld => ?_)
                      refine wpAnyH_take (i := 0) (v := ?_) rfl (by kernel_rfl) (by kernel_rfl) (by kernel_rfl) (fun _ _ _ h => h) (Or.inl ⟨by rfl, ?_⟩) hHeld ?_
                      rotate_left
                      · (intro wz _; go_simp; try with_reducible rfl)
                      try simp only [List.getElem_toArray, List.getElem_cons_succ, List.getElem_cons_zero, Act.put, List.setIfInBounds_toArray, List.set_cons_zero, List.set_cons_succ]
                      refine wpAnyH_take (i := 1) (v := ?_) rfl (by kernel_rfl) (by kernel_rfl) (by kernel_rfl) (fun _ _ _ h => h) (Or.inl ⟨by rfl, ?_⟩) hHeld ?_
                      rotate_left
                      · (intro wz _; go_simp; try with_reducible rfl)
                      try simp only [List.getElem_toArray, List.getElem_cons_succ, List.getElem_cons_zero, Act.put, List.setIfInBounds_toArray, List.set_cons_zero, List.set_cons_succ]
                      refine wpAnyH_take (i := 2) (v := _) rfl (by kernel_rfl) (by kernel_rfl) (by kernel_rfl) (fun _ _ _ h => h) (yields_agg rfl 24 _ rfl rfl hbf hx hz Tryz.underlying24 rfl (by kernel_rfl)) hHeld ?_
                      try simp only [List.getElem_toArray, List.getElem_cons_succ, List.getElem_cons_zero, Act.put, List.setIfInBounds_toArray, List.set_cons_zero, List.set_cons_succ]
                      refine wpAnyH_take (i := 3) (v := ?_) rfl (by kernel_rfl) (by kernel_rfl) (by kernel_rfl) (fun _ _ _ h => h) (Or.inl ⟨by rfl, ?_⟩) hHeld ?_
                      rotate_left
                      · (intro wz _; go_simp; try with_reducible rfl)
                      try simp only [List.getElem_toArray, List.getElem_cons_succ, List.getElem_cons_zero, Act.put, List.setIfInBounds_toArray, List.set_cons_zero, List.set_cons_succ]
                      refine wpAnyH_take (i := 4) (v := ?_) rfl (by kernel_rfl) (by kernel_rfl) (by kernel_rfl) (fun _ _ _ h => h) (Or.inl ⟨by rfl, ?_⟩) hHeld ?_
                      rotate_left
                      · (intro wz _; go_simp; try with_reducible rfl)
                      try simp only [List.getElem_toArray, List.getElem_cons_succ, List.getElem_cons_zero, Act.put, List.setIfInBounds_toArray, List.set_cons_zero, List.set_cons_succ]
                      refine wpAnyH_take (i := 5) (v := ?_) rfl (by kernel_rfl) (by kernel_rfl) (by kernel_rfl) (fun _ _ _ h => h) (Or.inl ⟨by rfl, ?_⟩) hHeld ?_
                      rotate_left
                      · (intro wz _; go_simp; try with_reducible rfl)
                      try simp only [List.getElem_toArray, List.getElem_cons_succ, List.getElem_cons_zero, Act.put, List.setIfInBounds_toArray, List.set_cons_zero, List.set_cons_succ]
                      refine wpAnyH_take (i := 7) (v := ?_) rfl (by kernel_rfl) (by kernel_rfl) (by kernel_rfl) (fun _ _ _ h => h) (Or.inl ⟨by rfl, ?_⟩) hHeld ?_
                      rotate_left
                      · (intro wz _; go_simp; try with_reducible rfl)
                      try simp only [List.getElem_toArray, List.getElem_cons_succ, List.getElem_cons_zero, Act.put, List.setIfInBounds_toArray, List.set_cons_zero, List.set_cons_succ]
                      replace h := h.drew
                      generalize w.drew = wq at h hHeld ⊢
                      obtain ⟨w, rfl⟩ : ∃ q : World, q = wq := ⟨_, rfl⟩
                      refine wpAnyH_ready (rs := [6]) (by kernel_rfl) (by simp) ?_
                      refine AllReadyH.cons rfl (fun K hK => ?_) AllReadyH.nil
                      (refine step_yields rfl (yields_agg rfl 83 _ rfl rfl hxb7 hxx hxz Tryz.underlying83 rfl (by kernel_rfl)) h ?_)
                      refine hK.out _ _ (hHeld) (fun hHeld => ?_)
                      clear hK K
                      try simp only [Act.put, List.setIfInBounds_toArray, List.set_cons_zero, List.set_cons_succ]
                      refine wpAnyH_ready (rs := [8]) (by kernel_rfl) (by simp) ?_
                      refine AllReadyH.cons rfl (fun K hK => ?_) AllReadyH.nil
                      (go_simp; go_wp2_with (go_at_call 40; refine (RGV.out _ h).mono ?_; clear h; rintro _ w ⟨uL, uG, M9, rfl, h, hle9, rL, rG⟩))
                      refine hK.out _ _ ((h.le (Mm.le_trans (Mm.le_trans HS7.out (Mm.le_trans (stable_le _ _) HB7.out.le)) hle9))) (fun hHeld => ?_)
                      clear hK K
                      try simp only [Act.put, List.setIfInBounds_toArray, List.set_cons_zero, List.set_cons_succ]
                      obtain ⟨AL2, cL2, rfl⟩ := rL.form
                      obtain ⟨AG2, cG2, rfl⟩ := rG.form
                      obtain ⟨lab9, hM9, hB9⟩ := HM7.out.learn HB7.out hle9
                      have hkp9 := learn_kp HB7.out.le M9 labK7
                      have hA9 := HA7.out.keep hkp9
                      have hS9 := Mm.le_trans HS7.out (stable_kp hkp9 fun h => h)
                      have hst9 := stable_kp hkp9 (fun h => h) _ _ HST7.out
                      have hO := hA9.xrow.up hB9.le
                      have hOle := outK_le (learn K7 M7 M9) M9 (relab K7 labK7 fun _ => 0) 1
                      have hcls := Mm.le_trans hS9 (stable_outK (j := 1) hB9.le (by decide))
                      have oneu : ∀ u ∈ encF (.slice AL2 l2.length cL2, .slice AG2 S cG2), u.oneCell' = true := by
                        intro u hu
                        simp only [encF, List.mem_cons, List.not_mem_nil, or_false] at hu
                        rcases hu with rfl | rfl <;> rfl
                      refine wpAnyH_take (i := 9) (v := ?_) rfl (by kernel_rfl) (by kernel_rfl) (by kernel_rfl) (fun _ _ _ h => h) (Or.inl ⟨by rfl, ?_⟩) hHeld ?_
                      rotate_left
                      · (intro wz _; go_simp; try with_reducible rfl)
                      try simp only [List.getElem_toArray, List.getElem_cons_succ, List.getElem_cons_zero, Act.put, List.setIfInBounds_toArray, List.set_cons_zero, List.set_cons_succ]
                      refine wpAnyH_ready (rs := [10]) (by kernel_rfl) (by simp) ?_
                      refine AllReadyH.cons rfl (fun K hK => ?_) AllReadyH.nil
                      refine step_putRow (L := (List.range L).map fx) encF_len h hOle hO (by simp) rfl 83 _ _ rfl rfl (k := lv) rfl rfl ll (.slice AL2 l2.length cL2, .slice AG2 S cG2) rfl oneu (by kernel_rfl) ?_
                      clear h hHeld hOle hO
                      intro w M10 h hle10 hown10
                      refine hK.out _ _ (h.le (Mm.le_trans hcls hle10)) (fun hHeld => ?_)
                      clear hK K hHeld hcls
                      refine wpAnyH_done (by kernel_rfl) ?_ _
                      obtain ⟨lab10, K10, labK10, hM10, hB10, hK10, hR10⟩ := hM9.rowTo hB9 hle10 hown10
                      have hA10 := hA9.setX hK10 hR10 rL rG
                      have hS10 := Mm.le_trans hS9 (stable_kp hK10 (by omega))
                      have hb10 := hB10.le _ _ (stable_le _ _ _ _ (stable_kp hK10 (by omega) _ _ hst9))
                      have HM10 := Lib.hid hM10
                      have HB10 := Lib.hid hB10
                      have HS10 := Lib.hid hS10
                      have HA10 := Lib.hid hA10
                      clear hM10 hB10 hS10 hA10 hK10 hR10 rL rG hle10 hown10 hM9 hB9 hA9 hS9 hst9 hkp9 hle9 hxb7 hxx hxz oneu RGV HM7 HB7 HS7 HA7 HST7
                      have GVL : Hid (∀ w, Has σ M10 w → Calls Tryz.prog 14 #[.pointer (some ⟨p, 0, none⟩), .int .i64 (tn : Nat), (.func (.func 41) #[] #[]), .int .i64 10, .int .i64 2, .slice (some ⟨w.heap.size, 0, none⟩) 1 1] (w.alloc (.cells #[.int .u64 (x : Nat)] 42)) fun r w' => ∃ k : Nat, r = .returned (.int .i64 (k : Nat)) ∧ k ≤ 10 ∧ ∃ M' lab' s', Has σ M' w' ∧ Mach M' lab' p s' ∧ Base K10 M' lab' ∧ AbsM c tp (a + k) s' (giveG B S gens g tn lv [] x)) := Lib.hid fun w h => by
                        obtain ⟨M8, h8, hle8, hb8, hn8⟩ := h.box (.cells #[.int .u64 (x : Nat)] 42)
                        have := give_alone (t := tn) (m := m) h8 (HM10.out.keep (Kp.le hle8 fun _ => 0) fun _ _ h => h) (HB10.out.keep (Kp.le hle8 fun _ => 0) fun h => h) HALL.out.2.1 HC.out HNU.out HT.out (by have := HI.out.1; omega) (by have := HI.out.2; omega) HTN.out HQ.out (HALL.out.2.2.2.idle tn HTN.out) HG.out (Ls := Lf lv) (by rw [HLV.out]; exact HALL.out.2.2.2.lv lv ll) HXX.out.1 HXX.out.2.1 (by rw [HLV.out]; exact HXX.out.2.2.1) (rv := .slice (some ⟨w.heap.size, 0, none⟩) 1 1) ⟨rfl, some ⟨w.heap.size, 0, none⟩, 1, rfl, Nat.le_refl _, fun _ => ⟨w.heap.size, 0, _, _, _, rfl, hb8, fun j y hy => by rw [Nat.zero_add]; simpa [u64s] using hy⟩⟩
                        rw [HLV.out] at this
                        exact this
                      go_upto_region 33 with (first
                        | (with_reducible show wpList _ _ _ ({ dst := _, op := Op.load 3 _, type := _, pos := _, after := _, guard := _ } :: _) _ _; refine wpList_load1_has h rfl 3 _ rfl rfl hb10 dd0 Tryz.underlying3 rfl ?_)
                        | ((go_at_call 14; refine (GVL.out _ h).mono ?_; clear h; rintro _ w ⟨ka, rfl, hk10, M12, lab12, s3, h, hM12, hB12, hA12⟩; have gka : ¬ (ka : Int) < 0 := by omega)))
                      have hI12 := HALL.out.2.2.2.give (t := tn) (gens := gens) ll HYQ.out (by have := HI.out.2; omega) hS60
                      rw [HYX.out, HL2.out, HG2.out] at hI12
                      have hAI12 : MaJ c S B L T tp (i + 1) s3 (put1 Lf lv l2) (put1 gl lv g2) (put1 md lv ((md lv).eraseIdx wn)) := ⟨⟨a + ka, m + 1, _, by have h1 := HALL.out.1; omega, hA12, by have := HALL.out.2.2.1; omega, hI12⟩⟩
                      obtain ⟨M9, lab9, K9, labK9, fx9, fh9, Lf9, gl9, md9, HP9⟩ : ∃ M9 lab9 K9 labK9 fx9 fh9 Lf9 gl9 md9, Hid (Has σ M9 w ∧ Mach M9 lab9 p s3 ∧ Base K9 M9 lab9 ∧ M1.le (stable K9 labK9) ∧ LawM K9 labK9 L S L (.slice (some ⟨gx, 0, none⟩) L xc) (.slice (some ⟨bh, 0, none⟩) L L) fx9 fh9 Lf9 gl9 md9 ∧ MaJ c S B L T tp (i + 1) s3 Lf9 gl9 md9) := ⟨_, _, _, _, _, _, _, _, _, Lib.hid ⟨h, hM12, hB12, HS10.out, HA10.out, hAI12⟩⟩
                      clear h hM12 hB12 hA12 hI12 hAI12 GVL HM10 HB10 HS10 HA10 hb10 wx gka
                      have h := HP9.out.1
                      obtain ⟨a9, m9, g9, ha9, hA9, hm9, hI9⟩ := HP9.out.2.2.2.2.2.all
                      have hsh9 := hI9.short ll
                      have HS9 := Lib.hid (fun (w : World) (h : Has σ M9 w) => has_eq (lst := md9 lv) h HP9.out.2.1 hA9 HNU.out ll ((HP9.out.2.2.2.2.1.each lv ll).rd.le HP9.out.2.2.1.le) rfl (by have := HNU.out.s0.2; omega) fun x hx => ⟨(hI9.all lv ll x hx).1, (hI9.all lv ll x hx).2.1, (hI9.all lv ll x hx).2.2.2⟩)
                      have FT9 := Lib.hid (fun (w : World) (h : Has σ M9 w) => mFault_eq h HP9.out.2.1)
                      rw [hA9.good] at FT9
                      obtain ⟨curH9, hcb9, hcu9⟩ := Own.at_ HP9.out.2.2.2.2.1.hrow
                      obtain ⟨Ah9, ch9, hfe9⟩ := (HP9.out.2.2.2.2.1.each lv ll).form
                      have eH9 : curH9[lv]? = some (.slice Ah9 (md9 lv).length ch9) := by
                        rw [← hfe9]
                        exact hcu9 lv _ (by rw [List.getElem?_map, List.getElem?_range ll]; rfl)
                      have hbm9 := HP9.out.2.2.1.le _ _ hcb9
                      rw [hfe9] at HS9
                      obtain ⟨nh9, hnh9⟩ : ∃ k, (md9 lv).length = k := ⟨_, rfl⟩
                      rw [hnh9] at eH9 HS9
                      clear ha9 hA9 hm9 hI9 hsh9 hcb9 hcu9 hfe9 hnh9
                      have hllt : (lv : Int) < (L : Int) := by omega
                      go_wp2_with (first
                        | (with_reducible show wpList _ _ _ ({ dst := _, op := Op.load 87 _, type := _, pos := _, after := _, guard := _ } :: _) _ _; refine wpList_load1_has h rfl 87 _ rfl rfl hbm9 eH9 Tryz.underlying87 rfl ?_)
                        | (go_at_call 44; refine (HS9.out _ h).mono ?_; clear h; rintro _ w ⟨rfl, h⟩)
                        | (go_at_call 24; refine (FT9.out _ h).mono ?_; clear h; rintro _ w ⟨rfl, h⟩))
                      go_roundw
                      case rel => exact ⟨i + 1, M9, lab9, K9, labK9, s3, fx9, fh9, Lf9, gl9, md9, by have := HLT.out; omega, by first | rfl | go_num, h, HP9.out.2.1, HP9.out.2.2.1, HP9.out.2.2.2.1, HP9.out.2.2.2.2.1, HP9.out.2.2.2.2.2⟩
                      case measure => have := HLT.out; simp [intOf]; omega
          · have elv : levelOf s.c et = -1 := by rw [hA.cc]; exact levT_out HT.out htt
            rw [elv]
            clear elv htt hA hI LV
            refine wp_region_class (Has σ M3) (by kernel_rfl) (by kernel_rfl) h.drew ?_
            clear h
            repeat (first
              | go_big_quiet_skip
              | (go_big_quiet_want; first
                | (go_big_quiet_op; first | go_big_quiet_on | go_big_quiet_call (first | with_reducible exact fun _ => rfl))))
            refine wpQuiet_nil ?_
            try clear w
            intro w h
            go_wp2
            go_roundw
            case rel => exact ⟨i + 1, M3, lab3, K3, labK3, s, fx, fh, Lf, gl, md, by have := HLT.out; omega, by first | rfl | go_num, h, HM3.out, HB3.out, HS3.out, HA3.out, HAI.out.mono (Nat.le_succ _)⟩
            case measure => have := HLT.out; simp [intOf]; omega
        · obtain rfl : i = n := by omega
          have LI2 := Lib.hid (fun (w : World) (h : Has σ M2 w) => LI.out M2 w h)
          have hlt3 : ¬ (i : Int) < (i : Int) := by omega
          go_wp2_with (first
            | (go_at_call 38; refine (LI2.out _ h).mono ?_; clear h; rintro _ w ⟨rfl, h⟩))
          go_ret
          exact ⟨rfl, h.le (Mm.le_trans HLE1.out (Mm.le_trans HS2.out (Mm.le_trans (stable_le _ _) HKM.out)))⟩
end
end Go.Proofs.YtjeeldacnllipaaGreat
