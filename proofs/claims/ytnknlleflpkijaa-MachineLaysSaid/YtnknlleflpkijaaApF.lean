/- Law 21, MachineApart: the law's walk over the steps. -/
import Derived.Test.YtnknlleflpkijaaApE
namespace Go.Proofs.Ytnknlleflpkijaa
open Go.RowKit
set_option linter.unusedVariables false
set_option linter.unusedSimpArgs false
set_option linter.unnecessarySimpa false
theorem zact : (Try.prog.info? 35).bind (·.zero) = some (.agg #[.int .i64 0, .int .i64 0, .int .i64 0, .int .u64 0, .bool false]) := by kernel_rfl
theorem z4 : (Try.prog.info? 44).bind (·.zero) = some (.agg (ints .i64 4 fun _ => 0)) := by kernel_rfl
theorem encA_len (a : ActS) : (encA a).length = 5 := rfl
theorem tp_get {s : MachS} {M : Mm} {lab : Nat → Nat} {p : Nat} (hM : Mach M lab p s) {t : Int} (h : 0 ≤ levelOf s.c t) : ∃ (k q lv : Nat), t = (k : Nat) ∧ s.tp[k]? = some q ∧ levelOf s.c t = (lv : Nat) ∧ (lv : Int) < s.c 0 := by
  have h1 := levelOf_may h
  obtain ⟨hc, h0, h2⟩ := h1
  have hl := hM.tlen
  have h3 : levelOf s.c t = s.c (2 + t.toNat) := by
    unfold levelOf
    rw [if_pos ⟨decide_eq_true hc, h0, h2⟩]
  obtain ⟨⟨a1, a2⟩, ⟨a3, a4⟩, _, a5, _⟩ := hc
  have h4 := a5 t.toNat (by omega)
  refine ⟨t.toNat, s.tp[t.toNat]'(by omega), (levelOf s.c t).toNat, by omega, List.getElem?_eq_getElem _, by omega, by omega⟩
theorem Mach.more1 {K M M' : Mm} {lab : Nat → Nat} {p : Nat} {s : MachS} (hM : Mach M lab p s) (hB : Base K M lab) (hle : M.le M') {b : Nat} {o : Obj} (nb : M b = none) (hb : M' b = some o) : ∃ lab', Mach M' lab' p s ∧ Base (K.upd b o) M' lab' :=
  hM.more hB hle fun c o' hc => by
    by_cases e : c = b
    · subst e; rw [Mm.upd_same] at hc; rw [← hc]; exact ⟨hb, .inr nb⟩
    · rw [Mm.upd_ne e] at hc; exact ⟨hle _ _ (hB c o' hc).1, .inl hc⟩
theorem Mach.memLe {M : Mm} {lab : Nat → Nat} {p : Nat} {s : MachS} (hM : Mach M lab p s) : s.mem.N ≤ 10000 := by
  have h1 := hM.memN
  have h2 := firsts_bd hM.may 10
  have h3 := hM.may.1
  have h4 : s.c 0 * firsts s.c 10 ≤ 4 * 418 := Int.le_trans (Int.mul_le_mul_of_nonneg_right h3.2 h2.1) (by omega)
  omega
def clk4 (s : MachS) (k : Nat) : Nat → Int := fun j => if j < k then s.clock j else 0
theorem clk4_zero (s : MachS) : (fun _ => 0) = clk4 s 0 := by funext j; unfold clk4; rw [if_neg (by omega)]
theorem clk4_step (s : MachS) (k : Nat) : upd (clk4 s k) k (s.clock k) = clk4 s (k + 1) := by
  funext j
  unfold upd clk4
  by_cases e : j = k
  · subst e; rw [if_pos rfl, if_pos (by omega)]
  · rw [if_neg e]
    by_cases h : j < k
    · rw [if_pos h, if_pos (by omega)]
    · rw [if_neg h, if_neg (by omega)]
set_option maxHeartbeats 8000000 in
set_option maxRecDepth 20000 in
theorem apart_long {σ w : World} {M : Mm} (h : Has σ M w) (c : Nat → Int) (hc : ConfMay c) {L B S : Nat} (hn : Nums c L B S) {A : Option Addr} {n cap : Nat} {l : List ActS} (hr : Rd M 5 (.slice A n cap) n (l.flatMap encA)) (hl : l.length = n) (h40 : n ≤ 40) :
    Calls Try.prog 3 #[confV c, .slice A n cap] w fun r w' => r = .returned (.bool true) ∧ Has σ M w' := by
  have LI := Lib.hid (fun (M' : Mm) (w : World) (h : Has σ M' w) => lives_eq h)
  have NW := Lib.hid (fun (M' : Mm) (w : World) (h : Has σ M' w) => mNew_yes h c hc hn)
  have FI := Lib.hid (fun (M' : Mm) (w : World) (h : Has σ M' w) (k : Nat) (hk : k ≤ 4) => refFirst_eq h c hn k hk)
  have hx : (ints .i64 14 c).extract 0 (0 + 14) = ints .i64 14 c := rfl
  have hz : (ints .i64 14 c).size = 14 := rfl
  have r0 : (ints .i64 14 c)[0]? = some (.int .i64 (L : Nat)) := by rw [← hn.lev]; rfl
  have HL := Lib.hid hl
  have HC := Lib.hid hc
  have HN := Lib.hid hn
  have h40' : decide ((40 : Int) < (n : Int)) = false := decide_eq_false (by omega)
  unfold confV at NW FI ⊢
  generalize ints .i64 14 c = row at NW FI hx hz r0 ⊢
  clear hl hc hn
  go_enter Try.func3, Try.ntmps3
  go_upto_region 1 with (fail)
  obtain ⟨M0, hbx, hle0, hbf, hnf⟩ := h.box (.cells row 24)
  generalize w.alloc _ = wx at hbx ⊢
  generalize w.heap.size = bf at hbf hnf ⊢
  clear h
  try clear w
  have h := hbx
  clear hbx
  obtain ⟨w, rfl⟩ : ∃ x : World, x = wx := ⟨_, rfl⟩
  replace hr := hr.le hle0
  go_wp2_with (first
    | ((with_reducible show wpList _ _ _ ({ dst := _, op := Op.load 24 _, type := _, pos := _, after := _, guard := _ } :: _) _ _); refine wpList_agg_has h rfl 24 _ rfl rfl hbf hx hz Try.underlying24 rfl (by kernel_rfl) ?_; try simp only [Act.put, List.setIfInBounds_toArray, List.set_cons_zero, List.set_cons_succ])
    | ((go_at_call 6; refine (NW.out _ _ h).mono ?_; clear h; rintro _ w ⟨p, M2, lab, s, rfl, h, hB, hM, hN⟩)))
  clear NW h40'
  have HI := Lib.hid (ApInv.first hN)
  clear hN
  go_loopw [7] (fun i wr => ∃ (k : Nat) (M' : Mm) (lab' : Nat → Nat) (s' : MachS), k ≤ n ∧ i = .int .i64 (k : Nat) ∧ Has σ M' wr ∧ Base M0 M' lab' ∧ Mach M' lab' p s' ∧ ApInv c k s') (fun i _ => n - (intOf i).toNat)
  case atStart => exact ⟨0, M2, lab, s, Nat.zero_le _, rfl, h, hB, hM, HI.out⟩
  case round =>
    clear h hB hM HI w s lab M2
    obtain ⟨w, rfl⟩ : ∃ x : World, x = wr := ⟨_, rfl⟩
    obtain ⟨k, M1, lab, s, hk, rfl, h, hB, hM, hI⟩ := hrel
    by_cases hlt : k < n
    · have hlt' : (k : Int) < (n : Int) := by omega
      obtain ⟨a, ha⟩ : ∃ a, l[k]? = some a := ⟨_, List.getElem?_eq_getElem (by have := HL.out; omega)⟩
      obtain ⟨bl, ol, cl, csl, tl, fl, e1, hMl, hxl⟩ := hr.elem encA_len hlt ha
      cases e1
      have hMl1 := hB.le _ _ hMl
      have g5 : csl.extract (ol + k * 5) (ol + k * 5 + 5) = a.row := extract_of (n := 5) hxl rfl
      clear hxl hMl
      have HBM : Hid (Base M0 M1 lab ∧ Mach M1 lab p s) := ⟨hB, hM⟩
      clear hB hM
      go_upto_region 8 with (first
        | ((with_reducible show wpList _ _ _ ({ dst := _, op := Op.load 35 _, type := _, pos := _, after := _, guard := _ } :: _) _ _); refine wpList_agg_has h rfl 35 _ rfl rfl hMl1 g5 rfl Try.underlying35 rfl (by kernel_rfl) ?_; try simp only [Act.put, List.setIfInBounds_toArray, List.set_cons_zero, List.set_cons_succ])
        | ((with_reducible show wpList _ _ _ ({ dst := _, op := Op.alloc 35, type := _, pos := _, after := _, guard := _ } :: _) _ _); refine wpList_alloc_has h rfl 35 rfl _ zact ?_; clear h; intro ba w h hnb; try simp only [Act.put, List.setIfInBounds_toArray, List.set_cons_zero, List.set_cons_succ])
        | ((with_reducible show wpList _ _ _ ({ dst := _, op := Op.store 35 _ _, type := _, pos := _, after := _, guard := _ } :: _) _ _); refine wpList_storeAll_has (cells := a.row) h rfl 35 _ _ rfl rfl rfl (Mm.upd_same _ _ _) rfl rfl rfl (by kernel_rfl) rfl ?_; clear h; intro w h))
      rw [Mm.upd_upd] at h
      obtain ⟨lab2, hM, hB⟩ := HBM.out.2.box HBM.out.1 hnb (.cells a.row 35)
      have leK := Mm.le_upd' (HBM.out.1.fresh hnb) (.cells a.row 35)
      have hba := Mm.upd_same M0 ba (.cells a.row 35)
      clear hMl1 g5 hnb HBM
      generalize M1.upd ba _ = M2 at h hM hB
      generalize hK1 : M0.upd ba (.cells a.row 35) = K1 at hB leK hba
      clear hK1 lab M1
      have d0 : a.row[0]? = some (.int .i64 a.t) := rfl
      have hbam := hB.le _ _ hba
      have LV := Lib.hid (fun (w : World) (h : Has σ M2 w) => mLevel_eq h hM a.t)
      by_cases hlv : 0 ≤ levelOf s.c a.t
      · obtain ⟨t, q, v, hat, hq, hv, hvc⟩ := tp_get hM hlv
        rw [hat] at d0 LV hv
        rw [hv] at LV
        obtain ⟨fv, hvv, fbs, hT⟩ := hM.each t q hq
        have hfb : fbs.length < 1000000 := by have := hI.deep t; have := hT.flen; omega
        have TH := Lib.hid (fun (w : World) (h : Has σ M2 w) => mThread_yes h hM hq)
        have CA := Lib.hid (fun (w : World) (h : Has σ M2 w) => thrCall_eq h hT 1 (rv := .slice none 0 0) (us := []) (Rd.nil _ _ _) (by simp) hfb)
        have HA := Lib.hid hat
        have HQ := Lib.hid hq
        have HV := Lib.hid hv
        have HVC := Lib.hid hvc
        have HM := Lib.hid hM
        have HB := Lib.hid hB
        have HI := Lib.hid hI
        have g0 : decide ((v : Int) < 0) = false := decide_eq_false (by omega)
        clear hM hB hI hT hfb hlv hat hq hv hvc hr ha
        go_upto_region 11 with (first
          | (with_reducible show wpList _ _ _ ({ dst := _, op := Op.load 3 _, type := _, pos := _, after := _, guard := _ } :: _) _ _; refine wpList_load1_has h rfl 3 _ rfl rfl hbam d0 Try.underlying3 rfl ?_)
          | (go_at_call 9; refine (LV.out _ h).mono ?_; clear h; rintro _ w ⟨rfl, h⟩)
          | (go_at_call 10; refine (TH.out _ h).mono ?_; clear h; rintro _ w ⟨rfl, h⟩)
          | (go_at_call 11; refine (CA.out _ h).mono ?_; clear h; rintro _ w ⟨rfl, M3, lab3, h, hK3, hT3⟩))
        obtain ⟨hM, hB⟩ := HM.out.thrTo HB.out HQ.out hK3 hT3
        obtain ⟨s1, E1⟩ : ∃ s1, Hid (s1 = s.called t 1 []) := ⟨_, rfl⟩
        have hM1 : Mach M3 lab3 p s1 := by rw [E1.out]; exact hM
        clear hM hK3 hT3 HM HB LV TH CA hbam
        have MM := Lib.hid (fun (w : World) (h : Has σ M3 w) => mMem_eq h hM1)
        have WD := Lib.hid (fun (w : World) (h : Has σ M3 w) => memWords_eq h hM1.mem hM1.memLe)
        have HM := Lib.hid hM1
        have HB := Lib.hid hB
        clear hM1 hB
        go_upto_region 12 with (first
          | (go_at_call 12; refine (MM.out _ h).mono ?_; clear h; rintro _ w ⟨rfl, h⟩)
          | (go_at_call 13; refine (WD.out _ h).mono ?_; clear h; rintro _ w ⟨bw, M4, rfl, h, hle4, nbw, hbw⟩))
        obtain ⟨lab4, hM, hB⟩ := HM.out.more1 HB.out hle4 nbw hbw
        have leK2 := Mm.le_trans leK (Mm.le_upd' (HB.out.fresh nbw) s1.mem.row)
        have hba2 := (Mm.upd_of (o := s1.mem.row) (HB.out.fresh nbw) hba)
        have hbw2 := Mm.upd_same K1 bw s1.mem.row
        clear HM HB MM WD hle4 nbw hbw leK hba
        generalize K1.upd bw s1.mem.row = K2 at hB leK2 hba2 hbw2
        have HM := Lib.hid hM
        have HB := Lib.hid hB
        clear hM hB
        go_upto_region 13 with (first
          | ((with_reducible show wpList _ _ _ ({ dst := some 11, op := Op.alloc 44, type := _, pos := _, after := _, guard := _ } :: _) _ _); refine wpList_alloc_has h rfl 44 rfl _ z4 ?_; clear h; intro b4 w h hn4; try simp only [Act.put, List.setIfInBounds_toArray, List.set_cons_zero, List.set_cons_succ]))
        obtain ⟨lab5, hM, hB⟩ := HM.out.box HB.out hn4 (.cells (ints .i64 4 fun _ => 0) 44)
        have nK4 := HB.out.fresh hn4
        replace hM := Lib.hid hM
        replace hB := Lib.hid hB
        clear HM HB hn4
        have h0 : Has σ (M4.upd b4 (.cells (ints .i64 4 fun _ => 0) 44)) w := h
        clear h
        have h := h0
        clear h0
        go_wp2
        go_loopw [12] (fun i wr => ∃ (j : Nat) (M' : Mm) (lab' : Nat → Nat), j ≤ 4 ∧ i = .int .i64 (j : Nat) ∧ Has σ M' wr ∧ Mach M' lab' p s1 ∧ Base (K2.upd b4 (.cells (ints .i64 4 (clk4 s1 j)) 44)) M' lab') (fun i _ => 4 - (intOf i).toNat)
        case atStart => exact ⟨0, _, lab5, Nat.zero_le _, rfl, h, hM.out, by rw [← clk4_zero]; exact hB.out⟩
        case round =>
          clear h hM hB w lab5 lab4 lab3 M4 M3
          obtain ⟨w, rfl⟩ : ∃ x : World, x = wr := ⟨_, rfl⟩
          obtain ⟨j, M4, lab4, hj, rfl, h, hM, hB⟩ := hrel
          by_cases hlt2 : j < 4
          · have hlt3 : (j : Int) < 4 := by omega
            have i1 : decide ((j : Int) < 4) = true := decide_eq_true hlt3
            have CL := Lib.hid (fun (w : World) (h : Has σ M4 w) => mClock_eq h hM j)
            have hb4 := hB.le _ _ (Mm.upd_same K2 b4 (.cells (ints .i64 4 (clk4 s1 j)) 44))
            have hsz4 : j < (ints .i64 4 (clk4 s1 j)).size := by rw [ints_size]; exact hlt2
            obtain ⟨hM2, hB2⟩ := hM.put hB (Mm.upd_same K2 b4 (.cells (ints .i64 4 (clk4 s1 j)) 44)) (.cells (ints .i64 4 (clk4 s1 (j + 1))) 44)
            rw [Mm.upd_upd] at hB2
            have HM := Lib.hid hM2
            have HB := Lib.hid hB2
            have HST : Hid ((ints .i64 4 (clk4 s1 j)).setIfInBounds j (.int .i64 (s1.clock j)) = ints .i64 4 (clk4 s1 (j + 1))) := by show _ = _; rw [ints_set, clk4_step]
            generalize ints .i64 4 (clk4 s1 j) = r4 at hb4 hsz4 HST
            clear hM hB hM2 hB2 hj hlt2
            go_wp2_with (first
              | (go_at_call 14; refine (CL.out _ h).mono ?_; clear h; rintro _ w ⟨rfl, h⟩)
              | (with_reducible show wpList _ _ _ ({ dst := _, op := Op.store 3 _ _, type := _, pos := _, after := _, guard := _ } :: _) _ _; refine wpList_store1_has h rfl 3 _ _ rfl rfl rfl hb4 hsz4 rfl (by kernel_rfl) ?_; clear h; intro w h))
            go_roundw
            case rel =>
              have h2 : Has σ (M4.upd b4 (.cells (r4.setIfInBounds j (.int .i64 (s1.clock j))) 44)) w := h
              rw [HST.out] at h2
              exact ⟨j + 1, _, lab4, by omega, by go_num, h2, HM.out, HB.out⟩
            case measure => simp [intOf]; omega
          · obtain rfl : j = 4 := by omega
            have leK3 := Mm.le_trans leK2 (Mm.le_upd' nK4 (.cells (ints .i64 4 (clk4 s1 4)) 44))
            have hba3 := Mm.upd_of (o := .cells (ints .i64 4 (clk4 s1 4)) 44) nK4 hba2
            have hbw3 := Mm.upd_of (o := .cells (ints .i64 4 (clk4 s1 4)) 44) nK4 hbw2
            have hb43 := Mm.upd_same K2 b4 (.cells (ints .i64 4 (clk4 s1 4)) 44)
            clear leK2 hba2 hbw2 nK4 hj hlt2
            generalize K2.upd b4 _ = K3 at hB leK3 hba3 hbw3 hb43
            have hb1 : (s1.tick v).mem.acc < 1000000000 := by rw [E1.out]; show s.mem.acc < _; have := HI.out.acc; omega
            have hb2 : (s1.tick v).mem.wr < 1000000000 := by rw [E1.out]; show s.mem.wr < _; have := HI.out.wr; omega
            have STP := Lib.hid (step_eq (R := fun s2 => s2 = { s1.tick v with mem := (s1.tick v).mem.does a }) (F := 16) (caps := #[.pointer (some ⟨ba, 0, none⟩)]) h hM hB (t := t) (q := q) (lv := v)
              (by rw [E1.out]; exact HQ.out)
              (by rw [E1.out]; show (if t = t then (s.thr t).call 1 [] else s.thr t).frames ≠ []; rw [if_pos rfl]; unfold ThrS.call; simp)
              (by rw [E1.out]; show ((if t = t then (s.thr t).call 1 [] else s.thr t).st || (if t = t then (s.thr t).call 1 [] else s.thr t).ki) = false; rw [if_pos rfl]; exact HI.out.runs t)
              (by rw [E1.out]; exact HV.out) hb1 (by rw [E1.out]; show s.steps < _; have := HI.out.steps; omega) (by rw [E1.out]; intro j; show s.clk j < _; have := HI.out.clk j; omega)
              (by rw [E1.out]; show (if t = t then (s.thr t).call 1 [] else s.thr t).frames.length < _; rw [if_pos rfl]; unfold ThrS.call; simp; have := HI.out.deep t; omega)
              (by kernel_rfl) (fun M5 lab5 w5 h5 hM5 hB5 => apart_eq h5 hM5 hB5 hba3 t hb1 hb2)
              (fun s2 e => by
                subst e
                rw [E1.out]
                refine ⟨rfl, ?_, ?_⟩
                · show s.steps < _; have := HI.out.steps; omega
                · show (if t = t then (s.thr t).call 1 [] else s.thr t).frames.length < _
                  rw [if_pos rfl]; unfold ThrS.call; simp; have := HI.out.deep t; omega))
            have hbam := hB.le _ _ hba3
            clear hM hB hb1 hb2
            go_upto_region 18 with (first
              | (with_reducible show wpList _ _ _ ({ dst := _, op := Op.load 3 _, type := _, pos := _, after := _, guard := _ } :: _) _ _; refine wpList_load1_has h rfl 3 _ rfl rfl hbam d0 Try.underlying3 rfl ?_)
              | (go_at_call 15; refine (STP.out).mono ?_; clear h; rintro _ w ⟨M5, lab5, s2, hs2, rfl, h, hB, hM⟩))
            subst hs2
            obtain ⟨s4, E4⟩ : ∃ s4, Hid (s4 = apNext s t v a) := ⟨_, rfl⟩
            have hM4 : Mach M5 lab5 p s4 := by rw [E4.out]; rw [E1.out] at hM; exact hM
            clear hM STP hbam
            have FT := Lib.hid (fun (w : World) (h : Has σ M5 w) => mFault_eq h hM4)
            cases hbad : s4.bad
            · rw [hbad] at FT
              have HBAD := Lib.hid hbad
              have MM := Lib.hid (fun (w : World) (h : Has σ M5 w) => mMem_eq h hM4)
              have WD := Lib.hid (fun (w : World) (h : Has σ M5 w) => memWords_eq h hM4.mem hM4.memLe)
              have HM := Lib.hid hM4
              have HB := Lib.hid hB
              clear hM4 hB hbad
              go_upto_region 21 with (first
                | (go_at_call 19; refine (FT.out _ h).mono ?_; clear h; rintro _ w ⟨rfl, h⟩)
                | (go_at_call 12; refine (MM.out _ h).mono ?_; clear h; rintro _ w ⟨rfl, h⟩)
                | (go_at_call 13; refine (WD.out _ h).mono ?_; clear h; rintro _ w ⟨bn, M6, rfl, h, hle6, nbn, hbn⟩))
              obtain ⟨lab6, hM, hB⟩ := HM.out.more HB.out hle6 (K' := K3) (fun x o hx => ⟨hle6 _ _ (HB.out x o hx).1, .inl hx⟩)
              have hbf6 := hB.le _ _ (leK3 _ _ hbf)
              have hbw6 := hB.le _ _ hbw3
              have hb46 := hB.le _ _ hb43
              have CL := Lib.hid (fun (w : World) (h : Has σ M6 w) (j : Nat) => mClock_eq h hM j)
              have HBK := Lib.hid (hB.less leK3)
              have HNX : ApInv c (k + 1) s4 := by rw [E4.out]; exact HI.out.next t v a
              obtain ⟨w1, w2, w3, w4, w5, w6, w7⟩ := watch_same { apDo (s.called t 1 []) v a with steps := s.steps + 1 } v s.mem.acc s.mem.wr
              have m4 : s4.mem = s.mem.does a := by rw [E4.out]; exact w3
              have k4 : s4.clk = (s.tick v).clk := by rw [E4.out]; exact w4
              have m1 : s1.mem = s.mem := by rw [E1.out]; rfl
              have k1 : s1.clk = s.clk := by rw [E1.out]; rfl
              have c1 : s1.c = c := by rw [E1.out]; exact HI.out.c
              have hN4 : s4.mem.N = L * (18 + B + 6 * S) := by
                have h1 := hM.memN
                rw [HNX.c, HN.out.lev, HN.out.sz] at h1
                exact_mod_cast h1
              have hNN : s.mem.N = L * (18 + B + 6 * S) := by rw [← hN4, m4]; exact (does_N _ _).1.symm
              have HW : Hid (∀ i, i / (18 + B + 6 * S) ≠ v → s4.mem.f i = s1.mem.f i) := Lib.hid fun i hi => by
                rw [m4, m1]
                refine apart_words (sz := 18 + B + 6 * S) (by rw [HI.out.c]; exact HN.out.sz) ?_ (by rw [← E4.out]; exact HBAD.out) i hi
                rw [hNN, HI.out.c, HN.out.lev, HN.out.sz, Int.natCast_mul]
              have HCK : Hid (∀ j : Nat, j < L → s4.clock j = (if v ≤ j then s1.clock j + 1 else s1.clock j)) := Lib.hid fun j hj => by
                have hL4 := HN.out.l0
                have e0 : (c 0 : Int) = L := HN.out.lev
                have hcond : (0 : Int) ≤ j ∧ (j : Int) < c 0 := ⟨by omega, by omega⟩
                have e4 : s4.clock j = ((s.tick v).clk j : Nat) := by unfold MachS.clock; rw [HNX.c, if_pos hcond, k4, Int.toNat_natCast]
                have e5 : s1.clock j = (s.clk j : Nat) := by unfold MachS.clock; rw [c1, if_pos hcond, k1, Int.toNat_natCast]
                rw [e4, e5]
                show (((if v ≤ j ∧ j < 4 then s.clk j + 1 else s.clk j) : Nat) : Int) = _
                by_cases hvj : v ≤ j
                · rw [if_pos hvj, if_pos ⟨hvj, by omega⟩]; push_cast; rfl
                · rw [if_neg hvj, if_neg (by omega)]
              have HVL : v < L := by have := HVC.out; rw [HI.out.c, HN.out.lev] at this; omega
              have hbw7 : M6 bw = some (.cells (ints .u64 (L * (18 + B + 6 * S)) s1.mem.f) 33) := by
                rw [hbw6]; unfold MemS.row; rw [m1, hNN]
              have hbn7 : M6 bn = some (.cells (ints .u64 (L * (18 + B + 6 * S)) s4.mem.f) 33) := by
                rw [hbn]; unfold MemS.row; rw [hN4]
              have hN1 : s1.mem.N = L * (18 + B + 6 * S) := by rw [m1]; exact hNN
              rw [hN4, hN1]
              have HM6 := Lib.hid hM
              have HNX := Lib.hid HNX
              clear hM hB hbw6 hbn w1 w2 w3 w4 w5 w6 w7 m4 k4 m1 k1 c1 hN4 hNN hN1 MM WD FT HM HB hle6 nbn hbw3 hb43 leK3 hba3 HBAD
              go_wp2
              go_loopw [14] (fun i wr => ∃ j : Nat, j ≤ L ∧ i = .int .i64 (j : Nat) ∧ Has σ M6 wr) (fun i _ => L - (intOf i).toNat)
              case atStart => exact ⟨0, Nat.zero_le _, rfl, h⟩
              case round =>
                clear h w
                obtain ⟨w, rfl⟩ : ∃ x : World, x = wr := ⟨_, rfl⟩
                obtain ⟨j, hj, rfl, h⟩ := hrel
                by_cases hlt2 : j < L
                · have hL4 := HN.out.l0
                  have hlt3 : (j : Int) < (L : Int) := by omega
                  have jL : j ≤ 3 := by omega
                  obtain ⟨sz, hsz⟩ : ∃ sz, sz = 18 + B + 6 * S := ⟨_, rfl⟩
                  have hszp : 0 < sz := by omega
                  obtain ⟨fr, hfr⟩ : ∃ fr, fr = j * sz := ⟨_, rfl⟩
                  obtain ⟨tt, htt⟩ : ∃ tt, tt = (j + 1) * sz := ⟨_, rfl⟩
                  obtain ⟨NN, hNN⟩ : ∃ NN, NN = L * sz := ⟨_, rfl⟩
                  have q1 : tt = fr + sz := by rw [htt, hfr, Nat.succ_mul]
                  have q2 : tt ≤ NN := by rw [htt, hNN]; exact Nat.mul_le_mul_right _ hlt2
                  have F1 : Hid (∀ w, Has σ M6 w → Calls Try.prog 20 #[.agg row, .int .i64 (j : Nat)] w fun r w' => r = .returned (.int .i64 (fr : Nat)) ∧ Has σ M6 w') := Lib.hid fun w h => by rw [hfr, hsz]; exact FI.out M6 w h j (by omega)
                  have F2 : Hid (∀ w, Has σ M6 w → Calls Try.prog 20 #[.agg row, .int .i64 ((j : Int) + 1)] w fun r w' => r = .returned (.int .i64 (tt : Nat)) ∧ Has σ M6 w') := Lib.hid fun w h => by rw [htt, hsz]; exact FI.out M6 w h (j + 1) (by omega)
                  rw [← hsz, ← hNN] at hbw7 hbn7 ⊢
                  have wj : IntKind.i64.wrap ((j : Int) + 1) = (j : Int) + 1 := IntWalk.i64_in _ (by omega)
                  have SA := Lib.hid (run_words_slice (b := bn) (N := NN) (fr := fr) (tt := tt) (m := sz) (by omega) (by omega) q2 (by omega))
                  have SB := Lib.hid (run_words_slice (b := bw) (N := NN) (fr := fr) (tt := tt) (m := sz) (by omega) (by omega) q2 (by omega))
                  have RA := rd_words (cap := NN - fr) (m := sz) (fr := fr) hbn7 (by omega) (by omega)
                  have RB := rd_words (cap := NN - fr) (m := sz) (fr := fr) hbw7 (by omega) (by omega)
                  have SM : j ≠ v → Hid (∀ w, Has σ M6 w → Calls Try.prog 21 #[.slice (some ⟨bn, fr, none⟩) sz (NN - fr), .slice (some ⟨bw, fr, none⟩) sz (NN - fr)] w fun r w' => r = .returned (.bool true) ∧ Has σ M6 w') := fun hjv => Lib.hid fun w h => by
                    have e : ((List.range sz).map fun i => s4.mem.f (fr + i)) = (List.range sz).map fun i => s1.mem.f (fr + i) := by
                      apply List.map_congr_left
                      intro i hi
                      have hi2 := List.mem_range.1 hi
                      refine HW.out _ ?_
                      rw [← hsz, hfr, Nat.mul_comm, Nat.mul_add_div hszp, Nat.div_eq_of_lt hi2]
                      omega
                    rw [e] at RA
                    have hs2 := HN.out.s0
                    have hb2 := HN.out.b0
                    exact refSame_eq h RA RB (by omega)
                  have CJ := Lib.hid (fun (w : World) (h : Has σ M6 w) => CL.out w h j)
                  have gcl : (ints .i64 4 (clk4 s1 4))[j]? = some (.int .i64 (s1.clock j)) := by rw [ints_get (by omega)]; unfold clk4; rw [if_pos (by omega)]
                  have hcj := HCK.out j hlt2
                  rw [hcj] at CJ
                  generalize s1.clock j = c1 at gcl CJ
                  have g1 : decide (NN < tt) = false := decide_eq_false (by omega)
                  have i4 : (j : Int) < 4 := by omega
                  clear RA RB hfr htt hNN hsz hszp q1 q2 hcj hbw7 hbn7 hj hlt2 hL4
                  generalize ints .i64 4 (clk4 s1 4) = r4 at gcl hb46
                  go_upto_region 25 with (first
                    | (with_reducible show wpList _ _ _ ({ dst := _, op := Op.load 3 _, type := _, pos := _, after := _, guard := _ } :: _) _ _; refine wpList_load1_has h rfl 3 _ rfl rfl hbf6 r0 Try.underlying3 rfl ?_)
                    | ((with_reducible show wpList _ _ _ ({ dst := _, op := Op.load 24 _, type := _, pos := _, after := _, guard := _ } :: _) _ _); refine wpList_agg_has h rfl 24 _ rfl rfl hbf6 hx hz Try.underlying24 rfl (by kernel_rfl) ?_; try simp only [Act.put, List.setIfInBounds_toArray, List.set_cons_zero, List.set_cons_succ])
                    | (go_at_call 20; refine (F1.out _ h).mono ?_; clear h; rintro _ w ⟨rfl, h⟩))
                  go_upto_region 26 with (first
                    | ((with_reducible show wpList _ _ _ ({ dst := _, op := Op.load 24 _, type := _, pos := _, after := _, guard := _ } :: _) _ _); refine wpList_agg_has h rfl 24 _ rfl rfl hbf6 hx hz Try.underlying24 rfl (by kernel_rfl) ?_; try simp only [Act.put, List.setIfInBounds_toArray, List.set_cons_zero, List.set_cons_succ])
                    | (go_at_call 20; refine (F2.out _ h).mono ?_; clear h; rintro _ w ⟨rfl, h⟩))
                  have sa := SA.out
                  have sb := SB.out
                  clear SA SB
                  have cne : (c1 + 1 != c1) = true := bne_iff_ne.2 (by omega)
                  have ceq : (c1 != c1) = false := by simp
                  by_cases hjv : j = v
                  · subst hjv
                    rw [if_pos (Nat.le_refl j)] at CJ
                    have nb : ((j : Int) != (j : Int)) = false := by simp
                    have ge : decide (j ≤ j) = true := decide_eq_true (Nat.le_refl j)
                    clear SM
                    refine wp_region_class (Has σ M6) (by kernel_rfl) (by kernel_rfl) h.drew ?_
                    clear h
                    repeat (first
                      | go_big_quiet_skip
                      | (go_big_quiet_want; first
                        | (refine quiet_load_has 3 _ rfl rfl hb46 gcl Try.underlying3 rfl ?_; simp only [Act.put, List.setIfInBounds_toArray, List.set_cons_zero, List.set_cons_succ]; go_big_quiet_on)
                        | (go_big_quiet_op; first | go_big_quiet_on | go_big_quiet_call (first | with_reducible exact fun _ => rfl | with_reducible exact CJ.out _))))
                    refine wpQuiet_nil ?_
                    try clear w
                    intro w h
                    clear CJ
                    go_wp2
                    go_roundw
                    case rel => exact ⟨j + 1, by omega, by go_num, h⟩
                    case measure => simp [intOf]; omega
                  · have nb : ((j : Int) != (v : Int)) = true := bne_iff_ne.2 (by omega)
                    have SM := SM hjv
                    by_cases hvj : v ≤ j
                    · rw [if_pos hvj] at CJ
                      have ge : decide (v ≤ j) = true := decide_eq_true hvj
                      clear hjv hvj
                      refine wp_region_class (Has σ M6) (by kernel_rfl) (by kernel_rfl) h.drew ?_
                      clear h
                      repeat (first
                        | go_big_quiet_skip
                        | (go_big_quiet_want; first
                          | (refine quiet_load_has 3 _ rfl rfl hb46 gcl Try.underlying3 rfl ?_; simp only [Act.put, List.setIfInBounds_toArray, List.set_cons_zero, List.set_cons_succ]; go_big_quiet_on)
                          | (go_big_quiet_op; first | go_big_quiet_on | go_big_quiet_call (first | with_reducible exact fun _ => rfl | with_reducible exact CJ.out _ | with_reducible exact SM.out _))))
                      refine wpQuiet_nil ?_
                      try clear w
                      intro w h
                      clear CJ
                      go_wp2
                      go_roundw
                      case rel => exact ⟨j + 1, by omega, by go_num, h⟩
                      case measure => simp [intOf]; omega
                    · rw [if_neg hvj] at CJ
                      have ge : decide (v ≤ j) = false := decide_eq_false hvj
                      clear hjv hvj
                      refine wp_region_class (Has σ M6) (by kernel_rfl) (by kernel_rfl) h.drew ?_
                      clear h
                      repeat (first
                        | go_big_quiet_skip
                        | (go_big_quiet_want; first
                          | (refine quiet_load_has 3 _ rfl rfl hb46 gcl Try.underlying3 rfl ?_; simp only [Act.put, List.setIfInBounds_toArray, List.set_cons_zero, List.set_cons_succ]; go_big_quiet_on)
                          | (go_big_quiet_op; first | go_big_quiet_on | go_big_quiet_call (first | with_reducible exact fun _ => rfl | with_reducible exact CJ.out _ | with_reducible exact SM.out _))))
                      refine wpQuiet_nil ?_
                      try clear w
                      intro w h
                      clear CJ
                      go_wp2
                      go_roundw
                      case rel => exact ⟨j + 1, by omega, by go_num, h⟩
                      case measure => simp [intOf]; omega
                · obtain rfl : j = L := by omega
                  go_wp2_with (first
                    | (with_reducible show wpList _ _ _ ({ dst := _, op := Op.load 3 _, type := _, pos := _, after := _, guard := _ } :: _) _ _; refine wpList_load1_has h rfl 3 _ rfl rfl hbf6 r0 Try.underlying3 rfl ?_))
                  go_roundw
                  case rel => exact ⟨k + 1, M6, lab6, s4, by omega, by go_num, h, HBK.out, HM6.out, HNX.out⟩
                  case measure => simp [intOf]; omega
            · rw [hbad] at FT
              have HB := Lib.hid (Mm.le_trans hle0 (Mm.le_trans leK3 hB.le))
              clear hM4 hB hbad
              go_wp2_with (first
                | (go_at_call 19; refine (FT.out _ h).mono ?_; clear h; rintro _ w ⟨rfl, h⟩)
                | (go_at_call 8; refine (LI.out _ _ h).mono ?_; clear h; rintro _ w ⟨rfl, h⟩))
              go_ret
              exact ⟨rfl, h.le HB.out⟩
      · have g0 : decide (levelOf s.c a.t < 0) = true := decide_eq_true (by omega)
        have HM := Lib.hid hM
        have HB := Lib.hid (hB.less leK)
        have HI := Lib.hid (hI.mono (Nat.le_succ k))
        clear hM hB hI hlv hr ha
        go_wp2_with (first
          | (with_reducible show wpList _ _ _ ({ dst := _, op := Op.load 3 _, type := _, pos := _, after := _, guard := _ } :: _) _ _; refine wpList_load1_has h rfl 3 _ rfl rfl hbam d0 Try.underlying3 rfl ?_)
          | (go_at_call 9; refine (LV.out _ h).mono ?_; clear h; rintro _ w ⟨rfl, h⟩))
        go_roundw
        case rel => exact ⟨k + 1, M2, lab2, s, by omega, by go_num, h, HB.out, HM.out, HI.out⟩
        case measure => simp [intOf]; omega
    · obtain rfl : k = n := by omega
      have HB := Lib.hid hB.le
      clear hB hM hI hlt hk
      go_wp2_with (first
        | (go_at_call 8; refine (LI.out _ _ h).mono ?_; clear h; rintro _ w ⟨rfl, h⟩))
      go_ret
      exact ⟨rfl, h.le (Mm.le_trans hle0 HB.out)⟩
end Go.Proofs.Ytnknlleflpkijaa
