/- Law 21, MachineSteps: the law's walk over the steps. -/
import Derived.Test.YtnknlleflpkijaaSpD
import Derived.Deep.CutRange
namespace Go.Proofs.Ytnknlleflpkijaa
open Go.RowKit
set_option linter.unusedVariables false
set_option linter.unusedSimpArgs false
set_option linter.unnecessarySimpa false
/-- What the law knows of its own besides. -/
structure SpK (K : Mm) (b4 bh : Nat) (L : Nat) (x : SpS) : Prop where
  b4 : K b4 = some (.cells (ints .i64 4 x.clk) 44)
  bh : K bh = some (.cells (bools L x.held) 4)
theorem no_thread {c : Nat → Int} (hc : ConfMay c) {t : Int} (h : levelOf c t < 0) {n : Nat} (hn : (n : Int) = c 1) : t < 0 ∨ (n : Int) ≤ t := by
  have hc' := hc
  obtain ⟨h0, ⟨a3, a4⟩, _, a5, _⟩ := hc'
  rcases Int.lt_or_le t 0 with h1 | h1
  · exact .inl h1
  · right
    rcases Int.lt_or_le t n with h2 | h2
    · have h3 := a5 t.toNat (by omega)
      unfold levelOf at h
      rw [if_pos ⟨decide_eq_true hc, h1, by omega⟩] at h
      omega
    · exact h2
theorem word_level {c : Nat → Int} (hc : ConfMay c) {a : Nat} (ha : (a : Int) < c 0 * firsts c 10) : ∃ (m : Nat) (p : Pl), (allP c (c 0).toNat)[a]? = some p ∧ p.1 = (m : Int) ∧ (a : Int) / firsts c 10 = (m : Int) := by
  have hc' := hc
  obtain ⟨⟨g0, g1⟩, _, _, _, ⟨g2, g3⟩, ⟨g4, g5⟩, _⟩ := hc'
  obtain ⟨L, B, S, hn⟩ := Nums.of hc
  have hsz := hn.sz
  obtain ⟨T, hT⟩ : ∃ T : Nat, 18 + B + 6 * S = T := ⟨_, rfl⟩
  rw [hT] at hsz
  have hlt : a / T < L := by
    rw [hsz, hn.lev] at ha
    exact Nat.div_lt_of_lt_mul (by rw [Nat.mul_comm]; exact_mod_cast ha)
  have hr : a % T < T := Nat.mod_lt _ (by omega)
  obtain ⟨k, hk, k1, k2⟩ := kind_ex hc (r := ((a % T : Nat) : Int)) (by omega) (by rw [hsz]; omega)
  have hg := allP_get hc (L := L) hlt hk k1 k2
  rw [show (firsts c 10).toNat = T by omega, show a / T * T + a % T = a by rw [Nat.mul_comm]; exact Nat.div_add_mod a T] at hg
  exact ⟨a / T, _, by rw [hn.lev, Int.toNat_natCast]; exact hg, rfl, by rw [hsz]; exact_mod_cast rfl⟩
section
variable {x : SpS} {c : Nat → Int} {v : Nat} {a : ActS}
theorem next_idle (h : a.kind = 0 ∨ a.kind = 4) : (x.next c v a).fault = x.fault ∧ (x.next c v a).given = x.given ∧ (x.next c v a).held = x.held := by
  unfold SpS.next SpS.drops badAct
  rcases h with h | h <;> rw [h] <;> simp
theorem next_three (h : a.kind = 3) : (x.next c v a).fault = true ∧ (x.next c v a).given = x.given ∧ (x.next c v a).held = x.held := by
  unfold SpS.next SpS.drops badAct
  rw [h]; simp
theorem next_one {b d : Bool} (h : a.kind = 1) (hb : decide (0 ≤ a.at_ ∧ a.at_ < c 0 * firsts c 10) = b) (hd : decide ((v : Int) < a.at_ / firsts c 10) = d) : (x.next c v a).fault = (x.fault || (!b || d)) ∧ (x.next c v a).given = x.given ∧ (x.next c v a).held = x.held := by
  unfold SpS.next SpS.drops badAct
  rw [h, hb, hd]; simp
theorem next_two {b d f : Bool} (h : a.kind = 2) (hb : decide (0 ≤ a.at_ ∧ a.at_ < c 0 * firsts c 10) = b) (hd : decide ((v : Int) < a.at_ / firsts c 10) = d) (hf : (a.at_ / firsts c 10 != (v : Int)) = f) : (x.next c v a).fault = (x.fault || ((!b || d) || f)) ∧ (x.next c v a).given = x.given ∧ (x.next c v a).held = x.held := by
  unfold SpS.next SpS.drops badAct
  rw [h, hb, hd, hf]; simp
theorem next_miss (h : a.kind = 5) (hb : (a.at_ == 1 && !x.held v) = false) : (x.next c v a).fault = true ∧ (x.next c v a).given = x.given ∧ (x.next c v a).held = x.held := by
  unfold SpS.next SpS.drops badAct
  rw [h, hb]; simp
theorem next_drop (h : a.kind = 5) (hb : (a.at_ == 1 && !x.held v) = true) : (x.next c v a).fault = x.fault ∧ (x.next c v a).given = x.given + 1 ∧ (x.next c v a).held = fun j => if j = v then true else x.held j := by
  unfold SpS.next SpS.drops badAct
  rw [h, hb]; simp
end
theorem encG_clk (g : GivenS) {v : Nat} (h : v < 4) : (encG g)[2 + v]? = some (.int .i64 (g.clk v : Nat)) := by
  obtain rfl | rfl | rfl | rfl : v = 0 ∨ v = 1 ∨ v = 2 ∨ v = 3 := by omega
  all_goals rfl
set_option maxHeartbeats 16000000 in
set_option maxRecDepth 20000 in
theorem steps_long {σ w : World} {M : Mm} (h : Has σ M w) (c : Nat → Int) (hc : ConfMay c) {L B S : Nat} (hn : Nums c L B S) {A : Option Addr} {n cap : Nat} {l : List ActS} (hr : Rd M 5 (.slice A n cap) n (l.flatMap encA)) (hl : l.length = n) (h60 : n ≤ 60) :
    Calls Try.prog 4 #[confV c, .slice A n cap] w fun r w' => r = .returned (.bool true) ∧ Has σ M w' := by
  have LI := Lib.hid (fun (M' : Mm) (w : World) (h : Has σ M' w) => lives_eq h)
  have NW := Lib.hid (fun (M' : Mm) (w : World) (h : Has σ M' w) => mNew_yes h c hc hn)
  have AL := Lib.hid (fun (M' : Mm) (w : World) (h : Has σ M' w) => refAll_eq h c hc)
  have RL := Lib.hid (fun (M' : Mm) (w : World) (h : Has σ M' w) (t : Int) => refLevel_has h c t)
  have hx : (ints .i64 14 c).extract 0 (0 + 14) = ints .i64 14 c := rfl
  have hz : (ints .i64 14 c).size = 14 := rfl
  have r0 : (ints .i64 14 c)[0]? = some (.int .i64 (L : Nat)) := by rw [← hn.lev]; rfl
  have HL := Lib.hid hl
  have HC := Lib.hid hc
  have HN := Lib.hid hn
  have HK60' := Lib.hid h60
  have h60' : decide ((60 : Int) < (n : Int)) = false := decide_eq_false (by omega)
  have MB := mk_bool L (by have := hn.l0; omega)
  have PL : (allP c (c 0).toNat).length = L * (18 + B + 6 * S) := by
    have h1 := allP_len hc (c 0).toNat
    rw [hn.sz, hn.lev] at h1
    rw [hn.lev]
    exact_mod_cast h1
  rw [PL] at AL
  replace PL := Lib.hid PL
  unfold confV at NW AL RL ⊢
  generalize ints .i64 14 c = row at NW AL RL hx hz r0 ⊢
  generalize hPP : allP c (c 0).toNat = PP at AL
  replace hPP := Lib.hid hPP
  generalize hNN : L * (18 + B + 6 * S) = N at AL
  replace hNN := Lib.hid hNN
  clear hl hc hn
  go_enter Try.func4, Try.ntmps4
  go_upto_region 1 with (fail)
  obtain ⟨M0, hbx, hle0, hbf, hnf⟩ := h.box (.cells row 24)
  generalize w.alloc _ = wx at hbx ⊢
  generalize w.heap.size = bf at hbf hnf ⊢
  clear h
  try clear w
  have h := hbx
  clear hbx
  obtain ⟨w, rfl⟩ : ∃ x : World, x = wx := ⟨_, rfl⟩
  replace hr := hr.le hle0
  go_upto_region 5 with (first
    | ((with_reducible show wpList _ _ _ ({ dst := _, op := Op.load 24 _, type := _, pos := _, after := _, guard := _ } :: _) _ _); refine wpList_agg_has h rfl 24 _ rfl rfl hbf hx hz Try.underlying24 rfl (by kernel_rfl) ?_; try simp only [Act.put, List.setIfInBounds_toArray, List.set_cons_zero, List.set_cons_succ])
    | ((with_reducible show wpList _ _ _ ({ dst := _, op := Op.load 24 _, type := _, pos := _, after := _, guard := _ } :: _) _ _); refine wpList_agg_has h rfl 24 _ rfl rfl hbf2 hx hz Try.underlying24 rfl (by kernel_rfl) ?_; try simp only [Act.put, List.setIfInBounds_toArray, List.set_cons_zero, List.set_cons_succ])
    | ((go_at_call 6; refine (NW.out _ _ h).mono ?_; clear h; rintro _ w ⟨p, M2, lab, s, rfl, h, hB, hM, hN⟩; have hbf2 := hB.le _ _ hbf))
    | ((go_at_call 22; refine (AL.out _ _ h).mono ?_; clear h; rintro _ w ⟨va, rfl, M3, h, hle3, hown⟩)))
  clear NW h60' AL hbf2
  have HI := Lib.hid (SpInv.first HN.out hN hM.wsz.1 hM.wsz.2 hM.memN)
  clear hN
  obtain ⟨K1, lab1, hM1, hB1, leK1, hra⟩ := hM.moreAcc hB hle3 hown
  obtain ⟨VA, vc, rfl⟩ := hra.form
  have hbfK := leK1 _ _ hbf
  have hbf3 := hB1.le _ _ hbfK
  have HM := Lib.hid hM1
  have HB := Lib.hid hB1
  replace hra := Lib.hid hra
  clear hM hB hle3 hown hM1 hB1 hbf
  go_upto_region 8 with (first
    | ((with_reducible show wpList _ _ _ ({ dst := some 10, op := Op.alloc 44, type := _, pos := _, after := _, guard := _ } :: _) _ _); refine wpList_alloc_has h rfl 44 rfl _ z4 ?_; clear h; intro b4 w h hn4; try simp only [Act.put, List.setIfInBounds_toArray, List.set_cons_zero, List.set_cons_succ]))
  have hbf4 := Mm.upd_of (o := .cells (ints .i64 4 fun _ => 0) 44) hn4 hbf3
  obtain ⟨lab2, hM, hB⟩ := HM.out.box HB.out hn4 (.cells (ints .i64 4 fun _ => 0) 44)
  have nK4 := HB.out.fresh hn4
  replace hM := Lib.hid hM
  replace hB := Lib.hid hB
  have h0 : Has σ (M3.upd b4 (.cells (ints .i64 4 fun _ => 0) 44)) w := h
  clear HM HB hn4 h hbf3
  have h := h0
  clear h0
  generalize M3.upd b4 _ = M4 at h hbf4 hM hB
  go_upto_region 9 with (first
    | (with_reducible show wpList _ _ _ ({ dst := _, op := Op.load 3 _, type := _, pos := _, after := _, guard := _ } :: _) _ _; refine wpList_load1_has h rfl 3 _ rfl rfl hbf4 r0 Try.underlying3 rfl ?_))
  clear MB
  obtain ⟨M5, hbx, hle5, hbh, hn5⟩ := h.box (.cells (bools L fun _ => false) 4)
  generalize w.alloc _ = wx at hbx ⊢
  generalize w.heap.size = bh at hbh hn5 ⊢
  clear h
  try clear w
  have h := hbx
  clear hbx
  obtain ⟨w, rfl⟩ : ∃ x : World, x = wx := ⟨_, rfl⟩
  obtain ⟨lab3, hM5, hB5⟩ := hM.out.more1 hB.out hle5 hn5 hbh
  have nKh := hB.out.fresh hn5
  clear hM hB hbf4 hle5 hbh hn5
  obtain ⟨KK, HKK⟩ : ∃ KK : SpS → Mm, Hid (∀ x, KK x = (K1.upd b4 (.cells (ints .i64 4 x.clk) 44)).upd bh (.cells (bools L x.held) 4)) := ⟨_, fun _ => rfl⟩
  have hne : b4 ≠ bh := fun e => by subst e; rw [Mm.upd_same] at nKh; cases nKh
  have nKh1 : K1 bh = none := by rw [Mm.upd_ne (fun e => hne e.symm)] at nKh; exact nKh
  have hB6 : Base (KK spFirst) M5 lab3 := by rw [HKK.out]; exact hB5
  have LEK : Hid (∀ x, K1.le (KK x)) := Lib.hid fun x => by rw [HKK.out]; exact Mm.le_upd (Mm.le_upd' nK4 _) nKh1 _
  have G4 : Hid (∀ x, KK x b4 = some (.cells (ints .i64 4 x.clk) 44)) := Lib.hid fun x => by rw [HKK.out]; exact (Mm.upd_ne hne).trans (Mm.upd_same _ _ _)
  have GH : Hid (∀ x, KK x bh = some (.cells (bools L x.held) 4)) := Lib.hid fun x => by rw [HKK.out]; exact Mm.upd_same _ _ _
  have P4 : Hid (∀ x y : SpS, y.held = x.held → (KK x).upd b4 (.cells (ints .i64 4 y.clk) 44) = KK y) := Lib.hid fun x y e => by
    rw [HKK.out, HKK.out, e]
    funext c
    unfold Mm.upd
    by_cases h1 : c = b4
    · subst h1; simp [hne]
    · by_cases h2 : c = bh
      · simp [h2, Ne.symm hne]
      · simp [h1, h2]
  have PH : Hid (∀ x y : SpS, y.clk = x.clk → (KK x).upd bh (.cells (bools L y.held) 4) = KK y) := Lib.hid fun x y e => by
    rw [HKK.out, HKK.out, e, Mm.upd_upd]
  have HNE := Lib.hid hne
  clear hB5 HKK nKh nKh1 nK4 hne
  replace hM5 := Lib.hid hM5
  replace hB6 := Lib.hid hB6
  go_wp2
  go_loopw [13, 8, 9, 11] (fun i st gv ft wr => ∃ (k : Nat) (M' : Mm) (lab' : Nat → Nat) (s' : MachS) (x : SpS), k ≤ n ∧ i = .int .i64 (k : Nat) ∧ st = .int .i64 (x.steps : Nat) ∧ gv = .int .i64 (x.given : Nat) ∧ ft = .bool x.fault ∧ Has σ M' wr ∧ Base (KK x) M' lab' ∧ Mach M' lab' p s' ∧ SpInv c k s' x) (fun i _ _ _ _ => n - (intOf i).toNat)
  case atStart => exact ⟨0, M5, lab3, s, spFirst, Nat.zero_le _, rfl, rfl, rfl, rfl, h, hB6.out, hM5.out, HI.out⟩
  case round =>
    clear h hM5 hB6 HI w s M5 lab3 lab2 lab1 M4 M3 lab M2
    obtain ⟨w, rfl⟩ : ∃ x : World, x = wr := ⟨_, rfl⟩
    obtain ⟨k, M1, lab, s, x, hk, rfl, rfl, rfl, rfl, h, hB, hM, hI⟩ := hrel
    by_cases hlt : k < n
    · have hlt' : (k : Int) < (n : Int) := by omega
      obtain ⟨a, ha⟩ : ∃ a, l[k]? = some a := ⟨_, List.getElem?_eq_getElem (by have := HL.out; omega)⟩
      obtain ⟨bl, ol, cl, csl, tl, fl, e1, hMl, hxl⟩ := hr.elem encA_len hlt ha
      cases e1
      have leKM := Mm.le_trans (LEK.out x) hB.le
      have hMl1 := leKM _ _ (leK1 _ _ hMl)
      have g5 : csl.extract (ol + k * 5) (ol + k * 5 + 5) = a.row := extract_of (n := 5) hxl rfl
      clear hxl hMl
      have HBM : Hid (Base (KK x) M1 lab ∧ Mach M1 lab p s) := ⟨hB, hM⟩
      clear hB hM leKM
      go_upto_region 13 with (first
        | ((with_reducible show wpList _ _ _ ({ dst := _, op := Op.load 35 _, type := _, pos := _, after := _, guard := _ } :: _) _ _); refine wpList_agg_has h rfl 35 _ rfl rfl hMl1 g5 rfl Try.underlying35 rfl (by kernel_rfl) ?_; try simp only [Act.put, List.setIfInBounds_toArray, List.set_cons_zero, List.set_cons_succ])
        | ((with_reducible show wpList _ _ _ ({ dst := _, op := Op.alloc 35, type := _, pos := _, after := _, guard := _ } :: _) _ _); refine wpList_alloc_has h rfl 35 rfl _ zact ?_; clear h; intro ba w h hnb; try simp only [Act.put, List.setIfInBounds_toArray, List.set_cons_zero, List.set_cons_succ])
        | ((with_reducible show wpList _ _ _ ({ dst := _, op := Op.store 35 _ _, type := _, pos := _, after := _, guard := _ } :: _) _ _); refine wpList_storeAll_has (cells := a.row) h rfl 35 _ _ rfl rfl rfl (Mm.upd_same _ _ _) rfl rfl rfl (by kernel_rfl) rfl ?_; clear h; intro w h))
      rw [Mm.upd_upd] at h
      obtain ⟨lab2, hM, hB⟩ := HBM.out.2.box HBM.out.1 hnb (.cells a.row 35)
      have nKa := HBM.out.1.fresh hnb
      obtain ⟨KB, HKB⟩ : ∃ KB : SpS → Mm, Hid (∀ y, KB y = (KK y).upd ba (.cells a.row 35)) := ⟨_, fun _ => rfl⟩
      have hna4 : b4 ≠ ba := fun e => by rw [← e, G4.out] at nKa; cases nKa
      have hnah : bh ≠ ba := fun e => by rw [← e, GH.out] at nKa; cases nKa
      have hnak : ∀ y, KK y ba = none := fun y => by
        have e1 := P4.out x { x with clk := y.clk } rfl
        have e2 := PH.out { x with clk := y.clk } y rfl
        rw [← e2, ← e1, Mm.upd_ne hnah.symm, Mm.upd_ne hna4.symm]
        exact nKa
      have hB2 : Base (KB x) (M1.upd ba (.cells a.row 35)) lab2 := by rw [HKB.out]; exact hB
      have LKB : Hid (∀ y, (KK y).le (KB y)) := Lib.hid fun y => by rw [HKB.out]; exact Mm.le_upd' (hnak y) _
      have GA : Hid (∀ y, KB y ba = some (.cells a.row 35)) := Lib.hid fun y => by rw [HKB.out]; exact Mm.upd_same _ _ _
      have comm : ∀ (K : Mm) (b : Nat) (o : Obj), b ≠ ba → (K.upd ba (.cells a.row 35)).upd b o = (K.upd b o).upd ba (.cells a.row 35) := fun K b o hb => by
        funext z
        unfold Mm.upd
        by_cases h1 : z = b
        · simp [h1, hb]
        · by_cases h2 : z = ba
          · simp [h2, Ne.symm hb]
          · simp [h1, h2]
      have Q4 : Hid (∀ y z : SpS, z.held = y.held → (KB y).upd b4 (.cells (ints .i64 4 z.clk) 44) = KB z) := Lib.hid fun y z e => by rw [HKB.out, HKB.out, comm _ _ _ hna4, P4.out y z e]
      have QH : Hid (∀ y z : SpS, z.clk = y.clk → (KB y).upd bh (.cells (bools L z.held) 4) = KB z) := Lib.hid fun y z e => by rw [HKB.out, HKB.out, comm _ _ _ hnah, PH.out y z e]
      clear hMl1 g5 hnb HBM hB HKB hna4 hnah hnak nKa comm
      generalize M1.upd ba _ = M2 at h hM hB2
      clear lab M1
      have d0 : a.row[0]? = some (.int .i64 a.t) := rfl
      have d1 : a.row[1]? = some (.int .i64 a.kind) := rfl
      have d2 : a.row[2]? = some (.int .i64 a.at_) := rfl
      have d4 : a.row[4]? = some (.bool a.off) := rfl
      have hbam := hB2.le _ _ (GA.out x)
      have hbfm := hB2.le _ _ (LKB.out x _ _ (LEK.out x _ _ hbfK))
      have HB := Lib.hid hB2
      have HM := Lib.hid hM
      have HI := Lib.hid hI
      have TL := Lib.hid hM.tlen
      have CC := Lib.hid hI.cc
      have HK60 : Hid (k ≤ 60) := Lib.hid (by have := HK60'.out; omega)
      clear hB2 ha
      by_cases hlv : levelOf c a.t < 0
      · skip
        obtain ⟨v, hv⟩ : ∃ v, levelOf c a.t = v := ⟨_, rfl⟩
        have RL2 := Lib.hid (fun (w : World) (h : Has σ M2 w) => RL.out M2 w h a.t)
        rw [hv] at RL2 hlv
        have hnt := no_thread HC.out (by rw [hv]; exact hlv) (by rw [TL.out, CC.out])
        have TH := Lib.hid (fun (w : World) (h : Has σ M2 w) => mThread_no h hM a.t hnt)
        have CA := Lib.hid (fun (w : World) (h : Has σ M2 w) => thrCall_none h 7 (.slice none 0 0))
        have g0 : decide (v < 0) = true := decide_eq_true hlv
        have g1 : decide (0 ≤ v) = false := decide_eq_false (by omega)
        have SP := Lib.hid (fun (w : World) (h : Has σ M2 w) => step_nothr h hM a.t hnt (.func (.func 25) #[] #[.pointer (some ⟨ba, 0, none⟩)]))
        clear hv hM hI hnt hlv
        by_cases hk0 : a.kind < 0 ∨ 5 < a.kind
        · rcases hk0 with hk0 | hk0
          · have k0 : decide (a.kind < 0) = true := decide_eq_true hk0
            clear hk0
            as_aux_lemma =>
              go_wp2_with (first
                | ((with_reducible show wpList _ _ _ ({ dst := _, op := Op.load 24 _, type := _, pos := _, after := _, guard := _ } :: _) _ _); refine wpList_agg_has h rfl 24 _ rfl rfl hbfm hx hz Try.underlying24 rfl (by kernel_rfl) ?_; try simp only [Act.put, List.setIfInBounds_toArray, List.set_cons_zero, List.set_cons_succ])
                | (with_reducible show wpList _ _ _ ({ dst := _, op := Op.load 3 _, type := _, pos := _, after := _, guard := _ } :: _) _ _; refine wpList_load1_has h rfl 3 _ rfl rfl hbam d0 Try.underlying3 rfl ?_)
                | (with_reducible show wpList _ _ _ ({ dst := _, op := Op.load 3 _, type := _, pos := _, after := _, guard := _ } :: _) _ _; refine wpList_load1_has h rfl 3 _ rfl rfl hbam d1 Try.underlying3 rfl ?_)
                | (go_at_call 23; refine (RL2.out _ h).mono ?_; clear h; rintro _ w ⟨rfl, h⟩)
                | (go_at_call 10; refine (TH.out _ h).mono ?_; clear h; rintro _ w ⟨rfl, h⟩)
                | (go_at_call 11; refine (CA.out _ h).mono ?_; clear h; rintro _ w ⟨rfl, h⟩))
              go_roundw
              case rel => exact ⟨k + 1, M2, lab2, s, x, by omega, by go_num, rfl, rfl, rfl, h, HB.out.less (LKB.out x), HM.out, HI.out.mono (Nat.le_succ _)⟩
              case measure => simp [intOf]; omega
          · have k0 : decide (a.kind < 0) = false := decide_eq_false (by omega)
            have k5 : decide (5 < a.kind) = true := decide_eq_true hk0
            clear hk0
            as_aux_lemma =>
              go_wp2_with (first
                | ((with_reducible show wpList _ _ _ ({ dst := _, op := Op.load 24 _, type := _, pos := _, after := _, guard := _ } :: _) _ _); refine wpList_agg_has h rfl 24 _ rfl rfl hbfm hx hz Try.underlying24 rfl (by kernel_rfl) ?_; try simp only [Act.put, List.setIfInBounds_toArray, List.set_cons_zero, List.set_cons_succ])
                | (with_reducible show wpList _ _ _ ({ dst := _, op := Op.load 3 _, type := _, pos := _, after := _, guard := _ } :: _) _ _; refine wpList_load1_has h rfl 3 _ rfl rfl hbam d0 Try.underlying3 rfl ?_)
                | (with_reducible show wpList _ _ _ ({ dst := _, op := Op.load 3 _, type := _, pos := _, after := _, guard := _ } :: _) _ _; refine wpList_load1_has h rfl 3 _ rfl rfl hbam d1 Try.underlying3 rfl ?_)
                | (go_at_call 23; refine (RL2.out _ h).mono ?_; clear h; rintro _ w ⟨rfl, h⟩)
                | (go_at_call 10; refine (TH.out _ h).mono ?_; clear h; rintro _ w ⟨rfl, h⟩)
                | (go_at_call 11; refine (CA.out _ h).mono ?_; clear h; rintro _ w ⟨rfl, h⟩))
              go_roundw
              case rel => exact ⟨k + 1, M2, lab2, s, x, by omega, by go_num, rfl, rfl, rfl, h, HB.out.less (LKB.out x), HM.out, HI.out.mono (Nat.le_succ _)⟩
              case measure => simp [intOf]; omega
        · have k0 : decide (a.kind < 0) = false := decide_eq_false (by omega)
          have k5 : decide (5 < a.kind) = false := decide_eq_false (by omega)
          have HI1 := Lib.hid (HI.out.mono (Nat.le_succ _))
          clear hk0 CA HI
          go_upto_region 37 with (first
            | ((with_reducible show wpList _ _ _ ({ dst := _, op := Op.load 24 _, type := _, pos := _, after := _, guard := _ } :: _) _ _); refine wpList_agg_has h rfl 24 _ rfl rfl hbfm hx hz Try.underlying24 rfl (by kernel_rfl) ?_; try simp only [Act.put, List.setIfInBounds_toArray, List.set_cons_zero, List.set_cons_succ])
            | (with_reducible show wpList _ _ _ ({ dst := _, op := Op.load 3 _, type := _, pos := _, after := _, guard := _ } :: _) _ _; refine wpList_load1_has h rfl 3 _ rfl rfl hbam d0 Try.underlying3 rfl ?_)
            | (with_reducible show wpList _ _ _ ({ dst := _, op := Op.load 3 _, type := _, pos := _, after := _, guard := _ } :: _) _ _; refine wpList_load1_has h rfl 3 _ rfl rfl hbam d1 Try.underlying3 rfl ?_)
            | (go_at_call 23; refine (RL2.out _ h).mono ?_; clear h; rintro _ w ⟨rfl, h⟩)
            | (go_at_call 10; refine (TH.out _ h).mono ?_; clear h; rintro _ w ⟨rfl, h⟩)
            | (go_at_call 15; refine (SP.out _ h).mono ?_; clear h; rintro _ w ⟨rfl, h⟩))
          clear RL2 TH SP
          have SS := Lib.hid (fun (w : World) (h : Has σ M2 w) => mSteps_eq h HM.out)
          rw [HI1.out.steps] at SS
          have FT := Lib.hid (fun (w : World) (h : Has σ M2 w) => mFault_eq h HM.out)
          rw [HI1.out.bad] at FT
          have GV := Lib.hid (fun (w : World) (h : Has σ M2 w) => mGiven_eq h HM.out (by have := HI1.out.given; have := HI1.out.givenLe; omega))
          rw [HI1.out.given] at GV
          have CK : Hid (∀ j : Nat, j < L → ∀ w, Has σ M2 w → Calls Try.prog 14 #[.pointer (some ⟨p, 0, none⟩), .int .i64 (j : Nat)] w fun r w' => r = .returned (.int .i64 (x.clk j)) ∧ Has σ M2 w') := Lib.hid fun j hj w h => by
            have e : s.clock j = x.clk j := by
              unfold MachS.clock
              rw [HI1.out.cc, if_pos ⟨by omega, by rw [HN.out.lev]; omega⟩, HI1.out.clk j (by have := HN.out.l0; omega), Int.toNat_natCast]
            rw [← e]
            exact mClock_eq h HM.out j
          have hb4m := HB.out.le _ _ (LKB.out x _ _ (G4.out x))
          have hbam := HB.out.le _ _ (GA.out x)
          have hbfm := HB.out.le _ _ (LKB.out x _ _ (LEK.out x _ _ hbfK))
          go_upto_region 39 with (first
            | (go_at_call 28; refine (SS.out _ h).mono ?_; clear h; rintro _ w ⟨rfl, h⟩)
            | (go_at_call 19; refine (FT.out _ h).mono ?_; clear h; rintro _ w ⟨rfl, h⟩)
            | (go_at_call 29; refine (GV.out _ h).mono ?_; clear h; rintro _ w ⟨u, rfl, M9, h9, hle9, hown9⟩; obtain ⟨UA, uc, rfl⟩ := hown9.form; have h := h9.le hle9; clear h9 hle9 hown9))
          go_upto_region 40 with (fail)
          go_loopw [21] (fun i wr => ∃ j : Nat, j ≤ L ∧ i = .int .i64 (j : Nat) ∧ Has σ M2 wr) (fun i _ => L - (intOf i).toNat)
          case atStart => exact ⟨0, Nat.zero_le _, rfl, h⟩
          case round =>
            clear h w
            obtain ⟨w, rfl⟩ : ∃ x : World, x = wr := ⟨_, rfl⟩
            obtain ⟨j, hj, rfl, h⟩ := hrel
            by_cases hlt2 : j < L
            · have hL4 := HN.out.l0
              have hlt3 : (j : Int) < (L : Int) := by omega
              have j4 : (j : Int) < 4 := by omega
              have gcl : (ints .i64 4 x.clk)[j]? = some (.int .i64 (x.clk j)) := ints_get (by omega)
              have CJ := Lib.hid (fun (w : World) (h : Has σ M2 w) => CK.out j hlt2 w h)
              clear hL4 hj hlt2
              generalize x.clk j = cj at gcl CJ
              generalize ints .i64 4 x.clk = r4 at gcl hb4m
              as_aux_lemma =>
                go_upto_region 42 with (first
                  | (with_reducible show wpList _ _ _ ({ dst := _, op := Op.load 3 _, type := _, pos := _, after := _, guard := _ } :: _) _ _; refine wpList_load1_has h rfl 3 _ rfl rfl hbfm r0 Try.underlying3 rfl ?_))
                refine wp_region_class (Has σ M2) (by kernel_rfl) (by kernel_rfl) h.drew ?_
                clear h
                repeat (first
                  | go_big_quiet_skip
                  | (go_big_quiet_want; first
                    | (refine quiet_load_has 3 _ rfl rfl hb4m gcl Try.underlying3 rfl ?_; simp only [Act.put, List.setIfInBounds_toArray, List.set_cons_zero, List.set_cons_succ]; go_big_quiet_on)
                    | (go_big_quiet_op; first | go_big_quiet_on | go_big_quiet_call (first | with_reducible exact fun _ => rfl | with_reducible exact CJ.out _))))
                refine wpQuiet_nil ?_
                try clear w
                intro w h
                go_wp2
                go_roundw
                case rel => exact ⟨j + 1, by omega, by go_num, h⟩
                case measure => simp [intOf]; omega
            · obtain rfl : j = L := by omega
              have hgt2 : ¬ ((j : Int) < (j : Int)) := by omega
              go_upto_region 44 with (first
                | (with_reducible show wpList _ _ _ ({ dst := _, op := Op.load 3 _, type := _, pos := _, after := _, guard := _ } :: _) _ _; refine wpList_load1_has h rfl 3 _ rfl rfl hbfm r0 Try.underlying3 rfl ?_))
              clear SS FT GV CK
              by_cases hgv : 0 < x.given
              · have gg : decide ((0 : Int) < (x.given : Nat)) = true := decide_eq_true (by omega)
                cases hk5 : (a.kind == 5)
                · as_aux_lemma =>
                    refine wp_region_class (Has σ M2) (by kernel_rfl) (by kernel_rfl) h.drew ?_
                    clear h
                    repeat (first
                      | go_big_quiet_skip
                      | (go_big_quiet_want; first
                        | (refine quiet_load_has 3 _ rfl rfl hbam d1 Try.underlying3 rfl ?_; simp only [Act.put, List.setIfInBounds_toArray, List.set_cons_zero, List.set_cons_succ]; go_big_quiet_on)
                        | (go_big_quiet_op; first | go_big_quiet_on | go_big_quiet_call (first | with_reducible exact fun _ => rfl))))
                    refine wpQuiet_nil ?_
                    try clear w
                    intro w h
                    go_wp2
                    go_roundw
                    case rel => exact ⟨k + 1, M2, lab2, s, x, by omega, by go_num, rfl, rfl, rfl, h, HB.out.less (LKB.out x), HM.out, HI1.out⟩
                    case measure => simp [intOf]; omega
                · as_aux_lemma =>
                    refine wp_region_class (Has σ M2) (by kernel_rfl) (by kernel_rfl) h.drew ?_
                    clear h
                    repeat (first
                      | go_big_quiet_skip
                      | (go_big_quiet_want; first
                        | (refine quiet_load_has 3 _ rfl rfl hbam d1 Try.underlying3 rfl ?_; simp only [Act.put, List.setIfInBounds_toArray, List.set_cons_zero, List.set_cons_succ]; go_big_quiet_on)
                        | (go_big_quiet_op; first | go_big_quiet_on | go_big_quiet_call (first | with_reducible exact fun _ => rfl))))
                    refine wpQuiet_nil ?_
                    try clear w
                    intro w h
                    go_wp2
                    go_roundw
                    case rel => exact ⟨k + 1, M2, lab2, s, x, by omega, by go_num, rfl, rfl, rfl, h, HB.out.less (LKB.out x), HM.out, HI1.out⟩
                    case measure => simp [intOf]; omega
              · have gg : decide ((0 : Int) < (x.given : Nat)) = false := decide_eq_false (by omega)
                as_aux_lemma =>
                  refine wp_region_class (Has σ M2) (by kernel_rfl) (by kernel_rfl) h.drew ?_
                  clear h
                  repeat (first
                    | go_big_quiet_skip
                    | (go_big_quiet_want; first
                      | (refine quiet_load_has 3 _ rfl rfl hbam d1 Try.underlying3 rfl ?_; simp only [Act.put, List.setIfInBounds_toArray, List.set_cons_zero, List.set_cons_succ]; go_big_quiet_on)
                      | (go_big_quiet_op; first | go_big_quiet_on | go_big_quiet_call (first | with_reducible exact fun _ => rfl))))
                  refine wpQuiet_nil ?_
                  try clear w
                  intro w h
                  go_wp2
                  go_roundw
                  case rel => exact ⟨k + 1, M2, lab2, s, x, by omega, by go_num, rfl, rfl, rfl, h, HB.out.less (LKB.out x), HM.out, HI1.out⟩
                  case measure => simp [intOf]; omega
      · skip
        obtain ⟨t, q, v, hat, hq, hv, hvc⟩ := tp_get hM (t := a.t) (by rw [CC.out]; omega)
        rw [CC.out] at hv hvc
        have RL2 := Lib.hid (fun (w : World) (h : Has σ M2 w) => RL.out M2 w h a.t)
        rw [hv] at RL2
        rw [hat] at d0 RL2
        have hvL : v < L := by have := HN.out.lev; omega
        have hv4 : v < 4 := by have := HN.out.l0; omega
        have TH := Lib.hid (fun (w : World) (h : Has σ M2 w) => mThread_yes h hM hq)
        have g0 : decide ((v : Int) < 0) = false := decide_eq_false (by omega)
        have g1 : decide (0 ≤ (v : Int)) = true := decide_eq_true (by omega)
        have HAT := Lib.hid hat
        have HVV := Lib.hid hv
        have HQ := Lib.hid hq
        obtain ⟨fv, hvv, fbs, hT⟩ := hM.each t q hq
        have hdp := hI.deep t
        have DP := Lib.hid (fun (w : World) (h : Has σ M2 w) => thrDeep_eq h hT)
        rw [hT.flen] at DP
        have CA := Lib.hid (fun (w : World) (h : Has σ M2 w) => thrCall_eq h hT 7 (rv := .slice none 0 0) (us := []) (Rd.nil _ _ _) (by simp) (by rw [hT.flen]; omega))
        obtain ⟨trow, htq, h9, hMs, hBs⟩ := hM.stall HB.out hq a.off
        replace hMs := Lib.hid hMs
        replace hBs := Lib.hid hBs
        clear hat hv hq hT hM hI hlv hdp
        by_cases hk0 : a.kind < 0 ∨ 5 < a.kind
        · clear hMs hBs htq h9 DP
          rcases hk0 with hk0 | hk0
          · have k0 : decide (a.kind < 0) = true := decide_eq_true hk0
            clear hk0
            as_aux_lemma =>
              go_wp2_with (first
                | ((with_reducible show wpList _ _ _ ({ dst := _, op := Op.load 24 _, type := _, pos := _, after := _, guard := _ } :: _) _ _); refine wpList_agg_has h rfl 24 _ rfl rfl hbfm hx hz Try.underlying24 rfl (by kernel_rfl) ?_; try simp only [Act.put, List.setIfInBounds_toArray, List.set_cons_zero, List.set_cons_succ])
                | (with_reducible show wpList _ _ _ ({ dst := _, op := Op.load 3 _, type := _, pos := _, after := _, guard := _ } :: _) _ _; refine wpList_load1_has h rfl 3 _ rfl rfl hbam d0 Try.underlying3 rfl ?_)
                | (with_reducible show wpList _ _ _ ({ dst := _, op := Op.load 3 _, type := _, pos := _, after := _, guard := _ } :: _) _ _; refine wpList_load1_has h rfl 3 _ rfl rfl hbam d1 Try.underlying3 rfl ?_)
                | (go_at_call 23; refine (RL2.out _ h).mono ?_; clear h; rintro _ w ⟨rfl, h⟩)
                | (go_at_call 10; refine (TH.out _ h).mono ?_; clear h; rintro _ w ⟨rfl, h⟩)
                | (go_at_call 11; refine (CA.out _ h).mono ?_; clear h; rintro _ w ⟨rfl, M3, lab3, h, hK3, hT3⟩))
              obtain ⟨hM3, hB3⟩ := HM.out.thrTo HB.out HQ.out hK3 hT3
              replace hM3 := Lib.hid hM3
              replace hB3 := Lib.hid hB3
              clear hK3 hT3
              go_roundw
              case rel => exact ⟨k + 1, M3, lab3, s.called t 7 [], x, by omega, by go_num, rfl, rfl, rfl, h, hB3.out.less (LKB.out x), hM3.out, HI.out.called t 7 []⟩
              case measure => simp [intOf]; omega
          · have k0 : decide (a.kind < 0) = false := decide_eq_false (by omega)
            have k5 : decide (5 < a.kind) = true := decide_eq_true hk0
            clear hk0
            as_aux_lemma =>
              go_wp2_with (first
                | ((with_reducible show wpList _ _ _ ({ dst := _, op := Op.load 24 _, type := _, pos := _, after := _, guard := _ } :: _) _ _); refine wpList_agg_has h rfl 24 _ rfl rfl hbfm hx hz Try.underlying24 rfl (by kernel_rfl) ?_; try simp only [Act.put, List.setIfInBounds_toArray, List.set_cons_zero, List.set_cons_succ])
                | (with_reducible show wpList _ _ _ ({ dst := _, op := Op.load 3 _, type := _, pos := _, after := _, guard := _ } :: _) _ _; refine wpList_load1_has h rfl 3 _ rfl rfl hbam d0 Try.underlying3 rfl ?_)
                | (with_reducible show wpList _ _ _ ({ dst := _, op := Op.load 3 _, type := _, pos := _, after := _, guard := _ } :: _) _ _; refine wpList_load1_has h rfl 3 _ rfl rfl hbam d1 Try.underlying3 rfl ?_)
                | (go_at_call 23; refine (RL2.out _ h).mono ?_; clear h; rintro _ w ⟨rfl, h⟩)
                | (go_at_call 10; refine (TH.out _ h).mono ?_; clear h; rintro _ w ⟨rfl, h⟩)
                | (go_at_call 11; refine (CA.out _ h).mono ?_; clear h; rintro _ w ⟨rfl, M3, lab3, h, hK3, hT3⟩))
              obtain ⟨hM3, hB3⟩ := HM.out.thrTo HB.out HQ.out hK3 hT3
              replace hM3 := Lib.hid hM3
              replace hB3 := Lib.hid hB3
              clear hK3 hT3
              go_roundw
              case rel => exact ⟨k + 1, M3, lab3, s.called t 7 [], x, by omega, by go_num, rfl, rfl, rfl, h, hB3.out.less (LKB.out x), hM3.out, HI.out.called t 7 []⟩
              case measure => simp [intOf]; omega
        · have k0 : decide (a.kind < 0) = false := decide_eq_false (by omega)
          have k5 : decide (5 < a.kind) = false := decide_eq_false (by omega)
          have HKD : Hid (0 ≤ a.kind ∧ a.kind ≤ 5) := Lib.hid ⟨by omega, by omega⟩
          clear hk0 CA
          by_cases hidle : (s.thr t).frames = [] ∨ a.off = true
          · skip
            obtain ⟨s1, E1⟩ : ∃ s1, Hid (s1 = s.stalled t a.off) := ⟨_, rfl⟩
            have HIDLE : Hid ((s.thr t).frames = [] ∨ a.off = true) := Lib.hid hidle
            have gq : decide ((0 : Int) < ((s.thr t).frames.length : Nat)) = true → a.off = true := fun e => hidle.resolve_left fun h => by rw [h] at e; cases e
            have hth : s1.thr t = { s.thr t with st := a.off } := by rw [E1.out]; show (if t = t then _ else _) = _; rw [if_pos rfl]
            clear hidle
            obtain ⟨M3, E3⟩ : ∃ M3, M2.upd q (.cells (trow.setIfInBounds 9 (.bool a.off)) 59) = M3 := ⟨_, rfl⟩
            rw [E3] at hMs hBs
            have hMs1 : Hid (Mach M3 lab2 p s1) := by rw [E1.out]; exact hMs
            have HI1 : Hid (SpInv c (k + 1) s1 x) := Lib.hid (by rw [E1.out]; exact (HI.out.stalled t a.off).mono (Nat.le_succ _))
            have SP := Lib.hid (fun (w : World) (h : Has σ M3 w) => step_idle h hMs1.out (by rw [E1.out]; exact HQ.out) (by have := HI1.out.deep t; have := HK60.out; omega) (.func (.func 25) #[] #[.pointer (some ⟨ba, 0, none⟩)]) (by
              rw [hth]
              rcases HIDLE.out with h | h
              · exact .inl h
              · right; left; rw [h]; rfl))
            clear hMs HI HM HB HVV HAT E1 hth HIDLE HQ
            have HM := hMs1
            have HB := hBs
            clear hMs1 hBs
            have sw : ∀ w : World, Has σ (M2.upd q (.cells (trow.setIfInBounds 9 (.bool a.off)) 59)) w → Has σ M3 w := fun w h => E3 ▸ h
            clear E3
            generalize (s.thr t).frames.length = fl at DP gq
            cases hd0 : decide ((0 : Int) < (fl : Nat))
            · have gp : ¬ 0 < fl := by simpa using hd0
              as_aux_lemma =>
                go_upto_region 22 with (first
                  | ((with_reducible show wpList _ _ _ ({ dst := _, op := Op.load 24 _, type := _, pos := _, after := _, guard := _ } :: _) _ _); refine wpList_agg_has h rfl 24 _ rfl rfl hbfm hx hz Try.underlying24 rfl (by kernel_rfl) ?_; try simp only [Act.put, List.setIfInBounds_toArray, List.set_cons_zero, List.set_cons_succ])
                  | (with_reducible show wpList _ _ _ ({ dst := _, op := Op.load 3 _, type := _, pos := _, after := _, guard := _ } :: _) _ _; refine wpList_load1_has h rfl 3 _ rfl rfl hbam d0 Try.underlying3 rfl ?_)
                  | (with_reducible show wpList _ _ _ ({ dst := _, op := Op.load 3 _, type := _, pos := _, after := _, guard := _ } :: _) _ _; refine wpList_load1_has h rfl 3 _ rfl rfl hbam d1 Try.underlying3 rfl ?_)
                  | (with_reducible show wpList _ _ _ ({ dst := _, op := Op.load 4 _, type := _, pos := _, after := _, guard := _ } :: _) _ _; refine wpList_load1_has h rfl 4 _ rfl rfl hbam d4 Try.underlying4 rfl ?_)
                  | (go_at_call 23; refine (RL2.out _ h).mono ?_; clear h; rintro _ w ⟨rfl, h⟩)
                  | (go_at_call 10; refine (TH.out _ h).mono ?_; clear h; rintro _ w ⟨rfl, h⟩)
                  | (go_at_call 24; refine (DP.out _ h).mono ?_; clear h; rintro _ w ⟨rfl, h⟩)
                  | (with_reducible show wpList _ _ _ ({ dst := _, op := Op.store 4 _ _, type := _, pos := _, after := _, guard := _ } :: _) _ _; refine wpList_store1_has h rfl 4 _ _ rfl rfl rfl htq h9 rfl (by kernel_rfl) ?_; clear h; intro w h))
                replace h := sw _ h
                clear htq h9 sw RL2 TH DP hbam hbfm
                have hbam := HB.out.le _ _ (GA.out x)
                go_upto_region 37 with (first
                  | (with_reducible show wpList _ _ _ ({ dst := _, op := Op.load 3 _, type := _, pos := _, after := _, guard := _ } :: _) _ _; refine wpList_load1_has h rfl 3 _ rfl rfl hbam d0 Try.underlying3 rfl ?_)
                  | (go_at_call 15; refine (SP.out _ h).mono ?_; clear h; rintro _ w ⟨rfl, h⟩))
                clear SP
                have SS := Lib.hid (fun (w : World) (h : Has σ M3 w) => mSteps_eq h HM.out)
                rw [HI1.out.steps] at SS
                have FT := Lib.hid (fun (w : World) (h : Has σ M3 w) => mFault_eq h HM.out)
                rw [HI1.out.bad] at FT
                have GV := Lib.hid (fun (w : World) (h : Has σ M3 w) => mGiven_eq h HM.out (by have := HI1.out.given; have := HI1.out.givenLe; omega))
                rw [HI1.out.given] at GV
                have CK : Hid (∀ j : Nat, j < L → ∀ w, Has σ M3 w → Calls Try.prog 14 #[.pointer (some ⟨p, 0, none⟩), .int .i64 (j : Nat)] w fun r w' => r = .returned (.int .i64 (x.clk j)) ∧ Has σ M3 w') := Lib.hid fun j hj w h => by
                  have e : s1.clock j = x.clk j := by
                    unfold MachS.clock
                    rw [HI1.out.cc, if_pos ⟨by omega, by rw [HN.out.lev]; omega⟩, HI1.out.clk j (by have := HN.out.l0; omega), Int.toNat_natCast]
                  rw [← e]
                  exact mClock_eq h HM.out j
                have hb4m := HB.out.le _ _ (LKB.out x _ _ (G4.out x))
                have hbam := HB.out.le _ _ (GA.out x)
                have hbfm := HB.out.le _ _ (LKB.out x _ _ (LEK.out x _ _ hbfK))
                go_upto_region 39 with (first
                  | (go_at_call 28; refine (SS.out _ h).mono ?_; clear h; rintro _ w ⟨rfl, h⟩)
                  | (go_at_call 19; refine (FT.out _ h).mono ?_; clear h; rintro _ w ⟨rfl, h⟩)
                  | (go_at_call 29; refine (GV.out _ h).mono ?_; clear h; rintro _ w ⟨u, rfl, M9, h9, hle9, hown9⟩; obtain ⟨UA, uc, rfl⟩ := hown9.form; have h := h9.le hle9; clear h9 hle9 hown9))
                go_upto_region 40 with (fail)
                go_loopw [21] (fun i wr => ∃ j : Nat, j ≤ L ∧ i = .int .i64 (j : Nat) ∧ Has σ M3 wr) (fun i _ => L - (intOf i).toNat)
                case atStart => exact ⟨0, Nat.zero_le _, rfl, h⟩
                case round =>
                  clear h w
                  obtain ⟨w, rfl⟩ : ∃ x : World, x = wr := ⟨_, rfl⟩
                  obtain ⟨j, hj, rfl, h⟩ := hrel
                  by_cases hlt2 : j < L
                  · have hL4 := HN.out.l0
                    have hlt3 : (j : Int) < (L : Int) := by omega
                    have j4 : (j : Int) < 4 := by omega
                    have gcl : (ints .i64 4 x.clk)[j]? = some (.int .i64 (x.clk j)) := ints_get (by omega)
                    have CJ := Lib.hid (fun (w : World) (h : Has σ M3 w) => CK.out j hlt2 w h)
                    clear hL4 hj hlt2
                    generalize x.clk j = cj at gcl CJ
                    generalize ints .i64 4 x.clk = r4 at gcl hb4m
                    as_aux_lemma =>
                      go_upto_region 42 with (first
                        | (with_reducible show wpList _ _ _ ({ dst := _, op := Op.load 3 _, type := _, pos := _, after := _, guard := _ } :: _) _ _; refine wpList_load1_has h rfl 3 _ rfl rfl hbfm r0 Try.underlying3 rfl ?_))
                      refine wp_region_class (Has σ M3) (by kernel_rfl) (by kernel_rfl) h.drew ?_
                      clear h
                      repeat (first
                        | go_big_quiet_skip
                        | (go_big_quiet_want; first
                          | (refine quiet_load_has 3 _ rfl rfl hb4m gcl Try.underlying3 rfl ?_; simp only [Act.put, List.setIfInBounds_toArray, List.set_cons_zero, List.set_cons_succ]; go_big_quiet_on)
                          | (go_big_quiet_op; first | go_big_quiet_on | go_big_quiet_call (first | with_reducible exact fun _ => rfl | with_reducible exact CJ.out _))))
                      refine wpQuiet_nil ?_
                      try clear w
                      intro w h
                      go_wp2
                      go_roundw
                      case rel => exact ⟨j + 1, by omega, by go_num, h⟩
                      case measure => simp [intOf]; omega
                  · obtain rfl : j = L := by omega
                    have hgt2 : ¬ ((j : Int) < (j : Int)) := by omega
                    go_upto_region 44 with (first
                      | (with_reducible show wpList _ _ _ ({ dst := _, op := Op.load 3 _, type := _, pos := _, after := _, guard := _ } :: _) _ _; refine wpList_load1_has h rfl 3 _ rfl rfl hbfm r0 Try.underlying3 rfl ?_))
                    clear SS FT GV CK
                    by_cases hgv : 0 < x.given
                    · have gg : decide ((0 : Int) < (x.given : Nat)) = true := decide_eq_true (by omega)
                      cases hk5 : (a.kind == 5)
                      · as_aux_lemma =>
                          refine wp_region_class (Has σ M3) (by kernel_rfl) (by kernel_rfl) h.drew ?_
                          clear h
                          repeat (first
                            | go_big_quiet_skip
                            | (go_big_quiet_want; first
                              | (refine quiet_load_has 3 _ rfl rfl hbam d1 Try.underlying3 rfl ?_; simp only [Act.put, List.setIfInBounds_toArray, List.set_cons_zero, List.set_cons_succ]; go_big_quiet_on)
                              | (go_big_quiet_op; first | go_big_quiet_on | go_big_quiet_call (first | with_reducible exact fun _ => rfl))))
                          refine wpQuiet_nil ?_
                          try clear w
                          intro w h
                          go_wp2
                          go_roundw
                          case rel => exact ⟨k + 1, M3, lab2, s1, x, by omega, by go_num, rfl, rfl, rfl, h, HB.out.less (LKB.out x), HM.out, HI1.out⟩
                          case measure => simp [intOf]; omega
                      · as_aux_lemma =>
                          refine wp_region_class (Has σ M3) (by kernel_rfl) (by kernel_rfl) h.drew ?_
                          clear h
                          repeat (first
                            | go_big_quiet_skip
                            | (go_big_quiet_want; first
                              | (refine quiet_load_has 3 _ rfl rfl hbam d1 Try.underlying3 rfl ?_; simp only [Act.put, List.setIfInBounds_toArray, List.set_cons_zero, List.set_cons_succ]; go_big_quiet_on)
                              | (go_big_quiet_op; first | go_big_quiet_on | go_big_quiet_call (first | with_reducible exact fun _ => rfl))))
                          refine wpQuiet_nil ?_
                          try clear w
                          intro w h
                          go_wp2
                          go_roundw
                          case rel => exact ⟨k + 1, M3, lab2, s1, x, by omega, by go_num, rfl, rfl, rfl, h, HB.out.less (LKB.out x), HM.out, HI1.out⟩
                          case measure => simp [intOf]; omega
                    · have gg : decide ((0 : Int) < (x.given : Nat)) = false := decide_eq_false (by omega)
                      as_aux_lemma =>
                        refine wp_region_class (Has σ M3) (by kernel_rfl) (by kernel_rfl) h.drew ?_
                        clear h
                        repeat (first
                          | go_big_quiet_skip
                          | (go_big_quiet_want; first
                            | (refine quiet_load_has 3 _ rfl rfl hbam d1 Try.underlying3 rfl ?_; simp only [Act.put, List.setIfInBounds_toArray, List.set_cons_zero, List.set_cons_succ]; go_big_quiet_on)
                            | (go_big_quiet_op; first | go_big_quiet_on | go_big_quiet_call (first | with_reducible exact fun _ => rfl))))
                        refine wpQuiet_nil ?_
                        try clear w
                        intro w h
                        go_wp2
                        go_roundw
                        case rel => exact ⟨k + 1, M3, lab2, s1, x, by omega, by go_num, rfl, rfl, rfl, h, HB.out.less (LKB.out x), HM.out, HI1.out⟩
                        case measure => simp [intOf]; omega
            · have gp : 0 < fl := by simpa using hd0
              rw [gq hd0] at d4 sw
              as_aux_lemma =>
                go_upto_region 22 with (first
                  | ((with_reducible show wpList _ _ _ ({ dst := _, op := Op.load 24 _, type := _, pos := _, after := _, guard := _ } :: _) _ _); refine wpList_agg_has h rfl 24 _ rfl rfl hbfm hx hz Try.underlying24 rfl (by kernel_rfl) ?_; try simp only [Act.put, List.setIfInBounds_toArray, List.set_cons_zero, List.set_cons_succ])
                  | (with_reducible show wpList _ _ _ ({ dst := _, op := Op.load 3 _, type := _, pos := _, after := _, guard := _ } :: _) _ _; refine wpList_load1_has h rfl 3 _ rfl rfl hbam d0 Try.underlying3 rfl ?_)
                  | (with_reducible show wpList _ _ _ ({ dst := _, op := Op.load 3 _, type := _, pos := _, after := _, guard := _ } :: _) _ _; refine wpList_load1_has h rfl 3 _ rfl rfl hbam d1 Try.underlying3 rfl ?_)
                  | (with_reducible show wpList _ _ _ ({ dst := _, op := Op.load 4 _, type := _, pos := _, after := _, guard := _ } :: _) _ _; refine wpList_load1_has h rfl 4 _ rfl rfl hbam d4 Try.underlying4 rfl ?_)
                  | (go_at_call 23; refine (RL2.out _ h).mono ?_; clear h; rintro _ w ⟨rfl, h⟩)
                  | (go_at_call 10; refine (TH.out _ h).mono ?_; clear h; rintro _ w ⟨rfl, h⟩)
                  | (go_at_call 24; refine (DP.out _ h).mono ?_; clear h; rintro _ w ⟨rfl, h⟩)
                  | (with_reducible show wpList _ _ _ ({ dst := _, op := Op.store 4 _ _, type := _, pos := _, after := _, guard := _ } :: _) _ _; refine wpList_store1_has h rfl 4 _ _ rfl rfl rfl htq h9 rfl (by kernel_rfl) ?_; clear h; intro w h))
                replace h := sw _ h
                clear htq h9 sw RL2 TH DP hbam hbfm
                have hbam := HB.out.le _ _ (GA.out x)
                go_upto_region 37 with (first
                  | (with_reducible show wpList _ _ _ ({ dst := _, op := Op.load 3 _, type := _, pos := _, after := _, guard := _ } :: _) _ _; refine wpList_load1_has h rfl 3 _ rfl rfl hbam d0 Try.underlying3 rfl ?_)
                  | (go_at_call 15; refine (SP.out _ h).mono ?_; clear h; rintro _ w ⟨rfl, h⟩))
                clear SP
                have SS := Lib.hid (fun (w : World) (h : Has σ M3 w) => mSteps_eq h HM.out)
                rw [HI1.out.steps] at SS
                have FT := Lib.hid (fun (w : World) (h : Has σ M3 w) => mFault_eq h HM.out)
                rw [HI1.out.bad] at FT
                have GV := Lib.hid (fun (w : World) (h : Has σ M3 w) => mGiven_eq h HM.out (by have := HI1.out.given; have := HI1.out.givenLe; omega))
                rw [HI1.out.given] at GV
                have CK : Hid (∀ j : Nat, j < L → ∀ w, Has σ M3 w → Calls Try.prog 14 #[.pointer (some ⟨p, 0, none⟩), .int .i64 (j : Nat)] w fun r w' => r = .returned (.int .i64 (x.clk j)) ∧ Has σ M3 w') := Lib.hid fun j hj w h => by
                  have e : s1.clock j = x.clk j := by
                    unfold MachS.clock
                    rw [HI1.out.cc, if_pos ⟨by omega, by rw [HN.out.lev]; omega⟩, HI1.out.clk j (by have := HN.out.l0; omega), Int.toNat_natCast]
                  rw [← e]
                  exact mClock_eq h HM.out j
                have hb4m := HB.out.le _ _ (LKB.out x _ _ (G4.out x))
                have hbam := HB.out.le _ _ (GA.out x)
                have hbfm := HB.out.le _ _ (LKB.out x _ _ (LEK.out x _ _ hbfK))
                go_upto_region 39 with (first
                  | (go_at_call 28; refine (SS.out _ h).mono ?_; clear h; rintro _ w ⟨rfl, h⟩)
                  | (go_at_call 19; refine (FT.out _ h).mono ?_; clear h; rintro _ w ⟨rfl, h⟩)
                  | (go_at_call 29; refine (GV.out _ h).mono ?_; clear h; rintro _ w ⟨u, rfl, M9, h9, hle9, hown9⟩; obtain ⟨UA, uc, rfl⟩ := hown9.form; have h := h9.le hle9; clear h9 hle9 hown9))
                go_upto_region 40 with (fail)
                go_loopw [21] (fun i wr => ∃ j : Nat, j ≤ L ∧ i = .int .i64 (j : Nat) ∧ Has σ M3 wr) (fun i _ => L - (intOf i).toNat)
                case atStart => exact ⟨0, Nat.zero_le _, rfl, h⟩
                case round =>
                  clear h w
                  obtain ⟨w, rfl⟩ : ∃ x : World, x = wr := ⟨_, rfl⟩
                  obtain ⟨j, hj, rfl, h⟩ := hrel
                  by_cases hlt2 : j < L
                  · have hL4 := HN.out.l0
                    have hlt3 : (j : Int) < (L : Int) := by omega
                    have j4 : (j : Int) < 4 := by omega
                    have gcl : (ints .i64 4 x.clk)[j]? = some (.int .i64 (x.clk j)) := ints_get (by omega)
                    have CJ := Lib.hid (fun (w : World) (h : Has σ M3 w) => CK.out j hlt2 w h)
                    clear hL4 hj hlt2
                    generalize x.clk j = cj at gcl CJ
                    generalize ints .i64 4 x.clk = r4 at gcl hb4m
                    as_aux_lemma =>
                      go_upto_region 42 with (first
                        | (with_reducible show wpList _ _ _ ({ dst := _, op := Op.load 3 _, type := _, pos := _, after := _, guard := _ } :: _) _ _; refine wpList_load1_has h rfl 3 _ rfl rfl hbfm r0 Try.underlying3 rfl ?_))
                      refine wp_region_class (Has σ M3) (by kernel_rfl) (by kernel_rfl) h.drew ?_
                      clear h
                      repeat (first
                        | go_big_quiet_skip
                        | (go_big_quiet_want; first
                          | (refine quiet_load_has 3 _ rfl rfl hb4m gcl Try.underlying3 rfl ?_; simp only [Act.put, List.setIfInBounds_toArray, List.set_cons_zero, List.set_cons_succ]; go_big_quiet_on)
                          | (go_big_quiet_op; first | go_big_quiet_on | go_big_quiet_call (first | with_reducible exact fun _ => rfl | with_reducible exact CJ.out _))))
                      refine wpQuiet_nil ?_
                      try clear w
                      intro w h
                      go_wp2
                      go_roundw
                      case rel => exact ⟨j + 1, by omega, by go_num, h⟩
                      case measure => simp [intOf]; omega
                  · obtain rfl : j = L := by omega
                    have hgt2 : ¬ ((j : Int) < (j : Int)) := by omega
                    go_upto_region 44 with (first
                      | (with_reducible show wpList _ _ _ ({ dst := _, op := Op.load 3 _, type := _, pos := _, after := _, guard := _ } :: _) _ _; refine wpList_load1_has h rfl 3 _ rfl rfl hbfm r0 Try.underlying3 rfl ?_))
                    clear SS FT GV CK
                    by_cases hgv : 0 < x.given
                    · have gg : decide ((0 : Int) < (x.given : Nat)) = true := decide_eq_true (by omega)
                      cases hk5 : (a.kind == 5)
                      · as_aux_lemma =>
                          refine wp_region_class (Has σ M3) (by kernel_rfl) (by kernel_rfl) h.drew ?_
                          clear h
                          repeat (first
                            | go_big_quiet_skip
                            | (go_big_quiet_want; first
                              | (refine quiet_load_has 3 _ rfl rfl hbam d1 Try.underlying3 rfl ?_; simp only [Act.put, List.setIfInBounds_toArray, List.set_cons_zero, List.set_cons_succ]; go_big_quiet_on)
                              | (go_big_quiet_op; first | go_big_quiet_on | go_big_quiet_call (first | with_reducible exact fun _ => rfl))))
                          refine wpQuiet_nil ?_
                          try clear w
                          intro w h
                          go_wp2
                          go_roundw
                          case rel => exact ⟨k + 1, M3, lab2, s1, x, by omega, by go_num, rfl, rfl, rfl, h, HB.out.less (LKB.out x), HM.out, HI1.out⟩
                          case measure => simp [intOf]; omega
                      · as_aux_lemma =>
                          refine wp_region_class (Has σ M3) (by kernel_rfl) (by kernel_rfl) h.drew ?_
                          clear h
                          repeat (first
                            | go_big_quiet_skip
                            | (go_big_quiet_want; first
                              | (refine quiet_load_has 3 _ rfl rfl hbam d1 Try.underlying3 rfl ?_; simp only [Act.put, List.setIfInBounds_toArray, List.set_cons_zero, List.set_cons_succ]; go_big_quiet_on)
                              | (go_big_quiet_op; first | go_big_quiet_on | go_big_quiet_call (first | with_reducible exact fun _ => rfl))))
                          refine wpQuiet_nil ?_
                          try clear w
                          intro w h
                          go_wp2
                          go_roundw
                          case rel => exact ⟨k + 1, M3, lab2, s1, x, by omega, by go_num, rfl, rfl, rfl, h, HB.out.less (LKB.out x), HM.out, HI1.out⟩
                          case measure => simp [intOf]; omega
                    · have gg : decide ((0 : Int) < (x.given : Nat)) = false := decide_eq_false (by omega)
                      as_aux_lemma =>
                        refine wp_region_class (Has σ M3) (by kernel_rfl) (by kernel_rfl) h.drew ?_
                        clear h
                        repeat (first
                          | go_big_quiet_skip
                          | (go_big_quiet_want; first
                            | (refine quiet_load_has 3 _ rfl rfl hbam d1 Try.underlying3 rfl ?_; simp only [Act.put, List.setIfInBounds_toArray, List.set_cons_zero, List.set_cons_succ]; go_big_quiet_on)
                            | (go_big_quiet_op; first | go_big_quiet_on | go_big_quiet_call (first | with_reducible exact fun _ => rfl))))
                        refine wpQuiet_nil ?_
                        try clear w
                        intro w h
                        go_wp2
                        go_roundw
                        case rel => exact ⟨k + 1, M3, lab2, s1, x, by omega, by go_num, rfl, rfl, rfl, h, HB.out.less (LKB.out x), HM.out, HI1.out⟩
                        case measure => simp [intOf]; omega
          · skip
            have hfr : (s.thr t).frames ≠ [] := fun e => hidle (.inl e)
            have hoff : a.off = false := by cases e : a.off; rfl; exact absurd (.inr e) hidle
            have gd : decide ((0 : Int) < ((s.thr t).frames.length : Nat)) = true := decide_eq_true (by have := List.length_pos_iff.2 hfr; omega)
            have gp : 0 < (s.thr t).frames.length := List.length_pos_iff.2 hfr
            have HFR := Lib.hid hfr
            rw [hoff] at d4 hMs hBs
            clear hidle hfr hoff
            go_upto_region 22 with (first
              | ((with_reducible show wpList _ _ _ ({ dst := _, op := Op.load 24 _, type := _, pos := _, after := _, guard := _ } :: _) _ _); refine wpList_agg_has h rfl 24 _ rfl rfl hbfm hx hz Try.underlying24 rfl (by kernel_rfl) ?_; try simp only [Act.put, List.setIfInBounds_toArray, List.set_cons_zero, List.set_cons_succ])
              | (with_reducible show wpList _ _ _ ({ dst := _, op := Op.load 3 _, type := _, pos := _, after := _, guard := _ } :: _) _ _; refine wpList_load1_has h rfl 3 _ rfl rfl hbam d0 Try.underlying3 rfl ?_)
              | (with_reducible show wpList _ _ _ ({ dst := _, op := Op.load 3 _, type := _, pos := _, after := _, guard := _ } :: _) _ _; refine wpList_load1_has h rfl 3 _ rfl rfl hbam d1 Try.underlying3 rfl ?_)
              | (with_reducible show wpList _ _ _ ({ dst := _, op := Op.load 4 _, type := _, pos := _, after := _, guard := _ } :: _) _ _; refine wpList_load1_has h rfl 4 _ rfl rfl hbam d4 Try.underlying4 rfl ?_)
              | (go_at_call 23; refine (RL2.out _ h).mono ?_; clear h; rintro _ w ⟨rfl, h⟩)
              | (go_at_call 10; refine (TH.out _ h).mono ?_; clear h; rintro _ w ⟨rfl, h⟩)
              | (go_at_call 24; refine (DP.out _ h).mono ?_; clear h; rintro _ w ⟨rfl, h⟩)
              | (with_reducible show wpList _ _ _ ({ dst := _, op := Op.store 4 _ _, type := _, pos := _, after := _, guard := _ } :: _) _ _; refine wpList_store1_has h rfl 4 _ _ rfl rfl rfl htq h9 rfl (by kernel_rfl) ?_; clear h; intro w h))
            have h0 : Has σ (M2.upd q (.cells (trow.setIfInBounds 9 (.bool false)) 59)) w := h
            clear h
            have h := h0
            clear h0 RL2 TH DP htq h9 hbam hbfm gd gp k0 k5 HB HM
            generalize M2.upd q _ = M3 at h hMs hBs
            obtain ⟨s1, E1⟩ : ∃ s1, Hid (s1 = s.stalled t false) := ⟨_, rfl⟩
            have hM1 : Mach M3 lab2 p s1 := by rw [E1.out]; exact hMs.out
            have hI1 : SpInv c k s1 x := by rw [E1.out]; exact HI.out.stalled t false
            have hth : s1.thr t = { s.thr t with st := false } := by rw [E1.out]; show (if t = t then _ else _) = _; rw [if_pos rfl]
            have STP := Lib.hid (spStep_eq h hM1 hBs.out hI1 HC.out HK60.out (GA.out x) HKD.out (by rw [E1.out]; exact HQ.out) (by rw [hth]; exact HFR.out) (by rw [hth]) (by rw [← HAT.out]; exact HVV.out) hvc)
            have hbam := hBs.out.le _ _ (GA.out x)
            have hxc : ∀ j, j < 4 → x.clk j = (s1.clk j : Nat) ∧ s1.clk j ≤ k := fun j hj => ⟨hI1.clk j hj, hI1.clkLe j⟩
            have HXC := Lib.hid hxc
            have hsl := hI1.stepsLe
            have hgl := hI1.givenLe
            clear hM1 hI1 hth HFR hMs hBs HI HVV HAT HQ E1 hxc
            go_upto_region 23 with (first
              | (with_reducible show wpList _ _ _ ({ dst := _, op := Op.load 3 _, type := _, pos := _, after := _, guard := _ } :: _) _ _; refine wpList_load1_has h rfl 3 _ rfl rfl hbam d0 Try.underlying3 rfl ?_)
              | (go_at_call 15; refine (STP.out).mono ?_; clear h; rintro _ w ⟨M4, lab4, s4, emp, rfl, h, hB4, hM4, hI4, hq4, hemp, hbg⟩))
            have HB5 := Lib.hid hB4
            have HM5 := Lib.hid hM4
            have HI5 := Lib.hid hI4
            have HQ4 := Lib.hid hq4
            have HEMP := Lib.hid hemp
            have HBG := Lib.hid hbg
            clear STP hB4 hM4 hI4 hq4 hemp hbg
            go_upto_if 111 with (fail)
            go_cut [8, 9, 11] from 112 to 198 (fun st gv ft wx => st = .int .i64 ((x.next c v a).steps : Nat) ∧ gv = .int .i64 ((x.next c v a).given : Nat) ∧ ft = .bool (x.next c v a).fault ∧ ∃ M', Has σ M' wx ∧ Base (KB (x.next c v a)) M' lab4 ∧ Mach M' lab4 p s4)
            case first =>
              -- a step that counts: the steps, the clocks, 'in'
              clear HBG HEMP HQ4 HI5
              have hk60 := HK60.out
              go_upto_region 26 with (fail)
              go_loopw [19] (fun i wr => ∃ j : Nat, v ≤ j ∧ j ≤ 4 ∧ i = .int .i64 (j : Nat) ∧ ∃ M6, Has σ M6 wr ∧ Base (KB { x with clk := fun i => if v ≤ i ∧ i < j then x.clk i + 1 else x.clk i }) M6 lab4 ∧ Mach M6 lab4 p s4) (fun i _ => 4 - (intOf i).toNat)
              case atStart =>
                have e0 : (fun i => if v ≤ i ∧ i < v then x.clk i + 1 else x.clk i) = x.clk := funext fun i => if_neg (by omega)
                exact ⟨v, Nat.le_refl _, by omega, rfl, M4, h, by rw [e0]; exact HB5.out, HM5.out⟩
              case round =>
                clear h w HB5 HM5
                obtain ⟨w, rfl⟩ : ∃ x : World, x = wr := ⟨_, rfl⟩
                obtain ⟨j, hj0, hj, rfl, M6, h, hB6, hM6⟩ := hrel
                by_cases hlt2 : j < 4
                · have j4 : (j : Int) < 4 := by omega
                  obtain ⟨cn, hcn, hcl⟩ : ∃ cn : Nat, x.clk j = (cn : Int) ∧ cn ≤ 60 := ⟨s1.clk j, (HXC.out j hlt2).1, by have := (HXC.out j hlt2).2; omega⟩
                  have gcl : (ints .i64 4 (fun i => if v ≤ i ∧ i < j then x.clk i + 1 else x.clk i))[j]? = some (.int .i64 (cn : Nat)) := by rw [ints_get (by omega), if_neg (by omega), hcn]
                  have hKb4 := LKB.out _ _ _ (G4.out { x with clk := fun i => if v ≤ i ∧ i < j then x.clk i + 1 else x.clk i })
                  have hb4m := hB6.le _ _ hKb4
                  obtain ⟨hM7, hB7⟩ := hM6.put hB6 hKb4 (.cells (ints .i64 4 ({ x with clk := fun i => if v ≤ i ∧ i < j + 1 then x.clk i + 1 else x.clk i } : SpS).clk) 44)
                  rw [Q4.out { x with clk := fun i => if v ≤ i ∧ i < j then x.clk i + 1 else x.clk i } { x with clk := fun i => if v ≤ i ∧ i < j + 1 then x.clk i + 1 else x.clk i } rfl] at hB7
                  have hset : Hid ((ints .i64 4 (fun i => if v ≤ i ∧ i < j then x.clk i + 1 else x.clk i)).setIfInBounds j (.int .i64 ((cn : Int) + 1)) = ints .i64 4 (fun i => if v ≤ i ∧ i < j + 1 then x.clk i + 1 else x.clk i)) := Lib.hid (by
                    rw [ints_set]
                    refine ints_congr fun i hi => ?_
                    unfold upd
                    by_cases e : i = j
                    · subst e; rw [if_pos rfl, if_pos (by omega), hcn]
                    · rw [if_neg e]
                      show (if v ≤ i ∧ i < j then x.clk i + 1 else x.clk i) = _
                      by_cases e2 : v ≤ i ∧ i < j
                      · rw [if_pos e2, if_pos (by omega)]
                      · rw [if_neg e2, if_neg (by omega)])
                  have hsz4 : j < (ints .i64 4 (fun i => if v ≤ i ∧ i < j then x.clk i + 1 else x.clk i)).size := by rw [ints_size]; exact hlt2
                  replace hM7 := Lib.hid hM7
                  replace hB7 := Lib.hid hB7
                  clear hM6 hB6 hKb4 hcn
                  change M6 b4 = some (.cells (ints .i64 4 (fun i => if v ≤ i ∧ i < j then x.clk i + 1 else x.clk i)) 44) at hb4m
                  generalize ints .i64 4 (fun i => if v ≤ i ∧ i < j then x.clk i + 1 else x.clk i) = r4 at gcl hb4m hset hsz4
                  as_aux_lemma =>
                    go_wp2_with (first
                      | (with_reducible show wpList _ _ _ ({ dst := _, op := Op.load 3 _, type := _, pos := _, after := _, guard := _ } :: _) _ _; refine wpList_load1_has h rfl 3 _ rfl rfl hb4m gcl Try.underlying3 rfl ?_)
                      | (with_reducible show wpList _ _ _ ({ dst := _, op := Op.store 3 _ _, type := _, pos := _, after := _, guard := _ } :: _) _ _; refine wpList_store1_has h rfl 3 _ _ rfl rfl rfl hb4m hsz4 rfl (by kernel_rfl) ?_; clear h; intro w h))
                    have h0 : Has σ (M6.upd b4 (.cells (r4.setIfInBounds j (.int .i64 ((cn : Int) + 1))) 44)) w := h
                    clear h
                    rw [hset.out] at h0
                    go_roundw
                    case rel => exact ⟨j + 1, by omega, by omega, by go_num, _, h0, hB7.out, hM7.out⟩
                    case measure => simp [intOf]; omega
                · have j4 : ¬ (j : Int) < 4 := by omega
                  obtain ⟨y1, Y1⟩ : ∃ y1 : SpS, Hid (y1 = { x with clk := (x.next c v a).clk }) := ⟨_, rfl⟩
                  have hB7 : Base (KB y1) M6 lab4 := by
                    have e2 : ints .i64 4 ({ x with clk := fun i => if v ≤ i ∧ i < j then x.clk i + 1 else x.clk i } : SpS).clk = ints .i64 4 y1.clk := ints_congr fun i hi => by
                      rw [Y1.out]
                      show (if v ≤ i ∧ i < j then x.clk i + 1 else x.clk i) = (if v ≤ i then x.clk i + 1 else x.clk i)
                      by_cases e : v ≤ i
                      · rw [if_pos e, if_pos (by omega)]
                      · rw [if_neg e, if_neg (by omega)]
                    have e3 : KB { x with clk := fun i => if v ≤ i ∧ i < j then x.clk i + 1 else x.clk i } = KB y1 := (Q4.out x { x with clk := fun i => if v ≤ i ∧ i < j then x.clk i + 1 else x.clk i } rfl).symm.trans ((congrArg (fun r => (KB x).upd b4 (.cells r 44)) e2).trans (Q4.out x y1 (by rw [Y1.out])))
                    rw [← e3]; exact hB6
                  have hyc : y1.clk = (x.next c v a).clk := by rw [Y1.out]
                  have hyh : y1.held = x.held := by rw [Y1.out]
                  have EK : Hid ((x.next c v a).held = x.held → KB y1 = KB (x.next c v a)) := Lib.hid fun e => by
                    rw [← Q4.out x y1 hyh, ← Q4.out x (x.next c v a) e, hyc]
                  have EH : Hid ((KB y1).upd bh (.cells (bools L (x.next c v a).held) 4) = KB (x.next c v a)) := Lib.hid (QH.out y1 (x.next c v a) hyc.symm)
                  have XS : Hid ((x.next c v a).steps = x.steps + 1) := Lib.hid rfl
                  have HB6 := Lib.hid hB7
                  have HM6 := Lib.hid hM6
                  have hNN2 : ((N : Nat) : Int) = c 0 * firsts c 10 := by rw [HN.out.lev, HN.out.sz, ← hNN.out]; exact_mod_cast rfl
                  obtain ⟨inB, hin⟩ : ∃ b, decide (0 ≤ a.at_ ∧ a.at_ < c 0 * firsts c 10) = b := ⟨_, rfl⟩
                  have HINC := Lib.hid hin
                  have HIN2 : Hid (decide (0 ≤ a.at_ ∧ a.at_ < (N : Nat)) = inB) := Lib.hid (by rw [hNN2]; exact hin)
                  have HAL : Hid (inB = true → ∃ (i m bl ol : Nat) (csl : Array Value), ∃ tl fl, a.at_ = ((i : Nat) : Int) ∧ ((i : Nat) : Int) < (N : Nat) ∧ VA = some ⟨bl, ol, none⟩ ∧ M6 bl = some (.cells csl tl fl) ∧ csl[ol + i * 4 + 0]? = some (.int .i64 (m : Nat)) ∧ a.at_ / firsts c 10 = (m : Nat)) := Lib.hid fun e => by
                    rw [e, decide_eq_true_eq] at hin
                    obtain ⟨i, hi⟩ : ∃ i : Nat, a.at_ = i := ⟨a.at_.toNat, by omega⟩
                    have hiN : i < N := by rw [hi] at hin; omega
                    obtain ⟨m, pl, hg, h1, h2⟩ := word_level HC.out (a := i) (by omega)
                    rw [hPP.out] at hg
                    obtain ⟨bl, ol, cl, csl, tl, fl, e1, hMl, hxl⟩ := hra.out.elem encP_len hiN hg
                    cases e1
                    refine ⟨i, m, bl, ol, csl, tl, fl, hi, by omega, rfl, hB7.le _ _ (LKB.out _ _ _ (LEK.out y1 _ _ hMl)), ?_, by rw [hi]; exact h2⟩
                    rw [← h1]
                    exact hxl 0 _ rfl
                  have HKD6 : Hid (a.kind = 0 ∨ a.kind = 1 ∨ a.kind = 2 ∨ a.kind = 3 ∨ a.kind = 4 ∨ a.kind = 5) := Lib.hid (by have := HKD.out; omega)
                  have hbam := hB7.le _ _ (GA.out y1)
                  clear hB6 hM6 hB7 hyc hyh hNN2 hin hj hlt2
                  go_upto_region 29 with (fail)
                  go_cut [20] from 124 to 133 (fun u wx => u = .bool inB ∧ Has σ M6 wx)
                  case first =>
                    clear EK EH XS HB6 HM6 HINC HAL HKD6
                    rcases Int.lt_or_le a.at_ 0 with h1 | h1
                    · have g5 : decide (0 ≤ a.at_) = false := decide_eq_false (by omega)
                      have g6 : inB = false := by rw [← HIN2.out]; exact decide_eq_false (by omega)
                      clear h1 HIN2
                      go_wp2_with (first
                        | (with_reducible show wpList _ _ _ ({ dst := _, op := Op.load 3 _, type := _, pos := _, after := _, guard := _ } :: _) _ _; refine wpList_load1_has h rfl 3 _ rfl rfl hbam d2 Try.underlying3 rfl ?_))
                      go_meet
                      case rel => exact ⟨by rw [g6], h⟩
                    · have g5 : decide (0 ≤ a.at_) = true := decide_eq_true (by omega)
                      have g6 : inB = decide (a.at_ < (N : Nat)) := by rw [← HIN2.out]; simp [h1]
                      clear h1 HIN2
                      go_wp2_with (first
                        | (with_reducible show wpList _ _ _ ({ dst := _, op := Op.load 3 _, type := _, pos := _, after := _, guard := _ } :: _) _ _; refine wpList_load1_has h rfl 3 _ rfl rfl hbam d2 Try.underlying3 rfl ?_))
                      go_meet
                      case rel => exact ⟨by rw [g6], h⟩
                  case rest =>
                    clear h w HIN2
                    obtain ⟨rfl, h⟩ := hcut
                    obtain ⟨w, rfl⟩ : ∃ q : World, q = wc := ⟨_, rfl⟩
                    -- behind 'in': by the kinds
                    have hbam := HB6.out.le _ _ (GA.out y1)
                    have hvL2 : (v : Int) < (L : Nat) := by omega
                    have hgl2 : x.given ≤ 60 := by omega
                    rcases HKD6.out with e | e | e | e | e | e
                    · rw [e] at d1
                      have XF := Lib.hid (next_idle (x := x) (c := c) (v := v) (.inl e))
                      clear e HKD6
                      as_aux_lemma =>
                        go_wp2_with (first
                          | (with_reducible show wpList _ _ _ ({ dst := _, op := Op.load 3 _, type := _, pos := _, after := _, guard := _ } :: _) _ _; refine wpList_load1_has h rfl 3 _ rfl rfl hbam d1 Try.underlying3 rfl ?_)
                          | (with_reducible show wpList _ _ _ ({ dst := _, op := Op.load 3 _, type := _, pos := _, after := _, guard := _ } :: _) _ _; refine wpList_load1_has h rfl 3 _ rfl rfl hbam d2 Try.underlying3 rfl ?_))
                        go_meet
                        case rel => exact ⟨by rw [XS.out]; go_num, by rw [XF.out.2.1], by rw [XF.out.1], M6, h, by rw [← EK.out XF.out.2.2]; exact HB6.out, HM6.out⟩
                    · rw [e] at d1
                      have he := Lib.hid e
                      clear e HKD6
                      cases inB
                      · have XF := Lib.hid (next_one (x := x) (v := v) he.out HINC.out rfl)
                        rw [Bool.not_false, Bool.true_or, Bool.or_true] at XF
                        as_aux_lemma =>
                          go_wp2_with (first
                            | (with_reducible show wpList _ _ _ ({ dst := _, op := Op.load 3 _, type := _, pos := _, after := _, guard := _ } :: _) _ _; refine wpList_load1_has h rfl 3 _ rfl rfl hbam d1 Try.underlying3 rfl ?_)
                            | (with_reducible show wpList _ _ _ ({ dst := _, op := Op.load 3 _, type := _, pos := _, after := _, guard := _ } :: _) _ _; refine wpList_load1_has h rfl 3 _ rfl rfl hbam d2 Try.underlying3 rfl ?_))
                          go_meet
                          case rel => exact ⟨by rw [XS.out]; go_num, by rw [XF.out.2.1], by rw [XF.out.1], M6, h, by rw [← EK.out XF.out.2.2]; exact HB6.out, HM6.out⟩
                      · obtain ⟨i, m, bl, ol, csl, tl, fl, hi, hiN, rfl, hal, ea, hm⟩ := HAL.out rfl
                        rw [hi] at d2
                        by_cases hmv : v < m
                        · have XF := Lib.hid (next_one (x := x) (v := v) he.out HINC.out (decide_eq_true (by rw [hm]; omega)))
                          rw [Bool.or_true, Bool.or_true] at XF
                          have hmv2 : (v : Int) < (m : Nat) := by omega
                          clear hi hm he
                          as_aux_lemma =>
                            go_wp2_with (first
                              | (with_reducible show wpList _ _ _ ({ dst := _, op := Op.load 3 _, type := _, pos := _, after := _, guard := _ } :: _) _ _; refine wpList_load1_has h rfl 3 _ rfl rfl hbam d1 Try.underlying3 rfl ?_)
                              | (with_reducible show wpList _ _ _ ({ dst := _, op := Op.load 3 _, type := _, pos := _, after := _, guard := _ } :: _) _ _; refine wpList_load1_has h rfl 3 _ rfl rfl hbam d2 Try.underlying3 rfl ?_)
                              | (with_reducible show wpList _ _ _ ({ dst := _, op := Op.load 3 _, type := _, pos := _, after := _, guard := _ } :: _) _ _; refine wpList_load1_has h rfl 3 _ rfl rfl hal ea Try.underlying3 rfl ?_))
                            go_meet
                            case rel => exact ⟨by rw [XS.out]; go_num, by rw [XF.out.2.1], by rw [XF.out.1], M6, h, by rw [← EK.out XF.out.2.2]; exact HB6.out, HM6.out⟩
                        · have XF := Lib.hid (next_one (x := x) (v := v) he.out HINC.out (decide_eq_false (by rw [hm]; omega)))
                          rw [Bool.or_false, Bool.not_true, Bool.or_false] at XF
                          have hmv2 : ¬ (v : Int) < (m : Nat) := by omega
                          clear hi hm he
                          as_aux_lemma =>
                            go_wp2_with (first
                              | (with_reducible show wpList _ _ _ ({ dst := _, op := Op.load 3 _, type := _, pos := _, after := _, guard := _ } :: _) _ _; refine wpList_load1_has h rfl 3 _ rfl rfl hbam d1 Try.underlying3 rfl ?_)
                              | (with_reducible show wpList _ _ _ ({ dst := _, op := Op.load 3 _, type := _, pos := _, after := _, guard := _ } :: _) _ _; refine wpList_load1_has h rfl 3 _ rfl rfl hbam d2 Try.underlying3 rfl ?_)
                              | (with_reducible show wpList _ _ _ ({ dst := _, op := Op.load 3 _, type := _, pos := _, after := _, guard := _ } :: _) _ _; refine wpList_load1_has h rfl 3 _ rfl rfl hal ea Try.underlying3 rfl ?_))
                            go_meet
                            case rel => exact ⟨by rw [XS.out]; go_num, by rw [XF.out.2.1], by rw [XF.out.1], M6, h, by rw [← EK.out XF.out.2.2]; exact HB6.out, HM6.out⟩
                    · rw [e] at d1
                      have he := Lib.hid e
                      clear e HKD6
                      cases inB
                      · have XF := Lib.hid (next_two (x := x) (v := v) he.out HINC.out rfl rfl)
                        rw [Bool.not_false, Bool.true_or, Bool.true_or, Bool.or_true] at XF
                        as_aux_lemma =>
                          go_wp2_with (first
                            | (with_reducible show wpList _ _ _ ({ dst := _, op := Op.load 3 _, type := _, pos := _, after := _, guard := _ } :: _) _ _; refine wpList_load1_has h rfl 3 _ rfl rfl hbam d1 Try.underlying3 rfl ?_)
                            | (with_reducible show wpList _ _ _ ({ dst := _, op := Op.load 3 _, type := _, pos := _, after := _, guard := _ } :: _) _ _; refine wpList_load1_has h rfl 3 _ rfl rfl hbam d2 Try.underlying3 rfl ?_))
                          go_meet
                          case rel => exact ⟨by rw [XS.out]; go_num, by rw [XF.out.2.1], by rw [XF.out.1], M6, h, by rw [← EK.out XF.out.2.2]; exact HB6.out, HM6.out⟩
                      · obtain ⟨i, m, bl, ol, csl, tl, fl, hi, hiN, rfl, hal, ea, hm⟩ := HAL.out rfl
                        rw [hi] at d2
                        by_cases hmv : v < m
                        · have XF := Lib.hid (next_two (x := x) (v := v) he.out HINC.out (decide_eq_true (by rw [hm]; omega)) rfl)
                          rw [Bool.or_true, Bool.true_or, Bool.or_true] at XF
                          have hmv2 : (v : Int) < (m : Nat) := by omega
                          clear hi hm he
                          as_aux_lemma =>
                            go_wp2_with (first
                              | (with_reducible show wpList _ _ _ ({ dst := _, op := Op.load 3 _, type := _, pos := _, after := _, guard := _ } :: _) _ _; refine wpList_load1_has h rfl 3 _ rfl rfl hbam d1 Try.underlying3 rfl ?_)
                              | (with_reducible show wpList _ _ _ ({ dst := _, op := Op.load 3 _, type := _, pos := _, after := _, guard := _ } :: _) _ _; refine wpList_load1_has h rfl 3 _ rfl rfl hbam d2 Try.underlying3 rfl ?_)
                              | (with_reducible show wpList _ _ _ ({ dst := _, op := Op.load 3 _, type := _, pos := _, after := _, guard := _ } :: _) _ _; refine wpList_load1_has h rfl 3 _ rfl rfl hal ea Try.underlying3 rfl ?_))
                            go_meet
                            case rel => exact ⟨by rw [XS.out]; go_num, by rw [XF.out.2.1], by rw [XF.out.1], M6, h, by rw [← EK.out XF.out.2.2]; exact HB6.out, HM6.out⟩
                        · have hmv2 : ¬ (v : Int) < (m : Nat) := by omega
                          by_cases hmw : m = v
                          · subst hmw
                            have XF := Lib.hid (next_two (x := x) (v := m) (f := false) he.out HINC.out (decide_eq_false (by rw [hm]; omega)) (by rw [hm]; simp))
                            rw [Bool.or_false, Bool.or_false, Bool.not_true, Bool.or_false] at XF
                            have hne2 : ((m : Int) != (m : Int)) = false := by simp
                            clear hi hm he
                            as_aux_lemma =>
                              go_wp2_with (first
                                | (with_reducible show wpList _ _ _ ({ dst := _, op := Op.load 3 _, type := _, pos := _, after := _, guard := _ } :: _) _ _; refine wpList_load1_has h rfl 3 _ rfl rfl hbam d1 Try.underlying3 rfl ?_)
                                | (with_reducible show wpList _ _ _ ({ dst := _, op := Op.load 3 _, type := _, pos := _, after := _, guard := _ } :: _) _ _; refine wpList_load1_has h rfl 3 _ rfl rfl hbam d2 Try.underlying3 rfl ?_)
                                | (with_reducible show wpList _ _ _ ({ dst := _, op := Op.load 3 _, type := _, pos := _, after := _, guard := _ } :: _) _ _; refine wpList_load1_has h rfl 3 _ rfl rfl hal ea Try.underlying3 rfl ?_))
                              go_meet
                              case rel => exact ⟨by rw [XS.out]; go_num, by rw [XF.out.2.1], by rw [XF.out.1], M6, h, by rw [← EK.out XF.out.2.2]; exact HB6.out, HM6.out⟩
                          · have XF := Lib.hid (next_two (x := x) (v := v) he.out HINC.out rfl (show _ = true by rw [hm]; simp; omega))
                            rw [Bool.or_true, Bool.or_true] at XF
                            have hne2 : ((m : Int) != (v : Int)) = true := by simp; omega
                            have hne3 : ¬ (m : Int) = (v : Int) := by omega
                            clear hi hm he
                            as_aux_lemma =>
                              go_wp2_with (first
                                | (with_reducible show wpList _ _ _ ({ dst := _, op := Op.load 3 _, type := _, pos := _, after := _, guard := _ } :: _) _ _; refine wpList_load1_has h rfl 3 _ rfl rfl hbam d1 Try.underlying3 rfl ?_)
                                | (with_reducible show wpList _ _ _ ({ dst := _, op := Op.load 3 _, type := _, pos := _, after := _, guard := _ } :: _) _ _; refine wpList_load1_has h rfl 3 _ rfl rfl hbam d2 Try.underlying3 rfl ?_)
                                | (with_reducible show wpList _ _ _ ({ dst := _, op := Op.load 3 _, type := _, pos := _, after := _, guard := _ } :: _) _ _; refine wpList_load1_has h rfl 3 _ rfl rfl hal ea Try.underlying3 rfl ?_))
                              go_meet
                              case rel => exact ⟨by rw [XS.out]; go_num, by rw [XF.out.2.1], by rw [XF.out.1], M6, h, by rw [← EK.out XF.out.2.2]; exact HB6.out, HM6.out⟩
                    · rw [e] at d1
                      have XF := Lib.hid (next_three (x := x) (c := c) (v := v) e)
                      clear e HKD6
                      as_aux_lemma =>
                        go_wp2_with (first
                          | (with_reducible show wpList _ _ _ ({ dst := _, op := Op.load 3 _, type := _, pos := _, after := _, guard := _ } :: _) _ _; refine wpList_load1_has h rfl 3 _ rfl rfl hbam d1 Try.underlying3 rfl ?_)
                          | (with_reducible show wpList _ _ _ ({ dst := _, op := Op.load 3 _, type := _, pos := _, after := _, guard := _ } :: _) _ _; refine wpList_load1_has h rfl 3 _ rfl rfl hbam d2 Try.underlying3 rfl ?_))
                        go_meet
                        case rel => exact ⟨by rw [XS.out]; go_num, by rw [XF.out.2.1], by rw [XF.out.1], M6, h, by rw [← EK.out XF.out.2.2]; exact HB6.out, HM6.out⟩
                    · rw [e] at d1
                      have XF := Lib.hid (next_idle (x := x) (c := c) (v := v) (.inr e))
                      clear e HKD6
                      as_aux_lemma =>
                        go_wp2_with (first
                          | (with_reducible show wpList _ _ _ ({ dst := _, op := Op.load 3 _, type := _, pos := _, after := _, guard := _ } :: _) _ _; refine wpList_load1_has h rfl 3 _ rfl rfl hbam d1 Try.underlying3 rfl ?_)
                          | (with_reducible show wpList _ _ _ ({ dst := _, op := Op.load 3 _, type := _, pos := _, after := _, guard := _ } :: _) _ _; refine wpList_load1_has h rfl 3 _ rfl rfl hbam d2 Try.underlying3 rfl ?_))
                        go_meet
                        case rel => exact ⟨by rw [XS.out]; go_num, by rw [XF.out.2.1], by rw [XF.out.1], M6, h, by rw [← EK.out XF.out.2.2]; exact HB6.out, HM6.out⟩
                    · rw [e] at d1
                      by_cases ha1 : a.at_ = 1
                      · rw [ha1] at d2
                        have hbhm := HB6.out.le _ _ (LKB.out _ _ _ (GH.out y1))
                        rw [show y1.held = x.held by rw [Y1.out]] at hbhm
                        have eh : (bools L x.held)[v]? = some (.bool (x.held v)) := bools_get hvL
                        cases hh : x.held v
                        · have XF := Lib.hid (next_drop (x := x) (c := c) (v := v) e (by rw [ha1, hh]; rfl))
                          rw [hh] at eh
                          have hszb : v < (bools L x.held).size := by rw [bools_size]; exact hvL
                          have hset := Lib.hid (bools_set L x.held v true)
                          obtain ⟨hM7, hB7⟩ := HM6.out.put HB6.out (LKB.out _ _ _ (GH.out y1)) (.cells (bools L (x.next c v a).held) 4)
                          rw [EH.out] at hB7
                          rw [XF.out.2.2] at hM7 hB7
                          replace hM7 := Lib.hid hM7
                          replace hB7 := Lib.hid hB7
                          clear e ha1 hh HKD6
                          generalize bools L x.held = rb at hbhm eh hszb hset
                          as_aux_lemma =>
                            go_wp2_with (first
                              | (with_reducible show wpList _ _ _ ({ dst := _, op := Op.load 3 _, type := _, pos := _, after := _, guard := _ } :: _) _ _; refine wpList_load1_has h rfl 3 _ rfl rfl hbam d1 Try.underlying3 rfl ?_)
                              | (with_reducible show wpList _ _ _ ({ dst := _, op := Op.load 3 _, type := _, pos := _, after := _, guard := _ } :: _) _ _; refine wpList_load1_has h rfl 3 _ rfl rfl hbam d2 Try.underlying3 rfl ?_)
                              | (with_reducible show wpList _ _ _ ({ dst := _, op := Op.load 4 _, type := _, pos := _, after := _, guard := _ } :: _) _ _; refine wpList_load1_has h rfl 4 _ rfl rfl hbhm eh Try.underlying4 rfl ?_)
                              | (with_reducible show wpList _ _ _ ({ dst := _, op := Op.store 4 _ _, type := _, pos := _, after := _, guard := _ } :: _) _ _; refine wpList_store1_has h rfl 4 _ _ rfl rfl rfl hbhm hszb rfl (by kernel_rfl) ?_; clear h; intro w h))
                            have h0 : Has σ (M6.upd bh (.cells (rb.setIfInBounds v (.bool true)) 4)) w := h
                            clear h
                            rw [hset.out] at h0
                            go_meet
                            case rel => exact ⟨by rw [XS.out]; go_num, by rw [XF.out.2.1]; go_num, by rw [XF.out.1], _, h0, hB7.out, hM7.out⟩
                        · have XF := Lib.hid (next_miss (x := x) (c := c) (v := v) e (by rw [ha1, hh]; rfl))
                          rw [hh] at eh
                          clear e ha1 hh HKD6
                          generalize bools L x.held = rb at hbhm eh
                          as_aux_lemma =>
                            go_wp2_with (first
                              | (with_reducible show wpList _ _ _ ({ dst := _, op := Op.load 3 _, type := _, pos := _, after := _, guard := _ } :: _) _ _; refine wpList_load1_has h rfl 3 _ rfl rfl hbam d1 Try.underlying3 rfl ?_)
                              | (with_reducible show wpList _ _ _ ({ dst := _, op := Op.load 3 _, type := _, pos := _, after := _, guard := _ } :: _) _ _; refine wpList_load1_has h rfl 3 _ rfl rfl hbam d2 Try.underlying3 rfl ?_)
                              | (with_reducible show wpList _ _ _ ({ dst := _, op := Op.load 4 _, type := _, pos := _, after := _, guard := _ } :: _) _ _; refine wpList_load1_has h rfl 4 _ rfl rfl hbhm eh Try.underlying4 rfl ?_))
                            go_meet
                            case rel => exact ⟨by rw [XS.out]; go_num, by rw [XF.out.2.1], by rw [XF.out.1], M6, h, by rw [← EK.out XF.out.2.2]; exact HB6.out, HM6.out⟩
                      · have ha2 : (a.at_ == 1) = false := by simpa using ha1
                        have XF := Lib.hid (next_miss (x := x) (c := c) (v := v) e (by rw [ha2]; rfl))
                        clear e ha1 HKD6
                        as_aux_lemma =>
                          go_wp2_with (first
                            | (with_reducible show wpList _ _ _ ({ dst := _, op := Op.load 3 _, type := _, pos := _, after := _, guard := _ } :: _) _ _; refine wpList_load1_has h rfl 3 _ rfl rfl hbam d1 Try.underlying3 rfl ?_)
                            | (with_reducible show wpList _ _ _ ({ dst := _, op := Op.load 3 _, type := _, pos := _, after := _, guard := _ } :: _) _ _; refine wpList_load1_has h rfl 3 _ rfl rfl hbam d2 Try.underlying3 rfl ?_))
                          go_meet
                          case rel => exact ⟨by rw [XS.out]; go_num, by rw [XF.out.2.1], by rw [XF.out.1], M6, h, by rw [← EK.out XF.out.2.2]; exact HB6.out, HM6.out⟩
            case rest =>
              -- behind a step that counts
              clear h w HB5 HM5 HXC QH GH P4 PH hbam
              obtain ⟨rfl, rfl, rfl, M5, h, hB5, hM5⟩ := hcut
              obtain ⟨w, rfl⟩ : ∃ q : World, q = wc := ⟨_, rfl⟩
              obtain ⟨fv, hvv, fbs, hT⟩ := hM5.each t q HQ4.out
              have DP := Lib.hid (fun (w : World) (h : Has σ M5 w) => thrDeep_eq h hT)
              rw [hT.flen] at DP
              have HB := Lib.hid hB5
              have HM := Lib.hid hM5
              have HI1 := HI5
              clear hB5 hM5 hT HI5 HQ4
              generalize x.next c v a = y at HI1 HBG HB ⊢
              have SS := Lib.hid (fun (w : World) (h : Has σ M5 w) => mSteps_eq h HM.out)
              rw [HI1.out.steps] at SS
              have FT := Lib.hid (fun (w : World) (h : Has σ M5 w) => mFault_eq h HM.out)
              rw [HI1.out.bad] at FT
              have GV := Lib.hid (fun (w : World) (h : Has σ M5 w) => mGiven_eq h HM.out (by have := HI1.out.given; have := HI1.out.givenLe; omega))
              rw [HI1.out.given] at GV
              have CK : Hid (∀ j : Nat, j < L → ∀ w, Has σ M5 w → Calls Try.prog 14 #[.pointer (some ⟨p, 0, none⟩), .int .i64 (j : Nat)] w fun r w' => r = .returned (.int .i64 (y.clk j)) ∧ Has σ M5 w') := Lib.hid fun j hj w h => by
                have e : s4.clock j = y.clk j := by
                  unfold MachS.clock
                  rw [HI1.out.cc, if_pos ⟨by omega, by rw [HN.out.lev]; omega⟩, HI1.out.clk j (by have := HN.out.l0; omega), Int.toNat_natCast]
                rw [← e]
                exact mClock_eq h HM.out j
              have hb4m := HB.out.le _ _ (LKB.out y _ _ (G4.out y))
              have hbam := HB.out.le _ _ (GA.out y)
              have hbfm := HB.out.le _ _ (LKB.out y _ _ (LEK.out y _ _ hbfK))
              have hlen0 : (s4.thr t).frames.isEmpty = decide ((s4.thr t).frames.length = 0) := by cases (s4.thr t).frames <;> simp
              clear HEMP
              obtain ⟨em, hem⟩ : ∃ em, (s4.thr t).frames.isEmpty = em := ⟨_, rfl⟩
              rw [hem] at hlen0 ⊢
              have hlen := Lib.hid hlen0
              clear hlen0 hem
              generalize (s4.thr t).frames.length = fl at DP hlen
              go_upto_region 37 with (fail)
              go_cut [225] from 199 to 225 (fun u wx => u = .bool false ∧ Has σ M5 wx)
              case first =>
                clear HBG HB HM HI1 CK
                by_cases hfl : fl = 0
                · obtain rfl : em = true := by rw [hlen.out, hfl]; rfl
                  have gp : ¬ 0 < fl := by omega
                  clear hlen hfl
                  go_wp2_with (first
                    | (go_at_call 24; refine (DP.out _ h).mono ?_; clear h; rintro _ w ⟨rfl, h⟩)
                    | (go_at_call 28; refine (SS.out _ h).mono ?_; clear h; rintro _ w ⟨rfl, h⟩)
                    | (go_at_call 19; refine (FT.out _ h).mono ?_; clear h; rintro _ w ⟨rfl, h⟩)
                    | (go_at_call 29; refine (GV.out _ h).mono ?_; clear h; rintro _ w ⟨u, rfl, M9, h9, hle9, hown9⟩; obtain ⟨UA, uc, rfl⟩ := hown9.form; have h := h9.le hle9; clear h9 hle9 hown9))
                  go_meet
                  case rel => exact ⟨rfl, h⟩
                · obtain rfl : em = false := by rw [hlen.out]; exact decide_eq_false hfl
                  have gp : 0 < fl := by omega
                  clear hlen hfl
                  go_wp2_with (first
                    | (go_at_call 24; refine (DP.out _ h).mono ?_; clear h; rintro _ w ⟨rfl, h⟩)
                    | (go_at_call 28; refine (SS.out _ h).mono ?_; clear h; rintro _ w ⟨rfl, h⟩)
                    | (go_at_call 19; refine (FT.out _ h).mono ?_; clear h; rintro _ w ⟨rfl, h⟩)
                    | (go_at_call 29; refine (GV.out _ h).mono ?_; clear h; rintro _ w ⟨u, rfl, M9, h9, hle9, hown9⟩; obtain ⟨UA, uc, rfl⟩ := hown9.form; have h := h9.le hle9; clear h9 hle9 hown9))
                  go_meet
                  case rel => exact ⟨rfl, h⟩
              case rest =>
                clear h w DP hlen
                obtain ⟨rfl, h⟩ := hcut
                obtain ⟨w, rfl⟩ : ∃ q : World, q = wc := ⟨_, rfl⟩
                go_upto_region 40 with (fail)
                go_loopw [21] (fun i wr => ∃ j : Nat, j ≤ L ∧ i = .int .i64 (j : Nat) ∧ Has σ M5 wr) (fun i _ => L - (intOf i).toNat)
                case atStart => exact ⟨0, Nat.zero_le _, rfl, h⟩
                case round =>
                  clear h w
                  obtain ⟨w, rfl⟩ : ∃ x : World, x = wr := ⟨_, rfl⟩
                  obtain ⟨j, hj, rfl, h⟩ := hrel
                  by_cases hlt2 : j < L
                  · have hL4 := HN.out.l0
                    have hlt3 : (j : Int) < (L : Int) := by omega
                    have j4 : (j : Int) < 4 := by omega
                    have gcl : (ints .i64 4 y.clk)[j]? = some (.int .i64 (y.clk j)) := ints_get (by omega)
                    have CJ := Lib.hid (fun (w : World) (h : Has σ M5 w) => CK.out j hlt2 w h)
                    clear hL4 hj hlt2
                    generalize y.clk j = cj at gcl CJ
                    generalize ints .i64 4 y.clk = r4 at gcl hb4m
                    as_aux_lemma =>
                      go_upto_region 42 with (first
                        | (with_reducible show wpList _ _ _ ({ dst := _, op := Op.load 3 _, type := _, pos := _, after := _, guard := _ } :: _) _ _; refine wpList_load1_has h rfl 3 _ rfl rfl hbfm r0 Try.underlying3 rfl ?_))
                      refine wp_region_class (Has σ M5) (by kernel_rfl) (by kernel_rfl) h.drew ?_
                      clear h
                      repeat (first
                        | go_big_quiet_skip
                        | (go_big_quiet_want; first
                          | (refine quiet_load_has 3 _ rfl rfl hb4m gcl Try.underlying3 rfl ?_; simp only [Act.put, List.setIfInBounds_toArray, List.set_cons_zero, List.set_cons_succ]; go_big_quiet_on)
                          | (go_big_quiet_op; first | go_big_quiet_on | go_big_quiet_call (first | with_reducible exact fun _ => rfl | with_reducible exact CJ.out _))))
                      refine wpQuiet_nil ?_
                      try clear w
                      intro w h
                      go_wp2
                      go_roundw
                      case rel => exact ⟨j + 1, by omega, by go_num, h⟩
                      case measure => simp [intOf]; omega
                  · obtain rfl : j = L := by omega
                    have hgt2 : ¬ ((j : Int) < (j : Int)) := by omega
                    go_upto_region 44 with (first
                      | (with_reducible show wpList _ _ _ ({ dst := _, op := Op.load 3 _, type := _, pos := _, after := _, guard := _ } :: _) _ _; refine wpList_load1_has h rfl 3 _ rfl rfl hbfm r0 Try.underlying3 rfl ?_))
                    clear SS FT CK
                    have hbg := HBG.out
                    by_cases hgv : 0 < y.given
                    · have gg : decide ((0 : Int) < (y.given : Nat)) = true := decide_eq_true (by omega)
                      cases hk5 : (a.kind == 5)
                      · as_aux_lemma =>
                          clear hbg
                          refine wp_region_class (Has σ M5) (by kernel_rfl) (by kernel_rfl) h.drew ?_
                          clear h
                          repeat (first
                            | go_big_quiet_skip
                            | (go_big_quiet_want; first
                              | (refine quiet_load_has 3 _ rfl rfl hbam d1 Try.underlying3 rfl ?_; simp only [Act.put, List.setIfInBounds_toArray, List.set_cons_zero, List.set_cons_succ]; go_big_quiet_on)
                              | (go_big_quiet_op; first | go_big_quiet_on | go_big_quiet_call (first | with_reducible exact fun _ => rfl))))
                          refine wpQuiet_nil ?_
                          try clear w
                          intro w h
                          go_wp2
                          go_roundw
                          case rel => (first | exact ⟨k + 1, M5, lab4, s4, y, by omega, by go_num, rfl, rfl, rfl, h, HB.out.less (LKB.out y), HM.out, HI1.out⟩ | ((repeat apply Exists.intro); exact ⟨⟨k + 1, M5, lab4, s4, y, by omega, by go_num, rfl, rfl, rfl, h, HB.out.less (LKB.out y), HM.out, HI1.out⟩, rfl⟩))
                          case measure => simp [intOf]; omega
                      · cases ha1 : (a.at_ == 1)
                        · as_aux_lemma =>
                            clear hbg
                            refine wp_region_class (Has σ M5) (by kernel_rfl) (by kernel_rfl) h.drew ?_
                            clear h
                            repeat (first
                              | go_big_quiet_skip
                              | (go_big_quiet_want; first
                                | (refine quiet_load_has 3 _ rfl rfl hbam d1 Try.underlying3 rfl ?_; simp only [Act.put, List.setIfInBounds_toArray, List.set_cons_zero, List.set_cons_succ]; go_big_quiet_on)
                                | (refine quiet_load_has 3 _ rfl rfl hbam d2 Try.underlying3 rfl ?_; simp only [Act.put, List.setIfInBounds_toArray, List.set_cons_zero, List.set_cons_succ]; go_big_quiet_on)
                                | (go_big_quiet_op; first | go_big_quiet_on | go_big_quiet_call (first | with_reducible exact fun _ => rfl))))
                            refine wpQuiet_nil ?_
                            try clear w
                            intro w h
                            go_wp2
                            go_roundw
                            case rel => (first | exact ⟨k + 1, M5, lab4, s4, y, by omega, by go_num, rfl, rfl, rfl, h, HB.out.less (LKB.out y), HM.out, HI1.out⟩ | ((repeat apply Exists.intro); exact ⟨⟨k + 1, M5, lab4, s4, y, by omega, by go_num, rfl, rfl, rfl, h, HB.out.less (LKB.out y), HM.out, HI1.out⟩, rfl⟩))
                            case measure => simp [intOf]; omega
                        · have e5 : a.kind = 5 := by simpa using hk5
                          have e1 : a.at_ = 1 := by simpa using ha1
                          obtain ⟨gm, hgm⟩ : ∃ gm, y.given = gm + 1 := ⟨y.given - 1, by omega⟩
                          have hgl : s4.given.length = gm + 1 := HI1.out.given.trans hgm
                          obtain ⟨gl, hgll⟩ : ∃ gl, s4.given[gm]? = some gl := ⟨_, List.getElem?_eq_getElem (by omega)⟩
                          have HGL := Lib.hid hgll
                          have hfl : y.fault = false → gl.lv = (v : Int) ∧ (gl.clk v : Int) = y.clk v := fun e => by
                            obtain ⟨g, h1, h2, h3⟩ := hbg e e5 e1
                            have : gl = g := by
                              rw [h1, List.length_append, List.length_singleton] at hgl
                              rw [h1, List.getElem?_append_right (by omega), show gm - s1.given.length = 0 by omega] at hgll
                              simpa using hgll.symm
                            rw [this]; exact ⟨h2, h3⟩
                          have gcv : (ints .i64 4 y.clk)[v]? = some (.int .i64 (y.clk v)) := ints_get hv4
                          have hgmlt : gm < gm + 1 := Nat.lt_succ_self _
                          have HGM := Lib.hid hgm
                          rw [e5] at d1
                          rw [e1] at d2
                          rw [hgm] at GV ⊢
                          have hvL2 : (v : Int) < 4 := by omega
                          have wgm : IntKind.i64.wrap (gm : Int) = gm := IntWalk.i64_in _ (by have := HI1.out.givenLe; have := HK60.out; omega)
                          have wlt : (gm : Int) < (gm : Int) + 1 := by omega
                          have HFL := Lib.hid hfl
                          clear hbg hk5 ha1 hgl hgll hfl hgm hgv gg
                          clear e5 e1
                          as_aux_lemma =>
                            refine wp_region_held_drew (S := Has σ (M5)) (by kernel_rfl) (h.drew) (fun hHeld => ?_)
                            refine wpAnyH_take (i := 0) (v := ?_) rfl (by kernel_rfl) (by kernel_rfl) (by kernel_rfl) (fun _ _ _ h => h) (Or.inl ⟨by rfl, ?_⟩) hHeld ?_
                            rotate_left
                            · (intro wz _; go_simp; try with_reducible rfl)
                            try simp only [List.getElem_toArray, List.getElem_cons_succ, List.getElem_cons_zero, Act.put, List.setIfInBounds_toArray, List.set_cons_zero, List.set_cons_succ]
                            refine wpAnyH_take (i := 1) (v := ?_) rfl (by kernel_rfl) (by kernel_rfl) (by kernel_rfl) (fun _ _ _ h => h) (Or.inl ⟨by rfl, ?_⟩) hHeld ?_
                            rotate_left
                            · (intro wz _; go_simp; try with_reducible rfl)
                            try simp only [List.getElem_toArray, List.getElem_cons_succ, List.getElem_cons_zero, Act.put, List.setIfInBounds_toArray, List.set_cons_zero, List.set_cons_succ]
                            refine wpAnyH_take (i := 2) (v := ?_) rfl (by kernel_rfl) (by kernel_rfl) (by kernel_rfl) (fun _ _ _ h => h) (Or.inl ⟨by rfl, ?_⟩) hHeld ?_
                            rotate_left
                            · (intro wz _; go_simp; try with_reducible rfl)
                            try simp only [List.getElem_toArray, List.getElem_cons_succ, List.getElem_cons_zero, Act.put, List.setIfInBounds_toArray, List.set_cons_zero, List.set_cons_succ]
                            refine wpAnyH_take (i := 3) (v := ?_) rfl (by kernel_rfl) (by kernel_rfl) (by kernel_rfl) (fun _ _ _ h => h) (Or.inl ⟨by rfl, ?_⟩) hHeld ?_
                            rotate_left
                            · (intro wz _; go_simp; try with_reducible rfl)
                            try simp only [List.getElem_toArray, List.getElem_cons_succ, List.getElem_cons_zero, Act.put, List.setIfInBounds_toArray, List.set_cons_zero, List.set_cons_succ]
                            refine wpAnyH_take (i := 4) (v := _) rfl (by kernel_rfl) (by kernel_rfl) (by kernel_rfl) (fun _ _ _ h => h) (yields_load1 rfl 3 _ rfl rfl hbam d1 Try.underlying3 rfl) hHeld ?_
                            try simp only [List.getElem_toArray, List.getElem_cons_succ, List.getElem_cons_zero, Act.put, List.setIfInBounds_toArray, List.set_cons_zero, List.set_cons_succ]
                            refine wpAnyH_take (i := 5) (v := ?_) rfl (by kernel_rfl) (by kernel_rfl) (by kernel_rfl) (fun _ _ _ h => h) (Or.inl ⟨by rfl, ?_⟩) hHeld ?_
                            rotate_left
                            · (intro wz _; go_simp; try with_reducible rfl)
                            try simp only [List.getElem_toArray, List.getElem_cons_succ, List.getElem_cons_zero, Act.put, List.setIfInBounds_toArray, List.set_cons_zero, List.set_cons_succ]
                            refine wpAnyH_take (i := 6) (v := ?_) rfl (by kernel_rfl) (by kernel_rfl) (by kernel_rfl) (fun _ _ _ h => h) (Or.inl ⟨by rfl, ?_⟩) hHeld ?_
                            rotate_left
                            · (intro wz _; go_simp; try with_reducible rfl)
                            try simp only [List.getElem_toArray, List.getElem_cons_succ, List.getElem_cons_zero, Act.put, List.setIfInBounds_toArray, List.set_cons_zero, List.set_cons_succ]
                            refine wpAnyH_take (i := 7) (v := ?_) rfl (by kernel_rfl) (by kernel_rfl) (by kernel_rfl) (fun _ _ _ h => h) (Or.inl ⟨by rfl, ?_⟩) hHeld ?_
                            rotate_left
                            · (intro wz _; go_simp; try with_reducible rfl)
                            try simp only [List.getElem_toArray, List.getElem_cons_succ, List.getElem_cons_zero, Act.put, List.setIfInBounds_toArray, List.set_cons_zero, List.set_cons_succ]
                            refine wpAnyH_take (i := 8) (v := ?_) rfl (by kernel_rfl) (by kernel_rfl) (by kernel_rfl) (fun _ _ _ h => h) (Or.inl ⟨by rfl, ?_⟩) hHeld ?_
                            rotate_left
                            · (intro wz _; go_simp; try with_reducible rfl)
                            try simp only [List.getElem_toArray, List.getElem_cons_succ, List.getElem_cons_zero, Act.put, List.setIfInBounds_toArray, List.set_cons_zero, List.set_cons_succ]
                            refine wpAnyH_take (i := 9) (v := ?_) rfl (by kernel_rfl) (by kernel_rfl) (by kernel_rfl) (fun _ _ _ h => h) (Or.inl ⟨by rfl, ?_⟩) hHeld ?_
                            rotate_left
                            · (intro wz _; go_simp; try with_reducible rfl)
                            try simp only [List.getElem_toArray, List.getElem_cons_succ, List.getElem_cons_zero, Act.put, List.setIfInBounds_toArray, List.set_cons_zero, List.set_cons_succ]
                            refine wpAnyH_take (i := 10) (v := ?_) rfl (by kernel_rfl) (by kernel_rfl) (by kernel_rfl) (fun _ _ _ h => h) (Or.inl ⟨by rfl, ?_⟩) hHeld ?_
                            rotate_left
                            · (intro wz _; go_simp; try with_reducible rfl)
                            try simp only [List.getElem_toArray, List.getElem_cons_succ, List.getElem_cons_zero, Act.put, List.setIfInBounds_toArray, List.set_cons_zero, List.set_cons_succ]
                            refine wpAnyH_take (i := 11) (v := ?_) rfl (by kernel_rfl) (by kernel_rfl) (by kernel_rfl) (fun _ _ _ h => h) (Or.inl ⟨by rfl, ?_⟩) hHeld ?_
                            rotate_left
                            · (intro wz _; go_simp; try with_reducible rfl)
                            try simp only [List.getElem_toArray, List.getElem_cons_succ, List.getElem_cons_zero, Act.put, List.setIfInBounds_toArray, List.set_cons_zero, List.set_cons_succ]
                            refine wpAnyH_take (i := 12) (v := _) rfl (by kernel_rfl) (by kernel_rfl) (by kernel_rfl) (fun _ _ _ h => h) (yields_load1 rfl 3 _ rfl rfl hbam d2 Try.underlying3 rfl) hHeld ?_
                            try simp only [List.getElem_toArray, List.getElem_cons_succ, List.getElem_cons_zero, Act.put, List.setIfInBounds_toArray, List.set_cons_zero, List.set_cons_succ]
                            refine wpAnyH_take (i := 13) (v := ?_) rfl (by kernel_rfl) (by kernel_rfl) (by kernel_rfl) (fun _ _ _ h => h) (Or.inl ⟨by rfl, ?_⟩) hHeld ?_
                            rotate_left
                            · (intro wz _; go_simp; try with_reducible rfl)
                            try simp only [List.getElem_toArray, List.getElem_cons_succ, List.getElem_cons_zero, Act.put, List.setIfInBounds_toArray, List.set_cons_zero, List.set_cons_succ]
                            refine wpAnyH_take (i := 14) (v := ?_) rfl (by kernel_rfl) (by kernel_rfl) (by kernel_rfl) (fun _ _ _ h => h) (Or.inl ⟨by rfl, ?_⟩) hHeld ?_
                            rotate_left
                            · (intro wz _; go_simp; try with_reducible rfl)
                            try simp only [List.getElem_toArray, List.getElem_cons_succ, List.getElem_cons_zero, Act.put, List.setIfInBounds_toArray, List.set_cons_zero, List.set_cons_succ]
                            refine wpAnyH_take (i := 15) (v := ?_) rfl (by kernel_rfl) (by kernel_rfl) (by kernel_rfl) (fun _ _ _ h => h) (Or.inl ⟨by rfl, ?_⟩) hHeld ?_
                            rotate_left
                            · (intro wz _; go_simp; try with_reducible rfl)
                            try simp only [List.getElem_toArray, List.getElem_cons_succ, List.getElem_cons_zero, Act.put, List.setIfInBounds_toArray, List.set_cons_zero, List.set_cons_succ]
                            refine wpAnyH_take (i := 16) (v := ?_) rfl (by kernel_rfl) (by kernel_rfl) (by kernel_rfl) (fun _ _ _ h => h) (Or.inl ⟨by rfl, ?_⟩) hHeld ?_
                            rotate_left
                            · (intro wz _; go_simp; try with_reducible rfl)
                            try simp only [List.getElem_toArray, List.getElem_cons_succ, List.getElem_cons_zero, Act.put, List.setIfInBounds_toArray, List.set_cons_zero, List.set_cons_succ]
                            refine wpAnyH_take (i := 19) (v := ?_) rfl (by kernel_rfl) (by kernel_rfl) (by kernel_rfl) (fun _ _ _ h => h) (Or.inl ⟨by rfl, ?_⟩) hHeld ?_
                            rotate_left
                            · (intro wz _; go_simp; try with_reducible rfl)
                            try simp only [List.getElem_toArray, List.getElem_cons_succ, List.getElem_cons_zero, Act.put, List.setIfInBounds_toArray, List.set_cons_zero, List.set_cons_succ]
                            replace h := h.drew
                            generalize w.drew = w1 at h hHeld ⊢
                            clear w
                            obtain ⟨w, rfl⟩ : ∃ q : World, q = w1 := ⟨_, rfl⟩
                            refine wpAnyH_ready (rs := [17]) (by kernel_rfl) (by simp) ?_
                            refine AllReadyH.cons rfl (fun K hK => ?_) AllReadyH.nil
                            (go_simp; go_wp2_with (go_at_call 29; refine (GV.out _ h).mono ?_; clear h; rintro _ w ⟨u, rfl, M9, h, hle9, hown9⟩; obtain ⟨UA, uc, rfl⟩ := hown9.form))
                            refine hK.out _ _ (h.le hle9) (fun hHeld => ?_)
                            clear hK K
                            try simp only [Act.put, List.setIfInBounds_toArray, List.set_cons_zero, List.set_cons_succ]
                            have h := h.le hle9
                            clear hle9 hown9
                            refine wpAnyH_take (i := 18) (v := ?_) rfl (by kernel_rfl) (by kernel_rfl) (by kernel_rfl) (fun _ _ _ h => h) (Or.inl ⟨by rfl, ?_⟩) hHeld ?_
                            rotate_left
                            · (intro wz _; go_simp; try with_reducible rfl)
                            try simp only [List.getElem_toArray, List.getElem_cons_succ, List.getElem_cons_zero, Act.put, List.setIfInBounds_toArray, List.set_cons_zero, List.set_cons_succ]
                            refine wpAnyH_take (i := 20) (v := ?_) rfl (by kernel_rfl) (by kernel_rfl) (by kernel_rfl) (fun _ _ _ h => h) (Or.inl ⟨by rfl, ?_⟩) hHeld ?_
                            rotate_left
                            · (intro wz _; go_simp; try with_reducible rfl)
                            try simp only [List.getElem_toArray, List.getElem_cons_succ, List.getElem_cons_zero, Act.put, List.setIfInBounds_toArray, List.set_cons_zero, List.set_cons_succ]
                            refine wpAnyH_take (i := 21) (v := ?_) rfl (by kernel_rfl) (by kernel_rfl) (by kernel_rfl) (fun _ _ _ h => h) (Or.inl ⟨by rfl, ?_⟩) hHeld ?_
                            rotate_left
                            · (intro wz _; go_simp; try with_reducible rfl)
                            try simp only [List.getElem_toArray, List.getElem_cons_succ, List.getElem_cons_zero, Act.put, List.setIfInBounds_toArray, List.set_cons_zero, List.set_cons_succ]
                            refine wpAnyH_take (i := 22) (v := ?_) rfl (by kernel_rfl) (by kernel_rfl) (by kernel_rfl) (fun _ _ _ h => h) (Or.inl ⟨by rfl, ?_⟩) hHeld ?_
                            rotate_left
                            · (intro wz _; go_simp; try with_reducible rfl)
                            try simp only [List.getElem_toArray, List.getElem_cons_succ, List.getElem_cons_zero, Act.put, List.setIfInBounds_toArray, List.set_cons_zero, List.set_cons_succ]
                            refine wpAnyH_take (i := 23) (v := ?_) rfl (by kernel_rfl) (by kernel_rfl) (by kernel_rfl) (fun _ _ _ h => h) (Or.inl ⟨by rfl, ?_⟩) hHeld ?_
                            rotate_left
                            · (intro wz _; go_simp; try with_reducible rfl)
                            try simp only [List.getElem_toArray, List.getElem_cons_succ, List.getElem_cons_zero, Act.put, List.setIfInBounds_toArray, List.set_cons_zero, List.set_cons_succ]
                            refine wpAnyH_take (i := 25) (v := ?_) rfl (by kernel_rfl) (by kernel_rfl) (by kernel_rfl) (fun _ _ _ h => h) (Or.inl ⟨by rfl, ?_⟩) hHeld ?_
                            rotate_left
                            · (intro wz _; go_simp; try with_reducible rfl)
                            try simp only [List.getElem_toArray, List.getElem_cons_succ, List.getElem_cons_zero, Act.put, List.setIfInBounds_toArray, List.set_cons_zero, List.set_cons_succ]
                            refine wpAnyH_take (i := 26) (v := ?_) rfl (by kernel_rfl) (by kernel_rfl) (by kernel_rfl) (fun _ _ _ h => h) (Or.inl ⟨by rfl, ?_⟩) hHeld ?_
                            rotate_left
                            · (intro wz _; go_simp; try with_reducible rfl)
                            try simp only [List.getElem_toArray, List.getElem_cons_succ, List.getElem_cons_zero, Act.put, List.setIfInBounds_toArray, List.set_cons_zero, List.set_cons_succ]
                            refine wpAnyH_take (i := 30) (v := ?_) rfl (by kernel_rfl) (by kernel_rfl) (by kernel_rfl) (fun _ _ _ h => h) (Or.inl ⟨by rfl, ?_⟩) hHeld ?_
                            rotate_left
                            · (intro wz _; go_simp; try with_reducible rfl)
                            try simp only [List.getElem_toArray, List.getElem_cons_succ, List.getElem_cons_zero, Act.put, List.setIfInBounds_toArray, List.set_cons_zero, List.set_cons_succ]
                            refine wpAnyH_ready (rs := [24]) (by kernel_rfl) (by simp) ?_
                            refine AllReadyH.cons rfl (fun K hK => ?_) AllReadyH.nil
                            (go_simp; go_wp2_with (go_at_call 29; refine (GV.out _ h).mono ?_; clear h; rintro _ w ⟨u, rfl, M9, h, hle9, hown9⟩))
                            refine hK.out _ _ (h.le hle9) (fun hHeld => ?_)
                            clear hK K
                            try simp only [Act.put, List.setIfInBounds_toArray, List.set_cons_zero, List.set_cons_succ]
                            obtain ⟨bg, og, cg, csg, tg, fg, rfl, hMg, hxg⟩ := hown9.rd.elem encG_len hgmlt (x := gl) HGL.out
                            have e0 : csg[og + gm * 6]? = some (.int .i64 gl.lv) := hxg 0 _ rfl
                            clear hxg hown9
                            refine wpAnyH_take (i := 27) (v := ?_) rfl (by kernel_rfl) (by kernel_rfl) (by kernel_rfl) (fun _ _ _ h => h) (Or.inl ⟨by rfl, ?_⟩) hHeld ?_
                            rotate_left
                            · (intro wz _; go_simp; try with_reducible rfl)
                            try simp only [List.getElem_toArray, List.getElem_cons_succ, List.getElem_cons_zero, Act.put, List.setIfInBounds_toArray, List.set_cons_zero, List.set_cons_succ]
                            refine wpAnyH_take (i := 28) (v := ?_) rfl (by kernel_rfl) (by kernel_rfl) (by kernel_rfl) (fun _ _ _ h => h) (Or.inl ⟨by rfl, ?_⟩) hHeld ?_
                            rotate_left
                            · (intro wz _; go_simp; try with_reducible rfl)
                            try simp only [List.getElem_toArray, List.getElem_cons_succ, List.getElem_cons_zero, Act.put, List.setIfInBounds_toArray, List.set_cons_zero, List.set_cons_succ]
                            refine wpAnyH_ready (rs := [29]) (by kernel_rfl) (by simp) ?_
                            refine AllReadyH.cons rfl (fun K hK => ?_) AllReadyH.nil
                            (refine step_yields rfl (yields_load1 rfl 3 _ rfl rfl hMg e0 Try.underlying3 rfl) h ?_)
                            refine hK.out _ _ (hHeld) (fun hHeld => ?_)
                            clear hK K
                            try simp only [Act.put, List.setIfInBounds_toArray, List.set_cons_zero, List.set_cons_succ]
                            have h := h.le hle9
                            clear hle9 hMg e0
                            cases hb1 : (gl.lv == (v : Int))
                            · as_aux_lemma =>
                                refine wpAnyH_take (i := 31) (v := ?_) rfl (by kernel_rfl) (by kernel_rfl) (by kernel_rfl) (fun _ _ _ h => h) (Or.inl ⟨by rfl, ?_⟩) hHeld ?_
                                rotate_left
                                · (intro wz _; go_simp; try with_reducible rfl)
                                try simp only [List.getElem_toArray, List.getElem_cons_succ, List.getElem_cons_zero, Act.put, List.setIfInBounds_toArray, List.set_cons_zero, List.set_cons_succ]
                                refine wpAnyH_take (i := 32) (v := ?_) rfl (by kernel_rfl) (by kernel_rfl) (by kernel_rfl) (fun _ _ _ h => h) (Or.inl ⟨by rfl, ?_⟩) hHeld ?_
                                rotate_left
                                · (intro wz _; go_simp; try with_reducible rfl)
                                try simp only [List.getElem_toArray, List.getElem_cons_succ, List.getElem_cons_zero, Act.put, List.setIfInBounds_toArray, List.set_cons_zero, List.set_cons_succ]
                                refine wpAnyH_take (i := 33) (v := ?_) rfl (by kernel_rfl) (by kernel_rfl) (by kernel_rfl) (fun _ _ _ h => h) (Or.inl ⟨by rfl, ?_⟩) hHeld ?_
                                rotate_left
                                · (intro wz _; go_simp; try with_reducible rfl)
                                try simp only [List.getElem_toArray, List.getElem_cons_succ, List.getElem_cons_zero, Act.put, List.setIfInBounds_toArray, List.set_cons_zero, List.set_cons_succ]
                                refine wpAnyH_take (i := 34) (v := undef) rfl (by kernel_rfl) (by kernel_rfl) (by kernel_rfl) (fun _ _ _ h => h) (Or.inr ⟨rfl, rfl⟩) hHeld ?_
                                try simp only [List.getElem_toArray, List.getElem_cons_succ, List.getElem_cons_zero, Act.put, List.setIfInBounds_toArray, List.set_cons_zero, List.set_cons_succ]
                                refine wpAnyH_take (i := 35) (v := undef) rfl (by kernel_rfl) (by kernel_rfl) (by kernel_rfl) (fun _ _ _ h => h) (Or.inr ⟨rfl, rfl⟩) hHeld ?_
                                try simp only [List.getElem_toArray, List.getElem_cons_succ, List.getElem_cons_zero, Act.put, List.setIfInBounds_toArray, List.set_cons_zero, List.set_cons_succ]
                                refine wpAnyH_take (i := 36) (v := undef) rfl (by kernel_rfl) (by kernel_rfl) (by kernel_rfl) (fun _ _ _ h => h) (Or.inr ⟨rfl, rfl⟩) hHeld ?_
                                try simp only [List.getElem_toArray, List.getElem_cons_succ, List.getElem_cons_zero, Act.put, List.setIfInBounds_toArray, List.set_cons_zero, List.set_cons_succ]
                                refine wpAnyH_take (i := 37) (v := undef) rfl (by kernel_rfl) (by kernel_rfl) (by kernel_rfl) (fun _ _ _ h => h) (Or.inr ⟨rfl, rfl⟩) hHeld ?_
                                try simp only [List.getElem_toArray, List.getElem_cons_succ, List.getElem_cons_zero, Act.put, List.setIfInBounds_toArray, List.set_cons_zero, List.set_cons_succ]
                                refine wpAnyH_take (i := 38) (v := undef) rfl (by kernel_rfl) (by kernel_rfl) (by kernel_rfl) (fun _ _ _ h => h) (Or.inr ⟨rfl, rfl⟩) hHeld ?_
                                try simp only [List.getElem_toArray, List.getElem_cons_succ, List.getElem_cons_zero, Act.put, List.setIfInBounds_toArray, List.set_cons_zero, List.set_cons_succ]
                                refine wpAnyH_take (i := 39) (v := undef) rfl (by kernel_rfl) (by kernel_rfl) (by kernel_rfl) (fun _ _ _ h => h) (Or.inr ⟨rfl, rfl⟩) hHeld ?_
                                try simp only [List.getElem_toArray, List.getElem_cons_succ, List.getElem_cons_zero, Act.put, List.setIfInBounds_toArray, List.set_cons_zero, List.set_cons_succ]
                                refine wpAnyH_take (i := 40) (v := undef) rfl (by kernel_rfl) (by kernel_rfl) (by kernel_rfl) (fun _ _ _ h => h) (Or.inr ⟨rfl, rfl⟩) hHeld ?_
                                try simp only [List.getElem_toArray, List.getElem_cons_succ, List.getElem_cons_zero, Act.put, List.setIfInBounds_toArray, List.set_cons_zero, List.set_cons_succ]
                                refine wpAnyH_take (i := 41) (v := undef) rfl (by kernel_rfl) (by kernel_rfl) (by kernel_rfl) (fun _ _ _ h => h) (Or.inr ⟨rfl, rfl⟩) hHeld ?_
                                try simp only [List.getElem_toArray, List.getElem_cons_succ, List.getElem_cons_zero, Act.put, List.setIfInBounds_toArray, List.set_cons_zero, List.set_cons_succ]
                                refine wpAnyH_take (i := 42) (v := undef) rfl (by kernel_rfl) (by kernel_rfl) (by kernel_rfl) (fun _ _ _ h => h) (Or.inr ⟨rfl, rfl⟩) hHeld ?_
                                try simp only [List.getElem_toArray, List.getElem_cons_succ, List.getElem_cons_zero, Act.put, List.setIfInBounds_toArray, List.set_cons_zero, List.set_cons_succ]
                                refine wpAnyH_take (i := 43) (v := undef) rfl (by kernel_rfl) (by kernel_rfl) (by kernel_rfl) (fun _ _ _ h => h) (Or.inr ⟨rfl, rfl⟩) hHeld ?_
                                try simp only [List.getElem_toArray, List.getElem_cons_succ, List.getElem_cons_zero, Act.put, List.setIfInBounds_toArray, List.set_cons_zero, List.set_cons_succ]
                                refine wpAnyH_take (i := 44) (v := undef) rfl (by kernel_rfl) (by kernel_rfl) (by kernel_rfl) (fun _ _ _ h => h) (Or.inr ⟨rfl, rfl⟩) hHeld ?_
                                try simp only [List.getElem_toArray, List.getElem_cons_succ, List.getElem_cons_zero, Act.put, List.setIfInBounds_toArray, List.set_cons_zero, List.set_cons_succ]
                                refine wpAnyH_take (i := 45) (v := undef) rfl (by kernel_rfl) (by kernel_rfl) (by kernel_rfl) (fun _ _ _ h => h) (Or.inr ⟨rfl, rfl⟩) hHeld ?_
                                try simp only [List.getElem_toArray, List.getElem_cons_succ, List.getElem_cons_zero, Act.put, List.setIfInBounds_toArray, List.set_cons_zero, List.set_cons_succ]
                                refine wpAnyH_take (i := 46) (v := undef) rfl (by kernel_rfl) (by kernel_rfl) (by kernel_rfl) (fun _ _ _ h => h) (Or.inr ⟨rfl, rfl⟩) hHeld ?_
                                try simp only [List.getElem_toArray, List.getElem_cons_succ, List.getElem_cons_zero, Act.put, List.setIfInBounds_toArray, List.set_cons_zero, List.set_cons_succ]
                                refine wpAnyH_take (i := 47) (v := ?_) rfl (by kernel_rfl) (by kernel_rfl) (by kernel_rfl) (fun _ _ _ h => h) (Or.inl ⟨by rfl, ?_⟩) hHeld ?_
                                rotate_left
                                · (intro wz _; go_simp; try with_reducible rfl)
                                try simp only [List.getElem_toArray, List.getElem_cons_succ, List.getElem_cons_zero, Act.put, List.setIfInBounds_toArray, List.set_cons_zero, List.set_cons_succ]
                                refine wpAnyH_take (i := 48) (v := ?_) rfl (by kernel_rfl) (by kernel_rfl) (by kernel_rfl) (fun _ _ _ h => h) (Or.inl ⟨by rfl, ?_⟩) hHeld ?_
                                rotate_left
                                · (intro wz _; go_simp; try with_reducible rfl)
                                try simp only [List.getElem_toArray, List.getElem_cons_succ, List.getElem_cons_zero, Act.put, List.setIfInBounds_toArray, List.set_cons_zero, List.set_cons_succ]
                                refine wpAnyH_take (i := 49) (v := undef) rfl (by kernel_rfl) (by kernel_rfl) (by kernel_rfl) (fun _ _ _ h => h) (Or.inr ⟨rfl, rfl⟩) hHeld ?_
                                try simp only [List.getElem_toArray, List.getElem_cons_succ, List.getElem_cons_zero, Act.put, List.setIfInBounds_toArray, List.set_cons_zero, List.set_cons_succ]
                                refine wpAnyH_take (i := 50) (v := undef) rfl (by kernel_rfl) (by kernel_rfl) (by kernel_rfl) (fun _ _ _ h => h) (Or.inr ⟨rfl, rfl⟩) hHeld ?_
                                try simp only [List.getElem_toArray, List.getElem_cons_succ, List.getElem_cons_zero, Act.put, List.setIfInBounds_toArray, List.set_cons_zero, List.set_cons_succ]
                                refine wpAnyH_take (i := 51) (v := ?_) rfl (by kernel_rfl) (by kernel_rfl) (by kernel_rfl) (fun _ _ _ h => h) (Or.inl ⟨by rfl, ?_⟩) hHeld ?_
                                rotate_left
                                · (intro wz _; go_simp; try with_reducible rfl)
                                try simp only [List.getElem_toArray, List.getElem_cons_succ, List.getElem_cons_zero, Act.put, List.setIfInBounds_toArray, List.set_cons_zero, List.set_cons_succ]
                                refine wpAnyH_done (by kernel_rfl) ?_ _
                                go_wp2
                                go_roundw
                                case rel => (first | exact ⟨k + 1, M5, lab4, s4, y, by omega, by go_num, rfl, by rw [HGM.out]; try go_num, by first | rfl | rw [hft.out], h, HB.out.less (LKB.out y), HM.out, HI1.out⟩ | ((repeat apply Exists.intro); exact ⟨⟨k + 1, M5, lab4, s4, y, by omega, by go_num, rfl, by rw [HGM.out]; try go_num, by first | rfl | rw [hft.out], h, HB.out.less (LKB.out y), HM.out, HI1.out⟩, rfl⟩))
                                case measure => simp [intOf]; omega
                            · skip
                              refine wpAnyH_take (i := 31) (v := ?_) rfl (by kernel_rfl) (by kernel_rfl) (by kernel_rfl) (fun _ _ _ h => h) (Or.inl ⟨by rfl, ?_⟩) hHeld ?_
                              rotate_left
                              · (intro wz _; go_simp; try with_reducible rfl)
                              try simp only [List.getElem_toArray, List.getElem_cons_succ, List.getElem_cons_zero, Act.put, List.setIfInBounds_toArray, List.set_cons_zero, List.set_cons_succ]
                              refine wpAnyH_take (i := 32) (v := ?_) rfl (by kernel_rfl) (by kernel_rfl) (by kernel_rfl) (fun _ _ _ h => h) (Or.inl ⟨by rfl, ?_⟩) hHeld ?_
                              rotate_left
                              · (intro wz _; go_simp; try with_reducible rfl)
                              try simp only [List.getElem_toArray, List.getElem_cons_succ, List.getElem_cons_zero, Act.put, List.setIfInBounds_toArray, List.set_cons_zero, List.set_cons_succ]
                              refine wpAnyH_take (i := 33) (v := ?_) rfl (by kernel_rfl) (by kernel_rfl) (by kernel_rfl) (fun _ _ _ h => h) (Or.inl ⟨by rfl, ?_⟩) hHeld ?_
                              rotate_left
                              · (intro wz _; go_simp; try with_reducible rfl)
                              try simp only [List.getElem_toArray, List.getElem_cons_succ, List.getElem_cons_zero, Act.put, List.setIfInBounds_toArray, List.set_cons_zero, List.set_cons_succ]
                              refine wpAnyH_take (i := 34) (v := ?_) rfl (by kernel_rfl) (by kernel_rfl) (by kernel_rfl) (fun _ _ _ h => h) (Or.inl ⟨by rfl, ?_⟩) hHeld ?_
                              rotate_left
                              · (intro wz _; go_simp; try with_reducible rfl)
                              try simp only [List.getElem_toArray, List.getElem_cons_succ, List.getElem_cons_zero, Act.put, List.setIfInBounds_toArray, List.set_cons_zero, List.set_cons_succ]
                              refine wpAnyH_take (i := 36) (v := ?_) rfl (by kernel_rfl) (by kernel_rfl) (by kernel_rfl) (fun _ _ _ h => h) (Or.inl ⟨by rfl, ?_⟩) hHeld ?_
                              rotate_left
                              · (intro wz _; go_simp; try with_reducible rfl)
                              try simp only [List.getElem_toArray, List.getElem_cons_succ, List.getElem_cons_zero, Act.put, List.setIfInBounds_toArray, List.set_cons_zero, List.set_cons_succ]
                              refine wpAnyH_take (i := 37) (v := ?_) rfl (by kernel_rfl) (by kernel_rfl) (by kernel_rfl) (fun _ _ _ h => h) (Or.inl ⟨by rfl, ?_⟩) hHeld ?_
                              rotate_left
                              · (intro wz _; go_simp; try with_reducible rfl)
                              try simp only [List.getElem_toArray, List.getElem_cons_succ, List.getElem_cons_zero, Act.put, List.setIfInBounds_toArray, List.set_cons_zero, List.set_cons_succ]
                              refine wpAnyH_take (i := 38) (v := ?_) rfl (by kernel_rfl) (by kernel_rfl) (by kernel_rfl) (fun _ _ _ h => h) (Or.inl ⟨by rfl, ?_⟩) hHeld ?_
                              rotate_left
                              · (intro wz _; go_simp; try with_reducible rfl)
                              try simp only [List.getElem_toArray, List.getElem_cons_succ, List.getElem_cons_zero, Act.put, List.setIfInBounds_toArray, List.set_cons_zero, List.set_cons_succ]
                              refine wpAnyH_take (i := 43) (v := ?_) rfl (by kernel_rfl) (by kernel_rfl) (by kernel_rfl) (fun _ _ _ h => h) (Or.inl ⟨by rfl, ?_⟩) hHeld ?_
                              rotate_left
                              · (intro wz _; go_simp; try with_reducible rfl)
                              try simp only [List.getElem_toArray, List.getElem_cons_succ, List.getElem_cons_zero, Act.put, List.setIfInBounds_toArray, List.set_cons_zero, List.set_cons_succ]
                              refine wpAnyH_take (i := 44) (v := ?_) rfl (by kernel_rfl) (by kernel_rfl) (by kernel_rfl) (fun _ _ _ h => h) (Or.inl ⟨by rfl, ?_⟩) hHeld ?_
                              rotate_left
                              · (intro wz _; go_simp; try with_reducible rfl)
                              try simp only [List.getElem_toArray, List.getElem_cons_succ, List.getElem_cons_zero, Act.put, List.setIfInBounds_toArray, List.set_cons_zero, List.set_cons_succ]
                              refine wpAnyH_take (i := 45) (v := _) rfl (by kernel_rfl) (by kernel_rfl) (by kernel_rfl) (fun _ _ _ h => h) (yields_load1 rfl 3 _ rfl rfl hb4m gcv Try.underlying3 rfl) hHeld ?_
                              try simp only [List.getElem_toArray, List.getElem_cons_succ, List.getElem_cons_zero, Act.put, List.setIfInBounds_toArray, List.set_cons_zero, List.set_cons_succ]
                              refine wpAnyH_ready (rs := [35]) (by kernel_rfl) (by simp) ?_
                              refine AllReadyH.cons rfl (fun K hK => ?_) AllReadyH.nil
                              (go_simp; go_wp2_with (go_at_call 29; refine (GV.out _ h).mono ?_; clear h; rintro _ w ⟨u, rfl, M9, h, hle9, hown9⟩))
                              refine hK.out _ _ (h.le hle9) (fun hHeld => ?_)
                              clear hK K
                              try simp only [Act.put, List.setIfInBounds_toArray, List.set_cons_zero, List.set_cons_succ]
                              obtain ⟨bg, og, cg, csg, tg, fg, rfl, hMg, hxg⟩ := hown9.rd.elem encG_len hgmlt (x := gl) HGL.out
                              have e0 : csg[og + gm * 6 + 2 + v]? = some (.int .i64 (gl.clk v : Nat)) := by rw [Nat.add_assoc]; exact hxg (2 + v) _ (encG_clk gl hv4)
                              clear hxg hown9
                              refine wpAnyH_take (i := 39) (v := ?_) rfl (by kernel_rfl) (by kernel_rfl) (by kernel_rfl) (fun _ _ _ h => h) (Or.inl ⟨by rfl, ?_⟩) hHeld ?_
                              rotate_left
                              · (intro wz _; go_simp; try with_reducible rfl)
                              try simp only [List.getElem_toArray, List.getElem_cons_succ, List.getElem_cons_zero, Act.put, List.setIfInBounds_toArray, List.set_cons_zero, List.set_cons_succ]
                              refine wpAnyH_take (i := 40) (v := ?_) rfl (by kernel_rfl) (by kernel_rfl) (by kernel_rfl) (fun _ _ _ h => h) (Or.inl ⟨by rfl, ?_⟩) hHeld ?_
                              rotate_left
                              · (intro wz _; go_simp; try with_reducible rfl)
                              try simp only [List.getElem_toArray, List.getElem_cons_succ, List.getElem_cons_zero, Act.put, List.setIfInBounds_toArray, List.set_cons_zero, List.set_cons_succ]
                              refine wpAnyH_take (i := 41) (v := ?_) rfl (by kernel_rfl) (by kernel_rfl) (by kernel_rfl) (fun _ _ _ h => h) (Or.inl ⟨by rfl, ?_⟩) hHeld ?_
                              rotate_left
                              · (intro wz _; go_simp; try with_reducible rfl)
                              try simp only [List.getElem_toArray, List.getElem_cons_succ, List.getElem_cons_zero, Act.put, List.setIfInBounds_toArray, List.set_cons_zero, List.set_cons_succ]
                              refine wpAnyH_ready (rs := [42]) (by kernel_rfl) (by simp) ?_
                              refine AllReadyH.cons rfl (fun K hK => ?_) AllReadyH.nil
                              (refine step_yields rfl (yields_load1 rfl 3 _ rfl rfl hMg e0 Try.underlying3 rfl) h ?_)
                              refine hK.out _ _ (hHeld) (fun hHeld => ?_)
                              clear hK K
                              try simp only [Act.put, List.setIfInBounds_toArray, List.set_cons_zero, List.set_cons_succ]
                              have h := h.le hle9
                              clear hle9 hMg e0
                              cases hb2 : (((gl.clk v : Nat) : Int) != y.clk v)
                              · as_aux_lemma =>
                                  refine wpAnyH_take (i := 46) (v := ?_) rfl (by kernel_rfl) (by kernel_rfl) (by kernel_rfl) (fun _ _ _ h => h) (Or.inl ⟨by rfl, ?_⟩) hHeld ?_
                                  rotate_left
                                  · (intro wz _; go_simp; try with_reducible rfl)
                                  try simp only [List.getElem_toArray, List.getElem_cons_succ, List.getElem_cons_zero, Act.put, List.setIfInBounds_toArray, List.set_cons_zero, List.set_cons_succ]
                                  refine wpAnyH_take (i := 47) (v := ?_) rfl (by kernel_rfl) (by kernel_rfl) (by kernel_rfl) (fun _ _ _ h => h) (Or.inl ⟨by rfl, ?_⟩) hHeld ?_
                                  rotate_left
                                  · (intro wz _; go_simp; try with_reducible rfl)
                                  try simp only [List.getElem_toArray, List.getElem_cons_succ, List.getElem_cons_zero, Act.put, List.setIfInBounds_toArray, List.set_cons_zero, List.set_cons_succ]
                                  refine wpAnyH_take (i := 48) (v := ?_) rfl (by kernel_rfl) (by kernel_rfl) (by kernel_rfl) (fun _ _ _ h => h) (Or.inl ⟨by rfl, ?_⟩) hHeld ?_
                                  rotate_left
                                  · (intro wz _; go_simp; try with_reducible rfl)
                                  try simp only [List.getElem_toArray, List.getElem_cons_succ, List.getElem_cons_zero, Act.put, List.setIfInBounds_toArray, List.set_cons_zero, List.set_cons_succ]
                                  refine wpAnyH_take (i := 49) (v := undef) rfl (by kernel_rfl) (by kernel_rfl) (by kernel_rfl) (fun _ _ _ h => h) (Or.inr ⟨rfl, rfl⟩) hHeld ?_
                                  try simp only [List.getElem_toArray, List.getElem_cons_succ, List.getElem_cons_zero, Act.put, List.setIfInBounds_toArray, List.set_cons_zero, List.set_cons_succ]
                                  refine wpAnyH_take (i := 50) (v := undef) rfl (by kernel_rfl) (by kernel_rfl) (by kernel_rfl) (fun _ _ _ h => h) (Or.inr ⟨rfl, rfl⟩) hHeld ?_
                                  try simp only [List.getElem_toArray, List.getElem_cons_succ, List.getElem_cons_zero, Act.put, List.setIfInBounds_toArray, List.set_cons_zero, List.set_cons_succ]
                                  refine wpAnyH_take (i := 51) (v := ?_) rfl (by kernel_rfl) (by kernel_rfl) (by kernel_rfl) (fun _ _ _ h => h) (Or.inl ⟨by rfl, ?_⟩) hHeld ?_
                                  rotate_left
                                  · (intro wz _; go_simp; try with_reducible rfl)
                                  try simp only [List.getElem_toArray, List.getElem_cons_succ, List.getElem_cons_zero, Act.put, List.setIfInBounds_toArray, List.set_cons_zero, List.set_cons_succ]
                                  refine wpAnyH_done (by kernel_rfl) ?_ _
                                  go_wp2
                                  go_roundw
                                  case rel => (first | exact ⟨k + 1, M5, lab4, s4, y, by omega, by go_num, rfl, by rw [HGM.out]; try go_num, by first | rfl | rw [hft.out], h, HB.out.less (LKB.out y), HM.out, HI1.out⟩ | ((repeat apply Exists.intro); exact ⟨⟨k + 1, M5, lab4, s4, y, by omega, by go_num, rfl, by rw [HGM.out]; try go_num, by first | rfl | rw [hft.out], h, HB.out.less (LKB.out y), HM.out, HI1.out⟩, rfl⟩))
                                  case measure => simp [intOf]; omega
                              · have hft : Hid (y.fault = true) := Lib.hid (by
                                  cases e : y.fault
                                  · have := (HFL.out e).2
                                    rw [this] at hb2
                                    simp at hb2
                                  · rfl)
                                rw [hft.out]
                                as_aux_lemma =>
                                  refine wpAnyH_take (i := 46) (v := ?_) rfl (by kernel_rfl) (by kernel_rfl) (by kernel_rfl) (fun _ _ _ h => h) (Or.inl ⟨by rfl, ?_⟩) hHeld ?_
                                  rotate_left
                                  · (intro wz _; go_simp; try with_reducible rfl)
                                  try simp only [List.getElem_toArray, List.getElem_cons_succ, List.getElem_cons_zero, Act.put, List.setIfInBounds_toArray, List.set_cons_zero, List.set_cons_succ]
                                  refine wpAnyH_take (i := 47) (v := ?_) rfl (by kernel_rfl) (by kernel_rfl) (by kernel_rfl) (fun _ _ _ h => h) (Or.inl ⟨by rfl, ?_⟩) hHeld ?_
                                  rotate_left
                                  · (intro wz _; go_simp; try with_reducible rfl)
                                  try simp only [List.getElem_toArray, List.getElem_cons_succ, List.getElem_cons_zero, Act.put, List.setIfInBounds_toArray, List.set_cons_zero, List.set_cons_succ]
                                  refine wpAnyH_take (i := 48) (v := ?_) rfl (by kernel_rfl) (by kernel_rfl) (by kernel_rfl) (fun _ _ _ h => h) (Or.inl ⟨by rfl, ?_⟩) hHeld ?_
                                  rotate_left
                                  · (intro wz _; go_simp; try with_reducible rfl)
                                  try simp only [List.getElem_toArray, List.getElem_cons_succ, List.getElem_cons_zero, Act.put, List.setIfInBounds_toArray, List.set_cons_zero, List.set_cons_succ]
                                  refine wpAnyH_take (i := 49) (v := ?_) rfl (by kernel_rfl) (by kernel_rfl) (by kernel_rfl) (fun _ _ _ h => h) (Or.inl ⟨by rfl, ?_⟩) hHeld ?_
                                  rotate_left
                                  · (intro wz _; go_simp; try with_reducible rfl)
                                  try simp only [List.getElem_toArray, List.getElem_cons_succ, List.getElem_cons_zero, Act.put, List.setIfInBounds_toArray, List.set_cons_zero, List.set_cons_succ]
                                  refine wpAnyH_take (i := 50) (v := ?_) rfl (by kernel_rfl) (by kernel_rfl) (by kernel_rfl) (fun _ _ _ h => h) (Or.inl ⟨by rfl, ?_⟩) hHeld ?_
                                  rotate_left
                                  · (intro wz _; go_simp; try with_reducible rfl)
                                  try simp only [List.getElem_toArray, List.getElem_cons_succ, List.getElem_cons_zero, Act.put, List.setIfInBounds_toArray, List.set_cons_zero, List.set_cons_succ]
                                  refine wpAnyH_take (i := 51) (v := ?_) rfl (by kernel_rfl) (by kernel_rfl) (by kernel_rfl) (fun _ _ _ h => h) (Or.inl ⟨by rfl, ?_⟩) hHeld ?_
                                  rotate_left
                                  · (intro wz _; go_simp; try with_reducible rfl)
                                  try simp only [List.getElem_toArray, List.getElem_cons_succ, List.getElem_cons_zero, Act.put, List.setIfInBounds_toArray, List.set_cons_zero, List.set_cons_succ]
                                  refine wpAnyH_done (by kernel_rfl) ?_ _
                                  go_wp2
                                  go_roundw
                                  case rel => (first | exact ⟨k + 1, M5, lab4, s4, y, by omega, by go_num, rfl, by rw [HGM.out]; try go_num, by first | rfl | rw [hft.out], h, HB.out.less (LKB.out y), HM.out, HI1.out⟩ | ((repeat apply Exists.intro); exact ⟨⟨k + 1, M5, lab4, s4, y, by omega, by go_num, rfl, by rw [HGM.out]; try go_num, by first | rfl | rw [hft.out], h, HB.out.less (LKB.out y), HM.out, HI1.out⟩, rfl⟩))
                                  case measure => simp [intOf]; omega
                    · have gg : decide ((0 : Int) < (y.given : Nat)) = false := decide_eq_false (by omega)
                      as_aux_lemma =>
                        clear hbg
                        refine wp_region_class (Has σ M5) (by kernel_rfl) (by kernel_rfl) h.drew ?_
                        clear h
                        repeat (first
                          | go_big_quiet_skip
                          | (go_big_quiet_want; first
                            | (refine quiet_load_has 3 _ rfl rfl hbam d1 Try.underlying3 rfl ?_; simp only [Act.put, List.setIfInBounds_toArray, List.set_cons_zero, List.set_cons_succ]; go_big_quiet_on)
                            | (go_big_quiet_op; first | go_big_quiet_on | go_big_quiet_call (first | with_reducible exact fun _ => rfl))))
                        refine wpQuiet_nil ?_
                        try clear w
                        intro w h
                        go_wp2
                        go_roundw
                        case rel => (first | exact ⟨k + 1, M5, lab4, s4, y, by omega, by go_num, rfl, rfl, rfl, h, HB.out.less (LKB.out y), HM.out, HI1.out⟩ | ((repeat apply Exists.intro); exact ⟨⟨k + 1, M5, lab4, s4, y, by omega, by go_num, rfl, rfl, rfl, h, HB.out.less (LKB.out y), HM.out, HI1.out⟩, rfl⟩))
                        case measure => simp [intOf]; omega
    · obtain rfl : k = n := by omega
      have hgt : ¬ ((k : Int) < (k : Int)) := by omega
      have ht0 : ∃ q, s.tp[0]? = some q := ⟨_, List.getElem?_eq_getElem (by have := hM.tlen; rw [hI.cc] at this; have h2 := HC.out.2.1; omega)⟩
      obtain ⟨q, hq⟩ := ht0
      have SP := Lib.hid (fun (w : World) (h : Has σ M1 w) => step_idle h hM hq (by have := hI.deep 0; omega) .nilFunc (.inr (.inr rfl)))
      have SS := Lib.hid (fun (w : World) (h : Has σ M1 w) => mSteps_eq h hM)
      rw [hI.steps] at SS
      have hleA := Mm.le_trans hle0 (Mm.le_trans leK1 (Mm.le_trans (LEK.out x) hB.le))
      clear hM hB hI hq
      go_wp2_with (first
        | (go_at_call 15; refine (SP.out _ h).mono ?_; clear h; rintro _ w ⟨rfl, h⟩)
        | (go_at_call 28; refine (SS.out _ h).mono ?_; clear h; rintro _ w ⟨rfl, h⟩)
        | (go_at_call 8; refine (LI.out _ _ h).mono ?_; clear h; rintro _ w ⟨rfl, h⟩))
      go_ret
      exact ⟨rfl, h.le hleA⟩
end Go.Proofs.Ytnknlleflpkijaa
