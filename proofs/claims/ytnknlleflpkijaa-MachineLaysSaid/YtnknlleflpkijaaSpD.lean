/- Law 21, MachineSteps: rows of Bools; no machine, or too many steps. -/
import Derived.Test.YtnknlleflpkijaaSpC
import Derived.Test.YtnknlleflpkijaaApF
import Derived.Test.YtnknlleflpkijaaAllP
import Derived.Test.YtnknlleflpkijaaRefLevel
namespace Go.Proofs.Ytnknlleflpkijaa
open Go.RowKit
set_option linter.unusedVariables false
set_option linter.unusedSimpArgs false
set_option linter.unnecessarySimpa false
def bools (n : Nat) (f : Nat → Bool) : Array Value := ((List.range n).map fun i => Value.bool (f i)).toArray
theorem bools_get {n : Nat} {f : Nat → Bool} {i : Nat} (h : i < n) : (bools n f)[i]? = some (.bool (f i)) := by simp [bools, h]
theorem bools_size (n : Nat) (f : Nat → Bool) : (bools n f).size = n := by simp [bools]
theorem bools_set (n : Nat) (f : Nat → Bool) (i : Nat) (b : Bool) : (bools n f).setIfInBounds i (.bool b) = bools n fun j => if j = i then b else f j := by
  apply Array.ext_getElem?
  intro j
  by_cases hj : j < n
  · rw [bools_get hj, Array.getElem?_setIfInBounds, bools_get hj]
    by_cases e : i = j
    · subst e; simp [bools_size, hj]
    · rw [if_neg e, if_neg (fun h => e h.symm)]
  · rw [Array.getElem?_eq_none (by simp [bools_size]; omega), Array.getElem?_eq_none (by simp [bools_size]; omega)]
theorem info_bool : (Try.prog.info? 4).map (fun i => (i.zero, i.size, i.bytes)) = some (some (.bool false), 1, 1) := by kernel_rfl
theorem made_bool (n : Nat) : madeCells (Value.bool false).cells (n * 1) = bools n fun _ => false := by
  apply Array.ext_getElem?
  intro i
  unfold madeCells bools
  by_cases hi : i < n
  · simp [Value.cells, hi, Nat.mod_one]
  · simp [Value.cells, hi]
theorem mk_bool (N : Nat) (h : N ≤ 100000) (W : World) : (Instr.makeSlice 54 (.int .i64 N) (.int .i64 N)).run Try.prog W = .ok (.slice (some ⟨W.heap.size, 0, none⟩) N N) (W.alloc (.cells (bools N fun _ => false) 4)) := by
  obtain ⟨i, hi, he⟩ := Option.map_eq_some_iff.1 info_bool
  simp only [Prod.mk.injEq] at he
  obtain ⟨h1, h2, h3⟩ := he
  rw [run_makeSlice W 54 4 i (.bool false) Try.underlying54 hi h1 .i64 .i64 N N (by omega) (by omega) (by rw [h2, Int.toNat_natCast]; omega) (by rw [h3]; omega) (by omega), Int.toNat_natCast, h2, made_bool]
theorem mSteps_eq {σ w : World} {M : Mm} {lab : Nat → Nat} {p : Nat} {s : MachS} (h : Has σ M w) (hM : Mach M lab p s) : Calls Try.prog 28 #[.pointer (some ⟨p, 0, none⟩)] w fun r w' => r = .returned (.int .i64 (s.steps : Nat)) ∧ Has σ M w' := by
  have c9 : w.cell? ⟨p, 9, none⟩ = some (.int .i64 (s.steps : Nat)) := h.cell hM.obj 9
  go_enter Try.func28, Try.ntmps28
  go_wp2
  go_ret
  exact ⟨rfl, h⟩
/-- What a caller was handed is its own from here on. -/
theorem Mach.moreAcc {K M M3 : Mm} {lab : Nat → Nat} {p : Nat} {s : MachS} (hM : Mach M lab p s) (hB : Base K M lab) {e : TypeId} {sz n : Nat} {v : Value} {xs : List Value} (hle : M.le M3) (hown : Own M M3 e sz v n xs) : ∃ K' lab', Mach M3 lab' p s ∧ Base K' M3 lab' ∧ K.le K' ∧ Rd K' sz v n xs := by
  have hK : ∀ c o, (fun c => match M c with | none => M3 c | some _ => K c) c = some o → M3 c = some o ∧ (K c = some o ∨ M c = none) := fun c o hc => by
    simp only at hc
    cases hm : M c with
    | none => rw [hm] at hc; exact ⟨hc, .inr rfl⟩
    | some o' => rw [hm] at hc; exact ⟨hle _ _ (hB c o hc).1, .inl hc⟩
  obtain ⟨lab', h1, h2⟩ := hM.more hB hle hK
  refine ⟨_, lab', h1, h2, fun c o hc => ?_, hown.rd_in fun c x h0 h1 => ?_⟩
  · have := (hB c o hc).1
    simp only [this]
    exact hc
  · simp only [h0]
    exact h1
set_option maxHeartbeats 2000000 in
set_option maxRecDepth 20000 in
/-- No machine, or too many steps. -/
theorem steps_short {σ w : World} {M : Mm} (h : Has σ M w) (c : Nat → Int) {A : Option Addr} {n cap : Nat} (hs : confMayB c = false ∨ 60 < n) :
    Calls Try.prog 4 #[confV c, .slice A n cap] w fun r w' => r = .returned (.bool true) ∧ Has σ M w' := by
  have RM := Lib.hid (fun (M' : Mm) (w : World) (h : Has σ M' w) => refMay_has h c)
  have LI := Lib.hid (fun (M' : Mm) (w : World) (h : Has σ M' w) => lives_eq h)
  have hx : (ints .i64 14 c).extract 0 (0 + 14) = ints .i64 14 c := rfl
  have hz : (ints .i64 14 c).size = 14 := rfl
  cases hm : confMayB c
  · have NW := Lib.hid (fun (M' : Mm) (w : World) (h : Has σ M' w) => mNew_no h c hm)
    unfold errV at NW
    rw [hm] at RM
    unfold confV at NW RM ⊢
    generalize ints .i64 14 c = row at NW RM hx hz ⊢
    clear hs hm
    go_enter Try.func4, Try.ntmps4
    go_upto_region 1 with (fail)
    obtain ⟨M1, hbx, hle, hbf, hnf⟩ := h.box (.cells row 24)
    generalize w.alloc _ = wx at hbx ⊢
    generalize w.heap.size = bf at hbf hnf ⊢
    clear h
    try clear w
    have h := hbx
    clear hbx
    obtain ⟨w, rfl⟩ : ∃ x : World, x = wx := ⟨_, rfl⟩
    go_wp2_with (first
      | ((with_reducible show wpList _ _ _ ({ dst := _, op := Op.load 24 _, type := _, pos := _, after := _, guard := _ } :: _) _ _); refine wpList_agg_has h rfl 24 _ rfl rfl hbf hx hz Try.underlying24 rfl (by kernel_rfl) ?_; try simp only [Act.put, List.setIfInBounds_toArray, List.set_cons_zero, List.set_cons_succ])
      | ((go_at_call 6; refine (NW.out _ _ h).mono ?_; clear h; rintro _ w ⟨b, M2, rfl, h, hle2, hn⟩; have hbf := hle2 _ _ hbf))
      | (go_at_call 7; refine (RM.out _ _ h).mono ?_; clear h; rintro _ w ⟨rfl, h⟩)
      | (go_at_call 8; refine (LI.out _ _ h).mono ?_; clear h; rintro _ w ⟨rfl, h⟩))
    go_ret
    exact ⟨rfl, h.le (Mm.le_trans hle hle2)⟩
  · have hc := confMay_of hm
    obtain ⟨L, B, S, hn⟩ := Nums.of hc
    have h60 : decide ((60 : Int) < (n : Int)) = true := decide_eq_true (by rcases hs with hs | hs; rw [hm] at hs; cases hs; omega)
    have NW := Lib.hid (fun (M' : Mm) (w : World) (h : Has σ M' w) => mNew_yes h c hc hn)
    rw [hm] at RM
    unfold confV at NW RM ⊢
    generalize ints .i64 14 c = row at NW RM hx hz ⊢
    clear hs hm hc hn
    go_enter Try.func4, Try.ntmps4
    go_upto_region 1 with (fail)
    obtain ⟨M1, hbx, hle, hbf, hnf⟩ := h.box (.cells row 24)
    generalize w.alloc _ = wx at hbx ⊢
    generalize w.heap.size = bf at hbf hnf ⊢
    clear h
    try clear w
    have h := hbx
    clear hbx
    obtain ⟨w, rfl⟩ : ∃ x : World, x = wx := ⟨_, rfl⟩
    go_wp2_with (first
      | ((with_reducible show wpList _ _ _ ({ dst := _, op := Op.load 24 _, type := _, pos := _, after := _, guard := _ } :: _) _ _); refine wpList_agg_has h rfl 24 _ rfl rfl hbf hx hz Try.underlying24 rfl (by kernel_rfl) ?_; try simp only [Act.put, List.setIfInBounds_toArray, List.set_cons_zero, List.set_cons_succ])
      | ((go_at_call 6; refine (NW.out _ _ h).mono ?_; clear h; rintro _ w ⟨p, M2, lab, s, rfl, h, hB, hM, hN⟩; have hle2 := hB.le; have hbf := hle2 _ _ hbf; clear hB hM hN))
      | (go_at_call 7; refine (RM.out _ _ h).mono ?_; clear h; rintro _ w ⟨rfl, h⟩)
      | (go_at_call 8; refine (LI.out _ _ h).mono ?_; clear h; rintro _ w ⟨rfl, h⟩))
    go_ret
    exact ⟨rfl, h.le (Mm.le_trans hle hle2)⟩
/-- A step that counts, as the law sees it. -/
theorem spStep_eq {σ w : World} {K M : Mm} {lab : Nat → Nat} {p k ba t q v : Nat} {s : MachS} {x : SpS} {a : ActS} {c : Nat → Int} (h : Has σ M w) (hM : Mach M lab p s) (hB : Base K M lab) (hI : SpInv c k s x) (hc : ConfMay c) (hk60 : k ≤ 60) (hb : K ba = some (.cells a.row 35)) (hkd : 0 ≤ a.kind ∧ a.kind ≤ 5)
    (hq : s.tp[t]? = some q) (hfr : (s.thr t).frames ≠ []) (hst : (s.thr t).st = false) (hlv : levelOf c (t : Nat) = (v : Nat)) (hvc : (v : Int) < c 0) :
    Calls Try.prog 15 #[.pointer (some ⟨p, 0, none⟩), .int .i64 (t : Nat), .func (.func 25) #[] #[.pointer (some ⟨ba, 0, none⟩)]] w fun r w' => ∃ M' lab' s' emp, r = .returned (.bool (!emp)) ∧ Has σ M' w' ∧ Base K M' lab' ∧ Mach M' lab' p s' ∧ SpInv c (k + 1) s' (x.next c v a) ∧ s'.tp[t]? = some q ∧ emp = (s'.thr t).frames.isEmpty ∧
      ((x.next c v a).fault = false → a.kind = 5 → a.at_ = 1 → ∃ g : GivenS, s'.given = s.given ++ [g] ∧ g.lv = (v : Int) ∧ (g.clk v : Int) = (x.next c v a).clk v) := by
  have hlv1 : levelOf s.c t = (v : Nat) := by rw [hI.cc]; exact hlv
  have b1 := hI.acc
  have b2 := hI.wr
  have b3 := hI.steps
  have b4 := hI.stepsLe
  have b5 := hI.deep t
  have b6 := hI.slips
  have b7 := hI.given
  have b8 := hI.givenLe
  have hki := hI.ki t
  have STP := step_eq (R := fun s2 => ∃ gv, s2 = (s.tick v).does t v a gv) (F := 25) (caps := #[.pointer (some ⟨ba, 0, none⟩)]) h hM hB (t := t) (q := q) (lv := v) hq hfr
    (by rw [hst, hki]; rfl) hlv1 (by omega) (by omega) (fun j => by have := hI.clkLe j; omega) (by omega) (by kernel_rfl)
    (fun M5 lab5 w5 h5 hM5 hB5 => steps1_eq h5 hM5 hB5 hb hkd hq hfr (by show (s.thr t).frames.length < _; omega) hlv1 (by show s.mem.acc < _; omega) (by show s.mem.wr < _; omega) hI.stamp ⟨(hI.gens v a.at_).1, by have := (hI.gens v a.at_).2; show valE v a.at_ s.ward.gens < _; omega⟩ (by show s.ward.slips < _; omega) (by show s.given.length < _; omega))
    (fun s2 e => by
      obtain ⟨gv, rfl⟩ := e
      obtain ⟨q1, q2, q3, q4, q5⟩ := does_keep (s.tick v) t v a gv
      refine ⟨q2, by rw [q4]; show s.steps < _; omega, ?_⟩
      unfold MachS.does MachS.dropped
      repeat' split
      all_goals first
        | (show (s.thr t).frames.length < _; omega)
        | (show (if t = t then (s.thr t).back [] else s.thr t).frames.length < _; rw [if_pos rfl]; unfold ThrS.back; simp only [List.length_dropLast]; omega))
  refine STP.mono fun r w' hr => ?_
  obtain ⟨M', lab', s2, ⟨gv, rfl⟩, hr, h', hB', hM'⟩ := hr
  have e0 : MachS.watch { (s.tick v).does t v a gv with steps := ((s.tick v).does t v a gv).steps + 1 } v s.mem.acc s.mem.wr = s.step t v a gv := by
    unfold MachS.step
    rw [(does_keep (s.tick v) t v a gv).2.2.2.1]
    rfl
  have hM2 : Mach M' lab' p (s.step t v a gv) := by rw [← e0]; exact hM'
  have tt : (s.step t v a gv).tp = s.tp ∧ (s.step t v a gv).thr = ((s.tick v).does t v a gv).thr := ⟨(watch_same _ _ _ _).2.1.trans (does_keep (s.tick v) t v a gv).2.1, (watch_same _ _ _ _).2.2.2.2.2.1⟩
  have hn := hI.next hc (t := t) hvc a hkd gv
  refine ⟨M', lab', s.step t v a gv, _, ?_, h', hB', hM2, hn, by rw [tt.1]; exact hq, rfl, fun hf hk ha => ?_⟩
  · rw [tt.2]; exact hr
  · have hd : x.drops v a = true := by
      cases hd : x.drops v a
      · unfold SpS.next at hf
        rw [hd, hk] at hf
        simp at hf
      · rfl
    have hh : (s.tick v).ward.has v a.at_ = true := by
      refine (hI.has hc hvc a.at_).trans ?_
      unfold SpS.drops at hd
      rw [Bool.and_eq_true] at hd
      exact hd.2
    have e1 : (s.tick v).does t v a gv = (s.tick v).dropped v a.at_ gv := by unfold MachS.does; rw [hk]; rfl
    have hv4 : v < 4 := by have := hc.1; omega
    refine ⟨⟨v, (s.tick v).ward.link v a.at_, (s.tick v).clk⟩, ?_, rfl, ?_⟩
    · refine (watch_given _ _ _ _).1.trans ?_
      show ((s.tick v).does t v a gv).given = _
      rw [e1]
      unfold MachS.dropped
      rw [if_pos hh]
      rfl
    · have q3 := (does_keep (s.tick v) t v a gv).2.2.1
      rw [hn.clk v hv4]
      have q4 : (s.step t v a gv).clk = (s.tick v).clk := (watch_same { (s.tick v).does t v a gv with steps := s.steps + 1 } v s.mem.acc s.mem.wr).2.2.2.1.trans q3
      show (((s.tick v).clk v : Nat) : Int) = _
      rw [q4]
end Go.Proofs.Ytnknlleflpkijaa
