/- Walks of layer 21 (machine): New. -/
import Derived.Test.YtlpkimpdeeiaaaaGreatMach
namespace Go.Proofs.YtlpkimpdeeiaaaaGreat
open Go.RowKit
set_option linter.unusedVariables false
set_option linter.unusedSimpArgs false
set_option linter.unnecessarySimpa false
section
variable {P : Program} {op : Oper} {a : Act} {ops : Array Oper} {σ w : World} {M M0 : Mm} {Q : Exit → Act → World → Prop} {K : Act → World → Prop} {E : Prop}
/-- One cell is stored, at a step of a region that draws. -/
theorem step_store1 (h : Has σ M w) (hg : op.guard = none) (t : TypeId) (x y : Operand) (ho : op.op = .store t x y) (hdst : op.dst = none) {b i : Nat} (hx : a.eval x = .pointer (some ⟨b, i, none⟩))
    {cs : Array Value} {e : TypeId} (hb : M b = some (.cells cs e (0, 0))) (hlt : i < cs.size) {v : Value} (hy : a.eval y = v) (h1 : v.oneCell' = true) (hi : (P.info? t).map (·.size) = some 1)
    (hk : ∀ w', Has σ (M.upd b (.cells (cs.setIfInBounds i v) e)) w' → K a w') : if Region.wanted op (yielded ops a.tmps) = true then Oper.wp P op a w K Q else E := by
  have hw : Region.wanted op (yielded ops a.tmps) = true := by simp [Region.wanted, hg]
  rw [if_pos hw]
  subst hy
  have hst : (store ⟨b, i, none⟩ (a.eval y)).run P w = .ok () (w.setCell ⟨b, i, none⟩ (a.eval y)) := by
    rw [run_store P w _ _ _ h1, h.cell hb, Array.getElem?_eq_getElem hlt]
    simp [h.free hb]
  have hc : (a.eval y).cells = #[a.eval y] := by revert h1; cases a.eval y <;> simp [Value.cells, Value.oneCell']
  have hadd : (⟨b, i, none⟩ : Addr).add 0 = ⟨b, i, none⟩ := rfl
  cases hq : P.info? t with
  | none => simp [hq] at hi
  | some ti =>
    have hs : ti.size = 1 := by simpa [hq] using hi
    have hsv : (storeVar t ⟨b, i, none⟩ (a.eval y)).run P w = .ok () (w.setCell ⟨b, i, none⟩ (a.eval y)) := by
      simp [storeVar, sizeOf, typeInfo, hq, hc, hs, storeCells, hadd, Sem.run_bind, hst]
    unfold Oper.wp execOp
    simp only [ho, hx, Instr.storeAt, Instr.sureAddr, Sem.run_bind, Sem.run_pure, Result.andThen_ok, hsv]
    show K (a.put op.dst undef) _
    rw [hdst]
    exact hk _ (h.setCell hb i (a.eval y))
end
def errV (b : Nat) : Value := .iface 92 (.pointer (some ⟨b, 0, none⟩))
theorem failMade {σ w : World} {M : Mm} (h : Has σ M w) (t l : Int) (wh : ByteArray) (e : Int) (he : e ≠ 0) :
    Calls Tryz.prog 18 #[.int .i64 t, .int .i64 l, .string wh, .int .i64 e] w fun r w' => ∃ b M', r = .returned (errV b) ∧ Has σ M' w' ∧ M.le M' ∧ M' b = some (.cells #[.int .i64 t, .int .i64 l, .string wh, .iface 60 (.int .i64 e)] 94) ∧ M b = none := by
  have hd : (e == 0) = false := beq_eq_false_iff_ne.2 he
  clear he
  go_enter Tryz.func18, Tryz.ntmps18
  go_wp2
  go_ret
  exact ⟨_, _, rfl, h.alloc _, Mm.le_upd' h.fresh _, Mm.upd_same _ _ _, h.fresh⟩
/-- No machine of a configuration that may not be. -/
theorem mNew_no {σ w : World} {M : Mm} (h : Has σ M w) (c : Nat → Int) (hc : confMayB c = false) :
    Calls Tryz.prog 10 #[confV c] w fun r w' => ∃ b M', r = .returned (.tuple #[.pointer none, errV b]) ∧ Has σ M' w' ∧ M.le M' ∧ M b = none := by
  have PN := Lib.hid (fun (M' : Mm) (w : World) (h : Has σ M' w) => planNew_no h c hc)
  have FN := Lib.hid (fun (M' : Mm) (w : World) (h : Has σ M' w) => failMade h (-1) (-1) ⟨#[109, 97, 99, 104, 105, 110, 101]⟩ 1 (by omega))
  clear hc
  have hx : (ints .i64 14 c).extract 0 (0 + 14) = ints .i64 14 c := rfl
  have hz : (ints .i64 14 c).size = 14 := rfl
  simp only [confV] at PN ⊢
  generalize ints .i64 14 c = row at PN hx hz ⊢
  go_enter Tryz.func10, Tryz.ntmps10
  go_upto_region 1 with (fail)
  obtain ⟨M1, hbx, hle, hbf, hnf⟩ := h.box (.cells row 29)
  generalize w.alloc _ = wx at hbx ⊢
  generalize w.heap.size = bf at hbf hnf ⊢
  clear h
  try clear w
  have h := hbx
  clear hbx
  obtain ⟨w, rfl⟩ : ∃ x : World, x = wx := ⟨_, rfl⟩
  go_wp2_with (first
    | ((with_reducible show wpList _ _ _ ({ dst := _, op := Op.load 29 _, type := _, pos := _, after := _, guard := _ } :: _) _ _); refine wpList_agg_has h rfl 29 _ rfl rfl hbf hx hz Tryz.underlying29 rfl (by kernel_rfl) ?_; try simp only [Act.put, List.setIfInBounds_toArray, List.set_cons_zero, List.set_cons_succ])
    | (go_at_call 17; refine (PN.out _ _ h).mono ?_; clear h; rintro _ w ⟨rfl, h⟩)
    | (go_at_call 18; refine (FN.out _ _ h).mono ?_; clear h; rintro _ w ⟨b, M2, rfl, h, hle2, hb, hn⟩))
  go_ret2
  exact ⟨b, M2, rfl, h, Mm.le_trans hle hle2, Mm.none_of hle hn⟩
/-- A machine, made of its parts. -/
theorem mach_start {M1 M2 M3 M4 M5 : Mm} {c : Nat → Int} (hc : ConfMay c) {pl mp wb wp hb gb p N : Nat} {f : Nat → Int} (eN : (N : Int) = c 0 * firsts c 10) (hle2 : M1.le M2) (hle3 : M2.le M3) (hle4 : M3.le M4) (hle5 : M4.le M5)
    (hpl : M2 pl = some (planRow c)) (npl : M1 pl = none) (hmem : IsMem M4 mp (memNew wb N f)) (nmp : M3 mp = none) (nwb : M3 wb = none) (hward : IsWard M5 wp ⟨hb, gb, c 0, c 10, [], 0, [], 0, 0⟩) (nwp : M4 wp = none) (nhb : M4 hb = none) (ngb : M4 gb = none) (np : M5 p = none) :
    ∃ lab, Base M1 (M5.upd p (.cells (MachS.row ⟨c, pl, mp, wp, .slice none 0 0, [], .slice none 0 0, [], memNew wb N f, ⟨hb, gb, c 0, c 10, [], 0, [], 0, 0⟩, fun _ => thr0, fun _ => 0, 0, false⟩) 73)) lab ∧
      Mach0 (M5.upd p (.cells (MachS.row ⟨c, pl, mp, wp, .slice none 0 0, [], .slice none 0 0, [], memNew wb N f, ⟨hb, gb, c 0, c 10, [], 0, [], 0, 0⟩, fun _ => thr0, fun _ => 0, 0, false⟩) 73)) lab p ⟨c, pl, mp, wp, .slice none 0 0, [], .slice none 0 0, [], memNew wb N f, ⟨hb, gb, c 0, c 10, [], 0, [], 0, 0⟩, fun _ => thr0, fun _ => 0, 0, false⟩ := by
  have le13 := Mm.le_trans hle2 hle3
  have le14 := Mm.le_trans le13 hle4
  have le15 := Mm.le_trans le14 hle5
  have le24 := Mm.le_trans hle3 hle4
  have le25 := Mm.le_trans le24 hle5
  have n15 : ∀ x, (x = p ∨ x = wp ∨ x = hb ∨ x = gb ∨ x = mp ∨ x = wb ∨ x = pl) → M1 x = none := by
    rintro x (rfl | rfl | rfl | rfl | rfl | rfl | rfl)
    · exact Mm.none_of le15 np
    · exact Mm.none_of le14 nwp
    · exact Mm.none_of le14 nhb
    · exact Mm.none_of le14 ngb
    · exact Mm.none_of le13 nmp
    · exact Mm.none_of le13 nwb
    · exact npl
  have p5 := le25 _ _ hpl
  have m5 := hle5 _ _ hmem.obj
  have w5 := hle5 _ _ hmem.row
  have dpl : pl ≠ p := Mm.ne_of np p5
  have dmp : mp ≠ p := Mm.ne_of np m5
  have dwb : wb ≠ p := Mm.ne_of np w5
  have dwp : wp ≠ p := Mm.ne_of np hward.obj
  have dhb : hb ≠ p := Mm.ne_of np hward.held
  have dgb : gb ≠ p := Mm.ne_of np hward.gens
  have p3 := hle3 _ _ hpl
  have e1 : pl ≠ mp := Mm.ne_of nmp p3
  have e2 : pl ≠ wb := Mm.ne_of nwb p3
  have p4 := hle4 _ _ p3
  have e3 : pl ≠ wp := Mm.ne_of nwp p4
  have e4 : pl ≠ hb := Mm.ne_of nhb p4
  have e5 : pl ≠ gb := Mm.ne_of ngb p4
  have m1 : mp ≠ wp := Mm.ne_of nwp hmem.obj
  have m2 : mp ≠ hb := Mm.ne_of nhb hmem.obj
  have m3 : mp ≠ gb := Mm.ne_of ngb hmem.obj
  have r1 : wb ≠ wp := Mm.ne_of nwp hmem.row
  have r2 : wb ≠ hb := Mm.ne_of nhb hmem.row
  have r3 : wb ≠ gb := Mm.ne_of ngb hmem.row
  refine ⟨fun x => if x = p then 4 else if x = wp ∨ x = hb ∨ x = gb then 3 else if x = mp ∨ x = wb then 2 else if x = pl then 1 else 0, fun x o hx => ⟨?_, ?_⟩, Mm.upd_same _ _ _, by simp, hc, ?_, ?_, ⟨?_, ?_⟩, ⟨?_, ?_⟩, eN, ⟨?_, ?_, ?_, hward.ne⟩, ⟨?_, ?_, ?_⟩, ⟨rfl, rfl⟩, Row.nil _ _ _ _ _, fun t q ht => by simp at ht, Row.nil _ _ _ _ _⟩
  · rw [Mm.upd_ne (fun e => by rw [n15 x (.inl e)] at hx; cases hx)]
    exact le15 _ _ hx
  · have : ¬ (x = p ∨ x = wp ∨ x = hb ∨ x = gb ∨ x = mp ∨ x = wb ∨ x = pl) := fun e => by rw [n15 x e] at hx; cases hx
    simp only [not_or] at this
    obtain ⟨a1, a2, a3, a4, a5, a6, a7⟩ := this
    simp [a1, a2, a3, a4, a5, a6, a7]
  · exact (Mm.upd_ne dpl).trans p5
  · simp [dpl, e1, e2, e3, e4, e5]
  · exact (Mm.upd_ne dmp).trans m5
  · exact (Mm.upd_ne dwb).trans w5
  · simp [dmp, m1, m2, m3]
  · show (if wb = p then 4 else if wb = wp ∨ wb = hb ∨ wb = gb then 3 else if wb = mp ∨ wb = wb then 2 else if wb = pl then 1 else 0) = 2
    simp [dwb, r1, r2, r3]
  · exact (Mm.upd_ne dwp).trans hward.obj
  · exact (Mm.upd_ne dhb).trans hward.held
  · exact (Mm.upd_ne dgb).trans hward.gens
  · simp [dwp]
  · simp [dhb]
  · simp [dgb]
/-- One thread more. -/
theorem Mach0.add {K M M3 : Mm} {lab lab1 : Nat → Nat} {p q : Nat} {s : MachS} {v : Value} (hM : Mach0 M lab p s) (hB : Base K M lab) (nq : M q = none) (hl1 : lab1 = fun c => if c = q then 10 + 4 * s.tp.length else lab c)
    (hle : ((M.upd q (.cells (thr0.row (.slice none 0 0) (.slice none 0 0)) 112)).out lab1 5).le M3) (ho : Own ((M.upd q (.cells (thr0.row (.slice none 0 0) (.slice none 0 0)) 112)).out lab1 5) M3 74 1 v (s.tp.length + 1) (ptrs (s.tp ++ [q]))) (ht : s.thr s.tp.length = thr0)
    {s' : MachS} (hs : s' = { s with tv := v, tp := s.tp ++ [q] }) : ∃ lab', Base K (M3.upd p (.cells s'.row 73)) lab' ∧ Mach0 (M3.upd p (.cells s'.row 73)) lab' p s' := by
  subst hs
  obtain ⟨lab', hK, hR⟩ := Row.grow hle ho
  have q1 : lab1 q = 10 + 4 * s.tp.length := by rw [hl1]; exact if_pos rfl
  have k1 : Kp Non M lab (M.upd q (.cells (thr0.row (.slice none 0 0) (.slice none 0 0)) 112)) lab1 := fun c o hc _ => ⟨Mm.upd_of nq hc, by rw [hl1]; exact if_neg (Mm.ne_of nq hc)⟩
  have k2 := k1.non.trans hK
  obtain ⟨p1, p2⟩ := k2.get hM.obj hM.mark (by omega)
  have k3 : Kp (fun j => j = 4) M3 lab' (M3.upd p (.cells (MachS.row { s with tv := v, tp := s.tp ++ [q] }) 73)) lab' := Kp.upd p2 _
  have k4 : Kp (fun k => k = 4 ∨ k = 5) M lab (M3.upd p (.cells (MachS.row { s with tv := v, tp := s.tp ++ [q] }) 73)) lab' := (k2.mono fun _ h => .inr h).trans (k3.mono fun _ h => .inl h)
  refine ⟨lab', hB.keep k4 (by omega), hM.own k4 rfl rfl rfl rfl rfl rfl rfl rfl (Mm.upd_same _ _ _) p2 ?_ ?_⟩
  · have := hR.keep k3 (by omega)
    rw [List.length_append]
    exact this
  · intro t p' hp'
    rcases Nat.lt_or_ge t s.tp.length with hi | hi
    · rw [List.getElem?_append_left hi] at hp'
      exact (hM.each t p' hp').keep k4 fun k hk => by unfold OfThr at hk; omega
    · rw [List.getElem?_append_right hi] at hp'
      cases hj : t - s.tp.length with
      | succ j => rw [hj] at hp'; simp at hp'
      | zero =>
        rw [hj] at hp'
        obtain rfl : t = s.tp.length := by omega
        simp at hp'
        subst hp'
        show IsThr _ _ _ _ (s.thr s.tp.length)
        rw [ht]
        have := thr0_is M lab1 s.tp.length q q1
        exact (this.keep hK fun k hk => by unfold OfThr at hk; omega).keep k3 fun k hk => by unfold OfThr at hk; omega
/-- Another row of what the warden holds. -/
theorem Mach0.holds {K M : Mm} {lab : Nat → Nat} {p : Nat} {s : MachS} (hM : Mach0 M lab p s) (hB : Base K M lab) (es : List Ent) (clk : Nat) {s' : MachS} (hs : s' = { s with ward := { s.ward with held := es, hclk := clk } }) :
    Base K (M.upd s.ward.hb (mapRow es clk)) lab ∧ Mach0 (M.upd s.ward.hb (mapRow es clk)) lab p s' := by
  subst hs
  obtain ⟨o1, o2, h1, h2, h3, h4, h5, h6, h7, h8, h9, h10, h11, h12⟩ := hM
  have hK : Kp (fun j => j = 3) M lab (M.upd s.ward.hb (mapRow es clk)) lab := Kp.upd h8.2.1 _
  obtain ⟨m1, m2⟩ := h4.keep h5 hK (by omega)
  refine ⟨hB.keep hK (by omega), (hK.get o1 o2 (by omega)).1, o2, h1, (hK.get h2 h3 (by omega)).1, h3, m1, m2, h6, ⟨?_, Mm.upd_same _ _ _, ?_, h7.ne⟩, h8, h9, h10.keep hK (by omega), fun t q hq => (h11 t q hq).keep hK fun k hk => by unfold OfThr at hk; omega, h12.keep hK (by omega)⟩
  · exact (Mm.upd_ne h7.neh).trans h7.obj
  · exact (Mm.upd_ne h7.ne.symm).trans h7.gens
def firstHeld (n : Nat) : List Ent := (List.range n).map fun (l : Nat) => ⟨l, 1, 1, l⟩
theorem firstHeld_has (n : Nat) : hasE n 1 (firstHeld n) = false := by
  have : ∀ m k : Nat, m ≤ k → hasE k 1 (firstHeld m) = false := fun m k hk => by
    unfold firstHeld
    have h2 : ∀ l : List Nat, (∀ x ∈ l, x < k) → hasE k 1 (l.map fun (l : Nat) => (⟨l, 1, 1, l⟩ : Ent)) = false := fun l => by
      induction l with
      | nil => intro _; rfl
      | cons x r ih =>
        intro hx
        have h0 := hx x (by simp)
        simp only [List.map_cons, hasE, Bool.or_eq_false_iff]
        exact ⟨by simp; omega, ih fun y hy => hx y (by simp [hy])⟩
    exact h2 _ fun x hx => by simp at hx; omega
  exact this n n (Nat.le_refl _)
theorem hasE_val {l s : Int} : ∀ {es : List Ent}, hasE l s es = false → valE l s es = 0
  | [], _ => rfl
  | x :: r, h => by
    simp only [hasE, Bool.or_eq_false_iff] at h
    simp only [valE]
    rw [h.1, if_neg (by decide)]
    exact hasE_val h.2
theorem firstHeld_put (n : Nat) : putE n 1 1 n (firstHeld n) = firstHeld (n + 1) := by
  rw [putE_none _ _ _ _ _ (firstHeld_has n)]
  unfold firstHeld
  rw [List.range_succ, List.map_append]
  rfl
theorem take_first (w0 : WardS) (l : Nat) (h1 : w0.held = firstHeld l) (h2 : w0.hclk = l) : w0.take l 1 = { w0 with held := firstHeld (l + 1), hclk := l + 1 } := by
  unfold WardS.take
  rw [h1, h2, firstHeld_put, firstHeld_has]
  rfl
theorem info_pth : (Tryz.prog.info? 74).map (fun i => (i.zero, i.size, i.bytes)) = some (some (.pointer none), 1, 8) := by kernel_rfl
/-- What a machine is at first. -/
structure MachS.New (s : MachS) (c : Nat → Int) (L B S : Nat) : Prop where
  c : s.c = c
  mem : ∃ wb, s.mem = memNew wb (L * (18 + B + 6 * S)) (wl B S L)
  thr : s.thr = fun _ => thr0
  clk : s.clk = fun _ => 0
  steps : s.steps = 0
  fault : s.fault = false
  given : s.given = []
  slips : s.ward.slips = 0
  held : s.ward.held = firstHeld L ∧ s.ward.hclk = L
  gens : s.ward.gens = [] ∧ s.ward.gclk = 0
set_option maxHeartbeats 2000000 in
set_option maxRecDepth 20000 in
theorem mNew_yes {σ w : World} {M : Mm} (h : Has σ M w) (c : Nat → Int) (hc : ConfMay c) {L B S : Nat} (hn : Nums c L B S) :
    Calls Tryz.prog 10 #[confV c] w fun r w' => ∃ p M' lab' s, r = .returned (.tuple #[.pointer (some ⟨p, 0, none⟩), .nilIface]) ∧ Has σ M' w' ∧ Base M M' lab' ∧ Mach M' lab' p s ∧ s.New c L B S := by
  have PN := Lib.hid (fun (M' : Mm) (w : World) (h : Has σ M' w) => planNew_yes h c hc)
  have hx : (ints .i64 14 c).extract 0 (0 + 14) = ints .i64 14 c := rfl
  have hz : (ints .i64 14 c).size = 14 := rfl
  have r0 : (ints .i64 14 c)[0]? = some (.int .i64 (c 0)) := rfl
  have r1 : (ints .i64 14 c)[1]? = some (.int .i64 (c 1)) := rfl
  have r10 : (ints .i64 14 c)[10]? = some (.int .i64 (c 10)) := rfl
  have FE := Lib.hid (fun (M' : Mm) (w : World) (p : Nat) (h : Has σ M' w) (hp : M' p = some (planRow c)) => first_eq h c hc hn hp)
  have hl0 := hn.l0
  have hs0 := hn.s0
  have hb0 := hn.b0
  have eN : (((L * (18 + B + 6 * S) : Nat)) : Int) = c 0 * firsts c 10 := by rw [hn.sz, hn.lev, Int.natCast_mul]
  have hN : 1 ≤ L * (18 + B + 6 * S) ∧ L * (18 + B + 6 * S) ≤ 4096 := by
    have a1 : L * (18 + B + 6 * S) ≤ 4 * (18 + 40 + 6 * 60) := Nat.mul_le_mul hl0.2 (by omega)
    have a2 : 1 * 1 ≤ L * (18 + B + 6 * S) := Nat.mul_le_mul hl0.1 (by omega)
    omega
  unfold confV at PN ⊢
  obtain ⟨NEW, HNEW⟩ : ∃ X : MachS → Prop, Hid (∀ s, X s ↔ s.New c L B S) := ⟨_, fun _ => Iff.rfl⟩
  have hgoal : ∀ s, s.New c L B S = NEW s := fun s => propext (HNEW.out s).symm
  simp only [hgoal]
  clear hgoal
  have HN := Lib.hid hN
  have EN := Lib.hid eN
  obtain ⟨N, EQN⟩ : ∃ N, Hid (N = L * (18 + B + 6 * S)) := ⟨_, rfl⟩
  rw [← EQN.out] at FE HN EN
  clear hN eN
  have OF := Lib.hid (fun (M' : Mm) (w : World) (b : Nat) (h : Has σ M' w) (hb : M' b = some (.cells (ints .u64 N (wl B S L)) 46)) => cellsOf_eq h N b (wl B S L) HN.out.1 HN.out.2 hb)
  have WN := Lib.hid (fun (M' : Mm) (w : World) (h : Has σ M' w) => wardNew_eq h (c 0) (c 10) hc.1 ⟨by have := hc.2.2.2.2.1; omega, hc.2.2.2.2.1.2⟩)
  generalize ints .i64 14 c = row at PN hx hz r0 r1 r10 ⊢
  clear hl0 hs0 hb0
  have HC := Lib.hid hc
  have HNN := Lib.hid hn
  clear hc hn
  go_enter Tryz.func10, Tryz.ntmps10
  go_upto_region 1 with (fail)
  obtain ⟨M1, hbx, hle, hbf, hnf⟩ := h.box (.cells row 29)
  generalize w.alloc _ = wx at hbx ⊢
  generalize w.heap.size = bf at hbf hnf ⊢
  clear h
  try clear w
  have h := hbx
  clear hbx
  obtain ⟨w, rfl⟩ : ∃ x : World, x = wx := ⟨_, rfl⟩
  have hBF := Lib.hid hbf
  go_upto_region 4 with (first
    | ((with_reducible show wpList _ _ _ ({ dst := _, op := Op.load 29 _, type := _, pos := _, after := _, guard := _ } :: _) _ _); refine wpList_agg_has h rfl 29 _ rfl rfl hbf hx hz Tryz.underlying29 rfl (by kernel_rfl) ?_; try simp only [Act.put, List.setIfInBounds_toArray, List.set_cons_zero, List.set_cons_succ])
    | (go_at_call 17; refine (PN.out _ _ h).mono ?_; clear h; rintro _ w ⟨pl, M2, rfl, h, hle2, hpl, hnpl⟩))
  replace hbf := hle2 _ _ hbf
  refine wp_region_held_drew (S := Has σ (M2)) (by kernel_rfl) (h.drew) (fun hHeld => ?_)
  refine wpAnyH_take (i := 0) (v := ?_) rfl (by kernel_rfl) (by kernel_rfl) (by kernel_rfl) (fun _ _ _ h => h) (Or.inl ⟨by rfl, ?_⟩) hHeld ?_
  rotate_left
  · (intro wz _; go_simp; try with_reducible rfl)
  try simp only [List.getElem_toArray, List.getElem_cons_succ, List.getElem_cons_zero, Act.put, List.setIfInBounds_toArray, List.set_cons_zero, List.set_cons_succ]
  refine wpAnyH_take (i := 1) (v := ?_) rfl (by kernel_rfl) (by kernel_rfl) (by kernel_rfl) (fun _ _ _ h => h) (Or.inl ⟨by rfl, ?_⟩) hHeld ?_
  rotate_left
  · (intro wz _; go_simp; try with_reducible rfl)
  try simp only [List.getElem_toArray, List.getElem_cons_succ, List.getElem_cons_zero, Act.put, List.setIfInBounds_toArray, List.set_cons_zero, List.set_cons_succ]
  refine wpAnyH_take (i := 4) (v := ?_) rfl (by kernel_rfl) (by kernel_rfl) (by kernel_rfl) (fun _ _ _ h => h) (Or.inl ⟨by rfl, ?_⟩) hHeld ?_
  rotate_left
  · (intro wz _; go_simp; try with_reducible rfl)
  try simp only [List.getElem_toArray, List.getElem_cons_succ, List.getElem_cons_zero, Act.put, List.setIfInBounds_toArray, List.set_cons_zero, List.set_cons_succ]
  refine wpAnyH_take (i := 5) (v := _) rfl (by kernel_rfl) (by kernel_rfl) (by kernel_rfl) (fun _ _ _ h => h) (yields_load1 rfl 3 _ rfl rfl hbf r0 Tryz.underlying3 rfl) hHeld ?_
  try simp only [List.getElem_toArray, List.getElem_cons_succ, List.getElem_cons_zero, Act.put, List.setIfInBounds_toArray, List.set_cons_zero, List.set_cons_succ]
  refine wpAnyH_take (i := 6) (v := ?_) rfl (by kernel_rfl) (by kernel_rfl) (by kernel_rfl) (fun _ _ _ h => h) (Or.inl ⟨by rfl, ?_⟩) hHeld ?_
  rotate_left
  · (intro wz _; go_simp; try with_reducible rfl)
  try simp only [List.getElem_toArray, List.getElem_cons_succ, List.getElem_cons_zero, Act.put, List.setIfInBounds_toArray, List.set_cons_zero, List.set_cons_succ]
  refine wpAnyH_take (i := 7) (v := _) rfl (by kernel_rfl) (by kernel_rfl) (by kernel_rfl) (fun _ _ _ h => h) (yields_load1 rfl 3 _ rfl rfl hbf r10 Tryz.underlying3 rfl) hHeld ?_
  try simp only [List.getElem_toArray, List.getElem_cons_succ, List.getElem_cons_zero, Act.put, List.setIfInBounds_toArray, List.set_cons_zero, List.set_cons_succ]
  replace h := h.drew
  clear hHeld
  generalize w.drew = w1 at h ⊢
  clear w
  obtain ⟨w, rfl⟩ : ∃ q : World, q = w1 := ⟨_, rfl⟩
  have hHeld := h
  refine wpAnyH_ready (rs := [2]) (by kernel_rfl) (by simp) ?_
  refine AllReadyH.cons rfl (fun K hK => ?_) AllReadyH.nil
  (go_simp; go_wp2_with (go_at_call 20; refine (FE.out _ _ _ h hpl).mono ?_; clear h; rintro e w ⟨b1, M3, rfl, h, hle3, hnb1, hb1⟩))
  refine hK.out _ _ (h.le hle3) (fun hHeld => ?_)
  clear hK K
  try simp only [Act.put, List.setIfInBounds_toArray, List.set_cons_zero, List.set_cons_succ]
  clear FE
  refine wpAnyH_ready (rs := [3]) (by kernel_rfl) (by simp) ?_
  refine AllReadyH.cons rfl (fun K hK => ?_) AllReadyH.nil
  (go_simp; go_wp2_with (go_at_call 19; refine (OF.out _ _ _ h hb1).mono ?_; clear h; rintro e w ⟨mp, wb, M4, rfl, h, hle4, hnmp, hnwb, hmem⟩))
  refine hK.out _ _ (h.le (Mm.le_trans hle3 hle4)) (fun hHeld => ?_)
  clear hK K
  try simp only [Act.put, List.setIfInBounds_toArray, List.set_cons_zero, List.set_cons_succ]
  clear OF
  refine wpAnyH_ready (rs := [8]) (by kernel_rfl) (by simp) ?_
  refine AllReadyH.cons rfl (fun K hK => ?_) AllReadyH.nil
  (go_simp; go_wp2_with (go_at_call 21; refine (WN.out _ _ h).mono ?_; clear h; rintro e w ⟨wp, whb, wgb, M5, rfl, h, hle5, hnwp, hnhb, hngb, hward⟩))
  refine hK.out _ _ (h.le (Mm.le_trans hle3 (Mm.le_trans hle4 hle5))) (fun hHeld => ?_)
  clear hK K
  try simp only [Act.put, List.setIfInBounds_toArray, List.set_cons_zero, List.set_cons_succ]
  clear WN
  refine wpAnyH_take (i := 9) (v := ?_) rfl (by kernel_rfl) (by kernel_rfl) (by kernel_rfl) (fun _ _ _ h => h) (Or.inl ⟨by rfl, ?_⟩) hHeld ?_
  rotate_left
  · (intro wz _; go_simp; try with_reducible rfl)
  try simp only [List.getElem_toArray, List.getElem_cons_succ, List.getElem_cons_zero, Act.put, List.setIfInBounds_toArray, List.set_cons_zero, List.set_cons_succ]
  refine wpAnyH_ready (rs := [10]) (by kernel_rfl) (by simp) ?_
  refine AllReadyH.cons rfl (fun K hK => ?_) AllReadyH.nil
  go_simp
  refine hK.out _ _ ((h.quietAlloc _).le (Mm.le_trans hle3 (Mm.le_trans hle4 hle5))) (fun hHeld => ?_)
  clear hK K
  try simp only [Act.put, List.setIfInBounds_toArray, List.set_cons_zero, List.set_cons_succ]
  have MS := h.fresh
  replace MS := mach_start HC.out EN.out hle2 hle3 hle4 hle5 hpl hnpl hmem hnmp hnwb hward hnwp hnhb hngb MS
  obtain ⟨lab, hB, hM⟩ := MS
  generalize hwx : w.alloc _ = wx at hHeld ⊢
  have h2 : Has σ (M5.upd w.heap.size (.cells (MachS.row ⟨c, pl, mp, wp, .slice none 0 0, [], .slice none 0 0, [], memNew wb N (wl B S L), ⟨whb, wgb, c 0, c 10, [], 0, [], 0, 0⟩, fun _ => thr0, fun _ => 0, 0, false⟩) 73)) wx := by rw [← hwx]; exact h.alloc _
  replace h := h2
  clear h2 hwx
  generalize w.heap.size = p at h hB hM ⊢
  refine wpAnyH_take (i := 11) (v := ?_) rfl (by kernel_rfl) (by kernel_rfl) (by kernel_rfl) (fun _ _ _ h => h) (Or.inl ⟨by rfl, ?_⟩) hHeld ?_
  rotate_left
  · (intro wz _; go_simp; try with_reducible rfl)
  try simp only [List.getElem_toArray, List.getElem_cons_succ, List.getElem_cons_zero, Act.put, List.setIfInBounds_toArray, List.set_cons_zero, List.set_cons_succ]
  refine wpAnyH_done (by kernel_rfl) ?_ _
  clear hHeld
  obtain ⟨w, rfl⟩ : ∃ q : World, q = wx := ⟨_, rfl⟩
  clear hbf hpl hnpl hnb1 hb1 hmem hnmp hnwb hnwp hnhb hngb hward hle2 hle3 hle4 hle5
  have hbf : M1 bf = some (.cells row 29) := hBF.out
  generalize M5.upd p _ = M6 at h hB hM
  have hbf6 := hB.le _ _ hbf
  obtain ⟨T, hT⟩ : ∃ T : Nat, (T : Int) = c 1 := ⟨(c 1).toNat, by have := HC.out.2.1; omega⟩
  rw [← hT] at r1
  have hT8 : T ≤ 8 := by have := HC.out.2.1; omega
  have HT := Lib.hid hT
  clear hT
  go_wp2_with (first
    | (with_reducible show wpList _ _ _ ({ dst := _, op := Op.load 3 _, type := _, pos := _, after := _, guard := _ } :: _) _ _; refine wpList_load1_has h rfl 3 _ rfl rfl hbf6 r1 Tryz.underlying3 rfl ?_))
  clear hbf6
  go_loopw [30] (fun i wr => ∃ (k : Nat) (M' : Mm) (lab' : Nat → Nat) (tv : Value) (tp : List Nat), k ≤ T ∧ i = .int .i64 k ∧ Has σ M' wr ∧ Base M1 M' lab' ∧ Mach0 M' lab' p ⟨c, pl, mp, wp, tv, tp, .slice none 0 0, [], memNew wb N (wl B S L), ⟨whb, wgb, c 0, c 10, [], 0, [], 0, 0⟩, fun _ => thr0, fun _ => 0, 0, false⟩ ∧ tp.length = k) (fun i _ => T - (intOf i).toNat)
  case atStart => exact ⟨0, M6, lab, _, [], Nat.zero_le _, rfl, h, hB, hM, rfl⟩
  case round =>
    clear h hB hM w
    obtain ⟨w, rfl⟩ : ∃ x : World, x = wr := ⟨_, rfl⟩
    obtain ⟨k, M', lab', tv, tp, hk, rfl, h, hB, hM, hl⟩ := hrel
    by_cases hlt : k < T
    · have hp := hM.obj
      have e3 : (MachS.row ⟨c, pl, mp, wp, tv, tp, .slice none 0 0, [], memNew wb N (wl B S L), ⟨whb, wgb, c 0, c 10, [], 0, [], 0, 0⟩, fun _ => thr0, fun _ => 0, 0, false⟩)[3]? = some tv := rfl
      have hsz : 3 < (MachS.row ⟨c, pl, mp, wp, tv, tp, .slice none 0 0, [], memNew wb N (wl B S L), ⟨whb, wgb, c 0, c 10, [], 0, [], 0, 0⟩, fun _ => thr0, fun _ => 0, 0, false⟩).size := show 3 < 11 by omega
      have EQ : Hid (∀ v l, (MachS.row ⟨c, pl, mp, wp, tv, tp, .slice none 0 0, [], memNew wb N (wl B S L), ⟨whb, wgb, c 0, c 10, [], 0, [], 0, 0⟩, fun _ => thr0, fun _ => 0, 0, false⟩).setIfInBounds 3 v = MachS.row ⟨c, pl, mp, wp, v, l, .slice none 0 0, [], memNew wb N (wl B S L), ⟨whb, wgb, c 0, c 10, [], 0, [], 0, 0⟩, fun _ => thr0, fun _ => 0, 0, false⟩) := Lib.hid fun v l => rfl
      have GR := Lib.hid (fun (M3 : Mm) (q : Nat) (v : Value) (nq : M' q = none) (lab1 : Nat → Nat) => hM.add (M3 := M3) (v := v) (lab1 := lab1) hB nq)
      have TR := hM.trow
      have hmk := hM.mark
      have hobj := hM.obj
      simp only [hl] at GR TR
      have hle0 := Mm.out_le M' lab' 5
      have PL : Hid (∀ q, M' q = none → p ≠ q) := Lib.hid fun q nq => (Mm.ne_of nq hobj)
      clear hM hB
      have HL := Lib.hid hl
      have HK := Lib.hid hk
      clear hl hk
      generalize MachS.row ⟨c, pl, mp, wp, tv, tp, .slice none 0 0, [], memNew wb N (wl B S L), ⟨whb, wgb, c 0, c 10, [], 0, [], 0, 0⟩, fun _ => thr0, fun _ => 0, 0, false⟩ = srow at hp e3 hsz EQ hobj
      clear hp
      go_upto_region 7 with (fail)
      replace h := h.drew
      generalize hMO : (M'.out lab' 5).drop p = MO
      have hle0 : MO.le M' := by rw [← hMO]; exact Mm.le_trans (Mm.drop_le _ _) (Mm.out_le _ _ _)
      have hnp : MO p = none := by rw [← hMO]; exact Mm.drop_none _ _
      have HMO := Lib.hid hMO
      clear hMO
      refine wp_region_held_drew (S := Has σ (MO)) (by kernel_rfl) (h.le hle0) (fun hHeld => ?_)
      refine wpAnyH_take (i := 0) (v := ?_) rfl (by kernel_rfl) (by kernel_rfl) (by kernel_rfl) (fun _ _ _ h => h) (Or.inl ⟨by rfl, ?_⟩) hHeld ?_
      rotate_left
      · (intro wz _; go_simp; try with_reducible rfl)
      try simp only [List.getElem_toArray, List.getElem_cons_succ, List.getElem_cons_zero, Act.put, List.setIfInBounds_toArray, List.set_cons_zero, List.set_cons_succ]
      refine wpAnyH_take (i := 1) (v := ?_) rfl (by kernel_rfl) (by kernel_rfl) (by kernel_rfl) (fun _ _ _ h => h) (Or.inl ⟨by rfl, ?_⟩) hHeld ?_
      rotate_left
      · (intro wz _; go_simp; try with_reducible rfl)
      try simp only [List.getElem_toArray, List.getElem_cons_succ, List.getElem_cons_zero, Act.put, List.setIfInBounds_toArray, List.set_cons_zero, List.set_cons_succ]
      refine wpAnyH_take (i := 2) (v := ?_) rfl (by kernel_rfl) (by kernel_rfl) (by kernel_rfl) (fun _ _ _ h => h) (Or.inl ⟨by rfl, ?_⟩) hHeld ?_
      rotate_left
      · (intro wz _; go_simp; try with_reducible rfl)
      try simp only [List.getElem_toArray, List.getElem_cons_succ, List.getElem_cons_zero, Act.put, List.setIfInBounds_toArray, List.set_cons_zero, List.set_cons_succ]
      refine wpAnyH_take (i := 3) (v := ?_) rfl (by kernel_rfl) (by kernel_rfl) (by kernel_rfl) (fun _ _ _ h => h) (Or.inl ⟨by rfl, ?_⟩) hHeld ?_
      rotate_left
      · (intro wz _; go_simp; try with_reducible rfl)
      try simp only [List.getElem_toArray, List.getElem_cons_succ, List.getElem_cons_zero, Act.put, List.setIfInBounds_toArray, List.set_cons_zero, List.set_cons_succ]
      clear hHeld
      generalize w.drew = w1 at h ⊢
      clear w
      obtain ⟨w, rfl⟩ : ∃ q : World, q = w1 := ⟨_, rfl⟩
      have hHeld : Has σ MO w := h.le hle0
      refine wpAnyH_ready (rs := [4, 5]) (by kernel_rfl) (by simp) ?_
      refine AllReadyH.cons rfl (fun K hK => ?_) (AllReadyH.cons rfl (fun K hK => ?_) AllReadyH.nil)
      · have c3 : w.cell? ⟨p, 3, none⟩ = some tv := (h.cell hobj 3).trans e3
        go_simp
        refine hK.out _ _ hHeld (fun hHeld => ?_)
        clear hK K
        try simp only [Act.put, List.setIfInBounds_toArray, List.set_cons_zero, List.set_cons_succ]
        refine wpAnyH_ready (rs := [5]) (by kernel_rfl) (by simp) ?_
        refine AllReadyH.cons rfl (fun K hK => ?_) AllReadyH.nil
        (go_simp; go_wp2_with (go_at_call 22; refine (thrNew_eq h).mono ?_; clear h; rintro e w ⟨q, rfl, nq, h⟩))
        refine hK.out _ _ (h.le (Mm.le_trans hle0 (Mm.le_upd' nq _))) (fun hHeld => ?_)
        clear hK K
        try simp only [Act.put, List.setIfInBounds_toArray, List.set_cons_zero, List.set_cons_succ]
        have TQ : Row (M'.upd q (.cells (thr0.row (.slice none 0 0) (.slice none 0 0)) 112)) (fun x => if x = q then 10 + 4 * k else lab' x) 5 74 1 tv k (ptrs tp) := TR.keep (A := Non) (fun c o hc _ => ⟨Mm.upd_of nq hc, if_neg (Mm.ne_of nq hc)⟩) (fun hf => hf)
        have hpq := PL.out q nq
        have hpo : (M'.upd q (.cells (thr0.row (.slice none 0 0) (.slice none 0 0)) 112)).out (fun x => if x = q then 10 + 4 * k else lab' x) 5 p = some (.cells srow 73) := Mm.out_of ((Mm.upd_ne hpq).trans hobj) (by rw [if_neg hpq, hmk]; omega)
        have leQ := Mm.le_upd' nq (.cells (thr0.row (.slice none 0 0) (.slice none 0 0)) 112)
        have GQ := Lib.hid (fun (M3 : Mm) (v : Value) => GR.out M3 q v nq (fun x => if x = q then 10 + 4 * k else lab' x) rfl)
        have hleO := Mm.out_le (M'.upd q (.cells (thr0.row (.slice none 0 0) (.slice none 0 0)) 112)) (fun x => if x = q then 10 + 4 * k else lab' x) 5
        have hMO : MO.le (M'.upd q (.cells (thr0.row (.slice none 0 0) (.slice none 0 0)) 112)) := Mm.le_trans hle0 leQ
        have hMQ : MO.le ((M'.upd q (.cells (thr0.row (.slice none 0 0) (.slice none 0 0)) 112)).out (fun x => if x = q then 10 + 4 * k else lab' x) 5) := by
          rw [← HMO.out]
          intro x o hx0
          have hx := Mm.drop_le _ _ _ _ hx0
          have hx' := Mm.out_le _ _ _ _ _ hx
          have hl5 : lab' x ≠ 5 := fun e => by rw [Mm.out_none e] at hx; cases hx
          exact Mm.out_of (Mm.upd_of nq hx') (by rw [if_neg (Mm.ne_of nq hx')]; exact hl5)
        clear GR TR
        generalize M'.upd q _ = MQ at h TQ hpo GQ hleO hMO hMQ
        unfold Row at TQ
        generalize MQ.out _ 5 = MR at hpo GQ hleO hMQ TQ
        refine wpAnyH_ready (rs := [6]) (by kernel_rfl) (by simp) ?_
        refine AllReadyH.cons rfl (fun K hK => ?_) AllReadyH.nil
        go_simp
        refine hK.out _ _ ((h.quietAlloc _).le hMO) (fun hHeld => ?_)
        clear hK K
        try simp only [Act.put, List.setIfInBounds_toArray, List.set_cons_zero, List.set_cons_succ]
        clear hHeld
        obtain ⟨M2, hbx, hle2, hbl, hnl⟩ := h.box (.cells #[.pointer (some ⟨q, 0, none⟩)] 74)
        generalize w.alloc _ = wx at hbx ⊢
        generalize w.heap.size = bl at hbl hnl ⊢
        clear h
        try clear w
        have h := hbx
        clear hbx
        obtain ⟨w, rfl⟩ : ∃ x : World, x = wx := ⟨_, rfl⟩
        have hHeld : Has σ MO w := h.le (Mm.le_trans hMO hle2)
        have hrl : Rd M2 1 (.slice (some ⟨bl, 0, none⟩) 1 1) 1 [.pointer (some ⟨q, 0, none⟩)] := ⟨rfl, _, _, rfl, Nat.le_refl _, fun _ => ⟨bl, 0, _, _, _, rfl, hbl, fun j u hu => by simpa using hu⟩⟩
        have hleR := Mm.le_trans hleO hle2
        replace TQ := TQ.le hle2
        have hk8 : k ≤ 8 := by omega
        refine wpAnyH_ready (rs := [7]) (by kernel_rfl) (by simp) ?_
        refine AllReadyH.cons rfl (fun K hK => ?_) AllReadyH.nil
        (refine step_append_rd h hleR rfl _ _ 69 rfl Tryz.underlying69 info_pth rfl (by omega) rfl TQ rfl hrl (by intro y hy; simp at hy; subst hy; rfl) (by omega) (by omega) ?_; clear h; intro v w hacc; obtain ⟨M3, h, hl3, ho3⟩ := hacc)
        refine hK.out _ _ (h.le (Mm.le_trans hMQ hl3)) (fun hHeld => ?_)
        clear hK K
        try simp only [Act.put, List.setIfInBounds_toArray, List.set_cons_zero, List.set_cons_succ]
        obtain ⟨A, cc, rfl⟩ := ho3.form
        refine wpAnyH_take (i := 8) (v := ?_) rfl (by kernel_rfl) (by kernel_rfl) (by kernel_rfl) (fun _ _ _ h => h) (Or.inl ⟨by rfl, ?_⟩) hHeld ?_
        rotate_left
        · (intro wz _; go_simp; try with_reducible rfl)
        try simp only [List.getElem_toArray, List.getElem_cons_succ, List.getElem_cons_zero, Act.put, List.setIfInBounds_toArray, List.set_cons_zero, List.set_cons_succ]
        refine wpAnyH_take (i := 9) (v := ?_) rfl (by kernel_rfl) (by kernel_rfl) (by kernel_rfl) (fun _ _ _ h => h) (Or.inl ⟨by rfl, ?_⟩) hHeld ?_
        rotate_left
        · (intro wz _; go_simp; try with_reducible rfl)
        try simp only [List.getElem_toArray, List.getElem_cons_succ, List.getElem_cons_zero, Act.put, List.setIfInBounds_toArray, List.set_cons_zero, List.set_cons_succ]
        have ho4 : Own MR M3 74 1 (.slice A (k + 1) cc) (k + 1) (ptrs (tp ++ [q])) := by
          have := ho3
          unfold ptrs at this ⊢
          rw [List.map_append]
          exact this
        have hdo : ∀ o, MO.le (M3.upd p o) := fun o => Mm.le_upd (Mm.le_trans hMQ hl3) hnp o
        refine wpAnyH_ready (rs := [10]) (by kernel_rfl) (by simp) ?_
        refine AllReadyH.cons rfl (fun K hK => ?_) AllReadyH.nil
        (refine step_store1 (v := .slice A (k + 1) cc) h rfl 69 _ _ rfl rfl rfl (hl3 _ _ hpo) hsz rfl rfl (by kernel_rfl) ?_; clear h; intro w h)
        refine hK.out _ _ (h.le (hdo _)) (fun hHeld => ?_)
        clear hK K
        try simp only [Act.put, List.setIfInBounds_toArray, List.set_cons_zero, List.set_cons_succ]
        refine wpAnyH_done (by kernel_rfl) ?_ _
        rw [EQ.out _ (tp ++ [q])] at h
        obtain ⟨lab'', hB2, hM2⟩ := GQ.out M3 _ hl3 ho4 trivial rfl
        have hl2 : (tp ++ [q]).length = k + 1 := by rw [List.length_append, HL.out]; rfl
        replace hl2 := Lib.hid hl2
        clear GQ hdo ho4 ho3 hHeld hrl hleR TQ hpo hMQ hleO hMO hle2 hbl hnl e3 hobj hnp c3 EQ hmk PL
        go_wp2
        go_roundw
        case rel => exact ⟨k + 1, _, lab'', _, tp ++ [q], by omega, by go_num, h, hB2, hM2, hl2.out⟩
        case measure => simp [intOf]; omega
      · go_simp
        go_wp2_with (go_at_call 22; refine (thrNew_eq h).mono ?_; clear h; rintro e w ⟨q, rfl, nq, h⟩)
        refine hK.out _ _ (h.le (Mm.le_trans hle0 (Mm.le_upd' nq _))) (fun hHeld => ?_)
        clear hK K
        try simp only [Act.put, List.setIfInBounds_toArray, List.set_cons_zero, List.set_cons_succ]
        have TQ : Row (M'.upd q (.cells (thr0.row (.slice none 0 0) (.slice none 0 0)) 112)) (fun x => if x = q then 10 + 4 * k else lab' x) 5 74 1 tv k (ptrs tp) := TR.keep (A := Non) (fun c o hc _ => ⟨Mm.upd_of nq hc, if_neg (Mm.ne_of nq hc)⟩) (fun hf => hf)
        have hpq := PL.out q nq
        have hpo : (M'.upd q (.cells (thr0.row (.slice none 0 0) (.slice none 0 0)) 112)).out (fun x => if x = q then 10 + 4 * k else lab' x) 5 p = some (.cells srow 73) := Mm.out_of ((Mm.upd_ne hpq).trans hobj) (by rw [if_neg hpq, hmk]; omega)
        have leQ := Mm.le_upd' nq (.cells (thr0.row (.slice none 0 0) (.slice none 0 0)) 112)
        have GQ := Lib.hid (fun (M3 : Mm) (v : Value) => GR.out M3 q v nq (fun x => if x = q then 10 + 4 * k else lab' x) rfl)
        have hleO := Mm.out_le (M'.upd q (.cells (thr0.row (.slice none 0 0) (.slice none 0 0)) 112)) (fun x => if x = q then 10 + 4 * k else lab' x) 5
        have hMO : MO.le (M'.upd q (.cells (thr0.row (.slice none 0 0) (.slice none 0 0)) 112)) := Mm.le_trans hle0 leQ
        have hMQ : MO.le ((M'.upd q (.cells (thr0.row (.slice none 0 0) (.slice none 0 0)) 112)).out (fun x => if x = q then 10 + 4 * k else lab' x) 5) := by
          rw [← HMO.out]
          intro x o hx0
          have hx := Mm.drop_le _ _ _ _ hx0
          have hx' := Mm.out_le _ _ _ _ _ hx
          have hl5 : lab' x ≠ 5 := fun e => by rw [Mm.out_none e] at hx; cases hx
          exact Mm.out_of (Mm.upd_of nq hx') (by rw [if_neg (Mm.ne_of nq hx')]; exact hl5)
        clear GR TR
        generalize M'.upd q _ = MQ at h TQ hpo GQ hleO hMO hMQ
        unfold Row at TQ
        generalize MQ.out _ 5 = MR at hpo GQ hleO hMQ TQ
        refine wpAnyH_ready (rs := [4, 6]) (by kernel_rfl) (by simp) ?_
        refine AllReadyH.cons rfl (fun K hK => ?_) (AllReadyH.cons rfl (fun K hK => ?_) AllReadyH.nil)
        · have c3 : w.cell? ⟨p, 3, none⟩ = some tv := (h.cell (hleO _ _ hpo) 3).trans e3
          go_simp
          refine hK.out _ _ hHeld (fun hHeld => ?_)
          clear hK K
          try simp only [Act.put, List.setIfInBounds_toArray, List.set_cons_zero, List.set_cons_succ]
          refine wpAnyH_ready (rs := [6]) (by kernel_rfl) (by simp) ?_
          refine AllReadyH.cons rfl (fun K hK => ?_) AllReadyH.nil
          go_simp
          refine hK.out _ _ ((h.quietAlloc _).le hMO) (fun hHeld => ?_)
          clear hK K
          try simp only [Act.put, List.setIfInBounds_toArray, List.set_cons_zero, List.set_cons_succ]
          clear hHeld
          obtain ⟨M2, hbx, hle2, hbl, hnl⟩ := h.box (.cells #[.pointer (some ⟨q, 0, none⟩)] 74)
          generalize w.alloc _ = wx at hbx ⊢
          generalize w.heap.size = bl at hbl hnl ⊢
          clear h
          try clear w
          have h := hbx
          clear hbx
          obtain ⟨w, rfl⟩ : ∃ x : World, x = wx := ⟨_, rfl⟩
          have hHeld : Has σ MO w := h.le (Mm.le_trans hMO hle2)
          have hrl : Rd M2 1 (.slice (some ⟨bl, 0, none⟩) 1 1) 1 [.pointer (some ⟨q, 0, none⟩)] := ⟨rfl, _, _, rfl, Nat.le_refl _, fun _ => ⟨bl, 0, _, _, _, rfl, hbl, fun j u hu => by simpa using hu⟩⟩
          have hleR := Mm.le_trans hleO hle2
          replace TQ := TQ.le hle2
          have hk8 : k ≤ 8 := by omega
          refine wpAnyH_ready (rs := [7]) (by kernel_rfl) (by simp) ?_
          refine AllReadyH.cons rfl (fun K hK => ?_) AllReadyH.nil
          (refine step_append_rd h hleR rfl _ _ 69 rfl Tryz.underlying69 info_pth rfl (by omega) rfl TQ rfl hrl (by intro y hy; simp at hy; subst hy; rfl) (by omega) (by omega) ?_; clear h; intro v w hacc; obtain ⟨M3, h, hl3, ho3⟩ := hacc)
          refine hK.out _ _ (h.le (Mm.le_trans hMQ hl3)) (fun hHeld => ?_)
          clear hK K
          try simp only [Act.put, List.setIfInBounds_toArray, List.set_cons_zero, List.set_cons_succ]
          obtain ⟨A, cc, rfl⟩ := ho3.form
          refine wpAnyH_take (i := 8) (v := ?_) rfl (by kernel_rfl) (by kernel_rfl) (by kernel_rfl) (fun _ _ _ h => h) (Or.inl ⟨by rfl, ?_⟩) hHeld ?_
          rotate_left
          · (intro wz _; go_simp; try with_reducible rfl)
          try simp only [List.getElem_toArray, List.getElem_cons_succ, List.getElem_cons_zero, Act.put, List.setIfInBounds_toArray, List.set_cons_zero, List.set_cons_succ]
          refine wpAnyH_take (i := 9) (v := ?_) rfl (by kernel_rfl) (by kernel_rfl) (by kernel_rfl) (fun _ _ _ h => h) (Or.inl ⟨by rfl, ?_⟩) hHeld ?_
          rotate_left
          · (intro wz _; go_simp; try with_reducible rfl)
          try simp only [List.getElem_toArray, List.getElem_cons_succ, List.getElem_cons_zero, Act.put, List.setIfInBounds_toArray, List.set_cons_zero, List.set_cons_succ]
          have ho4 : Own MR M3 74 1 (.slice A (k + 1) cc) (k + 1) (ptrs (tp ++ [q])) := by
            have := ho3
            unfold ptrs at this ⊢
            rw [List.map_append]
            exact this
          have hdo : ∀ o, MO.le (M3.upd p o) := fun o => Mm.le_upd (Mm.le_trans hMQ hl3) hnp o
          refine wpAnyH_ready (rs := [10]) (by kernel_rfl) (by simp) ?_
          refine AllReadyH.cons rfl (fun K hK => ?_) AllReadyH.nil
          (refine step_store1 (v := .slice A (k + 1) cc) h rfl 69 _ _ rfl rfl rfl (hl3 _ _ hpo) hsz rfl rfl (by kernel_rfl) ?_; clear h; intro w h)
          refine hK.out _ _ (h.le (hdo _)) (fun hHeld => ?_)
          clear hK K
          try simp only [Act.put, List.setIfInBounds_toArray, List.set_cons_zero, List.set_cons_succ]
          refine wpAnyH_done (by kernel_rfl) ?_ _
          rw [EQ.out _ (tp ++ [q])] at h
          obtain ⟨lab'', hB2, hM2⟩ := GQ.out M3 _ hl3 ho4 trivial rfl
          have hl2 : (tp ++ [q]).length = k + 1 := by rw [List.length_append, HL.out]; rfl
          replace hl2 := Lib.hid hl2
          clear GQ hdo ho4 ho3 hHeld hrl hleR TQ hpo hMQ hleO hMO hle2 hbl hnl e3 hobj hnp c3 EQ hmk PL
          go_wp2
          go_roundw
          case rel => exact ⟨k + 1, _, lab'', _, tp ++ [q], by omega, by go_num, h, hB2, hM2, hl2.out⟩
          case measure => simp [intOf]; omega
        · go_simp
          refine hK.out _ _ ((h.quietAlloc _).le hMO) (fun hHeld => ?_)
          clear hK K
          try simp only [Act.put, List.setIfInBounds_toArray, List.set_cons_zero, List.set_cons_succ]
          clear hHeld
          obtain ⟨M2, hbx, hle2, hbl, hnl⟩ := h.box (.cells #[.pointer (some ⟨q, 0, none⟩)] 74)
          generalize w.alloc _ = wx at hbx ⊢
          generalize w.heap.size = bl at hbl hnl ⊢
          clear h
          try clear w
          have h := hbx
          clear hbx
          obtain ⟨w, rfl⟩ : ∃ x : World, x = wx := ⟨_, rfl⟩
          have hHeld : Has σ MO w := h.le (Mm.le_trans hMO hle2)
          have hrl : Rd M2 1 (.slice (some ⟨bl, 0, none⟩) 1 1) 1 [.pointer (some ⟨q, 0, none⟩)] := ⟨rfl, _, _, rfl, Nat.le_refl _, fun _ => ⟨bl, 0, _, _, _, rfl, hbl, fun j u hu => by simpa using hu⟩⟩
          have hleR := Mm.le_trans hleO hle2
          replace TQ := TQ.le hle2
          have hk8 : k ≤ 8 := by omega
          have c3 : w.cell? ⟨p, 3, none⟩ = some tv := (h.cell (hleR _ _ hpo) 3).trans e3
          refine wpAnyH_ready (rs := [4]) (by kernel_rfl) (by simp) ?_
          refine AllReadyH.cons rfl (fun K hK => ?_) AllReadyH.nil
          go_simp
          refine hK.out _ _ (hHeld) (fun hHeld => ?_)
          clear hK K
          try simp only [Act.put, List.setIfInBounds_toArray, List.set_cons_zero, List.set_cons_succ]
          refine wpAnyH_ready (rs := [7]) (by kernel_rfl) (by simp) ?_
          refine AllReadyH.cons rfl (fun K hK => ?_) AllReadyH.nil
          (refine step_append_rd h hleR rfl _ _ 69 rfl Tryz.underlying69 info_pth rfl (by omega) rfl TQ rfl hrl (by intro y hy; simp at hy; subst hy; rfl) (by omega) (by omega) ?_; clear h; intro v w hacc; obtain ⟨M3, h, hl3, ho3⟩ := hacc)
          refine hK.out _ _ (h.le (Mm.le_trans hMQ hl3)) (fun hHeld => ?_)
          clear hK K
          try simp only [Act.put, List.setIfInBounds_toArray, List.set_cons_zero, List.set_cons_succ]
          obtain ⟨A, cc, rfl⟩ := ho3.form
          refine wpAnyH_take (i := 8) (v := ?_) rfl (by kernel_rfl) (by kernel_rfl) (by kernel_rfl) (fun _ _ _ h => h) (Or.inl ⟨by rfl, ?_⟩) hHeld ?_
          rotate_left
          · (intro wz _; go_simp; try with_reducible rfl)
          try simp only [List.getElem_toArray, List.getElem_cons_succ, List.getElem_cons_zero, Act.put, List.setIfInBounds_toArray, List.set_cons_zero, List.set_cons_succ]
          refine wpAnyH_take (i := 9) (v := ?_) rfl (by kernel_rfl) (by kernel_rfl) (by kernel_rfl) (fun _ _ _ h => h) (Or.inl ⟨by rfl, ?_⟩) hHeld ?_
          rotate_left
          · (intro wz _; go_simp; try with_reducible rfl)
          try simp only [List.getElem_toArray, List.getElem_cons_succ, List.getElem_cons_zero, Act.put, List.setIfInBounds_toArray, List.set_cons_zero, List.set_cons_succ]
          have ho4 : Own MR M3 74 1 (.slice A (k + 1) cc) (k + 1) (ptrs (tp ++ [q])) := by
            have := ho3
            unfold ptrs at this ⊢
            rw [List.map_append]
            exact this
          have hdo : ∀ o, MO.le (M3.upd p o) := fun o => Mm.le_upd (Mm.le_trans hMQ hl3) hnp o
          refine wpAnyH_ready (rs := [10]) (by kernel_rfl) (by simp) ?_
          refine AllReadyH.cons rfl (fun K hK => ?_) AllReadyH.nil
          (refine step_store1 (v := .slice A (k + 1) cc) h rfl 69 _ _ rfl rfl rfl (hl3 _ _ hpo) hsz rfl rfl (by kernel_rfl) ?_; clear h; intro w h)
          refine hK.out _ _ (h.le (hdo _)) (fun hHeld => ?_)
          clear hK K
          try simp only [Act.put, List.setIfInBounds_toArray, List.set_cons_zero, List.set_cons_succ]
          refine wpAnyH_done (by kernel_rfl) ?_ _
          rw [EQ.out _ (tp ++ [q])] at h
          obtain ⟨lab'', hB2, hM2⟩ := GQ.out M3 _ hl3 ho4 trivial rfl
          have hl2 : (tp ++ [q]).length = k + 1 := by rw [List.length_append, HL.out]; rfl
          replace hl2 := Lib.hid hl2
          clear GQ hdo ho4 ho3 hHeld hrl hleR TQ hpo hMQ hleO hMO hle2 hbl hnl e3 hobj hnp c3 EQ hmk PL
          go_wp2
          go_roundw
          case rel => exact ⟨k + 1, _, lab'', _, tp ++ [q], by omega, by go_num, h, hB2, hM2, hl2.out⟩
          case measure => simp [intOf]; omega
    · obtain rfl : k = T := by omega
      have hbf2 := hB.le _ _ hbf
      have hML : Mach M' lab' p ⟨c, pl, mp, wp, tv, tp, .slice none 0 0, [], memNew wb N (wl B S L), ⟨whb, wgb, c 0, c 10, [], 0, [], 0, 0⟩, fun _ => thr0, fun _ => 0, 0, false⟩ := ⟨hM, by show (tp.length : Int) = c 1; rw [hl]; exact HT.out⟩
      rw [HNN.out.lev] at r0
      clear hM hl hlt hT8 hk
      go_wp2_with (first
        | (with_reducible show wpList _ _ _ ({ dst := _, op := Op.load 3 _, type := _, pos := _, after := _, guard := _ } :: _) _ _; refine wpList_load1_has h rfl 3 _ rfl rfl hbf2 r0 Tryz.underlying3 rfl ?_))
      go_loopw [7, 45] (fun v i wr => ∃ (l : Nat) (M2 : Mm), l ≤ L ∧ i = .int .i64 l ∧ Has σ M2 wr ∧ Base M1 M2 lab' ∧ Mach M2 lab' p ⟨c, pl, mp, wp, tv, tp, .slice none 0 0, [], memNew wb N (wl B S L), ⟨whb, wgb, c 0, c 10, firstHeld l, l, [], 0, 0⟩, fun _ => thr0, fun _ => 0, 0, false⟩) (fun _ i _ => L - (intOf i).toNat)
      case atStart => exact ⟨0, M', Nat.zero_le _, rfl, h, hB, hML⟩
      case round =>
        clear h hB hML w
        obtain ⟨w, rfl⟩ : ∃ x : World, x = wr := ⟨_, rfl⟩
        obtain ⟨l, M2, hk, rfl, h, hB, hM⟩ := hrel
        by_cases hlt : l < L
        · have hlt' : ((l : Int) < (L : Int)) := by omega
          have hw := hM.ward
          have hth : WardS.there ⟨whb, wgb, c 0, c 10, firstHeld l, l, [], 0, 0⟩ l 1 = true := WardS.there_iff.2 ⟨by omega, by show (l : Int) < c 0; rw [HNN.out.lev]; omega, by omega, by show (1 : Int) ≤ c 10; rw [HNN.out.slo]; have := HNN.out.s0; omega⟩
          have TK := Lib.hid (fun (w : World) (h : Has σ M2 w) => take_yes h hw l 1 hth (hasE_val (firstHeld_has l)))
          rw [take_first _ l rfl rfl] at TK
          have HH := Lib.hid (hM.toMach0.holds hB (firstHeld (l + 1)) (l + 1) rfl)
          have HT2 := Lib.hid hM.tlen
          have hp := hM.obj
          have e2 : (MachS.row ⟨c, pl, mp, wp, tv, tp, .slice none 0 0, [], memNew wb N (wl B S L), ⟨whb, wgb, c 0, c 10, firstHeld l, l, [], 0, 0⟩, fun _ => thr0, fun _ => 0, 0, false⟩)[2]? = some (.pointer (some ⟨wp, 0, none⟩)) := rfl
          have HL := Lib.hid hlt
          have hl4 : l < 4 := by have := HNN.out.l0; omega
          clear hM hB hw hth hbf2 hbf hlt hk
          generalize MachS.row ⟨c, pl, mp, wp, tv, tp, .slice none 0 0, [], memNew wb N (wl B S L), ⟨whb, wgb, c 0, c 10, firstHeld l, l, [], 0, 0⟩, fun _ => thr0, fun _ => 0, 0, false⟩ = srow at hp e2
          go_wp2_with (first
            | (with_reducible show wpList _ _ _ ({ dst := _, op := Op.load 67 _, type := _, pos := _, after := _, guard := _ } :: _) _ _; refine wpList_load1_has h rfl 67 _ rfl rfl hp e2 Tryz.underlying67 rfl ?_)
            | (go_at_call 23; refine (TK.out _ h).mono ?_; clear h; rintro _ w ⟨rfl, h⟩))
          go_roundw
          case rel => exact ⟨l + 1, _, HL.out, by go_num, h, HH.out.1, HH.out.2, HT2.out⟩
          case measure => simp [intOf]; have := HL.out; omega
        · obtain rfl : l = L := by omega
          have HB := Lib.hid (hB.less hle)
          clear hB hbf2 hbf
          go_wp2
          go_ret2
          exact ⟨p, M2, lab', _, rfl, h, HB.out, hM, (HNEW.out _).2 ⟨rfl, ⟨wb, by rw [← EQN.out]⟩, rfl, rfl, rfl, rfl, rfl, rfl, ⟨rfl, rfl⟩, ⟨rfl, rfl⟩⟩⟩
end Go.Proofs.YtlpkimpdeeiaaaaGreat
