/- Law 21, MachineSteps: the plain law: a step. -/
import Derived.Test.YtnknlleflpkijaaSpB
namespace Go.Proofs.Ytnknlleflpkijaa
open Go.RowKit
set_option linter.unusedVariables false
set_option linter.unusedSimpArgs false
set_option linter.unnecessarySimpa false
theorem OnceE.del {es : List Ent} (h : OnceE es) (l t : Int) : OnceE (delE l t es) := by
  induction es with
  | nil => exact h
  | cons x r ih =>
    unfold OnceE at h ih ⊢
    simp only [List.map_cons, List.nodup_cons] at h
    unfold delE
    split
    · exact h.2
    · simp only [List.map_cons, List.nodup_cons]
      refine ⟨fun hm => h.1 ?_, ih h.2⟩
      obtain ⟨y, hy, e⟩ := List.mem_map.1 hm
      have : ∀ r : List Ent, y ∈ delE l t r → y ∈ r := fun r => by
        induction r with
        | nil => intro h; exact h
        | cons z r ih =>
          intro h
          unfold delE at h
          split at h
          · exact List.mem_cons_of_mem _ h
          · rcases List.mem_cons.1 h with rfl | h
            · exact List.mem_cons_self
            · exact List.mem_cons_of_mem _ (ih h)
      exact List.mem_map.2 ⟨y, this r hy, e⟩
/-- The machine behind a step that counts. -/
def MachS.step (s : MachS) (t lv : Nat) (a : ActS) (gv : Value) : MachS := MachS.watch { (s.tick lv).does t lv a gv with steps := s.steps + 1 } lv s.mem.acc s.mem.wr
section
variable {s : MachS} {t lv : Nat} {a : ActS} {gv : Value}
theorem does_keep (s : MachS) (t : Nat) (lv : Int) (a : ActS) (gv : Value) : (s.does t lv a gv).c = s.c ∧ (s.does t lv a gv).tp = s.tp ∧ (s.does t lv a gv).clk = s.clk ∧ (s.does t lv a gv).steps = s.steps ∧ (s.does t lv a gv).fault = s.fault := by
  unfold MachS.does MachS.dropped
  repeat' split
  all_goals exact ⟨rfl, rfl, rfl, rfl, rfl⟩
theorem watch_given (s : MachS) (lv : Int) (acc wr : Nat) : (s.watch lv acc wr).given = s.given ∧ ((s.watch lv acc wr).fault = (s.fault || (decide (s.mem.acc ≠ acc) && s.wrong lv acc wr))) := by
  unfold MachS.watch
  split
  · rename_i h; simp [h]
  · rename_i h
    split
    · rename_i h2; simp [h, h2]
    · rename_i h2; simp [h, h2]
theorem at_acc (m : MemS) (x : Int) : (m.at_ x).acc = m.acc + 1 ∧ (m.at_ x).wr = m.wr ∧ (m.at_ x).N = m.N := by
  unfold MemS.at_
  split <;> exact ⟨rfl, rfl, rfl⟩
theorem store_acc (m : MemS) (x v : Int) : (m.store x v).acc = m.acc + 1 ∧ (m.store x v).wr ≤ m.wr + 1 ∧ (m.store x v).N = m.N := by
  unfold MemS.store
  split
  · exact ⟨(at_acc m x).1, Nat.le_refl _, (at_acc m x).2.2⟩
  · exact ⟨(at_acc m x).1, by rw [(at_acc m x).2.1]; exact Nat.le_succ _, (at_acc m x).2.2⟩
/-- At fault behind a step: of each kind. -/
theorem step_bad (hN : (s.mem.N : Int) = s.c 0 * firsts s.c 10) (hk : 0 ≤ a.kind ∧ a.kind ≤ 4) : (s.step t lv a gv).bad = (s.bad || badAct s.c lv a) := by
  obtain ⟨w1, w2, w3, w4, w5, w6, w7⟩ := watch_same { (s.tick lv).does t lv a gv with steps := s.steps + 1 } lv s.mem.acc s.mem.wr
  obtain ⟨_, w8⟩ := watch_given { (s.tick lv).does t lv a gv with steps := s.steps + 1 } lv s.mem.acc s.mem.wr
  obtain ⟨d1, d2, d3, d4, d5⟩ := does_keep (s.tick lv) t lv a gv
  have hin : ∀ x : Int, (s.mem.hit x) = decide (0 ≤ x ∧ x < s.c 0 * firsts s.c 10) := fun x => by
    cases hh : s.mem.hit x
    · symm; rw [decide_eq_false_iff_not]; intro h; rw [← hN] at h; rw [MemS.hit_iff.2 h] at hh; cases hh
    · symm; rw [decide_eq_true_eq, ← hN]; exact MemS.hit_iff.1 hh
  have e1 : (s.step t lv a gv).bad = (((s.step t lv a gv).fault) || ((s.step t lv a gv).mem.flt || decide (0 < (s.step t lv a gv).ward.slips))) := rfl
  rw [e1]
  have f1 : (s.step t lv a gv).fault = _ := w8
  have f2 : (s.step t lv a gv).mem = _ := w3
  have f3 : (s.step t lv a gv).ward = _ := w7
  rw [f1, f2, f3]
  clear f1 f2 f3 e1 w1 w2 w3 w4 w5 w6 w7 w8
  have hwd : ∀ s : MachS, a.kind ≠ 5 → (s.does t lv a gv).ward = s.ward := fun s h => by
    unfold MachS.does
    repeat' split
    all_goals first | rfl | contradiction
  have hW : ({ (s.tick lv).does t lv a gv with steps := s.steps + 1 } : MachS).ward = s.ward := (hwd (s.tick lv) (by omega)).trans rfl
  have hF : ({ (s.tick lv).does t lv a gv with steps := s.steps + 1 } : MachS).fault = s.fault := d5
  have hB : s.bad = (s.fault || (s.mem.flt || decide (0 < s.ward.slips))) := rfl
  rw [hW, hF, hB]
  have hwr : ∀ (m : MemS) (s1 : MachS), s1.c = s.c → s1.mem = m → s1.wrong lv s.mem.acc s.mem.wr = (decide ((s.mem.acc : Int) + 1 < (m.acc : Int)) || (decide (0 ≤ m.last ∧ m.last < s.c 0 * firsts s.c 10) && (decide ((lv : Int) < m.last / firsts s.c 10) || (decide (s.mem.wr < m.wr) && (m.last / firsts s.c 10 != (lv : Int)))))) := fun m s1 e1 e2 => by
    unfold MachS.wrong MachS.inB MachS.lvOf
    rw [e1, e2]
  have hc : ({ (s.tick lv).does t lv a gv with steps := s.steps + 1 } : MachS).c = s.c := d1
  rw [hwr _ _ hc rfl]
  have h5 : a.kind = 0 ∨ a.kind = 1 ∨ a.kind = 2 ∨ a.kind = 3 ∨ a.kind = 4 := by omega
  have hat : ∀ (m : MemS) (x : Int), m.hit x = true → m.at_ x = { m with acc := m.acc + 1, last := x, named := true } := fun m x h => by unfold MemS.at_; rw [h]; rfl
  have hat0 : ∀ (m : MemS) (x : Int), m.hit x = false → m.at_ x = { m with acc := m.acc + 1, flt := true } := fun m x h => by unfold MemS.at_; rw [h]; rfl
  rcases h5 with e | e | e | e | e
  · have hm : ({ (s.tick lv).does t lv a gv with steps := s.steps + 1 } : MachS).mem = s.mem := by unfold MachS.does; rw [e]; rfl
    rw [hm]
    have hb : badAct s.c lv a = false := by unfold badAct; rw [e]; simp
    rw [hb]
    simp
  · have hm : ({ (s.tick lv).does t lv a gv with steps := s.steps + 1 } : MachS).mem = s.mem.at_ a.at_ := by unfold MachS.does; rw [e]; rfl
    rw [hm]
    unfold badAct
    rw [e, ← hin a.at_]
    cases hh : s.mem.hit a.at_
    · rw [hat0 _ _ hh]; simp
    · rw [hat _ _ hh]
      have := hin a.at_
      rw [hh] at this
      simp only [← this]
      generalize s.fault = b1
      generalize s.mem.flt = b2
      generalize decide (0 < s.ward.slips) = b3
      generalize decide ((lv : Int) < a.at_ / firsts s.c 10) = b4
      cases b1 <;> cases b2 <;> cases b3 <;> cases b4 <;> simp
  · have hm : ({ (s.tick lv).does t lv a gv with steps := s.steps + 1 } : MachS).mem = s.mem.store a.at_ a.n := by unfold MachS.does; rw [e]; rfl
    rw [hm]
    unfold badAct MemS.store
    rw [e, ← hin a.at_]
    cases hh : s.mem.hit a.at_
    · simp only [Bool.false_eq_true, if_false]
      rw [hat0 _ _ hh]; simp
    · simp only [if_true]
      rw [hat _ _ hh]
      have := hin a.at_
      rw [hh] at this
      simp only [← this]
      generalize s.fault = b1
      generalize s.mem.flt = b2
      generalize decide (0 < s.ward.slips) = b3
      generalize decide ((lv : Int) < a.at_ / firsts s.c 10) = b4
      generalize (a.at_ / firsts s.c 10 != (lv : Int)) = b5
      cases b1 <;> cases b2 <;> cases b3 <;> cases b4 <;> cases b5 <;> simp
  · have hm : ({ (s.tick lv).does t lv a gv with steps := s.steps + 1 } : MachS).mem = (s.mem.at_ a.at_).at_ a.at_ := by unfold MachS.does; rw [e]; rfl
    rw [hm]
    have ha : ((s.mem.at_ a.at_).at_ a.at_).acc = s.mem.acc + 2 := by rw [(at_acc _ _).1, (at_acc _ _).1]
    rw [ha]
    have hb : badAct s.c lv a = true := by unfold badAct; rw [e]; simp
    rw [hb, decide_eq_true (show s.mem.acc + 2 ≠ s.mem.acc by omega), decide_eq_true (show (s.mem.acc : Int) + 1 < ((s.mem.acc + 2 : Nat) : Int) by omega)]
    simp
  · have hm : ({ (s.tick lv).does t lv a gv with steps := s.steps + 1 } : MachS).mem = s.mem := by unfold MachS.does; rw [e]; rfl
    rw [hm]
    have hb : badAct s.c lv a = false := by unfold badAct; rw [e]; simp
    rw [hb]
    simp
end
theorem SpInv.has {c : Nat → Int} {i : Nat} {s : MachS} {x : SpS} (h : SpInv c i s x) (hc : ConfMay c) {lv : Nat} (hl : (lv : Int) < c 0) (a : Int) : s.ward.has lv a = (a == 1 && !x.held lv) := by
  unfold WardS.has
  by_cases ha : a = 1
  · subst ha
    have ht : s.ward.there lv 1 = true := WardS.there_iff.2 ⟨by omega, by rw [h.wlv]; exact hl, by omega, by rw [h.wsl]; obtain ⟨L, B, S, hn⟩ := Nums.of hc; have := hn.slo; have := hn.s0; omega⟩
    rw [ht, h.held lv hl]
    cases x.held lv <;> simp
  · rw [h.other lv a ha]
    have : (a == 1) = false := by simpa using ha
    rw [this]
    simp
theorem SpInv.next {c : Nat → Int} {i : Nat} {s : MachS} {x : SpS} (h : SpInv c i s x) (hc : ConfMay c) {t lv : Nat} (hl : (lv : Int) < c 0) (a : ActS) (hk : 0 ≤ a.kind ∧ a.kind ≤ 5) (gv : Value) : SpInv c (i + 1) (s.step t lv a gv) (x.next c lv a) := by
  obtain ⟨w1, w2, w3, w4, w5, w6, w7⟩ := watch_same { (s.tick lv).does t lv a gv with steps := s.steps + 1 } lv s.mem.acc s.mem.wr
  obtain ⟨w8, w9⟩ := watch_given { (s.tick lv).does t lv a gv with steps := s.steps + 1 } lv s.mem.acc s.mem.wr
  obtain ⟨d1, d2, d3, d4, d5⟩ := does_keep (s.tick lv) t lv a gv
  have hmem : (s.step t lv a gv).mem.acc ≤ s.mem.acc + 2 ∧ (s.step t lv a gv).mem.wr ≤ s.mem.wr + 1 ∧ (s.step t lv a gv).mem.N = s.mem.N := by
    rw [show (s.step t lv a gv).mem = _ from w3]
    have g : ∀ s1 : MachS, s1.mem = s.mem → ((s1.does t lv a gv).mem.acc ≤ s.mem.acc + 2 ∧ (s1.does t lv a gv).mem.wr ≤ s.mem.wr + 1 ∧ (s1.does t lv a gv).mem.N = s.mem.N) := fun s1 e => by
      unfold MachS.does MachS.dropped
      repeat' split
      all_goals first
        | (show ((s1.mem.at_ a.at_).at_ a.at_).acc ≤ _ ∧ ((s1.mem.at_ a.at_).at_ a.at_).wr ≤ _ ∧ ((s1.mem.at_ a.at_).at_ a.at_).N = _; rw [(at_acc _ _).1, (at_acc _ _).1, (at_acc _ _).2.1, (at_acc _ _).2.1, (at_acc _ _).2.2, (at_acc _ _).2.2, e]; exact ⟨by omega, by omega, rfl⟩)
        | (show (s1.mem.at_ a.at_).acc ≤ _ ∧ (s1.mem.at_ a.at_).wr ≤ _ ∧ (s1.mem.at_ a.at_).N = _; rw [(at_acc _ _).1, (at_acc _ _).2.1, (at_acc _ _).2.2, e]; exact ⟨by omega, by omega, rfl⟩)
        | (show (s1.mem.store a.at_ a.n).acc ≤ _ ∧ (s1.mem.store a.at_ a.n).wr ≤ _ ∧ (s1.mem.store a.at_ a.n).N = _; rw [(store_acc _ _ _).1, (store_acc _ _ _).2.2]; have := (store_acc s1.mem a.at_ a.n).2.1; rw [e] at this ⊢; exact ⟨by omega, by omega, rfl⟩)
        | (show s1.mem.acc ≤ _ ∧ s1.mem.wr ≤ _ ∧ s1.mem.N = _; rw [e]; exact ⟨by omega, by omega, rfl⟩)
    exact g (s.tick lv) rfl
  have hthr : ∀ j, (((s.step t lv a gv).thr j).frames.length ≤ i + 1 ∧ ((s.step t lv a gv).thr j).ki = false) := fun j => by
    rw [show (s.step t lv a gv).thr = _ from w6]
    have g : ∀ s1 : MachS, s1.thr = s.thr → (((s1.does t lv a gv).thr j).frames.length ≤ i + 1 ∧ ((s1.does t lv a gv).thr j).ki = false) := fun s1 e => by
      have dj := h.deep j
      have kj := h.ki j
      have dt := h.deep t
      have kt := h.ki t
      rw [← e] at dj kj dt kt
      unfold MachS.does MachS.dropped
      repeat' split
      all_goals first
        | exact ⟨Nat.le_succ_of_le dj, kj⟩
        | (show (if j = t then (s1.thr t).back [] else s1.thr j).frames.length ≤ _ ∧ (if j = t then (s1.thr t).back [] else s1.thr j).ki = false
           split
           · unfold ThrS.back; simp only [List.length_dropLast]; exact ⟨by omega, kt⟩
           · exact ⟨Nat.le_succ_of_le dj, kj⟩)
    exact g (s.tick lv) rfl
  have hclk : (s.step t lv a gv).clk = (s.tick lv).clk := w4.trans d3
  have hcc : (s.step t lv a gv).c = s.c := w1.trans d1
  have hst : (s.step t lv a gv).steps = s.steps + 1 := w5
  have hgv : (s.step t lv a gv).given = _ := w8
  have hwd : (s.step t lv a gv).ward = _ := w7
  have hHas := h.has hc hl a.at_
  -- the ward and what was given
  have hW : ((s.step t lv a gv).given.length = (x.next c lv a).given) ∧ (∀ l : Nat, (l : Int) < c 0 → valE l 1 (s.step t lv a gv).ward.held = if (x.next c lv a).held l then 0 else 1) ∧ (∀ l t' : Int, t' ≠ 1 → valE l t' (s.step t lv a gv).ward.held = 0) ∧ (s.step t lv a gv).ward.slips ≤ i + 1 ∧ StampE (s.step t lv a gv).ward.gens (s.step t lv a gv).ward.gclk ∧ (∀ l t' : Int, 0 ≤ valE l t' (s.step t lv a gv).ward.gens ∧ valE l t' (s.step t lv a gv).ward.gens ≤ ((i + 1 : Nat) : Int)) ∧ OnceE (s.step t lv a gv).ward.held ∧ (s.step t lv a gv).ward.lv = c 0 ∧ (s.step t lv a gv).ward.sl = c 10 ∧ (a.kind = 5 → (s.step t lv a gv).bad = (x.next c lv a).fault) := by
    by_cases h5 : a.kind = 5
    · have hb5 : (a.kind == 5) = true := by rw [h5]; rfl
      have hdoes : ∀ s1 : MachS, s1.does t lv a gv = s1.dropped lv a.at_ gv := fun s1 => by unfold MachS.does; rw [h5]; rfl
      have hmm : (s.step t lv a gv).mem = s.mem := w3.trans (by show ((s.tick lv).does t lv a gv).mem = _; rw [hdoes]; unfold MachS.dropped; split <;> rfl)
      have hft : (s.step t lv a gv).fault = s.fault := by
        have e : ((s.tick lv).does t lv a gv).mem.acc = s.mem.acc := by rw [hdoes]; unfold MachS.dropped; split <;> rfl
        refine Eq.trans w9 ?_
        show (((s.tick lv).does t lv a gv).fault || (decide (((s.tick lv).does t lv a gv).mem.acc ≠ s.mem.acc) && _)) = s.fault
        rw [d5, e]
        simp
        rfl
      have hbad : (s.step t lv a gv).bad = (s.fault || (s.mem.flt || decide (0 < (s.step t lv a gv).ward.slips))) := by
        show ((s.step t lv a gv).fault || ((s.step t lv a gv).mem.flt || _)) = _
        rw [hft, hmm]
      rw [hbad, hgv, hwd]
      have hxd : x.drops lv a = (a.at_ == 1 && !x.held lv) := by unfold SpS.drops; rw [hb5, Bool.true_and]
      have hbs : s.bad = (s.fault || (s.mem.flt || decide (0 < s.ward.slips))) := rfl
      show ((s.tick lv).does t lv a gv).given.length = _ ∧ (∀ l : Nat, (l : Int) < c 0 → valE l 1 ((s.tick lv).does t lv a gv).ward.held = _) ∧ (∀ l t' : Int, t' ≠ 1 → valE l t' ((s.tick lv).does t lv a gv).ward.held = 0) ∧ ((s.tick lv).does t lv a gv).ward.slips ≤ i + 1 ∧ StampE ((s.tick lv).does t lv a gv).ward.gens ((s.tick lv).does t lv a gv).ward.gclk ∧ (∀ l t' : Int, 0 ≤ valE l t' ((s.tick lv).does t lv a gv).ward.gens ∧ valE l t' ((s.tick lv).does t lv a gv).ward.gens ≤ ((i + 1 : Nat) : Int)) ∧ OnceE ((s.tick lv).does t lv a gv).ward.held ∧ ((s.tick lv).does t lv a gv).ward.lv = c 0 ∧ ((s.tick lv).does t lv a gv).ward.sl = c 10 ∧ (a.kind = 5 → (s.fault || (s.mem.flt || decide (0 < ((s.tick lv).does t lv a gv).ward.slips))) = _)
      rw [hdoes]
      have htw : (s.tick lv).ward = s.ward := rfl
      have htg : (s.tick lv).given = s.given := rfl
      unfold MachS.dropped
      rw [htw, hHas]
      unfold SpS.next
      rw [hxd]
      cases hd : (a.at_ == 1 && !x.held lv)
      · simp only [Bool.false_eq_true, if_false]
        refine ⟨h.given, h.held, h.other, Nat.succ_le_succ h.slips, h.stamp, fun l t' => by have := h.gens l t'; exact ⟨this.1, Int.le_trans this.2 (by omega)⟩, h.once, h.wlv, h.wsl, fun _ => ?_⟩
        rw [hb5, show decide (0 < (s.ward.slip).slips) = true from decide_eq_true (Nat.succ_pos _)]
        simp
      · have hat : a.at_ = 1 ∧ x.held lv = false := by simpa using hd
        simp only [if_true]
        refine ⟨by simp [h.given, htg], fun l hl' => ?_, fun l t' ht' => ?_, Nat.le_succ_of_le h.slips, h.stamp.put _ _ _, fun l t' => ?_, h.once.del _ _, h.wlv, h.wsl, fun _ => by rw [← h.bad, hbs]; rfl⟩
        · show valE l 1 (delE lv a.at_ s.ward.held) = _
          rw [hat.1]
          by_cases e : l = lv
          · subst e
            rw [valE_del _ _ _ h.once]
            simp
          · rw [valE_del_ne _ _ _ _ (by omega), h.held l hl']
            simp [e]
        · show valE l t' (delE lv a.at_ s.ward.held) = 0
          rw [valE_del_ne _ _ _ _ (by rw [hat.1]; omega), h.other l t' ht']
        · have e : valE l t' (s.ward.gone lv a.at_).gens = if l = (lv : Int) ∧ t' = a.at_ then valE lv a.at_ s.ward.gens + 1 else valE l t' s.ward.gens := valE_put _ _ _ _ _ _ _
          show 0 ≤ valE l t' (s.ward.gone lv a.at_).gens ∧ valE l t' (s.ward.gone lv a.at_).gens ≤ _
          rw [e]
          have g1 := h.gens lv a.at_
          have g2 := h.gens l t'
          split
          · exact ⟨by omega, by omega⟩
          · exact ⟨g2.1, Int.le_trans g2.2 (by omega)⟩
    · have hb5 : (a.kind == 5) = false := by simpa using h5
      have hxd : x.drops lv a = false := by unfold SpS.drops; rw [hb5]; rfl
      have g : ∀ s1 : MachS, (s1.does t lv a gv).ward = s1.ward ∧ (s1.does t lv a gv).given = s1.given := fun s1 => by
        unfold MachS.does
        repeat' split
        all_goals first | exact ⟨rfl, rfl⟩ | contradiction
      have g1 : (s.step t lv a gv).ward = s.ward := w7.trans (g (s.tick lv)).1
      have g2 : (s.step t lv a gv).given = s.given := w8.trans (g (s.tick lv)).2
      rw [g1, g2]
      unfold SpS.next
      rw [hxd]
      simp only [Bool.false_eq_true, if_false]
      exact ⟨h.given, h.held, h.other, Nat.le_succ_of_le h.slips, h.stamp, fun l t' => by have := h.gens l t'; exact ⟨this.1, Int.le_trans this.2 (by omega)⟩, h.once, h.wlv, h.wsl, fun e => absurd e h5⟩
  obtain ⟨u1, u2, u3, u4, u5, u6, u7, u8, u9, u10⟩ := hW
  refine ⟨hcc.trans h.cc, ?_, Nat.succ_le_succ h.stepsLe, u1, ?_, fun j hj => ?_, fun j => ?_, ?_, u2, u3, ?_, ?_, u4, u5, u6, fun j => (hthr j).1, fun j => (hthr j).2, u8, u9, ?_, u7⟩
  · rw [hst, h.steps]; rfl
  · unfold SpS.next
    have := h.givenLe
    simp only
    split <;> omega
  · rw [hclk]
    show (if lv ≤ j then x.clk j + 1 else x.clk j) = ((if lv ≤ j ∧ j < 4 then s.clk j + 1 else s.clk j : Nat) : Int)
    rw [h.clk j hj]
    by_cases e : lv ≤ j
    · rw [if_pos e, if_pos ⟨e, hj⟩]; rfl
    · rw [if_neg e, if_neg (by omega)]
  · rw [hclk]
    have := h.clkLe j
    show (if lv ≤ j ∧ j < 4 then s.clk j + 1 else s.clk j) ≤ i + 1
    split <;> omega
  · by_cases h5 : a.kind = 5
    · exact u10 h5
    · rw [step_bad (by rw [h.memN, h.cc]) (by omega), h.bad, h.cc]
      have hb5 : (a.kind == 5) = false := by simpa using h5
      have hxd : x.drops lv a = false := by unfold SpS.drops; rw [hb5]; rfl
      unfold SpS.next
      rw [hxd, hb5]
      simp
  · have := h.acc; omega
  · have := h.wr; omega
  · rw [hmem.2.2]; exact h.memN
end Go.Proofs.Ytnknlleflpkijaa
