/- Law 21, MachineApart: the plain law. -/
import Derived.Test.YtnknlleflpkijaaApC
namespace Go.Proofs.Ytnknlleflpkijaa
open Go.RowKit
set_option linter.unusedVariables false
set_option linter.unusedSimpArgs false
set_option linter.unnecessarySimpa false
def MachS.called (s : MachS) (t : Nat) (fn : Int) (us : List Int) : MachS := { s with thr := fun j => if j = t then (s.thr t).call fn us else s.thr j }
def apDo (s : MachS) (lv : Nat) (a : ActS) : MachS := { s.tick lv with mem := s.mem.does a }
def apNext (s : MachS) (t lv : Nat) (a : ActS) : MachS := MachS.watch { apDo (s.called t 1 []) lv a with steps := s.steps + 1 } lv s.mem.acc s.mem.wr
theorem does_acc (m : MemS) (a : ActS) : (m.does a).acc = m.acc + 1 := by
  unfold MemS.does MemS.store MemS.at_
  split
  · split
    · rfl
    · rfl
  · split <;> rfl
theorem does_wr (m : MemS) (a : ActS) : (m.does a).wr ≤ m.wr + 1 := by
  unfold MemS.does MemS.store MemS.at_
  split
  · split
    · exact Nat.le_refl _
    · exact Nat.le_succ _
  · split <;> exact Nat.le_succ _
theorem does_N (m : MemS) (a : ActS) : (m.does a).N = m.N ∧ (m.does a).wb = m.wb := by
  unfold MemS.does
  split
  · exact ⟨(store_wbN _ _ _).2, (store_wbN _ _ _).1⟩
  · exact ⟨(at_wbN _ _).2, (at_wbN _ _).1⟩
theorem watch_same (s : MachS) (lv : Int) (acc wr : Nat) : (s.watch lv acc wr).c = s.c ∧ (s.watch lv acc wr).tp = s.tp ∧ (s.watch lv acc wr).mem = s.mem ∧ (s.watch lv acc wr).clk = s.clk ∧ (s.watch lv acc wr).steps = s.steps ∧ (s.watch lv acc wr).thr = s.thr ∧ (s.watch lv acc wr).ward = s.ward := by
  unfold MachS.watch
  split
  · exact ⟨rfl, rfl, rfl, rfl, rfl, rfl, rfl⟩
  · split <;> exact ⟨rfl, rfl, rfl, rfl, rfl, rfl, rfl⟩
/-- As long as nothing is at fault, the words of other levels stay. -/
theorem apart_words {s : MachS} {t lv : Nat} {a : ActS} {sz : Nat} (hsz : firsts s.c 10 = (sz : Nat)) (hN : (s.mem.N : Int) = s.c 0 * firsts s.c 10) (hb : (apNext s t lv a).bad = false) (i : Nat) (hi : i / sz ≠ lv) : (s.mem.does a).f i = s.mem.f i := by
  obtain ⟨e1, e2, e3, e4, e5, e6, e7⟩ := watch_same { apDo (s.called t 1 []) lv a with steps := s.steps + 1 } lv s.mem.acc s.mem.wr
  unfold MachS.bad at hb
  rw [Bool.or_eq_false_iff, Bool.or_eq_false_iff] at hb
  obtain ⟨h1, h2, _⟩ := hb
  have hm : (apNext s t lv a).mem = s.mem.does a := e3
  rw [hm] at h2
  have hacc := does_acc s.mem a
  have h3 : MachS.wrong { apDo (s.called t 1 []) lv a with steps := s.steps + 1 } lv s.mem.acc s.mem.wr = false := by
    unfold apNext MachS.watch at h1
    rw [if_neg (by show ¬ (s.mem.does a).acc = s.mem.acc; omega)] at h1
    cases hw : MachS.wrong { apDo (s.called t 1 []) lv a with steps := s.steps + 1 } lv s.mem.acc s.mem.wr
    · rfl
    · rw [hw] at h1; cases h1
  unfold MachS.wrong at h3
  rw [Bool.or_eq_false_iff] at h3
  obtain ⟨_, h3⟩ := h3
  change (MachS.inB _ (s.mem.does a).last && (decide ((lv : Int) < MachS.lvOf _ (s.mem.does a).last) || (decide (s.mem.wr < (s.mem.does a).wr) && MachS.lvOf _ (s.mem.does a).last != (lv : Int)))) = false at h3
  unfold MemS.does at h2 h3 ⊢
  split
  · rename_i hk
    rw [if_pos hk] at h2 h3
    unfold MemS.store at h2 h3 ⊢
    cases hh : s.mem.hit a.at_
    · rw [hh] at h2
      simp only [Bool.false_eq_true, if_false] at h2
      unfold MemS.at_ at h2
      rw [hh] at h2
      cases h2
    · rw [hh] at h3
      simp only [if_true] at h3 ⊢
      obtain ⟨a0, a1⟩ := MemS.hit_iff.1 hh
      have hat : s.mem.at_ a.at_ = { s.mem with acc := s.mem.acc + 1, last := a.at_, named := true } := by unfold MemS.at_; rw [hh]; rfl
      rw [hat] at h3
      simp only at h3
      have hin : MachS.inB { apDo (s.called t 1 []) lv a with steps := s.steps + 1 } a.at_ = true := decide_eq_true ⟨a0, by show a.at_ < s.c 0 * firsts s.c 10; rw [← hN]; exact a1⟩
      rw [hin] at h3
      have hlt : decide (s.mem.wr < s.mem.wr + 1) = true := decide_eq_true (Nat.lt_succ_self _)
      rw [hlt] at h3
      simp only [Bool.true_and, Bool.or_eq_false_iff] at h3
      have h4 : MachS.lvOf { apDo (s.called t 1 []) lv a with steps := s.steps + 1 } a.at_ = (lv : Int) := by simpa using h3.2
      have h5 : a.at_ / (sz : Int) = (lv : Int) := by rw [← hsz]; exact h4
      unfold upd
      rw [if_neg]
      intro e
      apply hi
      have h6 : ((a.at_.toNat / sz : Nat) : Int) = (lv : Int) := by rw [← h5]; have e9 : ((a.at_.toNat : Nat) : Int) = a.at_ := Int.toNat_of_nonneg a0; rw [← e9]; exact Int.natCast_ediv _ _
      rw [e]
      omega
  · unfold MemS.at_
    split <;> rfl
theorem rd_words {M : Mm} {b N fr m : Nat} {f : Nat → Int} {T : TypeId} {cap : Nat} (hb : M b = some (.cells (ints .u64 N f) T)) (h : fr + m ≤ N) (hc : m ≤ cap) : Rd M 1 (.slice (some ⟨b, fr, none⟩) m cap) m (u64s ((List.range m).map fun i => f (fr + i))) := by
  refine ⟨by simp [u64s], _, _, rfl, hc, fun _ => ⟨b, fr, _, _, _, rfl, hb, fun j u hu => ?_⟩⟩
  simp only [u64s, List.map_map, List.getElem?_map] at hu
  by_cases hj : j < m
  · rw [List.getElem?_range hj] at hu
    simp at hu
    subst hu
    exact ints_get (by omega)
  · rw [List.getElem?_eq_none (by simp; omega)] at hu
    cases hu
theorem run_words_slice {b N fr tt m : Nat} (h1 : fr < N) (h2 : fr ≤ tt) (h3 : tt ≤ N) (hm : tt - fr = m) (w : World) : (Instr.sliceAt 40 (.slice (some ⟨b, 0, none⟩) N N) (some (.int .i64 (fr : Nat))) (some (.int .i64 (tt : Nat))) none).run Try.prog w = .ok (.slice (some ⟨b, fr, none⟩) m (N - fr)) w := by
  have hu : Try.prog.underlying 40 = some (.slice (Try.prog.elem 40)) := by kernel_rfl
  have hs : ∀ w, (sizeOf (Try.prog.elem 40)).run Try.prog w = .ok 1 w := fun w => by kernel_rfl
  rw [run_sliceAt_slice _ _ _ _ _ _ hu, run_slice_lh _ _ _ _ _ hu .i64 .i64 _ _ (by omega) (by omega) (by omega), hs]
  simp only [Result.andThen_ok, sliced, Int.toNat_natCast, hm]
  rw [if_neg (by omega)]
  simp [Addr.add_mid]
/-- What holds at any time. -/
structure ApInv (c : Nat → Int) (i : Nat) (s : MachS) : Prop where
  c : s.c = c
  acc : s.mem.acc ≤ i
  wr : s.mem.wr ≤ i
  steps : s.steps ≤ i
  clk : ∀ k, s.clk k ≤ i
  deep : ∀ t, (s.thr t).frames.length ≤ i
  runs : ∀ t, ((s.thr t).st || (s.thr t).ki) = false
theorem ApInv.next {c : Nat → Int} {i : Nat} {s : MachS} (h : ApInv c i s) (t lv : Nat) (a : ActS) : ApInv c (i + 1) (apNext s t lv a) := by
  obtain ⟨e1, e2, e3, e4, e5, e6, e7⟩ := watch_same { apDo (s.called t 1 []) lv a with steps := s.steps + 1 } lv s.mem.acc s.mem.wr
  have m3 : (apNext s t lv a).mem = s.mem.does a := e3
  have t6 : (apNext s t lv a).thr = (s.called t 1 []).thr := e6
  have c4 : (apNext s t lv a).clk = (s.tick lv).clk := e4
  refine ⟨e1.trans h.c, ?_, ?_, ?_, fun k => ?_, fun j => ?_, fun j => ?_⟩
  · rw [m3, does_acc]; have := h.acc; omega
  · rw [m3]; have := does_wr s.mem a; have := h.wr; omega
  · show (apNext s t lv a).steps ≤ _
    rw [show (apNext s t lv a).steps = s.steps + 1 from e5]; have := h.steps; omega
  · rw [c4]
    have := h.clk k
    show (if lv ≤ k ∧ k < 4 then s.clk k + 1 else s.clk k) ≤ i + 1
    split <;> omega
  · rw [t6]
    have := h.deep j
    show (if j = t then (s.thr t).call 1 [] else s.thr j).frames.length ≤ i + 1
    split
    · rename_i e
      subst e
      unfold ThrS.call
      simp
      omega
    · omega
  · rw [t6]
    show ((if j = t then (s.thr t).call 1 [] else s.thr j).st || (if j = t then (s.thr t).call 1 [] else s.thr j).ki) = false
    split
    · rename_i e; subst e; exact h.runs _
    · exact h.runs _
theorem ApInv.mono {c : Nat → Int} {i j : Nat} {s : MachS} (h : ApInv c i s) (hij : i ≤ j) : ApInv c j s :=
  ⟨h.c, Nat.le_trans h.acc hij, Nat.le_trans h.wr hij, Nat.le_trans h.steps hij, fun k => Nat.le_trans (h.clk k) hij, fun t => Nat.le_trans (h.deep t) hij, h.runs⟩
theorem ApInv.first {c : Nat → Int} {L B S : Nat} {s : MachS} (h : s.New c L B S) : ApInv c 0 s := by
  obtain ⟨wb, hm⟩ := h.mem
  refine ⟨h.c, by rw [hm]; exact Nat.le_refl _, by rw [hm]; exact Nat.le_refl _, by rw [h.steps]; exact Nat.le_refl _, fun k => by rw [h.clk]; exact Nat.le_refl _, fun t => by rw [h.thr]; exact Nat.le_refl _, fun t => by rw [h.thr]; rfl⟩
end Go.Proofs.Ytnknlleflpkijaa
