/- Layer 21 (machine): what keeps a machine; its parts' changes as the machine's. -/
import Derived.Test.YtlpkimpdeeiaaaaGreatMachS
namespace Go.Proofs.YtlpkimpdeeiaaaaGreat
open Go.RowKit
set_option linter.unusedVariables false
set_option linter.unusedSimpArgs false
set_option linter.unnecessarySimpa false
section
variable {σ w : World} {K K' M M' : Mm} {lab lab' : Nat → Nat} {A : Nat → Prop} {t p q : Nat} {s s' : MachS}
theorem Mach.keep (hM : Mach M lab p s) (hK : Kp A M lab M' lab') (hA : ∀ k, 1 ≤ k → ¬ A k) : Mach M' lab' p s := by
  obtain ⟨⟨o1, o2, h1, h2, h3, h4, h5, h6, h7, h8, h9, h10, h11, h12⟩, h13⟩ := hM
  obtain ⟨a1, a2⟩ := hK.get o1 o2 (hA _ (by omega))
  obtain ⟨m1, m2⟩ := h4.keep h5 hK (hA _ (by omega))
  obtain ⟨w1, w2⟩ := h7.keep h8 hK (hA _ (by omega))
  obtain ⟨p1, p2⟩ := hK.get h2 h3 (hA _ (by omega))
  exact ⟨⟨a1, a2, h1, p1, p2, m1, m2, h6, w1, w2, h9, h10.keep hK (hA _ (by omega)), fun t p' hp => (h11 t p' hp).keep hK fun k hk => hA k (by have := hk.1; omega), h12.keep hK (hA _ (by omega))⟩, h13⟩
/-- Something is known besides, of the caller's. -/
theorem Mach.more (hM : Mach M lab p s) (hB : Base K M lab) (hle : M.le M') (hK' : ∀ c o, K' c = some o → M' c = some o ∧ (K c = some o ∨ M c = none)) : ∃ lab', Mach M' lab' p s ∧ Base K' M' lab' := by
  refine ⟨relab M lab fun _ => 0, hM.keep (Kp.le hle _) (fun _ _ h => h), fun c o hc => ?_⟩
  obtain ⟨h1, h2⟩ := hK' c o hc
  refine ⟨h1, ?_⟩
  rcases h2 with h2 | h2
  · obtain ⟨h3, h4⟩ := hB c o h2
    unfold relab
    rw [h3]
    exact h4
  · exact relab_new h2 _
theorem Mach.box (hM : Mach M lab p s) (hB : Base K M lab) {b : Nat} (hn : M b = none) (o : Obj) : ∃ lab', Mach (M.upd b o) lab' p s ∧ Base (K.upd b o) (M.upd b o) lab' :=
  hM.more hB (Mm.le_upd' hn o) fun c o' hc => by
    by_cases e : c = b
    · subst e; rw [Mm.upd_same] at hc ⊢; exact ⟨hc, .inr hn⟩
    · rw [Mm.upd_ne e] at hc ⊢; exact ⟨(hB c o' hc).1, .inl hc⟩
/-- A block of the caller's is another one. -/
theorem Mach.put (hM : Mach M lab p s) (hB : Base K M lab) {b : Nat} {o : Obj} (hb : K b = some o) (o' : Obj) : Mach (M.upd b o') lab p s ∧ Base (K.upd b o') (M.upd b o') lab := by
  have hl := (hB b o hb).2
  exact ⟨hM.keep (Kp.upd hl o') (by omega), hB.upd hl⟩
/-- Another memory. -/
theorem Mach.memTo (hM : Mach M lab p s) (hB : Base K M lab) (hK : Kp (fun j => j = 2) M lab M' lab) {m : MemS} (hm : IsMem M' s.mp m) (hw : m.wb = s.mem.wb) (hN : m.N = s.mem.N) : Mach M' lab p { s with mem := m } ∧ Base K M' lab := by
  obtain ⟨⟨o1, o2, h1, h2, h3, h4, h5, h6, h7, h8, h9, h10, h11, h12⟩, h13⟩ := hM
  obtain ⟨a1, a2⟩ := hK.get o1 o2 (by omega)
  obtain ⟨w1, w2⟩ := h7.keep h8 hK (by omega)
  obtain ⟨p1, p2⟩ := hK.get h2 h3 (by omega)
  refine ⟨⟨⟨a1, a2, h1, p1, p2, hm, ⟨h5.1, ?_⟩, ?_, w1, w2, h9, h10.keep hK (by omega), fun t p' hp => (h11 t p' hp).keep hK fun k hk => by have := hk.1; omega, h12.keep hK (by omega)⟩, h13⟩, hB.keep hK (by omega)⟩
  · show lab m.wb = 2; rw [hw]; exact h5.2
  · show (m.N : Int) = _; rw [hN]; exact h6
theorem at_wbN (m : MemS) (a : Int) : (m.at_ a).wb = m.wb ∧ (m.at_ a).N = m.N := by
  unfold MemS.at_
  split <;> exact ⟨rfl, rfl⟩
theorem store_wbN (m : MemS) (a v : Int) : (m.store a v).wb = m.wb ∧ (m.store a v).N = m.N := by
  unfold MemS.store
  split
  · exact at_wbN m a
  · exact at_wbN m a
theorem Mach.load (hM : Mach M lab p s) (hB : Base K M lab) (a : Int) {Mc : TypeId} (hc : Mc = 97) : Mach (M.upd s.mp (.cells (s.mem.at_ a).cells Mc)) lab p { s with mem := s.mem.at_ a } ∧ Base K (M.upd s.mp (.cells (s.mem.at_ a).cells Mc)) lab := by
  subst hc
  exact hM.memTo hB (Kp.upd hM.mlab.1 _) (hM.mem.at_ a) (at_wbN _ _).1 (at_wbN _ _).2
theorem Mach.store (hM : Mach M lab p s) (hB : Base K M lab) (a v : Int) : Mach (storeM M s.mp s.mem a v) lab p { s with mem := s.mem.store a v } ∧ Base K (storeM M s.mp s.mem a v) lab := by
  refine hM.memTo hB ?_ (hM.mem.store a v) (store_wbN _ _ _).1 (store_wbN _ _ _).2
  unfold storeM
  split
  · have k1 : Kp (fun j => j = 2) M lab (M.upd s.mem.wb (s.mem.store a v).row) lab := Kp.upd hM.mlab.2 _
    exact k1.trans (Kp.upd hM.mlab.1 _)
  · exact Kp.upd hM.mlab.1 _
/-- Another state of one thread. -/
theorem Mach.thrTo (hM : Mach M lab p s) (hB : Base K M lab) (hq : s.tp[t]? = some q) (hK : Kp (OfThr t) M lab M' lab') {x : ThrS} (hx : IsThr M' lab' t q x) : Mach M' lab' p { s with thr := fun j => if j = t then x else s.thr j } ∧ Base K M' lab' := by
  obtain ⟨⟨o1, o2, h1, h2, h3, h4, h5, h6, h7, h8, h9, h10, h11, h12⟩, h13⟩ := hM
  have no : ∀ k, k < 10 → ¬ OfThr t k := fun k hk h => by have := h.1; omega
  obtain ⟨a1, a2⟩ := hK.get o1 o2 (no _ (by omega))
  obtain ⟨m1, m2⟩ := h4.keep h5 hK (no _ (by omega))
  obtain ⟨w1, w2⟩ := h7.keep h8 hK (no _ (by omega))
  obtain ⟨p1, p2⟩ := hK.get h2 h3 (no _ (by omega))
  refine ⟨⟨⟨a1, a2, h1, p1, p2, m1, m2, h6, w1, w2, h9, h10.keep hK (no _ (by omega)), fun j q' hj => ?_, h12.keep hK (no _ (by omega))⟩, h13⟩, hB.keep hK (no _ (by omega))⟩
  show IsThr M' lab' j q' (if j = t then x else s.thr j)
  by_cases e : j = t
  · subst e
    have hj2 : s.tp[j]? = some q' := hj
    rw [if_pos rfl]
    rw [hq] at hj2
    cases hj2
    exact hx
  · rw [if_neg e]
    refine (h11 j q' hj).keep hK fun k hk h => ?_
    have e1 := hk.1
    have e2 := hk.2
    have e3 := h.1
    have e4 := h.2
    omega
end
end Go.Proofs.YtlpkimpdeeiaaaaGreat
