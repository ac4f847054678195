/- What a law knows besides a machine: rows of its own, and what stays. -/
import Derived.Test.YtjeeldacnllipaaGreatMachT
namespace Go.Proofs.YtjeeldacnllipaaGreat
open Go.RowKit
set_option linter.unusedVariables false
set_option linter.unusedSimpArgs false
set_option linter.unnecessarySimpa false
section
variable {α : Type} {sz : Nat} {enc : α → List Value}
theorem flat_split (L : List α) {k : Nat} (hk : k < L.length) : L.flatMap enc = (L.take k).flatMap enc ++ enc L[k] ++ (L.drop (k + 1)).flatMap enc := by
  rw [List.append_assoc, ← List.flatMap_cons, ← List.flatMap_append, ← List.drop_eq_getElem_cons hk, List.take_append_drop]
theorem flat_set (L : List α) {k : Nat} (hk : k < L.length) (y : α) : (L.set k y).flatMap enc = (L.take k).flatMap enc ++ enc y ++ (L.drop (k + 1)).flatMap enc := by
  rw [List.set_eq_take_append_cons_drop, if_pos hk]
  simp [List.flatMap_append]
end
/-- One element of a row of the call's own is stored. -/
theorem Own.putRow {α : Type} {enc : α → List Value} {σ w : World} {M0 M : Mm} {e : TypeId} {sz n g cap : Nat} {L : List α} (hen : ∀ x, (enc x).length = sz) (h : Has σ M w) (hle : M0.le M) (hown : Own M0 M e sz (.slice (some ⟨g, 0, none⟩) n cap) n (L.flatMap enc)) {k : Nat} (hk : k < L.length) (y : α) (hL : L.length = n) :
    ∃ M', Has σ M' (w.setCells g (k * sz) (enc y)) ∧ M0.le M' ∧ Own M0 M' e sz (.slice (some ⟨g, 0, none⟩) n cap) n ((L.set k y).flatMap enc) := by
  obtain ⟨hl, ⟨hv, _⟩ | ⟨g', cap', cur, hv, hg, hh, hc, hm, hs, ht⟩⟩ := hown
  · cases hv
  · cases hv
    have hcur : cur.toList = (L.take k).flatMap enc ++ enc L[k] ++ ((L.drop (k + 1)).flatMap enc ++ cur.toList.drop (n * sz)) := by
      conv => lhs; rw [← List.take_append_drop (n * sz) cur.toList, ht, flat_split L hk]
      simp
    have hB : Blk w g cur e := h.at_ g _ hh
    have hlen : ((L.take k).flatMap enc).length = k * sz := by
      rw [flat_length hen, List.length_take, Nat.min_eq_left (by omega)]
    have hB' : Blk w g ((L.take k).flatMap enc ++ enc L[k] ++ ((L.drop (k + 1)).flatMap enc ++ cur.toList.drop (n * sz))).toArray e := by
      rw [← hcur]
      simpa using hB
    have hx := blk_setCells g e (enc y) (k * sz) w ((L.take k).flatMap enc) (enc L[k]) ((L.drop (k + 1)).flatMap enc ++ cur.toList.drop (n * sz)) hlen (by rw [hen, hen]) hB'
    have hlen' : ((L.set k y).flatMap enc).length = n * sz := by rw [flat_length hen, List.length_set, hL]
    refine ⟨_, h.put (only_setCells g _ _ w) hx, Mm.le_upd hle hg _, hlen', .inr ⟨g, cap, _, rfl, hg, Mm.upd_same _ _ _, hc, hm, ?_, ?_⟩⟩
    · have h1 : cur.toList.length = cap * sz := by simpa using hs
      rw [hcur] at h1
      simp only [List.length_append, hen] at h1
      simp only [List.size_toArray, List.length_append, hen]
      exact h1
    · rw [flat_set L hk] at hlen' ⊢
      rw [← hlen']
      simp only [← List.append_assoc]
      rw [List.take_left]
section
variable {P : Program} {ops : Array Oper} {rest : List Oper} {op : Oper} {a : Act} {σ w : World} {M M0 : Mm} {Q : Exit → Act → World → Prop}
theorem wpList_putRow {α : Type} {enc : α → List Value} {e : TypeId} {sz n g cap : Nat} {L : List α} (hen : ∀ x, (enc x).length = sz) (h : Has σ M w) (hle : M0.le M) (hown : Own M0 M e sz (.slice (some ⟨g, 0, none⟩) n cap) n (L.flatMap enc)) (hL : L.length = n)
    (hgd : op.guard = none) (t : TypeId) (x y : Operand) (ho : op.op = .store t x y) (hdst : op.dst = none) {k : Nat} (hx : a.eval x = .pointer (some ⟨g, k * sz, none⟩)) {cells : Array Value} (hy : a.eval y = .agg cells) (hk : k < n) (z : α) (hz : cells.toList = enc z) (h1 : ∀ u ∈ enc z, u.oneCell' = true)
    (hi : (P.info? t).map (·.size) = some sz)
    (hK : ∀ w' M', Has σ M' w' → M0.le M' → Own M0 M' e sz (.slice (some ⟨g, 0, none⟩) n cap) n ((L.set k z).flatMap enc) → wpList P ops Q rest a w') : wpList P ops Q (op :: rest) a w := by
  obtain ⟨M', hh, hle', hown'⟩ := Own.putRow hen h hle hown (k := k) (by omega) z hL
  have hsz : cells.size = sz := by have := congrArg List.length hz; simpa [hen] using this
  refine wpList_store_mid hgd t x y ho g (k * sz) cells hx hy ?_ (by rw [hi, hsz]) (by rw [Array.all_eq_true_iff_forall_mem]; exact fun u hu => h1 u (by rw [← hz]; simpa using hu)) ?_
  · intro j hj
    obtain ⟨_, ⟨hv, _⟩ | ⟨g', cap', cur, hv, hg, hM, hc, hm, hs, ht⟩⟩ := hown
    · cases hv
    · cases hv
      have : k * sz + j < cur.size := by
        rw [hs]
        have : (k + 1) * sz ≤ cap * sz := Nat.mul_le_mul_right _ (by omega)
        rw [Nat.add_mul, Nat.one_mul] at this
        omega
      exact ⟨by rw [h.cell hM, Array.getElem?_eq_getElem this]; rfl, h.free hM _⟩
  · rw [hdst, hz]
    exact hK _ _ hh hle' hown'
/-- One cell of a row of the call's own is stored. -/
theorem wpList_putOne {e : TypeId} {n g cap : Nat} {xs : List Value} (h : Has σ M w) (hle : M0.le M) (hown : Own M0 M e 1 (.slice (some ⟨g, 0, none⟩) n cap) n xs)
    (hgd : op.guard = none) (t : TypeId) (x y : Operand) (ho : op.op = .store t x y) (hdst : op.dst = none) {k : Nat} (hx : a.eval x = .pointer (some ⟨g, k, none⟩)) (hk : k < n) {u : Value} (hy : a.eval y = u) (h1 : u.oneCell' = true) (hi : (P.info? t).map (·.size) = some 1)
    (hK : ∀ w' M', Has σ M' w' → M0.le M' → Own M0 M' e 1 (.slice (some ⟨g, 0, none⟩) n cap) n (xs.set k u) → wpList P ops Q rest a w') : wpList P ops Q (op :: rest) a w := by
  obtain ⟨cur, hg, hlt, hown', hng⟩ := hown.put k u
  refine wpList_store1_has h (by simp [Region.wanted, hgd]) t x y ho hdst hx hg (by omega) (by rw [hy]; exact h1) hi ?_
  intro w' h'
  rw [hy] at h'
  exact hK w' _ h' (Mm.le_upd hle hng _) hown'
end
def learn (K M M' : Mm) : Mm := fun c => match M c with | none => M' c | some _ => K c
def stable (K : Mm) (labK : Nat → Nat) : Mm := fun c => if labK c = 0 then K c else none
/-- What is known, but for a row of the law's. -/
def outK (K M : Mm) (labK : Nat → Nat) (j : Nat) : Mm := fun c => match K c with | none => M c | some _ => if labK c = j then none else M c
section
variable {K M M' K' : Mm} {lab lab' labK labK' : Nat → Nat} {p n sz j : Nat} {s : MachS} {e : TypeId} {v : Value} {xs : List Value}
theorem Mach.learn (hM : Mach M lab p s) (hB : Base K M lab) (hle : M.le M') : ∃ lab', Mach M' lab' p s ∧ Base (learn K M M') M' lab' :=
  hM.more hB hle fun c o hc => by
    unfold Go.Proofs.YtjeeldacnllipaaGreat.learn at hc
    cases hm : M c with
    | none => rw [hm] at hc; exact ⟨hc, .inr rfl⟩
    | some x => rw [hm] at hc; exact ⟨hle _ _ (hB c o hc).1, .inl hc⟩
theorem learn_kp (hB : K.le M) (M' : Mm) (labK : Nat → Nat) : Kp Non K labK (learn K M M') (relab K labK fun _ => 0) := fun c o hc _ => by
  unfold learn relab
  rw [hB c o hc, hc]
  exact ⟨rfl, rfl⟩
theorem learn_rd (hB : K.le M) (labK : Nat → Nat) (ho : Own M M' e sz v n xs) : Rd (stable (learn K M M') (relab K labK fun _ => 0)) sz v n xs :=
  ho.rd_in fun c x hn hx => by
    have hk : K c = none := by
      cases h : K c with
      | none => rfl
      | some o => rw [hB c o h] at hn; cases hn
    unfold stable learn relab
    rw [hn, hk]
    exact hx
theorem stable_le (K : Mm) (labK : Nat → Nat) : (stable K labK).le K := fun c o h => by unfold stable at h; split at h; exact h; cases h
theorem stable_kp {A : Nat → Prop} (h : Kp A K labK K' labK') (hA : ¬ A 0) : (stable K labK).le (stable K' labK') := fun c o hc => by
  unfold stable at hc ⊢
  split at hc
  · rename_i h0
    obtain ⟨a, b⟩ := h.get hc h0 hA
    rw [if_pos b]; exact a
  · cases hc
theorem outK_le (K M : Mm) (labK : Nat → Nat) (j : Nat) : (outK K M labK j).le M := fun c o h => by
  unfold outK at h
  split at h
  · exact h
  · split at h
    · cases h
    · exact h
theorem outK_of {c : Nat} {o : Obj} (hB : K.le M) (hc : K c = some o) (hl : labK c ≠ j) : outK K M labK j c = some o := by
  unfold outK
  rw [hc]
  simp only [if_neg hl]
  exact hB _ _ hc
theorem Row.up (h : Row K labK j e sz v n xs) (hB : K.le M) : Own (outK K M labK j) M e sz v n xs := by
  obtain ⟨hl, ⟨hv, h0⟩ | ⟨g, cap, cur, hv, hg, hh, r⟩⟩ := h
  · exact ⟨hl, .inl ⟨hv, h0⟩⟩
  · have hgk : labK g = j := by
      by_cases e : labK g = j
      · exact e
      · rw [Mm.out_of hh e] at hg; cases hg
    refine ⟨hl, .inr ⟨g, cap, cur, hv, ?_, hB _ _ hh, r⟩⟩
    unfold outK
    rw [hh]
    simp only [if_pos hgk]
/-- A row of the law's is another one. -/
theorem Mach.rowTo (hM : Mach M lab p s) (hB : Base K M lab) (hle : (outK K M labK j).le M') (ho : Own (outK K M labK j) M' e sz v n xs) : ∃ lab' K' labK', Mach M' lab' p s ∧ Base K' M' lab' ∧ Kp (fun k => k = j) K labK K' labK' ∧ Row K' labK' j e sz v n xs := by
  have hO : ∀ c o, K c = some o → labK c ≠ j → outK K M labK j c = some o := fun c o hc hl => outK_of hB.le hc hl
  have hMO : ∀ c o, M c = some o → lab c ≠ 0 → outK K M labK j c = some o := fun c o hc hl => by
    have hk : K c = none := by
      cases h : K c with
      | none => rfl
      | some x => exact absurd (hB c x h).2 hl
    unfold outK
    rw [hk]
    exact hc
  obtain ⟨hl, ⟨hv, h0⟩ | ⟨g, cap, cur, hv, hg, hh, r⟩⟩ := ho
  · refine ⟨lab, K.out labK j, labK, hM.keep (A := fun k => k = 0) (fun c o hc hA => ⟨hle _ _ (hMO c o hc hA), rfl⟩) (fun k hk => by omega), fun c o hc => ?_, fun c o hc hA => ⟨Mm.out_of hc hA, rfl⟩, hl, .inl ⟨hv, h0⟩⟩
    have hl2 : labK c ≠ j := fun e => by rw [Mm.out_none e] at hc; cases hc
    have hc2 := Mm.out_le _ _ _ _ _ hc
    exact ⟨hle _ _ (hO c o hc2 hl2), (hB c o hc2).2⟩
  · have hne : ∀ c o, outK K M labK j c = some o → c ≠ g := fun c o hc e => by subst e; rw [hc] at hg; cases hg
    refine ⟨fun c => if c = g then 0 else lab c, fun c => if c = g then M' g else K.out labK j c, fun c => if c = g then j else labK c, hM.keep (A := fun k => k = 0) (fun c o hc hA => ⟨hle _ _ (hMO c o hc hA), if_neg (hne c o (hMO c o hc hA))⟩) (fun k hk => by omega), fun c o hc => ?_, fun c o hc hA => ?_, hl, .inr ⟨g, cap, cur, hv, ?_, ?_, r⟩⟩
    · by_cases h1 : c = g
      · subst h1; simp only [if_true] at hc ⊢; exact ⟨hc, trivial⟩
      · simp only [if_neg h1] at hc ⊢
        have hl2 : labK c ≠ j := fun e => by rw [Mm.out_none e] at hc; cases hc
        have hc2 := Mm.out_le _ _ _ _ _ hc
        exact ⟨hle _ _ (hO c o hc2 hl2), (hB c o hc2).2⟩
    · have h1 := hne c o (hO c o hc hA)
      simp only [if_neg h1]
      exact ⟨Mm.out_of hc hA, trivial⟩
    · exact Mm.out_none (by simp)
    · simp only [if_true]; exact hh
end
end Go.Proofs.YtjeeldacnllipaaGreat
