/- One element of a row of the call's own is stored. -/
import Derived.Test.YtjnhklhgcbknkaaGreatDoorHeldB
import Derived.Test.YtjnhklhgcbknkaaGreatDoorStepP
namespace Go.Proofs.YtjnhklhgcbknkaaGreatDoor
open Go.RowKit
set_option linter.unusedVariables false
set_option linter.unusedSimpArgs false
set_option linter.unnecessarySimpa false
section
variable {α : Type} {sz : Nat} {enc : α → List Value}
theorem flat_split (L : List α) {k : Nat} (hk : k < L.length) : L.flatMap enc = (L.take k).flatMap enc ++ enc L[k] ++ (L.drop (k + 1)).flatMap enc := by
  rw [List.append_assoc, ← List.flatMap_cons, ← List.flatMap_append, ← List.drop_eq_getElem_cons hk, List.take_append_drop]
theorem flat_set (L : List α) {k : Nat} (hk : k < L.length) (y : α) : (L.set k y).flatMap enc = (L.take k).flatMap enc ++ enc y ++ (L.drop (k + 1)).flatMap enc := by
  rw [List.set_eq_take_append_cons_drop, if_pos hk]
  simp [List.flatMap_append]
end
/-- One element of a row of the call's own is stored. -/
theorem Own.putRow {α : Type} {enc : α → List Value} {σ w : World} {M0 M : Mm} {e : TypeId} {sz n g cap : Nat} {L : List α} (hen : ∀ x, (enc x).length = sz) (h : Has σ M w) (hle : M0.le M) (hown : Own M0 M e sz (.slice (some ⟨g, 0, none⟩) n cap) n (L.flatMap enc)) {k : Nat} (hk : k < L.length) (y : α) (hL : L.length = n) :
    ∃ M', Has σ M' (w.setCells g (k * sz) (enc y)) ∧ M0.le M' ∧ Own M0 M' e sz (.slice (some ⟨g, 0, none⟩) n cap) n ((L.set k y).flatMap enc) := by
  obtain ⟨hl, ⟨hv, _⟩ | ⟨g', cap', cur, hv, hg, hh, hc, hm, hs, ht⟩⟩ := hown
  · cases hv
  · cases hv
    have hcur : cur.toList = (L.take k).flatMap enc ++ enc L[k] ++ ((L.drop (k + 1)).flatMap enc ++ cur.toList.drop (n * sz)) := by
      conv => lhs; rw [← List.take_append_drop (n * sz) cur.toList, ht, flat_split L hk]
      simp
    have hB : Blk w g cur e := h.at_ g _ hh
    have hlen : ((L.take k).flatMap enc).length = k * sz := by
      rw [flat_length hen, List.length_take, Nat.min_eq_left (by omega)]
    have hB' : Blk w g ((L.take k).flatMap enc ++ enc L[k] ++ ((L.drop (k + 1)).flatMap enc ++ cur.toList.drop (n * sz))).toArray e := by
      rw [← hcur]
      simpa using hB
    have hx := blk_setCells g e (enc y) (k * sz) w ((L.take k).flatMap enc) (enc L[k]) ((L.drop (k + 1)).flatMap enc ++ cur.toList.drop (n * sz)) hlen (by rw [hen, hen]) hB'
    have hlen' : ((L.set k y).flatMap enc).length = n * sz := by rw [flat_length hen, List.length_set, hL]
    refine ⟨_, h.put (only_setCells g _ _ w) hx, Mm.le_upd hle hg _, hlen', .inr ⟨g, cap, _, rfl, hg, Mm.upd_same _ _ _, hc, hm, ?_, ?_⟩⟩
    · have h1 : cur.toList.length = cap * sz := by simpa using hs
      rw [hcur] at h1
      simp only [List.length_append, hen] at h1
      simp only [List.size_toArray, List.length_append, hen]
      exact h1
    · rw [flat_set L hk] at hlen' ⊢
      rw [← hlen']
      simp only [← List.append_assoc]
      rw [List.take_left]
section
variable {P : Program} {ops : Array Oper} {rest : List Oper} {op : Oper} {a : Act} {σ w : World} {M M0 : Mm} {Q : Exit → Act → World → Prop}
/-- One element of a row of the call's own is stored. -/
theorem wpList_putRow {α : Type} {enc : α → List Value} {e : TypeId} {sz n g cap : Nat} {L : List α} (hen : ∀ x, (enc x).length = sz) (h : Has σ M w) (hle : M0.le M) (hown : Own M0 M e sz (.slice (some ⟨g, 0, none⟩) n cap) n (L.flatMap enc)) (hL : L.length = n)
    (hgd : op.guard = none) (t : TypeId) (x y : Operand) (ho : op.op = .store t x y) (hdst : op.dst = none) {k : Nat} (hx : a.eval x = .pointer (some ⟨g, k * sz, none⟩)) {cells : Array Value} (hy : a.eval y = .agg cells) (hk : k < n) (z : α) (hz : cells.toList = enc z) (h1 : ∀ u ∈ enc z, u.oneCell' = true)
    (hi : (P.info? t).map (·.size) = some sz)
    (hK : ∀ w' M', Has σ M' w' → M0.le M' → Own M0 M' e sz (.slice (some ⟨g, 0, none⟩) n cap) n ((L.set k z).flatMap enc) → wpList P ops Q rest a w') : wpList P ops Q (op :: rest) a w := by
  obtain ⟨M', hh, hle', hown'⟩ := Own.putRow hen h hle hown (k := k) (by omega) z hL
  have hsz : cells.size = sz := by have := congrArg List.length hz; simpa [hen] using this
  refine wpList_store_mid hgd t x y ho g (k * sz) cells hx hy ?_ (by rw [hi, hsz]) (by rw [Array.all_eq_true_iff_forall_mem]; exact fun u hu => h1 u (by rw [← hz]; simpa using hu)) ?_
  · intro j hj
    obtain ⟨_, ⟨hv, _⟩ | ⟨g', cap', cur, hv, hg, hM, hc, hm, hs, ht⟩⟩ := hown
    · cases hv
    · cases hv
      have : k * sz + j < cur.size := by
        rw [hs]
        have : (k + 1) * sz ≤ cap * sz := Nat.mul_le_mul_right _ (by omega)
        rw [Nat.add_mul, Nat.one_mul] at this
        omega
      exact ⟨by rw [h.cell hM, Array.getElem?_eq_getElem this]; rfl, h.free hM _⟩
  · rw [hdst, hz]
    exact hK _ _ hh hle' hown'
end

end Go.Proofs.YtjnhklhgcbknkaaGreatDoor
