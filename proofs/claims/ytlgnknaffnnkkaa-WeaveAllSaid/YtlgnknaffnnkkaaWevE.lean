/- slices.Clone, slices.Reverse over calls; turned. -/
import Derived.Test.YtlgnknaffnnkkaaHeld
namespace Go.Proofs.Ytlgnknaffnnkkaa
open Go.RowKit
set_option linter.unusedVariables false
set_option linter.unusedSimpArgs false
set_option linter.unnecessarySimpa false
theorem info_call : (Try.prog.info? 55).map (fun i => (i.zero, i.size, i.bytes)) = some (some (.agg #[.int .i64 0, .int .i64 0, .int .i64 0, .int .u64 0, .int .u64 0, .int .u64 0, .int .i64 0]), 7, 56) := by kernel_rfl
theorem oneK (P : List PCall) : ∀ y ∈ P.flatMap encK, y.oneCell' = true := oneCell_flat encK_one P

set_option maxHeartbeats 1000000 in
theorem clone_has {σ w : World} {M : Mm} (h : Has σ M w) (v : Value) (P : List PCall) (hr : Rd M 7 v P.length (P.flatMap encK)) (hP : P.length ≤ 1000000) :
    Calls Try.prog 45 #[v] w fun r w' => ∃ u, r = .returned u ∧ Acc σ M w' 55 7 u P.length (P.flatMap encK) := by
  have oP := oneK P
  obtain ⟨A, cap, rfl⟩ := hr.form
  obtain ⟨n, hl⟩ : ∃ n, P.length = n := ⟨_, rfl⟩
  rw [hl] at hr hP ⊢
  cases A with
  | none =>
    have h0 : n = 0 := by
      obtain ⟨_, A, c, e, _, hA⟩ := hr
      rcases Nat.eq_zero_or_pos n with h | h
      · exact h
      · obtain ⟨b, o, cs, t, fz, hA, _⟩ := hA h
        cases e
        cases hA
    subst h0
    have hn : P = [] := List.eq_nil_of_length_eq_zero hl
    subst hn
    clear hl hr oP
    have hb : ∀ w, (binOp .eql 25 (.slice none 0 cap) (.slice none 0 0)).run Try.prog w = .ok (.bool true) w := fun w => by kernel_rfl
    go_enter Try.func45, Try.ntmps45
    go_wp2
    go_ret
    exact ⟨_, rfl, Acc.nil h _ _⟩
  | some ad =>
    have HL := Lib.hid hl
    clear hl
    generalize P.flatMap encK = xs at *
    have hb : ∀ w, (binOp .eql 25 (.slice (some ad) n cap) (.slice none 0 0)).run Try.prog w = .ok (.bool false) w := fun w => by kernel_rfl
    go_enter Try.func45, Try.ntmps45
    go_wp2_with (first
      | (at_builtin; refine wpList_append_rd (h.alloc _) (Mm.le_upd' h.fresh _) rfl _ _ _ rfl Try.underlying25 info_call rfl (by omega) rfl (Own.made h.fresh 0 rfl (by decide)) rfl (hr.le (Mm.le_upd' h.fresh _)) oP (by omega) (by omega) ?_; clear h; intro v w hacc))
    go_ret
    obtain ⟨M5, h, hle, hown⟩ := hacc
    exact ⟨_, rfl, M5, h, hle, by simpa using hown⟩

section
variable {α : Type} {sz : Nat} {enc : α → List Value}
theorem flat_split (L : List α) {k : Nat} (hk : k < L.length) : L.flatMap enc = (L.take k).flatMap enc ++ enc L[k] ++ (L.drop (k + 1)).flatMap enc := by
  rw [List.append_assoc, ← List.flatMap_cons, ← List.flatMap_append, ← List.drop_eq_getElem_cons hk, List.take_append_drop]
theorem flat_set (L : List α) {k : Nat} (hk : k < L.length) (y : α) : (L.set k y).flatMap enc = (L.take k).flatMap enc ++ enc y ++ (L.drop (k + 1)).flatMap enc := by
  rw [List.set_eq_take_append_cons_drop, if_pos hk]
  simp [List.flatMap_append]
end
/-- One element of a row of the call's own is stored. -/
theorem Own.putRow {α : Type} {enc : α → List Value} {σ w : World} {M0 M : Mm} {e : TypeId} {sz n g cap : Nat} {L : List α} (hen : ∀ x, (enc x).length = sz) (h : Has σ M w) (hle : M0.le M) (hown : Own M0 M e sz (.slice (some ⟨g, 0, none⟩) n cap) n (L.flatMap enc)) {k : Nat} (hk : k < L.length) (y : α) (hL : L.length = n) :
    ∃ M', Has σ M' (w.setCells g (k * sz) (enc y)) ∧ M0.le M' ∧ Own M0 M' e sz (.slice (some ⟨g, 0, none⟩) n cap) n ((L.set k y).flatMap enc) := by
  obtain ⟨hl, ⟨hv, _⟩ | ⟨g', cap', cur, hv, hg, hh, hc, hm, hs, ht⟩⟩ := hown
  · cases hv
  · cases hv
    have hcur : cur.toList = (L.take k).flatMap enc ++ enc L[k] ++ ((L.drop (k + 1)).flatMap enc ++ cur.toList.drop (n * sz)) := by
      conv => lhs; rw [← List.take_append_drop (n * sz) cur.toList, ht, flat_split L hk]
      simp
    have hB : Blk w g cur e := h.at_ g _ hh
    have hlen : ((L.take k).flatMap enc).length = k * sz := by
      rw [flat_length hen, List.length_take, Nat.min_eq_left (by omega)]
    have hB' : Blk w g ((L.take k).flatMap enc ++ enc L[k] ++ ((L.drop (k + 1)).flatMap enc ++ cur.toList.drop (n * sz))).toArray e := by
      rw [← hcur]
      simpa using hB
    have hx := blk_setCells g e (enc y) (k * sz) w ((L.take k).flatMap enc) (enc L[k]) ((L.drop (k + 1)).flatMap enc ++ cur.toList.drop (n * sz)) hlen (by rw [hen, hen]) hB'
    have hlen' : ((L.set k y).flatMap enc).length = n * sz := by rw [flat_length hen, List.length_set, hL]
    refine ⟨_, h.put (only_setCells g _ _ w) hx, Mm.le_upd hle hg _, hlen', .inr ⟨g, cap, _, rfl, hg, Mm.upd_same _ _ _, hc, hm, ?_, ?_⟩⟩
    · have h1 : cur.toList.length = cap * sz := by simpa using hs
      rw [hcur] at h1
      simp only [List.length_append, hen] at h1
      simp only [List.size_toArray, List.length_append, hen]
      exact h1
    · rw [flat_set L hk] at hlen' ⊢
      rw [← hlen']
      simp only [← List.append_assoc]
      rw [List.take_left]
end Go.Proofs.Ytlgnknaffnnkkaa
