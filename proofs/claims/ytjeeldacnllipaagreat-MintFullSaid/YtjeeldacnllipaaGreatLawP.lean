/- What laws over machines have in common: pairs; an element of a row of the law's own is stored. -/
import Derived.Test.YtjeeldacnllipaaGreatLawK
import Derived.Test.YtjeeldacnllipaaGreatPut1
namespace Go.Proofs.YtjeeldacnllipaaGreat
open Go.RowKit
set_option linter.unusedVariables false
set_option linter.unusedSimpArgs false
set_option linter.unnecessarySimpa false
def enc2 (x : Int × Int) : List Value := [.int .i64 x.1, .int .i64 x.2]
/-- One element of a row of the call's own is stored, at a step of a region that draws. -/
theorem step_putRow {P : Program} {op : Oper} {a : Act} {ops : Array Oper} {σ w : World} {M M0 : Mm} {Q : Exit → Act → World → Prop} {K : Act → World → Prop} {E : Prop} {α : Type} {enc : α → List Value} {e : TypeId} {sz n g cap : Nat} {L : List α} (hen : ∀ x, (enc x).length = sz) (h : Has σ M w) (hle : M0.le M) (hown : Own M0 M e sz (.slice (some ⟨g, 0, none⟩) n cap) n (L.flatMap enc)) (hL : L.length = n)
    (hgd : op.guard = none) (t : TypeId) (x y : Operand) (ho : op.op = .store t x y) (hdst : op.dst = none) {k : Nat} (hx : a.eval x = .pointer (some ⟨g, k * sz, none⟩)) {cells : Array Value} (hy : a.eval y = .agg cells) (hk : k < n) (z : α) (hz : cells.toList = enc z) (h1 : ∀ u ∈ enc z, u.oneCell' = true)
    (hi : (P.info? t).map (·.size) = some sz)
    (hK : ∀ w' M', Has σ M' w' → M0.le M' → Own M0 M' e sz (.slice (some ⟨g, 0, none⟩) n cap) n ((L.set k z).flatMap enc) → K a w') : if Region.wanted op (yielded ops a.tmps) = true then Oper.wp P op a w K Q else E := by
  have hw : Region.wanted op (yielded ops a.tmps) = true := by simp [Region.wanted, hgd]
  rw [if_pos hw]
  obtain ⟨M', hh, hle', hown'⟩ := Own.putRow hen h hle hown (k := k) (by omega) z hL
  have hsz : cells.size = sz := by have := congrArg List.length hz; simpa [hen] using this
  refine wp_store_mid t x y ho g (k * sz) cells hx hy ?_ (by rw [hi, hsz]) (by rw [Array.all_eq_true_iff_forall_mem]; exact fun u hu => h1 u (by rw [← hz]; simpa using hu)) ?_
  · intro j hj
    obtain ⟨_, ⟨hv, _⟩ | ⟨g', cap', cur, hv, hg, hM, hc, hm, hs, ht⟩⟩ := hown
    · cases hv
    · cases hv
      have : k * sz + j < cur.size := by
        rw [hs]
        have : (k + 1) * sz ≤ cap * sz := Nat.mul_le_mul_right _ (by omega)
        rw [Nat.add_mul, Nat.one_mul] at this
        omega
      exact ⟨by rw [h.cell hM, Array.getElem?_eq_getElem this]; rfl, h.free hM _⟩
  · rw [hdst, hz]
    exact hK _ _ hh hle' hown'
theorem natv_erase (l : List Nat) (k : Nat) : natv (l.eraseIdx k) = (natv l).take k ++ (natv l).drop (k + 1) := by
  unfold natv
  rw [List.eraseIdx_eq_take_drop_succ, List.map_append, List.map_take, List.map_drop]
theorem outK_self {K M : Mm} {labK : Nat → Nat} {j : Nat} (h : ∀ c o, K c = some o → labK c ≠ j) : outK K M labK j = M := by
  funext c
  unfold outK
  cases e : K c with
  | none => rfl
  | some o => simp only [if_neg (h c o e)]
theorem stable_outK {K M : Mm} {labK : Nat → Nat} {j : Nat} (hB : K.le M) (hj : j ≠ 0) : (stable K labK).le (outK K M labK j) := fun c o h => by
  unfold stable at h
  split at h
  · next hl => exact outK_of hB h (by rw [hl]; exact Ne.symm hj)
  · cases h
end Go.Proofs.YtjeeldacnllipaaGreat
