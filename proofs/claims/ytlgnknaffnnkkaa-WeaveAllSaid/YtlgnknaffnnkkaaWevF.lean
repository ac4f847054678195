/- slices.Reverse over calls; turned. -/
import Derived.Test.YtlgnknaffnnkkaaWevE
namespace Go.Proofs.Ytlgnknaffnnkkaa
open Go.RowKit
set_option linter.unusedVariables false
set_option linter.unusedSimpArgs false
set_option linter.unnecessarySimpa false
section
variable {P : Program} {ops : Array Oper} {rest : List Oper} {op : Oper} {a : Act} {σ w : World} {M M0 : Mm} {Q : Exit → Act → World → Prop}
/-- One element of a row of the call's own is stored. -/
theorem wpList_putRow {α : Type} {enc : α → List Value} {e : TypeId} {sz n g cap : Nat} {L : List α} (hen : ∀ x, (enc x).length = sz) (h : Has σ M w) (hle : M0.le M) (hown : Own M0 M e sz (.slice (some ⟨g, 0, none⟩) n cap) n (L.flatMap enc)) (hL : L.length = n)
    (hgd : op.guard = none) (t : TypeId) (x y : Operand) (ho : op.op = .store t x y) (hdst : op.dst = none) {k : Nat} (hx : a.eval x = .pointer (some ⟨g, k * sz, none⟩)) {cells : Array Value} (hy : a.eval y = .agg cells) (hk : k < n) (z : α) (hz : cells.toList = enc z) (h1 : ∀ u ∈ enc z, u.oneCell' = true)
    (hi : (P.info? t).map (·.size) = some sz)
    (hK : ∀ w' M', Has σ M' w' → M0.le M' → Own M0 M' e sz (.slice (some ⟨g, 0, none⟩) n cap) n ((L.set k z).flatMap enc) → wpList P ops Q rest a w') : wpList P ops Q (op :: rest) a w := by
  obtain ⟨M', hh, hle', hown'⟩ := Own.putRow hen h hle hown (k := k) (by omega) z hL
  have hsz : cells.size = sz := by have := congrArg List.length hz; simpa [hen] using this
  refine wpList_store_mid hgd t x y ho g (k * sz) cells hx hy ?_ (by rw [hi, hsz]) (by rw [Array.all_eq_true_iff_forall_mem]; exact fun u hu => h1 u (by rw [← hz]; simpa using hu)) ?_
  · intro j hj
    obtain ⟨_, ⟨hv, _⟩ | ⟨g', cap', cur, hv, hg, hM, hc, hm, hs, ht⟩⟩ := hown
    · cases hv
    · cases hv
      have : k * sz + j < cur.size := by
        rw [hs]
        have : (k + 1) * sz ≤ cap * sz := Nat.mul_le_mul_right _ (by omega)
        rw [Nat.add_mul, Nat.one_mul] at this
        omega
      exact ⟨by rw [h.cell hM, Array.getElem?_eq_getElem this]; rfl, h.free hM _⟩
  · rw [hdst, hz]
    exact hK _ _ hh hle' hown'
end

/-- What stands where after so many swaps. -/
def Swapped (P L : List PCall) (k : Nat) : Prop := L.length = P.length ∧ ∀ t, t < P.length → L[t]? = if t < k ∨ P.length - 1 - t < k then P[P.length - 1 - t]? else P[t]?
theorem Swapped.zero (P : List PCall) : Swapped P P 0 := ⟨rfl, fun t ht => by rw [if_neg (by omega)]⟩
theorem Swapped.step {P L : List PCall} {k : Nat} (h : Swapped P L k) (hk : k < P.length - 1 - k) {x y : PCall} (hx : L[k]? = some x) (hy : L[P.length - 1 - k]? = some y) : Swapped P ((L.set k y).set (P.length - 1 - k) x) (k + 1) := by
  refine ⟨by simp [h.1], fun t ht => ?_⟩
  have e1 := h.2 k (by omega)
  have e2 := h.2 (P.length - 1 - k) (by omega)
  rw [if_neg (by omega)] at e1 e2
  rw [List.getElem?_set, List.getElem?_set]
  have hl := h.1
  by_cases h1 : P.length - 1 - k = t
  · subst h1
    rw [if_pos rfl, if_pos (by simp; omega), if_pos (by omega), ← hx, e1]
    congr 1
    omega
  · rw [if_neg h1]
    by_cases h2 : k = t
    · subst h2
      rw [if_pos rfl, if_pos (by omega), if_pos (by omega), ← hy, e2]
    · rw [if_neg h2, h.2 t ht]
      by_cases h3 : t < k ∨ P.length - 1 - t < k
      · rw [if_pos h3, if_pos (by omega)]
      · rw [if_neg h3, if_neg (by omega)]
theorem Swapped.done {P L : List PCall} {k : Nat} (h : Swapped P L k) (hk : ¬ k < P.length - 1 - k) : L = P.reverse := by
  refine List.ext_getElem? fun t => ?_
  rcases Nat.lt_or_ge t P.length with ht | ht
  · rw [h.2 t ht, List.getElem?_reverse ht]
    split
    · rfl
    · congr 1; omega
  · rw [List.getElem?_eq_none (by rw [h.1]; exact ht), List.getElem?_eq_none (by simpa using ht)]

set_option maxHeartbeats 2000000 in
theorem reverse_has {σ w : World} {M0 M : Mm} (h : Has σ M w) (hle : M0.le M) (v : Value) (P : List PCall) (hown : Own M0 M 55 7 v P.length (P.flatMap encK)) (hP : P.length ≤ 1000000) :
    Calls Try.prog 46 #[v] w fun r w' => (∃ u, r = .returned u) ∧ Acc σ M0 w' 55 7 v P.length (P.reverse.flatMap encK) := by
  obtain ⟨A, cap, rfl⟩ := hown.form
  have SW := Swapped.zero P
  have SS : Hid (∀ (L : List PCall) (k : Nat) (x y : PCall), Swapped P L k → k < P.length - 1 - k → L[k]? = some x → L[P.length - 1 - k]? = some y → Swapped P ((L.set k y).set (P.length - 1 - k) x) (k + 1)) := fun L k x y h hk hx hy => h.step hk hx hy
  have SD : Hid (∀ (L : List PCall) (k : Nat), Swapped P L k → ¬ k < P.length - 1 - k → L = P.reverse) := fun L k h hk => h.done hk
  have SL : Hid (∀ (L : List PCall) (k : Nat), Swapped P L k → L.length = P.length) := fun L k h => h.1
  generalize Swapped P = S at *
  generalize P.reverse = R at *
  generalize hn : P.length = n at *
  have hl0 := Lib.hid hn
  clear hn
  go_enter Try.func46, Try.ntmps46
  go_wp2
  go_loopw [2, 3] (fun i j wr => ∃ (k : Nat) (L : List PCall) (M' : Mm), 2 * k ≤ n ∧ i = .int .i64 k ∧ j = .int .i64 ((n : Int) - 1 - k) ∧ S L k ∧ Has σ M' wr ∧ M0.le M' ∧ Own M0 M' 55 7 (.slice A n cap) n (L.flatMap encK)) (fun i j _ => (intOf j + 1 - intOf i).toNat)
  case atStart => exact ⟨0, P, M, by omega, rfl, congrArg (Value.int .i64) (by omega), SW, h, hle, hown⟩
  case round =>
    clear h w hown hle M SW
    obtain ⟨w, rfl⟩ : ∃ x : World, x = wr := ⟨_, rfl⟩
    obtain ⟨k, L, M', hk, rfl, rfl, hS, h, hle, hown⟩ := hrel
    by_cases hlt : k < n - 1 - k
    · have hLl := SL.out L k hS
      obtain ⟨g, c1, e1⟩ := hown.pos (by omega)
      cases e1
      obtain ⟨x, hx⟩ : ∃ x, L[k]? = some x := ⟨_, List.getElem?_eq_getElem (by omega)⟩
      obtain ⟨y, hy⟩ : ∃ x, L[n - 1 - k]? = some x := ⟨_, List.getElem?_eq_getElem (by omega)⟩
      have NX := Lib.hid (SS.out L k x y hS hlt hx hy)
      obtain ⟨q, hq⟩ : ∃ q : Nat, q = n - 1 - k := ⟨_, rfl⟩
      have hqi : (n : Int) - 1 - k = (q : Int) := by omega
      rw [← hq] at hy NX hlt
      rw [hqi]
      obtain ⟨b1, o1, c1, cs1, t1, f1, e1, hM1, hx1⟩ := hown.rd.elem encK_len (by omega : k < n) hx
      cases e1
      obtain ⟨b2, o2, c2, cs2, t2, f2, e2, hM2, hx2⟩ := hown.rd.elem encK_len (by omega : q < n) hy
      cases e2
      simp only [Nat.zero_add] at hx1 hx2
      have hc1 := extract_of hx1 (encK_len x)
      have hc2 := extract_of hx2 (encK_len y)
      have ox := encK_one x
      have oy := encK_one y
      have zx : (encK x).toArray.size = 7 := rfl
      have zy : (encK y).toArray.size = 7 := rfl
      have tx : (encK x).toArray.toList = encK x := rfl
      have ty : (encK y).toArray.toList = encK y := rfl
      have ox' := Lib.hid ox
      have oy' := Lib.hid oy
      clear hx1 hx2 hx hy ox oy
      generalize hX : (encK x).toArray = X at *
      generalize hY : (encK y).toArray = Y at *
      clear hX hY
      have hk1 : k < n := by omega
      have hq1 : q < n := by omega
      have HQ := Lib.hid (show 2 * k + 2 ≤ n ∧ (q : Int) = (n : Int) - 1 - k by omega)
      have hkq' : (k : Int) < q := by omega
      clear hq hqi hk
      have hLs : (L.set k y).length = n := by simpa using hLl
      go_upto_region 3 with (fail)
      refine wp_region_head (Has σ M') 12 (by kernel_rfl) (by kernel_rfl) (fun _ _ _ _ _ h => h) h.drew ?_
      clear h
      simp only [List.take_succ_cons, List.take_zero, List.drop_succ_cons, List.drop_zero]
      repeat (first
        | go_big_quiet_skip
        | (go_big_quiet_want; first
          | (refine quiet_agg_has 55 _ rfl rfl hM1 hc1 zx Try.underlying55 rfl (by kernel_rfl) ?_; simp only [Act.put, List.setIfInBounds_toArray, List.set_cons_zero, List.set_cons_succ]; go_big_quiet_on)
          | (refine quiet_agg_has 55 _ rfl rfl hM2 hc2 zy Try.underlying55 rfl (by kernel_rfl) ?_; simp only [Act.put, List.setIfInBounds_toArray, List.set_cons_zero, List.set_cons_succ]; go_big_quiet_on)
          | (go_big_quiet_op; first | go_big_quiet_on | go_big_quiet_call (first | with_reducible exact fun _ => rfl))))
      refine wpQuiet_nil ?_
      try clear w
      intro w h
      go_wp2_with (first
        | ((with_reducible show wpList _ _ _ ({ dst := _, op := Op.store 55 (Operand.tmp 26) _, type := _, pos := _, after := _, guard := _ } :: _) _ _); (refine wpList_putRow encK_len h hle hown hLl rfl 55 _ _ rfl rfl (k := k) rfl rfl hk1 y ty oy'.out (by kernel_rfl) ?_); clear h hle hown hM1 hM2; intro w M3 h hle hown)
        | ((with_reducible show wpList _ _ _ ({ dst := _, op := Op.store 55 (Operand.tmp 27) _, type := _, pos := _, after := _, guard := _ } :: _) _ _); (refine wpList_putRow encK_len h hle hown hLs rfl 55 _ _ rfl rfl (k := q) rfl rfl hq1 x tx ox'.out (by kernel_rfl) ?_); clear h hle hown; intro w M3 h hle hown))
      go_roundw
      case rel => exact ⟨k + 1, _, _, by have := HQ.out.1; omega, by go_num, congrArg (Value.int .i64) (by have := HQ.out.2; omega), NX.out, h, hle, hown⟩
      case measure => simp [intOf]; omega
    · have hR := SD.out L k hS hlt
      subst hR
      go_wp2
      go_end0
      exact ⟨⟨_, rfl⟩, M', h, hle, hown⟩
end Go.Proofs.Ytlgnknaffnnkkaa
