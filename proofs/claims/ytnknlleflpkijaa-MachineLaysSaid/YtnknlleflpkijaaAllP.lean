/- The places in order: which place has which number. -/
import Derived.Test.YtnknlleflpkijaaRefAll
import Derived.Test.YtnknlleflpkijaaPlanC
namespace Go.Proofs.Ytnknlleflpkijaa
open Go.RowKit
set_option linter.unusedVariables false
set_option linter.unusedSimpArgs false
set_option linter.unnecessarySimpa false

section
variable {α : Type} {f : Nat → List α}
theorem flat_at {n k q : Nat} (hk : k < n) (hq : q < (f k).length) : ((List.range n).flatMap f)[((List.range k).flatMap f).length + q]? = (f k)[q]? ∧ ((List.range k).flatMap f).length + q < ((List.range n).flatMap f).length := by
  induction n with
  | zero => omega
  | succ n ih =>
    rw [range_flat_succ]
    rcases Nat.lt_or_ge k n with h | h
    · obtain ⟨h1, h2⟩ := ih h
      exact ⟨by rw [List.getElem?_append_left h2]; exact h1, by rw [List.length_append]; omega⟩
    · obtain rfl : k = n := by omega
      refine ⟨?_, by rw [List.length_append]; omega⟩
      rw [List.getElem?_append_right (by omega), Nat.add_sub_cancel_left]
theorem flat_len {m n : Nat} (h : ∀ k, (f k).length = m) : ((List.range n).flatMap f).length = n * m := by
  induction n with
  | zero => simp
  | succ n ih => rw [range_flat_succ, List.length_append, ih, h, Nat.add_mul]; omega
end

def blk (c : Nat → Int) (m k : Nat) : List Pl :=
  if k < 4 then [((m : Int), (k : Int), 0, 0)] else if k < 8 then lv2i m (k - 4) (small4 c (k - 4)) else if k = 8 then lv3 m (c 10).toNat else lv4 m (c 10).toNat
theorem lvl_blk (c : Nat → Int) (m : Nat) : lvl c m = (List.range 10).flatMap (blk c m) := by
  simp [lvl, lv1, lv2, blk, List.range_succ]
theorem blk_len {c : Nat → Int} (hc : ConfMay c) (m : Nat) {k : Nat} (hk : k ≤ 9) : ((blk c m k).length : Int) = many c k := by
  obtain ⟨_, _, _, _, ⟨g2, g3⟩, ⟨g4, g5⟩, _⟩ := hc
  unfold blk many
  rcases k with _ | _ | _ | _ | _ | _ | _ | _ | _ | _ | k
  all_goals first | omega | simp [lv2i, small4, lv3, lv4_length]
  all_goals omega
theorem blk_start {c : Nat → Int} (hc : ConfMay c) (m : Nat) {k : Nat} (hk : k ≤ 10) : (((List.range k).flatMap (blk c m)).length : Int) = firsts c k := by
  induction k with
  | zero => simp [firsts]
  | succ k ih =>
    rw [range_flat_succ, List.length_append, firsts_succ c (by omega), ← ih (by omega), ← blk_len hc m (by omega)]
    omega
theorem lv4_get {m s q : Nat} (h : q < s * 5) : (lv4 m s)[q]? = some ((m : Int), 9, ((q / 5 + 1 : Nat) : Int), ((q % 5 : Nat) : Int)) := by
  have h5 : q / 5 < s := by omega
  have hlen : (lv4j m (q / 5) 5).length = 5 := by simp [lv4j]
  have := (flat_at (f := fun s => lv4j m s 5) (n := s) (k := q / 5) (q := q % 5) h5 (by show q % 5 < (lv4j m (q / 5) 5).length; omega)).1
  have e : ((List.range (q / 5)).flatMap fun s => lv4j m s 5).length = (q / 5) * 5 := flat_len fun k => by simp [lv4j]
  rw [e, show q / 5 * 5 + q % 5 = q by omega] at this
  unfold lv4
  rw [this]
  have h6 : q % 5 < 5 := by omega
  simp [lv4j, h6]
theorem blk_get {c : Nat → Int} (hc : ConfMay c) (m : Nat) {k : Nat} (hk : k ≤ 9) {q : Nat} (hq : (q : Int) < many c k) : (blk c m k)[q]? = some ((m : Int), (k : Int), plI c k (firsts c k + q), plJ c k (firsts c k + q)) := by
  have hl := blk_len hc m hk
  have hc' := hc
  obtain ⟨_, _, _, _, ⟨g2, g3⟩, ⟨g4, g5⟩, _⟩ := hc'
  by_cases h9 : k = 9
  · subst h9
    have e : blk c m 9 = lv4 m (c 10).toNat := by simp [blk]
    have : q < (c 10).toNat * 5 := by
      rw [e, lv4_length] at hl
      omega
    rw [e, lv4_get this]
    simp [plI, plJ]
    omega
  · by_cases h8 : k = 8
    · subst h8
      have e : blk c m 8 = lv3 m (c 10).toNat := by simp [blk]
      have : q < (c 10).toNat := by
        rw [e] at hl
        simp [lv3] at hl
        omega
      rw [e]
      simp [lv3, plI, plJ, this]
      omega
    · have hI : plI c k (firsts c k + q) = q := by
        unfold plI
        rw [if_neg h9, if_neg h8]
        omega
      have hJ : plJ c k (firsts c k + q) = 0 := by
        unfold plJ
        rw [if_neg h9]
      rw [hI, hJ]
      by_cases h4 : k < 4
      · have e : blk c m k = [((m : Int), (k : Int), 0, 0)] := by simp [blk, h4]
        rw [e] at hl ⊢
        simp at hl
        obtain rfl : q = 0 := by omega
        rfl
      · have e : blk c m k = lv2i m (k - 4) (small4 c (k - 4)) := by
          unfold blk
          rw [if_neg h4, if_pos (by omega)]
        have : q < small4 c (k - 4) := by
          rw [e] at hl
          simp [lv2i] at hl
          omega
        rw [e]
        simp [lv2i, this]
        omega
theorem lvl_get {c : Nat → Int} (hc : ConfMay c) (m : Nat) {k : Nat} (hk : k ≤ 9) {r : Nat} (h1 : firsts c k ≤ r) (h2 : r < firsts c (k + 1)) :
    (lvl c m)[r]? = some ((m : Int), (k : Int), plI c k r, plJ c k r) ∧ r < (lvl c m).length := by
  have hs := blk_start hc m (k := k) (by omega)
  have hl := blk_len hc m hk
  have e := firsts_succ c (k := k) (by omega)
  obtain ⟨q, hq⟩ : ∃ q : Nat, (r : Int) = firsts c k + q := ⟨(r - firsts c k).toNat, by omega⟩
  have := flat_at (f := blk c m) (n := 10) (k := k) (q := q) (by omega) (by omega)
  rw [show ((List.range k).flatMap (blk c m)).length + q = r by omega, ← lvl_blk] at this
  refine ⟨?_, this.2⟩
  rw [this.1, blk_get hc m hk (by omega), hq]
theorem lvl_len {c : Nat → Int} (hc : ConfMay c) (m : Nat) : ((lvl c m).length : Int) = firsts c 10 := by
  rw [lvl_blk]
  exact blk_start hc m (by omega)
/-- Of which kind the word r of a level is. -/
theorem kind_ex {c : Nat → Int} (hc : ConfMay c) {r : Int} (h0 : 0 ≤ r) (h1 : r < firsts c 10) : ∃ k, k ≤ 9 ∧ firsts c k ≤ r ∧ r < firsts c (k + 1) := by
  by_cases a9 : firsts c 9 ≤ r
  · exact ⟨9, by omega, a9, h1⟩
  by_cases a8 : firsts c 8 ≤ r
  · exact ⟨8, by omega, a8, by show r < firsts c 9; omega⟩
  by_cases a7 : firsts c 7 ≤ r
  · exact ⟨7, by omega, a7, by show r < firsts c 8; omega⟩
  by_cases a6 : firsts c 6 ≤ r
  · exact ⟨6, by omega, a6, by show r < firsts c 7; omega⟩
  by_cases a5 : firsts c 5 ≤ r
  · exact ⟨5, by omega, a5, by show r < firsts c 6; omega⟩
  by_cases a4 : firsts c 4 ≤ r
  · exact ⟨4, by omega, a4, by show r < firsts c 5; omega⟩
  by_cases a3 : firsts c 3 ≤ r
  · exact ⟨3, by omega, a3, by show r < firsts c 4; omega⟩
  by_cases a2 : firsts c 2 ≤ r
  · exact ⟨2, by omega, a2, by show r < firsts c 3; omega⟩
  by_cases a1 : firsts c 1 ≤ r
  · exact ⟨1, by omega, a1, by show r < firsts c 2; omega⟩
  · exact ⟨0, by omega, by simpa [firsts] using h0, by show r < firsts c 1; omega⟩
theorem allP_len {c : Nat → Int} (hc : ConfMay c) (L : Nat) : ((allP c L).length : Int) = L * firsts c 10 := by
  have e := lvl_len hc
  have : (allP c L).length = L * (firsts c 10).toNat := flat_len fun k => by have := e k; omega
  have h := e 0
  rw [this, Int.natCast_mul]
  congr 1
  omega
theorem allP_get {c : Nat → Int} (hc : ConfMay c) {L m r : Nat} (hm : m < L) {k : Nat} (hk : k ≤ 9) (h1 : firsts c k ≤ r) (h2 : r < firsts c (k + 1)) :
    (allP c L)[m * (firsts c 10).toNat + r]? = some ((m : Int), (k : Int), plI c k r, plJ c k r) := by
  have e := lvl_len hc
  obtain ⟨g1, g2⟩ := lvl_get hc m hk h1 h2
  have := (flat_at (f := lvl c) (n := L) (k := m) (q := r) hm g2).1
  rw [flat_len (m := (firsts c 10).toNat) fun k => by have := e k; omega] at this
  exact this.trans g1

end Go.Proofs.Ytnknlleflpkijaa
