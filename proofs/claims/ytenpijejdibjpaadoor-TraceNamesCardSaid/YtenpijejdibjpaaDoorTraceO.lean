/- Plain laws of layer 43: the places in order; a name tells its place. -/
import Derived.Test.YtenpijejdibjpaaDoorTraceM
namespace Go.Proofs.YtenpijejdibjpaaDoor
open Go.RowKit
set_option linter.unusedVariables false
set_option linter.unusedSimpArgs false
set_option linter.unnecessarySimpa false

section
variable {α : Type} {f : Nat → List α}
theorem flat_at {n k q : Nat} (hk : k < n) (hq : q < (f k).length) : ((List.range n).flatMap f)[((List.range k).flatMap f).length + q]? = (f k)[q]? ∧ ((List.range k).flatMap f).length + q < ((List.range n).flatMap f).length := by
  induction n with
  | zero => omega
  | succ n ih =>
    rw [range_flat_succ]
    rcases Nat.lt_or_ge k n with h | h
    · obtain ⟨h1, h2⟩ := ih h
      exact ⟨by rw [List.getElem?_append_left h2]; exact h1, by rw [List.length_append]; omega⟩
    · obtain rfl : k = n := by omega
      refine ⟨?_, by rw [List.length_append]; omega⟩
      rw [List.getElem?_append_right (by omega), Nat.add_sub_cancel_left]
theorem flat_len {m n : Nat} (h : ∀ k, (f k).length = m) : ((List.range n).flatMap f).length = n * m := by
  induction n with
  | zero => simp
  | succ n ih => rw [range_flat_succ, List.length_append, ih, h, Nat.add_mul]; omega
end

def blk (c : Nat → Int) (m k : Nat) : List Pl :=
  if k < 4 then [((m : Int), (k : Int), 0, 0)] else if k < 8 then lv2i m (k - 4) (small4 c (k - 4)) else if k = 8 then lv3 m (c 10).toNat else lv4 m (c 10).toNat
theorem lvl_blk (c : Nat → Int) (m : Nat) : lvl c m = (List.range 10).flatMap (blk c m) := by
  simp [lvl, lv1, lv2, blk, List.range_succ]
theorem blk_len {c : Nat → Int} (hc : ConfMay c) (m : Nat) {k : Nat} (hk : k ≤ 9) : ((blk c m k).length : Int) = many c k := by
  obtain ⟨_, _, _, _, ⟨g2, g3⟩, ⟨g4, g5⟩, _⟩ := hc
  unfold blk many
  rcases k with _ | _ | _ | _ | _ | _ | _ | _ | _ | _ | k
  all_goals first | omega | simp [lv2i, small4, lv3, lv4_length]
  all_goals omega
theorem blk_start {c : Nat → Int} (hc : ConfMay c) (m : Nat) {k : Nat} (hk : k ≤ 10) : (((List.range k).flatMap (blk c m)).length : Int) = firsts c k := by
  induction k with
  | zero => simp [firsts]
  | succ k ih =>
    rw [range_flat_succ, List.length_append, firsts_succ c (by omega), ← ih (by omega), ← blk_len hc m (by omega)]
    omega
theorem lv4_get {m s q : Nat} (h : q < s * 5) : (lv4 m s)[q]? = some ((m : Int), 9, ((q / 5 + 1 : Nat) : Int), ((q % 5 : Nat) : Int)) := by
  have h5 : q / 5 < s := by omega
  have hlen : (lv4j m (q / 5) 5).length = 5 := by simp [lv4j]
  have := (flat_at (f := fun s => lv4j m s 5) (n := s) (k := q / 5) (q := q % 5) h5 (by show q % 5 < (lv4j m (q / 5) 5).length; omega)).1
  have e : ((List.range (q / 5)).flatMap fun s => lv4j m s 5).length = (q / 5) * 5 := flat_len fun k => by simp [lv4j]
  rw [e, show q / 5 * 5 + q % 5 = q by omega] at this
  unfold lv4
  rw [this]
  have h6 : q % 5 < 5 := by omega
  simp [lv4j, h6]
theorem blk_get {c : Nat → Int} (hc : ConfMay c) (m : Nat) {k : Nat} (hk : k ≤ 9) {q : Nat} (hq : (q : Int) < many c k) : (blk c m k)[q]? = some ((m : Int), (k : Int), plI c k (firsts c k + q), plJ c k (firsts c k + q)) := by
  have hl := blk_len hc m hk
  have hc' := hc
  obtain ⟨_, _, _, _, ⟨g2, g3⟩, ⟨g4, g5⟩, _⟩ := hc'
  by_cases h9 : k = 9
  · subst h9
    have e : blk c m 9 = lv4 m (c 10).toNat := by simp [blk]
    have : q < (c 10).toNat * 5 := by
      rw [e, lv4_length] at hl
      omega
    rw [e, lv4_get this]
    simp [plI, plJ]
    omega
  · by_cases h8 : k = 8
    · subst h8
      have e : blk c m 8 = lv3 m (c 10).toNat := by simp [blk]
      have : q < (c 10).toNat := by
        rw [e] at hl
        simp [lv3] at hl
        omega
      rw [e]
      simp [lv3, plI, plJ, this]
      omega
    · have hI : plI c k (firsts c k + q) = q := by
        unfold plI
        rw [if_neg h9, if_neg h8]
        omega
      have hJ : plJ c k (firsts c k + q) = 0 := by
        unfold plJ
        rw [if_neg h9]
      rw [hI, hJ]
      by_cases h4 : k < 4
      · have e : blk c m k = [((m : Int), (k : Int), 0, 0)] := by simp [blk, h4]
        rw [e] at hl ⊢
        simp at hl
        obtain rfl : q = 0 := by omega
        rfl
      · have e : blk c m k = lv2i m (k - 4) (small4 c (k - 4)) := by
          unfold blk
          rw [if_neg h4, if_pos (by omega)]
        have : q < small4 c (k - 4) := by
          rw [e] at hl
          simp [lv2i] at hl
          omega
        rw [e]
        simp [lv2i, this]
        omega
theorem lvl_get {c : Nat → Int} (hc : ConfMay c) (m : Nat) {k : Nat} (hk : k ≤ 9) {r : Nat} (h1 : firsts c k ≤ r) (h2 : r < firsts c (k + 1)) :
    (lvl c m)[r]? = some ((m : Int), (k : Int), plI c k r, plJ c k r) ∧ r < (lvl c m).length := by
  have hs := blk_start hc m (k := k) (by omega)
  have hl := blk_len hc m hk
  have e := firsts_succ c (k := k) (by omega)
  obtain ⟨q, hq⟩ : ∃ q : Nat, (r : Int) = firsts c k + q := ⟨(r - firsts c k).toNat, by omega⟩
  have := flat_at (f := blk c m) (n := 10) (k := k) (q := q) (by omega) (by omega)
  rw [show ((List.range k).flatMap (blk c m)).length + q = r by omega, ← lvl_blk] at this
  refine ⟨?_, this.2⟩
  rw [this.1, blk_get hc m hk (by omega), hq]
theorem lvl_len {c : Nat → Int} (hc : ConfMay c) (m : Nat) : ((lvl c m).length : Int) = firsts c 10 := by
  rw [lvl_blk]
  exact blk_start hc m (by omega)
/-- Of which kind the word r of a level is. -/
theorem kind_ex {c : Nat → Int} (hc : ConfMay c) {r : Int} (h0 : 0 ≤ r) (h1 : r < firsts c 10) : ∃ k, k ≤ 9 ∧ firsts c k ≤ r ∧ r < firsts c (k + 1) := by
  by_cases a9 : firsts c 9 ≤ r
  · exact ⟨9, by omega, a9, h1⟩
  by_cases a8 : firsts c 8 ≤ r
  · exact ⟨8, by omega, a8, by show r < firsts c 9; omega⟩
  by_cases a7 : firsts c 7 ≤ r
  · exact ⟨7, by omega, a7, by show r < firsts c 8; omega⟩
  by_cases a6 : firsts c 6 ≤ r
  · exact ⟨6, by omega, a6, by show r < firsts c 7; omega⟩
  by_cases a5 : firsts c 5 ≤ r
  · exact ⟨5, by omega, a5, by show r < firsts c 6; omega⟩
  by_cases a4 : firsts c 4 ≤ r
  · exact ⟨4, by omega, a4, by show r < firsts c 5; omega⟩
  by_cases a3 : firsts c 3 ≤ r
  · exact ⟨3, by omega, a3, by show r < firsts c 4; omega⟩
  by_cases a2 : firsts c 2 ≤ r
  · exact ⟨2, by omega, a2, by show r < firsts c 3; omega⟩
  by_cases a1 : firsts c 1 ≤ r
  · exact ⟨1, by omega, a1, by show r < firsts c 2; omega⟩
  · exact ⟨0, by omega, by simpa [firsts] using h0, by show r < firsts c 1; omega⟩
theorem allP_len {c : Nat → Int} (hc : ConfMay c) (L : Nat) : ((allP c L).length : Int) = L * firsts c 10 := by
  have e := lvl_len hc
  have : (allP c L).length = L * (firsts c 10).toNat := flat_len fun k => by have := e k; omega
  have h := e 0
  rw [this, Int.natCast_mul]
  congr 1
  omega
theorem allP_get {c : Nat → Int} (hc : ConfMay c) {L m r : Nat} (hm : m < L) {k : Nat} (hk : k ≤ 9) (h1 : firsts c k ≤ r) (h2 : r < firsts c (k + 1)) :
    (allP c L)[m * (firsts c 10).toNat + r]? = some ((m : Int), (k : Int), plI c k r, plJ c k r) := by
  have e := lvl_len hc
  obtain ⟨g1, g2⟩ := lvl_get hc m hk h1 h2
  have := (flat_at (f := lvl c) (n := L) (k := m) (q := r) hm g2).1
  rw [flat_len (m := (firsts c 10).toNat) fun k => by have := e k; omega] at this
  exact this.trans g1

/-- What a name tells. -/
def wordNo (l : List UInt8) : Nat × Nat :=
  match l with
  | 102 :: 114 :: 101 :: _ => (0, 0)
  | 101 :: _ => (1, 0)
  | 102 :: _ => (2, 0)
  | 98 :: 97 :: _ => (3, 0)
  | 98 :: 117 :: _ => (4, 0)
  | 115 :: _ => (5, 0)
  | 97 :: 99 :: _ => (6, 0)
  | 99 :: _ => (7, 0)
  | 108 :: _ => (8, 0)
  | 104 :: _ => (9, 0)
  | 110 :: _ => (9, 1)
  | 107 :: _ => (9, 2)
  | 97 :: _ => (9, 3)
  | _ => (9, 4)
def numNo (l : List UInt8) : Nat := match l with
  | [] => 0
  | [a] => a.toNat - 48
  | a :: b :: _ => (a.toNat - 48) * 10 + (b.toNat - 48)
def tell (l : List UInt8) : Nat × Nat × Nat × Nat :=
  match l with
  | _ :: m :: _ :: l => (m.toNat - 48, (wordNo l).1, numNo (l.dropWhile fun b => 97 ≤ b.toNat), (wordNo l).2)
  | _ => (0, 0, 0, 0)
set_option maxRecDepth 100000 in
theorem tell_nine : ∀ m : Fin 4, ∀ i : Fin 100, ∀ j : Fin 5, tell (nameB m.val 9 i.val j.val).data.toList = (m.val, 9, i.val, j.val) := by decide +kernel
set_option maxRecDepth 100000 in
theorem tell_mid : ∀ m : Fin 4, ∀ k : Fin 5, ∀ i : Fin 100, tell (nameB m.val (4 + k.val) i.val 0).data.toList = (m.val, 4 + k.val, i.val, 0) := by decide +kernel
theorem tell_low : ∀ m : Fin 4, ∀ k : Fin 4, tell (nameB m.val k.val 0 0).data.toList = (m.val, k.val, 0, 0) := by decide +kernel
theorem tell_name {m k i j : Nat} (hm : m < 4) (hk : k ≤ 9) (hi : i < 100) (hj : j < 5) (h3 : k ≤ 3 → i = 0) (h9 : k ≠ 9 → j = 0) : tell (nameB m k i j).data.toList = (m, k, i, j) := by
  by_cases e9 : k = 9
  · subst e9
    exact tell_nine ⟨m, hm⟩ ⟨i, hi⟩ ⟨j, hj⟩
  · obtain rfl := h9 e9
    by_cases e3 : k ≤ 3
    · obtain rfl := h3 e3
      exact tell_low ⟨m, hm⟩ ⟨k, by omega⟩
    · have := tell_mid ⟨m, hm⟩ ⟨k - 4, by omega⟩ ⟨i, hi⟩
      simpa [show 4 + (k - 4) = k by omega] using this
/-- The place that a word is at. -/
theorem place_ex {c : Nat → Int} (hc : ConfMay c) {a : Nat} (ha : (a : Int) < c 0 * firsts c 10) : ∃ (lv r k i j : Nat), lv < 4 ∧ ((a : Int) / firsts c 10 = lv) ∧ ((a : Int) % firsts c 10 = r) ∧ k ≤ 9 ∧ firsts c k ≤ r ∧ (r : Int) < firsts c (k + 1) ∧
    plI c k r = i ∧ plJ c k r = j ∧ i < 100 ∧ j < 5 ∧ (allP c (c 0).toNat)[a]? = some ((lv : Int), (k : Int), (i : Int), (j : Int)) := by
  have ht := firsts_ten hc
  have hc' := hc
  obtain ⟨⟨g0, g1⟩, _, _, _, ⟨g2, g3⟩, ⟨g4, g5⟩, _⟩ := hc'
  obtain ⟨T, hT⟩ : ∃ T : Nat, firsts c 10 = T := ⟨(firsts c 10).toNat, by omega⟩
  obtain ⟨L, hL⟩ : ∃ L : Nat, c 0 = L := ⟨(c 0).toNat, by omega⟩
  have hlt : a / T < L := by
    rw [hT, hL] at ha
    exact Nat.div_lt_of_lt_mul (by rw [Nat.mul_comm]; exact_mod_cast ha)
  have hr : a % T < T := Nat.mod_lt _ (by omega)
  obtain ⟨k, hk, k1, k2⟩ := kind_ex hc (r := ((a % T : Nat) : Int)) (by omega) (by rw [hT]; omega)
  obtain ⟨i0, i1, j0, j1⟩ := pl_bd hc hk k1 k2
  have hg := allP_get hc (L := L) hlt hk k1 k2
  rw [show (firsts c 10).toNat = T by omega, show a / T * T + a % T = a by rw [Nat.mul_comm]; exact Nat.div_add_mod a T] at hg
  refine ⟨a / T, a % T, k, (plI c k (a % T : Nat)).toNat, (plJ c k (a % T : Nat)).toNat, by omega, by rw [hT]; exact_mod_cast rfl, by rw [hT]; exact_mod_cast rfl, hk, k1, k2, by omega, by omega, by omega, by omega, ?_⟩
  rw [hL, Int.toNat_natCast, hg, Int.toNat_of_nonneg i0, Int.toNat_of_nonneg j0]
theorem kind_one {c : Nat → Int} (hc : ConfMay c) {k k' : Nat} {r : Int} (hk : k ≤ 9) (hk' : k' ≤ 9) (h1 : firsts c k ≤ r) (h2 : r < firsts c (k + 1)) (h3 : firsts c k' ≤ r) (h4 : r < firsts c (k' + 1)) : k = k' := by
  have mono : ∀ d k, k + d ≤ 10 → firsts c k ≤ firsts c (k + d) := fun d => by
    induction d with
    | zero => exact fun k _ => Int.le_refl _
    | succ d ih =>
      intro k hk
      have e := firsts_succ c (k := k + d) (by omega)
      have := blk_len hc 0 (k := k + d) (by omega)
      have := ih k (by omega)
      rw [show k + (d + 1) = k + d + 1 from rfl]
      omega
  rcases Nat.lt_trichotomy k k' with h | h | h
  · have := mono (k' - (k + 1)) (k + 1) (by omega)
    rw [show k + 1 + (k' - (k + 1)) = k' by omega] at this
    omega
  · exact h
  · have := mono (k - (k' + 1)) (k' + 1) (by omega)
    rw [show k' + 1 + (k - (k' + 1)) = k by omega] at this
    omega
theorem nmOf_nat (m k i j : Nat) : nmOf ((m : Int), (k : Int), (i : Int), (j : Int)) = nameB m k i j := by simp [nmOf]
theorem names_len {c : Nat → Int} (hc : ConfMay c) : (((allP c (c 0).toNat).map nmOf).length : Int) = c 0 * firsts c 10 := by
  rw [List.length_map, allP_len hc]
  have := hc.1.1
  rw [show (((c 0).toNat : Nat) : Int) = c 0 by omega]
theorem names_get {c : Nat → Int} {a : Nat} {m k i j : Nat} (h : (allP c (c 0).toNat)[a]? = some ((m : Int), (k : Int), (i : Int), (j : Int))) : ((allP c (c 0).toNat).map nmOf).getD a ⟨#[]⟩ = nameB m k i j := by
  rw [List.getD, List.getElem?_map, h]
  exact nmOf_nat _ _ _ _
theorem names_inj {c : Nat → Int} (hc : ConfMay c) (a b : Nat) (ha : a < ((allP c (c 0).toNat).map nmOf).length) (hb : b < ((allP c (c 0).toNat).map nmOf).length)
    (h : (((allP c (c 0).toNat).map nmOf).getD a ⟨#[]⟩).toList = (((allP c (c 0).toNat).map nmOf).getD b ⟨#[]⟩).toList) : a = b := by
  have hn := names_len hc
  have ht := firsts_ten hc
  have low : ∀ {k : Nat} {r : Int}, k ≤ 3 → firsts c k ≤ r → r < firsts c (k + 1) → plI c k r = 0 := fun {k r} hk h1 h2 => by
    have e := firsts_succ c (k := k) (by omega)
    unfold plI
    rw [if_neg (by omega), if_neg (by omega)]
    rw [many, if_pos (by omega)] at e
    omega
  have hi : ∀ {k : Nat} {r : Int}, k ≠ 9 → plJ c k r = 0 := fun {k r} h => by rw [plJ, if_neg h]
  obtain ⟨l1, r1, k1, i1, j1, al, a1, a2, a3, a4, a5, a6, a7, a8, a9, ag⟩ := place_ex hc (a := a) (by omega)
  obtain ⟨l2, r2, k2, i2, j2, bl, b1, b2, b3, b4, b5, b6, b7, b8, b9, bg⟩ := place_ex hc (a := b) (by omega)
  rw [names_get ag, names_get bg, ByteArray.toList_eq, ByteArray.toList_eq] at h
  have t1 := tell_name al a3 a8 a9 (fun h => by have := low h a4 a5; omega) (fun h => by have := hi (r := r1) h; omega)
  have t2 := tell_name bl b3 b8 b9 (fun h => by have := low h b4 b5; omega) (fun h => by have := hi (r := r2) h; omega)
  rw [h, t2] at t1
  simp only [Prod.mk.injEq] at t1
  obtain ⟨rfl, rfl, rfl, rfl⟩ := t1
  have hr : (r1 : Int) = r2 := by
    rw [← b6] at a6
    rw [← b7] at a7
    unfold plI at a6
    unfold plJ at a7
    split at a6
    · rename_i e
      subst e
      simp only [if_true] at a7
      omega
    · split at a6 <;> omega
  have e1 := Int.mul_ediv_add_emod (a : Int) (firsts c 10)
  have e2 := Int.mul_ediv_add_emod (b : Int) (firsts c 10)
  rw [a1, a2] at e1
  rw [b1, b2] at e2
  rw [hr] at e1
  omega
end Go.Proofs.YtenpijejdibjpaaDoor
