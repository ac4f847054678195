/- Walks of layer 9 (call): words, parts, and which call may be; the document's answers for them. -/
import Derived.Test.YtefgeeckfofkfaaQuiet
namespace Go.Proofs.Ytefgeeckfofkfaa
open Go.RowKit

/-- A call by value: op, level, key, the pair's two words, handle, reg. -/
def callV (op level key a b h reg : Int) : Value := .agg #[.int .i64 op, .int .i64 level, .int .i64 key, .int .u64 a, .int .u64 b, .int .u64 h, .int .i64 reg]
/-- What ops are called. -/
def wordList : List ByteArray := [⟨#[112, 117, 116]⟩, ⟨#[103, 101, 116]⟩, ⟨#[100, 101, 108]⟩, ⟨#[115, 116, 111, 114, 101]⟩, ⟨#[102, 101, 116, 99, 104]⟩, ⟨#[100, 114, 111, 112]⟩, ⟨#[112, 117, 115, 104]⟩, ⟨#[112, 111, 112]⟩, ⟨#[112, 101, 101, 107]⟩, ⟨#[110, 101, 119]⟩, ⟨#[114, 101, 97, 100]⟩, ⟨#[102, 114, 101, 101]⟩, ⟨#[116, 101, 110, 100]⟩]
def wordAt (k : Nat) : ByteArray := wordList.getD k ⟨#[]⟩
def wordCells : Array Value := (wordList.map Value.string).toArray
theorem wordCells_get {k : Nat} (h : k < 13) : wordCells[k]? = some (.string (wordAt k)) := by
  rcases (by omega : k = 0 ∨ k = 1 ∨ k = 2 ∨ k = 3 ∨ k = 4 ∨ k = 5 ∨ k = 6 ∨ k = 7 ∨ k = 8 ∨ k = 9 ∨ k = 10 ∨ k = 11 ∨ k = 12) with rfl | rfl | rfl | rfl | rfl | rfl | rfl | rfl | rfl | rfl | rfl | rfl | rfl <;> rfl
def wordOf (op : Int) : ByteArray := if 0 ≤ op ∧ op ≤ 12 then wordAt op.toNat else ⟨#[]⟩

set_option maxHeartbeats 400000 in
theorem in_any (n lo hi : Int) (w : World) : Calls Try.prog 22 #[.int .i64 n, .int .i64 lo, .int .i64 hi] w fun e w' => e = .returned (.bool (decide (lo ≤ n ∧ n ≤ hi))) ∧ w = w' := by
  by_cases h1 : lo ≤ n
  · by_cases h2 : n ≤ hi
    · go_enter Try.func22, Try.ntmps22
      go_wp2
      go_ret
      exact ⟨by rw [decide_eq_true (⟨h1, h2⟩ : lo ≤ n ∧ n ≤ hi)]; rfl, rfl⟩
    · have hd : decide (n ≤ hi) = false := decide_eq_false h2
      have hs : Hid (decide (lo ≤ n ∧ n ≤ hi) = false) := decide_eq_false (fun h => h2 h.2)
      clear h2
      go_enter Try.func22, Try.ntmps22
      go_wp2
      go_ret
      exact ⟨by rw [hs.out]; rfl, rfl⟩
  · have hd : decide (lo ≤ n) = false := decide_eq_false h1
    have hs : Hid (decide (lo ≤ n ∧ n ≤ hi) = false) := decide_eq_false (fun h => h1 h.1)
    clear h1
    go_enter Try.func22, Try.ntmps22
    go_wp2
    go_ret
    exact ⟨by rw [hs.out]; rfl, rfl⟩

/-- May a call be? -/
def mayB (op level reg : Int) : Bool := decide (0 ≤ op ∧ op ≤ 12) && (decide (0 ≤ level ∧ level ≤ 3) && decide (0 ≤ reg ∧ reg ≤ 40))

set_option maxHeartbeats 400000 in
theorem may_any (op level key a b h reg : Int) (w : World) : Calls Try.prog 8 #[callV op level key a b h reg] w fun e w' => e = .returned (.bool (mayB op level reg)) ∧ Below w.heap.size w w' := by
  unfold callV mayB
  generalize h1 : decide (0 ≤ op ∧ op ≤ 12) = b1
  generalize h2 : decide (0 ≤ level ∧ level ≤ 3) = b2
  generalize h3 : decide (0 ≤ reg ∧ reg ≤ 40) = b3
  have H1 := Lib.hid h1
  have H2 := Lib.hid h2
  have H3 := Lib.hid h3
  clear h1 h2 h3
  cases b1 <;> cases b2 <;> cases b3
  all_goals
    go_enter Try.func8, Try.ntmps8
    go_wp2_with (go_at_call 22; refine (in_any _ _ _ _).mono ?_; rintro e w' ⟨rfl, rfl⟩; first | rw [H1.out] | rw [H2.out] | rw [H3.out])
    go_ret
    exact ⟨rfl, (Below.refl _ _).alloc (Nat.le_refl _) _⟩

set_option maxHeartbeats 400000 in
theorem refMay_any (op level key a b h reg : Int) (w : World) : Calls Try.prog 9 #[callV op level key a b h reg] w fun e w' => e = .returned (.bool (mayB op level reg)) ∧ Below w.heap.size w w' := by
  unfold callV
  go_enter Try.func9, Try.ntmps9
  go_wp2
  all_goals
    go_ret
    refine ⟨congrArg (fun b => Ending.returned (Value.bool b)) ?_, (Below.refl _ _).alloc (Nat.le_refl _) _⟩
    unfold mayB
    rw [Bool.eq_iff_iff]
    simp
    omega

set_option maxHeartbeats 4000000 in
theorem refWord_any (op : Int) (w : World) : Calls Try.prog 6 #[.int .i64 op] w fun e w' => e = .returned (.string (wordOf op)) ∧ Below w.heap.size w w' := by
  unfold wordOf
  by_cases h0 : op < 0
  · rw [if_neg (by omega)]
    go_enter Try.func6, Try.ntmps6
    go_wp2
    go_ret
    exact ⟨rfl, (Below.refl _ _).alloc (Nat.le_refl _) _⟩
  · by_cases h1 : 13 ≤ op
    · rw [if_neg (by omega)]
      go_enter Try.func6, Try.ntmps6
      go_wp2
      go_ret
      exact ⟨rfl, (Below.refl _ _).alloc (Nat.le_refl _) _⟩
    · rw [if_pos (by omega)]
      rcases (by omega : op = 0 ∨ op = 1 ∨ op = 2 ∨ op = 3 ∨ op = 4 ∨ op = 5 ∨ op = 6 ∨ op = 7 ∨ op = 8 ∨ op = 9 ∨ op = 10 ∨ op = 11 ∨ op = 12) with rfl | rfl | rfl | rfl | rfl | rfl | rfl | rfl | rfl | rfl | rfl | rfl | rfl
      all_goals
        go_enter Try.func6, Try.ntmps6
        go_wp2
        go_ret
        exact ⟨rfl, (Below.refl _ _).alloc (Nat.le_refl _) _⟩

end Go.Proofs.Ytefgeeckfofkfaa
