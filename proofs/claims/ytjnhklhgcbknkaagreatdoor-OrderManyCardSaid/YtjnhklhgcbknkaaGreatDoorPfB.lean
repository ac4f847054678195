/- Walks of layer 16: who is ahead of whom; where a number stands. -/
import Derived.Test.YtjnhklhgcbknkaaGreatDoorPfA
import Derived.Test.YtjnhklhgcbknkaaGreatDoorCom
namespace Go.Proofs.YtjnhklhgcbknkaaGreatDoor
open Go.RowKit
set_option linter.unusedVariables false
set_option linter.unusedSimpArgs false
set_option linter.unnecessarySimpa false
set_option maxHeartbeats 1000000 in
theorem ahead_eq {σ w : World} {M : Mm} (h : Has σ M w) (a b : OpS) : Calls Tryz.prog 37 #[.agg a.row, .agg b.row] w fun r w' => r = .returned (.bool (a.ahead b)) ∧ Has σ M w' := by
  have a15 : a.row[15]? = some (.int .i64 a.tt) := rfl
  have b14 : b.row[14]? = some (.int .i64 b.fr) := rfl
  have wa : (a.ahead b) = (decide (0 ≤ a.tt) && decide (a.tt < b.fr)) := rfl
  rw [wa]
  clear wa
  generalize a.row = ra at *
  generalize b.row = rb at *
  generalize a.tt = x at *
  generalize b.fr = y at *
  go_enter Tryz.func37, Tryz.ntmps37
  go_upto_region 1 with (fail)
  obtain ⟨M1, hbx, hle, hb1, hb2, hn1, hn2⟩ := h.box2 (.cells ra 32) (.cells rb 32)
  generalize (w.alloc _).alloc _ = wx at hbx ⊢
  have hne_b1_b2 : w.heap.size ≠ w.heap.size + 1 := Nat.ne_of_lt (Nat.lt_succ_self _)
  generalize w.heap.size + 1 = b2 at hb2 hn2 hne_b1_b2 ⊢
  generalize w.heap.size = b1 at hb1 hn1 hne_b1_b2 ⊢
  clear h
  try clear w
  have h := hbx
  clear hbx
  obtain ⟨w, rfl⟩ : ∃ x : World, x = wx := ⟨_, rfl⟩
  by_cases hx : 0 ≤ x
  · have hx' : decide (0 ≤ x) = true := decide_eq_true hx
    go_wp2_with (first
      | (with_reducible show wpList _ _ _ ({ dst := _, op := Op.load 3 _, type := _, pos := _, after := _, guard := _ } :: _) _ _; refine wpList_load1_has h rfl 3 _ rfl rfl hb1 a15 Tryz.underlying3 rfl ?_)
      | (with_reducible show wpList _ _ _ ({ dst := _, op := Op.load 3 _, type := _, pos := _, after := _, guard := _ } :: _) _ _; refine wpList_load1_has h rfl 3 _ rfl rfl hb2 b14 Tryz.underlying3 rfl ?_))
    go_ret
    exact ⟨by simp [hx'], h.le hle⟩
  · have hx' : decide (0 ≤ x) = false := decide_eq_false hx
    go_wp2_with (first
      | (with_reducible show wpList _ _ _ ({ dst := _, op := Op.load 3 _, type := _, pos := _, after := _, guard := _ } :: _) _ _; refine wpList_load1_has h rfl 3 _ rfl rfl hb1 a15 Tryz.underlying3 rfl ?_)
      | (with_reducible show wpList _ _ _ ({ dst := _, op := Op.load 3 _, type := _, pos := _, after := _, guard := _ } :: _) _ _; refine wpList_load1_has h rfl 3 _ rfl rfl hb2 b14 Tryz.underlying3 rfl ?_))
    go_ret
    exact ⟨by simp [hx'], h.le hle⟩
set_option maxHeartbeats 1000000 in
theorem refAhead_eq {σ w : World} {M : Mm} (h : Has σ M w) (a b : OpS) : Calls Tryz.prog 19 #[.agg a.row, .agg b.row] w fun r w' => r = .returned (.bool (a.ahead b)) ∧ Has σ M w' := by
  have a15 : a.row[15]? = some (.int .i64 a.tt) := rfl
  have b14 : b.row[14]? = some (.int .i64 b.fr) := rfl
  have wa : (a.ahead b) = (decide (0 ≤ a.tt) && decide (a.tt < b.fr)) := rfl
  rw [wa]
  clear wa
  generalize a.row = ra at *
  generalize b.row = rb at *
  generalize a.tt = x at *
  generalize b.fr = y at *
  go_enter Tryz.func19, Tryz.ntmps19
  go_upto_region 1 with (fail)
  obtain ⟨M1, hbx, hle, hb1, hb2, hn1, hn2⟩ := h.box2 (.cells ra 32) (.cells rb 32)
  generalize (w.alloc _).alloc _ = wx at hbx ⊢
  have hne_b1_b2 : w.heap.size ≠ w.heap.size + 1 := Nat.ne_of_lt (Nat.lt_succ_self _)
  generalize w.heap.size + 1 = b2 at hb2 hn2 hne_b1_b2 ⊢
  generalize w.heap.size = b1 at hb1 hn1 hne_b1_b2 ⊢
  clear h
  try clear w
  have h := hbx
  clear hbx
  obtain ⟨w, rfl⟩ : ∃ x : World, x = wx := ⟨_, rfl⟩
  by_cases hx : 0 ≤ x
  · have hx' : decide (0 ≤ x) = true := decide_eq_true hx
    go_wp2_with (first
      | (with_reducible show wpList _ _ _ ({ dst := _, op := Op.load 3 _, type := _, pos := _, after := _, guard := _ } :: _) _ _; refine wpList_load1_has h rfl 3 _ rfl rfl hb1 a15 Tryz.underlying3 rfl ?_)
      | (with_reducible show wpList _ _ _ ({ dst := _, op := Op.load 3 _, type := _, pos := _, after := _, guard := _ } :: _) _ _; refine wpList_load1_has h rfl 3 _ rfl rfl hb2 b14 Tryz.underlying3 rfl ?_))
    go_ret
    exact ⟨by simp [hx'], h.le hle⟩
  · have hx' : decide (0 ≤ x) = false := decide_eq_false hx
    go_wp2_with (first
      | (with_reducible show wpList _ _ _ ({ dst := _, op := Op.load 3 _, type := _, pos := _, after := _, guard := _ } :: _) _ _; refine wpList_load1_has h rfl 3 _ rfl rfl hb1 a15 Tryz.underlying3 rfl ?_)
      | (with_reducible show wpList _ _ _ ({ dst := _, op := Op.load 3 _, type := _, pos := _, after := _, guard := _ } :: _) _ _; refine wpList_load1_has h rfl 3 _ rfl rfl hb2 b14 Tryz.underlying3 rfl ?_))
    go_ret
    exact ⟨by simp [hx'], h.le hle⟩
def ints1 (xs : List Int) : List Value := xs.map (Value.int .i64)
set_option maxHeartbeats 1000000 in
/-- The document's in. -/
theorem refIn_eq {σ w : World} {M : Mm} (h : Has σ M w) (v : Value) (xs : List Int) (n : Nat) (hl : xs.length = n) (hr : Rd M 1 v n (ints1 xs)) (hn : n ≤ 1000000) (k : Int) :
    Calls Tryz.prog 18 #[v, .int .i64 k] w fun r w' => r = .returned (.int .i64 ((posO k xs : Int) - 1)) ∧ Has σ M w' := by
  obtain ⟨_, A, c, rfl, hc, hA⟩ := hr
  have HX := Lib.hid hl
  clear hl
  have HH := Lib.hid (posO_hit k xs)
  have HN := Lib.hid (posO_none k xs)
  go_enter Tryz.func18, Tryz.ntmps18
  go_wp2
  go_loopw [5] (fun i wr => ∃ j : Nat, j ≤ n ∧ i = .int .i64 j ∧ Has σ M wr ∧ (∀ (m : Nat) (x : Int), m < j → xs[m]? = some x → x ≠ k)) (fun i _ => n - (intOf i).toNat)
  case atStart => exact ⟨0, Nat.zero_le _, rfl, h, fun m x hm => absurd hm (by omega)⟩
  case round =>
    clear h w
    obtain ⟨w, rfl⟩ : ∃ x : World, x = wr := ⟨_, rfl⟩
    obtain ⟨j, hj, rfl, h, hb⟩ := hrel
    have HB := Lib.hid hb
    clear hb
    by_cases hlt : j < n
    · obtain ⟨b1, o1, cs1, t1, f1, rfl, hM1, hx1⟩ := hA (by omega)
      obtain ⟨x, hx⟩ : ∃ x, xs[j]? = some x := ⟨_, List.getElem?_eq_getElem (by have := HX.out; omega)⟩
      have e1 := hx1 j (.int .i64 x) (by simp [ints1, hx])
      have XH := Lib.hid hx
      clear hA hx1 hx
      cases hxk : decide (x = k)
      · have hne : x ≠ k := of_decide_eq_false hxk
        have hxb : (x == k) = false := beq_eq_false_iff_ne.2 hne
        clear hne
        go_wp2_with (first
          | (with_reducible show wpList _ _ _ ({ dst := _, op := Op.load 3 _, type := _, pos := _, after := _, guard := _ } :: _) _ _; refine wpList_load1_has h rfl 3 _ rfl rfl hM1 e1 Tryz.underlying3 rfl ?_))
        go_roundw
        case rel => exact ⟨j + 1, by omega, by go_num, h, fun m y hm hy => by
          by_cases e : m = j
          · subst e
            rw [XH.out] at hy
            cases hy
            exact of_decide_eq_false hxk
          · exact HB.out m y (by omega) hy⟩
        case measure => simp [intOf]; omega
      · have he : x = k := of_decide_eq_true hxk
        subst he
        have P : ((posO x xs : Nat) : Int) - 1 = (j : Int) := by have := HH.out j XH.out HB.out; omega
        clear hxk
        go_wp2_with (first
          | (with_reducible show wpList _ _ _ ({ dst := _, op := Op.load 3 _, type := _, pos := _, after := _, guard := _ } :: _) _ _; refine wpList_load1_has h rfl 3 _ rfl rfl hM1 e1 Tryz.underlying3 rfl ?_))
        go_ret
        exact ⟨by rw [P]; first | done | rfl, h⟩
    · clear hA
      obtain rfl : j = n := by omega
      have P := HN.out fun m x hx => HB.out m x (by
        have := HX.out
        have := (List.getElem?_eq_some_iff.1 hx).1
        omega) hx
      go_wp2
      go_ret
      exact ⟨by rw [P]; first | done | rfl, h⟩
end Go.Proofs.YtjnhklhgcbknkaaGreatDoor
