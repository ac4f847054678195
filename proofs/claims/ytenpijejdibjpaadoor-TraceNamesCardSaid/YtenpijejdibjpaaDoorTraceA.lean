/- Walks of layer 43: where lists differ. -/
import Derived.Test.YtenpijejdibjpaaDoorWalk
namespace Go.Proofs.YtenpijejdibjpaaDoor
open Go.RowKit
set_option linter.unusedVariables false
set_option linter.unusedSimpArgs false
set_option linter.unnecessarySimpa false

def u64s (xs : List Int) : List Value := xs.map (Value.int .u64)
def nats (xs : List Nat) : List Value := xs.map fun n : Nat => Value.int .i64 n
def diffs (xs ys : List Int) (k : Nat) : List Nat := (List.range k).filter fun i => xs.getD i 0 != ys.getD i 0
theorem diffs_succ (xs ys : List Int) (k : Nat) : diffs xs ys (k + 1) = diffs xs ys k ++ if xs.getD k 0 != ys.getD k 0 then [k] else [] := by
  unfold diffs
  rw [List.range_succ, List.filter_append]
  by_cases h : (xs.getD k 0 != ys.getD k 0) = true <;> simp [List.filter_cons, h]
theorem diffs_le (xs ys : List Int) (k : Nat) : (diffs xs ys k).length ≤ k := by
  have := List.length_filter_le (fun i => xs.getD i 0 != ys.getD i 0) (List.range k)
  simpa [diffs] using this
theorem info_int : (Tryd.prog.info? 3).map (fun i => (i.zero, i.size, i.bytes)) = some (some (.int .i64 0), 1, 8) := by kernel_rfl

set_option maxHeartbeats 1000000 in
theorem differ_eq {σ w : World} {M : Mm} (h : Has σ M w) (a b : Value) (xs ys : List Int) (n : Nat) (hx : xs.length = n) (hy : ys.length = n) (ha : Rd M 1 a n (u64s xs)) (hb : Rd M 1 b n (u64s ys)) (hn : n ≤ 1000000) :
    Calls Tryd.prog 26 #[a, b] w fun r w' => ∃ v, r = .returned (.tuple #[v, .bool true]) ∧ Acc σ M w' 3 1 v (diffs xs ys n).length (nats (diffs xs ys n)) := by
  obtain ⟨_, A, c, rfl, hc, hA⟩ := ha
  obtain ⟨_, B, d, rfl, hd, hB⟩ := hb
  have HX := Lib.hid hx
  have HY := Lib.hid hy
  clear hx hy
  go_enter Tryd.func26, Tryd.ntmps26
  go_wp2
  go_loopw [6, 15] (fun v i wr => ∃ k : Nat, k ≤ n ∧ i = .int .i64 k ∧ Acc σ M wr 3 1 v (diffs xs ys k).length (nats (diffs xs ys k))) (fun _ i _ => n - (intOf i).toNat)
  case atStart => exact ⟨0, Nat.zero_le _, rfl, Acc.nil h _ _⟩
  case round =>
    clear h w
    obtain ⟨w, rfl⟩ : ∃ x : World, x = wr := ⟨_, rfl⟩
    obtain ⟨k, hk, rfl, M', h, hle, hown⟩ := hrel
    by_cases hlt : k < n
    · obtain ⟨b1, o1, cs1, t1, f1, rfl, hM1, hx1⟩ := hA (by omega)
      obtain ⟨b2, o2, cs2, t2, f2, rfl, hM2, hx2⟩ := hB (by omega)
      have e1 := hx1 k (.int .u64 (xs.getD k 0)) (by have := HX.out; simp [u64s, show k < xs.length by omega])
      have e2 := hx2 k (.int .u64 (ys.getD k 0)) (by have := HY.out; simp [u64s, show k < ys.length by omega])
      clear hA hB hx1 hx2
      have D := Lib.hid (diffs_succ xs ys k)
      have hl := diffs_le xs ys k
      generalize xs.getD k 0 = x at e1 D
      generalize ys.getD k 0 = y at e2 D
      go_upto_region 7 with (fail)
      replace hM1 := hle _ _ hM1
      replace hM2 := hle _ _ hM2
      refine wp_region_class (Has σ M') (by kernel_rfl) (by kernel_rfl) h.drew ?_
      clear h
      repeat (first
        | go_big_quiet_skip
        | (go_big_quiet_want; first
          | (refine quiet_load_has 64 _ rfl rfl hM1 e1 Tryd.underlying64 rfl ?_; simp only [Act.put, List.setIfInBounds_toArray, List.set_cons_zero, List.set_cons_succ]; go_big_quiet_on)
          | (refine quiet_load_has 64 _ rfl rfl hM2 e2 Tryd.underlying64 rfl ?_; simp only [Act.put, List.setIfInBounds_toArray, List.set_cons_zero, List.set_cons_succ]; go_big_quiet_on)
          | (go_big_quiet_op; first | go_big_quiet_on | go_big_quiet_call (first | with_reducible exact fun _ => rfl))))
      refine wpQuiet_nil ?_
      try clear w
      intro w h
      clear e1 e2 hM1 hM2
      cases hxy : (x != y)
      · replace D : Hid (diffs xs ys (k + 1) = diffs xs ys k) := by show _ = _; rw [D.out, hxy]; simp
        go_wp2
        go_roundw
        case rel => exact ⟨k + 1, by omega, by go_num, by rw [D.out]; exact ⟨M', h, hle, hown⟩⟩
        case measure => simp [intOf]; omega
      · replace D : Hid (diffs xs ys (k + 1) = diffs xs ys k ++ [k]) := by show _ = _; rw [D.out, hxy]; simp
        go_wp2_with (first
          | (at_builtin; refine wpList_append_lit h hle rfl _ _ _ rfl rfl Tryd.underlying68 info_int rfl (by omega) rfl hown rfl rfl rfl (by omega) (by omega) ?_; clear h hle hown; intro v w hacc))
        go_roundw
        case rel => exact ⟨k + 1, by omega, by go_num, by rw [D.out]; simpa [nats] using hacc⟩
        case measure => simp [intOf]; omega
    · clear hA hB
      go_wp2
      obtain rfl : k = n := by omega
      go_ret2
      exact ⟨_, rfl, M', h, hle, hown⟩
