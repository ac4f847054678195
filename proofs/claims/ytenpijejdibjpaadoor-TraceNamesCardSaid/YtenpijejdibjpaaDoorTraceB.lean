/- Walks of layer 43: the changes between words. -/
import Derived.Test.YtenpijejdibjpaaDoorTraceA
namespace Go.Proofs.YtenpijejdibjpaaDoor
open Go.RowKit
set_option linter.unusedVariables false
set_option linter.unusedSimpArgs false
set_option linter.unnecessarySimpa false

abbrev Chg := Int × Int × Int
def encC (c : Chg) : List Value := [.int .i64 c.1, .int .u64 c.2.1, .int .u64 c.2.2]
theorem encC_len (c : Chg) : (encC c).length = 3 := rfl
theorem encC_one (c : Chg) : ∀ u ∈ encC c, u.oneCell' = true := by intro u hu; simp [encC] at hu; rcases hu with rfl | rfl | rfl <;> rfl
theorem info_chg : (Tryd.prog.info? 66).map (fun i => (i.zero, i.size, i.bytes)) = some (some (.agg #[.int .i64 0, .int .u64 0, .int .u64 0]), 3, 24) := by kernel_rfl
theorem info_c : (Tryd.prog.info? 67).map (fun i => (i.zero, i.size, i.bytes)) = some (some (.agg #[.int .i64 0, .int .u64 0, .int .u64 0]), 3, 24) := by kernel_rfl
theorem info_u64 : (Tryd.prog.info? 64).map (fun i => (i.zero, i.size, i.bytes)) = some (some (.int .u64 0), 1, 8) := by kernel_rfl
def chgAt (xs ys : List Int) (i : Nat) : Chg := (i, xs.getD i 0, ys.getD i 0)
def betw (xs ys : List Int) (k : Nat) : List Chg := (diffs xs ys k).map (chgAt xs ys)
theorem betw_succ (xs ys : List Int) (k : Nat) : betw xs ys (k + 1) = betw xs ys k ++ if xs.getD k 0 != ys.getD k 0 then [chgAt xs ys k] else [] := by
  unfold betw
  rw [diffs_succ, List.map_append]
  split <;> rfl
theorem betw_le (xs ys : List Int) (k : Nat) : (betw xs ys k).length ≤ k := by unfold betw; rw [List.length_map]; exact diffs_le xs ys k
theorem diffs_lt {xs ys : List Int} {k i : Nat} (h : i ∈ diffs xs ys k) : i < k := by
  unfold diffs at h
  exact List.mem_range.1 (List.mem_filter.1 h).1

set_option maxHeartbeats 1000000 in
theorem refBetween_eq {σ w : World} {M : Mm} (h : Has σ M w) (a b : Value) (xs ys : List Int) (n : Nat) (hx : xs.length = n) (hy : ys.length = n) (ha : Rd M 1 a n (u64s xs)) (hb : Rd M 1 b n (u64s ys)) (hn : n ≤ 1000000) :
    Calls Tryd.prog 14 #[a, b] w fun r w' => ∃ v, r = .returned v ∧ Acc σ M w' 67 3 v (betw xs ys n).length ((betw xs ys n).flatMap encC) := by
  obtain ⟨_, A, c, rfl, hc, hA⟩ := ha
  obtain ⟨_, B, d, rfl, hd, hB⟩ := hb
  have HX := Lib.hid hx
  have HY := Lib.hid hy
  clear hx hy
  go_enter Tryd.func14, Tryd.ntmps14
  go_wp2
  go_loopw [5, 6] (fun v i wr => ∃ k : Nat, k ≤ n ∧ i = .int .i64 k ∧ Acc σ M wr 67 3 v (betw xs ys k).length ((betw xs ys k).flatMap encC)) (fun _ i _ => n - (intOf i).toNat)
  case atStart => exact ⟨0, Nat.zero_le _, rfl, Acc.nil h _ _⟩
  case round =>
    clear h w
    obtain ⟨w, rfl⟩ : ∃ x : World, x = wr := ⟨_, rfl⟩
    obtain ⟨k, hk, rfl, M', h, hle, hown⟩ := hrel
    by_cases hlt : k < n
    · obtain ⟨b1, o1, cs1, t1, f1, rfl, hM1, hx1⟩ := hA (by omega)
      obtain ⟨b2, o2, cs2, t2, f2, rfl, hM2, hx2⟩ := hB (by omega)
      have e1 := hx1 k (.int .u64 (xs.getD k 0)) (by have := HX.out; simp [u64s, show k < xs.length by omega])
      have e2 := hx2 k (.int .u64 (ys.getD k 0)) (by have := HY.out; simp [u64s, show k < ys.length by omega])
      clear hA hB hx1 hx2
      have D := Lib.hid (betw_succ xs ys k)
      have hl := betw_le xs ys k
      have C : Hid (chgAt xs ys k = (↑k, xs.getD k 0, ys.getD k 0)) := rfl
      generalize chgAt xs ys k = ch at C D
      generalize xs.getD k 0 = x at e1 D C
      generalize ys.getD k 0 = y at e2 D C
      replace hM1 := hle _ _ hM1
      replace hM2 := hle _ _ hM2
      go_upto_region 5 with (fail)
      refine wp_region_class (Has σ M') (by kernel_rfl) (by kernel_rfl) h.drew ?_
      clear h
      repeat (first
        | go_big_quiet_skip
        | (go_big_quiet_want; first
          | (refine quiet_load_has 64 _ rfl rfl hM1 e1 Tryd.underlying64 rfl ?_; simp only [Act.put, List.setIfInBounds_toArray, List.set_cons_zero, List.set_cons_succ]; go_big_quiet_on)
          | (refine quiet_load_has 64 _ rfl rfl hM2 e2 Tryd.underlying64 rfl ?_; simp only [Act.put, List.setIfInBounds_toArray, List.set_cons_zero, List.set_cons_succ]; go_big_quiet_on)
          | (go_big_quiet_op; first | go_big_quiet_on | go_big_quiet_call (first | with_reducible exact fun _ => rfl))))
      refine wpQuiet_nil ?_
      try clear w
      intro w h
      cases hxy : (x != y)
      · replace D : Hid (betw xs ys (k + 1) = betw xs ys k) := by show _ = _; rw [D.out, hxy]; simp
        clear e1 e2 hM1 hM2
        go_wp2
        go_roundw
        case rel => exact ⟨k + 1, by omega, by go_num, by rw [D.out]; exact ⟨M', h, hle, hown⟩⟩
        case measure => simp [intOf]; omega
      · replace D : Hid (betw xs ys (k + 1) = betw xs ys k ++ [ch]) := by show _ = _; rw [D.out, hxy]; simp
        go_upto_region 6 with (fail)
        refine wp_region_head (Has σ M') 11 (by kernel_rfl) (by kernel_rfl) (fun _ _ _ _ _ h => h) h.drew ?_
        clear h
        simp only [List.take_succ_cons, List.take_zero, List.drop_succ_cons, List.drop_zero]
        repeat (first
          | go_big_quiet_skip
          | (go_big_quiet_want; first
            | (refine quiet_load_has 64 _ rfl rfl hM1 e1 Tryd.underlying64 rfl ?_; simp only [Act.put, List.setIfInBounds_toArray, List.set_cons_zero, List.set_cons_succ]; go_big_quiet_on)
            | (refine quiet_load_has 64 _ rfl rfl hM2 e2 Tryd.underlying64 rfl ?_; simp only [Act.put, List.setIfInBounds_toArray, List.set_cons_zero, List.set_cons_succ]; go_big_quiet_on)
            | (go_big_quiet_op; first | go_big_quiet_on | go_big_quiet_call (first | with_reducible exact fun _ => rfl))))
        refine wpQuiet_nil ?_
        try clear w
        intro w h
        clear e1 e2 hM1 hM2
        go_wp2_with (first
          | (at_builtin; refine wpList_append_lit h hle rfl _ _ _ rfl rfl Tryd.underlying37 info_c rfl (by omega) rfl hown rfl rfl rfl (by omega) (by omega) ?_; clear h hle hown; intro v w hacc))
        go_roundw
        case rel => exact ⟨k + 1, by omega, by go_num, by rw [D.out, List.flatMap_append, List.length_append, C.out]; simpa [encC] using hacc⟩
        case measure => simp [intOf]; omega
    · clear hA hB
      go_wp2
      obtain rfl : k = n := by omega
      go_ret
      exact ⟨_, rfl, M', h, hle, hown⟩

set_option maxHeartbeats 1000000 in
theorem between_eq {σ w : World} {M : Mm} (h : Has σ M w) (a b : Value) (xs ys : List Int) (n : Nat) (hx : xs.length = n) (hy : ys.length = n) (ha : Rd M 1 a n (u64s xs)) (hb : Rd M 1 b n (u64s ys)) (hn : n ≤ 1000000) :
    Calls Tryd.prog 13 #[a, b] w fun r w' => ∃ v, r = .returned v ∧ Acc σ M w' 66 3 v (betw xs ys n).length ((betw xs ys n).flatMap encC) := by
  have D1 := differ_eq h a b xs ys n hx hy ha hb hn
  obtain ⟨_, A, c, rfl, hc, hA⟩ := ha
  obtain ⟨_, B, d, rfl, hd, hB⟩ := hb
  have HX := Lib.hid hx
  have HY := Lib.hid hy
  have HD : Hid (∀ i, i ∈ diffs xs ys n → i < n) := fun i => diffs_lt
  have hl := diffs_le xs ys n
  have HB : Hid (betw xs ys n = (diffs xs ys n).map (chgAt xs ys)) := rfl
  clear hx hy
  generalize diffs xs ys n = ds at D1 HD HB hl
  go_enter Tryd.func13, Tryd.ntmps13
  go_wp2_with (first
    | (go_at_call 26; refine (D1).mono ?_; clear h; rintro r w ⟨dv, rfl, M1, h, hle1, hdv⟩; obtain ⟨DA, dc, rfl⟩ := hdv.form))
  have hdr := hdv.rd
  clear hdv
  go_loopw [7, 18] (fun v i wr => ∃ k : Nat, k ≤ ds.length ∧ i = .int .i64 k ∧ Acc σ M1 wr 66 3 v k (((ds.take k).map (chgAt xs ys)).flatMap encC)) (fun _ i _ => ds.length - (intOf i).toNat)
  case atStart => exact ⟨0, Nat.zero_le _, rfl, Acc.nil h _ _⟩
  case round =>
    clear h w
    obtain ⟨w, rfl⟩ : ∃ x : World, x = wr := ⟨_, rfl⟩
    obtain ⟨k, hk, rfl, M', h, hle, hown⟩ := hrel
    by_cases hlt : k < ds.length
    · have hdk : ds[k] < n := HD.out _ (List.getElem_mem hlt)
      obtain ⟨b1, o1, cs1, t1, f1, rfl, hM1, hx1⟩ := hA (by omega)
      obtain ⟨b2, o2, cs2, t2, f2, rfl, hM2, hx2⟩ := hB (by omega)
      obtain ⟨_, A3, c3, e3, _, hA3⟩ := hdr
      obtain ⟨b3, o3, cs3, t3, f3, rfl, hM3, hx3⟩ := hA3 (by omega)
      cases e3
      have e3 := hx3 k (.int .i64 (ds[k] : Nat)) (by simp [nats, hlt])
      have T : Hid (ds.take (k + 1) = ds.take k ++ [ds[k]]) := List.take_succ_eq_append_getElem hlt
      generalize ds[k] = i at e3 T hdk
      have e1 := hx1 i (.int .u64 (xs.getD i 0)) (by have := HX.out; simp [u64s, show i < xs.length by omega])
      have e2 := hx2 i (.int .u64 (ys.getD i 0)) (by have := HY.out; simp [u64s, show i < ys.length by omega])
      have C : Hid (chgAt xs ys i = (↑i, xs.getD i 0, ys.getD i 0)) := rfl
      generalize xs.getD i 0 = x at e1 C
      generalize ys.getD i 0 = y at e2 C
      replace hM1 := hle _ _ (hle1 _ _ hM1)
      replace hM2 := hle _ _ (hle1 _ _ hM2)
      replace hM3 := hle _ _ hM3
      clear hA hB hx1 hx2 hA3 hx3
      have c3 := (h.cell hM3 _).trans e3
      go_upto_region 6 with (fail)
      clear c3
      refine wp_region_head (Has σ M') 11 (by kernel_rfl) (by kernel_rfl) (fun _ _ _ _ _ h => h) h.drew ?_
      clear h
      simp only [List.take_succ_cons, List.take_zero, List.drop_succ_cons, List.drop_zero]
      repeat (first
        | go_big_quiet_skip
        | (go_big_quiet_want; first
          | (refine quiet_load_has 64 _ rfl rfl hM1 e1 Tryd.underlying64 rfl ?_; simp only [Act.put, List.setIfInBounds_toArray, List.set_cons_zero, List.set_cons_succ]; go_big_quiet_on)
          | (refine quiet_load_has 64 _ rfl rfl hM2 e2 Tryd.underlying64 rfl ?_; simp only [Act.put, List.setIfInBounds_toArray, List.set_cons_zero, List.set_cons_succ]; go_big_quiet_on)
          | (go_big_quiet_op; first | go_big_quiet_on | go_big_quiet_call (first | with_reducible exact fun _ => rfl))))
      refine wpQuiet_nil ?_
      try clear w
      intro w h
      clear e1 e2 e3 hM1 hM2 hM3
      go_wp2_with (first
        | (at_builtin; refine wpList_append_lit h hle rfl _ _ _ rfl rfl Tryd.underlying33 info_chg rfl (by omega) rfl hown rfl rfl rfl (by omega) (by omega) ?_; clear h hle hown; intro v w hacc))
      go_roundw
      case rel => exact ⟨k + 1, by omega, by go_num, by rw [T.out, List.map_append, List.flatMap_append]; simpa [encC, C.out] using hacc⟩
      case measure => simp [intOf]; omega
    · clear hA hB
      go_wp2
      obtain rfl : k = ds.length := by omega
      go_ret
      rw [List.take_length] at hown
      exact ⟨_, rfl, M', h, Mm.le_trans hle1 hle, by rw [HB.out, List.length_map]; exact hown.base fun b hb => Mm.none_of hle1 hb⟩
end Go.Proofs.YtenpijejdibjpaaDoor
