/- Walks of layer 43: words behind changes, the document's. -/
import Derived.Test.YtenpijejdibjpaaDoorTraceD
namespace Go.Proofs.YtenpijejdibjpaaDoor
open Go.RowKit
set_option linter.unusedVariables false
set_option linter.unusedSimpArgs false
set_option linter.unnecessarySimpa false

set_option maxHeartbeats 2000000 in
theorem refReplay_eq {σ w : World} {M : Mm} (h : Has σ M w) (a b : Value) (xs : List Int) (l : List Chg) (n m : Nat) (hx : xs.length = n) (hl : l.length = m) (ha : Rd M 1 a n (u64s xs)) (hb : Rd M 3 b m (l.flatMap encC)) (hn : n ≤ 1000000) (hm : m ≤ 1000000) :
    Calls Tryd.prog 10 #[a, b] w fun r w' => RepPost σ M (rep xs l) r w' := by
  obtain ⟨A, c, rfl⟩ := ha.form
  obtain ⟨B, d, rfl⟩ := hb.form
  have u1 := u64s_one xs
  have HX := Lib.hid hx
  have HL := Lib.hid hl
  clear hx hl
  go_enter Tryd.func10, Tryd.ntmps10
  go_wp2_with (first
    | (at_builtin; refine wpList_append_rd (h.alloc _) (Mm.le_upd' h.fresh _) rfl _ _ _ rfl Tryd.underlying32 info_u64 rfl (by omega) rfl (Own.made h.fresh 0 rfl (by decide)) rfl (ha.le (Mm.le_upd' h.fresh _)) u1 (by omega) (by omega) ?_; clear h; intro v w hacc))
  obtain ⟨M1, h, hle, hown⟩ := hacc
  simp only [Nat.zero_add, List.nil_append] at hown
  obtain ⟨VA, vc, rfl⟩ := hown.form
  go_loopw [7] (fun i wr => ∃ k : Nat, k ≤ m ∧ i = .int .i64 k ∧ ∃ M' ys, Has σ M' wr ∧ M.le M' ∧ Own M M' 64 1 (.slice VA n vc) n (u64s ys) ∧ ys.length = n ∧ rep xs (l.take k) = some ys) (fun i _ => m - (intOf i).toNat)
  case atStart => exact ⟨0, Nat.zero_le _, rfl, M1, xs, h, hle, by simpa using hown, HX.out, rfl⟩
  case round =>
    clear h hle hown u1
    obtain ⟨w, rfl⟩ : ∃ x : World, x = wr := ⟨_, rfl⟩
    obtain ⟨k, hk, rfl, M', ys, h, hle, hown, hyl, hrep⟩ := hrel
    have HY := Lib.hid hyl
    have HR := Lib.hid hrep
    clear hyl hrep
    by_cases hlt : k < m
    · obtain ⟨⟨p, q, r⟩, hx⟩ : ∃ x, l[k]? = some x := ⟨_, List.getElem?_eq_getElem (by rw [HL.out]; exact hlt)⟩
      obtain ⟨b1, o1, c1, cs1, t1, f1, e1, hM1, hx1⟩ := hb.elem encC_len hlt hx
      cases e1
      replace hM1 := hle _ _ hM1
      have e0 : cs1[o1 + k * 3]? = some (.int .i64 p) := by simpa using hx1 0 _ rfl
      have e1 : cs1[o1 + k * 3 + 1]? = some (.int .u64 q) := by simpa using hx1 1 _ rfl
      have e2 : cs1[o1 + k * 3 + 2]? = some (.int .u64 r) := by simpa using hx1 2 _ rfl
      have NO := Lib.hid (fun h1 => rep_none hx HR.out (rep1_no h1))
      have YES := Lib.hid (fun h1 => (rep_snoc hx HR.out).trans (rep1_yes h1))
      have c0 := (h.cell hM1 _).trans e0
      clear hx1 hx
      by_cases hp : p < 0
      · have NO := Lib.hid (NO.out (fun h1 => by simp at h1; omega))
        go_upto_region 6 with (fail)
        refine wp_region_class (Has σ M') (by kernel_rfl) (by kernel_rfl) h.drew ?_
        clear h
        repeat (first
          | go_big_quiet_skip
          | (go_big_quiet_want; first
            | (go_big_quiet_op; first | go_big_quiet_on | go_big_quiet_call (first | with_reducible exact fun _ => rfl))))
        refine wpQuiet_nil ?_
        try clear w
        intro w h
        go_wp2
        go_ret2
        exact RepPost.no (h.le hle) NO.out rfl
      · obtain ⟨j, rfl⟩ : ∃ j : Nat, p = j := ⟨p.toNat, by omega⟩
        by_cases hj : n ≤ j
        · have NO := Lib.hid (NO.out (fun h1 => by have := HY.out; simp at h1; omega))
          have hj' : (n : Int) ≤ (j : Int) := by omega
          go_upto_region 6 with (fail)
          refine wp_region_class (Has σ M') (by kernel_rfl) (by kernel_rfl) h.drew ?_
          clear h
          repeat (first
            | go_big_quiet_skip
            | (go_big_quiet_want; first
              | (go_big_quiet_op; first | go_big_quiet_on | go_big_quiet_call (first | with_reducible exact fun _ => rfl))))
          refine wpQuiet_nil ?_
          try clear w
          intro w h
          go_wp2
          go_ret2
          exact RepPost.no (h.le hle) NO.out rfl
        · obtain ⟨g, gc, eg⟩ := hown.pos (by omega)
          cases eg
          obtain ⟨cur, hg, hcur⟩ := hown.at_
          have hjn : j < n := by omega
          have eg := hcur j _ (u64s_get (by rw [HY.out]; exact hjn))
          have hj' : ¬ (n : Int) ≤ (j : Int) := by omega
          clear hcur hj
          cases hyq : (ys.getD j 0 != q)
          · have YES := Lib.hid (YES.out ⟨by simp, by rw [HY.out]; simpa using hjn, by simpa using hyq⟩)
            have YL := Lib.hid (rep1_length (rep1_yes (ys := ys) (c := (↑j, q, r)) ⟨by simp, by rw [HY.out]; simpa using hjn, by simpa using hyq⟩))
            generalize ys.getD j 0 = y at eg hyq
            go_upto_region 6 with (fail)
            refine wp_region_class (Has σ M') (by kernel_rfl) (by kernel_rfl) h.drew ?_
            clear h
            repeat (first
              | go_big_quiet_skip
              | (go_big_quiet_want; first
                | (refine quiet_load_has 64 _ rfl rfl hM1 e1 Tryd.underlying64 rfl ?_; simp only [Act.put, List.setIfInBounds_toArray, List.set_cons_zero, List.set_cons_succ]; go_big_quiet_on)
                | (refine quiet_load_has 64 _ rfl rfl hg eg Tryd.underlying64 rfl ?_; simp only [Act.put, List.setIfInBounds_toArray, List.set_cons_zero, List.set_cons_succ]; go_big_quiet_on)
                | (go_big_quiet_op; first | go_big_quiet_on | go_big_quiet_call (first | with_reducible exact fun _ => rfl))))
            refine wpQuiet_nil ?_
            try clear w
            intro w h
            go_upto_region 8 with (fail)
            have c2 := (h.cell hM1 _).trans e2
            obtain ⟨cur', hg', hsz, hown3, hg0⟩ := hown.put j (.int .u64 r)
            have hlt : j < cur'.size := by omega
            go_wp2_with (first
              | (with_reducible show wpList _ _ _ ({ dst := _, op := Op.store 64 _ _, type := _, pos := _, after := _, guard := _ } :: _) _ _; refine wpList_store1_has h rfl 64 _ _ rfl rfl rfl hg' hlt rfl (by kernel_rfl) ?_; clear h; intro w h))
            go_roundw
            case rel => exact ⟨k + 1, by omega, by go_num, _, ys.set j r, h, Mm.le_upd hle hg0 _, by rw [u64s_set]; exact hown3, YL.out.trans HY.out, YES.out⟩
            case measure => simp [intOf]; omega
          · have NO := Lib.hid (NO.out (fun h1 => by have := h1.2.2; simp at hyq this; exact hyq this))
            generalize ys.getD j 0 = y at eg hyq
            go_upto_region 6 with (fail)
            refine wp_region_class (Has σ M') (by kernel_rfl) (by kernel_rfl) h.drew ?_
            clear h
            repeat (first
              | go_big_quiet_skip
              | (go_big_quiet_want; first
                | (refine quiet_load_has 64 _ rfl rfl hM1 e1 Tryd.underlying64 rfl ?_; simp only [Act.put, List.setIfInBounds_toArray, List.set_cons_zero, List.set_cons_succ]; go_big_quiet_on)
                | (refine quiet_load_has 64 _ rfl rfl hg eg Tryd.underlying64 rfl ?_; simp only [Act.put, List.setIfInBounds_toArray, List.set_cons_zero, List.set_cons_succ]; go_big_quiet_on)
                | (go_big_quiet_op; first | go_big_quiet_on | go_big_quiet_call (first | with_reducible exact fun _ => rfl))))
            refine wpQuiet_nil ?_
            try clear w
            intro w h
            go_wp2
            go_ret2
            exact RepPost.no (h.le hle) NO.out rfl
    · go_wp2
      go_ret2
      obtain rfl : k = m := by omega
      have e := HR.out
      rw [List.take_of_length_le (by rw [HL.out]; exact Nat.le_refl _)] at e
      rw [e]
      exact ⟨_, rfl, M', h, hle, by rw [show (repVal (some ys)).2 = ys from rfl, HY.out]; exact hown⟩
end Go.Proofs.YtenpijejdibjpaaDoor
