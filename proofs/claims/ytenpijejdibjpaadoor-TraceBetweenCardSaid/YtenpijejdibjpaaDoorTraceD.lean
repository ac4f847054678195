/- Walks of layer 43: words behind changes. -/
import Derived.Test.YtenpijejdibjpaaDoorTraceC
namespace Go.Proofs.YtenpijejdibjpaaDoor
open Go.RowKit
set_option linter.unusedVariables false
set_option linter.unusedSimpArgs false
set_option linter.unnecessarySimpa false

theorem u64s_one (xs : List Int) : ∀ u ∈ u64s xs, u.oneCell' = true := oneCell_map (fun _ => rfl) xs
theorem u64s_length (xs : List Int) : (u64s xs).length = xs.length := List.length_map ..
theorem u64s_set (xs : List Int) (j : Nat) (r : Int) : u64s (xs.set j r) = (u64s xs).set j (.int .u64 r) := List.map_set ..
theorem u64s_get {xs : List Int} {j : Nat} (h : j < xs.length) : (u64s xs)[j]? = some (.int .u64 (xs.getD j 0)) := by simp [u64s, h]

set_option maxHeartbeats 1000000 in
theorem clone_eq {σ w : World} {M : Mm} (h : Has σ M w) (a : Value) (xs : List Int) (n : Nat) (hx : xs.length = n) (ha : Rd M 1 a n (u64s xs)) (hn : n ≤ 1000000) :
    Calls Tryd.prog 25 #[a] w fun r w' => ∃ v, r = .returned v ∧ Acc σ M w' 64 1 v n (u64s xs) := by
  obtain ⟨A, c, rfl⟩ := ha.form
  have HX := Lib.hid hx
  clear hx
  cases A with
  | none =>
    have h0 : Hid (n = 0) := by
      obtain ⟨_, A', c', e, _, hA⟩ := ha
      cases e
      rcases Nat.eq_zero_or_pos n with h0 | h0
      · exact h0
      · obtain ⟨_, _, _, _, _, e, _⟩ := hA h0
        cases e
    clear ha
    have hnil := fun (w : World) => Lib.run_eql_slice_nil (P := Tryd.prog) w 32 64 none n c 0 0 Tryd.underlying32
    go_enter Tryd.func25, Tryd.ntmps25
    go_wp2
    go_ret
    have e1 := h0.out
    have e2 := HX.out
    subst e1
    have e3 : xs = [] := List.eq_nil_of_length_eq_zero e2
    subst e3
    exact ⟨_, rfl, Acc.nil h _ _⟩
  | some ad =>
    have u1 := u64s_one xs
    have hnil := fun (w : World) => Lib.run_eql_slice_nil (P := Tryd.prog) w 32 64 (some ad) n c 0 0 Tryd.underlying32
    go_enter Tryd.func25, Tryd.ntmps25
    go_wp2_with (first
      | (at_builtin; refine wpList_append_rd (h.alloc _) (Mm.le_upd' h.fresh _) rfl _ _ _ rfl Tryd.underlying32 info_u64 rfl (by omega) rfl (Own.made h.fresh 0 rfl (by decide)) rfl (ha.le (Mm.le_upd' h.fresh _)) u1 (by omega) (by omega) ?_; clear h; intro v w hacc))
    go_ret
    exact ⟨_, rfl, by simpa using hacc⟩

def rep1 (ys : List Int) (c : Chg) : Option (List Int) := if 0 ≤ c.1 ∧ c.1.toNat < ys.length ∧ ys.getD c.1.toNat 0 = c.2.1 then some (ys.set c.1.toNat c.2.2) else none
def rep (xs : List Int) (l : List Chg) : Option (List Int) := l.foldlM rep1 xs
def repVal : Option (List Int) → Bool × List Int
  | some z => (true, z)
  | none => (false, [])
theorem rep_snoc {xs ys : List Int} {l : List Chg} {k : Nat} {c : Chg} (hc : l[k]? = some c) (h : rep xs (l.take k) = some ys) : rep xs (l.take (k + 1)) = rep1 ys c := by
  unfold rep at *
  rw [take_snoc' hc, List.foldlM_append, h]
  simp
theorem rep_none {xs ys : List Int} {l : List Chg} {k : Nat} {c : Chg} (hc : l[k]? = some c) (h : rep xs (l.take k) = some ys) (h1 : rep1 ys c = none) : rep xs l = none := by
  have h2 := rep_snoc hc h
  rw [h1] at h2
  have e : l = l.take (k + 1) ++ l.drop (k + 1) := (List.take_append_drop _ _).symm
  unfold rep at *
  rw [e, List.foldlM_append, h2]
  rfl
theorem rep1_length {ys zs : List Int} {c : Chg} (h : rep1 ys c = some zs) : zs.length = ys.length := by
  unfold rep1 at h
  split at h
  · cases h; simp
  · cases h
theorem rep1_no {ys : List Int} {c : Chg} (h : ¬ (0 ≤ c.1 ∧ c.1.toNat < ys.length ∧ ys.getD c.1.toNat 0 = c.2.1)) : rep1 ys c = none := if_neg h
theorem rep1_yes {ys : List Int} {c : Chg} (h : 0 ≤ c.1 ∧ c.1.toNat < ys.length ∧ ys.getD c.1.toNat 0 = c.2.1) : rep1 ys c = some (ys.set c.1.toNat c.2.2) := if_pos h

/-- How both end. -/
def RepPost (σ : World) (M : Mm) (o : Option (List Int)) (r : Ending) (w' : World) : Prop :=
  ∃ v, r = .returned (.tuple #[v, .bool (repVal o).1]) ∧ Acc σ M w' 64 1 v (repVal o).2.length (u64s (repVal o).2)
theorem RepPost.no {σ w : World} {M : Mm} {o : Option (List Int)} {r : Ending} (h : Has σ M w) (ho : o = none) (hr : r = .returned (.tuple #[.slice none 0 0, .bool false])) : RepPost σ M o r w := by
  subst ho
  exact ⟨_, hr, Acc.nil h _ _⟩

set_option maxHeartbeats 2000000 in
theorem replay_eq {σ w : World} {M : Mm} (h : Has σ M w) (a b : Value) (xs : List Int) (l : List Chg) (n m : Nat) (hx : xs.length = n) (hl : l.length = m) (ha : Rd M 1 a n (u64s xs)) (hb : Rd M 3 b m (l.flatMap encC)) (hn : n ≤ 1000000) (hm : m ≤ 1000000) :
    Calls Tryd.prog 9 #[a, b] w fun r w' => RepPost σ M (rep xs l) r w' := by
  obtain ⟨A, c, rfl⟩ := ha.form
  obtain ⟨B, d, rfl⟩ := hb.form
  have C1 := clone_eq h (.slice A n c) xs n hx ha hn
  have HX := Lib.hid hx
  have HL := Lib.hid hl
  clear hx hl
  go_enter Tryd.func9, Tryd.ntmps9
  go_wp2_with (first
    | (go_at_call 25; refine (C1).mono ?_; clear h; rintro r w ⟨v, rfl, M1, h, hle, hown⟩; obtain ⟨VA, vc, rfl⟩ := hown.form))
  go_loopw [13] (fun i wr => ∃ k : Nat, k ≤ m ∧ i = .int .i64 k ∧ ∃ M' ys, Has σ M' wr ∧ M.le M' ∧ Own M M' 64 1 (.slice VA n vc) n (u64s ys) ∧ ys.length = n ∧ rep xs (l.take k) = some ys) (fun i _ => m - (intOf i).toNat)
  case atStart => exact ⟨0, Nat.zero_le _, rfl, M1, xs, h, hle, hown, HX.out, rfl⟩
  case round =>
    clear h hle hown w
    obtain ⟨w, rfl⟩ : ∃ x : World, x = wr := ⟨_, rfl⟩
    obtain ⟨k, hk, rfl, M', ys, h, hle, hown, hyl, hrep⟩ := hrel
    have HY := Lib.hid hyl
    have HR := Lib.hid hrep
    clear hyl hrep
    by_cases hlt : k < m
    · obtain ⟨⟨p, q, r⟩, hx⟩ : ∃ x, l[k]? = some x := ⟨_, List.getElem?_eq_getElem (by rw [HL.out]; exact hlt)⟩
      obtain ⟨b1, o1, c1, cs1, t1, f1, e1, hM1, hx1⟩ := hb.elem encC_len hlt hx
      cases e1
      replace hM1 := hle _ _ hM1
      have hc1 : cs1.extract (o1 + k * 3) (o1 + k * 3 + 3) = #[.int .i64 p, .int .u64 q, .int .u64 r] := extract_of hx1 rfl
      have NO := Lib.hid (fun h1 => rep_none hx HR.out (rep1_no h1))
      have YES := Lib.hid (fun h1 => (rep_snoc hx HR.out).trans (rep1_yes h1))
      clear hx1 hx
      go_upto_region 5 with (first
        | (with_reducible show wpList _ _ _ ({ dst := _, op := Op.load 66 _, type := _, pos := _, after := _, guard := _ } :: _) _ _; refine wpList_agg_has h rfl 66 _ rfl rfl hM1 hc1 rfl Tryd.underlying66 rfl (by kernel_rfl) ?_; try simp only [Act.put, List.setIfInBounds_toArray, List.set_cons_zero, List.set_cons_succ]))
      obtain ⟨M2, h2, hle2, hb8, _⟩ := h.box (.cells #[.int .i64 p, .int .u64 q, .int .u64 r] 66)
      have hown2 := hown.le hle2
      have hle3 := Mm.le_trans hle hle2
      generalize w.alloc (Obj.cells #[Value.int .i64 p, .int .u64 q, .int .u64 r] 66) = w1 at h2 ⊢
      have e0 : (#[Value.int .i64 p, Value.int .u64 q, Value.int .u64 r] : Array Value)[0]? = some (.int .i64 p) := rfl
      have e1 : (#[Value.int .i64 p, Value.int .u64 q, Value.int .u64 r] : Array Value)[1]? = some (.int .u64 q) := rfl
      have e2 : (#[Value.int .i64 p, Value.int .u64 q, Value.int .u64 r] : Array Value)[2]? = some (.int .u64 r) := rfl
      generalize w.heap.size = b8 at hb8 ⊢
      clear h hle hle2 hown hM1 hc1
      have h := h2
      clear h2
      by_cases hp : p < 0
      · have NO := Lib.hid (NO.out (fun h1 => by simp at h1; omega))
        refine wp_region_class (Has σ M2) (by kernel_rfl) (by kernel_rfl) h.drew ?_
        clear h
        repeat (first
          | go_big_quiet_skip
          | (go_big_quiet_want; first
            | (refine quiet_load_has 3 _ rfl rfl hb8 e0 Tryd.underlying3 rfl ?_; simp only [Act.put, List.setIfInBounds_toArray, List.set_cons_zero, List.set_cons_succ]; go_big_quiet_on)
            | (go_big_quiet_op; first | go_big_quiet_on | go_big_quiet_call (first | with_reducible exact fun _ => rfl))))
        refine wpQuiet_nil ?_
        try clear w
        intro w h
        go_wp2
        go_ret2
        exact RepPost.no (h.le hle3) NO.out rfl
      · obtain ⟨j, rfl⟩ : ∃ j : Nat, p = j := ⟨p.toNat, by omega⟩
        by_cases hj : n ≤ j
        · have NO := Lib.hid (NO.out (fun h1 => by have := HY.out; simp at h1; omega))
          have hj' : (n : Int) ≤ (j : Int) := by omega
          refine wp_region_class (Has σ M2) (by kernel_rfl) (by kernel_rfl) h.drew ?_
          clear h
          repeat (first
            | go_big_quiet_skip
            | (go_big_quiet_want; first
              | (refine quiet_load_has 3 _ rfl rfl hb8 e0 Tryd.underlying3 rfl ?_; simp only [Act.put, List.setIfInBounds_toArray, List.set_cons_zero, List.set_cons_succ]; go_big_quiet_on)
              | (go_big_quiet_op; first | go_big_quiet_on | go_big_quiet_call (first | with_reducible exact fun _ => rfl))))
          refine wpQuiet_nil ?_
          try clear w
          intro w h
          go_wp2
          go_ret2
          exact RepPost.no (h.le hle3) NO.out rfl
        · obtain ⟨g, gc, eg⟩ := hown2.pos (by omega)
          cases eg
          obtain ⟨cur, hg, hcur⟩ := hown2.at_
          have hjn : j < n := by omega
          have eg := hcur j _ (u64s_get (by rw [HY.out]; exact hjn))
          have hj' : ¬ (n : Int) ≤ (j : Int) := by omega
          clear hcur hj
          cases hyq : (ys.getD j 0 != q)
          · have YES := Lib.hid (YES.out ⟨by simp, by rw [HY.out]; simpa using hjn, by simpa using hyq⟩)
            have YL := Lib.hid (rep1_length (rep1_yes (ys := ys) (c := (↑j, q, r)) ⟨by simp, by rw [HY.out]; simpa using hjn, by simpa using hyq⟩))
            generalize ys.getD j 0 = y at eg hyq
            refine wp_region_class (Has σ M2) (by kernel_rfl) (by kernel_rfl) h.drew ?_
            clear h
            repeat (first
              | go_big_quiet_skip
              | (go_big_quiet_want; first
                | (refine quiet_load_has 3 _ rfl rfl hb8 e0 Tryd.underlying3 rfl ?_; simp only [Act.put, List.setIfInBounds_toArray, List.set_cons_zero, List.set_cons_succ]; go_big_quiet_on)
                | (refine quiet_load_has 64 _ rfl rfl hb8 e1 Tryd.underlying64 rfl ?_; simp only [Act.put, List.setIfInBounds_toArray, List.set_cons_zero, List.set_cons_succ]; go_big_quiet_on)
                | (refine quiet_load_has 64 _ rfl rfl hg eg Tryd.underlying64 rfl ?_; simp only [Act.put, List.setIfInBounds_toArray, List.set_cons_zero, List.set_cons_succ]; go_big_quiet_on)
                | (go_big_quiet_op; first | go_big_quiet_on | go_big_quiet_call (first | with_reducible exact fun _ => rfl))))
            refine wpQuiet_nil ?_
            try clear w
            intro w h
            go_upto_region 7 with (fail)
            have c0 := (h.cell hb8 0).trans e0
            have c2 := (h.cell hb8 2).trans e2
            obtain ⟨cur', hg', hsz, hown3, hg0⟩ := hown2.put j (.int .u64 r)
            have hlt : j < cur'.size := by omega
            go_wp2_with (first
              | (with_reducible show wpList _ _ _ ({ dst := _, op := Op.store 64 _ _, type := _, pos := _, after := _, guard := _ } :: _) _ _; refine wpList_store1_has h rfl 64 _ _ rfl rfl rfl hg' hlt rfl (by kernel_rfl) ?_; clear h; intro w h))
            go_roundw
            case rel => exact ⟨k + 1, by omega, by go_num, _, ys.set j r, h, Mm.le_upd hle3 hg0 _, by rw [u64s_set]; exact hown3, YL.out.trans HY.out, YES.out⟩
            case measure => simp [intOf]; omega
          · have NO := Lib.hid (NO.out (fun h1 => by have := h1.2.2; simp at hyq this; exact hyq this))
            generalize ys.getD j 0 = y at eg hyq
            refine wp_region_class (Has σ M2) (by kernel_rfl) (by kernel_rfl) h.drew ?_
            clear h
            repeat (first
              | go_big_quiet_skip
              | (go_big_quiet_want; first
                | (refine quiet_load_has 3 _ rfl rfl hb8 e0 Tryd.underlying3 rfl ?_; simp only [Act.put, List.setIfInBounds_toArray, List.set_cons_zero, List.set_cons_succ]; go_big_quiet_on)
                | (refine quiet_load_has 64 _ rfl rfl hb8 e1 Tryd.underlying64 rfl ?_; simp only [Act.put, List.setIfInBounds_toArray, List.set_cons_zero, List.set_cons_succ]; go_big_quiet_on)
                | (refine quiet_load_has 64 _ rfl rfl hg eg Tryd.underlying64 rfl ?_; simp only [Act.put, List.setIfInBounds_toArray, List.set_cons_zero, List.set_cons_succ]; go_big_quiet_on)
                | (go_big_quiet_op; first | go_big_quiet_on | go_big_quiet_call (first | with_reducible exact fun _ => rfl))))
            refine wpQuiet_nil ?_
            try clear w
            intro w h
            go_wp2
            go_ret2
            exact RepPost.no (h.le hle3) NO.out rfl
    · go_wp2
      go_ret2
      obtain rfl : k = m := by omega
      have e := HR.out
      rw [List.take_of_length_le (by rw [HL.out]; exact Nat.le_refl _)] at e
      rw [e]
      exact ⟨_, rfl, M', h, hle, by rw [show (repVal (some ys)).2 = ys from rfl, HY.out]; exact hown⟩
end Go.Proofs.YtenpijejdibjpaaDoor
