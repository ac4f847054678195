/- Walks of layer 43: a word's name where there is none; where the word with a name is. -/
import Derived.Test.YtenpijejdibjpaaDoorRefNames
namespace Go.Proofs.YtenpijejdibjpaaDoor
open Go.RowKit
set_option linter.unusedVariables false
set_option linter.unusedSimpArgs false
set_option linter.unnecessarySimpa false

set_option maxHeartbeats 400000 in
theorem words_nil {σ w : World} {M : Mm} (h : Has σ M w) : Calls Tryd.prog 20 #[.pointer none] w fun e w' => e = .returned (.int .i64 0) ∧ Has σ M w' := by
  go_enter Tryd.func20, Tryd.ntmps20
  go_wp2
  go_ret
  exact ⟨rfl, h⟩
set_option maxHeartbeats 1000000 in
theorem what_nil {σ w : World} {M : Mm} (h : Has σ M w) (a : Int) :
    Calls Tryd.prog 21 #[.pointer none, .int .i64 a] w fun e w' => e = .returned (.tuple #[.agg #[.int .i64 0, .int .i64 0, .int .i64 0, .int .i64 0], .bool false]) ∧ Has σ M w' := by
  have W1 := Lib.hid (fun (M : Mm) (w : World) (h : Has σ M w) => words_nil h)
  by_cases h0 : a < 0
  · go_enter Tryd.func21, Tryd.ntmps21
    go_wp2
    exact bodyPost_ret (v := .tuple #[.agg #[.int .i64 0, .int .i64 0, .int .i64 0, .int .i64 0], .bool false]) (by simp [results, Tryd.results21, go_sem]) rfl ⟨rfl, h.quietAlloc _⟩
  · have ha : 0 ≤ a := by omega
    go_enter Tryd.func21, Tryd.ntmps21
    go_upto_region 1 with (fail)
    obtain ⟨M4, hbx, hle4, hb4, hn4⟩ := h.box (.cells #[.int .i64 0, .int .i64 0, .int .i64 0, .int .i64 0] 55)
    generalize w.alloc _ = wx at hbx ⊢
    generalize w.heap.size = b4 at hb4 hn4 ⊢
    clear h
    try clear w
    have h := hbx
    clear hbx
    obtain ⟨w, rfl⟩ : ∃ x : World, x = wx := ⟨_, rfl⟩
    go_upto_region 2 with (first
      | (go_at_call 20; go_loud (refine (W1.out _ _ h).mono ?_); clear h; rintro e w ⟨rfl, h⟩))
    go_wp2_with (first
      | (with_reducible show wpList _ _ _ ({ dst := _, op := Op.store 55 _ _, type := _, pos := _, after := _, guard := _ } :: _) _ _; go_loud (refine wpList_storeAll_has h rfl 55 _ _ rfl rfl rfl hb4 rfl rfl rfl (by kernel_rfl) rfl ?_); clear h; intro w h))
    exact bodyPost_ret (v := .tuple #[.agg #[.int .i64 0, .int .i64 0, .int .i64 0, .int .i64 0], .bool false]) (by
      have c0 := h.cell (Mm.upd_same _ _ _) 0
      have c1 := h.cell (Mm.upd_same _ _ _) 1
      have c2 := h.cell (Mm.upd_same _ _ _) 2
      have c3 := h.cell (Mm.upd_same _ _ _) 3
      simp at c0 c1 c2 c3
      simp [results, Tryd.results21, go_sem, c0, c1, c2, c3]) rfl ⟨rfl, h.le (Mm.le_upd hle4 hn4 _)⟩

set_option maxHeartbeats 2000000 in
theorem name_no {σ w : World} {M : Mm} (h : Has σ M w) (c : Nat → Int) (hc : ¬ ConfMay c) (a : Int) :
    Calls Tryd.prog 7 #[confV c, .int .i64 a] w fun e w' => e = .returned (.string ⟨#[]⟩) ∧ Has σ M w' := by
  have PN := Lib.hid (fun (M : Mm) (w : World) (h : Has σ M w) => planNew_no h c (decide_eq_false hc))
  have WI := Lib.hid (fun (M : Mm) (w : World) (h : Has σ M w) => what_nil h a)
  simp only [confV, ints14_lit] at PN ⊢
  clear hc
  go_enter Tryd.func7, Tryd.ntmps7
  go_upto_region 1 with (fail)
  obtain ⟨M2, hbx, hle2, hb2, hn2⟩ := h.box (.cells #[.int .i64 (c 0), .int .i64 (c 1), .int .i64 (c 2), .int .i64 (c 3), .int .i64 (c 4), .int .i64 (c 5), .int .i64 (c 6), .int .i64 (c 7), .int .i64 (c 8), .int .i64 (c 9), .int .i64 (c 10), .int .i64 (c 11), .int .i64 (c 12), .int .i64 (c 13)] 24)
  generalize w.alloc _ = wx at hbx ⊢
  generalize w.heap.size = b2 at hb2 hn2 ⊢
  clear h
  try clear w
  have h := hbx
  clear hbx
  obtain ⟨w, rfl⟩ : ∃ x : World, x = wx := ⟨_, rfl⟩
  have hx : (#[.int .i64 (c 0), .int .i64 (c 1), .int .i64 (c 2), .int .i64 (c 3), .int .i64 (c 4), .int .i64 (c 5), .int .i64 (c 6), .int .i64 (c 7), .int .i64 (c 8), .int .i64 (c 9), .int .i64 (c 10), .int .i64 (c 11), .int .i64 (c 12), .int .i64 (c 13)] : Array Value).extract 0 (0 + 14) = #[.int .i64 (c 0), .int .i64 (c 1), .int .i64 (c 2), .int .i64 (c 3), .int .i64 (c 4), .int .i64 (c 5), .int .i64 (c 6), .int .i64 (c 7), .int .i64 (c 8), .int .i64 (c 9), .int .i64 (c 10), .int .i64 (c 11), .int .i64 (c 12), .int .i64 (c 13)] := rfl
  go_wp2_with (first
    | (with_reducible show wpList _ _ _ ({ dst := _, op := Op.load 24 _, type := _, pos := _, after := _, guard := _ } :: _) _ _; go_loud (refine wpList_agg_has h rfl 24 _ rfl rfl hb2 hx rfl Tryd.underlying24 rfl (by kernel_rfl) ?_); try simp only [Act.put, List.setIfInBounds_toArray, List.set_cons_zero, List.set_cons_succ])
    | (go_at_call 19; go_loud (refine (PN.out _ _ h).mono ?_); clear h; rintro e w ⟨rfl, h⟩)
    | (go_at_call 21; go_loud (refine (WI.out _ _ h).mono ?_); clear h; rintro e w ⟨rfl, h⟩))
  go_ret
  exact ⟨rfl, (h.le hle2).quietAlloc _⟩
set_option maxHeartbeats 2000000 in
theorem name_out {σ w : World} {M : Mm} (h : Has σ M w) (c : Nat → Int) (hc : ConfMay c) (a : Int) (ha : a < 0 ∨ c 0 * firsts c 10 ≤ a) :
    Calls Tryd.prog 7 #[confV c, .int .i64 a] w fun e w' => e = .returned (.string ⟨#[]⟩) ∧ Has σ M w' := by
  have PN := Lib.hid (fun (M : Mm) (w : World) (h : Has σ M w) => planNew_yes h c hc)
  have WI := Lib.hid (fun (M : Mm) (w : World) (h : Has σ M w) (p : Nat) (hp : M p = some (planRow c)) => what_out h c hc hp a ha)
  simp only [confV, ints14_lit] at PN ⊢
  clear hc ha
  go_enter Tryd.func7, Tryd.ntmps7
  go_upto_region 1 with (fail)
  obtain ⟨M2, hbx, hle2, hb2, hn2⟩ := h.box (.cells #[.int .i64 (c 0), .int .i64 (c 1), .int .i64 (c 2), .int .i64 (c 3), .int .i64 (c 4), .int .i64 (c 5), .int .i64 (c 6), .int .i64 (c 7), .int .i64 (c 8), .int .i64 (c 9), .int .i64 (c 10), .int .i64 (c 11), .int .i64 (c 12), .int .i64 (c 13)] 24)
  generalize w.alloc _ = wx at hbx ⊢
  generalize w.heap.size = b2 at hb2 hn2 ⊢
  clear h
  try clear w
  have h := hbx
  clear hbx
  obtain ⟨w, rfl⟩ : ∃ x : World, x = wx := ⟨_, rfl⟩
  have hx : (#[.int .i64 (c 0), .int .i64 (c 1), .int .i64 (c 2), .int .i64 (c 3), .int .i64 (c 4), .int .i64 (c 5), .int .i64 (c 6), .int .i64 (c 7), .int .i64 (c 8), .int .i64 (c 9), .int .i64 (c 10), .int .i64 (c 11), .int .i64 (c 12), .int .i64 (c 13)] : Array Value).extract 0 (0 + 14) = #[.int .i64 (c 0), .int .i64 (c 1), .int .i64 (c 2), .int .i64 (c 3), .int .i64 (c 4), .int .i64 (c 5), .int .i64 (c 6), .int .i64 (c 7), .int .i64 (c 8), .int .i64 (c 9), .int .i64 (c 10), .int .i64 (c 11), .int .i64 (c 12), .int .i64 (c 13)] := rfl
  go_wp2_with (first
    | (with_reducible show wpList _ _ _ ({ dst := _, op := Op.load 24 _, type := _, pos := _, after := _, guard := _ } :: _) _ _; go_loud (refine wpList_agg_has h rfl 24 _ rfl rfl hb2 hx rfl Tryd.underlying24 rfl (by kernel_rfl) ?_); try simp only [Act.put, List.setIfInBounds_toArray, List.set_cons_zero, List.set_cons_succ])
    | (go_at_call 19; go_loud (refine (PN.out _ _ h).mono ?_); clear h; rintro e w ⟨p, M3, rfl, h, hle3, hp, hnp⟩)
    | (go_at_call 21; go_loud (refine (WI.out _ _ h _ hp).mono ?_); clear h; rintro e w ⟨rfl, h⟩))
  go_ret
  exact ⟨rfl, ((h.le hle3).le hle2).quietAlloc _⟩
set_option maxHeartbeats 1000000 in
theorem refNames_no {σ w : World} {M : Mm} (h : Has σ M w) (c : Nat → Int) (hc : ¬ ConfMay c) :
    Calls Tryd.prog 5 #[confV c] w fun r w' => r = .returned (.slice none 0 0) ∧ Has σ M w' := by
  have RM : Hid (∀ (M : Mm) (w : World), Has σ M w → Calls Tryd.prog 16 #[confV c] w fun e w' => e = .returned (.bool false) ∧ Has σ M w') := fun M w h => by
    have := refMay_has h c
    rwa [show confMayB c = false from decide_eq_false hc] at this
  clear hc
  simp only [confV, ints14_lit] at RM ⊢
  go_enter Tryd.func5, Tryd.ntmps5
  go_upto_region 1 with (fail)
  obtain ⟨M1, hbx, hle1, hb1, hn1⟩ := h.box (.cells #[.int .i64 (c 0), .int .i64 (c 1), .int .i64 (c 2), .int .i64 (c 3), .int .i64 (c 4), .int .i64 (c 5), .int .i64 (c 6), .int .i64 (c 7), .int .i64 (c 8), .int .i64 (c 9), .int .i64 (c 10), .int .i64 (c 11), .int .i64 (c 12), .int .i64 (c 13)] 24)
  generalize w.alloc _ = wx at hbx ⊢
  generalize w.heap.size = b1 at hb1 hn1 ⊢
  clear h
  try clear w
  have h := hbx
  clear hbx
  obtain ⟨w, rfl⟩ : ∃ x : World, x = wx := ⟨_, rfl⟩
  have hx : (#[.int .i64 (c 0), .int .i64 (c 1), .int .i64 (c 2), .int .i64 (c 3), .int .i64 (c 4), .int .i64 (c 5), .int .i64 (c 6), .int .i64 (c 7), .int .i64 (c 8), .int .i64 (c 9), .int .i64 (c 10), .int .i64 (c 11), .int .i64 (c 12), .int .i64 (c 13)] : Array Value).extract 0 (0 + 14) = #[.int .i64 (c 0), .int .i64 (c 1), .int .i64 (c 2), .int .i64 (c 3), .int .i64 (c 4), .int .i64 (c 5), .int .i64 (c 6), .int .i64 (c 7), .int .i64 (c 8), .int .i64 (c 9), .int .i64 (c 10), .int .i64 (c 11), .int .i64 (c 12), .int .i64 (c 13)] := rfl
  go_wp2_with (first
    | (with_reducible show wpList _ _ _ ({ dst := _, op := Op.load 24 _, type := _, pos := _, after := _, guard := _ } :: _) _ _; go_loud (refine wpList_agg_has h rfl 24 _ rfl rfl hb1 hx rfl Tryd.underlying24 rfl (by kernel_rfl) ?_); try simp only [Act.put, List.setIfInBounds_toArray, List.set_cons_zero, List.set_cons_succ])
    | (go_at_call 16; go_loud (refine (RM.out _ _ h).mono ?_); clear h; rintro e w ⟨rfl, h⟩))
  go_ret
  exact ⟨rfl, h.le hle1⟩

/-- What trace.Name tells, over a list of all names. -/
def nameAt (l : List ByteArray) (a : Int) : ByteArray := if 0 ≤ a then l.getD a.toNat ⟨#[]⟩ else ⟨#[]⟩
/-- Where the first of that name is. -/
def placeOf (l : List ByteArray) (s : ByteArray) : Nat := l.findIdx fun x => x.toList == s.toList

def placeEnd (l : List ByteArray) (s : ByteArray) : Ending := .returned (if placeOf l s < l.length then .tuple #[.int .i64 (placeOf l s), .bool true] else .tuple #[.int .i64 0, .bool false])

set_option maxHeartbeats 2000000 in
theorem place_no {σ w : World} {M : Mm} (h : Has σ M w) (c : Nat → Int) (hc : ¬ ConfMay c) (s : ByteArray) :
    Calls Tryd.prog 6 #[confV c, .string s] w fun e w' => e = .returned (.tuple #[.int .i64 0, .bool false]) ∧ Has σ M w' := by
  have PN := Lib.hid (fun (M : Mm) (w : World) (h : Has σ M w) => planNew_no h c (decide_eq_false hc))
  have W1 := Lib.hid (fun (M : Mm) (w : World) (h : Has σ M w) => words_nil h)
  simp only [confV, ints14_lit] at PN ⊢
  clear hc
  go_enter Tryd.func6, Tryd.ntmps6
  go_upto_region 1 with (fail)
  obtain ⟨M2, hbx, hle2, hb2, hn2⟩ := h.box (.cells #[.int .i64 (c 0), .int .i64 (c 1), .int .i64 (c 2), .int .i64 (c 3), .int .i64 (c 4), .int .i64 (c 5), .int .i64 (c 6), .int .i64 (c 7), .int .i64 (c 8), .int .i64 (c 9), .int .i64 (c 10), .int .i64 (c 11), .int .i64 (c 12), .int .i64 (c 13)] 24)
  generalize w.alloc _ = wx at hbx ⊢
  generalize w.heap.size = b2 at hb2 hn2 ⊢
  clear h
  try clear w
  have h := hbx
  clear hbx
  obtain ⟨w, rfl⟩ : ∃ x : World, x = wx := ⟨_, rfl⟩
  have hx : (#[.int .i64 (c 0), .int .i64 (c 1), .int .i64 (c 2), .int .i64 (c 3), .int .i64 (c 4), .int .i64 (c 5), .int .i64 (c 6), .int .i64 (c 7), .int .i64 (c 8), .int .i64 (c 9), .int .i64 (c 10), .int .i64 (c 11), .int .i64 (c 12), .int .i64 (c 13)] : Array Value).extract 0 (0 + 14) = #[.int .i64 (c 0), .int .i64 (c 1), .int .i64 (c 2), .int .i64 (c 3), .int .i64 (c 4), .int .i64 (c 5), .int .i64 (c 6), .int .i64 (c 7), .int .i64 (c 8), .int .i64 (c 9), .int .i64 (c 10), .int .i64 (c 11), .int .i64 (c 12), .int .i64 (c 13)] := rfl
  go_upto_region 3 with (first
    | (with_reducible show wpList _ _ _ ({ dst := _, op := Op.load 24 _, type := _, pos := _, after := _, guard := _ } :: _) _ _; go_loud (refine wpList_agg_has h rfl 24 _ rfl rfl hb2 hx rfl Tryd.underlying24 rfl (by kernel_rfl) ?_); try simp only [Act.put, List.setIfInBounds_toArray, List.set_cons_zero, List.set_cons_succ])
    | (go_at_call 19; go_loud (refine (PN.out _ _ h).mono ?_); clear h; rintro e w ⟨rfl, h⟩)
    | (go_at_call 20; go_loud (refine (W1.out _ _ h).mono ?_); clear h; rintro e w ⟨rfl, h⟩))
  refine wp_loop_rounds 1 ?_
  rw [rounds_succ]
  go_wp2
  go_ret2
  exact ⟨rfl, h.le hle2⟩

set_option maxHeartbeats 4000000 in
theorem place_yes {σ w : World} {M : Mm} (h : Has σ M w) (c : Nat → Int) (hc : ConfMay c) (s : ByteArray) (l : List ByteArray) (hl : (l.length : Int) = c 0 * firsts c 10) (hlen : l.length ≤ 2000)
    (NM : Hid (∀ (M : Mm) (w : World) (a : Nat), Has σ M w → a < l.length → Calls Tryd.prog 7 #[confV c, .int .i64 a] w fun e w' => e = .returned (.string (l.getD a ⟨#[]⟩)) ∧ Has σ M w')) :
    Calls Tryd.prog 6 #[confV c, .string s] w fun e w' => e = placeEnd l s ∧ Has σ M w' := by
  have PN := Lib.hid (fun (M : Mm) (w : World) (h : Has σ M w) => planNew_yes h c hc)
  have W1 : Hid (∀ (M : Mm) (w : World) (p : Nat), Has σ M w → M p = some (planRow c) → Calls Tryd.prog 20 #[.pointer (some ⟨p, 0, none⟩)] w fun e w' => e = .returned (.int .i64 l.length) ∧ Has σ M w') := fun M w p h hp => by
    rw [hl]
    exact words_has h c hc hp
  simp only [confV, ints14_lit] at PN NM ⊢
  clear hc hl
  obtain ⟨n, hn⟩ : ∃ n, l.length = n := ⟨_, rfl⟩
  rw [hn] at hlen W1 NM
  have HN := Lib.hid hn
  clear hn
  go_enter Tryd.func6, Tryd.ntmps6
  go_upto_region 1 with (fail)
  obtain ⟨M2, hbx, hle2, hb2, hn2⟩ := h.box (.cells #[.int .i64 (c 0), .int .i64 (c 1), .int .i64 (c 2), .int .i64 (c 3), .int .i64 (c 4), .int .i64 (c 5), .int .i64 (c 6), .int .i64 (c 7), .int .i64 (c 8), .int .i64 (c 9), .int .i64 (c 10), .int .i64 (c 11), .int .i64 (c 12), .int .i64 (c 13)] 24)
  generalize w.alloc _ = wx at hbx ⊢
  generalize w.heap.size = b2 at hb2 hn2 ⊢
  clear h
  try clear w
  have h := hbx
  clear hbx
  obtain ⟨w, rfl⟩ : ∃ x : World, x = wx := ⟨_, rfl⟩
  have hx : (#[.int .i64 (c 0), .int .i64 (c 1), .int .i64 (c 2), .int .i64 (c 3), .int .i64 (c 4), .int .i64 (c 5), .int .i64 (c 6), .int .i64 (c 7), .int .i64 (c 8), .int .i64 (c 9), .int .i64 (c 10), .int .i64 (c 11), .int .i64 (c 12), .int .i64 (c 13)] : Array Value).extract 0 (0 + 14) = #[.int .i64 (c 0), .int .i64 (c 1), .int .i64 (c 2), .int .i64 (c 3), .int .i64 (c 4), .int .i64 (c 5), .int .i64 (c 6), .int .i64 (c 7), .int .i64 (c 8), .int .i64 (c 9), .int .i64 (c 10), .int .i64 (c 11), .int .i64 (c 12), .int .i64 (c 13)] := rfl
  go_upto_region 3 with (first
    | (with_reducible show wpList _ _ _ ({ dst := _, op := Op.load 24 _, type := _, pos := _, after := _, guard := _ } :: _) _ _; go_loud (refine wpList_agg_has h rfl 24 _ rfl rfl hb2 hx rfl Tryd.underlying24 rfl (by kernel_rfl) ?_); try simp only [Act.put, List.setIfInBounds_toArray, List.set_cons_zero, List.set_cons_succ])
    | (go_at_call 19; go_loud (refine (PN.out _ _ h).mono ?_); clear h; rintro e w ⟨p, M3, rfl, h, hle3, hp, hnp⟩)
    | (go_at_call 20; go_loud (refine (W1.out _ _ _ h hp).mono ?_); clear h; rintro e w ⟨rfl, h⟩))
  have hb3 := hle3 _ _ hb2
  have hle := Mm.le_trans hle2 hle3
  clear PN W1 hp hnp hle2 hle3 hb2 hn2
  go_loopw [16] (fun i wr => ∃ k : Nat, k ≤ n ∧ i = .int .i64 k ∧ Has σ M3 wr ∧ ∀ j, j < k → ((l.getD j ⟨#[]⟩).toList == s.toList) = false) (fun i _ => n - (intOf i).toNat)
  case atStart => exact ⟨0, by omega, rfl, h, fun j hj => absurd hj (by omega)⟩
  case round =>
    clear h w
    obtain ⟨w, rfl⟩ : ∃ x : World, x = wr := ⟨_, rfl⟩
    obtain ⟨k, hk, rfl, h, hall⟩ := hrel
    have HA := Lib.hid hall
    clear hall
    by_cases hlt : k < n
    · have GD := Lib.hid (show l.getD k ⟨#[]⟩ = l.getD k ⟨#[]⟩ from rfl)
      have NK := Lib.hid (fun M w h => NM.out M w k h hlt)
      cases hks : ((l.getD k ⟨#[]⟩).toList == s.toList)
      · have HA2 : Hid (∀ j, j < k + 1 → ((l.getD j ⟨#[]⟩).toList == s.toList) = false) := fun j hj => by
          rcases Nat.lt_or_ge j k with h1 | h1
          · exact HA.out j h1
          · obtain rfl : j = k := by omega
            exact hks
        generalize l.getD k ⟨#[]⟩ = nm at NK hks
        go_wp2_with (first
          | (with_reducible show wpList _ _ _ ({ dst := _, op := Op.load 24 _, type := _, pos := _, after := _, guard := _ } :: _) _ _; go_loud (refine wpList_agg_has h rfl 24 _ rfl rfl hb3 hx rfl Tryd.underlying24 rfl (by kernel_rfl) ?_); try simp only [Act.put, List.setIfInBounds_toArray, List.set_cons_zero, List.set_cons_succ])
          | (go_at_call 7; go_loud (refine (NK.out _ _ h).mono ?_); clear h; rintro e w ⟨rfl, h⟩))
        go_roundw
        case rel => exact ⟨k + 1, by omega, by go_num, h, HA2.out⟩
        case measure => simp [intOf]; omega
      · have F : Hid (placeOf l s = k ∧ k < l.length) := by
          have hkl : k < l.length := by rw [HN.out]; exact hlt
          refine ⟨?_, hkl⟩
          unfold placeOf
          refine (List.findIdx_eq hkl).2 ⟨by simpa [List.getD, hkl] using hks, fun j hj => ?_⟩
          have := HA.out j hj
          simpa [List.getD, show j < l.length by omega] using this
        generalize l.getD k ⟨#[]⟩ = nm at NK hks
        go_wp2_with (first
          | (with_reducible show wpList _ _ _ ({ dst := _, op := Op.load 24 _, type := _, pos := _, after := _, guard := _ } :: _) _ _; go_loud (refine wpList_agg_has h rfl 24 _ rfl rfl hb3 hx rfl Tryd.underlying24 rfl (by kernel_rfl) ?_); try simp only [Act.put, List.setIfInBounds_toArray, List.set_cons_zero, List.set_cons_succ])
          | (go_at_call 7; go_loud (refine (NK.out _ _ h).mono ?_); clear h; rintro e w ⟨rfl, h⟩))
        go_ret2
        exact ⟨by rw [placeEnd, F.out.1, if_pos F.out.2]; rfl, h.le hle⟩
    · have F : Hid (¬ placeOf l s < l.length) := by
        intro h1
        have h2 := List.findIdx_getElem (w := h1)
        have := HA.out (placeOf l s) (by have := HN.out; omega)
        unfold placeOf at this h1
        simp [List.getD, h1] at this
        simp at h2
        exact this h2
      go_wp2
      go_ret2
      exact ⟨by rw [placeEnd, if_neg F.out]; rfl, h.le hle⟩
end Go.Proofs.YtenpijejdibjpaaDoor
