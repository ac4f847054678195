/- Walks of layer 5 (plan): a word's place. -/
import Derived.Test.YtmfpablmmjaccaaGreatDoorPlanB
namespace Go.Proofs.YtmfpablmmjaccaaGreatDoor
open Go.RowKit
set_option linter.unusedVariables false
set_option linter.unusedSimpArgs false
set_option linter.unnecessarySimpa false

def plI (c : Nat → Int) (k : Nat) (r : Int) : Int := if k = 9 then (r - firsts c 9) / 5 + 1 else if k = 8 then r - firsts c 8 + 1 else r - firsts c k
def plJ (c : Nat → Int) (k : Nat) (r : Int) : Int := if k = 9 then (r - firsts c 9) % 5 else 0
theorem firsts_bd {c : Nat → Int} (hc : ConfMay c) (k : Nat) : 0 ≤ firsts c k ∧ firsts c k ≤ 418 := by
  obtain ⟨_, _, _, _, ⟨h2, h3⟩, ⟨h4, h5⟩, _⟩ := hc
  unfold firsts
  repeat' split
  all_goals omega
theorem firsts_ten {c : Nat → Int} (hc : ConfMay c) : 31 ≤ firsts c 10 := by
  obtain ⟨_, _, _, _, ⟨h2, h3⟩, ⟨h4, h5⟩, _⟩ := hc
  unfold firsts
  simp
  omega

set_option maxHeartbeats 1000000 in
/-- A word that isn't there has no place. -/
theorem what_out {σ w : World} {M : Mm} (h : Has σ M w) (c : Nat → Int) (hc : ConfMay c) {p : Nat} (hp : M p = some (planRow c)) (a : Int) (ha : a < 0 ∨ c 0 * firsts c 10 ≤ a) :
    Calls Tryz.prog 80 #[.pointer (some ⟨p, 0, none⟩), .int .i64 a] w fun e w' => e = .returned (.tuple #[.agg #[.int .i64 0, .int .i64 0, .int .i64 0, .int .i64 0], .bool false]) ∧ Has σ M w' := by
  have W1 := Lib.hid (fun (M : Mm) (w : World) (h : Has σ M w) hp => words_has h c hc (p := p) hp)
  generalize c 0 * firsts c 10 = n at ha W1
  by_cases h0 : a < 0
  · clear ha
    go_enter Tryz.func80, Tryz.ntmps80
    go_wp2
    exact bodyPost_ret (v := .tuple #[.agg #[.int .i64 0, .int .i64 0, .int .i64 0, .int .i64 0], .bool false]) (by simp [results, Tryz.results80, go_sem]) rfl ⟨rfl, h.quietAlloc _⟩
  · have ha : n ≤ a := by omega
    go_enter Tryz.func80, Tryz.ntmps80
    go_upto_region 1 with (fail)
    obtain ⟨M4, hbx, hle4, hb4, hn4⟩ := h.box (.cells #[.int .i64 0, .int .i64 0, .int .i64 0, .int .i64 0] 102)
    generalize w.alloc _ = wx at hbx ⊢
    generalize w.heap.size = b4 at hb4 hn4 ⊢
    clear h
    try clear w
    have h := hbx
    clear hbx
    obtain ⟨w, rfl⟩ : ∃ x : World, x = wx := ⟨_, rfl⟩
    have hp4 := hle4 _ _ hp
    go_upto_region 2 with (first
      | (go_at_call 39; refine (W1.out _ _ h hp4).mono ?_; clear h; rintro e w ⟨rfl, h⟩))
    go_wp2_with (first
      | (with_reducible show wpList _ _ _ ({ dst := _, op := Op.store 102 _ _, type := _, pos := _, after := _, guard := _ } :: _) _ _; refine wpList_storeAll_has h rfl 102 _ _ rfl rfl rfl hb4 rfl rfl rfl (by kernel_rfl) rfl ?_; clear h; intro w h))
    exact bodyPost_ret (v := .tuple #[.agg #[.int .i64 0, .int .i64 0, .int .i64 0, .int .i64 0], .bool false]) (by
      have c0 := h.cell (Mm.upd_same _ _ _) 0
      have c1 := h.cell (Mm.upd_same _ _ _) 1
      have c2 := h.cell (Mm.upd_same _ _ _) 2
      have c3 := h.cell (Mm.upd_same _ _ _) 3
      simp at c0 c1 c2 c3
      simp [results, Tryz.results80, go_sem, c0, c1, c2, c3]) rfl ⟨rfl, h.le (Mm.le_upd hle4 hn4 _)⟩

set_option maxHeartbeats 4000000 in
theorem what_in {σ w : World} {M : Mm} (h : Has σ M w) (c : Nat → Int) (hc : ConfMay c) {p : Nat} (hp : M p = some (planRow c)) (a lv r : Int) (ha : 0 ≤ a) (hn : a < c 0 * firsts c 10) (hlv : a / firsts c 10 = lv) (hr : a % firsts c 10 = r) :
    Calls Tryz.prog 80 #[.pointer (some ⟨p, 0, none⟩), .int .i64 a] w fun e w' => ∃ k : Nat, k ≤ 9 ∧ firsts c k ≤ r ∧ r < firsts c (k + 1) ∧
      e = .returned (.tuple #[.agg #[.int .i64 lv, .int .i64 k, .int .i64 (plI c k r), .int .i64 (plJ c k r)], .bool true]) ∧ Has σ M w' := by
  have W1 := Lib.hid (fun (M : Mm) (w : World) (h : Has σ M w) hp => words_has h c hc (p := p) hp)
  have S1 := Lib.hid (fun (M : Mm) (w : World) (h : Has σ M w) hp => size_has h c (p := p) hp)
  have F10 := firsts_ten hc
  have FB := Lib.hid (firsts_bd hc)
  have FB10 := firsts_bd hc 10
  have hn' : a < 2000 := by
    obtain ⟨⟨h0, h1⟩, _⟩ := hc
    have := Int.mul_le_mul_of_nonneg_right h1 FB10.1
    omega
  have R0 : 0 ≤ r := hr ▸ Int.emod_nonneg _ (by omega)
  have R1 : r < firsts c 10 := hr ▸ Int.emod_lt_of_pos _ (by omega)
  have FZ : Hid (firsts c 0 = 0) := rfl
  have PI : Hid (∀ k r, plI c k r = if k = 9 then (r - firsts c 9) / 5 + 1 else if k = 8 then r - firsts c 8 + 1 else r - firsts c k) := fun _ _ => rfl
  have hS : Hid (firsts c 10 = firsts c 10) := rfl
  generalize hf : firsts c 10 = S at *
  have HF := Lib.hid hf
  clear hf
  generalize c 0 * S = n at hn W1
  have ha0 : ¬ a < 0 := by omega
  have hn0 : ¬ n ≤ a := by omega
  go_enter Tryz.func80, Tryz.ntmps80
  go_upto_region 1 with (fail)
  obtain ⟨M4, hbx, hle4, hb4, hn4⟩ := h.box (.cells #[.int .i64 0, .int .i64 0, .int .i64 0, .int .i64 0] 102)
  generalize w.alloc _ = wx at hbx ⊢
  generalize w.heap.size = b4 at hb4 hn4 ⊢
  clear h
  try clear w
  have h := hbx
  clear hbx
  obtain ⟨w, rfl⟩ : ∃ x : World, x = wx := ⟨_, rfl⟩
  have hp4 := hle4 _ _ hp
  go_upto_region 4 with (first
    | (go_at_call 39; refine (W1.out _ _ h hp4).mono ?_; clear h; rintro e w ⟨rfl, h⟩)
    | (go_at_call 59; refine (S1.out _ _ h hp4).mono ?_; clear h; rintro e w ⟨rfl, h⟩))
  obtain ⟨M6, hbx, hle6, hb6, hn6⟩ := h.box (.cells #[.int .i64 lv, .int .i64 0, .int .i64 0, .int .i64 0] 102)
  generalize w.alloc _ = wx at hbx ⊢
  generalize w.heap.size = b6 at hb6 hn6 ⊢
  clear h
  try clear w
  have h := hbx
  clear hbx
  obtain ⟨w, rfl⟩ : ∃ x : World, x = wx := ⟨_, rfl⟩
  have hp6 := hle6 _ _ hp4
  have hb46 := hle6 _ _ hb4
  go_wp2_with (first
    | (go_at_call 59; refine (S1.out _ _ h hp6).mono ?_; clear h; rintro e w ⟨rfl, h⟩))
  have hne : b4 ≠ b6 := Mm.ne_of hn6 hb4
  have hpn : p ≠ b6 := Mm.ne_of hn6 hp4
  clear W1 S1 hn ha0 hn0
  have hle := Mm.le_trans hle4 hle6
  have HN := Lib.hid (And.intro (Mm.none_of hle4 hn6) hn4)
  clear hp hp4 hb4 hle4 hle6 hn4 hn6
  have NE := Lib.hid hne
  have NP := Lib.hid hpn
  clear hne hpn
  have hb4 := hb46
  have hp := hp6
  clear hb46 hp6 FB10 F10
  go_loopw [25] (fun _ wr => ∃ k : Nat, k ≤ 9 ∧ firsts c k ≤ r ∧ ∃ M', Has σ M' wr ∧ M.le M' ∧ M' p = some (planRow c) ∧ M' b4 = some (.cells #[.int .i64 0, .int .i64 0, .int .i64 0, .int .i64 0] 102) ∧ M' b6 = some (.cells #[.int .i64 lv, .int .i64 k, .int .i64 0, .int .i64 0] 102))
    (fun _ wr => 10 - cellN wr b6 1)
  case atStart => exact ⟨0, by omega, by rw [FZ.out]; exact R0, M6, h, hle, hp, hb4, hb6⟩
  case round =>
    clear h hle hb4 hp hb6
    obtain ⟨w, rfl⟩ : ∃ x : World, x = wr := ⟨_, rfl⟩
    obtain ⟨k, hk, hkr, M', h, hle, hp, hb4, hb6⟩ := hrel
    have e1 : (#[.int .i64 lv, .int .i64 k, .int .i64 0, .int .i64 0] : Array Value)[1]? = some (.int .i64 k) := rfl
    have ef := planRow_first c (k := k + 1) (by omega)
    have eg := planRow_first c (k := k) (by omega)
    have B1 := FB.out (k + 1)
    have B0 := FB.out k
    have hsz : 1 < (#[.int .i64 lv, .int .i64 k, .int .i64 0, .int .i64 0] : Array Value).size := by simp
    have hsz2 : 2 < (#[.int .i64 lv, .int .i64 k, .int .i64 0, .int .i64 0] : Array Value).size := by simp
    by_cases hlt : firsts c (k + 1) ≤ r
    · have hk9 : k < 9 := by
        rcases Nat.lt_or_ge k 9 with h1 | h1
        · exact h1
        · have : k = 9 := by omega
          subst this
          have h2 : firsts c (9 + 1) = S := HF.out
          omega
      have HL := Lib.hid hlt
      have MEAS : Hid (cellN w b6 1 = k) := by show _ = _; rw [cellN_of (h.cell hb6 1)]; simp [intOf]
      generalize firsts c (k + 1) = f1 at ef hlt B1
      go_upto_region 5 with (fail)
      refine wp_region_class (Has σ M') (by kernel_rfl) (by kernel_rfl) h.drew ?_
      clear h
      repeat (first
        | go_big_quiet_skip
        | (go_big_quiet_want; first
          | (refine quiet_load_has 3 _ rfl rfl hp ef Tryz.underlying3 rfl ?_; simp only [Act.put, List.setIfInBounds_toArray, List.set_cons_zero, List.set_cons_succ]; go_big_quiet_on)
          | (refine quiet_load_has 3 _ rfl rfl hb6 e1 Tryz.underlying3 rfl ?_; simp only [Act.put, List.setIfInBounds_toArray, List.set_cons_zero, List.set_cons_succ]; go_big_quiet_on)
          | (go_big_quiet_op; first | go_big_quiet_on | go_big_quiet_call (first | with_reducible exact fun _ => rfl))))
      refine wpQuiet_nil ?_
      try clear w
      intro w h
      have c1 : w.cell? ⟨b6, 1, none⟩ = some (.int .i64 k) := h.cell hb6 1
      clear eg ef e1
      go_wp2_with (first
        | (with_reducible show wpList _ _ _ ({ dst := _, op := Op.store 3 _ _, type := _, pos := _, after := _, guard := _ } :: _) _ _; refine wpList_store1_has h rfl 3 _ _ rfl rfl rfl hb6 hsz rfl (by kernel_rfl) ?_; clear h; intro w h))
      have h : Has σ (M'.upd b6 (.cells #[.int .i64 lv, .int .i64 (k + 1 : Nat), .int .i64 0, .int .i64 0] 102)) w := h
      go_roundw
      case rel =>
        exact ⟨k + 1, by omega, HL.out, _, h, Mm.le_upd hle HN.out.1 _, by rw [Mm.upd_ne NP.out]; exact hp, by rw [Mm.upd_ne NE.out]; exact hb4, Mm.upd_same _ _ _⟩
      case measure =>
        rw [MEAS.out, cellN_of (h.cell (Mm.upd_same _ _ _) 1)]
        simp [intOf]
        omega
    · have HL := Lib.hid (by omega : r < firsts c (k + 1))
      have hl' : r < firsts c (k + 1) := by omega
      have e2 : (#[.int .i64 lv, .int .i64 k, .int .i64 (r - firsts c k), .int .i64 0] : Array Value)[1]? = some (.int .i64 k) := rfl
      have HK := Lib.hid hkr
      have PJ : Hid (∀ k r, plJ c k r = if k = 9 then (r - firsts c 9) % 5 else 0) := fun _ _ => rfl
      generalize hf1 : firsts c (k + 1) = f1 at ef hlt B1 hl' HL ⊢
      generalize hf0 : firsts c k = f0 at eg hkr B0 HK e2 ⊢
      have HF1 := Lib.hid hf1
      have HF0 := Lib.hid hf0
      clear hf1 hf0
      go_upto_region 5 with (fail)
      refine wp_region_class (Has σ M') (by kernel_rfl) (by kernel_rfl) h.drew ?_
      clear h
      repeat (first
        | go_big_quiet_skip
        | (go_big_quiet_want; first
          | (refine quiet_load_has 3 _ rfl rfl hp ef Tryz.underlying3 rfl ?_; simp only [Act.put, List.setIfInBounds_toArray, List.set_cons_zero, List.set_cons_succ]; go_big_quiet_on)
          | (refine quiet_load_has 3 _ rfl rfl hb6 e1 Tryz.underlying3 rfl ?_; simp only [Act.put, List.setIfInBounds_toArray, List.set_cons_zero, List.set_cons_succ]; go_big_quiet_on)
          | (go_big_quiet_op; first | go_big_quiet_on | go_big_quiet_call (first | with_reducible exact fun _ => rfl))))
      refine wpQuiet_nil ?_
      try clear w
      intro w h
      go_upto_region 7 with (fail)
      refine wp_region_head (Has σ M') 10 (by kernel_rfl) (by kernel_rfl) (fun _ _ _ _ _ h => h) h.drew ?_
      clear h
      simp only [List.take_succ_cons, List.take_zero, List.drop_succ_cons, List.drop_zero]
      repeat (first
        | go_big_quiet_skip
        | (go_big_quiet_want; first
          | (refine quiet_load_has 3 _ rfl rfl hp eg Tryz.underlying3 rfl ?_; simp only [Act.put, List.setIfInBounds_toArray, List.set_cons_zero, List.set_cons_succ]; go_big_quiet_on)
          | (refine quiet_load_has 3 _ rfl rfl hb6 e1 Tryz.underlying3 rfl ?_; simp only [Act.put, List.setIfInBounds_toArray, List.set_cons_zero, List.set_cons_succ]; go_big_quiet_on)
          | (go_big_quiet_op; first | go_big_quiet_on | go_big_quiet_call (first | with_reducible exact fun _ => rfl))))
      refine wpQuiet_nil ?_
      try clear w
      intro w h
      go_upto_region 8 with (first
        | (with_reducible show wpList _ _ _ ({ dst := _, op := Op.store 3 _ _, type := _, pos := _, after := _, guard := _ } :: _) _ _; refine wpList_store1_has h rfl 3 _ _ rfl rfl rfl hb6 hsz2 rfl (by kernel_rfl) ?_; clear h; intro w h))
      have h : Has σ (M'.upd b6 (.cells #[.int .i64 lv, .int .i64 k, .int .i64 (r - f0), .int .i64 0] 102)) w := h
      have hle7 : M.le (M'.upd b6 (.cells #[.int .i64 lv, .int .i64 k, .int .i64 (r - f0), .int .i64 0] 102)) := Mm.le_upd hle HN.out.1 _
      have hb47 : (M'.upd b6 (.cells #[.int .i64 lv, .int .i64 k, .int .i64 (r - f0), .int .i64 0] 102)) b4 = some (.cells #[.int .i64 0, .int .i64 0, .int .i64 0, .int .i64 0] 102) := by rw [Mm.upd_ne NE.out]; exact hb4
      have hb67 : (M'.upd b6 (.cells #[.int .i64 lv, .int .i64 k, .int .i64 (r - f0), .int .i64 0] 102)) b6 = some (.cells #[.int .i64 lv, .int .i64 k, .int .i64 (r - f0), .int .i64 0] 102) := Mm.upd_same _ _ _
      clear hle hb4 hb6 hp eg ef e1
      generalize M'.upd b6 (.cells #[.int .i64 lv, .int .i64 k, .int .i64 (r - f0), .int .i64 0] 102) = M7 at h hle7 hb47 hb67
      have c1 : w.cell? ⟨b6, 1, none⟩ = some (.int .i64 k) := h.cell hb67 1
      have c2 : w.cell? ⟨b6, 2, none⟩ = some (.int .i64 (r - f0)) := h.cell hb67 2
      have hs2 : 2 < (#[.int .i64 lv, .int .i64 k, .int .i64 (r - f0), .int .i64 0] : Array Value).size := by simp
      have fin : ∃ i0 j0 b0 : Int, 0 ≤ i0 ∧ i0 ≤ 2000 ∧ 0 ≤ b0 ∧ b0 ≤ 1 ∧ (if (k : Int) = 8 ∨ (k : Int) = 9 then 1 else 0) = b0 ∧ i0 + b0 = plI c k r ∧ j0 = plJ c k r ∧ (k ≠ 9 → i0 = r - f0 ∧ j0 = 0) ∧ (k = 9 → i0 = (r - f0) / 5 ∧ j0 = (r - f0) % 5) := by
        by_cases h9 : k = 9
        · subst h9
          refine ⟨(r - f0) / 5, (r - f0) % 5, 1, by omega, by omega, by omega, by omega, by simp, ?_, ?_, by simp, by simp⟩
          · rw [PI.out, if_pos rfl, HF0.out]
          · rw [PJ.out, if_pos rfl, HF0.out]
        · by_cases h8 : k = 8
          · subst h8
            refine ⟨r - f0, 0, 1, by omega, by omega, by omega, by omega, by simp, ?_, ?_, by simp, by simp⟩
            · rw [PI.out, if_neg (by omega), if_pos rfl, HF0.out]
            · rw [PJ.out, if_neg (by omega)]
          · refine ⟨r - f0, 0, 0, by omega, by omega, by omega, by omega, by rw [if_neg (by omega)], ?_, ?_, by simp, by omega⟩
            · rw [PI.out, if_neg h9, if_neg h8, HF0.out]; omega
            · rw [PJ.out, if_neg h9]
      obtain ⟨i0, j0, b0, i00, i01, b00, b01, hbase, hi, hj, hn9, h9⟩ := fin
      have HI := Lib.hid hi
      have HJ := Lib.hid hj
      have BA := Lib.hid hbase
      clear hi hj hbase
      by_cases hk9 : k = 9
      · obtain ⟨q1, q2⟩ := h9 hk9
        have Q1 := Lib.hid q1
        have Q2 := Lib.hid q2
        have hk9' : ((k : Int) == 9) = true := by subst hk9; rfl
        have d0 : 0 ≤ r - f0 := by omega
        clear q1 q2 h9 hn9 hk9 hlt
        go_upto_region 10 with (first
          | (with_reducible show wpList _ _ _ ({ dst := _, op := Op.store 3 _ _, type := _, pos := _, after := _, guard := _ } :: _) _ _; refine wpList_store1_has h rfl 3 _ _ rfl rfl rfl hb67 hs2 rfl (by kernel_rfl) ?_; clear h; intro w h)
          | (with_reducible show wpList _ _ _ ({ dst := _, op := Op.store 3 _ _, type := _, pos := _, after := _, guard := _ } :: _) _ _; refine wpList_store1_has h rfl 3 _ _ rfl rfl rfl (Mm.upd_same _ _ _) (by simp) rfl (by kernel_rfl) ?_; clear h; intro w h))
        rw [Mm.upd_upd] at h
        have h : Has σ (M7.upd b6 (.cells #[.int .i64 lv, .int .i64 k, .int .i64 ((r - f0) / 5), .int .i64 ((r - f0) % 5)] 102)) w := h
        rw [← Q1.out, ← Q2.out] at h
        have hle8 := Mm.le_upd hle7 HN.out.1 (.cells #[.int .i64 lv, .int .i64 k, .int .i64 i0, .int .i64 j0] 102)
        have hb48 : (M7.upd b6 (.cells #[.int .i64 lv, .int .i64 k, .int .i64 i0, .int .i64 j0] 102)) b4 = some (.cells #[.int .i64 0, .int .i64 0, .int .i64 0, .int .i64 0] 102) := by rw [Mm.upd_ne NE.out]; exact hb47
        have hb68 : (M7.upd b6 (.cells #[.int .i64 lv, .int .i64 k, .int .i64 i0, .int .i64 j0] 102)) b6 = some (.cells #[.int .i64 lv, .int .i64 k, .int .i64 i0, .int .i64 j0] 102) := Mm.upd_same _ _ _
        generalize M7.upd b6 (.cells #[.int .i64 lv, .int .i64 k, .int .i64 i0, .int .i64 j0] 102) = M8 at h hle8 hb48 hb68
        clear c1 c2 hb47 hb67 hle7
        have e1 : (#[.int .i64 lv, .int .i64 k, .int .i64 i0, .int .i64 j0] : Array Value)[1]? = some (.int .i64 k) := rfl
        have e3 : (#[.int .i64 lv, .int .i64 k, .int .i64 i0, .int .i64 j0] : Array Value)[2]? = some (.int .i64 i0) := rfl
        have hs8 : 2 < (#[.int .i64 lv, .int .i64 k, .int .i64 i0, .int .i64 j0] : Array Value).size := by simp
        have BH := Lib.hid (fun (w : World) (h : Has σ M8 w) => base_has h k b0 BA.out)
        refine wp_region_head (Has σ M8) 7 (by kernel_rfl) (by kernel_rfl) (fun _ _ _ _ _ h => h) h.drew ?_
        clear h
        simp only [List.take_succ_cons, List.take_zero, List.drop_succ_cons, List.drop_zero]
        repeat (first
          | go_big_quiet_skip
          | (go_big_quiet_want; first
            | (refine quiet_load_has 3 _ rfl rfl hb68 e3 Tryz.underlying3 rfl ?_; simp only [Act.put, List.setIfInBounds_toArray, List.set_cons_zero, List.set_cons_succ]; go_big_quiet_on)
            | (refine quiet_load_has 3 _ rfl rfl hb68 e1 Tryz.underlying3 rfl ?_; simp only [Act.put, List.setIfInBounds_toArray, List.set_cons_zero, List.set_cons_succ]; go_big_quiet_on)
            | (go_big_quiet_op; first | go_big_quiet_on | go_big_quiet_call (first | with_reducible exact fun _ => rfl | with_reducible exact BH.out _))))
        refine wpQuiet_nil ?_
        try clear w
        intro w h
        go_upto_region 11 with (first
          | (with_reducible show wpList _ _ _ ({ dst := _, op := Op.store 3 _ _, type := _, pos := _, after := _, guard := _ } :: _) _ _; refine wpList_store1_has h rfl 3 _ _ rfl rfl rfl hb68 hs8 rfl (by kernel_rfl) ?_; clear h; intro w h))
        have h : Has σ (M8.upd b6 (.cells #[.int .i64 lv, .int .i64 k, .int .i64 (i0 + b0), .int .i64 j0] 102)) w := h
        have hb49 : (M8.upd b6 (.cells #[.int .i64 lv, .int .i64 k, .int .i64 (i0 + b0), .int .i64 j0] 102)) b4 = some (.cells #[.int .i64 0, .int .i64 0, .int .i64 0, .int .i64 0] 102) := by rw [Mm.upd_ne NE.out]; exact hb48
        have hb69 : (M8.upd b6 (.cells #[.int .i64 lv, .int .i64 k, .int .i64 (i0 + b0), .int .i64 j0] 102)) b6 = some (.cells #[.int .i64 lv, .int .i64 k, .int .i64 (i0 + b0), .int .i64 j0] 102) := Mm.upd_same _ _ _
        have hle9 := Mm.le_upd hle8 HN.out.1 (.cells #[.int .i64 lv, .int .i64 k, .int .i64 (i0 + b0), .int .i64 j0] 102)
        generalize M8.upd b6 (.cells #[.int .i64 lv, .int .i64 k, .int .i64 (i0 + b0), .int .i64 j0] 102) = M9 at h hle9 hb49 hb69
        have hx : (#[.int .i64 lv, .int .i64 k, .int .i64 (i0 + b0), .int .i64 j0] : Array Value).extract 0 (0 + 4) = #[.int .i64 lv, .int .i64 k, .int .i64 (i0 + b0), .int .i64 j0] := rfl
        clear e1 e3 hb48 hb68 BH
        go_wp2_with (first
          | ((with_reducible show wpList _ _ _ ({ dst := _, op := Op.load 102 _, type := _, pos := _, after := _, guard := _ } :: _) _ _); refine wpList_agg_has h rfl 102 _ rfl rfl hb69 hx rfl Tryz.underlying102 rfl (by kernel_rfl) ?_; try simp only [Act.put, List.setIfInBounds_toArray, List.set_cons_zero, List.set_cons_succ])
          | (with_reducible show wpList _ _ _ ({ dst := _, op := Op.store 102 _ _, type := _, pos := _, after := _, guard := _ } :: _) _ _; refine wpList_storeAll_has (cells := #[.int .i64 lv, .int .i64 k, .int .i64 (i0 + b0), .int .i64 j0]) h rfl 102 _ _ rfl rfl rfl hb49 rfl rfl rfl (by kernel_rfl) rfl ?_; clear h; intro w h))
        exact bodyPost_ret (v := .tuple #[.agg #[.int .i64 lv, .int .i64 k, .int .i64 (i0 + b0), .int .i64 j0], .bool true]) (by
          have c0 := h.cell (Mm.upd_same _ _ _) 0
          have c1 := h.cell (Mm.upd_same _ _ _) 1
          have c2 := h.cell (Mm.upd_same _ _ _) 2
          have c3 := h.cell (Mm.upd_same _ _ _) 3
          simp at c0 c1 c2 c3
          simp [results, Tryz.results80, go_sem, c0, c1, c2, c3]) rfl ⟨k, hk, HF0.out ▸ HK.out, HF1.out ▸ HL.out, by rw [HI.out, HJ.out], h.le (Mm.le_upd hle9 HN.out.2 _)⟩
      · obtain ⟨q1, q2⟩ := hn9 hk9
        have Q1 := Lib.hid q1
        have Q2 := Lib.hid q2
        have hk9' : ((k : Int) == 9) = false := by simp; omega
        clear q1 q2 h9 hn9 hk9 hlt
        go_upto_region 10 with (fail)
        have hle8 := hle7
        have hb48 := hb47
        have hb68 : M7 b6 = some (.cells #[.int .i64 lv, .int .i64 k, .int .i64 i0, .int .i64 j0] 102) := by rw [hb67, Q1.out, Q2.out]
        obtain ⟨M8, rfl⟩ : ∃ M8 : Mm, M8 = M7 := ⟨_, rfl⟩
        clear c1 c2 hb47 hb67 hle7
        have e1 : (#[.int .i64 lv, .int .i64 k, .int .i64 i0, .int .i64 j0] : Array Value)[1]? = some (.int .i64 k) := rfl
        have e3 : (#[.int .i64 lv, .int .i64 k, .int .i64 i0, .int .i64 j0] : Array Value)[2]? = some (.int .i64 i0) := rfl
        have hs8 : 2 < (#[.int .i64 lv, .int .i64 k, .int .i64 i0, .int .i64 j0] : Array Value).size := by simp
        have BH := Lib.hid (fun (w : World) (h : Has σ M8 w) => base_has h k b0 BA.out)
        refine wp_region_head (Has σ M8) 7 (by kernel_rfl) (by kernel_rfl) (fun _ _ _ _ _ h => h) h.drew ?_
        clear h
        simp only [List.take_succ_cons, List.take_zero, List.drop_succ_cons, List.drop_zero]
        repeat (first
          | go_big_quiet_skip
          | (go_big_quiet_want; first
            | (refine quiet_load_has 3 _ rfl rfl hb68 e3 Tryz.underlying3 rfl ?_; simp only [Act.put, List.setIfInBounds_toArray, List.set_cons_zero, List.set_cons_succ]; go_big_quiet_on)
            | (refine quiet_load_has 3 _ rfl rfl hb68 e1 Tryz.underlying3 rfl ?_; simp only [Act.put, List.setIfInBounds_toArray, List.set_cons_zero, List.set_cons_succ]; go_big_quiet_on)
            | (go_big_quiet_op; first | go_big_quiet_on | go_big_quiet_call (first | with_reducible exact fun _ => rfl | with_reducible exact BH.out _))))
        refine wpQuiet_nil ?_
        try clear w
        intro w h
        go_upto_region 11 with (first
          | (with_reducible show wpList _ _ _ ({ dst := _, op := Op.store 3 _ _, type := _, pos := _, after := _, guard := _ } :: _) _ _; refine wpList_store1_has h rfl 3 _ _ rfl rfl rfl hb68 hs8 rfl (by kernel_rfl) ?_; clear h; intro w h))
        have h : Has σ (M8.upd b6 (.cells #[.int .i64 lv, .int .i64 k, .int .i64 (i0 + b0), .int .i64 j0] 102)) w := h
        have hb49 : (M8.upd b6 (.cells #[.int .i64 lv, .int .i64 k, .int .i64 (i0 + b0), .int .i64 j0] 102)) b4 = some (.cells #[.int .i64 0, .int .i64 0, .int .i64 0, .int .i64 0] 102) := by rw [Mm.upd_ne NE.out]; exact hb48
        have hb69 : (M8.upd b6 (.cells #[.int .i64 lv, .int .i64 k, .int .i64 (i0 + b0), .int .i64 j0] 102)) b6 = some (.cells #[.int .i64 lv, .int .i64 k, .int .i64 (i0 + b0), .int .i64 j0] 102) := Mm.upd_same _ _ _
        have hle9 := Mm.le_upd hle8 HN.out.1 (.cells #[.int .i64 lv, .int .i64 k, .int .i64 (i0 + b0), .int .i64 j0] 102)
        generalize M8.upd b6 (.cells #[.int .i64 lv, .int .i64 k, .int .i64 (i0 + b0), .int .i64 j0] 102) = M9 at h hle9 hb49 hb69
        have hx : (#[.int .i64 lv, .int .i64 k, .int .i64 (i0 + b0), .int .i64 j0] : Array Value).extract 0 (0 + 4) = #[.int .i64 lv, .int .i64 k, .int .i64 (i0 + b0), .int .i64 j0] := rfl
        clear e1 e3 hb48 hb68 BH
        go_wp2_with (first
          | ((with_reducible show wpList _ _ _ ({ dst := _, op := Op.load 102 _, type := _, pos := _, after := _, guard := _ } :: _) _ _); refine wpList_agg_has h rfl 102 _ rfl rfl hb69 hx rfl Tryz.underlying102 rfl (by kernel_rfl) ?_; try simp only [Act.put, List.setIfInBounds_toArray, List.set_cons_zero, List.set_cons_succ])
          | (with_reducible show wpList _ _ _ ({ dst := _, op := Op.store 102 _ _, type := _, pos := _, after := _, guard := _ } :: _) _ _; refine wpList_storeAll_has (cells := #[.int .i64 lv, .int .i64 k, .int .i64 (i0 + b0), .int .i64 j0]) h rfl 102 _ _ rfl rfl rfl hb49 rfl rfl rfl (by kernel_rfl) rfl ?_; clear h; intro w h))
        exact bodyPost_ret (v := .tuple #[.agg #[.int .i64 lv, .int .i64 k, .int .i64 (i0 + b0), .int .i64 j0], .bool true]) (by
          have c0 := h.cell (Mm.upd_same _ _ _) 0
          have c1 := h.cell (Mm.upd_same _ _ _) 1
          have c2 := h.cell (Mm.upd_same _ _ _) 2
          have c3 := h.cell (Mm.upd_same _ _ _) 3
          simp at c0 c1 c2 c3
          simp [results, Tryz.results80, go_sem, c0, c1, c2, c3]) rfl ⟨k, hk, HF0.out ▸ HK.out, HF1.out ▸ HL.out, by rw [HI.out, HJ.out], h.le (Mm.le_upd hle9 HN.out.2 _)⟩
end Go.Proofs.YtmfpablmmjaccaaGreatDoor
