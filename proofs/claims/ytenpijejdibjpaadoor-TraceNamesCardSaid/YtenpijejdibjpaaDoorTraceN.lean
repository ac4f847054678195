/- Walks of layer 43: a word's name. -/
import Derived.Test.YtenpijejdibjpaaDoorPlanC
import Derived.Test.YtenpijejdibjpaaDoorItoa
namespace Go.Proofs.YtenpijejdibjpaaDoor
open Go.RowKit
set_option linter.unusedVariables false
set_option linter.unusedSimpArgs false
set_option linter.unnecessarySimpa false

def kindB (k : Nat) : ByteArray := match k with | 0 => ⟨#[102, 114, 101, 101]⟩ | 1 => ⟨#[101, 112, 111, 99, 104]⟩ | 2 => ⟨#[102, 114, 111, 110, 116]⟩ | 3 => ⟨#[98, 97, 99, 107]⟩ | 4 => ⟨#[98, 117, 99, 107, 101, 116]⟩ | 5 => ⟨#[115, 101, 116]⟩ | 6 => ⟨#[97, 99, 116, 105, 118, 101]⟩ | 7 => ⟨#[99, 101, 108, 108]⟩ | _ => ⟨#[108, 105, 110, 107]⟩
def fieldB (j : Nat) : ByteArray := match j with | 0 => ⟨#[104, 101, 97, 100]⟩ | 1 => ⟨#[110, 101, 120, 116]⟩ | 2 => ⟨#[107, 101, 121]⟩ | 3 => ⟨#[97]⟩ | _ => ⟨#[98]⟩
theorem kindB_size (k : Nat) : (kindB k).size ≤ 6 := by unfold kindB; split <;> decide
theorem fieldB_size (k : Nat) : (fieldB k).size ≤ 4 := by unfold fieldB; split <;> decide
def kindsRow : Array Value := ((List.range 9).map fun k => Value.string (kindB k)).toArray
def fieldsRow : Array Value := ((List.range 5).map fun k => Value.string (fieldB k)).toArray

set_option maxHeartbeats 400000 in
theorem kinds_has {σ w : World} {M : Mm} (h : Has σ M w) : Calls Tryd.prog 24 #[] w fun e w' => e = .returned (.agg kindsRow) ∧ Has σ M w' := by
  go_enter Tryd.func24, Tryd.ntmps24
  go_wp2
  exact bodyPost_ret (v := .agg kindsRow) (by simp [results, Tryd.results24, go_sem]; rfl) rfl ⟨rfl, h.quietAlloc _⟩
set_option maxHeartbeats 400000 in
theorem fields_has {σ w : World} {M : Mm} (h : Has σ M w) : Calls Tryd.prog 23 #[] w fun e w' => e = .returned (.agg fieldsRow) ∧ Has σ M w' := by
  go_enter Tryd.func23, Tryd.ntmps23
  go_wp2
  exact bodyPost_ret (v := .agg fieldsRow) (by simp [results, Tryd.results23, go_sem]; rfl) rfl ⟨rfl, h.quietAlloc _⟩

theorem pl_bd {c : Nat → Int} (hc : ConfMay c) {k : Nat} {r : Int} (hk : k ≤ 9) (h1 : firsts c k ≤ r) (h2 : r < firsts c (k + 1)) : 0 ≤ plI c k r ∧ plI c k r < 100 ∧ 0 ≤ plJ c k r ∧ plJ c k r < 5 := by
  obtain ⟨_, _, _, _, ⟨g2, g3⟩, ⟨g4, g5⟩, _⟩ := hc
  have e := firsts_succ c (k := k) (by omega)
  have m : many c k ≤ 60 ∨ (k = 9 ∧ many c k = c 10 * 5) := by
    unfold many
    rcases k with _ | _ | _ | _ | _ | _ | _ | _ | _ | _ | k <;> simp <;> omega
  unfold plI plJ
  by_cases h9 : k = 9
  · subst h9
    simp only [if_true]
    omega
  · by_cases h8 : k = 8
    · subst h8
      simp
      omega
    · simp only [if_neg h9, if_neg h8]
      omega
def nameB (l k i j : Nat) : ByteArray :=
  if k = 9 then ⟨#[108]⟩ ++ numB l ++ ⟨#[46]⟩ ++ fieldB j ++ numB i else if k ≤ 3 then ⟨#[108]⟩ ++ numB l ++ ⟨#[46]⟩ ++ kindB k else ⟨#[108]⟩ ++ numB l ++ ⟨#[46]⟩ ++ kindB k ++ numB i

set_option maxHeartbeats 2000000 in
theorem name_in {σ w : World} {M : Mm} (h : Has σ M w) (c : Nat → Int) (hc : ConfMay c) (a r : Int) (lv : Nat) (ha : 0 ≤ a) (hn : a < c 0 * firsts c 10) (hlv : a / firsts c 10 = lv) (hr : a % firsts c 10 = r) (hl : lv < 100) :
    Calls Tryd.prog 7 #[confV c, .int .i64 a] w fun e w' => ∃ k i j : Nat, k ≤ 9 ∧ firsts c k ≤ r ∧ r < firsts c (k + 1) ∧ plI c k r = i ∧ plJ c k r = j ∧ e = .returned (.string (nameB lv k i j)) ∧ Has σ M w' := by
  have PN := Lib.hid (fun (M : Mm) (w : World) (h : Has σ M w) => planNew_yes h c hc)
  have WI := Lib.hid (fun (M : Mm) (w : World) (h : Has σ M w) (p : Nat) (hp : M p = some (planRow c)) => what_in h c hc hp a lv r ha hn hlv hr)
  have BD := Lib.hid (fun (k : Nat) => pl_bd hc (k := k) (r := r))
  have IT := Lib.hid (fun (M : Mm) (w : World) (h : Has σ M w) (n : Nat) (hn : n < 100) => itoa_has h n hn)
  simp only [confV, ints14_lit] at PN ⊢
  clear ha hn hlv hr
  go_enter Tryd.func7, Tryd.ntmps7
  go_upto_region 1 with (fail)
  obtain ⟨M2, hbx, hle2, hb2, hn2⟩ := h.box (.cells #[.int .i64 (c 0), .int .i64 (c 1), .int .i64 (c 2), .int .i64 (c 3), .int .i64 (c 4), .int .i64 (c 5), .int .i64 (c 6), .int .i64 (c 7), .int .i64 (c 8), .int .i64 (c 9), .int .i64 (c 10), .int .i64 (c 11), .int .i64 (c 12), .int .i64 (c 13)] 24)
  generalize w.alloc _ = wx at hbx ⊢
  generalize w.heap.size = b2 at hb2 hn2 ⊢
  clear h
  try clear w
  have h := hbx
  clear hbx
  obtain ⟨w, rfl⟩ : ∃ x : World, x = wx := ⟨_, rfl⟩
  have hx : (#[.int .i64 (c 0), .int .i64 (c 1), .int .i64 (c 2), .int .i64 (c 3), .int .i64 (c 4), .int .i64 (c 5), .int .i64 (c 6), .int .i64 (c 7), .int .i64 (c 8), .int .i64 (c 9), .int .i64 (c 10), .int .i64 (c 11), .int .i64 (c 12), .int .i64 (c 13)] : Array Value).extract 0 (0 + 14) = #[.int .i64 (c 0), .int .i64 (c 1), .int .i64 (c 2), .int .i64 (c 3), .int .i64 (c 4), .int .i64 (c 5), .int .i64 (c 6), .int .i64 (c 7), .int .i64 (c 8), .int .i64 (c 9), .int .i64 (c 10), .int .i64 (c 11), .int .i64 (c 12), .int .i64 (c 13)] := rfl
  go_upto_region 3 with (first
    | (with_reducible show wpList _ _ _ ({ dst := _, op := Op.load 24 _, type := _, pos := _, after := _, guard := _ } :: _) _ _; refine wpList_agg_has h rfl 24 _ rfl rfl hb2 hx rfl Tryd.underlying24 rfl (by kernel_rfl) ?_; try simp only [Act.put, List.setIfInBounds_toArray, List.set_cons_zero, List.set_cons_succ])
    | (go_at_call 19; refine (PN.out _ _ h).mono ?_; clear h; rintro e w ⟨p, M3, rfl, h, hle3, hp, hnp⟩)
    | (go_at_call 21; refine (WI.out _ _ h _ hp).mono ?_; clear h; rintro e w ⟨k, hk, hk1, hk2, rfl, h⟩; obtain ⟨i0, i1, j0, j1⟩ := BD.out k hk hk1 hk2; obtain ⟨i, hi⟩ : ∃ i : Nat, plI c k r = i := ⟨(plI c k r).toNat, by omega⟩; obtain ⟨j, hj⟩ : ∃ j : Nat, plJ c k r = j := ⟨(plJ c k r).toNat, by omega⟩; rw [hi, hj]))
  obtain ⟨M7, hbx, hle7, hb7, hn7⟩ := h.box (.cells #[.int .i64 lv, .int .i64 k, .int .i64 i, .int .i64 j] 55)
  generalize w.alloc _ = wx at hbx ⊢
  generalize w.heap.size = b7 at hb7 hn7 ⊢
  clear h
  try clear w
  have h := hbx
  clear hbx
  obtain ⟨w, rfl⟩ : ∃ x : World, x = wx := ⟨_, rfl⟩
  have hle := Mm.le_trans hle2 (Mm.le_trans hle3 hle7)
  have F1 := Lib.hid hk1
  have F2 := Lib.hid hk2
  have F3 := Lib.hid hi
  have F4 := Lib.hid hj
  have hi100 : i < 100 := by omega
  have hj5 : j < 5 := by omega
  have c0 : w.cell? ⟨b7, 0, none⟩ = some (.int .i64 lv) := h.cell hb7 0
  have z1 := numB_size lv
  have z2 := numB_size i
  have z3 := kindB_size k
  have z4 := fieldB_size j
  clear hk1 hk2 hi hj i0 i1 j0 j1 hle2 hle3 hle7 hb2 hn2 hp hnp hn7 hx PN WI BD
  go_upto_region 6 with (first
    | (go_at_call 22; refine (IT.out _ _ h lv hl).mono ?_; clear h; rintro e w ⟨rfl, h⟩))
  have d1 : (#[.int .i64 lv, .int .i64 k, .int .i64 i, .int .i64 j] : Array Value)[1]? = some (.int .i64 k) := rfl
  have d2 : (#[.int .i64 lv, .int .i64 k, .int .i64 i, .int .i64 j] : Array Value)[2]? = some (.int .i64 i) := rfl
  have d3 : (#[.int .i64 lv, .int .i64 k, .int .i64 i, .int .i64 j] : Array Value)[3]? = some (.int .i64 j) := rfl
  have c1 : w.cell? ⟨b7, 1, none⟩ = some (.int .i64 k) := h.cell hb7 1
  have I1 := Lib.hid (fun (w : World) (h : Has σ M7 w) => IT.out _ _ h i hi100)
  have K1 := Lib.hid (fun (w : World) (h : Has σ M7 w) => kinds_has h)
  have F5 := Lib.hid (fun (w : World) (h : Has σ M7 w) => fields_has h)
  by_cases h9 : k = 9
  · subst h9
    have hix := fun (w : World) => run_index_one (P := Tryd.prog) w (t := 59) (e := 9) (n := 5) Tryd.underlying59 Tryd.underlying9 rfl (by kernel_rfl) fieldsRow .i64 (j : Int) (by omega) (by omega) (v := .string (fieldB j)) (by
      rcases j with _ | _ | _ | _ | _ | j
      all_goals first | rfl | omega)
    go_upto_region 7 with (fail)
    refine wp_region_class (Has σ M7) (by kernel_rfl) (by kernel_rfl) h.drew ?_
    clear h
    repeat (first
      | go_big_quiet_skip
      | (go_big_quiet_want; first
        | (refine quiet_load_has 3 _ rfl rfl hb7 d3 Tryd.underlying3 rfl ?_; simp only [Act.put, List.setIfInBounds_toArray, List.set_cons_zero, List.set_cons_succ]; go_big_quiet_on)
        | (refine quiet_load_has 3 _ rfl rfl hb7 d2 Tryd.underlying3 rfl ?_; simp only [Act.put, List.setIfInBounds_toArray, List.set_cons_zero, List.set_cons_succ]; go_big_quiet_on)
        | (go_big_quiet_op; first | go_big_quiet_on | go_big_quiet_call (first | with_reducible exact fun _ => rfl | with_reducible exact I1.out _ | with_reducible exact F5.out _))))
    refine wpQuiet_nil ?_
    try clear w
    intro w h
    go_wp2
    go_ret
    exact ⟨9, i, j, by omega, F1.out, F2.out, F3.out, F4.out, rfl, h.le hle⟩
  · have h9' : ((k : Int) == 9) = false := by simp; omega
    have hix := fun (w : World) => run_index_one (P := Tryd.prog) w (t := 61) (e := 9) (n := 9) Tryd.underlying61 Tryd.underlying9 rfl (by kernel_rfl) kindsRow .i64 (k : Int) (by omega) (by omega) (v := .string (kindB k)) (by
      rcases k with _ | _ | _ | _ | _ | _ | _ | _ | _ | k
      all_goals first | rfl | omega)
    by_cases h3 : k ≤ 3
    · have h3' : decide ((k : Int) ≤ 3) = true := by simp; omega
      go_upto_region 9 with (fail)
      refine wp_region_class (Has σ M7) (by kernel_rfl) (by kernel_rfl) h.drew ?_
      clear h
      repeat (first
        | go_big_quiet_skip
        | (go_big_quiet_want; first
          | (refine quiet_load_has 3 _ rfl rfl hb7 d1 Tryd.underlying3 rfl ?_; simp only [Act.put, List.setIfInBounds_toArray, List.set_cons_zero, List.set_cons_succ]; go_big_quiet_on)
          | (go_big_quiet_op; first | go_big_quiet_on | go_big_quiet_call (first | with_reducible exact fun _ => rfl | with_reducible exact K1.out _))))
      refine wpQuiet_nil ?_
      try clear w
      intro w h
      go_wp2
      go_ret
      exact ⟨k, i, j, hk, F1.out, F2.out, F3.out, F4.out, by rw [nameB, if_neg h9, if_pos h3]; rfl, h.le hle⟩
    · have h3' : decide ((k : Int) ≤ 3) = false := by simp; omega
      go_upto_region 10 with (fail)
      refine wp_region_class (Has σ M7) (by kernel_rfl) (by kernel_rfl) h.drew ?_
      clear h
      repeat (first
        | go_big_quiet_skip
        | (go_big_quiet_want; first
          | (refine quiet_load_has 3 _ rfl rfl hb7 d1 Tryd.underlying3 rfl ?_; simp only [Act.put, List.setIfInBounds_toArray, List.set_cons_zero, List.set_cons_succ]; go_big_quiet_on)
          | (refine quiet_load_has 3 _ rfl rfl hb7 d2 Tryd.underlying3 rfl ?_; simp only [Act.put, List.setIfInBounds_toArray, List.set_cons_zero, List.set_cons_succ]; go_big_quiet_on)
          | (go_big_quiet_op; first | go_big_quiet_on | go_big_quiet_call (first | with_reducible exact fun _ => rfl | with_reducible exact K1.out _ | with_reducible exact I1.out _))))
      refine wpQuiet_nil ?_
      try clear w
      intro w h
      go_wp2
      go_ret
      exact ⟨k, i, j, hk, F1.out, F2.out, F3.out, F4.out, by rw [nameB, if_neg h9, if_neg h3]; rfl, h.le hle⟩

/-- The chapter's example. -/
def cLive (i : Nat) : Int := if i = 0 ∨ i = 1 ∨ i = 11 ∨ i = 12 then 1 else if i = 10 then 2 else 0
theorem cLive_may : ConfMay cLive := by decide +kernel
set_option maxHeartbeats 1000000 in
theorem lives_has {σ w : World} {M : Mm} (h : Has σ M w) : Calls Tryd.prog 8 #[] w fun e w' => e = .returned (.bool true) ∧ Has σ M w' := by
  have NM : Hid (∀ (M : Mm) (w : World), Has σ M w → Calls Tryd.prog 7 #[confV cLive, .int .i64 21] w fun e w' => e = .returned (.string (nameB 0 9 1 0)) ∧ Has σ M w') := fun M w h =>
    (name_in h cLive cLive_may 21 21 0 (by omega) (by decide +kernel) (by decide +kernel) (by decide +kernel) (by omega)).mono fun e w' ⟨k, i, j, hk, h1, h2, h3, h4, he, hw⟩ => by
      have hk9 : k = 9 := by
        revert h2
        rcases k with _ | _ | _ | _ | _ | _ | _ | _ | _ | _ | k
        · decide +kernel
        · decide +kernel
        · decide +kernel
        · decide +kernel
        · decide +kernel
        · decide +kernel
        · decide +kernel
        · decide +kernel
        · decide +kernel
        · exact fun _ => rfl
        · omega
      subst hk9
      have e3 : plI cLive 9 21 = 1 := by decide +kernel
      have e4 : plJ cLive 9 21 = 0 := by decide +kernel
      obtain rfl : i = 1 := by omega
      obtain rfl : j = 0 := by omega
      exact ⟨he, hw⟩
  simp only [confV, ints14_lit] at NM
  have hs : ((nameB 0 9 1 0).toList == [108, 48, 46, 104, 101, 97, 100, 49]) = true := by decide +kernel
  generalize nameB 0 9 1 0 = nm at NM hs
  go_enter Tryd.func8, Tryd.ntmps8
  go_wp2_with (first
    | (go_at_call 7; refine (NM.out _ _ h).mono ?_; clear h; rintro e w ⟨rfl, h⟩))
  go_ret
  exact ⟨rfl, h⟩
end Go.Proofs.YtenpijejdibjpaaDoor
