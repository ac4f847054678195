/- Walks of the document's layer 16: May. -/
import Derived.Test.YtjnhklhgcbknkaaGreatDoorPfE
namespace Go.Proofs.YtjnhklhgcbknkaaGreatDoor
open Go.RowKit
set_option linter.unusedVariables false
set_option linter.unusedSimpArgs false
set_option linter.unnecessarySimpa false
/-- What 16.1 asks of an oper, of the first j places. -/
def MayJ (l : List OpS) (order : List Int) (i j : Nat) (o : OpS) : Prop := ∀ (u : Nat) (x : Int) (y : OpS), u < j → order[u]? = some x → 0 ≤ x → l[x.toNat]? = some y → o.ahead y = true → posO (i : Nat) order ≠ 0 ∧ posO (i : Nat) order ≤ u + 1
theorem MayJ.zero (l : List OpS) (order : List Int) (i : Nat) (o : OpS) : MayJ l order i 0 o := fun u x y hu => absurd hu (by omega)
theorem MayJ.next {l : List OpS} {order : List Int} {i j : Nat} {o : OpS} {k : Nat} {y : OpS} (h : MayJ l order i j o) (hx : order[j]? = some (k : Int)) (hy : l[k]? = some y) (ho : o.ahead y = true → posO (i : Nat) order ≠ 0 ∧ posO (i : Nat) order ≤ j + 1) : MayJ l order i (j + 1) o := fun u x z hu hux h0 hz ha => by
  by_cases e : u = j
  · subst e
    rw [hx] at hux
    cases hux
    rw [show ((k : Int)).toNat = k by omega, hy] at hz
    cases hz
    exact ho ha
  · exact h u x z (by omega) hux h0 hz ha
theorem mayJ_no {l : List OpS} {order : List Int} {i j : Nat} {o : OpS} {k : Nat} {y : OpS} (ho : l[i]? = some o) (hx : order[j]? = some (k : Int)) (hy : l[k]? = some y) (ha : o.ahead y = true) (hn : ¬ (posO (i : Nat) order ≠ 0 ∧ posO (i : Nat) order ≤ j + 1)) : ¬ MayO l order := fun h =>
  hn ((h.2 i o ho).2 j k y hx (by omega) (by simpa using hy) ha)
theorem mayI_ofJ {l : List OpS} {order : List Int} {i : Nat} {o : OpS} (ho : l[i]? = some o) (h1 : ¬ (posO (i : Nat) order = 0 ∧ 0 ≤ o.tt)) (h : MayJ l order i order.length o) : MayI l order i := fun o' ho' => by
  rw [ho] at ho'
  cases ho'
  exact ⟨h1, fun j x y hx h0 hy ha => h j x y (List.getElem?_eq_some_iff.1 hx).1 hx h0 hy ha⟩
/-- What the document's May keeps in its first loop. -/
def RmA (σ : World) (M : Mm) (n m : Nat) (order : List Int) (i : Value) (wr : World) : Prop := ∃ k : Nat, k ≤ m ∧ i = .int .i64 k ∧ Has σ M wr ∧ OkO n order k
def RmB (σ : World) (M : Mm) (n : Nat) (l : List OpS) (order : List Int) (i : Value) (wr : World) : Prop := ∃ k : Nat, k ≤ n ∧ i = .int .i64 k ∧ Has σ M wr ∧ ∀ j, j < k → MayI l order j
def RmC (σ : World) (M : Mm) (m k : Nat) (l : List OpS) (order : List Int) (o : OpS) (i : Value) (wr : World) : Prop := ∃ j : Nat, j ≤ m ∧ i = .int .i64 j ∧ Has σ M wr ∧ MayJ l order k j o
set_option maxHeartbeats 4000000 in
set_option maxRecDepth 20000 in
theorem refMay_eq {σ w : World} {M : Mm} (h : Has σ M w) (va vo : Value) (l : List OpS) (order : List Int) (n m : Nat) (hl : l.length = n) (hm : order.length = m) (ha : Rd M 16 va n (l.flatMap encO)) (ho : Rd M 1 vo m (ints1 order)) (hn1 : n ≤ 1000000) (hm1 : m ≤ 1000000) :
    Calls Tryz.prog 13 #[va, vo] w fun r w' => MayPost σ M l order r w' := by
  have IN := Lib.hid (fun (w : World) (h : Has σ M w) (k : Int) => refIn_eq h vo order m hm ho hm1 k)
  have AH := Lib.hid (fun (w : World) (h : Has σ M w) (a b : OpS) => refAhead_eq h a b)
  have HA := Lib.hid ha
  have HO := Lib.hid ho
  obtain ⟨A, c, rfl⟩ := ha.form
  obtain ⟨B, d, rfl⟩ := ho.form
  have HL := Lib.hid hl
  have HM := Lib.hid hm
  clear ha ho hl hm
  go_enter Tryz.func13, Tryz.ntmps13
  go_wp2
  go_loopw [5] (fun i wr => RmA σ M n m order i wr) (fun i _ => m - (intOf i).toNat)
  case atStart => exact ⟨0, Nat.zero_le _, rfl, h, fun j x hj => absurd hj (by omega)⟩
  case round =>
    clear h w
    obtain ⟨w, rfl⟩ : ∃ x : World, x = wr := ⟨_, rfl⟩
    obtain ⟨k, hk, rfl, h, hok⟩ := hrel
    have HOK := Lib.hid hok
    clear hok
    by_cases hlt : k < m
    · obtain ⟨x, hx⟩ : ∃ x, order[k]? = some x := ⟨_, List.getElem?_eq_getElem (by have := HM.out; omega)⟩
      obtain ⟨_, B', d', e, hd, hB⟩ := HO.out
      cases e
      obtain ⟨b1, o1, cs1, t1, f1, rfl, hO1, hx1⟩ := hB (by omega)
      have e1 := hx1 k (.int .i64 x) (by simp [ints1, hx])
      have HX := Lib.hid hx
      clear hB hx1 hx
      by_cases h0 : x < 0
      · have d0 : decide (x < 0) = true := decide_eq_true h0
        have NO : Hid (¬ MayO l order) := fun e => by have := (e.1 k x (by have := HM.out; omega) HX.out).1; omega
        clear h0
        go_wp2_with (first
          | (with_reducible show wpList _ _ _ ({ dst := _, op := Op.load 3 _, type := _, pos := _, after := _, guard := _ } :: _) _ _; refine wpList_load1_has h rfl 3 _ rfl rfl hO1 e1 Tryz.underlying3 rfl ?_))
        go_ret
        exact ⟨false, rfl, ⟨fun e => (by cases e), fun e => absurd e NO.out⟩, h⟩
      have d0 : decide (x < 0) = false := decide_eq_false h0
      by_cases h1 : (n : Int) ≤ x
      · have d1 : decide ((n : Int) ≤ x) = true := decide_eq_true h1
        have NO : Hid (¬ MayO l order) := fun e => by have := (e.1 k x (by have := HM.out; omega) HX.out).2.1; have := HL.out; omega
        clear h0 h1
        go_wp2_with (first
          | (with_reducible show wpList _ _ _ ({ dst := _, op := Op.load 3 _, type := _, pos := _, after := _, guard := _ } :: _) _ _; refine wpList_load1_has h rfl 3 _ rfl rfl hO1 e1 Tryz.underlying3 rfl ?_))
        go_ret
        exact ⟨false, rfl, ⟨fun e => (by cases e), fun e => absurd e NO.out⟩, h⟩
      have d1 : decide ((n : Int) ≤ x) = false := decide_eq_false h1
      by_cases h2 : posO x order = k + 1
      · have ROK : Hid (OkO n order (k + 1)) := (OkO.next HX.out).2 ⟨HOK.out, by omega, by omega, h2⟩
        have INx : Hid (∀ w, Has σ M w → Calls Tryz.prog 18 #[.slice (some ⟨b1, o1, none⟩) m d, .int .i64 x] w fun r w' => r = .returned (.int .i64 (k : Int)) ∧ Has σ M w') := fun w h => (IN.out w h x).mono fun r w' ⟨e, h'⟩ => ⟨by rw [e, h2]; congr 2; omega, h'⟩
        clear h0 h1 h2
        go_wp2_with (first
          | (with_reducible show wpList _ _ _ ({ dst := _, op := Op.load 3 _, type := _, pos := _, after := _, guard := _ } :: _) _ _; refine wpList_load1_has h rfl 3 _ rfl rfl hO1 e1 Tryz.underlying3 rfl ?_)
          | (go_at_call 18; refine (INx.out _ h).mono ?_; clear h; rintro _ w ⟨rfl, h⟩))
        go_roundw
        case rel => exact ⟨k + 1, hlt, by go_num, h, ROK.out⟩
        case measure => simp [intOf]; omega
      · have d2 : (((posO x order : Nat) : Int) - 1 == (k : Int)) = false := beq_eq_false_iff_ne.2 (by omega)
        have d3 : (((posO x order : Nat) : Int) - 1 != (k : Int)) = true := by rw [bne, d2]; rfl
        have NO : Hid (¬ MayO l order) := fun e => h2 (e.1 k x (by have := HM.out; omega) HX.out).2.2
        have INx := Lib.hid (fun (w : World) (h : Has σ M w) => IN.out w h x)
        clear h0 h1 h2
        generalize ((posO x order : Nat) : Int) - 1 = pp at *
        go_wp2_with (first
          | (with_reducible show wpList _ _ _ ({ dst := _, op := Op.load 3 _, type := _, pos := _, after := _, guard := _ } :: _) _ _; refine wpList_load1_has h rfl 3 _ rfl rfl hO1 e1 Tryz.underlying3 rfl ?_)
          | (go_at_call 18; refine (INx.out _ h).mono ?_; clear h; rintro _ w ⟨rfl, h⟩))
        go_ret
        exact ⟨false, rfl, ⟨fun e => (by cases e), fun e => absurd e NO.out⟩, h⟩
    · obtain rfl : k = m := by omega
      obtain ⟨m, rfl⟩ : ∃ q : Nat, q = k := ⟨_, rfl⟩
      go_wp2
      go_loopw [6] (fun i wr => RmB σ M n l order i wr) (fun i _ => n - (intOf i).toNat)
      case atStart => exact ⟨0, Nat.zero_le _, rfl, h, fun j hj => absurd hj (by omega)⟩
      case round =>
        clear h w
        obtain ⟨w, rfl⟩ : ∃ x : World, x = wr := ⟨_, rfl⟩
        obtain ⟨k, hk, rfl, h, hall⟩ := hrel
        have HALL := Lib.hid hall
        clear hall
        by_cases hlt : k < n
        · obtain ⟨o, ho⟩ : ∃ o, l[k]? = some o := ⟨_, List.getElem?_eq_getElem (by have := HL.out; omega)⟩
          have HOk := Lib.hid ho
          obtain ⟨bl, ol, cl, csl, tl, fl, e1, hMl, hxl⟩ := HA.out.elem encO_len hlt ho
          cases e1
          have g16 : csl.extract (ol + k * 16) (ol + k * 16 + 16) = o.row := extract_of (n := 16) hxl rfl
          have g15 : csl[ol + k * 16 + 15]? = some (.int .i64 o.tt) := hxl 15 _ rfl
          obtain ⟨pk, hpk⟩ : ∃ pk, posO (k : Nat) order = pk := ⟨_, rfl⟩
          have INk : Hid (∀ w, Has σ M w → Calls Tryz.prog 18 #[.slice B m d, .int .i64 (k : Nat)] w fun r w' => r = .returned (.int .i64 ((pk : Int) - 1)) ∧ Has σ M w') := fun w h => hpk ▸ IN.out w h (k : Nat)
          have HPK := Lib.hid hpk
          clear ho hxl hpk
          by_cases hp0 : pk = 0
          · have d1 : decide ((pk : Int) - 1 < 0) = true := decide_eq_true (by omega)
            have d5 : decide ((pk : Int) < 1) = true := decide_eq_true (by omega)
            by_cases htt : 0 ≤ o.tt
            · have d2 : decide (0 ≤ o.tt) = true := decide_eq_true htt
              have NO : Hid (¬ MayO l order) := fun e => (mayO_one e k o HOk.out).1 ⟨HPK.out.trans hp0, htt⟩
              clear hp0 htt
              go_wp2_with (first
                | (with_reducible show wpList _ _ _ ({ dst := _, op := Op.load 3 _, type := _, pos := _, after := _, guard := _ } :: _) _ _; refine wpList_load1_has h rfl 3 _ rfl rfl hMl g15 Tryz.underlying3 rfl ?_)
                | (go_at_call 18; refine (INk.out _ h).mono ?_; clear h; rintro _ w ⟨rfl, h⟩))
              go_ret
              exact ⟨false, rfl, ⟨fun e => (by cases e), fun e => absurd e NO.out⟩, h⟩
            · have d2 : decide (0 ≤ o.tt) = false := decide_eq_false htt
              have H1 : Hid (¬ (posO (k : Nat) order = 0 ∧ 0 ≤ o.tt)) := fun e => htt e.2
              clear htt
              go_upto_region 13 with (first
                | (with_reducible show wpList _ _ _ ({ dst := _, op := Op.load 3 _, type := _, pos := _, after := _, guard := _ } :: _) _ _; refine wpList_load1_has h rfl 3 _ rfl rfl hMl g15 Tryz.underlying3 rfl ?_)
                | (go_at_call 18; refine (INk.out _ h).mono ?_; clear h; rintro _ w ⟨rfl, h⟩))
              clear d2 g15
              go_loopw [8] (fun i wr => RmC σ M m k l order o i wr) (fun i _ => m - (intOf i).toNat)
              case atStart => exact ⟨0, Nat.zero_le _, rfl, h, MayJ.zero _ _ _ _⟩
              case round =>
                clear h w
                obtain ⟨w, rfl⟩ : ∃ x : World, x = wr := ⟨_, rfl⟩
                obtain ⟨j, hj, rfl, h, hJ⟩ := hrel
                have HJ := Lib.hid hJ
                clear hJ
                by_cases hjm : j < m
                · obtain ⟨x, hx⟩ : ∃ x, order[j]? = some x := ⟨_, List.getElem?_eq_getElem (by have := HM.out; omega)⟩
                  obtain ⟨x0, xn, xp⟩ := HOK.out j x hjm hx
                  obtain ⟨q, rfl⟩ : ∃ q : Nat, x = (q : Int) := ⟨x.toNat, by omega⟩
                  have hqn : q < n := by omega
                  obtain ⟨y, hy⟩ : ∃ y, l[q]? = some y := ⟨_, List.getElem?_eq_getElem (by have := HL.out; omega)⟩
                  obtain ⟨_, B', d', e, hd, hB⟩ := HO.out
                  cases e
                  obtain ⟨b1, o1, cs1, t1, f1, rfl, hO1, hx1⟩ := hB (by omega)
                  have e1 := hx1 j (.int .i64 (q : Int)) (by simp [ints1, hx])
                  obtain ⟨bl2, ol2, cl2, csl2, tl2, fl2, e2, hMl2, hxl2⟩ := HA.out.elem encO_len hqn hy
                  cases e2
                  have g16b : csl2.extract (ol + q * 16) (ol + q * 16 + 16) = y.row := extract_of (n := 16) hxl2 rfl
                  have HX := Lib.hid hx
                  have HY := Lib.hid hy
                  have zo : o.row.size = 16 := rfl
                  have zy : y.row.size = 16 := rfl
                  have hqn' : (q : Int) < (n : Int) := by omega
                  have hjm' : (j : Int) < (m : Int) := by omega
                  have hlt' : (k : Int) < (n : Int) := by omega
                  clear hB hx1 hxl2 x0 xn xp hx hy
                  cases hA : o.ahead y
                  · have AHx : Hid (∀ w, Has σ M w → Calls Tryz.prog 19 #[.agg o.row, .agg y.row] w fun r w' => r = .returned (.bool false) ∧ Has σ M w') := fun w h => hA ▸ AH.out w h o y
                    have NJ : Hid (MayJ l order k (j + 1) o) := HJ.out.next HX.out HY.out fun e => by rw [hA] at e; cases e
                    clear hA hp0
                    go_upto_region 15 with (fail)
                    refine wp_region_class (Has σ M) (by kernel_rfl) (by kernel_rfl) h.drew ?_
                    clear h
                    repeat (first
                      | go_big_quiet_skip
                      | (go_big_quiet_want; first
                        | (refine quiet_agg_has 32 _ rfl rfl hMl g16 zo Tryz.underlying32 rfl (by kernel_rfl) ?_; simp only [Act.put, List.setIfInBounds_toArray, List.set_cons_zero, List.set_cons_succ]; go_big_quiet_on)
                        | (refine quiet_load_has 3 _ rfl rfl hO1 e1 Tryz.underlying3 rfl ?_; simp only [Act.put, List.setIfInBounds_toArray, List.set_cons_zero, List.set_cons_succ]; go_big_quiet_on)
                        | (refine quiet_agg_has 32 _ rfl rfl hMl2 g16b zy Tryz.underlying32 rfl (by kernel_rfl) ?_; simp only [Act.put, List.setIfInBounds_toArray, List.set_cons_zero, List.set_cons_succ]; go_big_quiet_on)
                        | (go_big_quiet_op; first | go_big_quiet_on | go_big_quiet_call (first | with_reducible exact fun _ => rfl | with_reducible exact AHx.out _))))
                    refine wpQuiet_nil ?_
                    try clear w
                    intro w h
                    go_wp2
                    all_goals first
                      | exact ⟨⟨j + 1, hjm, by go_num, h, NJ.out⟩, by simp [intOf]; omega⟩
                      | (go_roundw
                         case rel => exact ⟨j + 1, hjm, by go_num, h, NJ.out⟩
                         case measure => simp [intOf]; omega)
                  · have AHx : Hid (∀ w, Has σ M w → Calls Tryz.prog 19 #[.agg o.row, .agg y.row] w fun r w' => r = .returned (.bool true) ∧ Has σ M w') := fun w h => hA ▸ AH.out w h o y
                    by_cases hok2 : pk ≠ 0 ∧ pk ≤ j + 1
                    · try exact absurd hp0 hok2.1
                      all_goals
                        have NJ : Hid (MayJ l order k (j + 1) o) := HJ.out.next HX.out HY.out fun _ => by rw [HPK.out]; exact hok2
                        have d3 : decide ((j : Int) < (pk : Int) - 1) = false := decide_eq_false (by omega)
                        have d4 : decide ((pk : Int) - 1 < 0) = false := decide_eq_false (by omega)
                        clear hA hok2 hp0
                        go_upto_region 15 with (fail)
                        refine wp_region_class (Has σ M) (by kernel_rfl) (by kernel_rfl) h.drew ?_
                        clear h
                        repeat (first
                          | go_big_quiet_skip
                          | (go_big_quiet_want; first
                            | (refine quiet_agg_has 32 _ rfl rfl hMl g16 zo Tryz.underlying32 rfl (by kernel_rfl) ?_; simp only [Act.put, List.setIfInBounds_toArray, List.set_cons_zero, List.set_cons_succ]; go_big_quiet_on)
                            | (refine quiet_load_has 3 _ rfl rfl hO1 e1 Tryz.underlying3 rfl ?_; simp only [Act.put, List.setIfInBounds_toArray, List.set_cons_zero, List.set_cons_succ]; go_big_quiet_on)
                            | (refine quiet_agg_has 32 _ rfl rfl hMl2 g16b zy Tryz.underlying32 rfl (by kernel_rfl) ?_; simp only [Act.put, List.setIfInBounds_toArray, List.set_cons_zero, List.set_cons_succ]; go_big_quiet_on)
                            | (go_big_quiet_op; first | go_big_quiet_on | go_big_quiet_call (first | with_reducible exact fun _ => rfl | with_reducible exact AHx.out _))))
                        refine wpQuiet_nil ?_
                        try clear w
                        intro w h
                        go_wp2
                        all_goals first
                          | exact ⟨⟨j + 1, hjm, by go_num, h, NJ.out⟩, by simp [intOf]; omega⟩
                          | (go_roundw
                             case rel => exact ⟨j + 1, hjm, by go_num, h, NJ.out⟩
                             case measure => simp [intOf]; omega)
                    · have NO : Hid (¬ MayO l order) := mayJ_no HOk.out HX.out HY.out hA (by rw [HPK.out]; exact hok2)
                      by_cases hpz : pk = 0
                      · try exact absurd hpz hp0
                        all_goals
                          have d4 : decide ((pk : Int) - 1 < 0) = true := decide_eq_true (by omega)
                          clear hA hok2 hp0 hpz
                          go_upto_region 15 with (fail)
                          refine wp_region_class (Has σ M) (by kernel_rfl) (by kernel_rfl) h.drew ?_
                          clear h
                          repeat (first
                            | go_big_quiet_skip
                            | (go_big_quiet_want; first
                              | (refine quiet_agg_has 32 _ rfl rfl hMl g16 zo Tryz.underlying32 rfl (by kernel_rfl) ?_; simp only [Act.put, List.setIfInBounds_toArray, List.set_cons_zero, List.set_cons_succ]; go_big_quiet_on)
                              | (refine quiet_load_has 3 _ rfl rfl hO1 e1 Tryz.underlying3 rfl ?_; simp only [Act.put, List.setIfInBounds_toArray, List.set_cons_zero, List.set_cons_succ]; go_big_quiet_on)
                              | (refine quiet_agg_has 32 _ rfl rfl hMl2 g16b zy Tryz.underlying32 rfl (by kernel_rfl) ?_; simp only [Act.put, List.setIfInBounds_toArray, List.set_cons_zero, List.set_cons_succ]; go_big_quiet_on)
                              | (go_big_quiet_op; first | go_big_quiet_on | go_big_quiet_call (first | with_reducible exact fun _ => rfl | with_reducible exact AHx.out _))))
                          refine wpQuiet_nil ?_
                          try clear w
                          intro w h
                          go_wp2
                          go_ret
                          exact ⟨false, rfl, ⟨fun e => (by cases e), fun e => absurd e NO.out⟩, h⟩
                      · try exact absurd hp0 hpz
                        all_goals
                          have d4 : decide ((pk : Int) - 1 < 0) = false := decide_eq_false (by omega)
                          have d3 : decide ((j : Int) < (pk : Int) - 1) = true := decide_eq_true (by omega)
                          clear hA hok2 hp0 hpz
                          go_upto_region 15 with (fail)
                          refine wp_region_class (Has σ M) (by kernel_rfl) (by kernel_rfl) h.drew ?_
                          clear h
                          repeat (first
                            | go_big_quiet_skip
                            | (go_big_quiet_want; first
                              | (refine quiet_agg_has 32 _ rfl rfl hMl g16 zo Tryz.underlying32 rfl (by kernel_rfl) ?_; simp only [Act.put, List.setIfInBounds_toArray, List.set_cons_zero, List.set_cons_succ]; go_big_quiet_on)
                              | (refine quiet_load_has 3 _ rfl rfl hO1 e1 Tryz.underlying3 rfl ?_; simp only [Act.put, List.setIfInBounds_toArray, List.set_cons_zero, List.set_cons_succ]; go_big_quiet_on)
                              | (refine quiet_agg_has 32 _ rfl rfl hMl2 g16b zy Tryz.underlying32 rfl (by kernel_rfl) ?_; simp only [Act.put, List.setIfInBounds_toArray, List.set_cons_zero, List.set_cons_succ]; go_big_quiet_on)
                              | (go_big_quiet_op; first | go_big_quiet_on | go_big_quiet_call (first | with_reducible exact fun _ => rfl | with_reducible exact AHx.out _))))
                          refine wpQuiet_nil ?_
                          try clear w
                          intro w h
                          go_wp2
                          go_ret
                          exact ⟨false, rfl, ⟨fun e => (by cases e), fun e => absurd e NO.out⟩, h⟩
                · have HC : Hid (∀ i, i < k + 1 → MayI l order i) := fun i hi => by
                    by_cases e : i = k
                    · subst e; exact mayI_ofJ HOk.out H1.out (by have hjj : order.length = j := by have := HM.out; omega
                                                                 rw [hjj]; exact HJ.out)
                    · exact HALL.out i (by omega)
                  clear hp0
                  go_wp2
                  all_goals first
                    | exact ⟨⟨k + 1, hlt, by go_num, h, HC.out⟩, by simp [intOf]; omega⟩
                    | (go_roundw
                       case rel => exact ⟨k + 1, hlt, by go_num, h, HC.out⟩
                       case measure => simp [intOf]; omega)
                    | trace_state
          · have d1 : decide ((pk : Int) - 1 < 0) = false := decide_eq_false (by omega)
            have H1 : Hid (¬ (posO (k : Nat) order = 0 ∧ 0 ≤ o.tt)) := fun e => hp0 (HPK.out.symm.trans e.1)
            go_upto_region 13 with (first
              | (with_reducible show wpList _ _ _ ({ dst := _, op := Op.load 3 _, type := _, pos := _, after := _, guard := _ } :: _) _ _; refine wpList_load1_has h rfl 3 _ rfl rfl hMl g15 Tryz.underlying3 rfl ?_)
              | (go_at_call 18; refine (INk.out _ h).mono ?_; clear h; rintro _ w ⟨rfl, h⟩))
            clear g15
            go_loopw [8] (fun i wr => RmC σ M m k l order o i wr) (fun i _ => m - (intOf i).toNat)
            case atStart => exact ⟨0, Nat.zero_le _, rfl, h, MayJ.zero _ _ _ _⟩
            case round =>
              clear h w
              obtain ⟨w, rfl⟩ : ∃ x : World, x = wr := ⟨_, rfl⟩
              obtain ⟨j, hj, rfl, h, hJ⟩ := hrel
              have HJ := Lib.hid hJ
              clear hJ
              by_cases hjm : j < m
              · obtain ⟨x, hx⟩ : ∃ x, order[j]? = some x := ⟨_, List.getElem?_eq_getElem (by have := HM.out; omega)⟩
                obtain ⟨x0, xn, xp⟩ := HOK.out j x hjm hx
                obtain ⟨q, rfl⟩ : ∃ q : Nat, x = (q : Int) := ⟨x.toNat, by omega⟩
                have hqn : q < n := by omega
                obtain ⟨y, hy⟩ : ∃ y, l[q]? = some y := ⟨_, List.getElem?_eq_getElem (by have := HL.out; omega)⟩
                obtain ⟨_, B', d', e, hd, hB⟩ := HO.out
                cases e
                obtain ⟨b1, o1, cs1, t1, f1, rfl, hO1, hx1⟩ := hB (by omega)
                have e1 := hx1 j (.int .i64 (q : Int)) (by simp [ints1, hx])
                obtain ⟨bl2, ol2, cl2, csl2, tl2, fl2, e2, hMl2, hxl2⟩ := HA.out.elem encO_len hqn hy
                cases e2
                have g16b : csl2.extract (ol + q * 16) (ol + q * 16 + 16) = y.row := extract_of (n := 16) hxl2 rfl
                have HX := Lib.hid hx
                have HY := Lib.hid hy
                have zo : o.row.size = 16 := rfl
                have zy : y.row.size = 16 := rfl
                have hqn' : (q : Int) < (n : Int) := by omega
                have hjm' : (j : Int) < (m : Int) := by omega
                have hlt' : (k : Int) < (n : Int) := by omega
                clear hB hx1 hxl2 x0 xn xp hx hy
                cases hA : o.ahead y
                · have AHx : Hid (∀ w, Has σ M w → Calls Tryz.prog 19 #[.agg o.row, .agg y.row] w fun r w' => r = .returned (.bool false) ∧ Has σ M w') := fun w h => hA ▸ AH.out w h o y
                  have NJ : Hid (MayJ l order k (j + 1) o) := HJ.out.next HX.out HY.out fun e => by rw [hA] at e; cases e
                  clear hA hp0
                  go_upto_region 15 with (fail)
                  refine wp_region_class (Has σ M) (by kernel_rfl) (by kernel_rfl) h.drew ?_
                  clear h
                  repeat (first
                    | go_big_quiet_skip
                    | (go_big_quiet_want; first
                      | (refine quiet_agg_has 32 _ rfl rfl hMl g16 zo Tryz.underlying32 rfl (by kernel_rfl) ?_; simp only [Act.put, List.setIfInBounds_toArray, List.set_cons_zero, List.set_cons_succ]; go_big_quiet_on)
                      | (refine quiet_load_has 3 _ rfl rfl hO1 e1 Tryz.underlying3 rfl ?_; simp only [Act.put, List.setIfInBounds_toArray, List.set_cons_zero, List.set_cons_succ]; go_big_quiet_on)
                      | (refine quiet_agg_has 32 _ rfl rfl hMl2 g16b zy Tryz.underlying32 rfl (by kernel_rfl) ?_; simp only [Act.put, List.setIfInBounds_toArray, List.set_cons_zero, List.set_cons_succ]; go_big_quiet_on)
                      | (go_big_quiet_op; first | go_big_quiet_on | go_big_quiet_call (first | with_reducible exact fun _ => rfl | with_reducible exact AHx.out _))))
                  refine wpQuiet_nil ?_
                  try clear w
                  intro w h
                  go_wp2
                  all_goals first
                    | exact ⟨⟨j + 1, hjm, by go_num, h, NJ.out⟩, by simp [intOf]; omega⟩
                    | (go_roundw
                       case rel => exact ⟨j + 1, hjm, by go_num, h, NJ.out⟩
                       case measure => simp [intOf]; omega)
                · have AHx : Hid (∀ w, Has σ M w → Calls Tryz.prog 19 #[.agg o.row, .agg y.row] w fun r w' => r = .returned (.bool true) ∧ Has σ M w') := fun w h => hA ▸ AH.out w h o y
                  by_cases hok2 : pk ≠ 0 ∧ pk ≤ j + 1
                  · try exact absurd hp0 hok2.1
                    all_goals
                      have NJ : Hid (MayJ l order k (j + 1) o) := HJ.out.next HX.out HY.out fun _ => by rw [HPK.out]; exact hok2
                      have d3 : decide ((j : Int) < (pk : Int) - 1) = false := decide_eq_false (by omega)
                      have d4 : decide ((pk : Int) - 1 < 0) = false := decide_eq_false (by omega)
                      clear hA hok2 hp0
                      go_upto_region 15 with (fail)
                      refine wp_region_class (Has σ M) (by kernel_rfl) (by kernel_rfl) h.drew ?_
                      clear h
                      repeat (first
                        | go_big_quiet_skip
                        | (go_big_quiet_want; first
                          | (refine quiet_agg_has 32 _ rfl rfl hMl g16 zo Tryz.underlying32 rfl (by kernel_rfl) ?_; simp only [Act.put, List.setIfInBounds_toArray, List.set_cons_zero, List.set_cons_succ]; go_big_quiet_on)
                          | (refine quiet_load_has 3 _ rfl rfl hO1 e1 Tryz.underlying3 rfl ?_; simp only [Act.put, List.setIfInBounds_toArray, List.set_cons_zero, List.set_cons_succ]; go_big_quiet_on)
                          | (refine quiet_agg_has 32 _ rfl rfl hMl2 g16b zy Tryz.underlying32 rfl (by kernel_rfl) ?_; simp only [Act.put, List.setIfInBounds_toArray, List.set_cons_zero, List.set_cons_succ]; go_big_quiet_on)
                          | (go_big_quiet_op; first | go_big_quiet_on | go_big_quiet_call (first | with_reducible exact fun _ => rfl | with_reducible exact AHx.out _))))
                      refine wpQuiet_nil ?_
                      try clear w
                      intro w h
                      go_wp2
                      all_goals first
                        | exact ⟨⟨j + 1, hjm, by go_num, h, NJ.out⟩, by simp [intOf]; omega⟩
                        | (go_roundw
                           case rel => exact ⟨j + 1, hjm, by go_num, h, NJ.out⟩
                           case measure => simp [intOf]; omega)
                  · have NO : Hid (¬ MayO l order) := mayJ_no HOk.out HX.out HY.out hA (by rw [HPK.out]; exact hok2)
                    by_cases hpz : pk = 0
                    · try exact absurd hpz hp0
                      all_goals
                        have d4 : decide ((pk : Int) - 1 < 0) = true := decide_eq_true (by omega)
                        clear hA hok2 hp0 hpz
                        go_upto_region 15 with (fail)
                        refine wp_region_class (Has σ M) (by kernel_rfl) (by kernel_rfl) h.drew ?_
                        clear h
                        repeat (first
                          | go_big_quiet_skip
                          | (go_big_quiet_want; first
                            | (refine quiet_agg_has 32 _ rfl rfl hMl g16 zo Tryz.underlying32 rfl (by kernel_rfl) ?_; simp only [Act.put, List.setIfInBounds_toArray, List.set_cons_zero, List.set_cons_succ]; go_big_quiet_on)
                            | (refine quiet_load_has 3 _ rfl rfl hO1 e1 Tryz.underlying3 rfl ?_; simp only [Act.put, List.setIfInBounds_toArray, List.set_cons_zero, List.set_cons_succ]; go_big_quiet_on)
                            | (refine quiet_agg_has 32 _ rfl rfl hMl2 g16b zy Tryz.underlying32 rfl (by kernel_rfl) ?_; simp only [Act.put, List.setIfInBounds_toArray, List.set_cons_zero, List.set_cons_succ]; go_big_quiet_on)
                            | (go_big_quiet_op; first | go_big_quiet_on | go_big_quiet_call (first | with_reducible exact fun _ => rfl | with_reducible exact AHx.out _))))
                        refine wpQuiet_nil ?_
                        try clear w
                        intro w h
                        go_wp2
                        go_ret
                        exact ⟨false, rfl, ⟨fun e => (by cases e), fun e => absurd e NO.out⟩, h⟩
                    · try exact absurd hp0 hpz
                      all_goals
                        have d4 : decide ((pk : Int) - 1 < 0) = false := decide_eq_false (by omega)
                        have d3 : decide ((j : Int) < (pk : Int) - 1) = true := decide_eq_true (by omega)
                        clear hA hok2 hp0 hpz
                        go_upto_region 15 with (fail)
                        refine wp_region_class (Has σ M) (by kernel_rfl) (by kernel_rfl) h.drew ?_
                        clear h
                        repeat (first
                          | go_big_quiet_skip
                          | (go_big_quiet_want; first
                            | (refine quiet_agg_has 32 _ rfl rfl hMl g16 zo Tryz.underlying32 rfl (by kernel_rfl) ?_; simp only [Act.put, List.setIfInBounds_toArray, List.set_cons_zero, List.set_cons_succ]; go_big_quiet_on)
                            | (refine quiet_load_has 3 _ rfl rfl hO1 e1 Tryz.underlying3 rfl ?_; simp only [Act.put, List.setIfInBounds_toArray, List.set_cons_zero, List.set_cons_succ]; go_big_quiet_on)
                            | (refine quiet_agg_has 32 _ rfl rfl hMl2 g16b zy Tryz.underlying32 rfl (by kernel_rfl) ?_; simp only [Act.put, List.setIfInBounds_toArray, List.set_cons_zero, List.set_cons_succ]; go_big_quiet_on)
                            | (go_big_quiet_op; first | go_big_quiet_on | go_big_quiet_call (first | with_reducible exact fun _ => rfl | with_reducible exact AHx.out _))))
                        refine wpQuiet_nil ?_
                        try clear w
                        intro w h
                        go_wp2
                        go_ret
                        exact ⟨false, rfl, ⟨fun e => (by cases e), fun e => absurd e NO.out⟩, h⟩
              · have HC : Hid (∀ i, i < k + 1 → MayI l order i) := fun i hi => by
                  by_cases e : i = k
                  · subst e; exact mayI_ofJ HOk.out H1.out (by have hjj : order.length = j := by have := HM.out; omega
                                                               rw [hjj]; exact HJ.out)
                  · exact HALL.out i (by omega)
                clear hp0
                go_wp2
                all_goals first
                  | exact ⟨⟨k + 1, hlt, by go_num, h, HC.out⟩, by simp [intOf]; omega⟩
                  | (go_roundw
                     case rel => exact ⟨k + 1, hlt, by go_num, h, HC.out⟩
                     case measure => simp [intOf]; omega)
                  | trace_state
        · obtain rfl : k = n := by omega
          have HC : Hid (MayO l order) := mayO_all HL.out HM.out HOK.out fun i hi => HALL.out i hi
          go_wp2
          go_ret
          exact ⟨true, rfl, ⟨fun _ => HC.out, fun _ => rfl⟩, h⟩
end Go.Proofs.YtjnhklhgcbknkaaGreatDoor
