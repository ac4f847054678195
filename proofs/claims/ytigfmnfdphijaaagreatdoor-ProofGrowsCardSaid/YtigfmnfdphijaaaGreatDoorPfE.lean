/- Walks of layer 16: May. -/
import Derived.Test.YtigfmnfdphijaaaGreatDoorPfD
namespace Go.Proofs.YtigfmnfdphijaaaGreatDoor
open Go.RowKit
set_option linter.unusedVariables false
set_option linter.unusedSimpArgs false
set_option linter.unnecessarySimpa false
/-- What May tells. -/
def MayPost (σ : World) (M : Mm) (l : List OpS) (order : List Int) (r : Ending) (w' : World) : Prop := ∃ b : Bool, r = .returned (.bool b) ∧ (b = true ↔ MayO l order) ∧ Has σ M w'
/-- What holds at each round of the range. -/
def InRel (σ : World) (M2 : Mm) (it pm : Nat) (es : List EntI) (l : List OpS) (pk : Nat) (o : OpS) (wr : World) : Prop := ∃ (M' : Mm) (seen : Array Nat), Has σ M' wr ∧ M2.le M' ∧ M' it = some (.mapIter (some pm) es.length seen es.length) ∧ ∀ x ∈ es, seen.contains x.born = true → FineE l pk o x
theorem same_born {n : Nat} {order : List Int} {i : Nat} {es : List EntI} (h : PlI n order i es) {x y : EntI} (hx : x ∈ es) (hy : y ∈ es) (e : x.born = y.born) : x = y := by
  have hn := h.nodup
  clear h
  induction es with
  | nil => cases hx
  | cons z r ih =>
    have hn' : z.born ∉ r.map (·.born) ∧ (r.map (·.born)).Nodup := List.nodup_cons.1 hn
    rcases List.mem_cons.1 hx with hx1 | hx1
    · rcases List.mem_cons.1 hy with hy1 | hy1
      · rw [hx1, hy1]
      · exact absurd (List.mem_map.2 ⟨y, hy1, by rw [← e, hx1]⟩) hn'.1
    · rcases List.mem_cons.1 hy with hy1 | hy1
      · exact absurd (List.mem_map.2 ⟨x, hx1, by rw [e, hy1]⟩) hn'.1
      · exact ih hx1 hy1 hn'.2
set_option maxHeartbeats 4000000 in
set_option maxRecDepth 20000 in
theorem may_eq {σ w : World} {M : Mm} (h : Has σ M w) (va vo : Value) (l : List OpS) (order : List Int) (n m : Nat) (hl : l.length = n) (hm : order.length = m) (ha : Rd M 16 va n (l.flatMap encO)) (ho : Rd M 1 vo m (ints1 order)) (hn1 : n ≤ 1000000) (hm1 : m ≤ 1000000) :
    Calls Tryz.prog 6 #[va, vo] w fun r w' => MayPost σ M l order r w' := by
  have PL := Lib.hid (places_eq h va vo _ order n m hm ha ho hn1 hm1)
  obtain ⟨A, c, rfl⟩ := ha.form
  obtain ⟨B, d, rfl⟩ := ho.form
  have HA := Lib.hid ha
  have HL := Lib.hid hl
  have HM := Lib.hid hm
  clear ha ho hl hm
  go_enter Tryz.func6, Tryz.ntmps6
  go_upto_region 2 with (first
    | ((go_at_call 13; refine PL.out.mono ?_; clear h; rintro _ w ⟨bb, pm, es, M1, rfl, hok, hP, h, hle1, hpm, hnp⟩)))
  clear PL
  cases bb
  · have NO : Hid (¬ MayO l order) := fun e => by
      have := hok.2 (by rw [← HL.out, ← HM.out]; exact e.1)
      cases this
    go_wp2
    go_ret
    exact ⟨false, rfl, ⟨fun e => (by cases e), fun e => absurd e NO.out⟩, h.le hle1⟩
  have HOK := Lib.hid (hok.1 rfl)
  have HP := Lib.hid hP
  clear hok hP
  go_wp2
  go_loopw [21] (fun i wr => ∃ (k : Nat) (M' : Mm), k ≤ n ∧ i = .int .i64 k ∧ Has σ M' wr ∧ M1.le M' ∧ ∀ j, j < k → MayI l order j) (fun i _ => n - (intOf i).toNat)
  case atStart => exact ⟨0, M1, Nat.zero_le _, rfl, h, Mm.le_refl _, fun j hj => absurd hj (by omega)⟩
  case round =>
    clear h w
    obtain ⟨w, rfl⟩ : ∃ x : World, x = wr := ⟨_, rfl⟩
    obtain ⟨k, M', hk, rfl, h, hle, hall⟩ := hrel
    have HALL := Lib.hid hall
    clear hall
    by_cases hlt : k < n
    · have hlt' : (k : Int) < (n : Int) := by omega
      obtain ⟨o, ho⟩ : ∃ o, l[k]? = some o := ⟨_, List.getElem?_eq_getElem (by have := HL.out; omega)⟩
      have HO := Lib.hid ho
      obtain ⟨bl, ol, cl, csl, tl, fl, e1, hMl, hxl⟩ := HA.out.elem encO_len hlt ho
      cases e1
      have hMl1 := hle _ _ (hle1 _ _ hMl)
      have g16 : csl.extract (ol + k * 16) (ol + k * 16 + 16) = o.row := extract_of (n := 16) hxl rfl
      clear hxl hMl ho
      go_upto_region 7 with (first
        | ((with_reducible show wpList _ _ _ ({ dst := _, op := Op.load 38 _, type := _, pos := _, after := _, guard := _ } :: _) _ _); refine wpList_agg_has h rfl 38 _ rfl rfl hMl1 g16 rfl Tryz.underlying38 rfl (by kernel_rfl) ?_; try simp only [Act.put, List.setIfInBounds_toArray, List.set_cons_zero, List.set_cons_succ])
        | ((with_reducible show wpList _ _ _ ({ dst := _, op := Op.alloc 38, type := _, pos := _, after := _, guard := _ } :: _) _ _); refine wpList_alloc_has h rfl 38 rfl _ zoper ?_; clear h; intro bo w h hnb; try simp only [Act.put, List.setIfInBounds_toArray, List.set_cons_zero, List.set_cons_succ])
        | ((with_reducible show wpList _ _ _ ({ dst := _, op := Op.store 38 _ _, type := _, pos := _, after := _, guard := _ } :: _) _ _); refine wpList_storeAll_has (cells := o.row) h rfl 38 _ _ rfl rfl rfl (Mm.upd_same _ _ _) rfl rfl rfl (by kernel_rfl) rfl ?_; clear h; intro w h))
      rw [Mm.upd_upd] at h
      have hbo := Mm.upd_same M' bo (.cells o.row 38)
      have hle2 : M1.le (M'.upd bo (.cells o.row 38)) := Mm.le_trans hle (Mm.le_upd' hnb _)
      clear hMl1 g16 hnb hle
      generalize M'.upd bo _ = M2 at h hbo hle2
      have hpm2 : M2 pm = some (.map (es.map EntI.e).toArray es.length) := hle2 _ _ hpm
      have d15 : o.row[15]? = some (.int .i64 o.tt) := rfl
      have LK := run_lookup_int h (es := es) (clock := es.length) hpm2 (k : Int)
      have hv : valI (k : Int) es = (posO (k : Nat) order : Nat) := by
        rw [HP.out.val (k : Int) (by omega) hlt', if_pos (by have := posO_len (k : Nat) order; have := HM.out; omega)]
      have HV : Hid (valI (k : Int) es = (posO (k : Nat) order : Nat)) := hv
      rw [hv] at LK
      clear hv
      obtain ⟨pk, hpk⟩ : ∃ pk, posO (k : Nat) order = pk := ⟨_, rfl⟩
      rw [hpk] at LK HV
      have HPK := Lib.hid hpk
      have RR := run_range_hasI h hpm2
      by_cases hp0 : pk = 0
      · have p1 : ((pk : Int) == 0) = true := by subst hp0; rfl
        by_cases htt : 0 ≤ o.tt
        · have d1 : decide (0 ≤ o.tt) = true := decide_eq_true htt
          have NO : Hid (¬ MayO l order) := fun e => (mayO_one e k o HO.out).1 ⟨hpk.trans hp0, htt⟩
          clear hpk hp0 htt RR
          go_wp2_with (first
            | (with_reducible show wpList _ _ _ ({ dst := _, op := Op.load 3 _, type := _, pos := _, after := _, guard := _ } :: _) _ _; refine wpList_load1_has h rfl 3 _ rfl rfl hbo d15 Tryz.underlying3 rfl ?_))
          go_ret
          exact ⟨false, rfl, ⟨fun e => (by cases e), fun e => absurd e NO.out⟩, h.le (Mm.le_trans hle1 hle2)⟩
        · have d1 : decide (0 ≤ o.tt) = false := decide_eq_false htt
          have H1 : Hid (¬ (posO (k : Nat) order = 0 ∧ 0 ≤ o.tt)) := fun e => htt e.2
          clear hpk htt hp0
          go_upto_region 10 with (first
            | (with_reducible show wpList _ _ _ ({ dst := _, op := Op.load 3 _, type := _, pos := _, after := _, guard := _ } :: _) _ _; refine wpList_load1_has h rfl 3 _ rfl rfl hbo d15 Tryz.underlying3 rfl ?_))
          clear RR LK d15 d1
          obtain ⟨M3, hbx, hle3, hit, hnit⟩ := h.box (.mapIter (some pm) es.length #[] es.length)
          generalize w.alloc _ = wx at hbx ⊢
          generalize w.heap.size = it at hit hnit ⊢
          clear h
          try clear w
          have h := hbx
          clear hbx
          obtain ⟨w, rfl⟩ : ∃ x : World, x = wx := ⟨_, rfl⟩
          go_loopw [9] (fun _ wr => InRel σ M2 it pm es l pk o wr) (fun _ w' => (leftOf (es.map EntI.e).toArray (w'.iterSeen it)).size)
          case atStart => exact ⟨M3, #[], h, hle3, hit, fun x hx hs => by simp at hs⟩
          case round =>
            clear h w hit hle3
            obtain ⟨w, rfl⟩ : ∃ x : World, x = wr := ⟨_, rfl⟩
            obtain ⟨M', seen, h, hle, hit, hF⟩ := hrel
            have hb := hle _ _ hpm2
            have IS := Lib.hid (iterSeen_hasI h hit)
            have law := fun ty => run_next_hasI h ty hit hb (fun x hx => by
              simp only [List.mem_map] at hx
              obtain ⟨y, hy, rfl⟩ := hx
              exact HP.out.born_lt y hy) (Nat.le_refl _)
            rcases law 0 with ⟨h0, hrun⟩ | ⟨e, he, w1, h1, hrun⟩
            · have hnx : ∀ ty, (Instr.next (.pointer (some ⟨it, 0, none⟩)) false ty).run Tryz.prog w = _ := fun _ => hrun
              have HC := Lib.hid (mayI_of HL.out HM.out HOK.out HP.out HO.out H1.out fun x hx => by
                rw [HPK.out]
                exact hF x hx (all_seen _ _ h0 x.e (by simp only [List.mem_map]; exact ⟨x, hx, rfl⟩)))
              clear law h0 hrun hb hit hF
              go_wp2
              go_roundw
              case rel => exact ⟨k + 1, M', hlt, by go_num, h, Mm.le_trans hle2 hle, fun j hj => by
                by_cases e : j = k
                · subst e; exact HC.out
                · exact HALL.out j (by omega)⟩
              case measure => simp [intOf]; omega
            · obtain ⟨x, hx, rfl, hs⟩ := left_memI he
              obtain ⟨x0, xn, _, _, _⟩ := HP.out.mem x hx
              have SH := Lib.hid (left_shrinks _ _ _ he)
              have HX := Lib.hid hx
              obtain ⟨xk, xv, xb⟩ := x
              obtain ⟨q, rfl⟩ : ∃ q : Nat, xk = (q : Int) := ⟨xk.toNat, by simp only at x0; omega⟩
              have hnx : ∀ ty, (Instr.next (.pointer (some ⟨it, 0, none⟩)) false ty).run Tryz.prog w = .ok (.tuple #[.bool true, .int .i64 (q : Nat), .int .i64 xv]) w1 := fun _ => hrun
              have hit1 := Mm.upd_same M' it (.mapIter (some pm) es.length (seen.push xb) es.length)
              have hne : pm ≠ it := fun e => by rw [e, hit] at hb; cases hb
              have hb1 : (M'.upd it (.mapIter (some pm) es.length (seen.push xb) es.length)) pm = some (.map (es.map EntI.e).toArray es.length) := (Mm.upd_ne hne).trans hb
              have hen : (Instr.entry (.pointer (some ⟨it, 0, none⟩))).run Tryz.prog w1 = .ok (.tuple #[.int .i64 (q : Nat), .int .i64 xv]) w1 := run_entry_hasI h1 hit1 hb1 (e := EntI.e ⟨(q : Nat), xv, xb⟩) (by simp only [List.mem_map]; exact ⟨_, hx, rfl⟩) (by
                have := HP.out.nodup
                simpa [List.map_map, Function.comp_def, EntI.e] using this)
              have hle4 : M2.le (M'.upd it (.mapIter (some pm) es.length (seen.push xb) es.length)) := Mm.le_upd hle hnit _
              have hqn : q < n := by simp only at xn; omega
              obtain ⟨y, hy⟩ : ∃ y, l[q]? = some y := ⟨_, List.getElem?_eq_getElem (by have := HL.out; omega)⟩
              have HY : Hid (l[((q : Nat) : Int).toNat]? = some y) := by show l[((q : Nat) : Int).toNat]? = some y; simpa using hy
              obtain ⟨bl, ol, cl, csl, tl, fl, e1, hMl, hxl⟩ := HA.out.elem encO_len hqn hy
              cases e1
              have hqn' : (q : Int) < (n : Int) := by omega
              have hMl4 := hle4 _ _ (hle2 _ _ (hle1 _ _ hMl))
              have g16 : csl.extract (ol + q * 16) (ol + q * 16 + 16) = y.row := extract_of (n := 16) hxl rfl
              have hbo4 := hle4 _ _ hbo
              clear law hrun he hb hit hle hMl hxl x0 xn
              have FX : ∀ z ∈ es, z ≠ ⟨(q : Nat), xv, xb⟩ → (seen.push xb).contains z.born = true → FineE l pk o z := fun z hz hn hs' => hF z hz (by
                rw [contains_push] at hs'
                rcases Bool.or_eq_true_iff.1 hs' with h | h
                · exact h
                · have hbb : z.born = xb := (beq_iff_eq.1 h)
                  exact absurd (same_born HP.out hz hx hbb) hn)
              clear hF hs hx
              have FXH := Lib.hid FX
              clear FX
              replace h1 : Has σ (M'.upd it (.mapIter (some pm) es.length (seen.push xb) es.length)) w1 := h1
              generalize M'.upd it _ = M4 at h1 hit1 hb1 hle4 hMl4 hbo4
              go_upto_region 11 with (fail)
              clear hnx h
              have h := h1
              clear h1
              go_upto_region 12 with (fail)
              clear hen
              have AH := Lib.hid (fun (w : World) (h : Has σ M4 w) => ahead_eq h o y)
              have dz : o.row.extract 0 (0 + 16) = o.row := rfl
              have zo : o.row.size = 16 := rfl
              have zy : y.row.size = 16 := rfl
              have HAA : Hid (∀ b : Bool, o.ahead y = b → o.ahead y = b) := fun _ e => e
              cases hA : o.ahead y
              · have FN : Hid (∀ z ∈ es, (seen.push xb).contains z.born = true → FineE l pk o z) := fun z hz hs' => by
                  by_cases e : z = ⟨(q : Nat), xv, xb⟩
                  · subst e
                    intro y' hy' ha'
                    rw [HY.out] at hy'
                    cases hy'
                    rw [hA] at ha'
                    cases ha'
                  · exact FXH.out z hz e hs'
                have AH : Hid (∀ (w : World), Has σ M4 w → Calls Tryz.prog 14 #[.agg o.row, .agg y.row] w fun r w' => r = .returned (.bool false) ∧ Has σ M4 w') := fun w h => hA ▸ ahead_eq h o y
                clear hA FXH HAA
                all_goals
                  all_goals
                    refine wp_region_class (Has σ M4) (by kernel_rfl) (by kernel_rfl) h.drew ?_
                    clear h
                    repeat (first
                      | go_big_quiet_skip
                      | (go_big_quiet_want; first
                        | (refine quiet_agg_has 38 _ rfl rfl hbo4 dz zo Tryz.underlying38 rfl (by kernel_rfl) ?_; simp only [Act.put, List.setIfInBounds_toArray, List.set_cons_zero, List.set_cons_succ]; go_big_quiet_on)
                        | (refine quiet_agg_has 38 _ rfl rfl hMl4 g16 zy Tryz.underlying38 rfl (by kernel_rfl) ?_; simp only [Act.put, List.setIfInBounds_toArray, List.set_cons_zero, List.set_cons_succ]; go_big_quiet_on)
                        | ((refine quiet_lookup_int (k := (k : Int)) _ _ rfl rfl rfl hb1 ?_; rw [HV.out]); simp only [Act.put, List.setIfInBounds_toArray, List.set_cons_zero, List.set_cons_succ]; go_big_quiet_on)
                        | (go_big_quiet_op; first | go_big_quiet_on | go_big_quiet_call (first | with_reducible exact fun _ => rfl | with_reducible exact AH.out _))))
                    refine wpQuiet_nil ?_
                    try clear w
                    intro w h
                    go_wp2
                    go_roundw
                    case rel => exact ⟨M4, seen.push xb, h, hle4, hit1, FN.out⟩
                    case measure => rw [iterSeen_hasI h hit1, IS.out]; exact SH.out
              · have HAH := Lib.hid hA
                have AH : Hid (∀ (w : World), Has σ M4 w → Calls Tryz.prog 14 #[.agg o.row, .agg y.row] w fun r w' => r = .returned (.bool true) ∧ Has σ M4 w') := fun w h => hA ▸ ahead_eq h o y
                clear hA HAA
                by_cases hgt : xv < (pk : Int)
                · have d2 : decide (xv < (pk : Int)) = true := decide_eq_true hgt
                  have NF : Hid (¬ FineE l pk o ⟨(q : Nat), xv, xb⟩) := fun f => by
                    have := (f y HY.out HAH.out).2
                    simp only at this
                    omega
                  clear hgt FXH
                  all_goals
                    refine wp_region_class (Has σ M4) (by kernel_rfl) (by kernel_rfl) h.drew ?_
                    clear h
                    repeat (first
                      | go_big_quiet_skip
                      | (go_big_quiet_want; first
                        | (refine quiet_agg_has 38 _ rfl rfl hbo4 dz zo Tryz.underlying38 rfl (by kernel_rfl) ?_; simp only [Act.put, List.setIfInBounds_toArray, List.set_cons_zero, List.set_cons_succ]; go_big_quiet_on)
                        | (refine quiet_agg_has 38 _ rfl rfl hMl4 g16 zy Tryz.underlying38 rfl (by kernel_rfl) ?_; simp only [Act.put, List.setIfInBounds_toArray, List.set_cons_zero, List.set_cons_succ]; go_big_quiet_on)
                        | ((refine quiet_lookup_int (k := (k : Int)) _ _ rfl rfl rfl hb1 ?_; rw [HV.out]); simp only [Act.put, List.setIfInBounds_toArray, List.set_cons_zero, List.set_cons_succ]; go_big_quiet_on)
                        | (go_big_quiet_op; first | go_big_quiet_on | go_big_quiet_call (first | with_reducible exact fun _ => rfl | with_reducible exact AH.out _))))
                    refine wpQuiet_nil ?_
                    try clear w
                    intro w h
                    go_wp2
                    go_ret
                    exact ⟨false, rfl, ⟨fun e => (by cases e), fun e => absurd (HPK.out ▸ fine_of HM.out HP.out HO.out (mayO_one e k) HX.out) NF.out⟩, h.le (Mm.le_trans hle1 (Mm.le_trans hle2 hle4))⟩
                have d2 : decide (xv < (pk : Int)) = false := decide_eq_false hgt
                cases p2 : ((pk : Int) == 0)
                · have p3 := p1.symm.trans p2
                  have hpn : pk ≠ 0 := fun e => by subst e; cases p2
                  cases p3
                  all_goals
                    have FN : Hid (∀ z ∈ es, (seen.push xb).contains z.born = true → FineE l pk o z) := fun z hz hs' => by
                      by_cases e : z = ⟨(q : Nat), xv, xb⟩
                      · subst e
                        intro y' hy' ha'
                        exact ⟨hpn, by simp only; omega⟩
                      · exact FXH.out z hz e hs'
                    clear hgt FXH hpn
                    refine wp_region_class (Has σ M4) (by kernel_rfl) (by kernel_rfl) h.drew ?_
                    clear h
                    repeat (first
                      | go_big_quiet_skip
                      | (go_big_quiet_want; first
                        | (refine quiet_agg_has 38 _ rfl rfl hbo4 dz zo Tryz.underlying38 rfl (by kernel_rfl) ?_; simp only [Act.put, List.setIfInBounds_toArray, List.set_cons_zero, List.set_cons_succ]; go_big_quiet_on)
                        | (refine quiet_agg_has 38 _ rfl rfl hMl4 g16 zy Tryz.underlying38 rfl (by kernel_rfl) ?_; simp only [Act.put, List.setIfInBounds_toArray, List.set_cons_zero, List.set_cons_succ]; go_big_quiet_on)
                        | ((refine quiet_lookup_int (k := (k : Int)) _ _ rfl rfl rfl hb1 ?_; rw [HV.out]); simp only [Act.put, List.setIfInBounds_toArray, List.set_cons_zero, List.set_cons_succ]; go_big_quiet_on)
                        | (go_big_quiet_op; first | go_big_quiet_on | go_big_quiet_call (first | with_reducible exact fun _ => rfl | with_reducible exact AH.out _))))
                    refine wpQuiet_nil ?_
                    try clear w
                    intro w h
                    go_wp2
                    go_roundw
                    case rel => exact ⟨M4, seen.push xb, h, hle4, hit1, FN.out⟩
                    case measure => rw [iterSeen_hasI h hit1, IS.out]; exact SH.out
                · have p3 := p1.symm.trans p2
                  have hpn : pk = 0 := by have := beq_iff_eq.1 p2; omega
                  cases p3
                  all_goals
                    have NF : Hid (¬ FineE l pk o ⟨(q : Nat), xv, xb⟩) := fun f => (f y HY.out HAH.out).1 hpn
                    clear hgt FXH hpn
                    refine wp_region_class (Has σ M4) (by kernel_rfl) (by kernel_rfl) h.drew ?_
                    clear h
                    repeat (first
                      | go_big_quiet_skip
                      | (go_big_quiet_want; first
                        | (refine quiet_agg_has 38 _ rfl rfl hbo4 dz zo Tryz.underlying38 rfl (by kernel_rfl) ?_; simp only [Act.put, List.setIfInBounds_toArray, List.set_cons_zero, List.set_cons_succ]; go_big_quiet_on)
                        | (refine quiet_agg_has 38 _ rfl rfl hMl4 g16 zy Tryz.underlying38 rfl (by kernel_rfl) ?_; simp only [Act.put, List.setIfInBounds_toArray, List.set_cons_zero, List.set_cons_succ]; go_big_quiet_on)
                        | ((refine quiet_lookup_int (k := (k : Int)) _ _ rfl rfl rfl hb1 ?_; rw [HV.out]); simp only [Act.put, List.setIfInBounds_toArray, List.set_cons_zero, List.set_cons_succ]; go_big_quiet_on)
                        | (go_big_quiet_op; first | go_big_quiet_on | go_big_quiet_call (first | with_reducible exact fun _ => rfl | with_reducible exact AH.out _))))
                    refine wpQuiet_nil ?_
                    try clear w
                    intro w h
                    go_wp2
                    go_ret
                    exact ⟨false, rfl, ⟨fun e => (by cases e), fun e => absurd (HPK.out ▸ fine_of HM.out HP.out HO.out (mayO_one e k) HX.out) NF.out⟩, h.le (Mm.le_trans hle1 (Mm.le_trans hle2 hle4))⟩
      · have p1 : ((pk : Int) == 0) = false := beq_eq_false_iff_ne.2 (by omega)
        have H1 : Hid (¬ (posO (k : Nat) order = 0 ∧ 0 ≤ o.tt)) := fun e => hp0 (hpk.symm.trans e.1)
        clear hpk hp0
        go_upto_region 10 with (first
          | (with_reducible show wpList _ _ _ ({ dst := _, op := Op.load 3 _, type := _, pos := _, after := _, guard := _ } :: _) _ _; refine wpList_load1_has h rfl 3 _ rfl rfl hbo d15 Tryz.underlying3 rfl ?_))
        clear RR LK d15
        obtain ⟨M3, hbx, hle3, hit, hnit⟩ := h.box (.mapIter (some pm) es.length #[] es.length)
        generalize w.alloc _ = wx at hbx ⊢
        generalize w.heap.size = it at hit hnit ⊢
        clear h
        try clear w
        have h := hbx
        clear hbx
        obtain ⟨w, rfl⟩ : ∃ x : World, x = wx := ⟨_, rfl⟩
        go_loopw [9] (fun _ wr => InRel σ M2 it pm es l pk o wr) (fun _ w' => (leftOf (es.map EntI.e).toArray (w'.iterSeen it)).size)
        case atStart => exact ⟨M3, #[], h, hle3, hit, fun x hx hs => by simp at hs⟩
        case round =>
          clear h w hit hle3
          obtain ⟨w, rfl⟩ : ∃ x : World, x = wr := ⟨_, rfl⟩
          obtain ⟨M', seen, h, hle, hit, hF⟩ := hrel
          have hb := hle _ _ hpm2
          have IS := Lib.hid (iterSeen_hasI h hit)
          have law := fun ty => run_next_hasI h ty hit hb (fun x hx => by
            simp only [List.mem_map] at hx
            obtain ⟨y, hy, rfl⟩ := hx
            exact HP.out.born_lt y hy) (Nat.le_refl _)
          rcases law 0 with ⟨h0, hrun⟩ | ⟨e, he, w1, h1, hrun⟩
          · have hnx : ∀ ty, (Instr.next (.pointer (some ⟨it, 0, none⟩)) false ty).run Tryz.prog w = _ := fun _ => hrun
            have HC := Lib.hid (mayI_of HL.out HM.out HOK.out HP.out HO.out H1.out fun x hx => by
              rw [HPK.out]
              exact hF x hx (all_seen _ _ h0 x.e (by simp only [List.mem_map]; exact ⟨x, hx, rfl⟩)))
            clear law h0 hrun hb hit hF
            go_wp2
            go_roundw
            case rel => exact ⟨k + 1, M', hlt, by go_num, h, Mm.le_trans hle2 hle, fun j hj => by
              by_cases e : j = k
              · subst e; exact HC.out
              · exact HALL.out j (by omega)⟩
            case measure => simp [intOf]; omega
          · obtain ⟨x, hx, rfl, hs⟩ := left_memI he
            obtain ⟨x0, xn, _, _, _⟩ := HP.out.mem x hx
            have SH := Lib.hid (left_shrinks _ _ _ he)
            have HX := Lib.hid hx
            obtain ⟨xk, xv, xb⟩ := x
            obtain ⟨q, rfl⟩ : ∃ q : Nat, xk = (q : Int) := ⟨xk.toNat, by simp only at x0; omega⟩
            have hnx : ∀ ty, (Instr.next (.pointer (some ⟨it, 0, none⟩)) false ty).run Tryz.prog w = .ok (.tuple #[.bool true, .int .i64 (q : Nat), .int .i64 xv]) w1 := fun _ => hrun
            have hit1 := Mm.upd_same M' it (.mapIter (some pm) es.length (seen.push xb) es.length)
            have hne : pm ≠ it := fun e => by rw [e, hit] at hb; cases hb
            have hb1 : (M'.upd it (.mapIter (some pm) es.length (seen.push xb) es.length)) pm = some (.map (es.map EntI.e).toArray es.length) := (Mm.upd_ne hne).trans hb
            have hen : (Instr.entry (.pointer (some ⟨it, 0, none⟩))).run Tryz.prog w1 = .ok (.tuple #[.int .i64 (q : Nat), .int .i64 xv]) w1 := run_entry_hasI h1 hit1 hb1 (e := EntI.e ⟨(q : Nat), xv, xb⟩) (by simp only [List.mem_map]; exact ⟨_, hx, rfl⟩) (by
              have := HP.out.nodup
              simpa [List.map_map, Function.comp_def, EntI.e] using this)
            have hle4 : M2.le (M'.upd it (.mapIter (some pm) es.length (seen.push xb) es.length)) := Mm.le_upd hle hnit _
            have hqn : q < n := by simp only at xn; omega
            obtain ⟨y, hy⟩ : ∃ y, l[q]? = some y := ⟨_, List.getElem?_eq_getElem (by have := HL.out; omega)⟩
            have HY : Hid (l[((q : Nat) : Int).toNat]? = some y) := by show l[((q : Nat) : Int).toNat]? = some y; simpa using hy
            obtain ⟨bl, ol, cl, csl, tl, fl, e1, hMl, hxl⟩ := HA.out.elem encO_len hqn hy
            cases e1
            have hqn' : (q : Int) < (n : Int) := by omega
            have hMl4 := hle4 _ _ (hle2 _ _ (hle1 _ _ hMl))
            have g16 : csl.extract (ol + q * 16) (ol + q * 16 + 16) = y.row := extract_of (n := 16) hxl rfl
            have hbo4 := hle4 _ _ hbo
            clear law hrun he hb hit hle hMl hxl x0 xn
            have FX : ∀ z ∈ es, z ≠ ⟨(q : Nat), xv, xb⟩ → (seen.push xb).contains z.born = true → FineE l pk o z := fun z hz hn hs' => hF z hz (by
              rw [contains_push] at hs'
              rcases Bool.or_eq_true_iff.1 hs' with h | h
              · exact h
              · have hbb : z.born = xb := (beq_iff_eq.1 h)
                exact absurd (same_born HP.out hz hx hbb) hn)
            clear hF hs hx
            have FXH := Lib.hid FX
            clear FX
            replace h1 : Has σ (M'.upd it (.mapIter (some pm) es.length (seen.push xb) es.length)) w1 := h1
            generalize M'.upd it _ = M4 at h1 hit1 hb1 hle4 hMl4 hbo4
            go_upto_region 11 with (fail)
            clear hnx h
            have h := h1
            clear h1
            go_upto_region 12 with (fail)
            clear hen
            have AH := Lib.hid (fun (w : World) (h : Has σ M4 w) => ahead_eq h o y)
            have dz : o.row.extract 0 (0 + 16) = o.row := rfl
            have zo : o.row.size = 16 := rfl
            have zy : y.row.size = 16 := rfl
            have HAA : Hid (∀ b : Bool, o.ahead y = b → o.ahead y = b) := fun _ e => e
            cases hA : o.ahead y
            · have FN : Hid (∀ z ∈ es, (seen.push xb).contains z.born = true → FineE l pk o z) := fun z hz hs' => by
                by_cases e : z = ⟨(q : Nat), xv, xb⟩
                · subst e
                  intro y' hy' ha'
                  rw [HY.out] at hy'
                  cases hy'
                  rw [hA] at ha'
                  cases ha'
                · exact FXH.out z hz e hs'
              have AH : Hid (∀ (w : World), Has σ M4 w → Calls Tryz.prog 14 #[.agg o.row, .agg y.row] w fun r w' => r = .returned (.bool false) ∧ Has σ M4 w') := fun w h => hA ▸ ahead_eq h o y
              clear hA FXH HAA
              all_goals
                all_goals
                  refine wp_region_class (Has σ M4) (by kernel_rfl) (by kernel_rfl) h.drew ?_
                  clear h
                  repeat (first
                    | go_big_quiet_skip
                    | (go_big_quiet_want; first
                      | (refine quiet_agg_has 38 _ rfl rfl hbo4 dz zo Tryz.underlying38 rfl (by kernel_rfl) ?_; simp only [Act.put, List.setIfInBounds_toArray, List.set_cons_zero, List.set_cons_succ]; go_big_quiet_on)
                      | (refine quiet_agg_has 38 _ rfl rfl hMl4 g16 zy Tryz.underlying38 rfl (by kernel_rfl) ?_; simp only [Act.put, List.setIfInBounds_toArray, List.set_cons_zero, List.set_cons_succ]; go_big_quiet_on)
                      | ((refine quiet_lookup_int (k := (k : Int)) _ _ rfl rfl rfl hb1 ?_; rw [HV.out]); simp only [Act.put, List.setIfInBounds_toArray, List.set_cons_zero, List.set_cons_succ]; go_big_quiet_on)
                      | (go_big_quiet_op; first | go_big_quiet_on | go_big_quiet_call (first | with_reducible exact fun _ => rfl | with_reducible exact AH.out _))))
                  refine wpQuiet_nil ?_
                  try clear w
                  intro w h
                  go_wp2
                  go_roundw
                  case rel => exact ⟨M4, seen.push xb, h, hle4, hit1, FN.out⟩
                  case measure => rw [iterSeen_hasI h hit1, IS.out]; exact SH.out
            · have HAH := Lib.hid hA
              have AH : Hid (∀ (w : World), Has σ M4 w → Calls Tryz.prog 14 #[.agg o.row, .agg y.row] w fun r w' => r = .returned (.bool true) ∧ Has σ M4 w') := fun w h => hA ▸ ahead_eq h o y
              clear hA HAA
              by_cases hgt : xv < (pk : Int)
              · have d2 : decide (xv < (pk : Int)) = true := decide_eq_true hgt
                have NF : Hid (¬ FineE l pk o ⟨(q : Nat), xv, xb⟩) := fun f => by
                  have := (f y HY.out HAH.out).2
                  simp only at this
                  omega
                clear hgt FXH
                all_goals
                  refine wp_region_class (Has σ M4) (by kernel_rfl) (by kernel_rfl) h.drew ?_
                  clear h
                  repeat (first
                    | go_big_quiet_skip
                    | (go_big_quiet_want; first
                      | (refine quiet_agg_has 38 _ rfl rfl hbo4 dz zo Tryz.underlying38 rfl (by kernel_rfl) ?_; simp only [Act.put, List.setIfInBounds_toArray, List.set_cons_zero, List.set_cons_succ]; go_big_quiet_on)
                      | (refine quiet_agg_has 38 _ rfl rfl hMl4 g16 zy Tryz.underlying38 rfl (by kernel_rfl) ?_; simp only [Act.put, List.setIfInBounds_toArray, List.set_cons_zero, List.set_cons_succ]; go_big_quiet_on)
                      | ((refine quiet_lookup_int (k := (k : Int)) _ _ rfl rfl rfl hb1 ?_; rw [HV.out]); simp only [Act.put, List.setIfInBounds_toArray, List.set_cons_zero, List.set_cons_succ]; go_big_quiet_on)
                      | (go_big_quiet_op; first | go_big_quiet_on | go_big_quiet_call (first | with_reducible exact fun _ => rfl | with_reducible exact AH.out _))))
                  refine wpQuiet_nil ?_
                  try clear w
                  intro w h
                  go_wp2
                  go_ret
                  exact ⟨false, rfl, ⟨fun e => (by cases e), fun e => absurd (HPK.out ▸ fine_of HM.out HP.out HO.out (mayO_one e k) HX.out) NF.out⟩, h.le (Mm.le_trans hle1 (Mm.le_trans hle2 hle4))⟩
              have d2 : decide (xv < (pk : Int)) = false := decide_eq_false hgt
              cases p2 : ((pk : Int) == 0)
              · have p3 := p1.symm.trans p2
                have hpn : pk ≠ 0 := fun e => by subst e; cases p2
                cases p3
                all_goals
                  have FN : Hid (∀ z ∈ es, (seen.push xb).contains z.born = true → FineE l pk o z) := fun z hz hs' => by
                    by_cases e : z = ⟨(q : Nat), xv, xb⟩
                    · subst e
                      intro y' hy' ha'
                      exact ⟨hpn, by simp only; omega⟩
                    · exact FXH.out z hz e hs'
                  clear hgt FXH hpn
                  refine wp_region_class (Has σ M4) (by kernel_rfl) (by kernel_rfl) h.drew ?_
                  clear h
                  repeat (first
                    | go_big_quiet_skip
                    | (go_big_quiet_want; first
                      | (refine quiet_agg_has 38 _ rfl rfl hbo4 dz zo Tryz.underlying38 rfl (by kernel_rfl) ?_; simp only [Act.put, List.setIfInBounds_toArray, List.set_cons_zero, List.set_cons_succ]; go_big_quiet_on)
                      | (refine quiet_agg_has 38 _ rfl rfl hMl4 g16 zy Tryz.underlying38 rfl (by kernel_rfl) ?_; simp only [Act.put, List.setIfInBounds_toArray, List.set_cons_zero, List.set_cons_succ]; go_big_quiet_on)
                      | ((refine quiet_lookup_int (k := (k : Int)) _ _ rfl rfl rfl hb1 ?_; rw [HV.out]); simp only [Act.put, List.setIfInBounds_toArray, List.set_cons_zero, List.set_cons_succ]; go_big_quiet_on)
                      | (go_big_quiet_op; first | go_big_quiet_on | go_big_quiet_call (first | with_reducible exact fun _ => rfl | with_reducible exact AH.out _))))
                  refine wpQuiet_nil ?_
                  try clear w
                  intro w h
                  go_wp2
                  go_roundw
                  case rel => exact ⟨M4, seen.push xb, h, hle4, hit1, FN.out⟩
                  case measure => rw [iterSeen_hasI h hit1, IS.out]; exact SH.out
              · have p3 := p1.symm.trans p2
                have hpn : pk = 0 := by have := beq_iff_eq.1 p2; omega
                cases p3
                all_goals
                  have NF : Hid (¬ FineE l pk o ⟨(q : Nat), xv, xb⟩) := fun f => (f y HY.out HAH.out).1 hpn
                  clear hgt FXH hpn
                  refine wp_region_class (Has σ M4) (by kernel_rfl) (by kernel_rfl) h.drew ?_
                  clear h
                  repeat (first
                    | go_big_quiet_skip
                    | (go_big_quiet_want; first
                      | (refine quiet_agg_has 38 _ rfl rfl hbo4 dz zo Tryz.underlying38 rfl (by kernel_rfl) ?_; simp only [Act.put, List.setIfInBounds_toArray, List.set_cons_zero, List.set_cons_succ]; go_big_quiet_on)
                      | (refine quiet_agg_has 38 _ rfl rfl hMl4 g16 zy Tryz.underlying38 rfl (by kernel_rfl) ?_; simp only [Act.put, List.setIfInBounds_toArray, List.set_cons_zero, List.set_cons_succ]; go_big_quiet_on)
                      | ((refine quiet_lookup_int (k := (k : Int)) _ _ rfl rfl rfl hb1 ?_; rw [HV.out]); simp only [Act.put, List.setIfInBounds_toArray, List.set_cons_zero, List.set_cons_succ]; go_big_quiet_on)
                      | (go_big_quiet_op; first | go_big_quiet_on | go_big_quiet_call (first | with_reducible exact fun _ => rfl | with_reducible exact AH.out _))))
                  refine wpQuiet_nil ?_
                  try clear w
                  intro w h
                  go_wp2
                  go_ret
                  exact ⟨false, rfl, ⟨fun e => (by cases e), fun e => absurd (HPK.out ▸ fine_of HM.out HP.out HO.out (mayO_one e k) HX.out) NF.out⟩, h.le (Mm.le_trans hle1 (Mm.le_trans hle2 hle4))⟩
    · have HC : Hid (MayO l order) := mayO_all HL.out HM.out HOK.out fun i hi => HALL.out i (by omega)
      go_wp2
      go_ret
      exact ⟨true, rfl, ⟨fun _ => HC.out, fun _ => rfl⟩, h.le (Mm.le_trans hle1 hle)⟩
end Go.Proofs.YtigfmnfdphijaaaGreatDoor
