/- Walks of layer 16: the map of places. -/
import Derived.Test.YtjnhklhgcbknkaaGreatDoorPfB
import Derived.Carry
namespace Go.Proofs.YtjnhklhgcbknkaaGreatDoor
open Go.RowKit
set_option linter.unusedVariables false
set_option linter.unusedSimpArgs false
set_option linter.unnecessarySimpa false
set_option maxHeartbeats 2000000 in
theorem places_eq {σ w : World} {M : Mm} (h : Has σ M w) (va vo : Value) (zs : List Value) (order : List Int) (n m : Nat) (hm : order.length = m) (ha : Rd M 16 va n zs) (ho : Rd M 1 vo m (ints1 order)) (hn1 : n ≤ 1000000) (hm1 : m ≤ 1000000) :
    Calls Tryz.prog 36 #[va, vo] w fun r w' => ∃ (bb : Bool) (pm : Nat) (es : List EntI) (M' : Mm), r = .returned (.tuple #[.map (some pm), .bool bb]) ∧ (bb = true ↔ OkO n order m) ∧ PlI n order m es ∧ Has σ M' w' ∧ M.le M' ∧ M' pm = some (mapRowI es es.length) ∧ M pm = none := by
  obtain ⟨_, A, c, rfl, hc, _⟩ := ha
  obtain ⟨_, B, d, rfl, hd, hB⟩ := ho
  have HX := Lib.hid hm
  clear hm
  have MM : ∀ W, (Instr.makeMap 118 none).run Tryz.prog W = .ok (.map (some W.heap.size)) (W.alloc (.map #[] 0)) := fun W => run_makeMap 118 W
  go_enter Tryz.func36, Tryz.ntmps36
  go_upto_region 2 with (fail)
  clear MM
  obtain ⟨M1, hbx, hle1, hpm, hnp⟩ := h.box (.map #[] 0)
  generalize w.alloc _ = wx at hbx ⊢
  generalize w.heap.size = pm at hpm hnp ⊢
  clear h
  try clear w
  have h := hbx
  clear hbx
  obtain ⟨w, rfl⟩ : ∃ x : World, x = wx := ⟨_, rfl⟩
  go_wp2
  go_loopw [7, 13] (fun b i wr => ∃ (j : Nat) (es' : List EntI) (bb' : Bool), j ≤ m ∧ i = .int .i64 j ∧ b = .bool bb' ∧ (bb' = true ↔ OkO n order j) ∧ PlI n order j es' ∧ ∃ M' : Mm, Has σ M' wr ∧ M.le M' ∧ M' pm = some (mapRowI es' es'.length)) (fun _ i _ => m - (intOf i).toNat)
  case atStart => exact ⟨0, [], true, Nat.zero_le _, rfl, rfl, ⟨fun _ j x hj => absurd hj (by omega), fun _ => rfl⟩, PlI.first n order, M1, h, hle1, hpm⟩
  case round =>
    clear h w hpm hle1
    obtain ⟨w, rfl⟩ : ∃ x : World, x = wr := ⟨_, rfl⟩
    obtain ⟨k, es, bb, hk, rfl, rfl, hok, hP, M', h, hle, hb⟩ := hrel
    by_cases hlt : k < m
    · obtain ⟨b1, o1, cs1, t1, f1, rfl, hM1, hx1⟩ := hB (by omega)
      obtain ⟨x, hx⟩ : ∃ x, order[k]? = some x := ⟨_, List.getElem?_eq_getElem (by have := HX.out; omega)⟩
      have e1 := hx1 k (.int .i64 x) (by simp [ints1, hx])
      replace hM1 := hle _ _ hM1
      have LK := run_lookup_int h hb x
      clear hB hx1
      by_cases h0 : x < 0
      · have d0 : decide (x < 0) = true := decide_eq_true h0
        have hv : ¬ (0 ≤ x ∧ x < (n : Int)) ∨ 0 < valI x es := .inl (by omega)
        obtain ⟨hP', hne⟩ := hP.pass hx hv
        clear LK
        have HR : Hid (∃ (j : Nat) (es' : List EntI) (bb' : Bool), j ≤ m ∧ Value.int .i64 ((k : Int) + 1) = .int .i64 j ∧ Value.bool false = .bool bb' ∧ (bb' = true ↔ OkO n order j) ∧ PlI n order j es' ∧ ∃ M' : Mm, Has σ M' w ∧ M.le M' ∧ M' pm = some (mapRowI es' es'.length)) :=
          ⟨k + 1, es, false, hlt, rfl, rfl, ⟨fun e => (by cases e), fun e => absurd ((OkO.next hx).1 e).2.2.2 (hne ((OkO.next hx).1 e).2.1 ((OkO.next hx).1 e).2.2.1)⟩, hP', M', h, hle, hb⟩
        clear hP' hne hP hv hok hx hle hb
        go_wp2_with (first
          | (with_reducible show wpList _ _ _ ({ dst := _, op := Op.load 3 _, type := _, pos := _, after := _, guard := _ } :: _) _ _; refine wpList_load1_has h rfl 3 _ rfl rfl hM1 e1 Tryz.underlying3 rfl ?_))
        go_roundw
        case rel => exact HR.out
        case measure => simp [intOf]; omega
      by_cases h1 : (n : Int) ≤ x
      · have d0 : decide (x < 0) = false := decide_eq_false h0
        have d1 : decide ((n : Int) ≤ x) = true := decide_eq_true h1
        have hv : ¬ (0 ≤ x ∧ x < (n : Int)) ∨ 0 < valI x es := .inl (by omega)
        obtain ⟨hP', hne⟩ := hP.pass hx hv
        clear LK
        have HR : Hid (∃ (j : Nat) (es' : List EntI) (bb' : Bool), j ≤ m ∧ Value.int .i64 ((k : Int) + 1) = .int .i64 j ∧ Value.bool false = .bool bb' ∧ (bb' = true ↔ OkO n order j) ∧ PlI n order j es' ∧ ∃ M' : Mm, Has σ M' w ∧ M.le M' ∧ M' pm = some (mapRowI es' es'.length)) :=
          ⟨k + 1, es, false, hlt, rfl, rfl, ⟨fun e => (by cases e), fun e => absurd ((OkO.next hx).1 e).2.2.2 (hne ((OkO.next hx).1 e).2.1 ((OkO.next hx).1 e).2.2.1)⟩, hP', M', h, hle, hb⟩
        clear hP' hne hP hv hok hx hle hb
        go_wp2_with (first
          | (with_reducible show wpList _ _ _ ({ dst := _, op := Op.load 3 _, type := _, pos := _, after := _, guard := _ } :: _) _ _; refine wpList_load1_has h rfl 3 _ rfl rfl hM1 e1 Tryz.underlying3 rfl ?_))
        go_roundw
        case rel => exact HR.out
        case measure => simp [intOf]; omega
      have d0 : decide (x < 0) = false := decide_eq_false h0
      have d1 : decide ((n : Int) ≤ x) = false := decide_eq_false h1
      by_cases h2 : 0 < valI x es
      · have d2 : decide (0 < valI x es) = true := decide_eq_true h2
        have hv : ¬ (0 ≤ x ∧ x < (n : Int)) ∨ 0 < valI x es := .inr h2
        obtain ⟨hP', hne⟩ := hP.pass hx hv
        generalize valI x es = vv at LK d2 hv
        have HR : Hid (∃ (j : Nat) (es' : List EntI) (bb' : Bool), j ≤ m ∧ Value.int .i64 ((k : Int) + 1) = .int .i64 j ∧ Value.bool false = .bool bb' ∧ (bb' = true ↔ OkO n order j) ∧ PlI n order j es' ∧ ∃ M' : Mm, Has σ M' w ∧ M.le M' ∧ M' pm = some (mapRowI es' es'.length)) :=
          ⟨k + 1, es, false, hlt, rfl, rfl, ⟨fun e => (by cases e), fun e => absurd ((OkO.next hx).1 e).2.2.2 (hne ((OkO.next hx).1 e).2.1 ((OkO.next hx).1 e).2.2.1)⟩, hP', M', h, hle, hb⟩
        clear hP' hne hP hv hok hx hle hb
        go_wp2_with (first
          | (with_reducible show wpList _ _ _ ({ dst := _, op := Op.load 3 _, type := _, pos := _, after := _, guard := _ } :: _) _ _; refine wpList_load1_has h rfl 3 _ rfl rfl hM1 e1 Tryz.underlying3 rfl ?_))
        go_roundw
        case rel => exact HR.out
        case measure => simp [intOf]; omega
      have d2 : decide (0 < valI x es) = false := decide_eq_false h2
      obtain ⟨hh, hpe, hP'⟩ := hP.put hx (by omega) (by omega) h2
      obtain ⟨w', UP, h'⟩ := run_update_int h hb x ((k : Int) + 1)
      rw [hh] at h'
      have hlen : (putI x ((k : Int) + 1) es.length es).length = es.length + 1 := by rw [putI_none x _ _ es hh]; simp
      have HR : Hid (∃ (j : Nat) (es' : List EntI) (bb' : Bool), j ≤ m ∧ Value.int .i64 ((k : Int) + 1) = .int .i64 j ∧ Value.bool bb = .bool bb' ∧ (bb' = true ↔ OkO n order j) ∧ PlI n order j es' ∧ ∃ M' : Mm, Has σ M' w' ∧ M.le M' ∧ M' pm = some (mapRowI es' es'.length)) :=
        ⟨k + 1, _, bb, hlt, rfl, rfl, ⟨fun e => (OkO.next hx).2 ⟨hok.1 e, by omega, by omega, hpe⟩, fun e => hok.2 ((OkO.next hx).1 e).1⟩, hP', _, h', Mm.le_upd hle hnp _, by rw [hlen]; exact Mm.upd_same _ _ _⟩
      clear hP' hh hpe hP hok hx hle hlen h' hb
      generalize valI x es = vv at LK d2
      go_wp2_with (first
        | (with_reducible show wpList _ _ _ ({ dst := _, op := Op.load 3 _, type := _, pos := _, after := _, guard := _ } :: _) _ _; refine wpList_load1_has h rfl 3 _ rfl rfl hM1 e1 Tryz.underlying3 rfl ?_))
      go_roundw
      case rel => exact HR.out
      case measure => simp [intOf]; omega
    · clear hB
      go_wp2
      obtain rfl : k = m := by omega
      go_ret2
      exact ⟨bb, pm, es, M', rfl, hok, hP, h, hle, hb, hnp⟩
end Go.Proofs.YtjnhklhgcbknkaaGreatDoor
