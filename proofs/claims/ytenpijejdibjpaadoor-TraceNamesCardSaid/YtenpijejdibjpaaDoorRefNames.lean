/- The document's answer for layer 43: all words' names. -/
import Derived.Test.YtenpijejdibjpaaDoorRefAll
import Derived.Test.YtenpijejdibjpaaDoorRefMay
import Derived.Test.YtenpijejdibjpaaDoorNumber
import Derived.Test.YtenpijejdibjpaaDoorTraceN
import Derived.Test.YtenpijejdibjpaaDoorTraceC
namespace Go.Proofs.YtenpijejdibjpaaDoor
open Go.RowKit
set_option linter.unusedVariables false
set_option linter.unusedSimpArgs false
set_option linter.unnecessarySimpa false

def PlOk (p : Pl) : Prop := ∃ m k i j : Nat, p = ((m : Int), (k : Int), (i : Int), (j : Int)) ∧ m < 4 ∧ k ≤ 9 ∧ i < 100 ∧ j < 5
def nmOf (p : Pl) : ByteArray := nameB p.1.toNat p.2.1.toNat p.2.2.1.toNat p.2.2.2.toNat
theorem allP_ok (c : Nat → Int) (L : Nat) (hL : L ≤ 4) (hB : (c 11).toNat ≤ 40) (hS : (c 10).toNat ≤ 60) : ∀ p ∈ allP c L, PlOk p := by
  intro p hp
  obtain ⟨m, hm, hp⟩ := List.mem_flatMap.1 hp
  have hm := List.mem_range.1 hm
  unfold lvl at hp
  rcases List.mem_append.1 hp with hp | hp
  · rcases List.mem_append.1 hp with hp | hp
    · rcases List.mem_append.1 hp with hp | hp
      · obtain ⟨k, hk, rfl⟩ := List.mem_map.1 hp
        have hk := List.mem_range.1 hk
        exact ⟨m, k, 0, 0, rfl, by omega, by omega, by omega, by omega⟩
      · obtain ⟨k, hk, hp⟩ := List.mem_flatMap.1 hp
        have hk := List.mem_range.1 hk
        obtain ⟨i, hi, rfl⟩ := List.mem_map.1 hp
        have hi := List.mem_range.1 hi
        have : small4 c k ≤ 40 := by unfold small4; split; omega; split; omega; split <;> omega
        exact ⟨m, 4 + k, i, 0, rfl, by omega, by omega, by omega, by omega⟩
    · obtain ⟨s, hs, rfl⟩ := List.mem_map.1 hp
      have hs := List.mem_range.1 hs
      exact ⟨m, 8, s + 1, 0, rfl, by omega, by omega, by omega, by omega⟩
  · obtain ⟨s, hs, hp⟩ := List.mem_flatMap.1 hp
    have hs := List.mem_range.1 hs
    obtain ⟨j, hj, rfl⟩ := List.mem_map.1 hp
    have hj := List.mem_range.1 hj
    exact ⟨m, 9, s + 1, j, rfl, by omega, by omega, by omega, by omega⟩
theorem info_str : (Tryd.prog.info? 9).map (fun i => (i.zero, i.size, i.bytes)) = some (some (.string ⟨#[]⟩), 1, 16) := by kernel_rfl
def strs (l : List ByteArray) : List Value := l.map Value.string
def namesOf (c : Nat → Int) : List ByteArray := if ConfMay c then (allP c (c 0).toNat).map nmOf else []

set_option maxRecDepth 100000 in
set_option maxHeartbeats 8000000 in
theorem refNames_yes {σ w : World} {M : Mm} (h : Has σ M w) (c : Nat → Int) (hc : ConfMay c) :
    Calls Tryd.prog 5 #[confV c] w fun r w' => ∃ v, r = .returned v ∧ Acc σ M w' 9 1 v ((allP c (c 0).toNat).map nmOf).length (strs ((allP c (c 0).toNat).map nmOf)) := by
  have AL := Lib.hid (fun (M : Mm) (w : World) (h : Has σ M w) => refAll_eq h c hc)
  have RM : Hid (∀ (M : Mm) (w : World), Has σ M w → Calls Tryd.prog 16 #[confV c] w fun e w' => e = .returned (.bool true) ∧ Has σ M w') := fun M w h => by
    have := refMay_has h c
    rwa [show confMayB c = true from decide_eq_true hc] at this
  have POK : Hid (∀ p ∈ allP c (c 0).toNat, PlOk p) := by
    obtain ⟨⟨h0, h1⟩, _, _, _, ⟨h2, h3⟩, ⟨h4, h5⟩, _⟩ := hc
    exact allP_ok c _ (by omega) (by omega) (by omega)
  have PLEN : (allP c (c 0).toNat).length ≤ 1672 := by
    obtain ⟨⟨h0, h1⟩, _, _, _, ⟨h2, h3⟩, ⟨h4, h5⟩, _⟩ := hc
    have := allP_length c (c 0).toNat (by omega) (by omega)
    omega
  have NU := Lib.hid (fun (M : Mm) (w : World) (h : Has σ M w) (n : Nat) (hn : n < 100) => number_has h n hn)
  clear hc
  generalize allP c (c 0).toNat = ps at *
  simp only [confV, ints14_lit] at AL RM ⊢
  go_enter Tryd.func5, Tryd.ntmps5
  go_upto_region 1 with (fail)
  obtain ⟨M1, hbx, hle1, hb1, hn1⟩ := h.box (.cells #[.int .i64 (c 0), .int .i64 (c 1), .int .i64 (c 2), .int .i64 (c 3), .int .i64 (c 4), .int .i64 (c 5), .int .i64 (c 6), .int .i64 (c 7), .int .i64 (c 8), .int .i64 (c 9), .int .i64 (c 10), .int .i64 (c 11), .int .i64 (c 12), .int .i64 (c 13)] 24)
  generalize w.alloc _ = wx at hbx ⊢
  generalize w.heap.size = b1 at hb1 hn1 ⊢
  clear h
  try clear w
  have h := hbx
  clear hbx
  obtain ⟨w, rfl⟩ : ∃ x : World, x = wx := ⟨_, rfl⟩
  have hx : (#[.int .i64 (c 0), .int .i64 (c 1), .int .i64 (c 2), .int .i64 (c 3), .int .i64 (c 4), .int .i64 (c 5), .int .i64 (c 6), .int .i64 (c 7), .int .i64 (c 8), .int .i64 (c 9), .int .i64 (c 10), .int .i64 (c 11), .int .i64 (c 12), .int .i64 (c 13)] : Array Value).extract 0 (0 + 14) = #[.int .i64 (c 0), .int .i64 (c 1), .int .i64 (c 2), .int .i64 (c 3), .int .i64 (c 4), .int .i64 (c 5), .int .i64 (c 6), .int .i64 (c 7), .int .i64 (c 8), .int .i64 (c 9), .int .i64 (c 10), .int .i64 (c 11), .int .i64 (c 12), .int .i64 (c 13)] := rfl
  go_upto_region 5 with (first
    | (with_reducible show wpList _ _ _ ({ dst := _, op := Op.load 24 _, type := _, pos := _, after := _, guard := _ } :: _) _ _; go_loud (refine wpList_agg_has h rfl 24 _ rfl rfl hb1 hx rfl Tryd.underlying24 rfl (by kernel_rfl) ?_); try simp only [Act.put, List.setIfInBounds_toArray, List.set_cons_zero, List.set_cons_succ])
    | (go_at_call 16; go_loud (refine (RM.out _ _ h).mono ?_); clear h; rintro e w ⟨rfl, h⟩))
  rw [show (#[.string ⟨#[102, 114, 101, 101]⟩, .string ⟨#[101, 112, 111, 99, 104]⟩, .string ⟨#[102, 114, 111, 110, 116]⟩, .string ⟨#[98, 97, 99, 107]⟩, .string ⟨#[98, 117, 99, 107, 101, 116]⟩, .string ⟨#[115, 101, 116]⟩, .string ⟨#[97, 99, 116, 105, 118, 101]⟩, .string ⟨#[99, 101, 108, 108]⟩, .string ⟨#[108, 105, 110, 107]⟩] : Array Value) = kindsRow from rfl]
  obtain ⟨M4, hbx, hle4, hb4, hn4⟩ := h.box (.cells kindsRow 9)
  generalize w.alloc _ = wx at hbx ⊢
  generalize w.heap.size = b4 at hb4 hn4 ⊢
  clear h
  try clear w
  have h := hbx
  clear hbx
  obtain ⟨w, rfl⟩ : ∃ x : World, x = wx := ⟨_, rfl⟩
  go_upto_region 6 with (fail)
  rw [show (#[.string ⟨#[104, 101, 97, 100]⟩, .string ⟨#[110, 101, 120, 116]⟩, .string ⟨#[107, 101, 121]⟩, .string ⟨#[97]⟩, .string ⟨#[98]⟩] : Array Value) = fieldsRow from rfl]
  obtain ⟨M5, hbx, hle5, hb5, hn5⟩ := h.box (.cells fieldsRow 9)
  generalize w.alloc _ = wx at hbx ⊢
  generalize w.heap.size = b5 at hb5 hn5 ⊢
  clear h
  try clear w
  have h := hbx
  clear hbx
  obtain ⟨w, rfl⟩ : ∃ x : World, x = wx := ⟨_, rfl⟩
  have hb1' := hle5 _ _ (hle4 _ _ hb1)
  go_wp2_with (first
    | (with_reducible show wpList _ _ _ ({ dst := _, op := Op.load 24 _, type := _, pos := _, after := _, guard := _ } :: _) _ _; refine wpList_agg_has h rfl 24 _ rfl rfl hb1' hx rfl Tryd.underlying24 rfl (by kernel_rfl) ?_; try simp only [Act.put, List.setIfInBounds_toArray, List.set_cons_zero, List.set_cons_succ])
    | (go_at_call 17; refine (AL.out _ _ h).mono ?_; clear h; rintro e w ⟨v6, rfl, M6, h, hle6, hv6⟩; obtain ⟨A6, c6, rfl⟩ := hv6.form))
  have hl6 := hv6.rd
  have hb4' := hle6 _ _ (hle5 _ _ hb4)
  have hb5' := hle6 _ _ hb5
  have hle := Mm.le_trans hle1 (Mm.le_trans hle4 (Mm.le_trans hle5 hle6))
  clear hv6 hle1 hle4 hle5 hle6 hb1 hb4 hb5 hb1' hn1 hn4 hn5 AL RM hx
  have HLE := Lib.hid hle
  clear hle
  go_loopw [3, 7] (fun v i wr => ∃ k : Nat, k ≤ ps.length ∧ i = .int .i64 k ∧ Acc σ M6 wr 9 1 v k (strs ((ps.take k).map nmOf))) (fun _ i _ => ps.length - (intOf i).toNat)
  case atStart => exact ⟨0, by omega, rfl, Acc.nil h _ _⟩
  case round =>
    clear h w
    obtain ⟨w, rfl⟩ : ∃ x : World, x = wr := ⟨_, rfl⟩
    obtain ⟨q, hq, rfl, M', h, hle, hown⟩ := hrel
    by_cases hlt : q < ps.length
    · obtain ⟨p, hp⟩ : ∃ p, ps[q]? = some p := ⟨_, List.getElem?_eq_getElem hlt⟩
      obtain ⟨m, k, i, j, rfl, hm4, hk9, hi, hj⟩ := POK.out p (List.mem_of_getElem? hp)
      have T := Lib.hid (take_snoc' hp)
      obtain ⟨b, o, c1, cs, t1, f1, e1, hM1, hx1⟩ := hl6.elem encP_len hlt hp
      cases e1
      have hM2 := hle _ _ hM1
      have d0 : cs[o + q * 4]? = some (.int .i64 m) := by simpa using hx1 0 _ rfl
      have d1 : cs[o + q * 4 + 1]? = some (.int .i64 k) := hx1 1 _ rfl
      have d2 : cs[o + q * 4 + 2]? = some (.int .i64 i) := hx1 2 _ rfl
      have d3 : cs[o + q * 4 + 3]? = some (.int .i64 j) := hx1 3 _ rfl
      have k0 := (h.cell hM2 _).trans d0
      have hb42 := hle _ _ hb4'
      have hb52 := hle _ _ hb5'
      have z1 := numB_size m
      have z2 := numB_size i
      have z3 := kindB_size k
      have z4 := fieldB_size j
      have E : Hid (strs ((ps.take (q + 1)).map nmOf) = strs ((ps.take q).map nmOf) ++ [.string (nameB m k i j)]) := by show _ = _; rw [T.out]; simp [strs, nmOf]
      have r4 : kindsRow[k]? = some (.string (kindB (if k = 9 then 0 else k))) ∨ k = 9 := by
        by_cases h9 : k = 9
        · exact .inr h9
        · left
          rw [if_neg h9]
          have : k < 9 := by omega
          simp [kindsRow, this]
      have r5 : fieldsRow[j]? = some (.string (fieldB j)) := by simp [fieldsRow, hj]
      have hm100 : m < 100 := by omega
      clear hx1 hp T
      go_upto_region 11 with (first
        | (go_at_call 18; go_loud (refine (NU.out _ _ h m hm100).mono ?_); clear h; rintro e w ⟨rfl, h⟩))
      have k1 := (h.cell hM2 _).trans d1
      have k2 := (h.cell hM2 _).trans d2
      by_cases h9 : k = 9
      · subst h9
        have k3 := (h.cell hM2 _).trans d3
        have s5 := (h.cell hb52 _).trans r5
        clear d0 d1 d2 d3 k0 hM1 hM2 r4 r5 hb42 hb52
        go_wp2_with (first
          | (go_at_call 18; go_loud (refine (NU.out _ _ h i hi).mono ?_); clear h; rintro e w ⟨rfl, h⟩)
          | (at_builtin; go_loud (refine wpList_append_lit h hle rfl _ _ _ rfl rfl Tryd.underlying25 info_str rfl (by omega) rfl hown rfl rfl rfl (by omega) (by omega) ?_); clear h hle hown; intro v w hacc))
        go_roundw
        case rel => exact ⟨q + 1, by omega, by go_num, by rw [E.out]; exact hacc⟩
        case measure => simp [intOf]; omega
      · have r4 : kindsRow[k]? = some (.string (kindB k)) := by
          rcases r4 with r4 | r4
          · rwa [if_neg h9] at r4
          · exact absurd r4 h9
        have s4 := (h.cell hb42 _).trans r4
        have h9' : ((k : Int) == 9) = false := by simp; omega
        clear d0 d1 d2 d3 k0 hM1 hM2 r4 r5 hb42 hb52
        by_cases h3 : k ≤ 3
        · have h3' : decide ((3 : Int) < (k : Int)) = false := by simp; omega
          have N : Hid (nameB m k i j = ⟨#[108]⟩ ++ numB m ++ ⟨#[46]⟩ ++ kindB k) := by show _ = _; rw [nameB, if_neg h9, if_pos h3]
          go_wp2_with (first
            | (at_builtin; go_loud (refine wpList_append_lit h hle rfl _ _ _ rfl rfl Tryd.underlying25 info_str rfl (by omega) rfl hown rfl rfl rfl (by omega) (by omega) ?_); clear h hle hown; intro v w hacc))
          go_roundw
          case rel => exact ⟨q + 1, by omega, by go_num, by rw [E.out, N.out]; exact hacc⟩
          case measure => simp [intOf]; omega
        · have h3' : decide ((3 : Int) < (k : Int)) = true := by simp; omega
          have N : Hid (nameB m k i j = ⟨#[108]⟩ ++ numB m ++ ⟨#[46]⟩ ++ kindB k ++ numB i) := by show _ = _; rw [nameB, if_neg h9, if_neg h3]
          go_wp2_with (first
            | (go_at_call 18; go_loud (refine (NU.out _ _ h i hi).mono ?_); clear h; rintro e w ⟨rfl, h⟩)
            | (at_builtin; go_loud (refine wpList_append_lit h hle rfl _ _ _ rfl rfl Tryd.underlying25 info_str rfl (by omega) rfl hown rfl rfl rfl (by omega) (by omega) ?_); clear h hle hown; intro v w hacc))
          go_roundw
          case rel => exact ⟨q + 1, by omega, by go_num, by rw [E.out, N.out]; exact hacc⟩
          case measure => simp [intOf]; omega
    · go_wp2
      obtain rfl : q = ps.length := by omega
      go_ret
      rw [List.take_length] at hown
      exact ⟨_, rfl, M', h, Mm.le_trans HLE.out hle, by rw [List.length_map]; exact hown.base fun b hb => Mm.none_of HLE.out hb⟩
end Go.Proofs.YtenpijejdibjpaaDoor
