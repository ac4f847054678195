/- The document's answer for layer 5: all places, in order. -/
import Derived.Test.YtnknlleflpkijaaPlanA
namespace Go.Proofs.Ytnknlleflpkijaa
open Go.RowKit
set_option linter.unusedVariables false
set_option linter.unusedSimpArgs false
set_option linter.unnecessarySimpa false

abbrev Pl := Int × Int × Int × Int
def encP (p : Pl) : List Value := [.int .i64 p.1, .int .i64 p.2.1, .int .i64 p.2.2.1, .int .i64 p.2.2.2]
theorem encP_len (p : Pl) : (encP p).length = 4 := rfl
theorem info_p : (Try.prog.info? 63).map (fun i => (i.zero, i.size, i.bytes)) = some (some (.agg #[.int .i64 0, .int .i64 0, .int .i64 0, .int .i64 0]), 4, 32) := by kernel_rfl
def small4 (c : Nat → Int) (k : Nat) : Nat := if k = 0 then 4 else if k = 1 then 2 else if k = 2 then 8 else (c 11).toNat
/-- The places of a level: of the first four kinds; of kind 4 + k; links; nodes. -/
def lv1 (m : Nat) (k : Nat) : List Pl := (List.range k).map fun (i : Nat) => ((m : Int), (i : Int), 0, 0)
def lv2i (m k i : Nat) : List Pl := (List.range i).map fun (i : Nat) => ((m : Int), ((4 + k : Nat) : Int), (i : Int), 0)
def lv2 (c : Nat → Int) (m k : Nat) : List Pl := (List.range k).flatMap fun k => lv2i m k (small4 c k)
def lv3 (m s : Nat) : List Pl := (List.range s).map fun (s : Nat) => ((m : Int), 8, ((s + 1 : Nat) : Int), 0)
def lv4j (m s j : Nat) : List Pl := (List.range j).map fun (j : Nat) => ((m : Int), 9, ((s + 1 : Nat) : Int), (j : Int))
def lv4 (m s : Nat) : List Pl := (List.range s).flatMap fun s => lv4j m s 5
def lvl (c : Nat → Int) (m : Nat) : List Pl := lv1 m 4 ++ lv2 c m 4 ++ lv3 m (c 10).toNat ++ lv4 m (c 10).toNat
def allP (c : Nat → Int) (m : Nat) : List Pl := (List.range m).flatMap (lvl c)
theorem range_map_succ {α : Type} (f : Nat → α) (k : Nat) : (List.range (k + 1)).map f = (List.range k).map f ++ [f k] := by rw [List.range_succ, List.map_append]; rfl
theorem range_flat_succ {α : Type} (f : Nat → List α) (k : Nat) : (List.range (k + 1)).flatMap f = (List.range k).flatMap f ++ f k := by rw [List.range_succ, List.flatMap_append]; simp

def AccL (σ : World) (M : Mm) (w : World) (v : Value) (l : List Pl) : Prop := Acc σ M w 63 4 v l.length (l.flatMap encP)
theorem AccL.snoc {σ w : World} {M : Mm} {v : Value} {l l' : List Pl} {p : Pl} (h : Acc σ M w 63 4 v (l.length + 1) (l.flatMap encP ++ encP p)) (e : l' = l ++ [p]) : AccL σ M w v l' := by
  subst e
  unfold AccL
  simpa using h
section
variable {σ w : World} {M0 M1 : Mm} {e : TypeId} {sz n : Nat} {v : Value} {xs : List Value}
theorem Acc.less (h : Acc σ M1 w e sz v n xs) (hm : M0.le M1) : Acc σ M0 w e sz v n xs := by
  obtain ⟨M, h1, h2, h3⟩ := h
  exact ⟨M, h1, Mm.le_trans hm h2, h3.base fun b hb => Mm.none_of hm hb⟩
theorem Acc.box (h : Acc σ M0 w e sz v n xs) (o : Obj) : ∃ M1, Acc σ M1 (w.alloc o) e sz v n xs ∧ M0.le M1 ∧ M1 w.heap.size = some o := by
  obtain ⟨M, h1, h2, h3⟩ := h
  refine ⟨M0.upd w.heap.size o, ⟨M.upd w.heap.size o, h1.alloc o, fun b o' hb => ?_, ?_⟩, Mm.le_upd' (Mm.none_of h2 h1.fresh) o, Mm.upd_same _ _ _⟩
  · by_cases eb : b = w.heap.size
    · subst eb
      rw [Mm.upd_same] at hb ⊢
      exact hb
    · rw [Mm.upd_ne eb] at hb ⊢
      exact h2 b o' hb
  · obtain ⟨hl, h3⟩ := h3
    refine ⟨hl, ?_⟩
    rcases h3 with h3 | ⟨g, cap, cur, hv, hg, hh, r⟩
    · exact .inl h3
    · have hne : g ≠ w.heap.size := Mm.ne_of h1.fresh hh
      exact .inr ⟨g, cap, cur, hv, by rw [Mm.upd_ne hne]; exact hg, by rw [Mm.upd_ne hne]; exact hh, r⟩
end

theorem lv2_length (c : Nat → Int) (m k : Nat) (hk : k ≤ 4) (hB : (c 11).toNat ≤ 40) : (lv2 c m k).length ≤ 54 := by
  unfold lv2
  rcases k with _ | _ | _ | _ | _ | k
  all_goals first | omega | skip
  all_goals simp [List.range_succ, lv2i, small4]
  all_goals omega
theorem lv4_length (m s : Nat) : (lv4 m s).length = s * 5 := by
  unfold lv4
  induction s with
  | zero => simp
  | succ s ih => rw [range_flat_succ, List.length_append, ih]; simp [lv4j]; omega
theorem lvl_length (c : Nat → Int) (m : Nat) (hB : (c 11).toNat ≤ 40) (hS : (c 10).toNat ≤ 60) : (lvl c m).length ≤ 418 := by
  have := lv2_length c m 4 (by omega) hB
  have := lv4_length m (c 10).toNat
  simp [lvl, lv1, lv3]
  omega
theorem allP_length (c : Nat → Int) (m : Nat) (hB : (c 11).toNat ≤ 40) (hS : (c 10).toNat ≤ 60) : (allP c m).length ≤ m * 418 := by
  induction m with
  | zero => simp [allP]
  | succ m ih =>
    have e : allP c (m + 1) = allP c m ++ lvl c m := range_flat_succ _ _
    have := lvl_length c m hB hS
    rw [e, List.length_append]
    omega
set_option maxRecDepth 100000 in
set_option maxHeartbeats 8000000 in
theorem refAll_eq {σ w : World} {M : Mm} (h : Has σ M w) (c : Nat → Int) (hc : ConfMay c) :
    Calls Try.prog 22 #[confV c] w fun r w' => ∃ v, r = .returned v ∧ Acc σ M w' 63 4 v (allP c (c 0).toNat).length ((allP c (c 0).toNat).flatMap encP) := by
  obtain ⟨⟨h0, h1⟩, _, _, _, ⟨h2, h3⟩, ⟨h4, h5⟩, _⟩ := hc
  obtain ⟨L, hL⟩ : ∃ L : Nat, c 0 = L := ⟨(c 0).toNat, by omega⟩
  obtain ⟨S, hS⟩ : ∃ S : Nat, c 10 = S := ⟨(c 10).toNat, by omega⟩
  obtain ⟨B, hB⟩ : ∃ B : Nat, c 11 = B := ⟨(c 11).toNat, by omega⟩
  have HL := Lib.hid (show (c 0).toNat = L by omega)
  have HS := Lib.hid (show (c 10).toNat = S by omega)
  have HB := Lib.hid (show (c 11).toNat = B by omega)
  have AE : Hid (∀ m, allP c (m + 1) = allP c m ++ lvl c m) := range_flat_succ _
  have LE : Hid (∀ m, lvl c m = lv1 m 4 ++ lv2 c m 4 ++ lv3 m S ++ lv4 m S) := fun m => by rw [lvl, HS.out]
  have hlen : Hid (∀ m, m ≤ 4 → (allP c m).length ≤ 2000) := fun m hm => by
    have := allP_length c m (by omega) (by omega)
    omega
  rw [HL.out]
  simp only [confV, ints14_lit]
  rw [hL, hS, hB]
  go_enter Try.func22, Try.ntmps22
  go_upto_region 1 with (fail)
  obtain ⟨M1, hbx, hle1, hb1, hn1⟩ := h.box (.cells #[.int .i64 L, .int .i64 (c 1), .int .i64 (c 2), .int .i64 (c 3), .int .i64 (c 4), .int .i64 (c 5), .int .i64 (c 6), .int .i64 (c 7), .int .i64 (c 8), .int .i64 (c 9), .int .i64 S, .int .i64 B, .int .i64 (c 12), .int .i64 (c 13)] 24)
  generalize w.alloc _ = wx at hbx ⊢
  generalize w.heap.size = b1 at hb1 hn1 ⊢
  clear h
  try clear w
  have h := hbx
  clear hbx
  obtain ⟨w, rfl⟩ : ∃ x : World, x = wx := ⟨_, rfl⟩
  have hL4 : L ≤ 4 := by omega
  have hS60 : S ≤ 60 := by omega
  have hB40 : B ≤ 40 := by omega
  clear h0 h1 h2 h3 h4 h5 hL hS hB HL
  go_wp2
  go_loopw [3, 4] (fun v i wr => ∃ m : Nat, m ≤ L ∧ i = .int .i64 m ∧ Acc σ M1 wr 63 4 v (allP c m).length ((allP c m).flatMap encP)) (fun _ i _ => L - (intOf i).toNat)
  case atStart => exact ⟨0, by omega, rfl, Acc.nil h _ _⟩
  case round =>
    clear h w
    obtain ⟨w, rfl⟩ : ∃ x : World, x = wr := ⟨_, rfl⟩
    obtain ⟨m, hm, rfl, M', h, hle, hown⟩ := hrel
    have e0 : w.cell? ⟨b1, 0, none⟩ = some (.int .i64 L) := h.cell (hle _ _ hb1) 0
    by_cases hlt : m < L
    · have hl := hlen.out m (by omega)
      have AEm := Lib.hid (AE.out m)
      have LEm := Lib.hid (LE.out m)
      generalize allP c m = base at hl hown AEm
      go_wp2
      clear e0
      replace hlen := Lib.hid hl
      -- the first four kinds
      go_loopw [3, 5] (fun v i wr => ∃ k : Nat, k ≤ 4 ∧ i = .int .i64 k ∧ AccL σ M1 wr v (base ++ lv1 m k)) (fun _ i _ => 4 - (intOf i).toNat)
      case atStart => exact ⟨0, by omega, rfl, by unfold AccL; simpa [lv1] using ⟨M', h, hle, hown⟩⟩
      case round =>
        clear h hle hown w
        obtain ⟨w, rfl⟩ : ∃ x : World, x = wr := ⟨_, rfl⟩
        obtain ⟨k, hk, rfl, M', h, hle, hown⟩ := hrel
        by_cases hk4 : k < 4
        · have E : Hid (base ++ lv1 m (k + 1) = base ++ lv1 m k ++ [((m : Int), (k : Int), 0, 0)]) := by show _ = _; rw [lv1, range_map_succ, List.append_assoc]; rfl
          have ll : (base ++ lv1 m k).length ≤ 2004 := by simp [lv1]; omega
          go_wp2_with (first
            | (at_builtin; refine wpList_append_lit h hle rfl _ _ _ rfl rfl Try.underlying52 info_p rfl (by omega) rfl hown rfl rfl rfl (by omega) (by omega) ?_; clear h hle hown; intro v w hacc))
          go_roundw
          case rel => exact ⟨k + 1, by omega, by go_num, AccL.snoc hacc E.out⟩
          case measure => simp [intOf]; omega
        · obtain rfl : k = 4 := by omega
          have c11 : w.cell? ⟨b1, 11, none⟩ = some (.int .i64 B) := h.cell (hle _ _ hb1) 11
          go_upto_region 10 with (fail)
          have hacc : AccL σ M1 w _ (base ++ lv1 m 4) := ⟨M', h, hle, hown⟩
          obtain ⟨M6, hacc6, hle6, hb6⟩ := Acc.box hacc (.cells #[.int .i64 4, .int .i64 2, .int .i64 8, .int .i64 B] 3)
          generalize w.alloc _ = w6 at hacc6 ⊢
          generalize w.heap.size = b6 at hb6 ⊢
          have hb16 := hle6 _ _ hb1
          clear h hle hown hacc c11 w
          have L2e : Hid (∀ k, lv2 c m (k + 1) = lv2 c m k ++ lv2i m k (small4 c k)) := range_flat_succ _
          have l2 : Hid (∀ k, k ≤ 4 → (lv2 c m k).length ≤ 54) := fun k hk => lv2_length c m k hk (by rw [HB.out]; omega)
          have hl1 : (base ++ lv1 m 4).length ≤ 2004 := by have := hlen.out; simp [lv1]; omega
          replace LEm := Lib.hid LEm.out
          generalize hbs : base ++ lv1 m 4 = base2 at hacc6 hl1
          have HBS := Lib.hid hbs
          clear hbs
          go_wp2
          go_loopw [3, 7] (fun v i wr => ∃ k : Nat, k ≤ 4 ∧ i = .int .i64 k ∧ AccL σ M6 wr v (base2 ++ lv2 c m k)) (fun _ i _ => 4 - (intOf i).toNat)
          case atStart => exact ⟨0, by omega, rfl, by simpa [lv2, AccL] using hacc6⟩
          case round =>
            clear hacc6 w6
            obtain ⟨w, rfl⟩ : ∃ x : World, x = wr := ⟨_, rfl⟩
            obtain ⟨k, hk, rfl, hacc⟩ := hrel
            by_cases hk4 : k < 4
            · have L2k := Lib.hid (L2e.out k)
              have l2k := l2.out k (by omega)
              obtain ⟨B4, hB4⟩ : ∃ n, small4 c k = n := ⟨_, rfl⟩
              have hr : (#[.int .i64 4, .int .i64 2, .int .i64 8, .int .i64 B] : Array Value)[k]? = some (.int .i64 B4) := by
                subst hB4
                have := HB.out
                rcases k with _ | _ | _ | _ | k
                · rfl
                · rfl
                · rfl
                · simp [small4, this]
                · omega
              have hB40' : B4 ≤ 40 := by
                subst hB4
                have := HB.out
                unfold small4
                split
                · omega
                · split
                  · omega
                  · split <;> omega
              replace L2k : Hid (lv2 c m (k + 1) = lv2 c m k ++ lv2i m k B4) := by rw [← hB4]; exact L2k
              have HB4 := Lib.hid hB4
              clear hB4
              have hl2 : (base2 ++ lv2 c m k).length ≤ 2100 := by simp; omega
              generalize hb3 : base2 ++ lv2 c m k = base3 at hacc hl2
              have HB3 := Lib.hid hb3
              clear hb3
              go_wp2
              go_loopw [3, 8] (fun v i wr => ∃ n : Nat, n ≤ B4 ∧ i = .int .i64 n ∧ AccL σ M6 wr v (base3 ++ lv2i m k n)) (fun _ i _ => B4 - (intOf i).toNat)
              case atStart => exact ⟨0, by omega, rfl, by simpa [lv2i] using hacc⟩
              case round =>
                clear hacc w
                obtain ⟨w, rfl⟩ : ∃ x : World, x = wr := ⟨_, rfl⟩
                obtain ⟨n, hn, rfl, M', h, hle, hown⟩ := hrel
                have hM := hle _ _ hb6
                have cc : w.cell? ⟨b6, k, none⟩ = some (.int .i64 B4) := (h.cell hM k).trans hr
                by_cases hnB : n < B4
                · have E : Hid (base3 ++ lv2i m k (n + 1) = base3 ++ lv2i m k n ++ [((m : Int), ((4 + k : Nat) : Int), (n : Int), 0)]) := by show _ = _; rw [lv2i, range_map_succ, List.append_assoc]; rfl
                  have ll : (base3 ++ lv2i m k n).length ≤ 2200 := by simp [lv2i]; omega
                  go_wp2_with (first
                    | (at_builtin; refine wpList_append_lit h hle rfl _ _ _ rfl rfl Try.underlying52 info_p rfl (by omega) rfl hown rfl rfl rfl (by omega) (by omega) ?_; clear h hle hown; intro v w hacc))
                  go_roundw
                  case rel => exact ⟨n + 1, by omega, by go_num, AccL.snoc (p := ((m : Int), ((4 + k : Nat) : Int), (n : Int), 0)) (by simpa [encP] using hacc) E.out⟩
                  case measure => simp [intOf]; omega
                · obtain rfl : n = B4 := by omega
                  go_wp2
                  go_roundw
                  case rel => exact ⟨k + 1, by omega, by go_num, by rw [L2k.out, ← List.append_assoc, HB3.out]; exact ⟨M', h, hle, hown⟩⟩
                  case measure => simp [intOf]; omega
            · obtain rfl : k = 4 := by omega
              have hacc5 : AccL σ M1 w _ (base2 ++ lv2 c m 4) := Acc.less hacc hle6
              have hl5 : (base2 ++ lv2 c m 4).length ≤ 2100 := by have := l2.out 4 (by omega); simp; omega
              go_wp2
              clear hacc
              generalize hb5 : base2 ++ lv2 c m 4 = base5 at hacc5 hl5
              have HB5 := Lib.hid hb5
              clear hb5 L2e l2 hle6 hb6 hb16 hl1
              go_loopw [3, 9] (fun v i wr => ∃ n : Nat, n ≤ S ∧ i = .int .i64 (n + 1 : Nat) ∧ AccL σ M1 wr v (base5 ++ lv3 m n)) (fun _ i _ => S + 1 - (intOf i).toNat)
              case atStart => exact ⟨0, by omega, rfl, by simpa [lv3] using hacc5⟩
              case round =>
                clear hacc5 w
                obtain ⟨w, rfl⟩ : ∃ x : World, x = wr := ⟨_, rfl⟩
                obtain ⟨n, hn, rfl, M', h, hle, hown⟩ := hrel
                have cc : w.cell? ⟨b1, 10, none⟩ = some (.int .i64 S) := h.cell (hle _ _ hb1) 10
                by_cases hnS : n < S
                · have E : Hid (base5 ++ lv3 m (n + 1) = base5 ++ lv3 m n ++ [((m : Int), 8, ((n + 1 : Nat) : Int), 0)]) := by show _ = _; rw [lv3, range_map_succ, List.append_assoc]; rfl
                  have ll : (base5 ++ lv3 m n).length ≤ 2200 := by simp [lv3]; omega
                  go_wp2_with (first
                    | (at_builtin; refine wpList_append_lit h hle rfl _ _ _ rfl rfl Try.underlying52 info_p rfl (by omega) rfl hown rfl rfl rfl (by omega) (by omega) ?_; clear h hle hown; intro v w hacc))
                  go_roundw
                  case rel => exact ⟨n + 1, by omega, by go_num, AccL.snoc (p := ((m : Int), 8, ((n + 1 : Nat) : Int), 0)) (by simpa [encP] using hacc) E.out⟩
                  case measure => simp [intOf]; omega
                · obtain rfl : n = S := by omega
                  go_wp2
                  clear cc
                  have hacc7 : AccL σ M1 w _ (base5 ++ lv3 m n) := ⟨M', h, hle, hown⟩
                  have hl7 : (base5 ++ lv3 m n).length ≤ 2200 := by simp [lv3]; omega
                  clear h hle hown
                  generalize hb7 : base5 ++ lv3 m n = base7 at hacc7 hl7
                  have HB7 := Lib.hid hb7
                  clear hb7
                  go_loopw [3, 10] (fun v i wr => ∃ s : Nat, s ≤ n ∧ i = .int .i64 (s + 1 : Nat) ∧ AccL σ M1 wr v (base7 ++ lv4 m s)) (fun _ i _ => n + 1 - (intOf i).toNat)
                  case atStart => exact ⟨0, by omega, rfl, by simpa [lv4] using hacc7⟩
                  case round =>
                    clear hacc7 w
                    obtain ⟨w, rfl⟩ : ∃ x : World, x = wr := ⟨_, rfl⟩
                    obtain ⟨s, hs, rfl, M', h, hle, hown⟩ := hrel
                    have cc : w.cell? ⟨b1, 10, none⟩ = some (.int .i64 n) := h.cell (hle _ _ hb1) 10
                    by_cases hsS : s < n
                    · have L4 : Hid (lv4 m (s + 1) = lv4 m s ++ lv4j m s 5) := range_flat_succ _ _
                      have hacc8 : AccL σ M1 w _ (base7 ++ lv4 m s) := ⟨M', h, hle, hown⟩
                      have hl8 : (base7 ++ lv4 m s).length ≤ 2600 := by
                        rw [List.length_append, lv4_length]
                        omega
                      generalize hb8 : base7 ++ lv4 m s = base8 at hacc8 hl8
                      have HB8 := Lib.hid hb8
                      clear hb8
                      go_wp2
                      clear cc h hle hown
                      go_loopw [3, 11] (fun v i wr => ∃ j : Nat, j ≤ 5 ∧ i = .int .i64 j ∧ AccL σ M1 wr v (base8 ++ lv4j m s j)) (fun _ i _ => 5 - (intOf i).toNat)
                      case atStart => exact ⟨0, by omega, rfl, by simpa [lv4j] using hacc8⟩
                      case round =>
                        clear hacc8 w
                        obtain ⟨w, rfl⟩ : ∃ x : World, x = wr := ⟨_, rfl⟩
                        obtain ⟨j, hj, rfl, M', h, hle, hown⟩ := hrel
                        by_cases hj5 : j < 5
                        · have E : Hid (base8 ++ lv4j m s (j + 1) = base8 ++ lv4j m s j ++ [((m : Int), 9, ((s + 1 : Nat) : Int), (j : Int))]) := by show _ = _; rw [lv4j, range_map_succ, List.append_assoc]; rfl
                          have ll : (base8 ++ lv4j m s j).length ≤ 2700 := by simp [lv4j]; omega
                          go_wp2_with (first
                            | (at_builtin; refine wpList_append_lit h hle rfl _ _ _ rfl rfl Try.underlying52 info_p rfl (by omega) rfl hown rfl rfl rfl (by omega) (by omega) ?_; clear h hle hown; intro v w hacc))
                          go_roundw
                          case rel => exact ⟨j + 1, by omega, by go_num, AccL.snoc (p := ((m : Int), 9, ((s + 1 : Nat) : Int), (j : Int))) (by simpa [encP] using hacc) E.out⟩
                          case measure => simp [intOf]; omega
                        · obtain rfl : j = 5 := by omega
                          go_wp2
                          go_roundw
                          case rel => exact ⟨s + 1, by omega, by go_num, by rw [L4.out, ← List.append_assoc, HB8.out]; exact ⟨M', h, hle, hown⟩⟩
                          case measure => simp [intOf]; omega
                    · obtain rfl : s = n := by omega
                      go_wp2
                      go_roundw
                      case rel => exact ⟨m + 1, by omega, by go_num, by
                        rw [AEm.out, LEm.out, ← List.append_assoc, ← List.append_assoc, ← List.append_assoc, HBS.out, HB5.out, HB7.out]
                        exact ⟨M', h, hle, hown⟩⟩
                      case measure => simp [intOf]; omega
    · go_wp2
      obtain rfl : m = L := by omega
      go_ret
      exact ⟨_, rfl, M', h, Mm.le_trans hle1 hle, hown.base fun b hb => Mm.none_of hle1 hb⟩
end Go.Proofs.Ytnknlleflpkijaa
