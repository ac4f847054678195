/- Law 21, MachineLays: Spot of any place. -/
import Derived.Test.YtnknlleflpkijaaLzA
import Derived.Test.YtnknlleflpkijaaAllP
import Derived.Test.YtnknlleflpkijaaEq
namespace Go.Proofs.Ytnknlleflpkijaa
section
open Go.RowKit
set_option linter.unusedVariables false
set_option linter.unusedSimpArgs false
set_option linter.unnecessarySimpa false
def wd (S : Int) (p : Pl) : Int := if p.2.1 = 0 ∨ p.2.1 = 1 then 2 else if p.2.1 = 2 ∨ p.2.1 = 3 ∨ (p.2.1 = 9 ∧ p.2.2.1 = 1 ∧ p.2.2.2 = 0) then 1 else if p.2.1 = 8 ∧ 2 ≤ p.2.2.1 ∧ p.2.2.1 < S then p.2.2.1 + 1 else 0
theorem place_at {c : Nat → Int} (hc : ConfMay c) {L B S : Nat} (hn : Nums c L B S) {a : Nat} (ha : a < L * (18 + B + 6 * S)) : ∃ k : Nat, k ≤ 9 ∧ firsts c k ≤ ((a % (18 + B + 6 * S) : Nat) : Int) ∧ ((a % (18 + B + 6 * S) : Nat) : Int) < firsts c (k + 1) ∧
    (allP c (c 0).toNat)[a]? = some (((a / (18 + B + 6 * S) : Nat) : Int), (k : Int), plI c k ((a % (18 + B + 6 * S) : Nat) : Int), plJ c k ((a % (18 + B + 6 * S) : Nat) : Int)) := by
  have hsz := hn.sz
  obtain ⟨T, hT⟩ : ∃ T : Nat, 18 + B + 6 * S = T := ⟨_, rfl⟩
  rw [hT] at hsz ha ⊢
  have hlt : a / T < L := Nat.div_lt_of_lt_mul (by rw [Nat.mul_comm]; exact ha)
  have hr : a % T < T := Nat.mod_lt _ (by omega)
  obtain ⟨k, hk, k1, k2⟩ := kind_ex hc (r := ((a % T : Nat) : Int)) (by omega) (by rw [hsz]; omega)
  have hg := allP_get hc (L := L) hlt hk k1 k2
  rw [show (firsts c 10).toNat = T by omega, show a / T * T + a % T = a by rw [Nat.mul_comm]; exact Nat.div_add_mod a T] at hg
  exact ⟨k, hk, k1, k2, by rw [hn.lev, Int.toNat_natCast]; exact hg⟩
theorem wd_at {c : Nat → Int} {L B S : Nat} (hn : Nums c L B S) {a k : Nat} (ha : a < L * (18 + B + 6 * S)) (hk : k ≤ 9) (h1 : firsts c k ≤ ((a % (18 + B + 6 * S) : Nat) : Int)) (h2 : ((a % (18 + B + 6 * S) : Nat) : Int) < firsts c (k + 1)) (lv : Int) :
    wd (S : Int) (lv, (k : Int), plI c k ((a % (18 + B + 6 * S) : Nat) : Int), plJ c k ((a % (18 + B + 6 * S) : Nat) : Int)) = wl B S L a := by
  have hlt : a / (18 + B + 6 * S) < L := Nat.div_lt_of_lt_mul (by rw [Nat.mul_comm]; exact ha)
  have e1 := hn.lim
  have e2 := hn.slo
  have e3 := hn.s0
  unfold wl
  rw [if_pos hlt]
  generalize a % (18 + B + 6 * S) = r at *
  unfold firsts at h1 h2
  unfold wd w0 plI plJ firsts
  rcases k with _ | _ | _ | _ | _ | _ | _ | _ | _ | _ | k
  all_goals simp at h1 h2 ⊢
  all_goals (repeat' split)
  all_goals omega
theorem refWords_list {c : Nat → Int} (hc : ConfMay c) {L B S : Nat} (hn : Nums c L B S) : (allP c (c 0).toNat).map (wd (S : Int)) = (List.range (L * (18 + B + 6 * S))).map (wl B S L) := by
  have hlen : (allP c (c 0).toNat).length = L * (18 + B + 6 * S) := by
    have h1 := allP_len hc (c 0).toNat
    rw [hn.sz, hn.lev] at h1
    rw [hn.lev]
    exact_mod_cast h1
  apply List.ext_getElem?
  intro i
  by_cases hi : i < L * (18 + B + 6 * S)
  · obtain ⟨k, hk, k1, k2, hg⟩ := place_at hc hn hi
    rw [List.getElem?_map, List.getElem?_map, hg, List.getElem?_range hi]
    simp only [Option.map_some]
    rw [wd_at hn hi hk k1 k2]
  · rw [List.getElem?_eq_none (by simp; omega), List.getElem?_eq_none (by simp; omega)]
theorem zP5 : (Try.prog.info? 63).bind (·.zero) = some (.agg #[.int .i64 0, .int .i64 0, .int .i64 0, .int .i64 0]) := by kernel_rfl
set_option maxHeartbeats 8000000 in
set_option maxRecDepth 20000 in
theorem refWords_eq {σ w : World} {M : Mm} (h : Has σ M w) (c : Nat → Int) (hc : ConfMay c) {L B S : Nat} (hn : Nums c L B S) :
    Calls Try.prog 36 #[confV c] w fun r w' => ∃ v, r = .returned v ∧ Acc σ M w' 33 1 v (L * (18 + B + 6 * S)) (u64s ((List.range (L * (18 + B + 6 * S))).map (wl B S L))) := by
  have AL := Lib.hid (fun (M' : Mm) (w : World) (h : Has σ M' w) => refAll_eq h c hc)
  have hx : (ints .i64 14 c).extract 0 (0 + 14) = ints .i64 14 c := rfl
  have hz : (ints .i64 14 c).size = 14 := rfl
  have r10 : (ints .i64 14 c)[10]? = some (.int .i64 (S : Nat)) := by rw [← hn.slo]; rfl
  have PL : (allP c (c 0).toNat).length = L * (18 + B + 6 * S) := by
    have h1 := allP_len hc (c 0).toNat
    rw [hn.sz, hn.lev] at h1
    rw [hn.lev]
    exact_mod_cast h1
  have LE := Lib.hid (refWords_list hc hn)
  have hN : L * (18 + B + 6 * S) ≤ 100000 := by
    have h0 := hn.l0
    have h1 := hn.s0
    have h2 := hn.b0
    exact Nat.le_trans (Nat.mul_le_mul h0.2 (show 18 + B + 6 * S ≤ 418 by omega)) (by omega)
  have hS60 := hn.s0.2
  rw [← LE.out]
  rw [PL] at AL
  replace PL := Lib.hid PL
  unfold confV at AL ⊢
  generalize ints .i64 14 c = row at AL hx hz r10 ⊢
  generalize L * (18 + B + 6 * S) = N at *
  generalize allP c (c 0).toNat = PP at *
  clear LE hn hc
  go_enter Try.func36, Try.ntmps36
  go_upto_region 1 with (fail)
  obtain ⟨M1, hbx, hle1, hbf, hnf⟩ := h.box (.cells row 24)
  generalize w.alloc _ = wx at hbx ⊢
  generalize w.heap.size = bf at hbf hnf ⊢
  clear h
  try clear w
  have h := hbx
  clear hbx
  obtain ⟨w, rfl⟩ : ∃ x : World, x = wx := ⟨_, rfl⟩
  go_upto_region 4 with (first
    | ((with_reducible show wpList _ _ _ ({ dst := _, op := Op.load 24 _, type := _, pos := _, after := _, guard := _ } :: _) _ _); refine wpList_agg_has h rfl 24 _ rfl rfl hbf hx hz Try.underlying24 rfl (by kernel_rfl) ?_; try simp only [Act.put, List.setIfInBounds_toArray, List.set_cons_zero, List.set_cons_succ])
    | (go_at_call 22; refine (AL.out _ _ h).mono ?_; clear h; rintro _ w ⟨va, rfl, M3, h, hle3, hown3⟩))
  have hra := hown3.rd
  obtain ⟨VA, vc, rfl⟩ := hra.form
  have hleM := Mm.le_trans hle1 hle3
  replace hbf := hle3 _ _ hbf
  clear AL hown3 hle1 hle3 hnf
  go_loopw [4, 5] (fun v i wr => ∃ j : Nat, j ≤ N ∧ i = .int .i64 (j : Nat) ∧ Acc σ M3 wr 33 1 v j (u64s ((PP.take j).map (wd (S : Int))))) (fun _ i _ => N - (intOf i).toNat)
  case atStart => exact ⟨0, Nat.zero_le _, rfl, Acc.nil h _ _⟩
  case round =>
    clear h w
    obtain ⟨w, rfl⟩ : ∃ x : World, x = wr := ⟨_, rfl⟩
    obtain ⟨j, hj, rfl, M4, h, hle, hown⟩ := hrel
    by_cases hlt : j < N
    · have hlt' : (j : Int) < (N : Int) := by omega
      obtain ⟨⟨p0, p1, p2, p3⟩, hp⟩ : ∃ p, PP[j]? = some p := ⟨_, List.getElem?_eq_getElem (by have := PL.out; omega)⟩
      obtain ⟨bl, ol, cl, csl, tl, fl, e1, hMl, hxl⟩ := hra.elem encP_len hlt hp
      cases e1
      have E : Hid (u64s ((PP.take (j + 1)).map (wd (S : Int))) = u64s ((PP.take j).map (wd (S : Int))) ++ [.int .u64 (wd (S : Int) (p0, p1, p2, p3))]) := Lib.hid (by rw [List.take_add_one, hp]; simp [u64s])
      have g4 : csl.extract (ol + j * 4) (ol + j * 4 + 4) = #[.int .i64 p0, .int .i64 p1, .int .i64 p2, .int .i64 p3] := extract_of (n := 4) hxl rfl
      have hMl1 := hle _ _ hMl
      have hbf1 := hle _ _ hbf
      clear hxl hMl hp hra
      go_upto_region 7 with (first
        | ((with_reducible show wpList _ _ _ ({ dst := _, op := Op.load 63 _, type := _, pos := _, after := _, guard := _ } :: _) _ _); refine wpList_agg_has h rfl 63 _ rfl rfl hMl1 g4 rfl Try.underlying63 rfl (by kernel_rfl) ?_; try simp only [Act.put, List.setIfInBounds_toArray, List.set_cons_zero, List.set_cons_succ])
        | ((with_reducible show wpList _ _ _ ({ dst := _, op := Op.alloc 63, type := _, pos := _, after := _, guard := _ } :: _) _ _); refine wpList_alloc_has h rfl 63 rfl _ zP5 ?_; clear h; intro bx w h hnx; try simp only [Act.put, List.setIfInBounds_toArray, List.set_cons_zero, List.set_cons_succ])
        | ((with_reducible show wpList _ _ _ ({ dst := _, op := Op.store 63 _ _, type := _, pos := _, after := _, guard := _ } :: _) _ _); refine wpList_storeAll_has (cells := #[.int .i64 p0, .int .i64 p1, .int .i64 p2, .int .i64 p3]) h rfl 63 _ _ rfl rfl rfl (Mm.upd_same _ _ _) rfl rfl rfl (by kernel_rfl) rfl ?_; clear h; intro w h))
      rw [Mm.upd_upd] at h
      have hle2 := Mm.le_upd' hnx (.cells #[.int .i64 p0, .int .i64 p1, .int .i64 p2, .int .i64 p3] 63)
      have hbx := Mm.upd_same M4 bx (.cells #[.int .i64 p0, .int .i64 p1, .int .i64 p2, .int .i64 p3] 63)
      have hown0 := hown.le hle2
      have hle0 := Mm.le_trans hle hle2
      clear hown hle hMl1 g4 hnx hbf1 hle2
      have hown := hown0
      have hle := hle0
      clear hown0 hle0
      generalize M4.upd bx _ = M5 at h hbx hle hown
      replace hbf := hle _ _ hbf
      obtain ⟨A, cc, rfl⟩ := hown.form
      have d1 : (#[.int .i64 p0, .int .i64 p1, .int .i64 p2, .int .i64 p3] : Array Value)[1]? = some (.int .i64 p1) := rfl
      have d2 : (#[.int .i64 p0, .int .i64 p1, .int .i64 p2, .int .i64 p3] : Array Value)[2]? = some (.int .i64 p2) := rfl
      have d3 : (#[.int .i64 p0, .int .i64 p1, .int .i64 p2, .int .i64 p3] : Array Value)[3]? = some (.int .i64 p3) := rfl
      by_cases c0 : p1 = 0
      · subst c0
        have he : wd (S : Int) (p0, 0, p2, p3) = 2 := by simp [wd]
        have HE := Lib.hid he
        clear he
        as_aux_lemma =>
          go_wp2_with (first
            | (with_reducible show wpList _ _ _ ({ dst := _, op := Op.load 3 _, type := _, pos := _, after := _, guard := _ } :: _) _ _; refine wpList_load1_has h rfl 3 _ rfl rfl hbx d1 Try.underlying3 rfl ?_)
            | (with_reducible show wpList _ _ _ ({ dst := _, op := Op.load 3 _, type := _, pos := _, after := _, guard := _ } :: _) _ _; refine wpList_load1_has h rfl 3 _ rfl rfl hbx d2 Try.underlying3 rfl ?_)
            | (with_reducible show wpList _ _ _ ({ dst := _, op := Op.load 3 _, type := _, pos := _, after := _, guard := _ } :: _) _ _; refine wpList_load1_has h rfl 3 _ rfl rfl hbx d3 Try.underlying3 rfl ?_)
            | (with_reducible show wpList _ _ _ ({ dst := _, op := Op.load 3 _, type := _, pos := _, after := _, guard := _ } :: _) _ _; refine wpList_load1_has h rfl 3 _ rfl rfl hbf r10 Try.underlying3 rfl ?_)
            | (at_builtin; refine wpList_append_lit h hle rfl _ _ _ rfl rfl Try.underlying40 info_u64 rfl (by omega) rfl hown rfl rfl rfl (by omega) (by omega) ?_; clear h hle hown; intro v w hacc))
          go_roundw
          case rel => exact ⟨j + 1, by omega, by go_num, by rw [E.out, HE.out]; exact hacc⟩
          case measure => simp [intOf]; omega
      by_cases c1 : p1 = 1
      · subst c1
        have he : wd (S : Int) (p0, 1, p2, p3) = 2 := by simp [wd]
        have HE := Lib.hid he
        clear he
        as_aux_lemma =>
          go_wp2_with (first
            | (with_reducible show wpList _ _ _ ({ dst := _, op := Op.load 3 _, type := _, pos := _, after := _, guard := _ } :: _) _ _; refine wpList_load1_has h rfl 3 _ rfl rfl hbx d1 Try.underlying3 rfl ?_)
            | (with_reducible show wpList _ _ _ ({ dst := _, op := Op.load 3 _, type := _, pos := _, after := _, guard := _ } :: _) _ _; refine wpList_load1_has h rfl 3 _ rfl rfl hbx d2 Try.underlying3 rfl ?_)
            | (with_reducible show wpList _ _ _ ({ dst := _, op := Op.load 3 _, type := _, pos := _, after := _, guard := _ } :: _) _ _; refine wpList_load1_has h rfl 3 _ rfl rfl hbx d3 Try.underlying3 rfl ?_)
            | (with_reducible show wpList _ _ _ ({ dst := _, op := Op.load 3 _, type := _, pos := _, after := _, guard := _ } :: _) _ _; refine wpList_load1_has h rfl 3 _ rfl rfl hbf r10 Try.underlying3 rfl ?_)
            | (at_builtin; refine wpList_append_lit h hle rfl _ _ _ rfl rfl Try.underlying40 info_u64 rfl (by omega) rfl hown rfl rfl rfl (by omega) (by omega) ?_; clear h hle hown; intro v w hacc))
          go_roundw
          case rel => exact ⟨j + 1, by omega, by go_num, by rw [E.out, HE.out]; exact hacc⟩
          case measure => simp [intOf]; omega
      by_cases c2 : p1 = 2
      · subst c2
        have he : wd (S : Int) (p0, 2, p2, p3) = 1 := by simp [wd]
        have HE := Lib.hid he
        clear he
        as_aux_lemma =>
          go_wp2_with (first
            | (with_reducible show wpList _ _ _ ({ dst := _, op := Op.load 3 _, type := _, pos := _, after := _, guard := _ } :: _) _ _; refine wpList_load1_has h rfl 3 _ rfl rfl hbx d1 Try.underlying3 rfl ?_)
            | (with_reducible show wpList _ _ _ ({ dst := _, op := Op.load 3 _, type := _, pos := _, after := _, guard := _ } :: _) _ _; refine wpList_load1_has h rfl 3 _ rfl rfl hbx d2 Try.underlying3 rfl ?_)
            | (with_reducible show wpList _ _ _ ({ dst := _, op := Op.load 3 _, type := _, pos := _, after := _, guard := _ } :: _) _ _; refine wpList_load1_has h rfl 3 _ rfl rfl hbx d3 Try.underlying3 rfl ?_)
            | (with_reducible show wpList _ _ _ ({ dst := _, op := Op.load 3 _, type := _, pos := _, after := _, guard := _ } :: _) _ _; refine wpList_load1_has h rfl 3 _ rfl rfl hbf r10 Try.underlying3 rfl ?_)
            | (at_builtin; refine wpList_append_lit h hle rfl _ _ _ rfl rfl Try.underlying40 info_u64 rfl (by omega) rfl hown rfl rfl rfl (by omega) (by omega) ?_; clear h hle hown; intro v w hacc))
          go_roundw
          case rel => exact ⟨j + 1, by omega, by go_num, by rw [E.out, HE.out]; exact hacc⟩
          case measure => simp [intOf]; omega
      by_cases c3 : p1 = 3
      · subst c3
        have he : wd (S : Int) (p0, 3, p2, p3) = 1 := by simp [wd]
        have HE := Lib.hid he
        clear he
        as_aux_lemma =>
          go_wp2_with (first
            | (with_reducible show wpList _ _ _ ({ dst := _, op := Op.load 3 _, type := _, pos := _, after := _, guard := _ } :: _) _ _; refine wpList_load1_has h rfl 3 _ rfl rfl hbx d1 Try.underlying3 rfl ?_)
            | (with_reducible show wpList _ _ _ ({ dst := _, op := Op.load 3 _, type := _, pos := _, after := _, guard := _ } :: _) _ _; refine wpList_load1_has h rfl 3 _ rfl rfl hbx d2 Try.underlying3 rfl ?_)
            | (with_reducible show wpList _ _ _ ({ dst := _, op := Op.load 3 _, type := _, pos := _, after := _, guard := _ } :: _) _ _; refine wpList_load1_has h rfl 3 _ rfl rfl hbx d3 Try.underlying3 rfl ?_)
            | (with_reducible show wpList _ _ _ ({ dst := _, op := Op.load 3 _, type := _, pos := _, after := _, guard := _ } :: _) _ _; refine wpList_load1_has h rfl 3 _ rfl rfl hbf r10 Try.underlying3 rfl ?_)
            | (at_builtin; refine wpList_append_lit h hle rfl _ _ _ rfl rfl Try.underlying40 info_u64 rfl (by omega) rfl hown rfl rfl rfl (by omega) (by omega) ?_; clear h hle hown; intro v w hacc))
          go_roundw
          case rel => exact ⟨j + 1, by omega, by go_num, by rw [E.out, HE.out]; exact hacc⟩
          case measure => simp [intOf]; omega
      by_cases c8 : p1 = 8
      · subst c8
        by_cases h2 : 2 ≤ p2
        · by_cases hS : p2 < (S : Int)
          · have he : wd (S : Int) (p0, 8, p2, p3) = p2 + 1 := by simp [wd, h2, hS]
            have w1 : IntKind.i64.wrap (p2 + 1) = p2 + 1 := IntWalk.i64_in _ (by omega)
            have w2 : IntKind.u64.wrap (p2 + 1) = p2 + 1 := IntWalk.u64_in _ (by omega)
            have HE := Lib.hid he
            clear he
            as_aux_lemma =>
              go_wp2_with (first
                | (with_reducible show wpList _ _ _ ({ dst := _, op := Op.load 3 _, type := _, pos := _, after := _, guard := _ } :: _) _ _; refine wpList_load1_has h rfl 3 _ rfl rfl hbx d1 Try.underlying3 rfl ?_)
                | (with_reducible show wpList _ _ _ ({ dst := _, op := Op.load 3 _, type := _, pos := _, after := _, guard := _ } :: _) _ _; refine wpList_load1_has h rfl 3 _ rfl rfl hbx d2 Try.underlying3 rfl ?_)
                | (with_reducible show wpList _ _ _ ({ dst := _, op := Op.load 3 _, type := _, pos := _, after := _, guard := _ } :: _) _ _; refine wpList_load1_has h rfl 3 _ rfl rfl hbx d3 Try.underlying3 rfl ?_)
                | (with_reducible show wpList _ _ _ ({ dst := _, op := Op.load 3 _, type := _, pos := _, after := _, guard := _ } :: _) _ _; refine wpList_load1_has h rfl 3 _ rfl rfl hbf r10 Try.underlying3 rfl ?_)
                | (at_builtin; refine wpList_append_lit h hle rfl _ _ _ rfl rfl Try.underlying40 info_u64 rfl (by omega) rfl hown rfl rfl rfl (by omega) (by omega) ?_; clear h hle hown; intro v w hacc))
              go_roundw
              case rel => exact ⟨j + 1, by omega, by go_num, by rw [E.out, HE.out]; exact hacc⟩
              case measure => simp [intOf]; omega
          · have he : wd (S : Int) (p0, 8, p2, p3) = 0 := by simp [wd, hS]
            have HE := Lib.hid he
            clear he
            as_aux_lemma =>
              go_wp2_with (first
                | (with_reducible show wpList _ _ _ ({ dst := _, op := Op.load 3 _, type := _, pos := _, after := _, guard := _ } :: _) _ _; refine wpList_load1_has h rfl 3 _ rfl rfl hbx d1 Try.underlying3 rfl ?_)
                | (with_reducible show wpList _ _ _ ({ dst := _, op := Op.load 3 _, type := _, pos := _, after := _, guard := _ } :: _) _ _; refine wpList_load1_has h rfl 3 _ rfl rfl hbx d2 Try.underlying3 rfl ?_)
                | (with_reducible show wpList _ _ _ ({ dst := _, op := Op.load 3 _, type := _, pos := _, after := _, guard := _ } :: _) _ _; refine wpList_load1_has h rfl 3 _ rfl rfl hbx d3 Try.underlying3 rfl ?_)
                | (with_reducible show wpList _ _ _ ({ dst := _, op := Op.load 3 _, type := _, pos := _, after := _, guard := _ } :: _) _ _; refine wpList_load1_has h rfl 3 _ rfl rfl hbf r10 Try.underlying3 rfl ?_)
                | (at_builtin; refine wpList_append_lit h hle rfl _ _ _ rfl rfl Try.underlying40 info_u64 rfl (by omega) rfl hown rfl rfl rfl (by omega) (by omega) ?_; clear h hle hown; intro v w hacc))
              go_roundw
              case rel => exact ⟨j + 1, by omega, by go_num, by rw [E.out, HE.out]; exact hacc⟩
              case measure => simp [intOf]; omega
        · have he : wd (S : Int) (p0, 8, p2, p3) = 0 := by simp [wd, h2]
          have HE := Lib.hid he
          clear he
          as_aux_lemma =>
            go_wp2_with (first
              | (with_reducible show wpList _ _ _ ({ dst := _, op := Op.load 3 _, type := _, pos := _, after := _, guard := _ } :: _) _ _; refine wpList_load1_has h rfl 3 _ rfl rfl hbx d1 Try.underlying3 rfl ?_)
              | (with_reducible show wpList _ _ _ ({ dst := _, op := Op.load 3 _, type := _, pos := _, after := _, guard := _ } :: _) _ _; refine wpList_load1_has h rfl 3 _ rfl rfl hbx d2 Try.underlying3 rfl ?_)
              | (with_reducible show wpList _ _ _ ({ dst := _, op := Op.load 3 _, type := _, pos := _, after := _, guard := _ } :: _) _ _; refine wpList_load1_has h rfl 3 _ rfl rfl hbx d3 Try.underlying3 rfl ?_)
              | (with_reducible show wpList _ _ _ ({ dst := _, op := Op.load 3 _, type := _, pos := _, after := _, guard := _ } :: _) _ _; refine wpList_load1_has h rfl 3 _ rfl rfl hbf r10 Try.underlying3 rfl ?_)
              | (at_builtin; refine wpList_append_lit h hle rfl _ _ _ rfl rfl Try.underlying40 info_u64 rfl (by omega) rfl hown rfl rfl rfl (by omega) (by omega) ?_; clear h hle hown; intro v w hacc))
            go_roundw
            case rel => exact ⟨j + 1, by omega, by go_num, by rw [E.out, HE.out]; exact hacc⟩
            case measure => simp [intOf]; omega
      by_cases c9 : p1 = 9
      · subst c9
        by_cases h2 : p2 = 1
        · subst h2
          by_cases h3 : p3 = 0
          · subst h3
            have he : wd (S : Int) (p0, 9, 1, 0) = 1 := by simp [wd]
            have HE := Lib.hid he
            clear he
            as_aux_lemma =>
              go_wp2_with (first
                | (with_reducible show wpList _ _ _ ({ dst := _, op := Op.load 3 _, type := _, pos := _, after := _, guard := _ } :: _) _ _; refine wpList_load1_has h rfl 3 _ rfl rfl hbx d1 Try.underlying3 rfl ?_)
                | (with_reducible show wpList _ _ _ ({ dst := _, op := Op.load 3 _, type := _, pos := _, after := _, guard := _ } :: _) _ _; refine wpList_load1_has h rfl 3 _ rfl rfl hbx d2 Try.underlying3 rfl ?_)
                | (with_reducible show wpList _ _ _ ({ dst := _, op := Op.load 3 _, type := _, pos := _, after := _, guard := _ } :: _) _ _; refine wpList_load1_has h rfl 3 _ rfl rfl hbx d3 Try.underlying3 rfl ?_)
                | (with_reducible show wpList _ _ _ ({ dst := _, op := Op.load 3 _, type := _, pos := _, after := _, guard := _ } :: _) _ _; refine wpList_load1_has h rfl 3 _ rfl rfl hbf r10 Try.underlying3 rfl ?_)
                | (at_builtin; refine wpList_append_lit h hle rfl _ _ _ rfl rfl Try.underlying40 info_u64 rfl (by omega) rfl hown rfl rfl rfl (by omega) (by omega) ?_; clear h hle hown; intro v w hacc))
              go_roundw
              case rel => exact ⟨j + 1, by omega, by go_num, by rw [E.out, HE.out]; exact hacc⟩
              case measure => simp [intOf]; omega
          · have he : wd (S : Int) (p0, 9, 1, p3) = 0 := by simp [wd, h3]
            have n3 : (p3 == 0) = false := beq_eq_false_iff_ne.2 h3
            have HE := Lib.hid he
            clear he
            as_aux_lemma =>
              go_wp2_with (first
                | (with_reducible show wpList _ _ _ ({ dst := _, op := Op.load 3 _, type := _, pos := _, after := _, guard := _ } :: _) _ _; refine wpList_load1_has h rfl 3 _ rfl rfl hbx d1 Try.underlying3 rfl ?_)
                | (with_reducible show wpList _ _ _ ({ dst := _, op := Op.load 3 _, type := _, pos := _, after := _, guard := _ } :: _) _ _; refine wpList_load1_has h rfl 3 _ rfl rfl hbx d2 Try.underlying3 rfl ?_)
                | (with_reducible show wpList _ _ _ ({ dst := _, op := Op.load 3 _, type := _, pos := _, after := _, guard := _ } :: _) _ _; refine wpList_load1_has h rfl 3 _ rfl rfl hbx d3 Try.underlying3 rfl ?_)
                | (with_reducible show wpList _ _ _ ({ dst := _, op := Op.load 3 _, type := _, pos := _, after := _, guard := _ } :: _) _ _; refine wpList_load1_has h rfl 3 _ rfl rfl hbf r10 Try.underlying3 rfl ?_)
                | (at_builtin; refine wpList_append_lit h hle rfl _ _ _ rfl rfl Try.underlying40 info_u64 rfl (by omega) rfl hown rfl rfl rfl (by omega) (by omega) ?_; clear h hle hown; intro v w hacc))
              go_roundw
              case rel => exact ⟨j + 1, by omega, by go_num, by rw [E.out, HE.out]; exact hacc⟩
              case measure => simp [intOf]; omega
        · have he : wd (S : Int) (p0, 9, p2, p3) = 0 := by simp [wd, h2]
          have n2 : (p2 == 1) = false := beq_eq_false_iff_ne.2 h2
          have HE := Lib.hid he
          clear he
          as_aux_lemma =>
            go_wp2_with (first
              | (with_reducible show wpList _ _ _ ({ dst := _, op := Op.load 3 _, type := _, pos := _, after := _, guard := _ } :: _) _ _; refine wpList_load1_has h rfl 3 _ rfl rfl hbx d1 Try.underlying3 rfl ?_)
              | (with_reducible show wpList _ _ _ ({ dst := _, op := Op.load 3 _, type := _, pos := _, after := _, guard := _ } :: _) _ _; refine wpList_load1_has h rfl 3 _ rfl rfl hbx d2 Try.underlying3 rfl ?_)
              | (with_reducible show wpList _ _ _ ({ dst := _, op := Op.load 3 _, type := _, pos := _, after := _, guard := _ } :: _) _ _; refine wpList_load1_has h rfl 3 _ rfl rfl hbx d3 Try.underlying3 rfl ?_)
              | (with_reducible show wpList _ _ _ ({ dst := _, op := Op.load 3 _, type := _, pos := _, after := _, guard := _ } :: _) _ _; refine wpList_load1_has h rfl 3 _ rfl rfl hbf r10 Try.underlying3 rfl ?_)
              | (at_builtin; refine wpList_append_lit h hle rfl _ _ _ rfl rfl Try.underlying40 info_u64 rfl (by omega) rfl hown rfl rfl rfl (by omega) (by omega) ?_; clear h hle hown; intro v w hacc))
            go_roundw
            case rel => exact ⟨j + 1, by omega, by go_num, by rw [E.out, HE.out]; exact hacc⟩
            case measure => simp [intOf]; omega
      have he : wd (S : Int) (p0, p1, p2, p3) = 0 := by simp [wd, c0, c1, c2, c3, c8, c9]
      have n0 : (p1 == 0) = false := beq_eq_false_iff_ne.2 c0
      have n1 : (p1 == 1) = false := beq_eq_false_iff_ne.2 c1
      have n2 : (p1 == 2) = false := beq_eq_false_iff_ne.2 c2
      have n3 : (p1 == 3) = false := beq_eq_false_iff_ne.2 c3
      have n8 : (p1 == 8) = false := beq_eq_false_iff_ne.2 c8
      have n9 : (p1 == 9) = false := beq_eq_false_iff_ne.2 c9
      clear c0 c1 c2 c3 c8 c9
      have HE := Lib.hid he
      clear he
      as_aux_lemma =>
        go_wp2_with (first
          | (with_reducible show wpList _ _ _ ({ dst := _, op := Op.load 3 _, type := _, pos := _, after := _, guard := _ } :: _) _ _; refine wpList_load1_has h rfl 3 _ rfl rfl hbx d1 Try.underlying3 rfl ?_)
          | (with_reducible show wpList _ _ _ ({ dst := _, op := Op.load 3 _, type := _, pos := _, after := _, guard := _ } :: _) _ _; refine wpList_load1_has h rfl 3 _ rfl rfl hbx d2 Try.underlying3 rfl ?_)
          | (with_reducible show wpList _ _ _ ({ dst := _, op := Op.load 3 _, type := _, pos := _, after := _, guard := _ } :: _) _ _; refine wpList_load1_has h rfl 3 _ rfl rfl hbx d3 Try.underlying3 rfl ?_)
          | (with_reducible show wpList _ _ _ ({ dst := _, op := Op.load 3 _, type := _, pos := _, after := _, guard := _ } :: _) _ _; refine wpList_load1_has h rfl 3 _ rfl rfl hbf r10 Try.underlying3 rfl ?_)
          | (at_builtin; refine wpList_append_lit h hle rfl _ _ _ rfl rfl Try.underlying40 info_u64 rfl (by omega) rfl hown rfl rfl rfl (by omega) (by omega) ?_; clear h hle hown; intro v w hacc))
        go_roundw
        case rel => exact ⟨j + 1, by omega, by go_num, by rw [E.out, HE.out]; exact hacc⟩
        case measure => simp [intOf]; omega
    · obtain rfl : j = N := by omega
      have hgt : ¬ ((j : Int) < (j : Int)) := by omega
      have HL := Lib.hid PL.out
      obtain ⟨A, cc, rfl⟩ := hown.form
      go_wp2
      go_ret
      refine ⟨_, rfl, ?_⟩
      have h9 := Acc.less (M0 := M) ⟨M4, h, hle, hown⟩ hleM
      rw [List.take_of_length_le (by rw [HL.out]; exact Nat.le_refl _)] at h9
      exact h9
end
section
open Go.RowKit
set_option linter.unusedVariables false
set_option linter.unusedSimpArgs false
set_option linter.unnecessarySimpa false
/-- There is such a place at some level. -/
def InKI (c : Nat → Int) (kk i j : Int) : Prop := ∃ k : Nat, kk = (k : Int) ∧ InK c k i j
set_option maxHeartbeats 8000000 in
set_option maxRecDepth 20000 in
theorem which_no {σ w : World} {M : Mm} (h : Has σ M w) (c : Nat → Int) (hc : ConfMay c) {p : Nat} (hp : M p = some (planRow c)) (lv kk i j : Int) (hi : i < 9223372036854775808) (hk : ¬ InKI c kk i j) :
    Calls Try.prog 75 #[.pointer (some ⟨p, 0, none⟩), .agg (plc lv kk i j)] w fun e w' => ∃ n, e = .returned (.tuple #[.int .i64 n, .bool false]) ∧ Has σ M w' := by
  have BA := Lib.hid (fun (M : Mm) (w : World) (h : Has σ M w) => base_has h kk (if kk = 8 ∨ kk = 9 then 1 else 0) rfl)
  obtain ⟨b, hb⟩ : ∃ b : Int, (if kk = 8 ∨ kk = 9 then 1 else 0) = b := ⟨_, rfl⟩
  have hb01 : 0 ≤ b ∧ b ≤ 1 := by rw [← hb]; split <;> omega
  rw [hb] at BA
  by_cases c0 : kk < 0
  · have g1 : decide (kk < 0) = true := decide_eq_true c0
    clear hk hc hb hb01 c0 hi
    as_aux_lemma =>
      go_enter Try.func75, Try.ntmps75
      go_upto_region 1 with (first
        | ((with_reducible show wpList _ _ _ ({ dst := _, op := Op.box 69 _, type := _, pos := _, after := _, guard := _ } :: _) _ _); refine wpList_box_has h rfl 69 _ rfl ?_; clear h; intro bx w h hnx; try simp only [Act.put, List.setIfInBounds_toArray, List.set_cons_zero, List.set_cons_succ]))
      generalize hM1 : M.upd bx _ = M1 at h
      have hle : M.le M1 := by rw [← hM1]; exact Mm.le_upd' hnx _
      have hbx : M1 bx = some (.cells (plc lv kk i j) 69) := by rw [← hM1]; exact Mm.upd_same _ _ _
      replace hp := hle _ _ hp
      clear hM1 hnx
      have d1 : (plc lv kk i j)[1]? = some (.int .i64 kk) := rfl
      have d2 : (plc lv kk i j)[2]? = some (.int .i64 i) := rfl
      have d3 : (plc lv kk i j)[3]? = some (.int .i64 j) := rfl
      refine wp_region_class (Has σ M1) (by kernel_rfl) (by kernel_rfl) h.drew ?_
      clear h
      repeat (first
        | go_big_quiet_skip
        | (go_big_quiet_want; first
          | (refine quiet_load_has 3 _ rfl rfl hbx d1 Try.underlying3 rfl ?_; simp only [Act.put, List.setIfInBounds_toArray, List.set_cons_zero, List.set_cons_succ]; go_big_quiet_on)
          | (refine quiet_load_has 3 _ rfl rfl hbx d2 Try.underlying3 rfl ?_; simp only [Act.put, List.setIfInBounds_toArray, List.set_cons_zero, List.set_cons_succ]; go_big_quiet_on)
          | (refine quiet_load_has 3 _ rfl rfl hbx d3 Try.underlying3 rfl ?_; simp only [Act.put, List.setIfInBounds_toArray, List.set_cons_zero, List.set_cons_succ]; go_big_quiet_on)
          | (go_big_quiet_op; first | go_big_quiet_on | go_big_quiet_call (first | with_reducible exact fun _ => rfl | with_reducible exact BA.out M1 _))))
      refine wpQuiet_nil ?_
      try clear w
      intro w h
      go_wp2
      go_ret2
      exact ⟨_, rfl, h.le hle⟩
  have g1 : decide (kk < 0) = false := decide_eq_false c0
  by_cases c1 : 10 ≤ kk
  · have g2 : decide (10 ≤ kk) = true := decide_eq_true c1
    clear hk hc hb hb01 c0 c1 hi
    as_aux_lemma =>
      go_enter Try.func75, Try.ntmps75
      go_upto_region 1 with (first
        | ((with_reducible show wpList _ _ _ ({ dst := _, op := Op.box 69 _, type := _, pos := _, after := _, guard := _ } :: _) _ _); refine wpList_box_has h rfl 69 _ rfl ?_; clear h; intro bx w h hnx; try simp only [Act.put, List.setIfInBounds_toArray, List.set_cons_zero, List.set_cons_succ]))
      generalize hM1 : M.upd bx _ = M1 at h
      have hle : M.le M1 := by rw [← hM1]; exact Mm.le_upd' hnx _
      have hbx : M1 bx = some (.cells (plc lv kk i j) 69) := by rw [← hM1]; exact Mm.upd_same _ _ _
      replace hp := hle _ _ hp
      clear hM1 hnx
      have d1 : (plc lv kk i j)[1]? = some (.int .i64 kk) := rfl
      have d2 : (plc lv kk i j)[2]? = some (.int .i64 i) := rfl
      have d3 : (plc lv kk i j)[3]? = some (.int .i64 j) := rfl
      refine wp_region_class (Has σ M1) (by kernel_rfl) (by kernel_rfl) h.drew ?_
      clear h
      repeat (first
        | go_big_quiet_skip
        | (go_big_quiet_want; first
          | (refine quiet_load_has 3 _ rfl rfl hbx d1 Try.underlying3 rfl ?_; simp only [Act.put, List.setIfInBounds_toArray, List.set_cons_zero, List.set_cons_succ]; go_big_quiet_on)
          | (refine quiet_load_has 3 _ rfl rfl hbx d2 Try.underlying3 rfl ?_; simp only [Act.put, List.setIfInBounds_toArray, List.set_cons_zero, List.set_cons_succ]; go_big_quiet_on)
          | (refine quiet_load_has 3 _ rfl rfl hbx d3 Try.underlying3 rfl ?_; simp only [Act.put, List.setIfInBounds_toArray, List.set_cons_zero, List.set_cons_succ]; go_big_quiet_on)
          | (go_big_quiet_op; first | go_big_quiet_on | go_big_quiet_call (first | with_reducible exact fun _ => rfl | with_reducible exact BA.out M1 _))))
      refine wpQuiet_nil ?_
      try clear w
      intro w h
      go_wp2
      go_ret2
      exact ⟨_, rfl, h.le hle⟩
  have g2 : decide (10 ≤ kk) = false := decide_eq_false c1
  by_cases c2 : i < b
  · have g3 : decide (i < b) = true := decide_eq_true c2
    clear hk hc hb hb01 c0 c1 c2 hi
    as_aux_lemma =>
      go_enter Try.func75, Try.ntmps75
      go_upto_region 1 with (first
        | ((with_reducible show wpList _ _ _ ({ dst := _, op := Op.box 69 _, type := _, pos := _, after := _, guard := _ } :: _) _ _); refine wpList_box_has h rfl 69 _ rfl ?_; clear h; intro bx w h hnx; try simp only [Act.put, List.setIfInBounds_toArray, List.set_cons_zero, List.set_cons_succ]))
      generalize hM1 : M.upd bx _ = M1 at h
      have hle : M.le M1 := by rw [← hM1]; exact Mm.le_upd' hnx _
      have hbx : M1 bx = some (.cells (plc lv kk i j) 69) := by rw [← hM1]; exact Mm.upd_same _ _ _
      replace hp := hle _ _ hp
      clear hM1 hnx
      have d1 : (plc lv kk i j)[1]? = some (.int .i64 kk) := rfl
      have d2 : (plc lv kk i j)[2]? = some (.int .i64 i) := rfl
      have d3 : (plc lv kk i j)[3]? = some (.int .i64 j) := rfl
      refine wp_region_class (Has σ M1) (by kernel_rfl) (by kernel_rfl) h.drew ?_
      clear h
      repeat (first
        | go_big_quiet_skip
        | (go_big_quiet_want; first
          | (refine quiet_load_has 3 _ rfl rfl hbx d1 Try.underlying3 rfl ?_; simp only [Act.put, List.setIfInBounds_toArray, List.set_cons_zero, List.set_cons_succ]; go_big_quiet_on)
          | (refine quiet_load_has 3 _ rfl rfl hbx d2 Try.underlying3 rfl ?_; simp only [Act.put, List.setIfInBounds_toArray, List.set_cons_zero, List.set_cons_succ]; go_big_quiet_on)
          | (refine quiet_load_has 3 _ rfl rfl hbx d3 Try.underlying3 rfl ?_; simp only [Act.put, List.setIfInBounds_toArray, List.set_cons_zero, List.set_cons_succ]; go_big_quiet_on)
          | (go_big_quiet_op; first | go_big_quiet_on | go_big_quiet_call (first | with_reducible exact fun _ => rfl | with_reducible exact BA.out M1 _))))
      refine wpQuiet_nil ?_
      try clear w
      intro w h
      go_wp2
      go_ret2
      exact ⟨_, rfl, h.le hle⟩
  have g3 : decide (i < b) = false := decide_eq_false c2
  by_cases c3 : j < 0
  · have g4 : decide (j < 0) = true := decide_eq_true c3
    clear hk hc hb hb01 c0 c1 c2 c3 hi
    as_aux_lemma =>
      go_enter Try.func75, Try.ntmps75
      go_upto_region 1 with (first
        | ((with_reducible show wpList _ _ _ ({ dst := _, op := Op.box 69 _, type := _, pos := _, after := _, guard := _ } :: _) _ _); refine wpList_box_has h rfl 69 _ rfl ?_; clear h; intro bx w h hnx; try simp only [Act.put, List.setIfInBounds_toArray, List.set_cons_zero, List.set_cons_succ]))
      generalize hM1 : M.upd bx _ = M1 at h
      have hle : M.le M1 := by rw [← hM1]; exact Mm.le_upd' hnx _
      have hbx : M1 bx = some (.cells (plc lv kk i j) 69) := by rw [← hM1]; exact Mm.upd_same _ _ _
      replace hp := hle _ _ hp
      clear hM1 hnx
      have d1 : (plc lv kk i j)[1]? = some (.int .i64 kk) := rfl
      have d2 : (plc lv kk i j)[2]? = some (.int .i64 i) := rfl
      have d3 : (plc lv kk i j)[3]? = some (.int .i64 j) := rfl
      refine wp_region_class (Has σ M1) (by kernel_rfl) (by kernel_rfl) h.drew ?_
      clear h
      repeat (first
        | go_big_quiet_skip
        | (go_big_quiet_want; first
          | (refine quiet_load_has 3 _ rfl rfl hbx d1 Try.underlying3 rfl ?_; simp only [Act.put, List.setIfInBounds_toArray, List.set_cons_zero, List.set_cons_succ]; go_big_quiet_on)
          | (refine quiet_load_has 3 _ rfl rfl hbx d2 Try.underlying3 rfl ?_; simp only [Act.put, List.setIfInBounds_toArray, List.set_cons_zero, List.set_cons_succ]; go_big_quiet_on)
          | (refine quiet_load_has 3 _ rfl rfl hbx d3 Try.underlying3 rfl ?_; simp only [Act.put, List.setIfInBounds_toArray, List.set_cons_zero, List.set_cons_succ]; go_big_quiet_on)
          | (go_big_quiet_op; first | go_big_quiet_on | go_big_quiet_call (first | with_reducible exact fun _ => rfl | with_reducible exact BA.out M1 _))))
      refine wpQuiet_nil ?_
      try clear w
      intro w h
      go_wp2
      go_ret2
      exact ⟨_, rfl, h.le hle⟩
  have g4 : decide (j < 0) = false := decide_eq_false c3
  by_cases c4 : 5 ≤ j
  · have g5 : decide (5 ≤ j) = true := decide_eq_true c4
    clear hk hc hb hb01 c0 c1 c2 c3 c4 hi
    as_aux_lemma =>
      go_enter Try.func75, Try.ntmps75
      go_upto_region 1 with (first
        | ((with_reducible show wpList _ _ _ ({ dst := _, op := Op.box 69 _, type := _, pos := _, after := _, guard := _ } :: _) _ _); refine wpList_box_has h rfl 69 _ rfl ?_; clear h; intro bx w h hnx; try simp only [Act.put, List.setIfInBounds_toArray, List.set_cons_zero, List.set_cons_succ]))
      generalize hM1 : M.upd bx _ = M1 at h
      have hle : M.le M1 := by rw [← hM1]; exact Mm.le_upd' hnx _
      have hbx : M1 bx = some (.cells (plc lv kk i j) 69) := by rw [← hM1]; exact Mm.upd_same _ _ _
      replace hp := hle _ _ hp
      clear hM1 hnx
      have d1 : (plc lv kk i j)[1]? = some (.int .i64 kk) := rfl
      have d2 : (plc lv kk i j)[2]? = some (.int .i64 i) := rfl
      have d3 : (plc lv kk i j)[3]? = some (.int .i64 j) := rfl
      refine wp_region_class (Has σ M1) (by kernel_rfl) (by kernel_rfl) h.drew ?_
      clear h
      repeat (first
        | go_big_quiet_skip
        | (go_big_quiet_want; first
          | (refine quiet_load_has 3 _ rfl rfl hbx d1 Try.underlying3 rfl ?_; simp only [Act.put, List.setIfInBounds_toArray, List.set_cons_zero, List.set_cons_succ]; go_big_quiet_on)
          | (refine quiet_load_has 3 _ rfl rfl hbx d2 Try.underlying3 rfl ?_; simp only [Act.put, List.setIfInBounds_toArray, List.set_cons_zero, List.set_cons_succ]; go_big_quiet_on)
          | (refine quiet_load_has 3 _ rfl rfl hbx d3 Try.underlying3 rfl ?_; simp only [Act.put, List.setIfInBounds_toArray, List.set_cons_zero, List.set_cons_succ]; go_big_quiet_on)
          | (go_big_quiet_op; first | go_big_quiet_on | go_big_quiet_call (first | with_reducible exact fun _ => rfl | with_reducible exact BA.out M1 _))))
      refine wpQuiet_nil ?_
      try clear w
      intro w h
      go_wp2
      go_ret2
      exact ⟨_, rfl, h.le hle⟩
  have g5 : decide (5 ≤ j) = false := decide_eq_false c4
  obtain ⟨k, rfl⟩ : ∃ k : Nat, kk = (k : Int) := ⟨kk.toNat, by omega⟩
  have hk10 : k < 10 := by omega
  have hbk : b = baseK k := by
    rw [← hb]
    unfold baseK
    by_cases e : k = 8 ∨ k = 9
    · rw [if_pos e, if_pos (by omega)]
    · rw [if_neg e, if_neg (by omega)]
  have HG := Lib.hid (manyRow2 c hk10)
  have hmb : 0 ≤ many c k ∧ many c k ≤ 300 := by
    obtain ⟨_, _, _, _, ⟨h2, h3⟩, ⟨h4, h5⟩, _⟩ := hc
    unfold many
    repeat' split
    all_goals omega
  have w1 : IntKind.i64.wrap (i - b) = i - b := IntWalk.i64_in _ (by omega)
  have hk0 : 0 ≤ (k : Int) := by omega
  have hk9 : (k : Int) < 10 := by omega
  by_cases c9 : k = 9
  · have g7 : ((k : Int) == 9) = true := beq_iff_eq.2 (by omega)
    have g7' : ((k : Int) != 9) = false := by unfold bne; rw [g7]; rfl
    by_cases c6 : many c k ≤ i - b
    · have g6 : decide (many c k ≤ i - b) = true := decide_eq_true c6
      clear hk hc hb hb01 c0 c1 c2 c3 c4 hi hbk hmb c6 c9 hk10
      generalize many c k = mk at *
      as_aux_lemma =>
        go_enter Try.func75, Try.ntmps75
        go_upto_region 1 with (first
          | ((with_reducible show wpList _ _ _ ({ dst := _, op := Op.box 69 _, type := _, pos := _, after := _, guard := _ } :: _) _ _); refine wpList_box_has h rfl 69 _ rfl ?_; clear h; intro bx w h hnx; try simp only [Act.put, List.setIfInBounds_toArray, List.set_cons_zero, List.set_cons_succ]))
        generalize hM1 : M.upd bx _ = M1 at h
        have hle : M.le M1 := by rw [← hM1]; exact Mm.le_upd' hnx _
        have hbx : M1 bx = some (.cells (plc lv (k : Int) i j) 69) := by rw [← hM1]; exact Mm.upd_same _ _ _
        replace hp := hle _ _ hp
        clear hM1 hnx
        have d1 : (plc lv (k : Int) i j)[1]? = some (.int .i64 (k : Int)) := rfl
        have d2 : (plc lv (k : Int) i j)[2]? = some (.int .i64 i) := rfl
        have d3 : (plc lv (k : Int) i j)[3]? = some (.int .i64 j) := rfl
        refine wp_region_class (Has σ M1) (by kernel_rfl) (by kernel_rfl) h.drew ?_
        clear h
        repeat (first
          | go_big_quiet_skip
          | (go_big_quiet_want; first
            | (refine quiet_load_has 3 _ rfl rfl hbx d1 Try.underlying3 rfl ?_; simp only [Act.put, List.setIfInBounds_toArray, List.set_cons_zero, List.set_cons_succ]; go_big_quiet_on)
            | (refine quiet_load_has 3 _ rfl rfl hbx d2 Try.underlying3 rfl ?_; simp only [Act.put, List.setIfInBounds_toArray, List.set_cons_zero, List.set_cons_succ]; go_big_quiet_on)
            | (refine quiet_load_has 3 _ rfl rfl hbx d3 Try.underlying3 rfl ?_; simp only [Act.put, List.setIfInBounds_toArray, List.set_cons_zero, List.set_cons_succ]; go_big_quiet_on)
            | (go_big_quiet_op; first | go_big_quiet_on | go_big_quiet_call (first | with_reducible exact fun _ => rfl | with_reducible exact BA.out M1 _))))
        refine wpQuiet_nil ?_
        try clear w
        intro w h
        go_upto_region 3 with (fail)
        refine wp_region_class (Has σ M1) (by kernel_rfl) (by kernel_rfl) h.drew ?_
        clear h
        repeat (first
          | go_big_quiet_skip
          | (go_big_quiet_want; first
            | (refine quiet_load_has 3 _ rfl rfl hbx d1 Try.underlying3 rfl ?_; simp only [Act.put, List.setIfInBounds_toArray, List.set_cons_zero, List.set_cons_succ]; go_big_quiet_on)
            | (refine quiet_load_has 3 _ rfl rfl hbx d2 Try.underlying3 rfl ?_; simp only [Act.put, List.setIfInBounds_toArray, List.set_cons_zero, List.set_cons_succ]; go_big_quiet_on)
            | (go_big_quiet_op; first | go_big_quiet_on | go_big_quiet_call (first | with_reducible exact fun _ => rfl | with_reducible exact BA.out M1 _))))
        refine wpQuiet_nil ?_
        try clear w
        intro w h
        go_upto_region 4 with (fail)
        refine wp_region_class (Has σ M1) (by kernel_rfl) (by kernel_rfl) h.drew ?_
        clear h
        repeat (first
          | go_big_quiet_skip
          | (go_big_quiet_want; first
            | (refine quiet_load_has 3 _ rfl rfl hbx d1 Try.underlying3 rfl ?_; simp only [Act.put, List.setIfInBounds_toArray, List.set_cons_zero, List.set_cons_succ]; go_big_quiet_on)
            | (refine quiet_load_has 3 _ rfl rfl hp HG.out Try.underlying3 rfl ?_; simp only [Act.put, List.setIfInBounds_toArray, List.set_cons_zero, List.set_cons_succ]; go_big_quiet_on)
            | (go_big_quiet_op; first | go_big_quiet_on | go_big_quiet_call (first | with_reducible exact fun _ => rfl))))
        refine wpQuiet_nil ?_
        try clear w
        intro w h
        go_wp2
        go_ret2
        exact ⟨_, rfl, h.le hle⟩
    · have g6 : decide (many c k ≤ i - b) = false := decide_eq_false c6
      have w2 : IntKind.i64.wrap ((i - b) * 5) = (i - b) * 5 := IntWalk.i64_in _ (by omega)
      have w3 : IntKind.i64.wrap ((i - b) * 5 + j) = (i - b) * 5 + j := IntWalk.i64_in _ (by omega)
      have g8 : decide ((i - b) * 5 + j < many c k) = false := decide_eq_false fun hlt => hk ⟨k, rfl, hk10, by omega, by omega, by omega, fun e => absurd c9 e, by
        subst c9
        unfold numK
        rw [if_pos rfl, show i - 1 = i - b by rw [hbk]; rfl]
        exact hlt⟩
      clear hk hc hb hb01 c0 c1 c2 c3 c4 hi hbk hmb c6 c9 hk10
      generalize many c k = mk at *
      as_aux_lemma =>
        go_enter Try.func75, Try.ntmps75
        go_upto_region 1 with (first
          | ((with_reducible show wpList _ _ _ ({ dst := _, op := Op.box 69 _, type := _, pos := _, after := _, guard := _ } :: _) _ _); refine wpList_box_has h rfl 69 _ rfl ?_; clear h; intro bx w h hnx; try simp only [Act.put, List.setIfInBounds_toArray, List.set_cons_zero, List.set_cons_succ]))
        generalize hM1 : M.upd bx _ = M1 at h
        have hle : M.le M1 := by rw [← hM1]; exact Mm.le_upd' hnx _
        have hbx : M1 bx = some (.cells (plc lv (k : Int) i j) 69) := by rw [← hM1]; exact Mm.upd_same _ _ _
        replace hp := hle _ _ hp
        clear hM1 hnx
        have d1 : (plc lv (k : Int) i j)[1]? = some (.int .i64 (k : Int)) := rfl
        have d2 : (plc lv (k : Int) i j)[2]? = some (.int .i64 i) := rfl
        have d3 : (plc lv (k : Int) i j)[3]? = some (.int .i64 j) := rfl
        refine wp_region_class (Has σ M1) (by kernel_rfl) (by kernel_rfl) h.drew ?_
        clear h
        repeat (first
          | go_big_quiet_skip
          | (go_big_quiet_want; first
            | (refine quiet_load_has 3 _ rfl rfl hbx d1 Try.underlying3 rfl ?_; simp only [Act.put, List.setIfInBounds_toArray, List.set_cons_zero, List.set_cons_succ]; go_big_quiet_on)
            | (refine quiet_load_has 3 _ rfl rfl hbx d2 Try.underlying3 rfl ?_; simp only [Act.put, List.setIfInBounds_toArray, List.set_cons_zero, List.set_cons_succ]; go_big_quiet_on)
            | (refine quiet_load_has 3 _ rfl rfl hbx d3 Try.underlying3 rfl ?_; simp only [Act.put, List.setIfInBounds_toArray, List.set_cons_zero, List.set_cons_succ]; go_big_quiet_on)
            | (go_big_quiet_op; first | go_big_quiet_on | go_big_quiet_call (first | with_reducible exact fun _ => rfl | with_reducible exact BA.out M1 _))))
        refine wpQuiet_nil ?_
        try clear w
        intro w h
        go_upto_region 3 with (fail)
        refine wp_region_class (Has σ M1) (by kernel_rfl) (by kernel_rfl) h.drew ?_
        clear h
        repeat (first
          | go_big_quiet_skip
          | (go_big_quiet_want; first
            | (refine quiet_load_has 3 _ rfl rfl hbx d1 Try.underlying3 rfl ?_; simp only [Act.put, List.setIfInBounds_toArray, List.set_cons_zero, List.set_cons_succ]; go_big_quiet_on)
            | (refine quiet_load_has 3 _ rfl rfl hbx d2 Try.underlying3 rfl ?_; simp only [Act.put, List.setIfInBounds_toArray, List.set_cons_zero, List.set_cons_succ]; go_big_quiet_on)
            | (go_big_quiet_op; first | go_big_quiet_on | go_big_quiet_call (first | with_reducible exact fun _ => rfl | with_reducible exact BA.out M1 _))))
        refine wpQuiet_nil ?_
        try clear w
        intro w h
        go_upto_region 4 with (fail)
        refine wp_region_class (Has σ M1) (by kernel_rfl) (by kernel_rfl) h.drew ?_
        clear h
        repeat (first
          | go_big_quiet_skip
          | (go_big_quiet_want; first
            | (refine quiet_load_has 3 _ rfl rfl hbx d1 Try.underlying3 rfl ?_; simp only [Act.put, List.setIfInBounds_toArray, List.set_cons_zero, List.set_cons_succ]; go_big_quiet_on)
            | (refine quiet_load_has 3 _ rfl rfl hp HG.out Try.underlying3 rfl ?_; simp only [Act.put, List.setIfInBounds_toArray, List.set_cons_zero, List.set_cons_succ]; go_big_quiet_on)
            | (go_big_quiet_op; first | go_big_quiet_on | go_big_quiet_call (first | with_reducible exact fun _ => rfl))))
        refine wpQuiet_nil ?_
        try clear w
        intro w h
        go_upto_region 8 with (first
          | (with_reducible show wpList _ _ _ ({ dst := _, op := Op.load 3 _, type := _, pos := _, after := _, guard := _ } :: _) _ _; refine wpList_load1_has h rfl 3 _ rfl rfl hbx d1 Try.underlying3 rfl ?_)
          | (with_reducible show wpList _ _ _ ({ dst := _, op := Op.load 3 _, type := _, pos := _, after := _, guard := _ } :: _) _ _; refine wpList_load1_has h rfl 3 _ rfl rfl hbx d3 Try.underlying3 rfl ?_))
        refine wp_region_class (Has σ M1) (by kernel_rfl) (by kernel_rfl) h.drew ?_
        clear h
        repeat (first
          | go_big_quiet_skip
          | (go_big_quiet_want; first
            | (refine quiet_load_has 3 _ rfl rfl hbx d1 Try.underlying3 rfl ?_; simp only [Act.put, List.setIfInBounds_toArray, List.set_cons_zero, List.set_cons_succ]; go_big_quiet_on)
            | (refine quiet_load_has 3 _ rfl rfl hp HG.out Try.underlying3 rfl ?_; simp only [Act.put, List.setIfInBounds_toArray, List.set_cons_zero, List.set_cons_succ]; go_big_quiet_on)
            | (go_big_quiet_op; first | go_big_quiet_on | go_big_quiet_call (first | with_reducible exact fun _ => rfl))))
        refine wpQuiet_nil ?_
        try clear w
        intro w h
        go_wp2
        go_ret2
        exact ⟨_, rfl, h.le hle⟩
  · have g7 : ((k : Int) == 9) = false := beq_eq_false_iff_ne.2 (by omega)
    have g7' : ((k : Int) != 9) = true := by unfold bne; rw [g7]; rfl
    by_cases c5 : j = 0
    · subst c5
      have g6 : decide (many c k ≤ i - b) = true := decide_eq_true (by
        rcases Int.lt_or_le (i - b) (many c k) with hlt | hle
        · exact absurd ⟨k, rfl, hk10, by omega, by omega, by omega, fun _ => rfl, by unfold numK; rw [if_neg c9, ← hbk]; exact hlt⟩ hk
        · exact hle)
      clear hk hc hb hb01 c0 c1 c2 c3 c4 hi hbk hmb c9 hk10 g4 g5
      generalize many c k = mk at *
      as_aux_lemma =>
        go_enter Try.func75, Try.ntmps75
        go_upto_region 1 with (first
          | ((with_reducible show wpList _ _ _ ({ dst := _, op := Op.box 69 _, type := _, pos := _, after := _, guard := _ } :: _) _ _); refine wpList_box_has h rfl 69 _ rfl ?_; clear h; intro bx w h hnx; try simp only [Act.put, List.setIfInBounds_toArray, List.set_cons_zero, List.set_cons_succ]))
        generalize hM1 : M.upd bx _ = M1 at h
        have hle : M.le M1 := by rw [← hM1]; exact Mm.le_upd' hnx _
        have hbx : M1 bx = some (.cells (plc lv (k : Int) i 0) 69) := by rw [← hM1]; exact Mm.upd_same _ _ _
        replace hp := hle _ _ hp
        clear hM1 hnx
        have d1 : (plc lv (k : Int) i 0)[1]? = some (.int .i64 (k : Int)) := rfl
        have d2 : (plc lv (k : Int) i 0)[2]? = some (.int .i64 i) := rfl
        have d3 : (plc lv (k : Int) i 0)[3]? = some (.int .i64 0) := rfl
        refine wp_region_class (Has σ M1) (by kernel_rfl) (by kernel_rfl) h.drew ?_
        clear h
        repeat (first
          | go_big_quiet_skip
          | (go_big_quiet_want; first
            | (refine quiet_load_has 3 _ rfl rfl hbx d1 Try.underlying3 rfl ?_; simp only [Act.put, List.setIfInBounds_toArray, List.set_cons_zero, List.set_cons_succ]; go_big_quiet_on)
            | (refine quiet_load_has 3 _ rfl rfl hbx d2 Try.underlying3 rfl ?_; simp only [Act.put, List.setIfInBounds_toArray, List.set_cons_zero, List.set_cons_succ]; go_big_quiet_on)
            | (refine quiet_load_has 3 _ rfl rfl hbx d3 Try.underlying3 rfl ?_; simp only [Act.put, List.setIfInBounds_toArray, List.set_cons_zero, List.set_cons_succ]; go_big_quiet_on)
            | (go_big_quiet_op; first | go_big_quiet_on | go_big_quiet_call (first | with_reducible exact fun _ => rfl | with_reducible exact BA.out M1 _))))
        refine wpQuiet_nil ?_
        try clear w
        intro w h
        go_upto_region 3 with (fail)
        refine wp_region_class (Has σ M1) (by kernel_rfl) (by kernel_rfl) h.drew ?_
        clear h
        repeat (first
          | go_big_quiet_skip
          | (go_big_quiet_want; first
            | (refine quiet_load_has 3 _ rfl rfl hbx d1 Try.underlying3 rfl ?_; simp only [Act.put, List.setIfInBounds_toArray, List.set_cons_zero, List.set_cons_succ]; go_big_quiet_on)
            | (refine quiet_load_has 3 _ rfl rfl hbx d2 Try.underlying3 rfl ?_; simp only [Act.put, List.setIfInBounds_toArray, List.set_cons_zero, List.set_cons_succ]; go_big_quiet_on)
            | (go_big_quiet_op; first | go_big_quiet_on | go_big_quiet_call (first | with_reducible exact fun _ => rfl | with_reducible exact BA.out M1 _))))
        refine wpQuiet_nil ?_
        try clear w
        intro w h
        go_upto_region 4 with (fail)
        refine wp_region_class (Has σ M1) (by kernel_rfl) (by kernel_rfl) h.drew ?_
        clear h
        repeat (first
          | go_big_quiet_skip
          | (go_big_quiet_want; first
            | (refine quiet_load_has 3 _ rfl rfl hbx d1 Try.underlying3 rfl ?_; simp only [Act.put, List.setIfInBounds_toArray, List.set_cons_zero, List.set_cons_succ]; go_big_quiet_on)
            | (refine quiet_load_has 3 _ rfl rfl hp HG.out Try.underlying3 rfl ?_; simp only [Act.put, List.setIfInBounds_toArray, List.set_cons_zero, List.set_cons_succ]; go_big_quiet_on)
            | (go_big_quiet_op; first | go_big_quiet_on | go_big_quiet_call (first | with_reducible exact fun _ => rfl))))
        refine wpQuiet_nil ?_
        try clear w
        intro w h
        go_wp2
        go_ret2
        exact ⟨_, rfl, h.le hle⟩
    · have g6 : (j == 0) = false := beq_eq_false_iff_ne.2 c5
      clear hk hc hb hb01 c0 c1 c2 c3 c4 hi hbk hmb c5 c9 hk10
      as_aux_lemma =>
        go_enter Try.func75, Try.ntmps75
        go_upto_region 1 with (first
          | ((with_reducible show wpList _ _ _ ({ dst := _, op := Op.box 69 _, type := _, pos := _, after := _, guard := _ } :: _) _ _); refine wpList_box_has h rfl 69 _ rfl ?_; clear h; intro bx w h hnx; try simp only [Act.put, List.setIfInBounds_toArray, List.set_cons_zero, List.set_cons_succ]))
        generalize hM1 : M.upd bx _ = M1 at h
        have hle : M.le M1 := by rw [← hM1]; exact Mm.le_upd' hnx _
        have hbx : M1 bx = some (.cells (plc lv (k : Int) i j) 69) := by rw [← hM1]; exact Mm.upd_same _ _ _
        replace hp := hle _ _ hp
        clear hM1 hnx
        have d1 : (plc lv (k : Int) i j)[1]? = some (.int .i64 (k : Int)) := rfl
        have d2 : (plc lv (k : Int) i j)[2]? = some (.int .i64 i) := rfl
        have d3 : (plc lv (k : Int) i j)[3]? = some (.int .i64 j) := rfl
        refine wp_region_class (Has σ M1) (by kernel_rfl) (by kernel_rfl) h.drew ?_
        clear h
        repeat (first
          | go_big_quiet_skip
          | (go_big_quiet_want; first
            | (refine quiet_load_has 3 _ rfl rfl hbx d1 Try.underlying3 rfl ?_; simp only [Act.put, List.setIfInBounds_toArray, List.set_cons_zero, List.set_cons_succ]; go_big_quiet_on)
            | (refine quiet_load_has 3 _ rfl rfl hbx d2 Try.underlying3 rfl ?_; simp only [Act.put, List.setIfInBounds_toArray, List.set_cons_zero, List.set_cons_succ]; go_big_quiet_on)
            | (refine quiet_load_has 3 _ rfl rfl hbx d3 Try.underlying3 rfl ?_; simp only [Act.put, List.setIfInBounds_toArray, List.set_cons_zero, List.set_cons_succ]; go_big_quiet_on)
            | (go_big_quiet_op; first | go_big_quiet_on | go_big_quiet_call (first | with_reducible exact fun _ => rfl | with_reducible exact BA.out M1 _))))
        refine wpQuiet_nil ?_
        try clear w
        intro w h
        go_wp2
        go_ret2
        exact ⟨_, rfl, h.le hle⟩
set_option maxHeartbeats 4000000 in
theorem at_no {σ w : World} {M : Mm} (h : Has σ M w) (c : Nat → Int) (hc : ConfMay c) {p : Nat} (hp : M p = some (planRow c)) (lv kk i j : Int) (hi : i < 9223372036854775808) (hk : lv < 0 ∨ c 0 ≤ lv ∨ ¬ InKI c kk i j) :
    Calls Try.prog 59 #[.pointer (some ⟨p, 0, none⟩), .agg (plc lv kk i j)] w fun e w' => e = .returned (.int .i64 (-1)) ∧ Has σ M w' := by
  have H0 : Hid ((ints .i64 35 (planC c))[0]? = some (.int .i64 (c 0))) := rfl
  have HK := Lib.hid hk
  by_cases c0 : lv < 0
  · have g1 : decide (lv < 0) = true := decide_eq_true c0
    clear hk hc hi c0 HK
    generalize c 0 = cz at *
    go_enter Try.func59, Try.ntmps59
    go_upto_region 1 with (first
      | ((with_reducible show wpList _ _ _ ({ dst := _, op := Op.box 69 _, type := _, pos := _, after := _, guard := _ } :: _) _ _); refine wpList_box_has h rfl 69 _ rfl ?_; clear h; intro bx w h hnx; try simp only [Act.put, List.setIfInBounds_toArray, List.set_cons_zero, List.set_cons_succ]))
    generalize hM1 : M.upd bx _ = M1 at h
    have hle : M.le M1 := by rw [← hM1]; exact Mm.le_upd' hnx _
    have hbx : M1 bx = some (.cells (plc lv kk i j) 69) := by rw [← hM1]; exact Mm.upd_same _ _ _
    replace hp := hle _ _ hp
    clear hM1 hnx
    have d0 : (plc lv kk i j)[0]? = some (.int .i64 lv) := rfl
    refine wp_region_class (Has σ M1) (by kernel_rfl) (by kernel_rfl) h.drew ?_
    clear h
    repeat (first
      | go_big_quiet_skip
      | (go_big_quiet_want; first
        | (refine quiet_load_has 3 _ rfl rfl hbx d0 Try.underlying3 rfl ?_; simp only [Act.put, List.setIfInBounds_toArray, List.set_cons_zero, List.set_cons_succ]; go_big_quiet_on)
        | (refine quiet_load_has 3 _ rfl rfl hp H0.out Try.underlying3 rfl ?_; simp only [Act.put, List.setIfInBounds_toArray, List.set_cons_zero, List.set_cons_succ]; go_big_quiet_on)
        | (go_big_quiet_op; first | go_big_quiet_on | go_big_quiet_call (first | with_reducible exact fun _ => rfl))))
    refine wpQuiet_nil ?_
    try clear w
    intro w h
    go_wp2
    go_ret
    exact ⟨rfl, h.le hle⟩
  have g1 : decide (lv < 0) = false := decide_eq_false c0
  by_cases c1 : c 0 ≤ lv
  · have g2 : decide (c 0 ≤ lv) = true := decide_eq_true c1
    clear hk hc hi c0 c1 HK
    generalize c 0 = cz at *
    go_enter Try.func59, Try.ntmps59
    go_upto_region 1 with (first
      | ((with_reducible show wpList _ _ _ ({ dst := _, op := Op.box 69 _, type := _, pos := _, after := _, guard := _ } :: _) _ _); refine wpList_box_has h rfl 69 _ rfl ?_; clear h; intro bx w h hnx; try simp only [Act.put, List.setIfInBounds_toArray, List.set_cons_zero, List.set_cons_succ]))
    generalize hM1 : M.upd bx _ = M1 at h
    have hle : M.le M1 := by rw [← hM1]; exact Mm.le_upd' hnx _
    have hbx : M1 bx = some (.cells (plc lv kk i j) 69) := by rw [← hM1]; exact Mm.upd_same _ _ _
    replace hp := hle _ _ hp
    clear hM1 hnx
    have d0 : (plc lv kk i j)[0]? = some (.int .i64 lv) := rfl
    refine wp_region_class (Has σ M1) (by kernel_rfl) (by kernel_rfl) h.drew ?_
    clear h
    repeat (first
      | go_big_quiet_skip
      | (go_big_quiet_want; first
        | (refine quiet_load_has 3 _ rfl rfl hbx d0 Try.underlying3 rfl ?_; simp only [Act.put, List.setIfInBounds_toArray, List.set_cons_zero, List.set_cons_succ]; go_big_quiet_on)
        | (refine quiet_load_has 3 _ rfl rfl hp H0.out Try.underlying3 rfl ?_; simp only [Act.put, List.setIfInBounds_toArray, List.set_cons_zero, List.set_cons_succ]; go_big_quiet_on)
        | (go_big_quiet_op; first | go_big_quiet_on | go_big_quiet_call (first | with_reducible exact fun _ => rfl))))
    refine wpQuiet_nil ?_
    try clear w
    intro w h
    go_wp2
    go_ret
    exact ⟨rfl, h.le hle⟩
  have g2 : decide (c 0 ≤ lv) = false := decide_eq_false c1
  have WH := Lib.hid (fun (M : Mm) (w : World) (h : Has σ M w) hp => which_no h c hc (p := p) hp lv kk i j hi ((hk.resolve_left c0).resolve_left c1))
  clear hk hc hi c0 c1 HK
  generalize c 0 = cz at *
  go_enter Try.func59, Try.ntmps59
  go_upto_region 1 with (first
    | ((with_reducible show wpList _ _ _ ({ dst := _, op := Op.box 69 _, type := _, pos := _, after := _, guard := _ } :: _) _ _); refine wpList_box_has h rfl 69 _ rfl ?_; clear h; intro bx w h hnx; try simp only [Act.put, List.setIfInBounds_toArray, List.set_cons_zero, List.set_cons_succ]))
  generalize hM1 : M.upd bx _ = M1 at h
  have hle : M.le M1 := by rw [← hM1]; exact Mm.le_upd' hnx _
  have hbx : M1 bx = some (.cells (plc lv kk i j) 69) := by rw [← hM1]; exact Mm.upd_same _ _ _
  replace hp := hle _ _ hp
  clear hM1 hnx
  have d0 : (plc lv kk i j)[0]? = some (.int .i64 lv) := rfl
  have dx : (plc lv kk i j).extract 0 (0 + 4) = plc lv kk i j := rfl
  have HW := Lib.hid (fun (w : World) (h : Has σ M1 w) => WH.out M1 w h hp)
  clear WH
  refine wp_region_class (Has σ M1) (by kernel_rfl) (by kernel_rfl) h.drew ?_
  clear h
  repeat (first
    | go_big_quiet_skip
    | (go_big_quiet_want; first
      | (refine quiet_load_has 3 _ rfl rfl hbx d0 Try.underlying3 rfl ?_; simp only [Act.put, List.setIfInBounds_toArray, List.set_cons_zero, List.set_cons_succ]; go_big_quiet_on)
      | (refine quiet_load_has 3 _ rfl rfl hp H0.out Try.underlying3 rfl ?_; simp only [Act.put, List.setIfInBounds_toArray, List.set_cons_zero, List.set_cons_succ]; go_big_quiet_on)
      | (go_big_quiet_op; first | go_big_quiet_on | go_big_quiet_call (first | with_reducible exact fun _ => rfl))))
  refine wpQuiet_nil ?_
  try clear w
  intro w h
  go_wp2_with (first
    | ((with_reducible show wpList _ _ _ ({ dst := _, op := Op.load 69 _, type := _, pos := _, after := _, guard := _ } :: _) _ _); refine wpList_agg_has h rfl 69 _ rfl rfl hbx dx rfl Try.underlying69 rfl (by kernel_rfl) ?_; try simp only [Act.put, List.setIfInBounds_toArray, List.set_cons_zero, List.set_cons_succ])
    | (go_at_call 75; refine (HW.out _ h).mono ?_; clear h; rintro e w ⟨n, rfl, h⟩))
  go_ret
  exact ⟨rfl, h.le hle⟩
end
section
open Go.RowKit
set_option linter.unusedVariables false
set_option linter.unusedSimpArgs false
set_option linter.unnecessarySimpa false
def plKs : List Kd := [some (some .i64), some (some .i64), some (some .i64), some (some .i64)]
def plRow (x : Pl) : Array Value := #[.int .i64 x.1, .int .i64 x.2.1, .int .i64 x.2.2.1, .int .i64 x.2.2.2]
theorem fits_pl (x : Pl) : fits plKs (plRow x).toList := ⟨rfl, rfl, rfl, rfl, trivial⟩
theorem sames_pl (x y : Pl) : sames (plRow x).toList (plRow y).toList = decide (x = y) := by
  obtain ⟨a, b, c, d⟩ := x
  obtain ⟨a', b', c', d'⟩ := y
  rw [Bool.eq_iff_iff]
  simp [plRow, sames, same, Prod.mk.injEq]
set_option maxHeartbeats 4000000 in
set_option maxRecDepth 20000 in
theorem refAt_eq {σ w : World} {M : Mm} (h : Has σ M w) {va : Value} {n : Nat} {l : List Pl} (ha : Rd M 4 va n (l.flatMap encP)) (hl : l.length = n) (hn : n ≤ 100000) (x : Pl) (r : Int) (hr : (∃ a : Nat, r = (a : Int) ∧ l[a]? = some x ∧ ∀ b, b < a → l[b]? ≠ some x) ∨ (r = -1 ∧ ∀ b : Nat, l[b]? ≠ some x)) :
    Calls Try.prog 40 #[va, .agg (plRow x)] w fun e w' => e = .returned (.int .i64 r) ∧ Has σ M w' := by
  obtain ⟨A, c, rfl⟩ := ha.form
  have HR := Lib.hid hr
  have HL := Lib.hid hl
  have hxx : (plRow x).extract 0 (0 + 4) = plRow x := rfl
  have hxz : (plRow x).size = 4 := rfl
  have FX := Lib.hid (fits_pl x)
  have SA := Lib.hid (fun y => sames_pl y x)
  clear hr hl
  generalize hrow : plRow x = rx at *
  clear hrow
  go_enter Try.func40, Try.ntmps40
  go_upto_region 1 with (fail)
  obtain ⟨M1, hbx, hle, hbq, hnx⟩ := h.box (.cells rx 63)
  generalize w.alloc _ = wx at hbx ⊢
  generalize w.heap.size = bx at hbq hnx ⊢
  clear h
  try clear w
  have h := hbx
  clear hbx
  obtain ⟨w, rfl⟩ : ∃ x : World, x = wx := ⟨_, rfl⟩
  replace ha := ha.le hle
  go_wp2
  go_loopw [5] (fun i wr => ∃ j : Nat, j ≤ n ∧ i = .int .i64 (j : Nat) ∧ Has σ M1 wr ∧ Hid (∀ b, b < j → l[b]? ≠ some x)) (fun i _ => n - (intOf i).toNat)
  case atStart => exact ⟨0, Nat.zero_le _, rfl, h, Lib.hid fun b hb => absurd hb (Nat.not_lt_zero b)⟩
  case round =>
    clear h w
    obtain ⟨w, rfl⟩ : ∃ x : World, x = wr := ⟨_, rfl⟩
    obtain ⟨j, hj, rfl, h, HB⟩ := hrel
    by_cases hlt : j < n
    · have hlt' : (j : Int) < (n : Int) := by omega
      obtain ⟨y, hy⟩ : ∃ y, l[j]? = some y := ⟨_, List.getElem?_eq_getElem (by have := HL.out; omega)⟩
      obtain ⟨bl, ol, cl, csl, tl, fl, e1, hMl, hxl⟩ := ha.elem encP_len hlt hy
      cases e1
      have hc1 : csl.extract (ol + j * 4) (ol + j * 4 + 4) = plRow y := extract_of (n := 4) hxl rfl
      have hz1 : (plRow y).size = 4 := rfl
      have FY := Lib.hid (fits_pl y)
      have SY := Lib.hid (SA.out y)
      have HY := Lib.hid hy
      clear hxl ha hy
      by_cases hq : y = x
      · have SQ : Hid (sames (plRow y).toList rx.toList = true) := Lib.hid (by rw [SY.out]; exact decide_eq_true hq)
        have RJ : Hid (r = (j : Int)) := Lib.hid (by
          rcases HR.out with ⟨a, e, g1, g2⟩ | ⟨e, g⟩
          · rcases Nat.lt_trichotomy a j with h1 | h1 | h1
            · exact absurd g1 (HB.out a h1)
            · rw [e, h1]
            · exact absurd (by rw [HY.out, hq]) (g2 j h1)
          · exact absurd (by rw [HY.out, hq]) (g j))
        clear hq
        generalize plRow y = ry at *
        go_upto_region 4 with (fail)
        refine wp_region_class (Has σ M1) (by kernel_rfl) (by kernel_rfl) h.drew ?_
        clear h
        repeat (first
          | go_big_quiet_skip
          | (go_big_quiet_want; first
            | (refine quiet_agg_has 63 _ rfl rfl hMl hc1 hz1 Try.underlying63 rfl (by kernel_rfl) ?_; simp only [Act.put, List.setIfInBounds_toArray, List.set_cons_zero, List.set_cons_succ]; go_big_quiet_on)
            | (refine quiet_agg_has 63 _ rfl rfl hbq hxx hxz Try.underlying63 rfl (by kernel_rfl) ?_; simp only [Act.put, List.setIfInBounds_toArray, List.set_cons_zero, List.set_cons_succ]; go_big_quiet_on)
            | (refine quiet_eql_flat 63 _ _ _ rfl rfl rfl 10 (by omega) (ks := plKs) (by kernel_rfl) rfl (by kernel_rfl) Try.underlying63 rfl (by kernel_rfl) FY.out FX.out ?_; rw [SQ.out]; simp only [Act.put, List.setIfInBounds_toArray, List.set_cons_zero, List.set_cons_succ]; go_big_quiet_on)
            | (go_big_quiet_op; first | go_big_quiet_on | go_big_quiet_call (first | with_reducible exact fun _ => rfl))))
        refine wpQuiet_nil ?_
        try clear w
        intro w h
        go_wp2
        go_ret
        exact ⟨by rw [RJ.out]; rfl, h.le hle⟩
      · have SQ : Hid (sames (plRow y).toList rx.toList = false) := Lib.hid (by rw [SY.out]; exact decide_eq_false hq)
        have HB2 : Hid (∀ b, b < j + 1 → l[b]? ≠ some x) := Lib.hid fun b hb => by
          by_cases e : b = j
          · subst e; rw [HY.out]; exact fun e => hq (Option.some.inj e)
          · exact HB.out b (by omega)
        clear hq HB
        generalize plRow y = ry at *
        go_upto_region 4 with (fail)
        refine wp_region_class (Has σ M1) (by kernel_rfl) (by kernel_rfl) h.drew ?_
        clear h
        repeat (first
          | go_big_quiet_skip
          | (go_big_quiet_want; first
            | (refine quiet_agg_has 63 _ rfl rfl hMl hc1 hz1 Try.underlying63 rfl (by kernel_rfl) ?_; simp only [Act.put, List.setIfInBounds_toArray, List.set_cons_zero, List.set_cons_succ]; go_big_quiet_on)
            | (refine quiet_agg_has 63 _ rfl rfl hbq hxx hxz Try.underlying63 rfl (by kernel_rfl) ?_; simp only [Act.put, List.setIfInBounds_toArray, List.set_cons_zero, List.set_cons_succ]; go_big_quiet_on)
            | (refine quiet_eql_flat 63 _ _ _ rfl rfl rfl 10 (by omega) (ks := plKs) (by kernel_rfl) rfl (by kernel_rfl) Try.underlying63 rfl (by kernel_rfl) FY.out FX.out ?_; rw [SQ.out]; simp only [Act.put, List.setIfInBounds_toArray, List.set_cons_zero, List.set_cons_succ]; go_big_quiet_on)
            | (go_big_quiet_op; first | go_big_quiet_on | go_big_quiet_call (first | with_reducible exact fun _ => rfl))))
        refine wpQuiet_nil ?_
        try clear w
        intro w h
        go_wp2
        go_roundw
        case rel => exact ⟨j + 1, by omega, by go_num, h, HB2⟩
        case measure => simp [intOf]; omega
    · obtain rfl : j = n := by omega
      have hgt : ¬ ((j : Int) < (j : Int)) := by omega
      have RJ : Hid (r = -1) := Lib.hid (by
        rcases HR.out with ⟨a, e, g1, g2⟩ | ⟨e, g⟩
        · rcases Nat.lt_or_ge a j with h1 | h1
          · exact absurd g1 (HB.out a h1)
          · rw [List.getElem?_eq_none (by rw [HL.out]; exact h1)] at g1
            cases g1
        · exact e)
      go_wp2
      go_ret
      exact ⟨by rw [RJ.out]; rfl, h.le hle⟩
theorem pl_in {c : Nat → Int} (hc : ConfMay c) {k : Nat} {r : Int} (hk : k ≤ 9) (h1 : firsts c k ≤ r) (h2 : r < firsts c (k + 1)) : InK c k (plI c k r) (plJ c k r) ∧ numK k (plI c k r) (plJ c k r) = r - firsts c k := by
  have e : numK k (plI c k r) (plJ c k r) = r - firsts c k := by
    unfold numK plI plJ baseK
    by_cases h9 : k = 9
    · subst h9; simp; omega
    · by_cases h8 : k = 8
      · subst h8; simp
      · simp [h9, h8]
  have hs := firsts_succ c (k := k) (by omega)
  refine ⟨⟨by omega, ?_, ?_, ?_, ?_, ?_⟩, e⟩
  · unfold plI baseK
    by_cases h9 : k = 9
    · subst h9; simp; omega
    · by_cases h8 : k = 8
      · subst h8; simp; omega
      · simp [h9, h8]; omega
  · unfold plJ; split <;> omega
  · unfold plJ; split <;> omega
  · intro h; unfold plJ; rw [if_neg h]
  · rw [e]; omega
theorem pl_of {c : Nat → Int} {k : Nat} {i j : Int} (h : InK c k i j) : plI c k (firsts c k + numK k i j) = i ∧ plJ c k (firsts c k + numK k i j) = j := by
  obtain ⟨h1, h2, h3, h4, h5, h6⟩ := h
  unfold plI plJ numK baseK
  by_cases h9 : k = 9
  · subst h9; simp; omega
  · have := h5 h9
    by_cases h8 : k = 8
    · subst h8; simp; omega
    · simp [h9, h8]; omega
theorem allP_out {c : Nat → Int} (hc : ConfMay c) {L B S : Nat} (hn : Nums c L B S) {b : Nat} {x : Pl} (h : (allP c (c 0).toNat)[b]? = some x) : ∃ k : Nat, x.2.1 = (k : Int) ∧ 0 ≤ x.1 ∧ x.1 < c 0 ∧ InK c k x.2.2.1 x.2.2.2 ∧ (b : Int) = atK c x.1 k x.2.2.1 x.2.2.2 := by
  have hlen : (allP c (c 0).toNat).length = L * (18 + B + 6 * S) := by
    have h1 := allP_len hc (c 0).toNat
    rw [hn.sz, hn.lev] at h1
    rw [hn.lev]
    exact_mod_cast h1
  have hb : b < L * (18 + B + 6 * S) := by
    rcases Nat.lt_or_ge b (L * (18 + B + 6 * S)) with h1 | h1
    · exact h1
    · rw [List.getElem?_eq_none (by rw [hlen]; exact h1)] at h; cases h
  obtain ⟨k, hk, k1, k2, hg⟩ := place_at hc hn hb
  rw [hg] at h
  cases h
  obtain ⟨g1, g2⟩ := pl_in hc hk k1 k2
  have hlt : b / (18 + B + 6 * S) < L := Nat.div_lt_of_lt_mul (by rw [Nat.mul_comm]; exact hb)
  refine ⟨k, rfl, Int.natCast_nonneg _, by show ((b / (18 + B + 6 * S) : Nat) : Int) < c 0; rw [hn.lev]; exact_mod_cast hlt, g1, ?_⟩
  show (b : Int) = ((b / (18 + B + 6 * S) : Nat) : Int) * firsts c 10 + firsts c k + numK k _ _
  rw [g2, hn.sz]
  have := Nat.div_add_mod b (18 + B + 6 * S)
  have h3 : (((18 + B + 6 * S) * (b / (18 + B + 6 * S)) + b % (18 + B + 6 * S) : Nat) : Int) = (b : Int) := by rw [this]
  rw [Int.natCast_add, Int.natCast_mul, Int.mul_comm] at h3
  omega
theorem allP_in {c : Nat → Int} (hc : ConfMay c) {L B S : Nat} (hn : Nums c L B S) {lv i j : Int} {k : Nat} (h0 : 0 ≤ lv) (h1 : lv < c 0) (hk : InK c k i j) : ∃ a : Nat, atK c lv k i j = (a : Int) ∧ (allP c (c 0).toNat)[a]? = some (lv, (k : Int), i, j) := by
  obtain ⟨m, rfl⟩ : ∃ m : Nat, lv = (m : Int) := ⟨lv.toNat, by omega⟩
  have hs := firsts_succ c (k := k) hk.kind
  have hnn := numK_nn hk
  have hhi := hk.high
  have hfb := firsts_bd hc k
  obtain ⟨r, hr⟩ : ∃ r : Nat, firsts c k + numK k i j = (r : Int) := ⟨(firsts c k + numK k i j).toNat, by omega⟩
  obtain ⟨e1, e2⟩ := pl_of hk
  have hg := allP_get hc (L := (c 0).toNat) (m := m) (r := r) (by omega) (k := k) (by have := hk.kind; omega) (by omega) (by omega)
  rw [← hr, e1, e2] at hg
  refine ⟨m * (firsts c 10).toNat + r, ?_, hg⟩
  unfold atK
  have := hn.sz
  rw [Int.natCast_add, Int.natCast_mul, ← hr]
  have : (((firsts c 10).toNat : Nat) : Int) = firsts c 10 := by omega
  rw [this]
  omega
end
section
open Go.RowKit
set_option linter.unusedVariables false
set_option linter.unusedSimpArgs false
set_option linter.unnecessarySimpa false
theorem levelOf_bd {c : Nat → Int} (hc : ConfMay c) (t : Int) : levelOf c t = -1 ∨ (0 ≤ levelOf c t ∧ levelOf c t < c 0) := by
  have hc' := hc
  obtain ⟨h0, ⟨a3, a4⟩, _, a5, _⟩ := hc'
  by_cases h : confMayB c = true ∧ 0 ≤ t ∧ (t.toNat : Int) < c 1
  · right
    have e : levelOf c t = c (2 + t.toNat) := by unfold levelOf; exact if_pos ⟨h.1, h.2.1, by omega⟩
    have := a5 t.toNat (by omega)
    rw [e]
    omega
  · left
    unfold levelOf
    rw [if_neg (fun g => h ⟨g.1, g.2.1, by omega⟩)]
set_option maxHeartbeats 1000000 in
theorem mSpot_no {σ w : World} {M : Mm} {lab : Nat → Nat} {p : Nat} {s : MachS} (h : Has σ M w) (hM : Mach M lab p s) (t lv : Int) (hlv : levelOf s.c t = lv) (x kk i j : Int) (hi : i < 9223372036854775808) (hk : lv < 0 ∨ s.c 0 ≤ lv ∨ ¬ InKI s.c kk i j) :
    Calls Try.prog 33 #[.pointer (some ⟨p, 0, none⟩), .int .i64 t, .agg #[.int .i64 x, .int .i64 kk, .int .i64 i, .int .i64 j]] w fun r w' => r = .returned (.int .i64 (-1)) ∧ Has σ M w' := by
  have LV := Lib.hid (fun (M' : Mm) (w : World) (h : Has σ M' w) (hle : M.le M') => mLevel_eq h (hM.keep (Kp.le hle fun _ => 0) fun _ _ h => h) t)
  have PL := Lib.hid (fun (M' : Mm) (w : World) (h : Has σ M' w) (hle : M.le M') => mPlan_eq h (hM.keep (Kp.le hle fun _ => 0) fun _ _ h => h))
  have AT := Lib.hid (fun (M' : Mm) (w : World) (h : Has σ M' w) (hle : M.le M') => at_no h s.c hM.may (hle _ _ hM.plan) lv kk i j hi hk)
  rw [hlv] at LV
  unfold plc at AT
  clear hM hlv hk hi
  go_enter Try.func33, Try.ntmps33
  go_upto_region 1 with (fail)
  obtain ⟨M1, hbx, hle, hbx1, hnx⟩ := h.box (.cells #[.int .i64 x, .int .i64 kk, .int .i64 i, .int .i64 j] 69)
  generalize w.alloc _ = wx at hbx ⊢
  generalize w.heap.size = bx at hbx1 hnx ⊢
  clear h
  try clear w
  have h := hbx
  clear hbx
  obtain ⟨w, rfl⟩ : ∃ x : World, x = wx := ⟨_, rfl⟩
  have hlt : 0 < (#[.int .i64 x, .int .i64 kk, .int .i64 i, .int .i64 j] : Array Value).size := show 0 < 4 by omega
  go_upto_region 2 with (first
    | (go_at_call 9; refine (LV.out _ _ h hle).mono ?_; clear h; rintro _ w ⟨rfl, h⟩)
    | (with_reducible show wpList _ _ _ ({ dst := _, op := Op.store 3 _ _, type := _, pos := _, after := _, guard := _ } :: _) _ _; refine wpList_store1_has h rfl 3 _ _ rfl rfl rfl hbx1 hlt rfl (by kernel_rfl) ?_; clear h; intro w h))
  have h2 : Has σ (M1.upd bx (.cells #[.int .i64 lv, .int .i64 kk, .int .i64 i, .int .i64 j] 69)) w := h
  have hle2 : M.le (M1.upd bx (.cells #[.int .i64 lv, .int .i64 kk, .int .i64 i, .int .i64 j] 69)) := Mm.le_upd hle hnx _
  have hbx2 := Mm.upd_same M1 bx (.cells #[.int .i64 lv, .int .i64 kk, .int .i64 i, .int .i64 j] 69)
  clear h hbx1 hlt hle
  have h := h2
  clear h2
  generalize M1.upd bx _ = M2 at h hle2 hbx2
  have dx : (#[.int .i64 lv, .int .i64 kk, .int .i64 i, .int .i64 j] : Array Value).extract 0 (0 + 4) = #[.int .i64 lv, .int .i64 kk, .int .i64 i, .int .i64 j] := rfl
  have PL2 := Lib.hid (fun (w : World) (h : Has σ M2 w) => PL.out M2 w h hle2)
  have AT2 := Lib.hid (fun (w : World) (h : Has σ M2 w) => AT.out M2 w h hle2)
  refine wp_region_class (Has σ M2) (by kernel_rfl) (by kernel_rfl) h.drew ?_
  clear h
  repeat (first
    | go_big_quiet_skip
    | (go_big_quiet_want; first
      | (refine quiet_agg_has 69 _ rfl rfl hbx2 dx rfl Try.underlying69 rfl (by kernel_rfl) ?_; simp only [Act.put, List.setIfInBounds_toArray, List.set_cons_zero, List.set_cons_succ]; go_big_quiet_on)
      | (go_big_quiet_op; first | go_big_quiet_on | go_big_quiet_call (first | with_reducible exact fun _ => rfl | with_reducible exact PL2.out _ | with_reducible exact AT2.out _))))
  refine wpQuiet_nil ?_
  try clear w
  intro w h
  go_wp2
  go_ret
  exact ⟨rfl, h.le hle2⟩
theorem mSpot_any {σ : World} {M : Mm} {lab : Nat → Nat} {p : Nat} {s : MachS} (hM : Mach M lab p s) {L B S : Nat} (hn : Nums s.c L B S) (t x kk i j : Int) (hi : i < 9223372036854775808) :
    ∃ r : Int, (∀ w : World, Has σ M w → Calls Try.prog 33 #[.pointer (some ⟨p, 0, none⟩), .int .i64 t, .agg #[.int .i64 x, .int .i64 kk, .int .i64 i, .int .i64 j]] w fun e w' => e = .returned (.int .i64 r) ∧ Has σ M w') ∧
      ((∃ a : Nat, r = (a : Int) ∧ (allP s.c (s.c 0).toNat)[a]? = some (levelOf s.c t, kk, i, j) ∧ ∀ b, b < a → (allP s.c (s.c 0).toNat)[b]? ≠ some (levelOf s.c t, kk, i, j)) ∨ (r = -1 ∧ ∀ b : Nat, (allP s.c (s.c 0).toNat)[b]? ≠ some (levelOf s.c t, kk, i, j))) := by
  have hc := hM.may
  obtain ⟨lv, hlv⟩ : ∃ lv, levelOf s.c t = lv := ⟨_, rfl⟩
  rw [hlv]
  by_cases hk : lv < 0 ∨ s.c 0 ≤ lv ∨ ¬ InKI s.c kk i j
  · refine ⟨-1, fun w h => mSpot_no h hM t lv hlv x kk i j hi hk, .inr ⟨rfl, fun b hb => ?_⟩⟩
    obtain ⟨k, e1, e2, e3, e4, e5⟩ := allP_out hc hn hb
    rcases hk with h1 | h1 | h1
    · exact absurd e2 (by show ¬ (0 ≤ lv); omega)
    · exact absurd e3 (by show ¬ (lv < _); omega)
    · exact h1 ⟨k, e1, e4⟩
  · have h0 : 0 ≤ lv := by rcases Int.lt_or_le lv 0 with h1 | h1; exact absurd (.inl h1) hk; exact h1
    have h1 : lv < s.c 0 := by rcases Int.lt_or_le lv (s.c 0) with h1 | h1; exact h1; exact absurd (.inr (.inl h1)) hk
    have h2 : InKI s.c kk i j := Classical.byContradiction fun h => hk (.inr (.inr h))
    obtain ⟨k, rfl, hin⟩ := h2
    obtain ⟨a, ha, hg⟩ := allP_in hc hn h0 h1 hin
    refine ⟨atK s.c lv k i j, fun w h => mSpot_yes h hM t lv hlv h0 h1 k x i j hin, .inl ⟨a, ha, hg, fun b hb hb2 => ?_⟩⟩
    obtain ⟨k', e1, e2, e3, e4, e5⟩ := allP_out hc hn hb2
    have ek : k = k' := by
      have : (k : Int) = (k' : Int) := e1
      omega
    subst ek
    have : (b : Int) = (a : Int) := e5.trans ha
    omega
end
end Go.Proofs.Ytnknlleflpkijaa
