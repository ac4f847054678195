import Derived.Test.YtjeeldacnllipaaGreatLoPlanA
import Derived.Test.YtjeeldacnllipaaGreatLoE
import Derived.Test.YtjeeldacnllipaaGreatLoO
import Derived.ArgAppend
import Derived.Test.YtjeeldacnllipaaGreatLoMem
import Derived.Test.YtjeeldacnllipaaGreatLoD
import Derived.Test.YtjeeldacnllipaaGreatLoWalk
import Derived.Test.YtjeeldacnllipaaGreatLoThr
namespace Go.Proofs.YtjeeldacnllipaaGreat
set_option linter.unusedVariables false
set_option linter.unusedSimpArgs false
set_option linter.unnecessarySimpa false
open List renaming setIfInBounds_toArray → qD, set_cons_zero → qE, set_cons_succ → qF
section
open Go.RowKit
def okOf (c : Nat → Int) (t : Nat) : Prop := (c 1 ≤ (t : Int) → c (2 + t) = 0) ∧ 0 ≤ c (2 + t) ∧ c (2 + t) < c 0
theorem confMay_iff (c : Nat → Int) : ConfMay c ↔ (1 ≤ c 0 ∧ c 0 ≤ 4) ∧ (1 ≤ c 1 ∧ c 1 ≤ 8) ∧ (∀ t, t < 8 → okOf c t) ∧ (2 ≤ c 10 ∧ c 10 ≤ 60) ∧ (1 ≤ c 11 ∧ c 11 ≤ 40) ∧ (1 ≤ c 12 ∧ c 12 ≤ 1048576) ∧ (0 ≤ c 13 ∧ c 13 ≤ 60) := by
 unfold ConfMay okOf
 constructor
 ·rintro ⟨h0, h1, h2, h3, h4, h5, h6, h7⟩
  refine ⟨h0, h1, fun t ht => ⟨fun hc => ?_, (h3 t ht).1, by have := h3 t ht; omega⟩, h4, h5, h6, h7⟩
  rw [h2 t ht, clearedOf, if_pos (by omega)]
 ·rintro ⟨h0, h1, h2, h4, h5, h6, h7⟩
  refine ⟨h0, h1, fun t ht => ?_, fun t ht => ?_, h4, h5, h6, h7⟩
  ·unfold clearedOf
   split
   ·exact (h2 t ht).1 (by omega)
   ·rfl
  ·have := h2 t ht
   omega
theorem confMayB_false {c : Nat → Int} (h : ¬ ConfMay c) : confMayB c = false := decide_eq_false h
set_option maxHeartbeats 4000000 in
theorem refMay_has {σ w : World} {M : Mm} (h : Has σ M w) (c : Nat → Int) : Calls Tryz.prog 10 #[confV c] w fun e w' => e = .returned (.bool (confMayB c)) ∧ Has σ M w' := by
 have NO : Hid (¬ ConfMay c → confMayB c = false) := confMayB_false
 have YES : Hid (ConfMay c → confMayB c = true) := fun h => decide_eq_true h
 have IFF := Lib.hid (confMay_iff c)
 simp only [confV, ints14_lit]
 go_enter Tryz.func10, Tryz.ntmps10
 go_upto_region 1 with (fail)
 obtain ⟨M1, hbx, hle, hb, hn⟩ := h.box (.cells #[.int .i64 (c 0), .int .i64 (c 1), .int .i64 (c 2), .int .i64 (c 3), .int .i64 (c 4), .int .i64 (c 5), .int .i64 (c 6), .int .i64 (c 7), .int .i64 (c 8), .int .i64 (c 9), .int .i64 (c 10), .int .i64 (c 11), .int .i64 (c 12), .int .i64 (c 13)] 24)
 generalize w.alloc _ = wx at hbx ⊢
 generalize w.heap.size = b at hb hn ⊢
 clear h
 try clear w
 have h := hbx
 clear hbx
 obtain ⟨w, rfl⟩ : ∃ x : World, x = wx := ⟨_, rfl⟩
 have c0 : w.cell? ⟨b, 0, none⟩ = some (.int .i64 (c 0)) := h.cell hb 0
 have c1 : w.cell? ⟨b, 1, none⟩ = some (.int .i64 (c 1)) := h.cell hb 1
 by_cases hr : (1 ≤ c 0 ∧ c 0 ≤ 4) ∧ (1 ≤ c 1 ∧ c 1 ≤ 8)
 ·obtain ⟨⟨r0, r1⟩, r2, r3⟩ := hr
  have q0 : ¬ c 0 < 1 := by omega
  have q1 : ¬ 4 < c 0 := by omega
  have q2 : ¬ c 1 < 1 := by omega
  have q3 : ¬ 8 < c 1 := by omega
  go_wp2
  clear c0 c1 q0 q1 q2 q3
  go_loopw [3] (fun i wr => ∃ k : Nat, k ≤ 8 ∧ i = .int .i64 k ∧ Has σ M1 wr ∧ ∀ t, t < k → okOf c t) (fun i _ => 8 - (intOf i).toNat)
  case atStart => exact ⟨0, by omega, rfl, h, fun t ht => absurd ht (by omega)⟩
  case round =>
   clear h w
   obtain ⟨w, rfl⟩ : ∃ x : World, x = wr := ⟨_, rfl⟩
   obtain ⟨k, hk, rfl, h, hall⟩ := hrel
   have HA := Lib.hid hall
   clear hall
   by_cases hlt : k < 8
   ·have e0 : (#[.int .i64 (c 0), .int .i64 (c 1), .int .i64 (c 2), .int .i64 (c 3), .int .i64 (c 4), .int .i64 (c 5), .int .i64 (c 6), .int .i64 (c 7), .int .i64 (c 8), .int .i64 (c 9), .int .i64 (c 10), .int .i64 (c 11), .int .i64 (c 12), .int .i64 (c 13)] : Array Value)[0]? = some (.int .i64 (c 0)) := rfl
    have e1 : (#[.int .i64 (c 0), .int .i64 (c 1), .int .i64 (c 2), .int .i64 (c 3), .int .i64 (c 4), .int .i64 (c 5), .int .i64 (c 6), .int .i64 (c 7), .int .i64 (c 8), .int .i64 (c 9), .int .i64 (c 10), .int .i64 (c 11), .int .i64 (c 12), .int .i64 (c 13)] : Array Value)[1]? = some (.int .i64 (c 1)) := rfl
    have e2 : (#[.int .i64 (c 0), .int .i64 (c 1), .int .i64 (c 2), .int .i64 (c 3), .int .i64 (c 4), .int .i64 (c 5), .int .i64 (c 6), .int .i64 (c 7), .int .i64 (c 8), .int .i64 (c 9), .int .i64 (c 10), .int .i64 (c 11), .int .i64 (c 12), .int .i64 (c 13)] : Array Value)[2 + k]? = some (.int .i64 (c (2 + k))) := by rw [← ints14_lit, ints_get (by omega)]
    have OK : Hid (okOf c k ↔ (c 1 ≤ (k : Int) → c (2 + k) = 0) ∧ 0 ≤ c (2 + k) ∧ c (2 + k) < c 0) := Iff.rfl
    generalize c (2 + k) = x at e2 OK
    generalize (#[.int .i64 (c 0), .int .i64 (c 1), .int .i64 (c 2), .int .i64 (c 3), .int .i64 (c 4), .int .i64 (c 5), .int .i64 (c 6), .int .i64 (c 7), .int .i64 (c 8), .int .i64 (c 9), .int .i64 (c 10), .int .i64 (c 11), .int .i64 (c 12), .int .i64 (c 13)] : Array Value) = cs at hb e0 e1 e2
    go_upto_region 6 with (fail)
    by_cases hok : okOf c k
    ·obtain ⟨p1, p2, p3⟩ := OK.out.1 hok
     have HN : Hid (∀ t, t < k + 1 → okOf c t) := fun t ht => by
      rcases Nat.lt_or_ge t k with h1 | h1
      ·exact HA.out t h1
      ·obtain rfl : t = k := by omega
       exact hok
     have n2 : ¬ x < 0 := by omega
     have n3 : ¬ c 0 ≤ x := by omega
     clear hok
     by_cases hc1 : c 1 ≤ (k : Int)
     ·have hx0 := p1 hc1
      clear p1
      have hx0' : (x != 0) = false := by simp [hx0]
      have H0 := Lib.hid hx0
      clear hx0
      refine wp_region_class (Has σ M1) (by kernel_rfl) (by kernel_rfl) h.drew ?_
      clear h
      repeat (first
       | go_big_quiet_skip
       | (go_big_quiet_want; first
        | (refine quiet_load_has 3 _ rfl rfl hb e0 Tryz.underlying3 rfl ?_; simp only [Act.put, qD, qE, qF]; go_big_quiet_on)
        | (refine quiet_load_has 3 _ rfl rfl hb e1 Tryz.underlying3 rfl ?_; simp only [Act.put, qD, qE, qF]; go_big_quiet_on)
        | (refine quiet_load_has 3 _ rfl rfl hb e2 Tryz.underlying3 rfl ?_; simp only [Act.put, qD, qE, qF]; go_big_quiet_on)
        | (go_big_quiet_op; first | go_big_quiet_on | go_big_quiet_call (first | with_reducible exact fun _ => rfl))))
      refine wpQuiet_nil ?_
      try clear w
      intro w h
      go_wp2
      go_roundw
      case rel => exact ⟨k + 1, by omega, by go_num, h, HN.out⟩
      case measure => simp [intOf]; omega
     ·clear p1
      refine wp_region_class (Has σ M1) (by kernel_rfl) (by kernel_rfl) h.drew ?_
      clear h
      repeat (first
       | go_big_quiet_skip
       | (go_big_quiet_want; first
        | (refine quiet_load_has 3 _ rfl rfl hb e0 Tryz.underlying3 rfl ?_; simp only [Act.put, qD, qE, qF]; go_big_quiet_on)
        | (refine quiet_load_has 3 _ rfl rfl hb e1 Tryz.underlying3 rfl ?_; simp only [Act.put, qD, qE, qF]; go_big_quiet_on)
        | (refine quiet_load_has 3 _ rfl rfl hb e2 Tryz.underlying3 rfl ?_; simp only [Act.put, qD, qE, qF]; go_big_quiet_on)
        | (go_big_quiet_op; first | go_big_quiet_on | go_big_quiet_call (first | with_reducible exact fun _ => rfl))))
      refine wpQuiet_nil ?_
      try clear w
      intro w h
      go_wp2
      go_roundw
      case rel => exact ⟨k + 1, by omega, by go_num, h, HN.out⟩
      case measure => simp [intOf]; omega
    ·have N := Lib.hid (NO.out fun h1 => hok ((IFF.out.1 h1).2.2.1 k hlt))
     have hcase : (c 1 ≤ (k : Int) ∧ x ≠ 0) ∨ ((c 1 ≤ (k : Int) → x = 0) ∧ x < 0) ∨ ((c 1 ≤ (k : Int) → x = 0) ∧ ¬ x < 0 ∧ c 0 ≤ x) := by
      by_cases a1 : c 1 ≤ (k : Int) ∧ x ≠ 0
      ·exact .inl a1
      ·by_cases a2 : x < 0
       ·exact .inr (.inl ⟨fun h1 => Classical.byContradiction fun h2 => a1 ⟨h1, h2⟩, a2⟩)
       ·refine .inr (.inr ⟨fun h1 => Classical.byContradiction fun h2 => a1 ⟨h1, h2⟩, a2, ?_⟩)
        apply Classical.byContradiction
        intro h3
        exact hok (OK.out.2 ⟨fun h1 => Classical.byContradiction fun h2 => a1 ⟨h1, h2⟩, by omega, by omega⟩)
     clear hok
     rcases hcase with ⟨a1, a2⟩ | ⟨a1, a2⟩ | ⟨a1, a2, a3⟩
     ·have hx0' : (x != 0) = true := by simpa using a2
      clear a2
      refine wp_region_class (Has σ M1) (by kernel_rfl) (by kernel_rfl) h.drew ?_
      clear h
      repeat (first
       | go_big_quiet_skip
       | (go_big_quiet_want; first
        | (refine quiet_load_has 3 _ rfl rfl hb e0 Tryz.underlying3 rfl ?_; simp only [Act.put, qD, qE, qF]; go_big_quiet_on)
        | (refine quiet_load_has 3 _ rfl rfl hb e1 Tryz.underlying3 rfl ?_; simp only [Act.put, qD, qE, qF]; go_big_quiet_on)
        | (refine quiet_load_has 3 _ rfl rfl hb e2 Tryz.underlying3 rfl ?_; simp only [Act.put, qD, qE, qF]; go_big_quiet_on)
        | (go_big_quiet_op; first | go_big_quiet_on | go_big_quiet_call (first | with_reducible exact fun _ => rfl))))
      refine wpQuiet_nil ?_
      try clear w
      intro w h
      go_wp2
      go_ret
      exact ⟨by rw [N.out]; rfl, h.le hle⟩
     ·by_cases hc1 : c 1 ≤ (k : Int)
      ·have hx0 := a1 hc1
       omega
      ·clear a1
       refine wp_region_class (Has σ M1) (by kernel_rfl) (by kernel_rfl) h.drew ?_
       clear h
       repeat (first
        | go_big_quiet_skip
        | (go_big_quiet_want; first
         | (refine quiet_load_has 3 _ rfl rfl hb e0 Tryz.underlying3 rfl ?_; simp only [Act.put, qD, qE, qF]; go_big_quiet_on)
         | (refine quiet_load_has 3 _ rfl rfl hb e1 Tryz.underlying3 rfl ?_; simp only [Act.put, qD, qE, qF]; go_big_quiet_on)
         | (refine quiet_load_has 3 _ rfl rfl hb e2 Tryz.underlying3 rfl ?_; simp only [Act.put, qD, qE, qF]; go_big_quiet_on)
         | (go_big_quiet_op; first | go_big_quiet_on | go_big_quiet_call (first | with_reducible exact fun _ => rfl))))
       refine wpQuiet_nil ?_
       try clear w
       intro w h
       go_wp2
       go_ret
       exact ⟨by rw [N.out]; rfl, h.le hle⟩
     ·by_cases hc1 : c 1 ≤ (k : Int)
      ·have hx0 := a1 hc1
       omega
      ·clear a1
       refine wp_region_class (Has σ M1) (by kernel_rfl) (by kernel_rfl) h.drew ?_
       clear h
       repeat (first
        | go_big_quiet_skip
        | (go_big_quiet_want; first
         | (refine quiet_load_has 3 _ rfl rfl hb e0 Tryz.underlying3 rfl ?_; simp only [Act.put, qD, qE, qF]; go_big_quiet_on)
         | (refine quiet_load_has 3 _ rfl rfl hb e1 Tryz.underlying3 rfl ?_; simp only [Act.put, qD, qE, qF]; go_big_quiet_on)
         | (refine quiet_load_has 3 _ rfl rfl hb e2 Tryz.underlying3 rfl ?_; simp only [Act.put, qD, qE, qF]; go_big_quiet_on)
         | (go_big_quiet_op; first | go_big_quiet_on | go_big_quiet_call (first | with_reducible exact fun _ => rfl))))
       refine wpQuiet_nil ?_
       try clear w
       intro w h
       go_wp2
       go_ret
       exact ⟨by rw [N.out]; rfl, h.le hle⟩
   ·obtain rfl : k = 8 := by omega
    have c10 : w.cell? ⟨b, 10, none⟩ = some (.int .i64 (c 10)) := h.cell hb 10
    have c11 : w.cell? ⟨b, 11, none⟩ = some (.int .i64 (c 11)) := h.cell hb 11
    have c12 : w.cell? ⟨b, 12, none⟩ = some (.int .i64 (c 12)) := h.cell hb 12
    have c13 : w.cell? ⟨b, 13, none⟩ = some (.int .i64 (c 13)) := h.cell hb 13
    have hmay : confMayB c = decide ((2 ≤ c 10 ∧ c 10 ≤ 60) ∧ (1 ≤ c 11 ∧ c 11 ≤ 40) ∧ (1 ≤ c 12 ∧ c 12 ≤ 1048576) ∧ (0 ≤ c 13 ∧ c 13 ≤ 60)) := by
     by_cases hm : (2 ≤ c 10 ∧ c 10 ≤ 60) ∧ (1 ≤ c 11 ∧ c 11 ≤ 40) ∧ (1 ≤ c 12 ∧ c 12 ≤ 1048576) ∧ (0 ≤ c 13 ∧ c 13 ≤ 60)
     ·rw [YES.out (IFF.out.2 ⟨⟨r0, r1⟩, ⟨r2, r3⟩, HA.out, hm⟩), decide_eq_true hm]
     ·rw [NO.out fun h1 => hm (IFF.out.1 h1).2.2.2, decide_eq_false hm]
    have HM := Lib.hid hmay
    clear hmay
    generalize c 10 = x at c10 HM
    generalize c 11 = y at c11 HM
    generalize c 12 = z at c12 HM
    generalize c 13 = v at c13 HM
    by_cases b1 : x < 2
    ·go_wp2
     go_ret
     exact ⟨by rw [HM.out, decide_eq_false (by omega)]; rfl, h.le hle⟩
    ·skip
     by_cases b2 : 60 < x
     ·go_wp2
      go_ret
      exact ⟨by rw [HM.out, decide_eq_false (by omega)]; rfl, h.le hle⟩
     ·skip
      by_cases b3 : y < 1
      ·go_wp2
       go_ret
       exact ⟨by rw [HM.out, decide_eq_false (by omega)]; rfl, h.le hle⟩
      ·skip
       by_cases b4 : 40 < y
       ·go_wp2
        go_ret
        exact ⟨by rw [HM.out, decide_eq_false (by omega)]; rfl, h.le hle⟩
       ·skip
        by_cases b5 : ¬ 1 ≤ z
        ·go_wp2
         go_ret
         exact ⟨by rw [HM.out, decide_eq_false (by omega)]; rfl, h.le hle⟩
        ·skip
         by_cases b6 : ¬ z ≤ 1048576
         ·go_wp2
          go_ret
          exact ⟨by rw [HM.out, decide_eq_false (by omega)]; rfl, h.le hle⟩
         ·skip
          by_cases b7 : ¬ 0 ≤ v
          ·go_wp2
           go_ret
           exact ⟨by rw [HM.out, decide_eq_false (by omega)]; rfl, h.le hle⟩
          ·skip
           by_cases b8 : ¬ v ≤ 60
           ·go_wp2
            go_ret
            exact ⟨by rw [HM.out, decide_eq_false (by omega)]; rfl, h.le hle⟩
           ·skip
            go_wp2
            go_ret
            exact ⟨by rw [HM.out, decide_eq_true (by omega)]; rfl, h.le hle⟩
 ·skip
  by_cases b1 : c 0 < 1
  ·have N := Lib.hid (NO.out fun h1 => by have := IFF.out.1 h1; omega)
   go_wp2
   go_ret
   exact ⟨by rw [N.out]; rfl, h.le hle⟩
  ·skip
   by_cases b2 : 4 < c 0
   ·have N := Lib.hid (NO.out fun h1 => by have := IFF.out.1 h1; omega)
    go_wp2
    go_ret
    exact ⟨by rw [N.out]; rfl, h.le hle⟩
   ·skip
    by_cases b3 : c 1 < 1
    ·have N := Lib.hid (NO.out fun h1 => by have := IFF.out.1 h1; omega)
     go_wp2
     go_ret
     exact ⟨by rw [N.out]; rfl, h.le hle⟩
    ·skip
     by_cases b4 : 8 < c 1
     ·have N := Lib.hid (NO.out fun h1 => by have := IFF.out.1 h1; omega)
      go_wp2
      go_ret
      exact ⟨by rw [N.out]; rfl, h.le hle⟩
     ·skip
      omega
end
section
open Go.RowKit
set_option maxHeartbeats 2000000 in
set_option maxRecDepth 20000 in
theorem laAlone_no {σ w : World} {M : Mm} (h : Has σ M w) (c : Nat → Int) (A : Option Addr) (n cap : Nat) (hm : confMayB c = false) :
  Calls Tryz.prog 3 #[confV c, .slice A n cap] w fun r w' => r = .returned (.bool true) ∧ Has σ M w' := by
 have NW := Lib.hid (fun (M' : Mm) (w : World) (h : Has σ M' w) => mNew_no h c hm)
 have RM := Lib.hid (fun (M' : Mm) (w : World) (h : Has σ M' w) => refMay_has h c)
 have LI := Lib.hid (fun (M' : Mm) (w : World) (h : Has σ M' w) => lb_lives h)
 have hx : (ints .i64 14 c).extract 0 (0 + 14) = ints .i64 14 c := rfl
 have hz : (ints .i64 14 c).size = 14 := rfl
 unfold errV at NW
 rw [hm] at RM
 unfold confV at NW RM ⊢
 generalize ints .i64 14 c = row at NW RM hx hz ⊢
 clear hm
 go_enter Tryz.func3, Tryz.ntmps3
 go_upto_region 1 with (fail)
 obtain ⟨M1, hbx, hle, hbf, hnf⟩ := h.box (.cells row 24)
 generalize w.alloc _ = wx at hbx ⊢
 generalize w.heap.size = bf at hbf hnf ⊢
 clear h
 try clear w
 have h := hbx
 clear hbx
 obtain ⟨w, rfl⟩ : ∃ x : World, x = wx := ⟨_, rfl⟩
 go_wp2_with (first
  | ((with_reducible show wpList _ _ _ ({ dst := _, op := Op.load 24 _, type := _, pos := _, after := _, guard := _ } :: _) _ _); refine wpList_agg_has h rfl 24 _ rfl rfl hbf hx hz Tryz.underlying24 rfl (by kernel_rfl) ?_; try simp only [Act.put, qD, qE, qF])
  | ((go_at_call 9; refine (NW.out _ _ h).mono ?_; clear h; rintro _ w ⟨b, M2, rfl, h, hle2, hn⟩; have hbf := hle2 _ _ hbf))
  | (go_at_call 10; refine (RM.out _ _ h).mono ?_; clear h; rintro _ w ⟨rfl, h⟩)
  | (go_at_call 11; refine (LI.out _ _ h).mono ?_; clear h; rintro _ w ⟨rfl, h⟩))
 go_ret
 exact ⟨rfl, h.le (Mm.le_trans hle hle2)⟩
set_option maxHeartbeats 2000000 in
set_option maxRecDepth 20000 in
theorem laAlone_many {σ w : World} {M : Mm} (h : Has σ M w) (c : Nat → Int) (hc : ConfMay c) {L B S : Nat} (hn : Nums c L B S) (A : Option Addr) (n cap : Nat) (hm : confMayB c = true) (h60 : 80 < n) :
  Calls Tryz.prog 3 #[confV c, .slice A n cap] w fun r w' => r = .returned (.bool true) ∧ Has σ M w' := by
 have NW := Lib.hid (fun (M' : Mm) (w : World) (h : Has σ M' w) => mNew_yes h c hc hn)
 have RM := Lib.hid (fun (M' : Mm) (w : World) (h : Has σ M' w) => refMay_has h c)
 have LI := Lib.hid (fun (M' : Mm) (w : World) (h : Has σ M' w) => lb_lives h)
 have hx : (ints .i64 14 c).extract 0 (0 + 14) = ints .i64 14 c := rfl
 have hz : (ints .i64 14 c).size = 14 := rfl
 have g60 : decide ((80 : Int) < (n : Int)) = true := decide_eq_true (by omega)
 have g60' : (80 : Int) < (n : Int) := by omega
 rw [hm] at RM
 unfold confV at NW RM ⊢
 generalize ints .i64 14 c = row at NW RM hx hz ⊢
 clear hm hc hn h60
 go_enter Tryz.func3, Tryz.ntmps3
 go_upto_region 1 with (fail)
 obtain ⟨M1, hbx, hle, hbf, hnf⟩ := h.box (.cells row 24)
 generalize w.alloc _ = wx at hbx ⊢
 generalize w.heap.size = bf at hbf hnf ⊢
 clear h
 try clear w
 have h := hbx
 clear hbx
 obtain ⟨w, rfl⟩ : ∃ x : World, x = wx := ⟨_, rfl⟩
 go_wp2_with (first
  | ((with_reducible show wpList _ _ _ ({ dst := _, op := Op.load 24 _, type := _, pos := _, after := _, guard := _ } :: _) _ _); refine wpList_agg_has h rfl 24 _ rfl rfl hbf hx hz Tryz.underlying24 rfl (by kernel_rfl) ?_; try simp only [Act.put, qD, qE, qF])
  | ((go_at_call 9; refine (NW.out _ _ h).mono ?_; clear h; rintro _ w ⟨p, M2, lab2, s, rfl, h, hB2, hM2, hN⟩; have hle2 := hB2.le; clear hB2 hM2 hN; have hbf := hle2 _ _ hbf))
  | (go_at_call 10; refine (RM.out _ _ h).mono ?_; clear h; rintro _ w ⟨rfl, h⟩)
  | (go_at_call 11; refine (LI.out _ _ h).mono ?_; clear h; rintro _ w ⟨rfl, h⟩))
 go_ret
 exact ⟨rfl, h.le (Mm.le_trans hle hle2)⟩
end
section
open Go.RowKit
/-- A row of the call's own, in a block of which M0 says nothing; it may begin within the block. -/
def OwnF (M0 M : Mm) (e : TypeId) (v : Value) (n : Nat) (xs : List Value) : Prop :=
 xs.length = n ∧ ((v = .slice none 0 0 ∧ n = 0) ∨ ∃ g o cap cur, v = .slice (some ⟨g, o, none⟩) n cap ∧ M0 g = none ∧ M g = some (.cells cur e (0, 0)) ∧ n ≤ cap ∧ cap ≤ maxLen ∧ o + cap ≤ cur.size ∧ ∀ j u, xs[j]? = some u → cur[o + j]? = some u)
section
variable {P : Program} {σ w : World} {M M' M0 K K' : Mm} {lab lab' labK labK' : Nat → Nat} {A : Nat → Prop} {e : TypeId} {v x : Value} {n p j : Nat} {xs : List Value} {s : MachS}
theorem OwnF.nil (M0 M : Mm) (e : TypeId) : OwnF M0 M e (.slice none 0 0) 0 [] := ⟨rfl, .inl ⟨rfl, rfl⟩⟩
theorem OwnF.of (h : Own M0 M e 1 v n xs) : OwnF M0 M e v n xs := by
 obtain ⟨hl, ⟨hv, h0⟩ | ⟨g, cap, cur, hv, hg, hh, hc, hm, hs, ht⟩⟩ := h
 ·exact ⟨by omega, .inl ⟨hv, h0⟩⟩
 ·refine ⟨by omega, .inr ⟨g, 0, cap, cur, hv, hg, hh, hc, hm, by omega, fun j u hu => ?_⟩⟩
  rw [← ht, List.getElem?_take] at hu
  split at hu
  ·rw [Nat.zero_add]; simpa using hu
  ·cases hu
theorem OwnF.rd (h : OwnF M0 M e v n xs) : Rd M 1 v n xs := by
 obtain ⟨hl, ⟨hv, h0⟩ | ⟨g, o, cap, cur, hv, hg, hh, hc, hm, hs, ht⟩⟩ := h
 ·subst h0
  exact ⟨by omega, none, 0, hv, Nat.le_refl _, fun h => absurd h (by omega)⟩
 ·exact ⟨by omega, _, cap, hv, hc, fun _ => ⟨g, o, cur, e, _, rfl, hh, ht⟩⟩
/-- What is left behind the first one. -/
theorem OwnF.tail {B : Option Addr} {c : Nat} (h : OwnF M0 M e (.slice B (n + 1) c) (n + 1) (x :: xs)) : OwnF M0 M e (sliced B 1 (n + 1) c 1) n xs := by
 obtain ⟨hl, ⟨hv, h0⟩ | ⟨g, o, cap, cur, hv, hg, hh, hc, hm, hs, ht⟩⟩ := h
 ·omega
 ·cases hv
  refine ⟨by simpa using hl, .inr ?_⟩
  by_cases h1 : c = 1
  ·subst h1
   have h0 : n = 0 := by omega
   subst h0
   have hx : xs = [] := by cases xs with | nil => rfl | cons a r => simp at hl
   subst hx
   exact ⟨g, o, 0, cur, rfl, hg, hh, Nat.le_refl _, Nat.zero_le _, by omega, fun j u hu => by simp at hu⟩
  ·refine ⟨g, o + 1, c - 1, cur, ?_, hg, hh, by omega, by omega, by omega, fun j u hu => ?_⟩
   ·unfold sliced
    rw [if_neg h1]
    simp [Addr.add_mid]
   ·rw [show o + 1 + j = o + (j + 1) by omega]
    exact ht (j + 1) u (by simpa using hu)
/-- One value more. -/
theorem run_append_ownF (h : Has σ M w) (hle : M0.le M) (t ty : TypeId) {i : TypeInfo} {z : Value} (ht : P.underlying t = some (.slice e)) (hi : P.info? e = some i) (hz : i.zero = some z) (hsize : i.size = 1) (hzs : z.cells.size = 1)
  (hown : OwnF M0 M e v n xs) (hx1 : x.oneCell' = true) {ad : Addr} {c : Nat} (hc : w.cell? ad = some x) (h63 : n + 1 ≤ 1000000) (hby : (n + 1) * i.bytes ≤ 140737488355328) :
  ∃ v' w', (Builtin.append_ #[t, t] ty #[v, .slice (some ad) 1 c]).run P w = .ok v' w' ∧ ∃ M', Has σ M' w' ∧ M0.le M' ∧ OwnF M0 M' e v' (n + 1) (xs ++ [x]) := by
 have hnew : ∀ k u, [x][k]? = some u → w.cell? (ad.add k) = some u := fun k u hu => by
  cases k with
  | zero =>
   have : x = u := by simpa using hu
   subst this
   rw [show ad.add 0 = ad from by cases ad with | mk b o q => cases q <;> rfl]
   exact hc
  | succ k => simp at hu
 obtain ⟨hl, ⟨hv, h0⟩ | ⟨g, o, cap, cur, hv, hg, hh, hnc, hm, hs, hcs⟩⟩ := hown
 ·subst hv h0
  have hxs : xs = [] := List.eq_nil_of_length_eq_zero hl
  subst hxs
  obtain ⟨v', w', hr, M', a1, a2, a3, _⟩ := run_append_own_has (P := P) h hle t ty e i z 1 i.bytes ht hi hz hsize rfl hzs (by omega) (Own.nil M0 M e 1) (.slice (some ad) 1 c) (m := 1) (news := [x]) (.inr ⟨_, _, rfl, hnew⟩) rfl (fun u hu => by
   have : u = x := by simpa using hu
   subst this; exact hx1) (by unfold maxLen; omega) (by omega)
  exact ⟨v', w', hr, M', a1, a2, OwnF.of a3⟩
 ·subst hv
  by_cases hroom : n + 1 ≤ cap
  ·have hlt : o + n < cur.size := by omega
   have hr := run_append_room_cells (P := P) w t ty e i ht hi g o n cap ad 1 c [x] (by rw [hsize]; rfl) hnew (fun u hu => by
    have : u = x := by simpa using hu
    subst this; exact hx1) hroom (fun k hk => by
    have : k = 0 := by simpa using hk
    subst this
    rw [hsize, h.cell hh, Nat.mul_one, Nat.add_zero, Array.getElem?_eq_getElem hlt]; rfl) (fun k hk => h.free hh _)
   have hset : w.setCells g (o + n * i.size) [x] = w.setCell ⟨g, o + n, none⟩ x := by rw [hsize, Nat.mul_one]; rfl
   rw [hset] at hr
   refine ⟨_, _, hr, _, h.setCell hh (o + n) x, Mm.le_upd hle hg _, by simp [hl], .inr ⟨g, o, cap, _, rfl, hg, Mm.upd_same _ _ _, hroom, hm, by simpa using hs, fun k u hu => ?_⟩⟩
   rw [Array.getElem?_setIfInBounds]
   by_cases e1 : k = n
   ·subst e1
    rw [if_pos rfl, if_pos hlt]
    rw [List.getElem?_append_right (by omega), hl, Nat.sub_self] at hu
    simpa using hu
   ·rw [if_neg (by omega)]
    have hk : k < n := by
     have := (List.getElem?_eq_some_iff.1 hu).1
     simp at this
     omega
    rw [List.getElem?_append_left (by omega)] at hu
    exact hcs k u hu
  ·obtain ⟨v', w', hr, ho, hgb⟩ := run_append_arg_grows (P := P) w t ty e i z 1 i.bytes ht hi hz hsize rfl hzs (by omega) ⟨g, o, none⟩ n cap xs (by omega) (fun k u hu => by rw [Addr.add_mid, h.cell hh]; exact hcs k u hu) ad 1 c [x] rfl hnew (by omega) (by unfold maxLen; omega) (by omega)
   refine ⟨v', w', hr, ?_⟩
   obtain ⟨hl2, ⟨_, h0⟩ | ⟨g2, cap2, cur2, hv2, hb2, hh2, r2⟩⟩ := ho
   ·omega
   ·have hne : ∀ b o', M b = some o' → b ≠ g2 := fun b o' hb e1 => by subst e1; exact absurd (h.lt hb) (by omega)
    refine ⟨M.upd g2 (.cells cur2 e), ⟨hgb.os.trans h.os, hgb.tape.trans h.tape, hgb.output.trans h.output, Nat.le_trans h.size hgb.size, fun b o' hb => ?_⟩, fun b o' hb => ?_, OwnF.of ⟨hl2, .inr ⟨g2, cap2, cur2, hv2, ?_, Mm.upd_same _ _ _, r2⟩⟩⟩
    ·by_cases e1 : b = g2
     ·subst e1
      rw [Mm.upd_same] at hb
      cases hb
      exact hh2
     ·rw [Mm.upd_ne e1] at hb
      rw [hgb.block b (h.lt hb) (by simp)]
      exact h.at_ b o' hb
    ·rw [Mm.upd_ne (hne b o' (hle b o' hb))]
     exact hle b o' hb
    ·cases hk : M0 g2 with
     | none => rfl
     | some o' => exact absurd rfl (hne g2 o' (hle g2 o' hk))
/-- append of a literal made just now, at a step of a region that draws. -/
theorem step_applitF {op : Oper} {a : Act} {ops : Array Oper} {Q : Exit → Act → World → Prop} {KK : Act → World → Prop} {E : Prop} {w1 : World} {e' : TypeId} (h : Has σ M w) (hle : M0.le M) (hg : op.guard = none) (r y : Operand) (t : TypeId)
  (ho : op.op = .call { callee := .builtin .append, args := #[r, y], argTypes := #[t, t] })
  (hww : w1 = w.alloc (.cells #[x] e'))
  {z : Value} {bytes : Nat} (ht : P.underlying t = some (.slice e)) (hi : (P.info? e).map (fun i => (i.zero, i.size, i.bytes)) = some (some z, 1, bytes)) (hzs : z.cells.size = 1)
  (hs : a.eval r = v) (hown : OwnF M0 M e v n xs) (hx : a.eval y = .slice (some ⟨w.heap.size, 0, none⟩) 1 1) (h1 : x.oneCell' = true)
  (h63 : n + 1 ≤ 1000000) (hbytes : (n + 1) * bytes ≤ 140737488355328)
  (hk : ∀ v' w' M', Has σ M' w' → M0.le M' → OwnF M0 M' e v' (n + 1) (xs ++ [x]) → KK (a.put op.dst v') w') : if Region.wanted op (yielded ops a.tmps) = true then Oper.wp P op a w1 KK Q else E := by
 have hw : Region.wanted op (yielded ops a.tmps) = true := by simp [Region.wanted, hg]
 rw [if_pos hw]
 subst hww
 obtain ⟨i, hi1, hz, hsize, hby⟩ := info_parts hi
 have hc : (w.alloc (.cells #[x] e')).cell? ⟨w.heap.size, 0, none⟩ = some x := by
  rw [cell_of_row _ _ 0 #[x] e' (0, 0) (heap_alloc_new w _)]; rfl
 obtain ⟨v', w', hr, M', hH, hl', hO⟩ := run_append_ownF (P := P) (h.quietAlloc (.cells #[x] e')) hle t op.type ht hi1 hz hsize hzs hown h1 (c := 1) hc h63 (by rw [hby]; exact hbytes)
 unfold Oper.wp execOp
 simp only [ho, resolve, invoke, builtin, Sem.run_bind, Sem.run_pure, Result.andThen_ok, List.map_toArray, List.map_cons, List.map_nil, hs, hx, hr]
 exact hk v' w' M' hH hl' hO
/-- The same by labels. -/
def RowF (M : Mm) (lab : Nat → Nat) (k : Nat) (e : TypeId) (v : Value) (n : Nat) (xs : List Value) : Prop := OwnF (M.out lab k) M e v n xs
theorem RowF.nil (M : Mm) (lab : Nat → Nat) (k : Nat) (e : TypeId) : RowF M lab k e (.slice none 0 0) 0 [] := OwnF.nil _ _ _
theorem RowF.tail {B : Option Addr} {c : Nat} (h : RowF M lab j e (.slice B (n + 1) c) (n + 1) (x :: xs)) : RowF M lab j e (sliced B 1 (n + 1) c 1) n xs := OwnF.tail h
theorem RowF.rd (h : RowF M lab j e v n xs) : Rd M 1 v n xs := OwnF.rd h
theorem RowF.form (h : RowF M lab j e v n xs) : ∃ A c, v = .slice A n c := h.rd.form
theorem RowF.keep (h : RowF M lab j e v n xs) (hK : Kp A M lab M' lab') (hA : ¬ A j) : RowF M' lab' j e v n xs := by
 obtain ⟨hl, ⟨hv, h0⟩ | ⟨g, o, cap, cur, hv, hg, hh, r⟩⟩ := h
 ·exact ⟨hl, .inl ⟨hv, h0⟩⟩
 ·have hgk : lab g = j := by
   by_cases e : lab g = j
   ·exact e
   ·rw [Mm.out_of hh e] at hg; cases hg
  obtain ⟨h1, h2⟩ := hK.get hh hgk hA
  exact ⟨hl, .inr ⟨g, o, cap, cur, hv, Mm.out_none h2, h1, r⟩⟩
theorem RowF.up (h : RowF K labK j e v n xs) (hB : K.le M) : OwnF (outK K M labK j) M e v n xs := by
 obtain ⟨hl, ⟨hv, h0⟩ | ⟨g, o, cap, cur, hv, hg, hh, r⟩⟩ := h
 ·exact ⟨hl, .inl ⟨hv, h0⟩⟩
 ·have hgk : labK g = j := by
   by_cases e : labK g = j
   ·exact e
   ·rw [Mm.out_of hh e] at hg; cases hg
  refine ⟨hl, .inr ⟨g, o, cap, cur, hv, ?_, hB _ _ hh, r⟩⟩
  unfold outK
  rw [hh]
  simp only [if_pos hgk]
/-- A row of the law's is another one. -/
theorem Mach.rowToF (hM : Mach M lab p s) (hB : Base K M lab) (hle : (outK K M labK j).le M') (ho : OwnF (outK K M labK j) M' e v n xs) : ∃ lab' K' labK', Mach M' lab' p s ∧ Base K' M' lab' ∧ Kp (fun k => k = j) K labK K' labK' ∧ RowF K' labK' j e v n xs := by
 have hO : ∀ c o, K c = some o → labK c ≠ j → outK K M labK j c = some o := fun c o hc hl => outK_of hB.le hc hl
 have hMO : ∀ c o, M c = some o → lab c ≠ 0 → outK K M labK j c = some o := fun c o hc hl => by
  have hk : K c = none := by
   cases h : K c with
   | none => rfl
   | some x => exact absurd (hB c x h).2 hl
  unfold outK
  rw [hk]
  exact hc
 obtain ⟨hl, ⟨hv, h0⟩ | ⟨g, o, cap, cur, hv, hg, hh, r⟩⟩ := ho
 ·refine ⟨lab, K.out labK j, labK, hM.keep (A := fun k => k = 0) (fun c o hc hA => ⟨hle _ _ (hMO c o hc hA), rfl⟩) (fun k hk => by omega), fun c o hc => ?_, fun c o hc hA => ⟨Mm.out_of hc hA, rfl⟩, hl, .inl ⟨hv, h0⟩⟩
  have hl2 : labK c ≠ j := fun e => by rw [Mm.out_none e] at hc; cases hc
  have hc2 := Mm.out_le _ _ _ _ _ hc
  exact ⟨hle _ _ (hO c o hc2 hl2), (hB c o hc2).2⟩
 ·have hne : ∀ c o, outK K M labK j c = some o → c ≠ g := fun c o hc e => by subst e; rw [hc] at hg; cases hg
  refine ⟨fun c => if c = g then 0 else lab c, fun c => if c = g then M' g else K.out labK j c, fun c => if c = g then j else labK c, hM.keep (A := fun k => k = 0) (fun c o hc hA => ⟨hle _ _ (hMO c o hc hA), if_neg (hne c o (hMO c o hc hA))⟩) (fun k hk => by omega), fun c o hc => ?_, fun c o hc hA => ?_, hl, .inr ⟨g, o, cap, cur, hv, ?_, ?_, r⟩⟩
  ·by_cases h1 : c = g
   ·subst h1; simp only [if_true] at hc ⊢; exact ⟨hc, trivial⟩
   ·simp only [if_neg h1] at hc ⊢
    have hl2 : labK c ≠ j := fun e => by rw [Mm.out_none e] at hc; cases hc
    have hc2 := Mm.out_le _ _ _ _ _ hc
    exact ⟨hle _ _ (hO c o hc2 hl2), (hB c o hc2).2⟩
  ·have h1 := hne c o (hO c o hc hA)
   simp only [if_neg h1]
   exact ⟨Mm.out_of hc hA, trivial⟩
  ·exact Mm.out_none (by simp)
  ·simp only [if_true]; exact hh
end
end
section
open Go.RowKit
set_option maxHeartbeats 1000000 in
theorem refCell_eq {σ w : World} {M : Mm} (h : Has σ M w) (s g l : Nat) (hs : s < 9223372036854775808) (hg : g < 9223372036854775808) (hl : l < 18446744073709551616) : Calls Tryz.prog 21 #[.agg #[.int .i64 s, .int .i64 g, .int .u64 l]] w fun r w' => r = .returned (.int .u64 (mkCell s g l : Nat)) ∧ Has σ M w' := by
 have u1 := u64_nat (x := s) (by omega)
 have u2 := u64_nat (x := g) (by omega)
 have q1 : (s : Int).tmod 256 = ((s % 256 : Nat) : Int) := rfl
 have q2 : (g : Int).tmod 16777216 = ((g % 16777216 : Nat) : Int) := rfl
 have q3 : (l : Int).tmod 1073741824 = ((l % 1073741824 : Nat) : Int) := rfl
 have x1 : s % 256 < 256 := Nat.mod_lt _ (by decide)
 have x2 : g % 16777216 < 16777216 := Nat.mod_lt _ (by decide)
 have x3 : l % 1073741824 < 1073741824 := Nat.mod_lt _ (by decide)
 have E := Lib.hid (mkCell_eq s g l)
 generalize s % 256 = y1 at *
 generalize g % 16777216 = y2 at *
 generalize l % 1073741824 = y3 at *
 have v1 := u64_nat (x := y1) (by omega)
 have v2 := u64_nat (x := y2) (by omega)
 have v3 := u64_nat (x := y3) (by omega)
 have a1 : IntKind.u64.wrap (256 * (y2 : Int)) = ((256 * y2 : Nat) : Int) := by rw [show 256 * (y2 : Int) = ((256 * y2 : Nat) : Int) by omega]; exact IntWalk.u64_in _ (by omega)
 have a2 : IntKind.u64.wrap ((y1 : Int) + ((256 * y2 : Nat) : Int)) = ((y1 + 256 * y2 : Nat) : Int) := by rw [show (y1 : Int) + ((256 * y2 : Nat) : Int) = ((y1 + 256 * y2 : Nat) : Int) by omega]; exact IntWalk.u64_in _ (by omega)
 have a3 : IntKind.u64.wrap (4294967296 * (y3 : Int)) = ((4294967296 * y3 : Nat) : Int) := by rw [show 4294967296 * (y3 : Int) = ((4294967296 * y3 : Nat) : Int) by omega]; exact IntWalk.u64_in _ (by omega)
 have a4 : IntKind.u64.wrap (((y1 + 256 * y2 : Nat) : Int) + ((4294967296 * y3 : Nat) : Int)) = ((y1 + 256 * y2 + 4294967296 * y3 : Nat) : Int) := by rw [show ((y1 + 256 * y2 : Nat) : Int) + ((4294967296 * y3 : Nat) : Int) = ((y1 + 256 * y2 + 4294967296 * y3 : Nat) : Int) by omega]; exact IntWalk.u64_in _ (by omega)
 have a5 : IntKind.u64.wrap (((y1 + 256 * y2 + 4294967296 * y3 : Nat) : Int) + 4611686018427387904) = ((y1 + 256 * y2 + 4294967296 * y3 + 4611686018427387904 : Nat) : Int) := by rw [show ((y1 + 256 * y2 + 4294967296 * y3 : Nat) : Int) + 4611686018427387904 = ((y1 + 256 * y2 + 4294967296 * y3 + 4611686018427387904 : Nat) : Int) by omega]; exact IntWalk.u64_in _ (by omega)
 have E2 : Hid (mkCell s g l = y1 + 256 * y2 + 4294967296 * y3 + 4611686018427387904) := Lib.hid (by have := E.out; omega)
 generalize y1 + 256 * y2 + 4294967296 * y3 + 4611686018427387904 = z at *
 generalize y1 + 256 * y2 + 4294967296 * y3 = z4 at *
 generalize 4294967296 * y3 = z3 at *
 generalize y1 + 256 * y2 = z2 at *
 generalize 256 * y2 = z1 at *
 have e0 : (#[.int .i64 (s : Nat), .int .i64 (g : Nat), .int .u64 (l : Nat)] : Array Value)[0]? = some (.int .i64 (s : Nat)) := rfl
 have e1 : (#[.int .i64 (s : Nat), .int .i64 (g : Nat), .int .u64 (l : Nat)] : Array Value)[1]? = some (.int .i64 (g : Nat)) := rfl
 have e2 : (#[.int .i64 (s : Nat), .int .i64 (g : Nat), .int .u64 (l : Nat)] : Array Value)[2]? = some (.int .u64 (l : Nat)) := rfl
 generalize hrw : (#[.int .i64 (s : Nat), .int .i64 (g : Nat), .int .u64 (l : Nat)] : Array Value) = row at *
 clear hs hg hl hrw x1 x2 x3 E
 go_enter Tryz.func21, Tryz.ntmps21
 go_upto_region 1 with (fail)
 obtain ⟨M1, hbx, hle, hb4, hn⟩ := h.box (.cells row 58)
 generalize w.alloc _ = wx at hbx ⊢
 generalize w.heap.size = b4 at hb4 hn ⊢
 clear h
 try clear w
 have h := hbx
 clear hbx
 obtain ⟨w, rfl⟩ : ∃ x : World, x = wx := ⟨_, rfl⟩
 go_wp2_with (first
  | (with_reducible show wpList _ _ _ ({ dst := _, op := Op.load 3 _, type := _, pos := _, after := _, guard := _ } :: _) _ _; refine wpList_load1_has h rfl 3 _ rfl rfl hb4 e0 Tryz.underlying3 rfl ?_)
  | (with_reducible show wpList _ _ _ ({ dst := _, op := Op.load 3 _, type := _, pos := _, after := _, guard := _ } :: _) _ _; refine wpList_load1_has h rfl 3 _ rfl rfl hb4 e1 Tryz.underlying3 rfl ?_)
  | (with_reducible show wpList _ _ _ ({ dst := _, op := Op.load 42 _, type := _, pos := _, after := _, guard := _ } :: _) _ _; refine wpList_load1_has h rfl 42 _ rfl rfl hb4 e2 Tryz.underlying42 rfl ?_))
 go_ret
 exact ⟨by rw [E2.out]; rfl, h.le hle⟩
theorem refOld_any (l e : Nat) (hl : l < 1073741824) (w : World) : Calls Tryz.prog 69 #[.int .u64 l, .int .u64 e] w fun r w' => r = .returned (.bool (oldB l e)) ∧ w = w' := by
 have g1 : decide ((l : Int) < 18446744073709551614) = true := decide_eq_true (by omega)
 have g1' : decide (l < 18446744073709551614) = true := decide_eq_true (by omega)
 have w1 : IntKind.u64.wrap ((l : Int) + 2) = ((l + 2 : Nat) : Int) := by rw [show (l : Int) + 2 = ((l + 2 : Nat) : Int) by omega]; exact IntWalk.u64_in _ (by omega)
 obtain ⟨b, hb⟩ : ∃ b, decide (l + 2 ≤ e) = b := ⟨_, rfl⟩
 have E : Hid (oldB l e = b) := Lib.hid (by
  unfold oldB
  rw [← hb]
  by_cases hh : l + 2 ≤ e
  ·rw [decide_eq_true hh, decide_eq_true (show 2 ≤ e by omega)]; rfl
  ·rw [decide_eq_false hh, Bool.and_false])
 have g2 : decide (((l + 2 : Nat) : Int) ≤ (e : Int)) = b := by rw [← hb, Bool.eq_iff_iff, decide_eq_true_eq, decide_eq_true_eq]; omega
 generalize ((l + 2 : Nat) : Int) = l2 at *
 clear hl hb
 go_enter Tryz.func69, Tryz.ntmps69
 go_wp2
 go_ret
 exact ⟨by rw [E.out]; first | rfl | rw [g2] | simp [g2], rfl⟩
set_option maxHeartbeats 1000000 in
theorem refEmpty_eq {σ w : World} {M : Mm} (h : Has σ M w) {v : Value} {n : Nat} {C : List Nat} (hr : Rd M 1 v n (cu C)) (hn : n ≤ 1000) : Calls Tryz.prog 16 #[v] w fun r w' => ∃ z : Int, r = .returned (.int .i64 z) ∧ Has σ M w' ∧ (((∀ i, i < n → C.getD i 0 ≠ 0) ∧ z = -1) ∨ ∃ j : Nat, j < n ∧ (∀ i, i < j → C.getD i 0 ≠ 0) ∧ C.getD j 0 = 0 ∧ z = (j : Nat)) := by
 have hl : C.length = n := by have := hr.1; simp [cu, u64s] at this; exact this
 obtain ⟨_, A, ca, rfl, _, hA⟩ := hr
 have HA := Lib.hid hA
 have HL := Lib.hid hl
 clear hA hl
 go_enter Tryz.func16, Tryz.ntmps16
 go_wp2
 go_loopw [3] (fun i wr => ∃ k : Nat, k ≤ n ∧ i = .int .i64 (k : Nat) ∧ Has σ M wr ∧ Hid (∀ i, i < k → C.getD i 0 ≠ 0)) (fun i _ => n - (intOf i).toNat)
 case atStart => exact ⟨0, Nat.zero_le _, rfl, h, Lib.hid fun i hi => absurd hi (Nat.not_lt_zero _)⟩
 case round =>
  clear h w
  obtain ⟨w, rfl⟩ : ∃ x : World, x = wr := ⟨_, rfl⟩
  obtain ⟨k, hk, rfl, h, hz⟩ := hrel
  by_cases hlt : k < n
  ·have hlt' : (k : Int) < (n : Int) := by omega
   obtain ⟨ba, oa, csa, ta, fa, rfl, hMa, hxa⟩ := HA.out (by omega)
   obtain ⟨x, hx⟩ : ∃ x, C[k]? = some x := ⟨_, List.getElem?_eq_getElem (by rw [HL.out]; omega)⟩
   have ga : csa[oa + k]? = some (.int .u64 (x : Nat)) := hxa k _ (cu_get hx)
   have HX : Hid (C.getD k 0 = x) := Lib.hid (by rw [List.getD_eq_getElem?_getD, hx]; rfl)
   have HLT := Lib.hid hlt
   clear hxa hx hlt hk
   by_cases h0 : x = 0
   ·subst h0
    go_wp2_with (first
     | (with_reducible show wpList _ _ _ ({ dst := _, op := Op.load 42 _, type := _, pos := _, after := _, guard := _ } :: _) _ _; refine wpList_load1_has h rfl 42 _ rfl rfl hMa ga Tryz.underlying42 rfl ?_))
    go_ret
    exact ⟨_, rfl, h, .inr ⟨k, HLT.out, hz.out, HX.out, rfl⟩⟩
   ·have g0 : ((x : Int) == 0) = false := beq_eq_false_iff_ne.2 (by omega)
    have HZ := Lib.hid (⟨hz.out, h0⟩ : _ ∧ _)
    clear h0 hz
    go_wp2_with (first
     | (with_reducible show wpList _ _ _ ({ dst := _, op := Op.load 42 _, type := _, pos := _, after := _, guard := _ } :: _) _ _; refine wpList_load1_has h rfl 42 _ rfl rfl hMa ga Tryz.underlying42 rfl ?_))
    go_roundw
    case rel => exact ⟨k + 1, by have := HLT.out; omega, by go_num, h, Lib.hid fun i hi => by
     by_cases e : i = k
     ·subst e; rw [HX.out]; exact HZ.out.2
     ·exact HZ.out.1 i (by omega)⟩
    case measure => have := HLT.out; simp [intOf]; omega
  ·obtain rfl : k = n := by omega
   go_wp2
   go_ret
   exact ⟨_, rfl, h, .inl ⟨hz.out, rfl⟩⟩
theorem cu_one (C : List Nat) : ∀ y ∈ cu C, y.oneCell' = true := fun y hy => by
 simp only [cu, u64s, List.map_map, List.mem_map] at hy
 obtain ⟨x, _, rfl⟩ := hy
 rfl
theorem cu_set (C : List Nat) (i x : Nat) : (cu C).set i (.int .u64 (x : Nat)) = cu (C.set i x) := by simp [cu, u64s, List.map_set]
theorem cu_len (C : List Nat) : (cu C).length = C.length := by simp [cu, u64s]
set_option maxHeartbeats 2000000 in
set_option maxRecDepth 20000 in
theorem refSet_eq {σ w : World} {M : Mm} (h : Has σ M w) {v : Value} {n i x : Nat} {C : List Nat} (hr : Rd M 1 v n (cu C)) (hn : n ≤ 1000) (hi : i < n) : Calls Tryz.prog 20 #[v, .int .i64 (i : Nat), .int .u64 (x : Nat)] w fun r w' => ∃ v', r = .returned v' ∧ Acc σ M w' 42 1 v' n (cu (C.set i x)) := by
 have h1 := cu_one C
 go_enter Tryz.func20, Tryz.ntmps20
 go_upto_region 2 with (first
  | (at_builtin; refine wpList_append_rd (h.alloc _) (Mm.le_upd' h.fresh _) rfl _ _ _ rfl Tryz.underlying35 info_u64 rfl (by omega) rfl (Own.made h.fresh 0 rfl (by decide)) rfl (hr.le (Mm.le_upd' h.fresh _)) h1 (by omega) (by omega) ?_; clear h; intro v w hacc))
 obtain ⟨M1, h, hle, hown⟩ := hacc
 rw [Nat.zero_add, show ([] : List Value) ++ cu C = cu C from rfl] at hown
 obtain ⟨g, cap, rfl⟩ := Own.pos hown (by omega)
 have hi' : (i : Int) < (n : Int) := by omega
 go_wp2_with (first
  | ((with_reducible show wpList _ _ _ ({ dst := _, op := Op.store 42 _ _, type := _, pos := _, after := _, guard := _ } :: _) _ _); refine wpList_putOne (u := .int .u64 (x : Nat)) h hle hown rfl 42 _ _ rfl rfl rfl hi rfl rfl (by kernel_rfl) ?_; clear h hle hown; intro w M2 h hle hown))
 go_ret
 rw [cu_set] at hown
 exact ⟨_, rfl, M2, h, hle, hown⟩
theorem swN_succ (e k i : Nat) (C : List Nat) : swN e (k + 1) i C = if isOld e (C.getD i 0) then ((swN e k (i + 1) (C.set i 0)).1, (swN e k (i + 1) (C.set i 0)).2 + 1) else swN e k (i + 1) C := rfl
theorem Own.both {M0 M' : Mm} {e : TypeId} {sz n b : Nat} {v : Value} {xs : List Value} {o : Obj} (h : Own M0 M' e sz v n xs) (hb : M0 b = some o) (o' : Obj) : Own (M0.upd b o') (M'.upd b o') e sz v n xs := by
 obtain ⟨hl, ⟨hv, h0⟩ | ⟨g, cap, cur, hv, hg, hh, r⟩⟩ := h
 ·exact ⟨hl, .inl ⟨hv, h0⟩⟩
 ·have hne : g ≠ b := fun e => by subst e; rw [hb] at hg; cases hg
  exact ⟨hl, .inr ⟨g, cap, cur, hv, (Mm.upd_ne hne).trans hg, (Mm.upd_ne hne).trans hh, r⟩⟩
theorem Own.more {M0 M M' : Mm} {e : TypeId} {sz n : Nat} {v : Value} {xs : List Value} (h : Own M0 M e sz v n xs) (hle : M.le M') : Own M0 M' e sz v n xs := by
 obtain ⟨hl, ⟨hv, h0⟩ | ⟨g, cap, cur, hv, hg, hh, r⟩⟩ := h
 ·exact ⟨hl, .inl ⟨hv, h0⟩⟩
 ·exact ⟨hl, .inr ⟨g, cap, cur, hv, hg, hle _ _ hh, r⟩⟩
theorem Mm.upd_both {M M' : Mm} (h : M.le M') (b : Nat) (o : Obj) : (M.upd b o).le (M'.upd b o) := fun c o' hc => by
 by_cases e : c = b
 ·subst e; rw [Mm.upd_same] at hc ⊢; exact hc
 ·rw [Mm.upd_ne e] at hc ⊢; exact h c o' hc
theorem what_label {x : Nat} (hx : x < 18446744073709551616) (h0 : x ≠ 0) (hk : kindN x = 2) : whatV x = #[.int .i64 (cutN x 0 8 : Nat), .int .i64 (cutN x 8 24 : Nat), .int .u64 (cutN x 32 30 : Nat)] := by
 unfold whatV; rw [if_pos hk]
set_option maxHeartbeats 4000000 in
set_option maxRecDepth 20000 in
theorem refSweep_eq {σ w : World} {M : Mm} (h : Has σ M w) {v : Value} {n e : Nat} {C : List Nat} (hr : Rd M 1 v n (cu C)) (hn : n ≤ 1000) (hC : ∀ u ∈ C, u ≠ 0 → u < 18446744073709551616 ∧ kindN u = 2) : Calls Tryz.prog 23 #[v, .int .u64 (e : Nat)] w fun r w' => ∃ (v1 : Value) (A : Option Addr) (cap : Nat), r = .returned (.tuple #[v1, .slice A (swN e n 0 C).2 cap]) ∧ Acc σ M w' 42 1 v1 n (cu (swN e n 0 C).1) := by
 have h1 := cu_one C
 have hl : C.length = n := by have := hr.1; simp [cu, u64s] at this; exact this
 have hle0 := Mm.le_refl M
 have HL := Lib.hid hl
 clear hl
 go_enter Tryz.func23, Tryz.ntmps23
 go_upto_region 2 with (first
  | (at_builtin; refine wpList_append_rd (h.alloc _) (Mm.le_upd' h.fresh _) rfl _ _ _ rfl Tryz.underlying35 info_u64 rfl (by omega) rfl (Own.made h.fresh 0 rfl (by decide)) rfl (hr.le (Mm.le_upd' h.fresh _)) h1 (by omega) (by omega) ?_; clear h; intro v w hacc))
 obtain ⟨M1, h, hle, hown⟩ := hacc
 rw [Nat.zero_add, show ([] : List Value) ++ cu C = cu C from rfl] at hown
 generalize w.heap.size = junk
 clear hr h1
 have HC := Lib.hid hC
 have H1 := Lib.hid hle
 have H2 := Lib.hid hown
 clear hC hle hown
 obtain ⟨A1, c1, rfl⟩ := H2.out.form
 go_upto_region 4 with (fail)
 go_loopw [7, 8] (fun gv iv wr => ∃ (k c : Nat) (C' : List Nat) (M1 M2 : Mm) (A : Option Addr) (cap : Nat) (xs : List Value), k ≤ n ∧ c ≤ k ∧ gv = .slice A c cap ∧ iv = .int .i64 (k : Nat) ∧ Has σ M2 wr ∧ Hid (M.le M1 ∧ M1.le M2 ∧ Own M M1 42 1 (.slice A1 n c1) n (cu C') ∧ Own M1 M2 3 1 (.slice A c cap) c xs ∧ C'.length = n ∧ (swN e n 0 C).1 = (swN e (n - k) k C').1 ∧ (swN e n 0 C).2 = (swN e (n - k) k C').2 + c ∧ ∀ u ∈ C', u ≠ 0 → u < 18446744073709551616 ∧ kindN u = 2)) (fun _ i _ => n - (intOf i).toNat)
 case atStart => exact ⟨0, 0, C, M1, M1, none, 0, [], Nat.zero_le _, Nat.le_refl _, rfl, rfl, h, Lib.hid ⟨H1.out, Mm.le_refl _, H2.out, Own.nil _ _ _ _, HL.out, rfl, rfl, HC.out⟩⟩
 case round =>
  clear h w H1 H2 M1
  obtain ⟨w, rfl⟩ : ∃ x : World, x = wr := ⟨_, rfl⟩
  obtain ⟨k, c, C', M1, M2, A, cap, xs, hk, hc, rfl, rfl, h, hI⟩ := hrel
  by_cases hlt : k < n
  ·have hlt' : (k : Int) < (n : Int) := by omega
   obtain ⟨i1, i2, i3, i4, i5, i6, i7, i8⟩ := hI.out
   obtain ⟨g, cap1, hv⟩ := Own.pos i3 (by omega)
   cases hv
   obtain ⟨cur, hg1, hklt, hput, hng⟩ := i3.put k (.int .u64 0)
   have hklt' : k < cur.size := by omega
   obtain ⟨cur2, hg12, hcur⟩ := Own.at_ i3
   obtain rfl : cur = cur2 := by rw [hg1] at hg12; injection hg12 with h1; injection h1
   obtain ⟨x, hx⟩ : ∃ x, C'[k]? = some x := ⟨_, List.getElem?_eq_getElem (by omega)⟩
   have ga : cur[k]? = some (.int .u64 (x : Nat)) := hcur k _ (cu_get hx)
   have hg2 := i2 _ _ hg1
   have hx64 : x < 18446744073709551616 := by
    by_cases e0 : x = 0
    ·subst e0; decide
    ·exact (i8 x (List.mem_of_getElem? hx) e0).1
   have hgd : C'.getD k 0 = x := by rw [List.getD_eq_getElem?_getD, hx]; rfl
   have hnk : n - k = (n - (k + 1)) + 1 := by omega
   rw [hnk] at i6 i7
   rw [swN_succ, hgd] at i6 i7
   have HLT := Lib.hid hlt
   have HCK := Lib.hid hc
   have HP := Lib.hid (⟨hput, hng⟩ : _ ∧ _)
   have I8 := Lib.hid i8
   have I67 := Lib.hid (⟨i6, i7⟩ : _ ∧ _)
   have I5 := Lib.hid i5
   have I3 := Lib.hid i3
   have I12 := Lib.hid (⟨i1, i2⟩ : _ ∧ _)
   have I4 := Lib.hid i4
   have KK : Hid (x ≠ 0 → kindN x = 2) := Lib.hid fun e0 => (i8 x (List.mem_of_getElem? hx) e0).2
   have WT := Lib.hid (fun (w : World) (h : Has σ M2 w) => refWhat_eq h x hx64)
   have KD := Lib.hid (refKind_any x hx64)
   have wk : IntKind.i64.wrap ((k : Int) + 1) = ((k + 1 : Nat) : Int) := by rw [show (k : Int) + 1 = ((k + 1 : Nat) : Int) by omega]; exact IntWalk.i64_in _ (by omega)
   have hsz : (whatV x).size = 3 := by unfold whatV; split <;> rfl
   have hsz' := hsz
   have hone : (whatV x).toList.all (·.oneCell') = true := by unfold whatV; split <;> rfl
   have WL : Hid (x ≠ 0 → whatV x = #[.int .i64 (cutN x 0 8 : Nat), .int .i64 (cutN x 8 24 : Nat), .int .u64 (cutN x 32 30 : Nat)]) := Lib.hid fun e0 => what_label hx64 e0 (KK.out e0)
   obtain ⟨wv, hwv⟩ : ∃ wv, whatV x = wv := ⟨_, rfl⟩
   rw [hwv] at WT WL hsz hsz' hone
   clear hlt hc hput hng i1 i2 i3 i4 i5 i6 i7 i8 hI hg12 hcur hx hgd hnk hwv hk
   go_upto_region 7 with (first
    | (with_reducible show wpList _ _ _ ({ dst := _, op := Op.load 42 _, type := _, pos := _, after := _, guard := _ } :: _) _ _; refine wpList_load1_has h rfl 42 _ rfl rfl hg2 ga Tryz.underlying42 rfl ?_)
    | ((go_at_call 55; refine (WT.out _ h).mono ?_; clear h; rintro _ w ⟨rfl, h⟩))
    | ((with_reducible show wpList _ _ _ ({ dst := _, op := Op.alloc 58, type := _, pos := _, after := _, guard := _ } :: _) _ _); refine wpList_alloc_has h rfl 58 rfl _ zE3 ?_; clear h; intro b9 w h hn9; try simp only [Act.put, qD, qE, qF])
    | ((with_reducible show wpList _ _ _ ({ dst := _, op := Op.store 58 _ _, type := _, pos := _, after := _, guard := _ } :: _) _ _); (refine wpList_storeAll_has (cells := wv) h rfl 58 _ _ rfl rfl rfl (Mm.upd_same M2 b9 _) rfl rfl hsz (by kernel_rfl) hone ?_); clear h; intro w h))
   rw [Mm.upd_upd] at h
   have hb9 := Mm.upd_same M2 b9 (.cells wv 58)
   have hle9 := Mm.le_upd' hn9 (.cells wv 58)
   generalize M2.upd b9 _ = M3 at h hb9 hle9
   have hg3 := hle9 _ _ hg2
   clear hn9 WT hsz hsz' hone hg2
   by_cases h0 : x = 0
   ·subst h0
    have eo : isOld e 0 = false := rfl
    have I67' := Lib.hid (show (swN e n 0 C).1 = (swN e (n - (k + 1)) (k + 1) C').1 ∧ (swN e n 0 C).2 = (swN e (n - (k + 1)) (k + 1) C').2 + c from I67.out)
    rw [show kindN 0 = 0 from rfl] at KD
    clear I67 WL KK
    go_wp2_with (first
     | (with_reducible show wpList _ _ _ ({ dst := _, op := Op.load 42 _, type := _, pos := _, after := _, guard := _ } :: _) _ _; refine wpList_load1_has h rfl 42 _ rfl rfl hg3 ga Tryz.underlying42 rfl ?_)
     | ((go_at_call 68; refine (KD.out _).mono ?_; rintro r w' ⟨rfl, rfl⟩)))
    go_roundw
    case rel => exact ⟨k + 1, c, C', M1, M3, A, cap, xs, HLT.out, by have := HCK.out; omega, rfl, by go_num, h, Lib.hid ⟨I12.out.1, Mm.le_trans I12.out.2 hle9, I3.out, I4.out.more hle9, I5.out, I67'.out.1, I67'.out.2, I8.out⟩⟩
    case measure => have := HLT.out; simp [intOf]; omega
   ·rw [KK.out h0] at KD
    have hw := WL.out h0
    subst hw
    have hlab : cutN x 32 30 < 1073741824 := cutN_lt x 32 30
    have eo : isOld e x = oldB (cutN x 32 30) e := by unfold isOld; rw [show (x != 0) = true by simpa using h0]; rfl
    have OD := Lib.hid (refOld_any (cutN x 32 30) e hlab)
    have hslot : cutN x 0 8 < 256 := cutN_lt x 0 8
    have b0 : (#[.int .i64 (cutN x 0 8 : Nat), .int .i64 (cutN x 8 24 : Nat), .int .u64 (cutN x 32 30 : Nat)] : Array Value)[0]? = some (.int .i64 (cutN x 0 8 : Nat)) := rfl
    have b2 : (#[.int .i64 (cutN x 0 8 : Nat), .int .i64 (cutN x 8 24 : Nat), .int .u64 (cutN x 32 30 : Nat)] : Array Value)[2]? = some (.int .u64 (cutN x 32 30 : Nat)) := rfl
    rw [← eo] at OD
    obtain ⟨o, ho⟩ : ∃ o, isOld e x = o := ⟨_, rfl⟩
    rw [ho] at OD
    have I67' := Lib.hid (by have := I67.out; rw [ho] at this; exact this)
    clear I67 WL KK eo ho hlab h0
    generalize (#[.int .i64 (cutN x 0 8 : Nat), .int .i64 (cutN x 8 24 : Nat), .int .u64 (cutN x 32 30 : Nat)] : Array Value) = wv at *
    generalize cutN x 0 8 = slot at *
    generalize cutN x 32 30 = label at *
    cases o
    ·go_wp2_with (first
      | (with_reducible show wpList _ _ _ ({ dst := _, op := Op.load 42 _, type := _, pos := _, after := _, guard := _ } :: _) _ _; refine wpList_load1_has h rfl 42 _ rfl rfl hg3 ga Tryz.underlying42 rfl ?_)
      | ((go_at_call 68; refine (KD.out _).mono ?_; rintro r w' ⟨rfl, rfl⟩))
      | (with_reducible show wpList _ _ _ ({ dst := _, op := Op.load 42 _, type := _, pos := _, after := _, guard := _ } :: _) _ _; refine wpList_load1_has h rfl 42 _ rfl rfl hb9 b2 Tryz.underlying42 rfl ?_)
      | ((go_at_call 69; refine (OD.out _).mono ?_; rintro r w' ⟨rfl, rfl⟩)))
     go_roundw
     case rel => exact ⟨k + 1, c, C', M1, M3, A, cap, xs, HLT.out, by have := HCK.out; omega, rfl, by go_num, h, Lib.hid ⟨I12.out.1, Mm.le_trans I12.out.2 hle9, I3.out, I4.out.more hle9, I5.out, I67'.out.1, I67'.out.2, I8.out⟩⟩
     case measure => have := HLT.out; simp [intOf]; omega
    ·have hown4 := I4.out.more hle9
     have hle13 := Mm.le_trans I12.out.2 hle9
     have hc1000 : c ≤ 1000 := by have := HCK.out; have := HLT.out; omega
     go_upto_region 9 with (first
      | (with_reducible show wpList _ _ _ ({ dst := _, op := Op.load 42 _, type := _, pos := _, after := _, guard := _ } :: _) _ _; refine wpList_load1_has h rfl 42 _ rfl rfl hg3 ga Tryz.underlying42 rfl ?_)
      | ((go_at_call 68; refine (KD.out _).mono ?_; rintro r w' ⟨rfl, rfl⟩))
      | (with_reducible show wpList _ _ _ ({ dst := _, op := Op.load 42 _, type := _, pos := _, after := _, guard := _ } :: _) _ _; refine wpList_load1_has h rfl 42 _ rfl rfl hb9 b2 Tryz.underlying42 rfl ?_)
      | ((go_at_call 69; refine (OD.out _).mono ?_; rintro r w' ⟨rfl, rfl⟩))
      | (with_reducible show wpList _ _ _ ({ dst := _, op := Op.load 3 _, type := _, pos := _, after := _, guard := _ } :: _) _ _; refine wpList_load1_has h rfl 3 _ rfl rfl hb9 b0 Tryz.underlying3 rfl ?_)
      | (at_builtin; refine wpList_append_lit h hle13 rfl _ _ _ rfl rfl Tryz.underlying47 info_int rfl (by omega) rfl hown4 rfl rfl rfl (by omega) (by omega) ?_; clear h hle13 hown4; intro v w hacc))
     obtain ⟨M4, h, hle14, hown5⟩ := hacc
     have hg4 := hle14 _ _ hg1
     go_wp2_with (first
      | (with_reducible show wpList _ _ _ ({ dst := _, op := Op.store 42 _ _, type := _, pos := _, after := _, guard := _ } :: _) _ _; refine wpList_store1_has h rfl 42 _ _ rfl rfl rfl hg4 hklt' rfl (by kernel_rfl) ?_; clear h; intro w h))
     obtain ⟨A5, c5, rfl⟩ := hown5.form
     go_roundw
     case rel => exact ⟨k + 1, c + 1, C'.set k 0, M1.upd g (.cells (cur.setIfInBounds k (.int .u64 0)) 42), M4.upd g (.cells (cur.setIfInBounds k (.int .u64 0)) 42), A5, c5, _, HLT.out, by have := HCK.out; omega, rfl, by go_num, h, Lib.hid ⟨Mm.le_upd I12.out.1 HP.out.2 _, Mm.upd_both hle14 _ _, by have := HP.out.1; rw [show (.int .u64 0 : Value) = .int .u64 ((0 : Nat) : Int) from rfl, cu_set] at this; exact this, hown5.both hg1 _, by rw [List.length_set]; exact I5.out, I67'.out.1, by have := I67'.out.2; rw [if_pos trivial] at this; dsimp only at this; omega, fun u hu hu0 => by
      rcases List.mem_or_eq_of_mem_set hu with hu | hu
      ·exact I8.out u hu hu0
      ·exact absurd hu hu0⟩⟩
     case measure => have := HLT.out; simp [intOf]; omega
  ·obtain rfl : k = n := by omega
   obtain ⟨i1, i2, i3, i4, i5, i6, i7, i8⟩ := hI.out
   rw [Nat.sub_self] at i6 i7
   have e2 : Hid ((swN e k 0 C).2 = c) := Lib.hid (by rw [i7]; show 0 + c = c; omega)
   have e1 : Hid ((swN e k 0 C).1 = C') := Lib.hid (by rw [i6]; rfl)
   have H3 := Lib.hid i3
   have H12 := Lib.hid (⟨i1, i2⟩ : _ ∧ _)
   clear i1 i2 i3 i4 i5 i6 i7 i8 hI hc
   go_wp2
   go_ret2
   rw [e1.out, e2.out]
   exact ⟨_, _, _, rfl, M1, h.le H12.out.2, H12.out.1, H3.out⟩
end
section
open Go.RowKit
theorem info_ints : (Tryz.prog.info? 47).map (fun i => (i.zero, i.size, i.bytes)) = some (some (.slice none 0 0), 1, 24) := by kernel_rfl
def nils (n : Nat) : List Value := (List.range n).map fun _ => .slice none 0 0
theorem made_ints (n : Nat) : madeCells (Value.slice none 0 0).cells (n * 1) = (nils n).toArray := by
 apply Array.ext_getElem?
 intro i
 unfold madeCells nils
 by_cases hi : i < n
 ·simp [Value.cells, hi, Nat.mod_one]
 ·simp [Value.cells, hi]
theorem mk_ints (N : Nat) (h : N ≤ 1000) (W : World) : (Instr.makeSlice 33 (.int .i64 N) (.int .i64 N)).run Tryz.prog W = .ok (.slice (some ⟨W.heap.size, 0, none⟩) N N) (W.alloc (.cells (nils N).toArray 47)) := by
 obtain ⟨i, hi, he⟩ := Option.map_eq_some_iff.1 info_ints
 simp only [Prod.mk.injEq] at he
 obtain ⟨h1, h2, h3⟩ := he
 rw [run_makeSlice W 33 47 i (.slice none 0 0) Tryz.underlying33 hi h1 .i64 .i64 N N (by omega) (by omega) (by rw [h2, Int.toNat_natCast]; omega) (by rw [h3]; omega) (by omega), Int.toNat_natCast, h2, made_ints]
end
section
theorem map_set {α : Type} (f : Nat → α) (n k : Nat) (y : α) : ((List.range n).map f).set k y = (List.range n).map (put1 f k y) := by
 apply List.ext_getElem?
 intro i
 rw [List.getElem?_set, List.getElem?_map, List.getElem?_map]
 by_cases hi : i < n
 ·rw [List.getElem?_range hi]
  by_cases e : k = i
  ·subst e; rw [if_pos rfl, if_pos (by simpa using hi)]; simp [put1]
  ·rw [if_neg e]; simp [put1, show ¬ i = k from fun h => e h.symm]
 ·rw [List.getElem?_eq_none (by simpa using hi)]
  simp [hi]
  omega
end
section
open Go.RowKit
theorem info_us : (Tryz.prog.info? 35).map (fun i => (i.zero, i.size, i.bytes)) = some (some (.slice none 0 0), 1, 24) := by kernel_rfl
theorem mk_uss (N : Nat) (h : N ≤ 1000) (W : World) : (Instr.makeSlice 34 (.int .i64 N) (.int .i64 N)).run Tryz.prog W = .ok (.slice (some ⟨W.heap.size, 0, none⟩) N N) (W.alloc (.cells (nils N).toArray 35)) := by
 obtain ⟨i, hi, he⟩ := Option.map_eq_some_iff.1 info_us
 simp only [Prod.mk.injEq] at he
 obtain ⟨h1, h2, h3⟩ := he
 rw [run_makeSlice W 34 35 i (.slice none 0 0) Tryz.underlying34 hi h1 .i64 .i64 N N (by omega) (by omega) (by rw [h2, Int.toNat_natCast]; omega) (by rw [h3]; omega) (by omega), Int.toNat_natCast, h2, made_ints]
theorem made_u (n : Nat) : madeCells (Value.int .u64 0).cells (n * 1) = (cu (List.replicate n 0)).toArray := by
 apply Array.ext_getElem?
 intro i
 unfold madeCells cu u64s
 by_cases hi : i < n
 ·simp [Value.cells, hi, Nat.mod_one]
 ·simp [Value.cells, hi]
theorem mk_us (N : Nat) (h : N ≤ 1000) (W : World) : (Instr.makeSlice 35 (.int .i64 N) (.int .i64 N)).run Tryz.prog W = .ok (.slice (some ⟨W.heap.size, 0, none⟩) N N) (W.alloc (.cells (cu (List.replicate N 0)).toArray 42)) := by
 obtain ⟨i, hi, he⟩ := Option.map_eq_some_iff.1 info_u64
 simp only [Prod.mk.injEq] at he
 obtain ⟨h1, h2, h3⟩ := he
 rw [run_makeSlice W 35 42 i (.int .u64 0) Tryz.underlying35 hi h1 .i64 .i64 N N (by omega) (by omega) (by rw [h2, Int.toNat_natCast]; omega) (by rw [h3]; omega) (by omega), Int.toNat_natCast, h2, made_u]
/-- The law's rows: what each level took; what its Cells must be (of the first kx levels). -/
structure LawW (K : Mm) (labK : Nat → Nat) (L B kx : Nat) (hv wv : Value) (fh fw : Nat → Value) (had C : Nat → List Nat) : Prop where
 hrow : Row K labK 2 47 1 hv L ((List.range L).map fh)
 each : ∀ k, k < L → RowF K labK (10 + k) 3 (fh k) (had k).length (natv (had k))
 wrow : Row K labK 3 35 1 wv L ((List.range L).map fw)
 want : ∀ k, k < kx → Rd (stable K labK) 1 (fw k) B (cu (C k))
section
variable {K K' K2 M : Mm} {labK labK' labK2 : Nat → Nat} {L B kx k : Nat} {hv wv v : Value} {fh fw : Nat → Value} {had C : Nat → List Nat} {h2 : List Nat}
theorem LawW.keep (h : LawW K labK L B kx hv wv fh fw had C) (hK : Kp Non K labK K' labK') : LawW K' labK' L B kx hv wv fh fw had C :=
 ⟨h.hrow.keep hK fun h => h, fun k hk => (h.each k hk).keep hK fun h => h, h.wrow.keep hK fun h => h, fun k hk => (h.want k hk).le (stable_kp hK fun h => h)⟩
theorem LawW.setH (h : LawW K labK L B kx hv wv fh fw had C) (hk : k < L) (hK : Kp (fun j => j = 10 + k) K labK K' labK') (hr : RowF K' labK' (10 + k) 3 v h2.length (natv h2)) (hK2 : Kp (fun j => j = 2) K' labK' K2 labK2) (hr2 : Row K2 labK2 2 47 1 hv L (((List.range L).map fh).set k v)) : LawW K2 labK2 L B kx hv wv (put1 fh k v) fw (put1 had k h2) C := by
 refine ⟨by rw [← map_set]; exact hr2, fun i hi => ?_, (h.wrow.keep hK (by omega)).keep hK2 (by omega), fun i hi => ((h.want i hi).le (stable_kp hK (by omega))).le (stable_kp hK2 (by omega))⟩
 by_cases e : i = k
 ·subst e; rw [put1_same, put1_same]; exact hr.keep hK2 (by omega)
 ·rw [put1_ne e, put1_ne e]; exact ((h.each i hi).keep hK (by omega)).keep hK2 (by omega)
theorem LawW.setW {C2 : List Nat} (h : LawW K labK L B kx hv wv fh fw had C) (hK : Kp (fun j => j = 3) K labK K' labK') (hr : Row K' labK' 3 35 1 wv L (((List.range L).map fw).set k v)) (hw : Rd (stable K labK) 1 v B (cu C2)) : LawW K' labK' L B kx hv wv fh (put1 fw k v) had (put1 C k C2) := by
 refine ⟨h.hrow.keep hK (by omega), fun i hi => (h.each i hi).keep hK (by omega), by rw [← map_set]; exact hr, fun i hi => ?_⟩
 by_cases e : i = k
 ·subst e; rw [put1_same, put1_same]; exact hw.le (stable_kp hK (by omega))
 ·rw [put1_ne e, put1_ne e]; exact (h.want i hi).le (stable_kp hK (by omega))
/-- One level's Cells more. -/
theorem LawW.push (h : LawW K labK L B kx hv wv fh fw had C) (hK : Kp (fun j => j = 3) K labK K' labK') (hr : Row K' labK' 3 35 1 wv L (((List.range L).map fw).set kx v)) (hw : Rd (stable K labK) 1 v B (cu (C kx))) : LawW K' labK' L B (kx + 1) hv wv fh (put1 fw kx v) had C := by
 refine ⟨h.hrow.keep hK (by omega), fun i hi => (h.each i hi).keep hK (by omega), by rw [← map_set]; exact hr, fun i hi => ?_⟩
 by_cases e : i = kx
 ·subst e; rw [put1_same]; exact hw.le (stable_kp hK (by omega))
 ·rw [put1_ne e]; exact (h.want i (by omega)).le (stable_kp hK (by omega))
theorem LawW.have_ (h : LawW K labK L B kx hv wv fh fw had C) (hB : K.le M) {g cap : Nat} (e : hv = .slice (some ⟨g, 0, none⟩) L cap) (hk : k < L) : ∃ cur A c, M g = some (.cells cur 47) ∧ cur[k]? = some (.slice A (had k).length c) ∧ fh k = .slice A (had k).length c := by
 subst e
 obtain ⟨cur, hg, hc⟩ := Own.at_ h.hrow
 obtain ⟨A, c, hf⟩ := (h.each k hk).form
 exact ⟨cur, A, c, hB _ _ hg, by rw [← hf]; exact hc k _ (by rw [List.getElem?_map, List.getElem?_range hk]; rfl), hf⟩
theorem LawW.wants (h : LawW K labK L B kx hv wv fh fw had C) (hB : K.le M) {g cap : Nat} (e : wv = .slice (some ⟨g, 0, none⟩) L cap) (hk : k < L) (hkx : k < kx) : ∃ cur A c, M g = some (.cells cur 35) ∧ cur[k]? = some (.slice A B c) ∧ fw k = .slice A B c := by
 subst e
 obtain ⟨cur, hg, hc⟩ := Own.at_ h.wrow
 obtain ⟨A, c, hf⟩ := (h.want k hkx).form
 exact ⟨cur, A, c, hB _ _ hg, by rw [← hf]; exact hc k _ (by rw [List.getElem?_map, List.getElem?_range hk]; rfl), hf⟩
end
theorem fil_cells {C : List Nat} (h : ∀ v ∈ C, v ≠ 0 → v < 18446744073709551616 ∧ kindN v = 2) : (cSlots C).length = filN C := by
 unfold cSlots filN
 rw [List.length_map]
 congr 1
 refine List.filter_congr fun v hv => ?_
 by_cases e : v = 0
 ·subst e; rfl
 ·rw [(h v hv e).2]; simpa using e
/-- What holds between rounds. -/
structure LaJ (c : Nat → Int) (S B gens L T : Nat) (tp : List Nat) (i : Nat) (s : MachS) (had C : Nat → List Nat) : Prop where
 all : ∃ a m g Lf ep, a ≤ 523 * i ∧ AbsM c tp a s g ∧ m ≤ 41 * i ∧ LiI S B gens L T m g Lf C had ep
theorem LaJ.mono {c : Nat → Int} {S B gens L T i : Nat} {tp : List Nat} {s : MachS} {had C : Nat → List Nat} (h : LaJ c S B gens L T tp i s had C) : LaJ c S B gens L T tp (i + 1) s had C := by
 obtain ⟨a, m, g, Lf, ep, h1, h2, h3, h4⟩ := h.all
 exact ⟨⟨a, m, g, Lf, ep, by omega, h2, by omega, h4⟩⟩
theorem sw_count (e : Nat) : ∀ (k i : Nat) (C : List Nat), (swN e k i C).2 ≤ k
 | 0, _, _ => Nat.le_refl _
 | k + 1, i, C => by
  rw [swN_succ]
  split
  ·exact Nat.succ_le_succ (sw_count e k _ _)
  ·exact Nat.le_succ_of_le (sw_count e k _ _)
/-- What a thread was told is apart from the law's own rows. -/
theorem told_out {K M : Mm} {lab labK : Nat → Nat} {p t q j : Nat} {s : MachS} {o : Obj} (hM : Mach M lab p s) (hB : Base K M lab) (ht : s.tp[t]? = some q) (hq : M q = some o) : outK K M labK j q = some o := by
 obtain ⟨fv, hv, fbs, hTh⟩ := hM.each t q ht
 have hk : K q = none := by
  cases e : K q with
  | none => rfl
  | some x => have := (hB q x e).2; rw [hTh.mark] at this; omega
 unfold outK
 rw [hk]
 exact hq
def Mm.nil : Mm := fun _ => none
theorem Mm.nil_le (M : Mm) : Mm.nil.le M := fun _ _ h => by cases h
theorem RowF.tail1 {K : Mm} {labK : Nat → Nat} {j g o c n x : Nat} {l : List Nat} (h : RowF K labK j 3 (.slice (some ⟨g, o, none⟩) (n + 1) c) (n + 1) (natv (x :: l))) : RowF K labK j 3 (.slice (if c = 1 then some ⟨g, o, none⟩ else some ⟨g, o + 1, none⟩) n (c - 1)) n (natv l) := by
 have := RowF.tail (x := .int .i64 (x : Nat)) (xs := natv l) h
 unfold sliced at this
 simp only [Option.map_some, Addr.add_mid, Nat.one_mul, Nat.add_sub_cancel] at this
 exact this
end
section
open Go.RowKit
section
variable {P : Program} {op : Oper} {a : Act} {ops : Array Oper} {σ w : World} {M M0 : Mm} {Q : Exit → Act → World → Prop} {K : Act → World → Prop} {E : Prop}
/-- One cell of a row of the call's own is stored, at a step of a region that draws. -/
theorem step_putOne {e : TypeId} {n g cap : Nat} {xs : List Value} (h : Has σ M w) (hle : M0.le M) (hown : Own M0 M e 1 (.slice (some ⟨g, 0, none⟩) n cap) n xs)
  (hgd : op.guard = none) (t : TypeId) (x y : Operand) (ho : op.op = .store t x y) (hdst : op.dst = none) {k : Nat} (hx : a.eval x = .pointer (some ⟨g, k, none⟩)) (hk : k < n) {u : Value} (hy : a.eval y = u) (h1 : u.oneCell' = true) (hi : (P.info? t).map (·.size) = some 1)
  (hK : ∀ w' M', Has σ M' w' → M0.le M' → Own M0 M' e 1 (.slice (some ⟨g, 0, none⟩) n cap) n (xs.set k u) → K a w') : if Region.wanted op (yielded ops a.tmps) = true then Oper.wp P op a w K Q else E := by
 obtain ⟨cur, hg, hlt, hown', hng⟩ := hown.put k u
 exact step_store1 h hgd t x y ho hdst hx hg (by omega) hy h1 hi fun w' h' => hK w' _ h' (Mm.le_upd hle hng _) hown'
end
/-- One block is known, and no other. -/
def Mm.one (b : Nat) (o : Obj) : Mm := fun c => if c = b then some o else none
theorem Mm.one_get (b : Nat) (o : Obj) : Mm.one b o b = some o := if_pos rfl
theorem Mm.one_le {b : Nat} {o : Obj} {M : Mm} (h : M b = some o) : (Mm.one b o).le M := fun c o' hc => by
 unfold Mm.one at hc
 split at hc
 ·next e => subst e; cases hc; exact h
 ·cases hc
end
section
open Go.RowKit
set_option maxHeartbeats 1000000 in
/-- Same, of rows that read alike. -/
theorem refSame_eq {σ w : World} {M : Mm} (h : Has σ M w) {va vb : Value} {n : Nat} {l : List Int} (ha : Rd M 1 va n (u64s l)) (hb : Rd M 1 vb n (u64s l)) (hn : n ≤ 100000) : Calls Tryz.prog 25 #[va, vb] w fun r w' => r = .returned (.bool true) ∧ Has σ M w' := by
 have hl : l.length = n := by have := ha.1; simp [u64s] at this; exact this
 obtain ⟨_, A, ca, rfl, _, hA⟩ := ha
 obtain ⟨_, B, cb, rfl, _, hB⟩ := hb
 have HA := Lib.hid hA
 have HB := Lib.hid hB
 clear hA hB
 go_enter Tryz.func25, Tryz.ntmps25
 go_wp2
 go_loopw [5] (fun i wr => ∃ k : Nat, k ≤ n ∧ i = .int .i64 (k : Nat) ∧ Has σ M wr) (fun i _ => n - (intOf i).toNat)
 case atStart => exact ⟨0, Nat.zero_le _, rfl, h⟩
 case round =>
  clear h w
  obtain ⟨w, rfl⟩ : ∃ x : World, x = wr := ⟨_, rfl⟩
  obtain ⟨k, hk, rfl, h⟩ := hrel
  by_cases hlt : k < n
  ·have hlt' : (k : Int) < (n : Int) := by omega
   obtain ⟨ba, oa, csa, ta, fa, rfl, hMa, hxa⟩ := HA.out (by omega)
   obtain ⟨bb, ob, csb, tb, fb, rfl, hMb, hxb⟩ := HB.out (by omega)
   obtain ⟨v, hv⟩ : ∃ v, l[k]? = some v := ⟨_, List.getElem?_eq_getElem (by omega)⟩
   have ga : csa[oa + k]? = some (.int .u64 v) := hxa k _ (by simp [u64s, hv])
   have gb : csb[ob + k]? = some (.int .u64 v) := hxb k _ (by simp [u64s, hv])
   clear hxa hxb hv
   go_upto_region 6 with (fail)
   refine wp_region_class (Has σ M) (by kernel_rfl) (by kernel_rfl) h.drew ?_
   clear h
   repeat (first
    | go_big_quiet_skip
    | (go_big_quiet_want; first
     | (refine quiet_load_has 42 _ rfl rfl hMa ga Tryz.underlying42 rfl ?_; simp only [Act.put, qD, qE, qF]; go_big_quiet_on)
     | (refine quiet_load_has 42 _ rfl rfl hMb gb Tryz.underlying42 rfl ?_; simp only [Act.put, qD, qE, qF]; go_big_quiet_on)
     | (go_big_quiet_op; first | go_big_quiet_on | go_big_quiet_call (first | with_reducible exact fun _ => rfl))))
   refine wpQuiet_nil ?_
   try clear w
   intro w h
   go_wp2
   go_roundw
   case rel => exact ⟨k + 1, by omega, by go_num, h⟩
   case measure => simp [intOf]; omega
  ·obtain rfl : k = n := by omega
   go_wp2
   go_ret
   exact ⟨rfl, h⟩
end
end Go.Proofs.YtjeeldacnllipaaGreat
