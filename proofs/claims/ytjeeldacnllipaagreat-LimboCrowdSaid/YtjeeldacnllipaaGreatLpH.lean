import Derived.Test.YtjeeldacnllipaaGreatLpG
namespace Go.Proofs.YtjeeldacnllipaaGreat
set_option maxHeartbeats 100000000
set_option maxRecDepth 20000
set_option linter.unusedVariables false
set_option linter.unusedSimpArgs false
set_option linter.unnecessarySimpa false
open List renaming setIfInBounds_toArray → qD, set_cons_zero → qE, set_cons_succ → qF
section
open Go.RowKit
def okOf (c : Nat → Int) (t : Nat) : Prop := (c 1 ≤ (t : Int) → c (2 + t) = 0) ∧ 0 ≤ c (2 + t) ∧ c (2 + t) < c 0
theorem confMay_iff (c : Nat → Int) : zF c ↔ (1 ≤ c 0 ∧ c 0 ≤ 4) ∧ (1 ≤ c 1 ∧ c 1 ≤ 8) ∧ (∀ t, t < 8 → okOf c t) ∧ (2 ≤ c 10 ∧ c 10 ≤ 60) ∧ (1 ≤ c 11 ∧ c 11 ≤ 40) ∧ (1 ≤ c 12 ∧ c 12 ≤ 1048576) ∧ (0 ≤ c 13 ∧ c 13 ≤ 60) := by
 unfold zF okOf
 constructor
 ·rintro ⟨h0, h1, h2, h3, h4, h5, h6, h7⟩
  refine ⟨h0, h1, fun t ht => ⟨fun hc => ?_, (h3 t ht).1, by have := h3 t ht; omega⟩, h4, h5, h6, h7⟩
  rw [h2 t ht, vQ, if_pos (by omega)]
 rintro ⟨h0, h1, h2, h4, h5, h6, h7⟩
 refine ⟨h0, h1, fun t ht => ?_, fun t ht => ?_, h4, h5, h6, h7⟩
 ·unfold vQ
  split
  ·exact (h2 t ht).1 (by omega)
  rfl
 have := h2 t ht
 omega
theorem lF {c : Nat → Int} (h : ¬ zF c) : yP c = false := decide_eq_false h
theorem mI {σ w : World} {M : Mm} (h : Has σ M w) (c : Nat → Int) : Calls Tryz.prog 10 #[yM c] w fun e w' => e = .returned (.bool (yP c)) ∧ Has σ M w' := by
 have NO : Hid (¬ zF c → yP c = false) := lF
 have YES : Hid (zF c → yP c = true) := fun h => decide_eq_true h
 have IFF := Lib.hid (confMay_iff c)
 simp only [yM, vD]
 go_enter Tryz.func10, Tryz.ntmps10
 go_upto_region 1 with (fail)
 obtain ⟨M1, hbx, hle, hb, hn⟩ := h.box (.cells #[.int .i64 (c 0), .int .i64 (c 1), .int .i64 (c 2), .int .i64 (c 3), .int .i64 (c 4), .int .i64 (c 5), .int .i64 (c 6), .int .i64 (c 7), .int .i64 (c 8), .int .i64 (c 9), .int .i64 (c 10), .int .i64 (c 11), .int .i64 (c 12), .int .i64 (c 13)] 24)
 generalize w.alloc _ = wx at hbx ⊢
 generalize w.heap.size = b at hb hn ⊢
 clear h
 try clear w
 have h := hbx
 clear hbx
 obtain ⟨w, rfl⟩ : ∃ x : World, x = wx := ⟨_, rfl⟩
 have c0 : w.cell? ⟨b, 0, none⟩ = some (.int .i64 (c 0)) := h.cell hb 0
 have c1 : w.cell? ⟨b, 1, none⟩ = some (.int .i64 (c 1)) := h.cell hb 1
 by_cases hr : (1 ≤ c 0 ∧ c 0 ≤ 4) ∧ (1 ≤ c 1 ∧ c 1 ≤ 8)
 ·obtain ⟨⟨r0, r1⟩, r2, r3⟩ := hr
  have q0 : ¬ c 0 < 1 := by omega
  have q1 : ¬ 4 < c 0 := by omega
  have q2 : ¬ c 1 < 1 := by omega
  have q3 : ¬ 8 < c 1 := by omega
  go_wp2
  clear c0 c1 q0 q1 q2 q3
  go_loopw [3] (fun i wr => ∃ k : Nat, k ≤ 8 ∧ i = .int .i64 k ∧ Has σ M1 wr ∧ ∀ t, t < k → okOf c t) (fun i _ => 8 - (intOf i).toNat)
  case atStart => exact ⟨0, by omega, rfl, h, fun t ht => absurd ht (by omega)⟩
  clear h w
  obtain ⟨w, rfl⟩ : ∃ x : World, x = wr := ⟨_, rfl⟩
  obtain ⟨k, hk, rfl, h, hall⟩ := hrel
  have HA := Lib.hid hall
  clear hall
  by_cases hlt : k < 8
  ·have e0 : (#[.int .i64 (c 0), .int .i64 (c 1), .int .i64 (c 2), .int .i64 (c 3), .int .i64 (c 4), .int .i64 (c 5), .int .i64 (c 6), .int .i64 (c 7), .int .i64 (c 8), .int .i64 (c 9), .int .i64 (c 10), .int .i64 (c 11), .int .i64 (c 12), .int .i64 (c 13)] : Array Value)[0]? = some (.int .i64 (c 0)) := rfl
   have e1 : (#[.int .i64 (c 0), .int .i64 (c 1), .int .i64 (c 2), .int .i64 (c 3), .int .i64 (c 4), .int .i64 (c 5), .int .i64 (c 6), .int .i64 (c 7), .int .i64 (c 8), .int .i64 (c 9), .int .i64 (c 10), .int .i64 (c 11), .int .i64 (c 12), .int .i64 (c 13)] : Array Value)[1]? = some (.int .i64 (c 1)) := rfl
   have e2 : (#[.int .i64 (c 0), .int .i64 (c 1), .int .i64 (c 2), .int .i64 (c 3), .int .i64 (c 4), .int .i64 (c 5), .int .i64 (c 6), .int .i64 (c 7), .int .i64 (c 8), .int .i64 (c 9), .int .i64 (c 10), .int .i64 (c 11), .int .i64 (c 12), .int .i64 (c 13)] : Array Value)[2 + k]? = some (.int .i64 (c (2 + k))) := by rw [← vD, yH (by omega)]
   have OK : Hid (okOf c k ↔ (c 1 ≤ (k : Int) → c (2 + k) = 0) ∧ 0 ≤ c (2 + k) ∧ c (2 + k) < c 0) := Iff.rfl
   generalize c (2 + k) = x at e2 OK
   generalize (#[.int .i64 (c 0), .int .i64 (c 1), .int .i64 (c 2), .int .i64 (c 3), .int .i64 (c 4), .int .i64 (c 5), .int .i64 (c 6), .int .i64 (c 7), .int .i64 (c 8), .int .i64 (c 9), .int .i64 (c 10), .int .i64 (c 11), .int .i64 (c 12), .int .i64 (c 13)] : Array Value) = cs at hb e0 e1 e2
   go_upto_region 6 with (fail)
   by_cases hok : okOf c k
   ·obtain ⟨p1, p2, p3⟩ := OK.out.1 hok
    have HN : Hid (∀ t, t < k + 1 → okOf c t) := fun t ht => by
     rcases Nat.lt_or_ge t k with h1 | h1
     ·exact HA.out t h1
     obtain rfl : t = k := by omega
     exact hok
    have n2 : ¬ x < 0 := by omega
    have n3 : ¬ c 0 ≤ x := by omega
    clear hok
    by_cases hc1 : c 1 ≤ (k : Int)
    ·have hx0 := p1 hc1
     clear p1
     have hx0' : (x != 0) = false := by simp [hx0]
     have H0 := Lib.hid hx0
     clear hx0
     refine zS (Has σ M1) (by kernel_rfl) (by kernel_rfl) h.drew ?_
     clear h
     repeat (first
      | go_big_quiet_skip
      | (go_big_quiet_want; first
       | (refine zX 3 _ rfl rfl hb e0 Tryz.underlying3 rfl ?_; simp only [Act.put, qD, qE, qF]; go_big_quiet_on)
       | (refine zX 3 _ rfl rfl hb e1 Tryz.underlying3 rfl ?_; simp only [Act.put, qD, qE, qF]; go_big_quiet_on)
       | (refine zX 3 _ rfl rfl hb e2 Tryz.underlying3 rfl ?_; simp only [Act.put, qD, qE, qF]; go_big_quiet_on)
       | (go_big_quiet_op; first | go_big_quiet_on | go_big_quiet_call (first | with_reducible exact fun _ => rfl))))
     refine wpQuiet_nil ?_
     try clear w
     intro w h
     go_wp2
     go_roundw
     case rel => exact ⟨k + 1, by omega, by go_num, h, HN.out⟩
     case measure => simp [intOf]; omega
    clear p1
    refine zS (Has σ M1) (by kernel_rfl) (by kernel_rfl) h.drew ?_
    clear h
    repeat (first
     | go_big_quiet_skip
     | (go_big_quiet_want; first
      | (refine zX 3 _ rfl rfl hb e0 Tryz.underlying3 rfl ?_; simp only [Act.put, qD, qE, qF]; go_big_quiet_on)
      | (refine zX 3 _ rfl rfl hb e1 Tryz.underlying3 rfl ?_; simp only [Act.put, qD, qE, qF]; go_big_quiet_on)
      | (refine zX 3 _ rfl rfl hb e2 Tryz.underlying3 rfl ?_; simp only [Act.put, qD, qE, qF]; go_big_quiet_on)
      | (go_big_quiet_op; first | go_big_quiet_on | go_big_quiet_call (first | with_reducible exact fun _ => rfl))))
    refine wpQuiet_nil ?_
    try clear w
    intro w h
    go_wp2
    go_roundw
    case rel => exact ⟨k + 1, by omega, by go_num, h, HN.out⟩
    case measure => simp [intOf]; omega
   have N := Lib.hid (NO.out fun h1 => hok ((IFF.out.1 h1).2.2.1 k hlt))
   have hcase : (c 1 ≤ (k : Int) ∧ x ≠ 0) ∨ ((c 1 ≤ (k : Int) → x = 0) ∧ x < 0) ∨ ((c 1 ≤ (k : Int) → x = 0) ∧ ¬ x < 0 ∧ c 0 ≤ x) := by
    by_cases a1 : c 1 ≤ (k : Int) ∧ x ≠ 0
    ·exact .inl a1
    by_cases a2 : x < 0
    ·exact .inr (.inl ⟨fun h1 => Classical.byContradiction fun h2 => a1 ⟨h1, h2⟩, a2⟩)
    refine .inr (.inr ⟨fun h1 => Classical.byContradiction fun h2 => a1 ⟨h1, h2⟩, a2, ?_⟩)
    apply Classical.byContradiction
    intro h3
    exact hok (OK.out.2 ⟨fun h1 => Classical.byContradiction fun h2 => a1 ⟨h1, h2⟩, by omega, by omega⟩)
   clear hok
   rcases hcase with ⟨a1, a2⟩ | ⟨a1, a2⟩ | ⟨a1, a2, a3⟩
   ·have hx0' : (x != 0) = true := by simpa using a2
    clear a2
    refine zS (Has σ M1) (by kernel_rfl) (by kernel_rfl) h.drew ?_
    clear h
    repeat (first
     | go_big_quiet_skip
     | (go_big_quiet_want; first
      | (refine zX 3 _ rfl rfl hb e0 Tryz.underlying3 rfl ?_; simp only [Act.put, qD, qE, qF]; go_big_quiet_on)
      | (refine zX 3 _ rfl rfl hb e1 Tryz.underlying3 rfl ?_; simp only [Act.put, qD, qE, qF]; go_big_quiet_on)
      | (refine zX 3 _ rfl rfl hb e2 Tryz.underlying3 rfl ?_; simp only [Act.put, qD, qE, qF]; go_big_quiet_on)
      | (go_big_quiet_op; first | go_big_quiet_on | go_big_quiet_call (first | with_reducible exact fun _ => rfl))))
    refine wpQuiet_nil ?_
    try clear w
    intro w h
    go_wp2
    go_ret
    exact ⟨by rw [N.out]; rfl, h.le hle⟩
   ·by_cases hc1 : c 1 ≤ (k : Int)
    ·have hx0 := a1 hc1
     omega
    clear a1
    refine zS (Has σ M1) (by kernel_rfl) (by kernel_rfl) h.drew ?_
    clear h
    repeat (first
     | go_big_quiet_skip
     | (go_big_quiet_want; first
      | (refine zX 3 _ rfl rfl hb e0 Tryz.underlying3 rfl ?_; simp only [Act.put, qD, qE, qF]; go_big_quiet_on)
      | (refine zX 3 _ rfl rfl hb e1 Tryz.underlying3 rfl ?_; simp only [Act.put, qD, qE, qF]; go_big_quiet_on)
      | (refine zX 3 _ rfl rfl hb e2 Tryz.underlying3 rfl ?_; simp only [Act.put, qD, qE, qF]; go_big_quiet_on)
      | (go_big_quiet_op; first | go_big_quiet_on | go_big_quiet_call (first | with_reducible exact fun _ => rfl))))
    refine wpQuiet_nil ?_
    try clear w
    intro w h
    go_wp2
    go_ret
    exact ⟨by rw [N.out]; rfl, h.le hle⟩
   by_cases hc1 : c 1 ≤ (k : Int)
   ·have hx0 := a1 hc1
    omega
   clear a1
   refine zS (Has σ M1) (by kernel_rfl) (by kernel_rfl) h.drew ?_
   clear h
   repeat (first
    | go_big_quiet_skip
    | (go_big_quiet_want; first
     | (refine zX 3 _ rfl rfl hb e0 Tryz.underlying3 rfl ?_; simp only [Act.put, qD, qE, qF]; go_big_quiet_on)
     | (refine zX 3 _ rfl rfl hb e1 Tryz.underlying3 rfl ?_; simp only [Act.put, qD, qE, qF]; go_big_quiet_on)
     | (refine zX 3 _ rfl rfl hb e2 Tryz.underlying3 rfl ?_; simp only [Act.put, qD, qE, qF]; go_big_quiet_on)
     | (go_big_quiet_op; first | go_big_quiet_on | go_big_quiet_call (first | with_reducible exact fun _ => rfl))))
   refine wpQuiet_nil ?_
   try clear w
   intro w h
   go_wp2
   go_ret
   exact ⟨by rw [N.out]; rfl, h.le hle⟩
  obtain rfl : k = 8 := by omega
  have c10 : w.cell? ⟨b, 10, none⟩ = some (.int .i64 (c 10)) := h.cell hb 10
  have c11 : w.cell? ⟨b, 11, none⟩ = some (.int .i64 (c 11)) := h.cell hb 11
  have c12 : w.cell? ⟨b, 12, none⟩ = some (.int .i64 (c 12)) := h.cell hb 12
  have c13 : w.cell? ⟨b, 13, none⟩ = some (.int .i64 (c 13)) := h.cell hb 13
  have hmay : yP c = decide ((2 ≤ c 10 ∧ c 10 ≤ 60) ∧ (1 ≤ c 11 ∧ c 11 ≤ 40) ∧ (1 ≤ c 12 ∧ c 12 ≤ 1048576) ∧ (0 ≤ c 13 ∧ c 13 ≤ 60)) := by
   by_cases hm : (2 ≤ c 10 ∧ c 10 ≤ 60) ∧ (1 ≤ c 11 ∧ c 11 ≤ 40) ∧ (1 ≤ c 12 ∧ c 12 ≤ 1048576) ∧ (0 ≤ c 13 ∧ c 13 ≤ 60)
   ·rw [YES.out (IFF.out.2 ⟨⟨r0, r1⟩, ⟨r2, r3⟩, HA.out, hm⟩), decide_eq_true hm]
   rw [NO.out fun h1 => hm (IFF.out.1 h1).2.2.2, decide_eq_false hm]
  have HM := Lib.hid hmay
  clear hmay
  generalize c 10 = x at c10 HM
  generalize c 11 = y at c11 HM
  generalize c 12 = z at c12 HM
  generalize c 13 = v at c13 HM
  by_cases b1 : x < 2
  ·go_wp2
   go_ret
   exact ⟨by rw [HM.out, decide_eq_false (by omega)]; rfl, h.le hle⟩
  skip
  by_cases b2 : 60 < x
  ·go_wp2
   go_ret
   exact ⟨by rw [HM.out, decide_eq_false (by omega)]; rfl, h.le hle⟩
  skip
  by_cases b3 : y < 1
  ·go_wp2
   go_ret
   exact ⟨by rw [HM.out, decide_eq_false (by omega)]; rfl, h.le hle⟩
  skip
  by_cases b4 : 40 < y
  ·go_wp2
   go_ret
   exact ⟨by rw [HM.out, decide_eq_false (by omega)]; rfl, h.le hle⟩
  skip
  by_cases b5 : ¬ 1 ≤ z
  ·go_wp2
   go_ret
   exact ⟨by rw [HM.out, decide_eq_false (by omega)]; rfl, h.le hle⟩
  skip
  by_cases b6 : ¬ z ≤ 1048576
  ·go_wp2
   go_ret
   exact ⟨by rw [HM.out, decide_eq_false (by omega)]; rfl, h.le hle⟩
  skip
  by_cases b7 : ¬ 0 ≤ v
  ·go_wp2
   go_ret
   exact ⟨by rw [HM.out, decide_eq_false (by omega)]; rfl, h.le hle⟩
  skip
  by_cases b8 : ¬ v ≤ 60
  ·go_wp2
   go_ret
   exact ⟨by rw [HM.out, decide_eq_false (by omega)]; rfl, h.le hle⟩
  skip
  go_wp2
  go_ret
  exact ⟨by rw [HM.out, decide_eq_true (by omega)]; rfl, h.le hle⟩
 skip
 by_cases b1 : c 0 < 1
 ·have N := Lib.hid (NO.out fun h1 => by have := IFF.out.1 h1; omega)
  go_wp2
  go_ret
  exact ⟨by rw [N.out]; rfl, h.le hle⟩
 skip
 by_cases b2 : 4 < c 0
 ·have N := Lib.hid (NO.out fun h1 => by have := IFF.out.1 h1; omega)
  go_wp2
  go_ret
  exact ⟨by rw [N.out]; rfl, h.le hle⟩
 skip
 by_cases b3 : c 1 < 1
 ·have N := Lib.hid (NO.out fun h1 => by have := IFF.out.1 h1; omega)
  go_wp2
  go_ret
  exact ⟨by rw [N.out]; rfl, h.le hle⟩
 skip
 by_cases b4 : 8 < c 1
 ·have N := Lib.hid (NO.out fun h1 => by have := IFF.out.1 h1; omega)
  go_wp2
  go_ret
  exact ⟨by rw [N.out]; rfl, h.le hle⟩
 skip
 omega
end
section
open Go.RowKit
theorem lcCrowd_no {σ w : World} {M : Mm} (h : Has σ M w) (c : Nat → Int) (A : Option Addr) (n cap : Nat) (hm : yP c = false) :
  Calls Tryz.prog 4 #[yM c, .slice A n cap] w fun r w' => r = .returned (.bool true) ∧ Has σ M w' := by
 have NW := Lib.hid (fun (M' : Mm) (w : World) (h : Has σ M' w) => mNew_no h c hm)
 have RM := Lib.hid (fun (M' : Mm) (w : World) (h : Has σ M' w) => mI h c)
 have LI := Lib.hid (fun (M' : Mm) (w : World) (h : Has σ M' w) => lV h)
 have hx : (ints .i64 14 c).extract 0 (0 + 14) = ints .i64 14 c := rfl
 have hz : (ints .i64 14 c).size = 14 := rfl
 unfold errV at NW
 rw [hm] at RM
 unfold yM at NW RM ⊢
 generalize ints .i64 14 c = row at NW RM hx hz ⊢
 clear hm
 go_enter Tryz.func4, Tryz.ntmps4
 go_upto_region 1 with (fail)
 obtain ⟨M1, hbx, hle, hbf, hnf⟩ := h.box (.cells row 24)
 generalize w.alloc _ = wx at hbx ⊢
 generalize w.heap.size = bf at hbf hnf ⊢
 clear h
 try clear w
 have h := hbx
 clear hbx
 obtain ⟨w, rfl⟩ : ∃ x : World, x = wx := ⟨_, rfl⟩
 go_wp2_with (first
  | ((with_reducible show wpList _ _ _ (⟨_, .load 24 _, _, _, _, _⟩ :: _) _ _); refine zR h rfl 24 _ rfl rfl hbf hx hz Tryz.underlying24 rfl (by kernel_rfl) ?_; try simp only [Act.put, qD, qE, qF])
  | ((go_at_call 9; refine (NW.out _ _ h).mono ?_; clear h; rintro _ w ⟨b, M2, rfl, h, hle2, hn⟩; have hbf := hle2 _ _ hbf))
  | (go_at_call 10; refine (RM.out _ _ h).mono ?_; clear h; rintro _ w ⟨rfl, h⟩)
  | (go_at_call 11; refine (LI.out _ _ h).mono ?_; clear h; rintro _ w ⟨rfl, h⟩))
 go_ret
 exact ⟨rfl, h.le (Mm.le_trans hle hle2)⟩
theorem lcCrowd_many {σ w : World} {M : Mm} (h : Has σ M w) (c : Nat → Int) (hc : zF c) {L B S : Nat} (hn : Nums c L B S) (A : Option Addr) (n cap : Nat) (hm : yP c = true) (h60 : 1200 < n) :
  Calls Tryz.prog 4 #[yM c, .slice A n cap] w fun r w' => r = .returned (.bool true) ∧ Has σ M w' := by
 have NW := Lib.hid (fun (M' : Mm) (w : World) (h : Has σ M' w) => lX h c hc hn)
 have RM := Lib.hid (fun (M' : Mm) (w : World) (h : Has σ M' w) => mI h c)
 have LI := Lib.hid (fun (M' : Mm) (w : World) (h : Has σ M' w) => lV h)
 have hx : (ints .i64 14 c).extract 0 (0 + 14) = ints .i64 14 c := rfl
 have hz : (ints .i64 14 c).size = 14 := rfl
 have g60 : decide ((1200 : Int) < (n : Int)) = true := decide_eq_true (by omega)
 have g60' : (1200 : Int) < (n : Int) := by omega
 rw [hm] at RM
 unfold yM at NW RM ⊢
 generalize ints .i64 14 c = row at NW RM hx hz ⊢
 clear hm hc hn h60
 go_enter Tryz.func4, Tryz.ntmps4
 go_upto_region 1 with (fail)
 obtain ⟨M1, hbx, hle, hbf, hnf⟩ := h.box (.cells row 24)
 generalize w.alloc _ = wx at hbx ⊢
 generalize w.heap.size = bf at hbf hnf ⊢
 clear h
 try clear w
 have h := hbx
 clear hbx
 obtain ⟨w, rfl⟩ : ∃ x : World, x = wx := ⟨_, rfl⟩
 go_wp2_with (first
  | ((with_reducible show wpList _ _ _ (⟨_, .load 24 _, _, _, _, _⟩ :: _) _ _); refine zR h rfl 24 _ rfl rfl hbf hx hz Tryz.underlying24 rfl (by kernel_rfl) ?_; try simp only [Act.put, qD, qE, qF])
  | ((go_at_call 9; refine (NW.out _ _ h).mono ?_; clear h; rintro _ w ⟨p, M2, lab2, s, rfl, h, hB2, hM2, hN⟩; have hle2 := hB2.le; clear hB2 hM2 hN; have hbf := hle2 _ _ hbf))
  | (go_at_call 10; refine (RM.out _ _ h).mono ?_; clear h; rintro _ w ⟨rfl, h⟩)
  | (go_at_call 11; refine (LI.out _ _ h).mono ?_; clear h; rintro _ w ⟨rfl, h⟩))
 go_ret
 exact ⟨rfl, h.le (Mm.le_trans hle hle2)⟩
def encA (a : AwE) : List Value := [.int .i64 (a.l : Nat), .int .u64 (xQ a.x a.gn : Nat), .int .u64 (a.e : Nat)]
theorem encA_len (a : AwE) : (encA a).length = 3 := rfl
theorem info_A : (Tryz.prog.info? 74).map (fun i => (i.zero, i.size, i.bytes)) = some (some (.agg #[.int .i64 0, .int .u64 0, .int .u64 0]), 3, 24) := by kernel_rfl
structure AwN (S L : Nat) (a : AwE) : Prop where
 hl : a.l < L
 x1 : 1 ≤ a.x
 x2 : a.x ≤ S
 gn : a.gn < 1000000
 e : a.e < 1000000
structure LcJ (c : Nat → Int) (B S gens L T : Nat) (tp : List Nat) (i : Nat) (s : MachS) (md : Nat → List Nat) (aw : List AwE) : Prop where
 all : ∃ a m g, a ≤ i ∧ m ≤ 2 * i ∧ AbsM c tp a s g ∧ LcI B S gens L T (nThr c T) (levT c) m g md ∧ ∀ e ∈ aw, AwH S L T B (levT c) g e
 num : ∀ e ∈ aw, AwN S L e
 len : aw.length ≤ i
theorem LcJ.mono {c : Nat → Int} {B S gens L T i j : Nat} {tp : List Nat} {s : MachS} {md : Nat → List Nat} {aw : List AwE} (h : LcJ c B S gens L T tp i s md aw) (hij : i ≤ j) : LcJ c B S gens L T tp j s md aw := by
 obtain ⟨a, m, g, h1, h2, h3⟩ := h.all
 exact ⟨⟨a, m, g, by omega, by omega, h3⟩, h.num, by have := h.len; omega⟩
theorem LcJ.first {c : Nat → Int} {B S gens L T : Nat} {s : MachS} (hn : Nums c L B S) (hc : zF c) (hg : c 12 = (gens : Nat)) (h : s.New c L B S) (hw : s.ward.lv = s.c 0 ∧ s.ward.sl = s.c 10) : LcJ c B S gens L T s.tp 0 s (fun _ => []) [] :=
 ⟨⟨0, 0, gm0 B S, Nat.le_refl _, Nat.le_refl _, kU hn hc h hw, LcI.first hn.s0.1 (by have := hc.2.2.2.2.2.2.1; omega), fun _ h => (nomatch h)⟩, fun _ h => (nomatch h), Nat.le_refl _⟩
structure LcL (M1 : Mm) (T bh p : Nat) (M : Mm) (lab : Nat → Nat) (K : Mm) (labK : Nat → Nat) (s : MachS) (fh : Nat → Value) (md : Nat → List Nat) (ja : Nat) (av : Value) (aw : List AwE) : Prop where
 mach : Mach M lab p s
 base : Base K M lab
 m1 : M1.le (stable K labK)
 law : LawV K labK T (.slice (some ⟨bh, 0, none⟩) T T) fh md
 hja : ja = 3 ∨ ja = 4
 arow : Row K labK ja 74 3 av aw.length (aw.flatMap encA)
section
variable {M1 M M' K K' : Mm} {T bh p k ja : Nat} {lab lab' labK labK' : Nat → Nat} {s s' : MachS} {fh : Nat → Value} {md : Nat → List Nat} {av v : Value} {aw aw2 : List AwE}
theorem LcL.on (h : LcL M1 T bh p M lab K labK s fh md ja av aw) (hM : Mach M' lab' p s') (hB : Base K M' lab') : LcL M1 T bh p M' lab' K labK s' fh md ja av aw := ⟨hM, hB, h.m1, h.law, h.hja, h.arow⟩
theorem LcL.m1le (h : LcL M1 T bh p M lab K labK s fh md ja av aw) : M1.le M := Mm.le_trans h.m1 (Mm.le_trans (tC _ _) h.base.le)
theorem LcL.setA (h : LcL M1 T bh p M lab K labK s fh md ja av aw) {jb : Nat} (hjb : jb = 3 ∨ jb = 4) (hle : (outK K M labK jb).le M') (hO : Own (outK K M labK jb) M' 74 3 v aw2.length (aw2.flatMap encA)) : ∃ lab' K' labK', LcL M1 T bh p M' lab' K' labK' s fh md jb v aw2 ∧ Kp (fun k => k = jb) K labK K' labK' ∧ (jb ≠ ja → Row K' labK' ja 74 3 av aw.length (aw.flatMap encA)) := by
 obtain ⟨lab', K', labK', hM, hB, hK, hR⟩ := h.mach.rowTo h.base hle hO
 exact ⟨lab', K', labK', ⟨hM, hB, Mm.le_trans h.m1 (xS hK (by omega)), h.law.keep hK (by omega) (fun k e => by omega), hjb, hR⟩, hK, fun hne => h.arow.keep hK (fun e => hne e.symm)⟩
end
theorem oC {S L T B t : Nat} {lev : Nat → Nat} {g g2 : GM} {a : AwE} (h : AwH S L T B lev g2 a ∨ uC lev t g g2 a) : (g2.held a.l a.x = true ∧ AwH S L T B lev g2 a) ∨ (g2.held a.l a.x = false ∧ a.l = lev t ∧ a.e + 2 ≤ g.w (lev t) 1) := by
 rcases h with h | ⟨h1, h2, h3⟩
 ·exact .inl ⟨h.held, h⟩
 exact .inr ⟨h3, h1, h2⟩
theorem lcO_push {B S t : Nat} {lev : Nat → Nat} {g g2 : GM} {md md2 : Nat → List Nat} {fs : List Fr} {F : Fr} (h : LcO B S lev t g g2 md md2) (hF : g.thr t = fs ++ [F]) {c1 : Bool} (hc : ((g2.thr t).isEmpty && decide ((g.thr t).length = 1) && decide (F.fn = 1) && decide (g2.told t 0 ≠ 0)) = c1) :
  (c1 = true → md2 = put1 md t (md t ++ [g2.told t 0]) ∧ 1 ≤ g2.told t 0 ∧ g2.told t 0 ≤ S) ∧ (c1 = false → md2 = md) := by
 have one : (g.thr t).length = 1 → g.thr t = [F] := fun e => by
  rw [hF, List.length_append, List.length_singleton] at e
  rw [hF, List.length_eq_zero_iff.1 (show fs.length = 0 by omega)]; rfl
 rcases h with ⟨e, h1, _⟩ | ⟨F', x, h1, h2, h3, h4, h5, h6, h7⟩
 ·refine ⟨fun e2 => ?_, fun _ => e⟩
  rw [e2, Bool.and_eq_true, Bool.and_eq_true, Bool.and_eq_true, List.isEmpty_iff, decide_eq_true_eq, decide_eq_true_eq, decide_eq_true_eq] at hc
  obtain ⟨⟨⟨a, b⟩, c⟩, d⟩ := hc
  exact absurd (h1 F (one b) c a) d
 rw [h1] at hF
 have e1 := List.append_inj_right' (hF.symm.trans (List.nil_append _).symm) rfl
 cases e1
 rw [h3, h1, h2, h4, decide_eq_true (show x ≠ 0 by omega)] at hc
 have : c1 = true := hc.symm
 subst this
 exact ⟨fun _ => by rw [h4]; exact ⟨h7, h5, h6⟩, fun e => (nomatch e)⟩
theorem lcO_rsv {B S t : Nat} {lev : Nat → Nat} {g g2 : GM} {md md2 : Nat → List Nat} {fs : List Fr} {F : Fr} (h : LcO B S lev t g g2 md md2) (hF : g.thr t = fs ++ [F]) {c2 : Bool} (hc : ((g2.thr t).isEmpty && decide ((g.thr t).length = 1) && decide (F.fn = 20) && decide (g2.told t 0 = 1)) = c2) (h2 : c2 = true) :
  md2 = md ∧ g2.told t 1 < B ∧ g2.w (lev t) (18 + g2.told t 1) = zI t ∧ g2.thr t = [] ∧ F.fn = 20 := by
 have one : (g.thr t).length = 1 → g.thr t = [F] := fun e => by
  rw [hF, List.length_append, List.length_singleton] at e
  rw [hF, List.length_eq_zero_iff.1 (show fs.length = 0 by omega)]; rfl
 rw [h2, Bool.and_eq_true, Bool.and_eq_true, Bool.and_eq_true, List.isEmpty_iff, decide_eq_true_eq, decide_eq_true_eq, decide_eq_true_eq] at hc
 obtain ⟨⟨⟨a, b⟩, c⟩, d⟩ := hc
 rcases h with ⟨e, _, h1⟩ | ⟨F', x, h1, h2, _⟩
 ·rcases h1 F (one b) c a with h1 | ⟨_, h1, h2⟩
  ·omega
  exact ⟨e, h1, h2, a, c⟩
 rw [h1] at hF
 have e1 := List.append_inj_right' (hF.symm.trans (List.nil_append _).symm) rfl
 cases e1
 omega
theorem lcLeads_eq {σ w : World} {M : Mm} {lab : Nat → Nat} {p n L B S T t : Nat} {s : MachS} {c : Nat → Int} {tp : List Nat} {g g2 : GM} {lev : Nat → Nat} {a : AwE} (h : Has σ M w) (hM : Mach M lab p s) (hA : AbsM c tp n s g2) (hn : Nums c L B S) (ha : n < 100000) (hN : AwN S L a) (hE : AwH S L T B lev g2 a ∨ uC lev t g g2 a) :
  Calls Tryz.prog 36 #[.pointer (some ⟨s.wp, 0, none⟩), .int .i64 (a.l : Nat), .int .u64 (xQ a.x a.gn : Nat)] w fun r w' => r = .returned (.bool (g2.held a.l a.x)) ∧ Has σ M w' := by
 have hs60 := hn.s0.2
 have x1 := hN.x1
 have x2 := hN.x2
 have hl := hN.hl
 have ht : s.ward.there (a.l : Nat) (a.x : Nat) = true := WardS.there_iff.2 ⟨by omega, by rw [hA.ward.lv, hn.lev]; omega, by omega, by rw [hA.ward.sl, hn.slo]; omega⟩
 have hv := hA.ward.held a.l a.x (by rw [hn.lev]; omega) x1 (by rw [hn.slo]; omega)
 have hgn := hA.ward.gens (a.l : Nat) (a.x : Nat)
 rcases oC hE with ⟨e, hH⟩ | ⟨e, _⟩
 ·have hlk : s.ward.link (a.l : Nat) (a.x : Nat) = ((xQ a.x a.gn : Nat) : Int) := by
   unfold WardS.link
   rw [if_pos ht, Int.toNat_natCast, hA.ward.gen a.l a.x (by rw [hn.lev]; omega) x1 (by rw [hn.slo]; omega), hH.gen, Int.toNat_natCast]
  have := leads_eq h hM.ward (a.l : Nat) a.x ht (by rw [hA.ward.sl, hn.slo]; omega) (by omega)
  rw [hlk, hv, e] at this
  rw [e]
  exact this
 rw [e]
 refine leads_off h hM.ward (a.l : Nat) a.x (xQ a.x a.gn) ht (by rw [uM]; omega) (by rw [uM]; unfold cutN; omega) ?_
 rw [hv, e]; rfl
theorem lcLink_eq {σ w : World} {M : Mm} {lab : Nat → Nat} {p n l x L B S : Nat} {s : MachS} {c : Nat → Int} {tp : List Nat} {g : GM} (h : Has σ M w) (hM : Mach M lab p s) (hA : AbsM c tp n s g) (hn : Nums c L B S) (ha : n < 100000) (hl : l < L) (x1 : 1 ≤ x) (x2 : x ≤ S) :
  Calls Tryz.prog 18 #[.pointer (some ⟨s.wp, 0, none⟩), .int .i64 (l : Nat), .int .i64 (x : Nat)] w fun r w' => r = .returned (.int .u64 (xQ x (g.wg l x) : Nat)) ∧ Has σ M w' := by
 have hs60 := hn.s0.2
 have ht : s.ward.there (l : Nat) (x : Nat) = true := WardS.there_iff.2 ⟨by omega, by rw [hA.ward.lv, hn.lev]; omega, by omega, by rw [hA.ward.sl, hn.slo]; omega⟩
 have hgn := hA.ward.gens (l : Nat) (x : Nat)
 have := tZ h hM.ward (l : Nat) (x : Nat) (by rw [hA.ward.sl, hn.slo]; omega) (by omega)
 unfold WardS.link at this
 rw [if_pos ht, Int.toNat_natCast, hA.ward.gen l x (by rw [hn.lev]; omega) x1 (by rw [hn.slo]; omega), Int.toNat_natCast] at this
 exact this
theorem wg_le {c : Nat → Int} {tp : List Nat} {n l x L B S : Nat} {s : MachS} {g : GM} (hA : AbsM c tp n s g) (hn : Nums c L B S) (hl : l < L) (x1 : 1 ≤ x) (x2 : x ≤ S) : g.wg l x ≤ n := by
 have h1 := hA.ward.gen l x (by rw [hn.lev]; omega) x1 (by rw [hn.slo]; omega)
 have h2 := hA.ward.gens (l : Nat) (x : Nat)
 omega
end
end Go.Proofs.YtjeeldacnllipaaGreat
