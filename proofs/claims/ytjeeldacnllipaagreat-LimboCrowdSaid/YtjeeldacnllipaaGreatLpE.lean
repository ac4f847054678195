import Derived.Test.YtjeeldacnllipaaGreatLpD
namespace Go.Proofs.YtjeeldacnllipaaGreat
set_option maxHeartbeats 100000000
set_option maxRecDepth 20000
set_option linter.unusedVariables false
set_option linter.unusedSimpArgs false
set_option linter.unnecessarySimpa false
open List renaming getElem_toArray → qA, getElem_cons_succ → qB, getElem_cons_zero → qC, setIfInBounds_toArray → qD, set_cons_zero → qE, set_cons_succ → qF
section
structure EpF where
  fn : Nat
  pc : Nat
  r0 : Nat
  r1 : Nat
structure EpG where
  ep : Nat → Nat
  act : Nat → Nat → Nat
  thr : Nat → Option EpF
  t0 : Nat → Nat
def rU (a e : Nat) : Bool := (a % 2 == 1) && (a != 2 * e + 1)
def atL (T : Nat) (lev : Nat → Nat) (l : Nat) : List Nat := (List.range T).filter fun t => lev t == l
def EpG.go (g : EpG) (t : Nat) (F : EpF) : EpG := { g with thr := put1 g.thr t (some F) }
def EpG.back (g : EpG) (t a : Nat) : EpG := { g with thr := put1 g.thr t none, t0 := put1 g.t0 t a }
def EpG.setA (g : EpG) (l t a : Nat) : EpG := { g with act := put1 g.act l (put1 (g.act l) t a) }
def EpG.setE (g : EpG) (l e : Nat) : EpG := { g with ep := put1 g.ep l e }
def EpG.pin (g : EpG) (t l : Nat) (F : EpF) : EpG :=
  if F.pc = 0 then g.go t { F with r0 := g.ep l, pc := 1 }
  else if F.pc = 1 then (g.setA l t (2 * F.r0 + 1)).go t { F with pc := 2 }
  else g.back t (g.ep l)
def EpG.adv (al : List Nat) (g : EpG) (t l : Nat) (F : EpF) : EpG :=
  if F.pc = 0 then g.go t { F with r0 := g.ep l, pc := 1 }
  else if F.pc = 1 then
    (if rU (g.act l (al.getD F.r1 0)) F.r0 then g.back t 0
     else if F.r1 + 1 = al.length then g.go t { F with r1 := F.r1 + 1, pc := 2 } else g.go t { F with r1 := F.r1 + 1 })
  else (if g.ep l = F.r0 then (g.setE l (F.r0 + 1)).back t 1 else g.back t 0)
def EpG.next (al : List Nat) (g : EpG) (t l : Nat) (F : EpF) : EpG :=
  if F.fn = 10 then g.pin t l F else if F.fn = 11 then (g.setA l t 0).back t 0 else g.adv al t l F
structure EpT (al : List Nat) (e : Nat) (ab : Nat → Bool × Nat) (is ins : Bool) (F : EpF) : Prop where
  fn : F.fn = 10 ∨ F.fn = 11 ∨ F.fn = 12
  pin : F.fn = 10 → F.pc ≤ 2 ∧ ins = false ∧ (F.pc < 2 → is = false) ∧ (F.pc = 2 → is = true) ∧ (F.pc = 1 → F.r0 ≤ e)
  unpin : F.fn = 11 → F.pc = 0 ∧ ins = true ∧ is = true
  adv : F.fn = 12 → F.pc ≤ 2 ∧ ins = is ∧ (1 ≤ F.pc → F.r0 ≤ e ∧ ∀ i y : Nat, i < F.r1 → al[i]? = some y → (ab y).1 = true → F.r0 ≤ (ab y).2) ∧ (F.pc ≤ 1 → F.r1 < al.length) ∧ (F.pc = 0 → F.r1 = 0) ∧ (F.pc = 2 → F.r1 = al.length)
structure EpI (T : Nat) (lev : Nat → Nat) (n : Nat) (g : EpG) (ab : Nat → Bool × Nat) (ins : Nat → Bool) : Prop where
  epb : ∀ l, g.ep l ≤ n + 2
  yes : ∀ t, t < T → (ab t).1 = true → (∃ e, g.act (lev t) t = 2 * e + 1 ∧ e ≤ (ab t).2) ∧ (ab t).2 ≤ g.ep (lev t) ∧ g.ep (lev t) ≤ (ab t).2 + 1
  no : ∀ t, t < T → (ab t).1 = false → g.act (lev t) t = 0
  thr : ∀ t, t < T → ∀ F, g.thr t = some F → EpT (atL T lev (lev t)) (g.ep (lev t)) ab (ab t).1 (ins t) F
  idle : ∀ t, t < T → g.thr t = none → ins t = (ab t).1
section
variable {T n t l : Nat} {lev : Nat → Nat} {g : EpG} {ab : Nat → Bool × Nat} {ins : Nat → Bool} {F : EpF}
theorem atL_of {y : Nat} (h : y < T) (e : lev y = l) : ∃ i : Nat, i < (atL T lev l).length ∧ (atL T lev l)[i]? = some y := by
  have hm : y ∈ atL T lev l := List.mem_filter.2 ⟨List.mem_range.2 h, by simpa using e⟩
  obtain ⟨i, hi⟩ := List.mem_iff_getElem?.1 hm
  exact ⟨i, (List.getElem?_eq_some_iff.1 hi).1, hi⟩
theorem atL_pos (h : t < T) : 0 < (atL T lev (lev t)).length := by
  obtain ⟨i, hi, _⟩ := atL_of (lev := lev) h rfl
  omega
theorem EpI.call (h : EpI T lev n g ab ins) (ht : t < T) (h0 : g.thr t = none) (fn : Nat) (hf : fn = 10 ∧ ins t = false ∨ fn = 11 ∧ ins t = true ∨ fn = 12) : EpI T lev n (g.go t ⟨fn, 0, 0, 0⟩) ab ins := by
  refine ⟨h.epb, h.yes, h.no, fun u hu F hF => ?_, fun u hu hn => ?_⟩
  · have hF : put1 g.thr t (some ⟨fn, 0, 0, 0⟩) u = some F := hF
    by_cases e : u = t
    · subst e
      rw [zY] at hF
      cases hF
      have hi := h.idle u hu h0
      refine ⟨by rcases hf with ⟨a, _⟩ | ⟨a, _⟩ | a <;> simp [a], fun e => ?_, fun e => ?_, fun e => ?_⟩
      · rcases hf with ⟨_, a⟩ | ⟨a, _⟩ | a
        · exact ⟨Nat.zero_le _, a, fun _ => hi.symm.trans a, fun e => (nomatch (show (0 : Nat) = 2 from e)), fun e => (nomatch (show (0 : Nat) = 1 from e))⟩
        · have : fn = 10 := e; omega
        have : fn = 10 := e; omega
      · rcases hf with ⟨a, _⟩ | ⟨_, a⟩ | a
        · have : fn = 11 := e; omega
        · exact ⟨rfl, a, hi.symm.trans a⟩
        have : fn = 11 := e; omega
      exact ⟨Nat.zero_le _, hi, fun e => absurd (show 1 ≤ 0 from e) (by decide), fun _ => atL_pos hu, fun _ => rfl, fun e => (nomatch (show (0 : Nat) = 2 from e))⟩
    rw [zW e] at hF; exact h.thr u hu F hF
  have hn : put1 g.thr t (some ⟨fn, 0, 0, 0⟩) u = none := hn
  by_cases e : u = t
  · subst e; rw [zY] at hn; cases hn
  rw [zW e] at hn; exact h.idle u hu hn
def abN (lev : Nat → Nat) (t : Nat) (g g' : EpG) (ab : Nat → Bool × Nat) : Nat → Bool × Nat :=
  if g'.act (lev t) t = g.act (lev t) t then ab else put1 ab t (g'.act (lev t) t != 0, g'.ep (lev t))
def insN (t : Nat) (F : EpF) (g' : EpG) (ins : Nat → Bool) : Nat → Bool :=
  if (g'.thr t).isNone then (if F.fn = 10 then put1 ins t true else if F.fn = 11 then put1 ins t false else ins) else ins
theorem insN_ne {t u : Nat} {F : EpF} {g' : EpG} {ins : Nat → Bool} (hu : u ≠ t) : insN t F g' ins u = ins u := by
  unfold insN
  repeat' split
  all_goals first | rfl | exact zW hu
structure EpN (T : Nat) (lev : Nat → Nat) (n t : Nat) (F : EpF) (g g' : EpG) (ab : Nat → Bool × Nat) (ins : Nat → Bool) : Prop where
  inv : EpI T lev (n + 1) g' (abN lev t g g' ab) (insN t F g' ins)
  oth : ∀ u, u ≠ t → g'.thr u = g.thr u
  ep : ∀ l, l ≠ lev t → g'.ep l = g.ep l
  up : g'.ep (lev t) = g.ep (lev t) ∨ g'.ep (lev t) = g.ep (lev t) + 1
  pin : F.fn = 10 → g'.thr t = none → (abN lev t g g' ab t).1 = true ∧ (g'.t0 t = (abN lev t g g' ab t).2 ∨ g'.t0 t = (abN lev t g g' ab t).2 + 1)
  unpin : F.fn = 11 → g'.thr t = none → (abN lev t g g' ab t).1 = false
theorem EpI.over (h : EpI T lev n g ab ins) (ht : t < T) (hF : g.thr t = some F) (a : Nat) (h1 : F.fn = 10 → ins t = false ∧ (ab t).1 = true ∧ (a = (ab t).2 ∨ a = (ab t).2 + 1)) (h2 : F.fn ≠ 11) (h3 : F.fn = 12 → ins t = (ab t).1) (hfn : F.fn = 10 ∨ F.fn = 12) : EpN T lev n t F g (g.back t a) ab ins := by
  have e1 : abN lev t g (g.back t a) ab = ab := if_pos rfl
  have e2 : (g.back t a).thr t = none := zY _ _ _
  have e0 : (g.back t a).t0 t = a := zY _ _ _
  refine ⟨?_, fun u hu => zW hu, fun _ _ => rfl, .inl rfl, fun e _ => (by rw [e1, e0]; exact (h1 e).2), fun e _ => absurd e h2⟩
  rw [e1]
  refine ⟨fun l => Nat.le_trans (h.epb l) (by omega), h.yes, h.no, fun u hu F' hF' => ?_, fun u hu hn => ?_⟩
  · have hF' : put1 g.thr t none u = some F' := hF'
    by_cases e : u = t
    · subst e; rw [zY] at hF'; cases hF'
    rw [zW e] at hF'
    rw [insN_ne e]; exact h.thr u hu F' hF'
  by_cases e : u = t
  · subst e
    unfold insN
    rw [e2]
    simp only [Option.isNone_none, if_true]
    rcases hfn with hf | hf
    · rw [if_pos hf, zY]; exact (h1 hf).2.1.symm
    rw [if_neg (by omega), if_neg (by omega)]; exact h3 hf
  have hn : put1 g.thr t none u = none := hn
  rw [zW e] at hn
  rw [insN_ne e]; exact h.idle u hu hn
theorem EpT.mono {al : List Nat} {e : Nat} {is ins : Bool} {ab ab2 : Nat → Bool × Nat} (h : EpT al e ab is ins F) {e2 : Nat} (he : e ≤ e2) (hab : ∀ i y : Nat, al[i]? = some y → (ab2 y).1 = true → (ab2 y = ab y) ∨ e ≤ (ab2 y).2) : EpT al e2 ab2 is ins F := by
  refine ⟨h.fn, fun f => ?_, h.unpin, fun f => ?_⟩
  · obtain ⟨a, b, c, d, e'⟩ := h.pin f
    exact ⟨a, b, c, d, fun p => Nat.le_trans (e' p) he⟩
  obtain ⟨a, b, c, d, e', f'⟩ := h.adv f
  refine ⟨a, b, fun p => ⟨Nat.le_trans (c p).1 he, fun i y hi hy hab2 => ?_⟩, d, e', f'⟩
  rcases hab i y hy hab2 with h1 | h1
  · rw [h1] at hab2 ⊢; exact (c p).2 i y hi hy hab2
  exact Nat.le_trans (c p).1 h1
theorem EpI.goes (h : EpI T lev n g ab ins) (ht : t < T) (hF : g.thr t = some F) (hf : F.fn = 12) (hp : F.pc = 2) (he : g.ep (lev t) = F.r0) : EpN T lev n t F g ((g.setE (lev t) (F.r0 + 1)).back t 1) ab ins := by
  obtain ⟨a1, a2, a3, a4, a5, a6⟩ := (h.thr t ht F hF).adv hf
  obtain ⟨_, a3⟩ := a3 (by omega)
  generalize hg : (g.setE (lev t) (F.r0 + 1)).back t 1 = g2
  have eact : g2.act = g.act := by rw [← hg]; rfl
  have eep : g2.ep (lev t) = g.ep (lev t) + 1 := by rw [← hg, he]; exact zY _ _ _
  have eepl : ∀ l, l ≠ lev t → g2.ep l = g.ep l := fun l hl => by rw [← hg]; exact zW hl
  have ethr : g2.thr = put1 g.thr t none := by rw [← hg]; rfl
  have eab : abN lev t g g2 ab = ab := by unfold abN; rw [eact, if_pos rfl]
  have ein : insN t F g2 ins = ins := by simp [insN, ethr, zY, hf]
  have eepu : ∀ l, g.ep l ≤ g2.ep l := fun l => by
    by_cases e : l = lev t
    · subst e; omega
    rw [eepl l e]; exact Nat.le_refl _
  refine ⟨?_, fun u hu => by rw [ethr]; exact zW hu, eepl, .inr eep, fun e _ => absurd e (by omega), fun e _ => absurd e (by omega)⟩
  rw [eab, ein]
  refine ⟨fun l => ?_, fun u hu hy => ?_, fun u hu hy => by rw [eact]; exact h.no u hu hy, fun u hu F' hF' => ?_, fun u hu hn => ?_⟩
  · have := h.epb l
    by_cases e : l = lev t
    · subst e; omega
    rw [eepl l e]; omega
  · obtain ⟨b1, b2, b3⟩ := h.yes u hu hy
    rw [eact]
    refine ⟨b1, Nat.le_trans b2 (eepu _), ?_⟩
    by_cases e : lev u = lev t
    · obtain ⟨i, hi, hiy⟩ := atL_of (lev := lev) hu e
      have := a3 i u (by rw [a6 hp]; exact hi) hiy hy
      rw [e, eep]; omega
    rw [eepl _ e]; exact b3
  · rw [ethr] at hF'
    by_cases e : u = t
    · subst e; rw [zY] at hF'; cases hF'
    rw [zW e] at hF'
    exact (h.thr u hu F' hF').mono (eepu _) fun i y _ _ => .inl rfl
  rw [ethr] at hn
  by_cases e : u = t
  · subst e; exact a2
  rw [zW e] at hn; exact h.idle u hu hn
end
end
section
open Go.RowKit
theorem sQ : (Tryz.prog.info? 3).map (fun i => (i.zero, i.size, i.bytes)) = some (some (.int .i64 0), 1, 8) := by kernel_rfl
theorem Has.box2 {σ w : World} {M : Mm} (h : Has σ M w) (o o' : Obj) : ∃ M', Has σ M' ((w.alloc o).alloc o') ∧ M.le M' ∧ M' w.heap.size = some o ∧ M' (w.heap.size + 1) = some o' ∧ M w.heap.size = none ∧ M (w.heap.size + 1) = none := by
 have ez : (w.alloc o).heap.size = w.heap.size + 1 := by simp
 have h1 := h.alloc o
 have h2 := h1.alloc o'
 have hf := h1.fresh
 rw [ez] at h2 hf
 exact ⟨_, h2, Mm.le_trans (Mm.le_upd' h.fresh _) (Mm.le_upd' hf _), Mm.le_upd' hf _ _ _ (Mm.upd_same _ _ _), Mm.upd_same _ _ _, h.fresh, Mm.none_of (Mm.le_upd' h.fresh o) hf⟩
end
section
open Go.RowKit
theorem twice_one (e : Nat) : (e * 2 ||| 1) = 2 * e + 1 := by
 apply Nat.eq_of_testBit_eq
 intro j
 rw [Nat.testBit_or, show 2 * e + 1 = 2 ^ 1 * e + 1 by omega, Nat.testBit_two_pow_mul_add _ (by decide), show e * 2 = 2 ^ 1 * e by omega, Nat.testBit_two_pow_mul]
 by_cases h : j < 1
 ·obtain rfl : j = 0 := by omega
  simp
 have h1 : Nat.testBit 1 j = false := Nat.testBit_lt_two_pow (Nat.lt_of_lt_of_le (show 1 < 2 ^ 1 by decide) (Nat.pow_le_pow_right (by decide) (by omega)))
 simp [h, h1]
 omega
theorem epActive_any (e : Nat) (he : e < 4611686018427387904) (w : World) : Calls Tryz.prog 128 #[.int .u64 e] w fun r w' => r = .returned (.int .u64 (2 * e + 1 : Nat)) ∧ w = w' := by
 have hs : IntKind.u64.wrap ((e : Int) * 2) = (e : Int) * 2 := IntWalk.u64_in _ (by omega)
 have B3 : bits .or .u64 ((e : Int) * 2) 1 = ((2 * e + 1 : Nat) : Int) := by
  rw [← twice_one e]
  exact bits_or_u64_nat (e * 2) 1 (by omega) (by decide)
 go_enter Tryz.func128, Tryz.ntmps128
 go_wp2
 go_ret
 exact ⟨by first | rfl | (simp only [B3]; rfl), rfl⟩
theorem int_neq (a b : Nat) : ((a : Int) != (b : Int)) = (a != b) := by
 rw [Bool.eq_iff_iff, bne_iff_ne, bne_iff_ne]
 exact ⟨fun h e => h (congrArg _ e), fun h e => h (Int.ofNat_inj.1 e)⟩
theorem epLags_any (a e : Nat) (ha : a < 18446744073709551616) (he : e < 4611686018427387904) (w : World) : Calls Tryz.prog 130 #[.int .u64 a, .int .u64 e] w fun r w' => r = .returned (.bool (rU a e)) ∧ w = w' := by
 have B0 : bits .and .u64 (a : Int) 1 = ((a % 2 : Nat) : Int) := by
  rw [← Nat.and_one_is_mod]
  exact bits_and_u64_nat a 1 ha (by decide)
 have AC := Lib.hid (epActive_any e he)
 obtain ⟨y, hy⟩ : ∃ y, 2 * e + 1 = y := ⟨_, rfl⟩
 rw [hy] at AC
 by_cases h1 : a % 2 = 1
 ·have L : Hid (rU a e = (a != y)) := Lib.hid (by unfold rU; rw [h1, hy]; rfl)
  rw [h1] at B0
  have B1 : bits .and .u64 (a : Int) 1 = 1 := B0
  have N := Lib.hid (int_neq a y)
  clear B0 h1 hy ha he
  go_enter Tryz.func130, Tryz.ntmps130
  go_wp2_with (first
   | (go_at_call 128; refine (AC.out _).mono ?_; rintro r w' ⟨rfl, rfl⟩))
  go_ret
  exact ⟨by rw [L.out, ← N.out]; rfl, rfl⟩
 have h0 : a % 2 = 0 := by omega
 have L : Hid (rU a e = false) := Lib.hid (by unfold rU; rw [h0]; rfl)
 rw [h0] at B0
 have B1 : bits .and .u64 (a : Int) 1 = 0 := B0
 clear B0 h1 h0 hy ha he
 go_enter Tryz.func130, Tryz.ntmps130
 go_wp2_with (first
  | (go_at_call 128; refine (AC.out _).mono ?_; rintro r w' ⟨rfl, rfl⟩))
 go_ret
 exact ⟨by rw [L.out]; rfl, rfl⟩
def atC (c : Nat → Int) (T lv : Nat) : List Nat := (List.range T).filter fun t => c (2 + t) == (lv : Int)
theorem atC_succ (c : Nat → Int) (k lv : Nat) : atC c (k + 1) lv = if c (2 + k) == (lv : Int) then atC c k lv ++ [k] else atC c k lv := by
 unfold atC
 rw [List.range_succ, List.filter_append]
 cases h : (c (2 + k) == (lv : Int)) <;> simp [h]
theorem atC_le (c : Nat → Int) (k lv : Nat) : (atC c k lv).length ≤ k := by
 unfold atC
 exact Nat.le_trans (List.length_filter_le _ _) (by simp)
section
variable {σ w : World} {M : Mm}
theorem atWant_eq (h : Has σ M w) {bl : Nat} {lv x : Int} (hb : M bl = some (.cells #[.int .i64 lv] 3)) : Calls Tryz.prog 137 #[.int .i64 x, .pointer (some ⟨bl, 0, none⟩)] w fun r w' => r = .returned (.bool (x == lv)) ∧ Has σ M w' := by
 have e0 : (#[.int .i64 lv] : Array Value)[0]? = some (.int .i64 lv) := rfl
 go_enter Tryz.func137, Tryz.ntmps137
 go_wp2_with (first
  | (with_reducible show wpList _ _ _ (⟨_, .load 3 _, _, _, _, _⟩ :: _) _ _; refine zZ h rfl 3 _ rfl rfl hb e0 Tryz.underlying3 rfl ?_))
 go_ret
 exact ⟨rfl, h⟩
theorem confThose_eq (h : Has σ M w) (c : Nat → Int) (hm : yP c = true) {T : Nat} (hT : c 1 = (T : Nat)) {lv bl : Nat} (hb : M bl = some (.cells #[.int .i64 (lv : Nat)] 3)) : Calls Tryz.prog 136 #[yM c, .func (.func 137) #[] #[.pointer (some ⟨bl, 0, none⟩)]] w fun r w' => ∃ v, r = .returned v ∧ Acc σ M w' 3 1 v (atC c T lv).length (natv (atC c T lv)) := by
 have hc := rY hm
 have hT8 : 1 ≤ T ∧ T ≤ 8 := by have := hc.2.1; omega
 have hx : (ints .i64 14 c).extract 0 (0 + 14) = ints .i64 14 c := rfl
 have hz : (ints .i64 14 c).size = 14 := rfl
 have r1 : (ints .i64 14 c)[1]? = some (.int .i64 (T : Nat)) := by rw [← hT]; rfl
 have MY : Hid (∀ (M' : Mm) (w : World), Has σ M' w → Calls Tryz.prog 84 #[yM c] w fun e w' => e = .returned (.bool (yP c)) ∧ Has σ M' w') := Lib.hid fun M' w h => (qZ c w).mono fun e w' ⟨h1, h2⟩ => ⟨h1, h.below h2⟩
 rw [hm] at MY
 have G : Hid (∀ t, t < T → (ints .i64 14 c)[2 + t]? = some (.int .i64 (c (2 + t)))) := Lib.hid fun t ht => yH (by omega)
 unfold yM at MY ⊢
 generalize ints .i64 14 c = row at *
 clear hm hc hT
 go_enter Tryz.func136, Tryz.ntmps136
 go_upto_region 1 with (fail)
 obtain ⟨M1, hbx, hle, hbf, hnf⟩ := h.box (.cells row 24)
 generalize w.alloc _ = wx at hbx ⊢
 generalize w.heap.size = bf at hbf hnf ⊢
 clear h
 try clear w
 have h := hbx
 clear hbx
 obtain ⟨w, rfl⟩ : ∃ x : World, x = wx := ⟨_, rfl⟩
 have hbl := hle _ _ hb
 go_upto_region 5 with (first
  | ((with_reducible show wpList _ _ _ (⟨_, .load 24 _, _, _, _, _⟩ :: _) _ _); refine zR h rfl 24 _ rfl rfl hbf hx hz Tryz.underlying24 rfl (by kernel_rfl) ?_; try simp only [Act.put, qD, qE, qF])
  | (go_at_call 84; refine (MY.out _ _ h).mono ?_; clear h; rintro _ w ⟨rfl, h⟩)
  | (with_reducible show wpList _ _ _ (⟨_, .load 3 _, _, _, _, _⟩ :: _) _ _; refine zZ h rfl 3 _ rfl rfl hbf r1 Tryz.underlying3 rfl ?_))
 go_loopw [5, 6, 12] (fun o _ u wr => ∃ k : Nat, k ≤ T ∧ u = .int .i64 (k : Nat) ∧ Acc σ M1 wr 3 1 o (atC c k lv).length (natv (atC c k lv))) (fun _ _ u _ => T - (intOf u).toNat)
 case atStart => exact ⟨0, Nat.zero_le _, rfl, Acc.nil h _ _⟩
 clear h w
 obtain ⟨w, rfl⟩ : ∃ x : World, x = wr := ⟨_, rfl⟩
 obtain ⟨k, hk, rfl, M2, h, hle2, hown⟩ := hrel
 have hbf2 := hle2 _ _ hbf
 have hbl2 := hle2 _ _ hbl
 obtain ⟨Ao, co, rfl⟩ := hown.form
 by_cases hlt : k < T
 ·have gk := G.out k hlt
  have hlt' : (k : Int) < (T : Int) := by omega
  have hk8 : (k : Int) < 8 := by omega
  have wk : IntKind.i64.wrap ((k : Int) + 1) = ((k + 1 : Nat) : Int) := by rw [show (k : Int) + 1 = ((k + 1 : Nat) : Int) by omega]; exact IntWalk.i64_in _ (by omega)
  have WT := Lib.hid (fun (w : World) (h : Has σ M2 w) => atWant_eq (x := c (2 + k)) h hbl2)
  have SU := Lib.hid (atC_succ c k lv)
  have HLT := Lib.hid hlt
  have hle8 := atC_le c k lv
  clear hlt hk
  obtain ⟨b, hbb⟩ : ∃ b : Bool, (c (2 + k) == (lv : Int)) = b := ⟨_, rfl⟩
  rw [hbb] at WT SU
  clear hbb
  generalize hal : atC c k lv = al at *
  clear hal
  obtain ⟨nl, hnl⟩ : ∃ nl, al.length = nl := ⟨_, rfl⟩
  rw [hnl] at hown hle8
  have HNL := Lib.hid hnl
  rw [hnl]
  clear hnl
  cases b
  ·go_wp2_with (first
    | (with_reducible show wpList _ _ _ (⟨_, .load 3 _, _, _, _, _⟩ :: _) _ _; refine zZ h rfl 3 _ rfl rfl hbf2 gk Tryz.underlying3 rfl ?_)
    | ((go_at_call 137; refine (WT.out _ h).mono ?_; clear h; rintro _ w ⟨rfl, h⟩)))
   go_roundw
   case rel => exact ⟨k + 1, by have := HLT.out; omega, by go_num, by rw [SU.out, if_neg (by decide), HNL.out]; exact ⟨M2, h, hle2, hown⟩⟩
   case measure => have := HLT.out; simp [intOf]; omega
  go_wp2_with (first
   | (with_reducible show wpList _ _ _ (⟨_, .load 3 _, _, _, _, _⟩ :: _) _ _; refine zZ h rfl 3 _ rfl rfl hbf2 gk Tryz.underlying3 rfl ?_)
   | ((go_at_call 137; refine (WT.out _ h).mono ?_; clear h; rintro _ w ⟨rfl, h⟩))
   | (at_builtin; refine xH h hle2 rfl _ _ _ rfl rfl Tryz.underlying47 sQ rfl (by omega) rfl hown rfl rfl rfl (by omega) (by omega) ?_; clear h hle2 hown; intro v w hacc))
  go_roundw
  case rel => exact ⟨k + 1, by have := HLT.out; omega, by go_num, by rw [SU.out, if_pos (by decide), uG, List.length_append, HNL.out]; exact hacc⟩
  case measure => have := HLT.out; simp [intOf]; omega
 obtain rfl : k = T := by omega
 have hlt' : ¬ (k : Int) < (k : Int) := by omega
 go_wp2
 go_ret
 exact ⟨_, rfl, M2, h, Mm.le_trans hle hle2, hown.base fun b hb => Mm.none_of hle hb⟩
theorem nZ (h : Has σ M w) (c : Nat → Int) (hm : yP c = true) {T : Nat} (hT : c 1 = (T : Nat)) (lv : Nat) : Calls Tryz.prog 129 #[yM c, .int .i64 (lv : Nat)] w fun r w' => ∃ v, r = .returned v ∧ Acc σ M w' 3 1 v (atC c T lv).length (natv (atC c T lv)) := by
 have hx : (ints .i64 14 c).extract 0 (0 + 14) = ints .i64 14 c := rfl
 have hz : (ints .i64 14 c).size = 14 := rfl
 have TH := Lib.hid (fun (M' : Mm) (w : World) (bl : Nat) (h : Has σ M' w) (hb : M' bl = some (.cells #[.int .i64 (lv : Nat)] 3)) => confThose_eq h c hm hT hb)
 unfold yM at TH ⊢
 generalize ints .i64 14 c = row at *
 generalize natv (atC c T lv) = xs at *
 generalize (atC c T lv).length = nl at *
 clear hm hT
 go_enter Tryz.func129, Tryz.ntmps129
 go_upto_region 1 with (fail)
 obtain ⟨M', hbx, hle, hb1, hb2, hn1, hn2⟩ := h.box2 (.cells row 24) (.cells #[.int .i64 (lv : Nat)] 3)
 generalize (w.alloc _).alloc _ = wx at hbx ⊢
 have hne_b1_b2 : w.heap.size ≠ w.heap.size + 1 := Nat.ne_of_lt (Nat.lt_succ_self _)
 generalize w.heap.size + 1 = b2 at hb2 hn2 hne_b1_b2 ⊢
 generalize w.heap.size = b1 at hb1 hn1 hne_b1_b2 ⊢
 clear h
 try clear w
 have h := hbx
 clear hbx
 obtain ⟨w, rfl⟩ : ∃ x : World, x = wx := ⟨_, rfl⟩
 go_wp2_with (first
  | ((with_reducible show wpList _ _ _ (⟨_, .load 24 _, _, _, _, _⟩ :: _) _ _); refine zR h rfl 24 _ rfl rfl hb1 hx hz Tryz.underlying24 rfl (by kernel_rfl) ?_; try simp only [Act.put, qD, qE, qF])
  | ((go_at_call 136; refine (TH.out _ _ _ h hb2).mono ?_; clear h; rintro _ w ⟨v, rfl, M5, h, hle5, hown⟩)))
 go_ret
 exact ⟨v, rfl, M5, h, Mm.le_trans hle hle5, hown.base fun b hb => Mm.none_of hle hb⟩
end
end
section
open Go.RowKit
section
variable {σ w : World} {M : Mm} {p t q b : Nat}
theorem lH (h : Has σ M w) {r : Int} (SP : SpotAt σ M p t 1 0 0 r) : Calls Tryz.prog 131 #[.agg (runC p t q b)] w fun e w' => e = .returned (.int .i64 r) ∧ Has σ M w' := by
 obtain ⟨d0, d1, d2, d3, dx, dz⟩ := runD p t q b
 go_enter Tryz.func131, Tryz.ntmps131
 go_upto_region 1 with (fail)
 obtain ⟨M1, hbx, hle, hb4, hn⟩ := h.box (.cells (runC p t q b) 170)
 generalize w.alloc _ = wx at hbx ⊢
 generalize w.heap.size = b4 at hb4 hn ⊢
 clear h
 try clear w
 have h := hbx
 clear hbx
 obtain ⟨w, rfl⟩ : ∃ x : World, x = wx := ⟨_, rfl⟩
 have SP1 := Lib.hid (fun (w : World) (h : Has σ M1 w) => SP M1 w hle h)
 clear SP
 generalize runC p t q b = rc at *
 go_wp2_with (first
  | (with_reducible show wpList _ _ _ (⟨_, .load 26 _, _, _, _, _⟩ :: _) _ _; refine zZ h rfl 26 _ rfl rfl hb4 d0 Tryz.underlying26 rfl ?_)
  | (with_reducible show wpList _ _ _ (⟨_, .load 3 _, _, _, _, _⟩ :: _) _ _; refine zZ h rfl 3 _ rfl rfl hb4 d1 Tryz.underlying3 rfl ?_)
  | (go_at_call 120; refine (SP1.out _ h).mono ?_; clear h; rintro _ w ⟨rfl, h⟩))
 go_ret
 exact ⟨rfl, h.le hle⟩
theorem epAt_eq (h : Has σ M w) {i r : Int} (SP : SpotAt σ M p t 6 i 0 r) : Calls Tryz.prog 127 #[.agg (runC p t q b), .int .i64 i] w fun e w' => e = .returned (.int .i64 r) ∧ Has σ M w' := by
 obtain ⟨d0, d1, d2, d3, dx, dz⟩ := runD p t q b
 go_enter Tryz.func127, Tryz.ntmps127
 go_upto_region 1 with (fail)
 obtain ⟨M1, hbx, hle, hb4, hn⟩ := h.box (.cells (runC p t q b) 170)
 generalize w.alloc _ = wx at hbx ⊢
 generalize w.heap.size = b4 at hb4 hn ⊢
 clear h
 try clear w
 have h := hbx
 clear hbx
 obtain ⟨w, rfl⟩ : ∃ x : World, x = wx := ⟨_, rfl⟩
 have SP1 := Lib.hid (fun (w : World) (h : Has σ M1 w) => SP M1 w hle h)
 clear SP
 generalize runC p t q b = rc at *
 go_wp2_with (first
  | (with_reducible show wpList _ _ _ (⟨_, .load 26 _, _, _, _, _⟩ :: _) _ _; refine zZ h rfl 26 _ rfl rfl hb4 d0 Tryz.underlying26 rfl ?_)
  | (with_reducible show wpList _ _ _ (⟨_, .load 3 _, _, _, _, _⟩ :: _) _ _; refine zZ h rfl 3 _ rfl rfl hb4 d1 Tryz.underlying3 rfl ?_)
  | (go_at_call 120; refine (SP1.out _ h).mono ?_; clear h; rintro _ w ⟨rfl, h⟩))
 go_ret
 exact ⟨rfl, h.le hle⟩
end
theorem row_reg0 (f : FrameS) (v : Int) : f.row.setIfInBounds 2 (.int .u64 v) = (f.reg 0 v).row := rfl
theorem epNow_eq {σ w : World} {K M : Mm} {lab : Nat → Nat} {p t q b : Nat} {s : MachS} {fs : List FrameS} {f : FrameS} (h : Has σ M w) (hT : AtTop K M lab p s t q b fs f) {a : Int} (SP : SpotAt σ M p t 1 0 0 a) (hb1 : s.mem.acc < 1000000000) :
  Calls Tryz.prog 126 #[.agg (runC p t q b)] w fun r w' => r = .returned (.int .u64 (s.mem.load a)) ∧ Has σ (M.upd s.mp (.cells (s.mem.at_ a).cells 146)) w' := by
 obtain ⟨d0, d1, d2, d3, dx, dz⟩ := runD p t q b
 obtain ⟨v, hvv⟩ : ∃ v, s.mem.load a = v := ⟨_, rfl⟩
 rw [hvv]
 go_enter Tryz.func126, Tryz.ntmps126
 go_upto_region 1 with (fail)
 obtain ⟨M1, hbx, hle, hb4, hn⟩ := h.box (.cells (runC p t q b) 170)
 generalize w.alloc _ = wx at hbx ⊢
 generalize w.heap.size = b4 at hb4 hn ⊢
 clear h
 try clear w
 have h := hbx
 clear hbx
 obtain ⟨w, rfl⟩ : ∃ x : World, x = wx := ⟨_, rfl⟩
 obtain ⟨lab1, hT1⟩ := hT.more1 hle hn hb4
 have hnK : K b4 = none := by
  cases e : K b4 with
  | none => rfl
  | some o => have := (hT.base _ _ e).1; rw [hn] at this; cases this
 have hKK : K.le (K.upd b4 (.cells (runC p t q b) 170)) := Mm.le_upd' hnK _
 have hbK : (K.upd b4 (.cells (runC p t q b) 170)) b4 = some (.cells (runC p t q b) 170) := Mm.upd_same _ _ _
 have hfb := hT1.obj
 have EP := Lib.hid (fun (w : World) (h : Has σ M1 w) => lH (q := q) (b := b) h (SP.le hle))
 have ME := Lib.hid (fun (w : World) (h : Has σ M1 w) => yJ h hT1.mach)
 have LD := Lib.hid (fun (w : World) (h : Has σ M1 w) => xM h hT1.mach.mem hb1 a)
 rw [hvv] at LD
 have HLE := Lib.hid (Mm.upd_mono hle s.mp (.cells (s.mem.at_ a).cells 146))
 clear hvv hT hT1 SP hb1 hn hle hnK hKK hbK hfb
 generalize runC p t q b = rc at *
 generalize M1.upd s.mp _ = M3 at HLE LD
 refine zN (Has σ M1) 5 (by kernel_rfl) (by kernel_rfl) (fun _ _ _ _ _ h => h) h.drew ?_
 clear h
 simp only [List.take_succ_cons, List.take_zero, List.drop_succ_cons, List.drop_zero]
 repeat (first
  | go_big_quiet_skip
  | (go_big_quiet_want; first
   | (refine zX 26 _ rfl rfl hb4 d0 Tryz.underlying26 rfl ?_; simp only [Act.put, qD, qE, qF]; go_big_quiet_on)
   | (refine zL 170 _ rfl rfl hb4 dx dz Tryz.underlying170 rfl (by kernel_rfl) ?_; simp only [Act.put, qD, qE, qF]; go_big_quiet_on)
   | (go_big_quiet_op; first | go_big_quiet_on | go_big_quiet_call (first | with_reducible exact fun _ => rfl | with_reducible exact ME.out _ | with_reducible exact EP.out _))))
 refine wpQuiet_nil ?_
 try clear w
 intro w h
 go_wp2_with (first
  | (go_at_call 94; refine (LD.out _ h).mono ?_; clear h; rintro _ w ⟨rfl, h⟩))
 go_ret
 exact ⟨rfl, h.le HLE.out⟩
end
section
open Go.RowKit
theorem AtTop.more {K M M' : Mm} {lab : Nat → Nat} {p t q b : Nat} {s : MachS} {fs : List FrameS} {f : FrameS} (h : AtTop K M lab p s t q b fs f) (hle : M.le M') : AtTop K M' (sW M lab fun _ => 0) p s t q b fs f :=
 h.keep (Kp.le hle fun _ => 0) (fun _ _ h => h) (h.mach.keep (Kp.le hle fun _ => 0) fun _ _ h => h) (h.base.keep (Kp.le hle fun _ => 0) fun h => h) rfl rfl
theorem adv_0 {σ w : World} {K M : Mm} {lab : Nat → Nat} {p t q b : Nat} {s : MachS} {fs : List FrameS} {f : FrameS} (h : Has σ M w) (hT : AtTop K M lab p s t q b fs f) (hat : f.at_ = 0) {lv : Nat} (hlv : zT s.c (t : Nat) = (lv : Nat)) {T : Nat} (hT1c : s.c 1 = (T : Nat)) {a : Int} (SP : SpotAt σ M p t 1 0 0 a) (hb1 : s.mem.acc < 1000000000) :
  Calls Tryz.prog 104 #[.agg (runC p t q b)] w fun r w' => r = .returned (.tuple #[]) ∧ ∃ M' lab', Has σ M' w' ∧ AtTop K M' lab' p (MachS.top { s with mem := s.mem.at_ a } t fs ((f.reg 0 (s.mem.load a)).goto 1)) t q b fs ((f.reg 0 (s.mem.load a)).goto 1) := by
 obtain ⟨v, hvv⟩ : ∃ v, s.mem.load a = v := ⟨_, rfl⟩
 rw [hvv]
 obtain ⟨d0, d1, d2, d3, dx, dz⟩ := runD p t q b
 have f1 : f.row[1]? = some (.int .i64 0) := by rw [← hat]; rfl
 go_enter Tryz.func104, Tryz.ntmps104
 go_upto_region 1 with (fail)
 obtain ⟨M1, hbx, hle, hb4, hn⟩ := h.box (.cells (runC p t q b) 170)
 generalize w.alloc _ = wx at hbx ⊢
 generalize w.heap.size = b4 at hb4 hn ⊢
 clear h
 try clear w
 have h := hbx
 clear hbx
 obtain ⟨w, rfl⟩ : ∃ x : World, x = wx := ⟨_, rfl⟩
 obtain ⟨lab1, hT1⟩ := hT.more1 hle hn hb4
 have hnK : K b4 = none := by
  cases e : K b4 with
  | none => rfl
  | some o => have := (hT.base _ _ e).1; rw [hn] at this; cases this
 have hKK : K.le (K.upd b4 (.cells (runC p t q b) 170)) := Mm.le_upd' hnK _
 have hbK : (K.upd b4 (.cells (runC p t q b) 170)) b4 = some (.cells (runC p t q b) 170) := Mm.upd_same _ _ _
 have hfb := hT1.obj
 have PL := Lib.hid (fun (w : World) (h : Has σ M1 w) => wU h hT1.mach)
 have CF := Lib.hid (fun (w : World) (h : Has σ M1 w) => wR h s.c hT1.mach.plan)
 have LV : Hid (∀ w : World, Has σ M1 w → Calls Tryz.prog 12 #[.pointer (some ⟨p, 0, none⟩), .int .i64 (t : Nat)] w fun r w' => r = .returned (.int .i64 (lv : Nat)) ∧ Has σ M1 w') := Lib.hid fun w h => (vV h hT1.mach t).mono fun r w' ⟨e, h'⟩ => ⟨e.trans (congrArg (fun z => Ending.returned (Value.int .i64 z)) hlv), h'⟩
 have AT := Lib.hid (fun (w : World) (h : Has σ M1 w) => nZ h s.c (decide_eq_true hT.mach.may) hT1c lv)
 have HT1 := Lib.hid hT1
 have HSP := Lib.hid (fun (M' : Mm) (hle' : M1.le M') => SP.le (Mm.le_trans hle hle'))
 have HVV := Lib.hid hvv
 have HB1 := Lib.hid hb1
 have HKK := Lib.hid hKK
 have hrow0 : (f.reg 0 v).row = f.row.setIfInBounds 2 (.int .u64 v) := (row_reg0 f v).symm
 clear hvv hT hT1 SP hb1 hn hle hnK hKK hat hT1c hlv hrow0
 generalize hrc : runC p t q b = rc at *
 have HRC := Lib.hid hrc
 clear hrc
 generalize hr0 : f.row = fr0 at *
 have HR0 := Lib.hid hr0
 clear hr0
 generalize K.upd b4 _ = K1 at *
 unfold yM at AT
 generalize ints .i64 14 s.c = crow at *
 go_upto_region 2 with (first
  | (with_reducible show wpList _ _ _ (⟨_, .load 70 _, _, _, _, _⟩ :: _) _ _; refine zZ h rfl 70 _ rfl rfl hb4 d3 Tryz.underlying70 rfl ?_))
 refine zN (Has σ M1) 9 (by kernel_rfl) (by kernel_rfl) (fun _ _ _ _ _ h => h) h.drew ?_
 clear h
 simp only [List.take_succ_cons, List.take_zero, List.drop_succ_cons, List.drop_zero]
 repeat (first
  | go_big_quiet_skip
  | (go_big_quiet_want; first
   | (refine zX 26 _ rfl rfl hb4 d0 Tryz.underlying26 rfl ?_; simp only [Act.put, qD, qE, qF]; go_big_quiet_on)
   | (refine zX 3 _ rfl rfl hb4 d1 Tryz.underlying3 rfl ?_; simp only [Act.put, qD, qE, qF]; go_big_quiet_on)
   | (go_big_quiet_op; first | go_big_quiet_on | go_big_quiet_call (first | with_reducible exact fun _ => rfl | with_reducible exact PL.out _ | with_reducible exact CF.out _ | with_reducible exact LV.out _))))
 refine wpQuiet_nil ?_
 try clear w
 intro w h
 clear PL CF LV
 go_upto_region 3 with (first
  | ((go_at_call 129; refine (AT.out _ h).mono ?_; clear h; rintro _ w ⟨v3, rfl, M2, h, hle2, hown⟩)))
 have hT2 := HT1.out.more hle2
 have NW := Lib.hid (fun (w : World) (h : Has σ M2 w) => epNow_eq h hT2 (HSP.out M2 hle2) HB1.out)
 rw [HVV.out, HRC.out] at NW
 have KL := hT2.base.le
 have hT3 := hT2.load a
 have KE := hT3.base.le
 obtain ⟨hfb2, hT4⟩ := hT3.frame (f.reg 0 v)
 have KS := hT4.base.le
 obtain ⟨hfb3, hT5⟩ := hT4.frame ((f.reg 0 v).goto 1)
 rw [MachS.top_top, Mm.upd_upd] at hT5
 have HT := Lib.hid (hT5.less HKK.out)
 have hsz : 2 < f.row.size := show 2 < 18 by omega
 have hsz3 : 1 < (f.reg 0 v).row.size := show 1 < 18 by omega
 have R1 := Lib.hid (row_reg0 f v)
 have R2 := Lib.hid (xZ (f.reg 0 v) 1)
 rw [HR0.out] at hfb2 hsz R1
 replace hfb := hle2 _ _ hfb
 obtain ⟨A3, c3, rfl⟩ := hown.form
 clear hT2 hT3 hT4 hT5 hown HT1 HSP HVV HB1 HKK HRC HR0 hle2 AT
 generalize hr1 : (f.reg 0 v).row = fr1 at *
 generalize hr2 : ((f.reg 0 v).goto 1).row = fr2 at *
 clear hr1 hr2
 generalize M2.upd s.mp _ = M3 at *
 go_upto_region 9 with (first
  | (with_reducible show wpList _ _ _ (⟨_, .load 3 _, _, _, _, _⟩ :: _) _ _; refine zZ h rfl 3 _ rfl rfl hfb f1 Tryz.underlying3 rfl ?_))
 clear hfb
 refine wp_region_held_drew (S := Has σ (K1)) (by kernel_rfl) (h.drew.le KL) (fun hHeld => ?_)
 refine tkB 0 ?_
 try simp only [qA, qB, qC, Act.put, qD, qE, qF]
 refine tkA 1 rfl hHeld (yZ rfl 170 _ rfl rfl hbK dx dz Tryz.underlying170 rfl (by kernel_rfl)) ?_
 try simp only [qA, qB, qC, Act.put, qD, qE, qF]
 refine tkB 3 ?_
 refine tkB 4 ?_
 try simp only [qA, qB, qC, Act.put, qD, qE, qF]
 replace h := h.drew
 generalize w.drew = w1 at h hHeld ⊢
 clear w
 obtain ⟨w, rfl⟩ : ∃ q : World, q = w1 := ⟨_, rfl⟩
 refine op1 2 rfl fun K hK => ?_
 (go_simp; go_wp2_with (go_at_call 126; refine (NW.out _ h).mono ?_; clear h; rintro _ w ⟨rfl, h⟩))
 refine hK.out _ _ (h.le KE) (fun hHeld => ?_)
 clear hK K
 try simp only [Act.put, qD, qE, qF]
 refine tkB 5 ?_
 try simp only [qA, qB, qC, Act.put, qD, qE, qF]
 refine op1 6 rfl fun K hK => ?_
 (refine yR (v := .int .u64 v) h rfl 42 _ _ rfl rfl rfl hfb2 hsz rfl rfl (by kernel_rfl) ?_; clear h; intro w h; rw [R1.out] at h)
 refine hK.out _ _ (h.le KS) (fun hHeld => ?_)
 clear hK K
 try simp only [Act.put, qD, qE, qF]
 refine wpAnyH_done (by kernel_rfl) ?_ _
 clear hHeld
 generalize hM4 : M3.upd b (.cells fr1 69) = M4 at h hfb3 KS
 go_wp2_with (first
  | (with_reducible show wpList _ _ _ (⟨_, .store 3 _ _, _, _, _, _⟩ :: _) _ _; refine zV h rfl 3 _ _ rfl rfl rfl hfb3 hsz3 rfl (by kernel_rfl) ?_; clear h; intro w h))
 go_end0
 refine ⟨rfl, _, _, ?_, HT.out⟩
 have h0 : Has σ (M3.upd b (.cells (fr1.setIfInBounds 1 (.int .i64 1)) 69)) w := by rw [← hM4, Mm.upd_upd] at h; exact h
 rw [R2.out] at h0
 exact h0
theorem row_regv (f : FrameS) (v : Int) : f.row.setIfInBounds 3 (.int .u64 v) = (f.reg 1 v).row := rfl
theorem adv_1 {σ w : World} {K M : Mm} {lab : Nat → Nat} {p t q b : Nat} {s : MachS} {fs : List FrameS} {f : FrameS} (h : Has σ M w) (hT : AtTop K M lab p s t q b fs f) (hat : f.at_ = 1) {lv : Nat} (hlv : zT s.c (t : Nat) = (lv : Nat)) {T : Nat} (hT1c : s.c 1 = (T : Nat)) {al : List Nat} (hal : atC s.c T lv = al) {x r y z : Nat} (hx : f.r 0 = (x : Int)) (hx62 : x < 4611686018427387904) (hr : f.r 1 = (r : Int)) (hr8 : r < 8) (hy : al[r]? = some y) {a : Int} (SP : SpotAt σ M p t 6 (y : Nat) 0 a) (hz : s.mem.load a = (z : Int)) (hz64 : z < 18446744073709551616) (hb1 : s.mem.acc < 1000000000) (hfs : fs.length < 1000000) :
  (rU z x = true → Calls Tryz.prog 104 #[.agg (runC p t q b)] w fun r' w' => r' = .returned (.tuple #[]) ∧ ∃ M' lab', Has σ M' w' ∧ (Mach M' lab' p (MachS.backed { s with mem := s.mem.at_ a } t [0]) ∧ Base K M' lab')) ∧ (rU z x = false → r + 1 ≠ al.length → Calls Tryz.prog 104 #[.agg (runC p t q b)] w fun r' w' => r' = .returned (.tuple #[]) ∧ ∃ M' lab', Has σ M' w' ∧ (AtTop K M' lab' p (MachS.top { s with mem := s.mem.at_ a } t fs (f.reg 1 (r + 1 : Nat))) t q b fs (f.reg 1 (r + 1 : Nat)))) ∧ (rU z x = false → r + 1 = al.length → Calls Tryz.prog 104 #[.agg (runC p t q b)] w fun r' w' => r' = .returned (.tuple #[]) ∧ ∃ M' lab', Has σ M' w' ∧ (AtTop K M' lab' p (MachS.top { s with mem := s.mem.at_ a } t fs ((f.reg 1 (r + 1 : Nat)).goto 2)) t q b fs ((f.reg 1 (r + 1 : Nat)).goto 2))) := by
 have HF := Lib.hid hfs
 clear hfs
 refine ⟨fun hl => ?_, fun hl hne => ?_, fun hl hne => ?_⟩
 all_goals
  have HL := Lib.hid hl
  clear hl
  first
  | (have HN := Lib.hid hne; clear hne)
  | skip
  obtain ⟨d0, d1, d2, d3, dx, dz⟩ := runD p t q b
  have f1 : f.row[1]? = some (.int .i64 1) := by rw [← hat]; rfl
  go_enter Tryz.func104, Tryz.ntmps104
  go_upto_region 1 with (fail)
  obtain ⟨M1, hbx, hle, hb4, hn⟩ := h.box (.cells (runC p t q b) 170)
  generalize w.alloc _ = wx at hbx ⊢
  generalize w.heap.size = b4 at hb4 hn ⊢
  clear h
  try clear w
  have h := hbx
  clear hbx
  obtain ⟨w, rfl⟩ : ∃ x : World, x = wx := ⟨_, rfl⟩
  obtain ⟨lab1, hT1⟩ := hT.more1 hle hn hb4
  have hnK : K b4 = none := by
   cases e : K b4 with
   | none => rfl
   | some o => have := (hT.base _ _ e).1; rw [hn] at this; cases this
  have hKK : K.le (K.upd b4 (.cells (runC p t q b) 170)) := Mm.le_upd' hnK _
  have hbK : (K.upd b4 (.cells (runC p t q b) 170)) b4 = some (.cells (runC p t q b) 170) := Mm.upd_same _ _ _
  have hfb := hT1.obj
  have PL := Lib.hid (fun (w : World) (h : Has σ M1 w) => wU h hT1.mach)
  have CF := Lib.hid (fun (w : World) (h : Has σ M1 w) => wR h s.c hT1.mach.plan)
  have LV : Hid (∀ w : World, Has σ M1 w → Calls Tryz.prog 12 #[.pointer (some ⟨p, 0, none⟩), .int .i64 (t : Nat)] w fun r w' => r = .returned (.int .i64 (lv : Nat)) ∧ Has σ M1 w') := Lib.hid fun w h => (vV h hT1.mach t).mono fun r w' ⟨e, h'⟩ => ⟨e.trans (congrArg (fun z => Ending.returned (Value.int .i64 z)) hlv), h'⟩
  have AT := Lib.hid (fun (w : World) (h : Has σ M1 w) => nZ h s.c (decide_eq_true hT.mach.may) hT1c lv)
  rw [hal] at AT
  have f2 : f.row[2]? = some (.int .u64 (x : Nat)) := by rw [← hx]; rfl
  have f3 : f.row[3]? = some (.int .u64 (r : Nat)) := by rw [← hr]; rfl
  have ur : IntKind.i64.wrap ((r : Nat) : Int) = ((r : Nat) : Int) := IntWalk.i64_in _ (by omega)
  have hrl : (r : Int) < (al.length : Int) := by have := (List.getElem?_eq_some_iff.1 hy).1; omega
  have HT1 := Lib.hid hT1
  have HSP := Lib.hid (fun (M' : Mm) (hle' : M1.le M') => SP.le (Mm.le_trans hle hle'))
  have HZ := Lib.hid hz
  have HB1 := Lib.hid hb1
  have HKK := Lib.hid hKK
  have HY := Lib.hid hy
  have LG := Lib.hid (epLags_any z x hz64 hx62)
  clear hT hT1 SP hb1 hn hle hnK hKK hat hT1c hlv hal hx hx62 hr hz hz64 hy
  obtain ⟨nl, hnl⟩ : ∃ nl, al.length = nl := ⟨_, rfl⟩
  rw [hnl] at AT hrl
  have HNL := Lib.hid hnl
  clear hnl
  generalize hrc : runC p t q b = rc at *
  have HRC := Lib.hid hrc
  clear hrc
  generalize hr0 : f.row = fr0 at *
  have HR0 := Lib.hid hr0
  clear hr0
  generalize K.upd b4 _ = K1 at *
  unfold yM at AT
  generalize ints .i64 14 s.c = crow at *
  go_upto_region 2 with (first
   | (with_reducible show wpList _ _ _ (⟨_, .load 70 _, _, _, _, _⟩ :: _) _ _; refine zZ h rfl 70 _ rfl rfl hb4 d3 Tryz.underlying70 rfl ?_))
  refine zN (Has σ M1) 9 (by kernel_rfl) (by kernel_rfl) (fun _ _ _ _ _ h => h) h.drew ?_
  clear h
  simp only [List.take_succ_cons, List.take_zero, List.drop_succ_cons, List.drop_zero]
  repeat (first
   | go_big_quiet_skip
   | (go_big_quiet_want; first
    | (refine zX 26 _ rfl rfl hb4 d0 Tryz.underlying26 rfl ?_; simp only [Act.put, qD, qE, qF]; go_big_quiet_on)
    | (refine zX 3 _ rfl rfl hb4 d1 Tryz.underlying3 rfl ?_; simp only [Act.put, qD, qE, qF]; go_big_quiet_on)
    | (go_big_quiet_op; first | go_big_quiet_on | go_big_quiet_call (first | with_reducible exact fun _ => rfl | with_reducible exact PL.out _ | with_reducible exact CF.out _ | with_reducible exact LV.out _))))
  refine wpQuiet_nil ?_
  try clear w
  intro w h
  clear PL CF LV
  go_upto_region 3 with (first
   | ((go_at_call 129; refine (AT.out _ h).mono ?_; clear h; rintro _ w ⟨v3, rfl, M2, h, hle2, hown⟩)))
  have hT2 := HT1.out.more hle2
  have ME := Lib.hid (fun (w : World) (h : Has σ M2 w) => yJ h hT2.mach)
  have AC := Lib.hid (fun (w : World) (h : Has σ M2 w) => epAt_eq (q := q) (b := b) h (HSP.out M2 hle2))
  rw [HRC.out] at AC
  have LD := Lib.hid (fun (w : World) (h : Has σ M2 w) => xM h hT2.mach.mem HB1.out a)
  rw [HZ.out] at LD
  have hT3 := hT2.load a
  have hmp := hT2.mach.mem.obj
  have hb2 := hT2.base.le _ _ hbK
  have hf2 := hle2 _ _ hfb
  have ne4 : b4 ≠ s.mp := Mm.ne_cells hb2 hmp (by decide)
  have nef : b ≠ s.mp := Mm.ne_cells hf2 hmp (by decide)
  have hbD := Mm.drop_of hb2 ne4
  have hfD := Mm.drop_of hf2 nef
  have hmp1 : M1 s.mp = some (.cells s.mem.cells 146) := HT1.out.mach.mem.obj
  have hrdD := hown.rd_drop hmp1
  obtain ⟨_, A3, c3, rfl, hnc3, hA3⟩ := hrdD
  obtain ⟨g3, o3, cs3, t3, z3, rfl, hg3, hx3⟩ := hA3 (by omega)
  have gy : cs3[o3 + r]? = some (.int .i64 (y : Nat)) := hx3 r _ (by simp [natv, HY.out])
  have KD : (M2.drop s.mp).le M2 := Mm.drop_le _ _
  have KE : (M2.drop s.mp).le (M2.upd s.mp (.cells (s.mem.at_ a).cells 146)) := Mm.drop_upd KD _
  have HT3 := Lib.hid hT3
  clear hT2 hT3 hown HT1 HSP HZ HB1 HY HRC hle2 AT hmp hb2 ne4 nef hmp1 hx3 hA3
  generalize M2.drop s.mp = MD at *
  generalize hM3 : M2.upd s.mp _ = M3 at *
  go_upto_region 12 with (first
   | (with_reducible show wpList _ _ _ (⟨_, .load 3 _, _, _, _, _⟩ :: _) _ _; refine zZ h rfl 3 _ rfl rfl hf2 f1 Tryz.underlying3 rfl ?_))
  clear hf2
  refine wp_region_held_drew (S := Has σ (MD)) (by kernel_rfl) (h.drew.le KD) (fun hHeld => ?_)
  refine tkB 0 ?_
  try simp only [qA, qB, qC, Act.put, qD, qE, qF]
  refine tkA 1 rfl hHeld (zU rfl 26 _ rfl rfl hbD d0 Tryz.underlying26 rfl) ?_
  try simp only [qA, qB, qC, Act.put, qD, qE, qF]
  refine tkA 3 rfl hHeld (yZ rfl 170 _ rfl rfl hbD dx dz Tryz.underlying170 rfl (by kernel_rfl)) ?_
  try simp only [qA, qB, qC, Act.put, qD, qE, qF]
  refine tkB 4 ?_
  refine tkB 5 ?_
  refine tkB 6 ?_
  refine tkB 7 ?_
  refine tkB 8 ?_
  try simp only [qA, qB, qC, Act.put, qD, qE, qF]
  refine tkA 9 rfl hHeld (zU rfl 42 _ rfl rfl hfD f3 Tryz.underlying42 rfl) ?_
  try simp only [qA, qB, qC, Act.put, qD, qE, qF]
  refine tkB 10 ?_
  refine tkB 11 ?_
  try simp only [qA, qB, qC, Act.put, qD, qE, qF]
  refine tkA 12 rfl hHeld (zU rfl 3 _ rfl rfl hg3 gy Tryz.underlying3 rfl) ?_
  try simp only [qA, qB, qC, Act.put, qD, qE, qF]
  refine tkB 15 ?_
  refine tkB 16 ?_
  refine tkB 17 ?_
  refine tkB 18 ?_
  try simp only [qA, qB, qC, Act.put, qD, qE, qF]
  refine tkA 19 rfl hHeld (zU rfl 42 _ rfl rfl hfD f2 Tryz.underlying42 rfl) ?_
  try simp only [qA, qB, qC, Act.put, qD, qE, qF]
  replace h := h.drew
  generalize w.drew = w1 at h hHeld ⊢
  clear w
  obtain ⟨w, rfl⟩ : ∃ q : World, q = w1 := ⟨_, rfl⟩
  refine op1 2 rfl fun K hK => ?_
  (go_simp; go_wp2_with (go_at_call 46; refine (ME.out _ h).mono ?_; clear h; rintro _ w ⟨rfl, h⟩))
  refine hK.out _ _ (h.le KD) (fun hHeld => ?_)
  clear hK K
  try simp only [Act.put, qD, qE, qF]
  refine op1 13 rfl fun K hK => ?_
  (go_simp; go_wp2_with (go_at_call 127; refine (AC.out _ h).mono ?_; clear h; rintro _ w ⟨rfl, h⟩))
  refine hK.out _ _ (h.le KD) (fun hHeld => ?_)
  clear hK K
  try simp only [Act.put, qD, qE, qF]
  refine op1 14 rfl fun K hK => ?_
  (go_simp; go_wp2_with (go_at_call 94; refine (LD.out _ h).mono ?_; clear h; rintro _ w ⟨rfl, h⟩))
  refine hK.out _ _ (h.le KE) (fun hHeld => ?_)
  clear hK K
  try simp only [Act.put, qD, qE, qF]
  refine op1 20 rfl fun K hK => ?_
  (go_simp; go_wp2_with (go_at_call 130; refine (LG.out _).mono ?_; rintro _ w' ⟨rfl, rfl⟩))
  refine hK.out _ _ (h.le KE) (fun hHeld => ?_)
  clear hK K
  try simp only [Act.put, qD, qE, qF]
  refine wpAnyH_done (by kernel_rfl) ?_ _
  clear hHeld ME AC LD LG
  have hfb3 := KE _ _ hfD
  have hb43 := KE _ _ hbD
  clear hbD hfD hg3 KD hfb hb4
  rw [HL.out]
 ·have BK := Lib.hid (fun (M2 : Mm) (w : World) (bl : Nat) (h : Has σ M2 w) (hle : M3.le M2) (hn : M3 bl = none) (hbl : M2 bl = some (.cells #[.int .u64 0] 42)) => oN h HT3.out hle hn hbl HF.out)
  clear KE HT3 hfb3
  go_wp2_with (first
   | (with_reducible show wpList _ _ _ (⟨_, .load 38 _, _, _, _, _⟩ :: _) _ _; refine zZ h rfl 38 _ rfl rfl hb43 d2 Tryz.underlying38 rfl ?_))
  obtain ⟨M4, hbx, hle4, hbl, hnl⟩ := h.box (.cells #[.int .u64 0] 42)
  generalize w.alloc _ = wx at hbx ⊢
  generalize w.heap.size = bl at hbl hnl ⊢
  clear h
  try clear w
  have h := hbx
  clear hbx
  obtain ⟨w, rfl⟩ : ∃ x : World, x = wx := ⟨_, rfl⟩
  go_wp2_with (first
   | ((go_at_call 93; refine (BK.out M4 _ bl h hle4 hnl hbl).mono ?_; clear h; rintro _ w ⟨rfl, M5, lab5, h, hM5, hB5⟩)))
  exact bodyPost_ret (results_none rfl _ _ _) rfl ⟨rfl, M5, lab5, h, hM5, fun c o hc => hB5 c o (HKK.out _ _ hc)⟩
 all_goals
  obtain ⟨hfb4, hT4⟩ := HT3.out.frame (f.reg 1 (r + 1 : Nat))
  rw [HR0.out] at hfb4
  have hsz : 3 < fr0.size := by rw [← HR0.out]; show 3 < 18; omega
  have R1 := Lib.hid (row_regv f (r + 1 : Nat))
  rw [HR0.out] at R1
  have w1 : IntKind.u64.wrap ((r : Int) + 1) = ((r + 1 : Nat) : Int) := by rw [show (r : Int) + 1 = ((r + 1 : Nat) : Int) by omega]; exact IntWalk.u64_in _ (by omega)
  have w2 : IntKind.i64.wrap ((r + 1 : Nat) : Int) = ((r + 1 : Nat) : Int) := IntWalk.i64_in _ (by omega)
  have w3 : IntKind.i64.wrap ((r : Int) + 1) = ((r + 1 : Nat) : Int) := by rw [show (r : Int) + 1 = ((r + 1 : Nat) : Int) by omega]; exact w2
  have g3 : (f.reg 1 (r + 1 : Nat)).row[3]? = some (.int .u64 (r + 1 : Nat)) := rfl
  have hfb5 := Mm.upd_same M3 b (.cells (f.reg 1 (r + 1 : Nat)).row 69)
 ·have HT := Lib.hid (hT4.less HKK.out)
  have gn : (((r + 1 : Nat) : Int) == (nl : Int)) = false := beq_eq_false_iff_ne.2 (by have := HN.out; have := HNL.out; omega)
  have gn2 : ¬ ((r + 1 : Nat) : Int) = (nl : Int) := by have := HN.out; have := HNL.out; omega
  have gn3 : ¬ (r : Int) + 1 = (nl : Int) := by have := HN.out; have := HNL.out; omega
  have gn4 : ¬ r + 1 = nl := by have := HN.out; have := HNL.out; omega
  clear hT4 HT3 KE hb43
  generalize hr1 : (f.reg 1 (r + 1 : Nat)).row = fr1 at *
  clear hr1
  go_upto_region 14 with (fail)
  refine zN (Has σ M3) 9 (by kernel_rfl) (by kernel_rfl) (fun _ _ _ _ _ h => h) h.drew ?_
  clear h
  simp only [List.take_succ_cons, List.take_zero, List.drop_succ_cons, List.drop_zero]
  repeat (first
   | go_big_quiet_skip
   | (go_big_quiet_want; first
    | (refine zX 42 _ rfl rfl hfb3 f3 Tryz.underlying42 rfl ?_; simp only [Act.put, qD, qE, qF]; go_big_quiet_on)
    | (go_big_quiet_op; first | go_big_quiet_on | go_big_quiet_call (first | with_reducible exact fun _ => rfl))))
  refine wpQuiet_nil ?_
  try clear w
  intro w h
  go_upto_region 15 with (first
   | (with_reducible show wpList _ _ _ (⟨_, .store 42 _ _, _, _, _, _⟩ :: _) _ _; refine zV h rfl 42 _ _ rfl rfl rfl hfb3 hsz rfl (by kernel_rfl) ?_; clear h; intro w h))
  have h0 : Has σ (M3.upd b (.cells (fr0.setIfInBounds 3 (.int .u64 (r + 1 : Nat))) 69)) w := h
  rw [R1.out] at h0
  clear h
  have h := h0
  clear h0
  generalize M3.upd b _ = M4 at *
  go_wp2_with (first
   | (with_reducible show wpList _ _ _ (⟨_, .load 42 _, _, _, _, _⟩ :: _) _ _; refine zZ h rfl 42 _ rfl rfl hfb5 g3 Tryz.underlying42 rfl ?_))
  go_end0
  exact ⟨rfl, _, _, h, HT.out⟩
 obtain ⟨hfb6, hT6⟩ := hT4.frame ((f.reg 1 (r + 1 : Nat)).goto 2)
 rw [MachS.top_top, Mm.upd_upd] at hT6
 have HT := Lib.hid (hT6.less HKK.out)
 have R2 := Lib.hid (xZ (f.reg 1 (r + 1 : Nat)) 2)
 have hsz3 : 1 < (f.reg 1 (r + 1 : Nat)).row.size := show 1 < 18 by omega
 have gn0 : nl = r + 1 := by have := HN.out; have := HNL.out; omega
 subst gn0
 clear hT4 hT6 HT3 KE hb43
 generalize hr1 : (f.reg 1 (r + 1 : Nat)).row = fr1 at *
 clear hr1
 go_upto_region 14 with (fail)
 refine zN (Has σ M3) 9 (by kernel_rfl) (by kernel_rfl) (fun _ _ _ _ _ h => h) h.drew ?_
 clear h
 simp only [List.take_succ_cons, List.take_zero, List.drop_succ_cons, List.drop_zero]
 repeat (first
  | go_big_quiet_skip
  | (go_big_quiet_want; first
   | (refine zX 42 _ rfl rfl hfb3 f3 Tryz.underlying42 rfl ?_; simp only [Act.put, qD, qE, qF]; go_big_quiet_on)
   | (go_big_quiet_op; first | go_big_quiet_on | go_big_quiet_call (first | with_reducible exact fun _ => rfl))))
 refine wpQuiet_nil ?_
 try clear w
 intro w h
 go_upto_region 15 with (first
  | (with_reducible show wpList _ _ _ (⟨_, .store 42 _ _, _, _, _, _⟩ :: _) _ _; refine zV h rfl 42 _ _ rfl rfl rfl hfb3 hsz rfl (by kernel_rfl) ?_; clear h; intro w h))
 have h0 : Has σ (M3.upd b (.cells (fr0.setIfInBounds 3 (.int .u64 (r + 1 : Nat))) 69)) w := h
 rw [R1.out] at h0
 clear h
 have h := h0
 clear h0
 generalize hM4 : M3.upd b (.cells fr1 69) = M4 at h hfb5 hfb6
 go_wp2_with (first
  | (with_reducible show wpList _ _ _ (⟨_, .load 42 _, _, _, _, _⟩ :: _) _ _; refine zZ h rfl 42 _ rfl rfl hfb5 g3 Tryz.underlying42 rfl ?_)
  | (with_reducible show wpList _ _ _ (⟨_, .store 3 _ _, _, _, _, _⟩ :: _) _ _; refine zV h rfl 3 _ _ rfl rfl rfl hfb5 hsz3 rfl (by kernel_rfl) ?_; clear h; intro w h))
 go_end0
 refine ⟨rfl, _, _, ?_, HT.out⟩
 have h0 : Has σ (M3.upd b (.cells (fr1.setIfInBounds 1 (.int .i64 2)) 69)) w := by rw [← hM4, Mm.upd_upd] at h; exact h
 rw [R2.out] at h0
 exact h0
theorem adv_2 {σ w : World} {K M : Mm} {lab : Nat → Nat} {p t q b : Nat} {s : MachS} {fs : List FrameS} {f : FrameS} (h : Has σ M w) (hT : AtTop K M lab p s t q b fs f) (hat : f.at_ = 2) {lv : Nat} (hlv : zT s.c (t : Nat) = (lv : Nat)) {T : Nat} (hT1c : s.c 1 = (T : Nat)) {x : Nat} (hx : f.r 0 = (x : Int)) (hx62 : x < 4611686018427387904) {a : Int} (SP : SpotAt σ M p t 1 0 0 a) (hb1 : s.mem.acc < 1000000000) (hb2 : s.mem.wr < 1000000000) (hfs : fs.length < 1000000) :
  Calls Tryz.prog 104 #[.agg (runC p t q b)] w fun r w' => r = .returned (.tuple #[]) ∧ ∃ M' lab', Has σ M' w' ∧ Mach M' lab' p (MachS.backed { s with mem := s.mem.cas a (x : Nat) (x + 1 : Nat) } t [if s.mem.swaps a (x : Nat) then 1 else 0]) ∧ Base K M' lab' := by
 obtain ⟨sw, hsw⟩ : ∃ sw : Bool, s.mem.swaps a (x : Nat) = sw := ⟨_, rfl⟩
 rw [hsw]
 obtain ⟨tv, htv⟩ : ∃ tv : Int, (if sw = true then (1 : Int) else 0) = tv := ⟨_, rfl⟩
 rw [htv]
 have HTV := Lib.hid htv
 clear htv
 have HSW := Lib.hid hsw
 clear hsw
 obtain ⟨d0, d1, d2, d3, dx, dz⟩ := runD p t q b
 have f1 : f.row[1]? = some (.int .i64 2) := by rw [← hat]; rfl
 go_enter Tryz.func104, Tryz.ntmps104
 go_upto_region 1 with (fail)
 obtain ⟨M1, hbx, hle, hb4, hn⟩ := h.box (.cells (runC p t q b) 170)
 generalize w.alloc _ = wx at hbx ⊢
 generalize w.heap.size = b4 at hb4 hn ⊢
 clear h
 try clear w
 have h := hbx
 clear hbx
 obtain ⟨w, rfl⟩ : ∃ x : World, x = wx := ⟨_, rfl⟩
 obtain ⟨lab1, hT1⟩ := hT.more1 hle hn hb4
 have hnK : K b4 = none := by
  cases e : K b4 with
  | none => rfl
  | some o => have := (hT.base _ _ e).1; rw [hn] at this; cases this
 have hKK : K.le (K.upd b4 (.cells (runC p t q b) 170)) := Mm.le_upd' hnK _
 have hbK : (K.upd b4 (.cells (runC p t q b) 170)) b4 = some (.cells (runC p t q b) 170) := Mm.upd_same _ _ _
 have hfb := hT1.obj
 have PL := Lib.hid (fun (w : World) (h : Has σ M1 w) => wU h hT1.mach)
 have CF := Lib.hid (fun (w : World) (h : Has σ M1 w) => wR h s.c hT1.mach.plan)
 have LV : Hid (∀ w : World, Has σ M1 w → Calls Tryz.prog 12 #[.pointer (some ⟨p, 0, none⟩), .int .i64 (t : Nat)] w fun r w' => r = .returned (.int .i64 (lv : Nat)) ∧ Has σ M1 w') := Lib.hid fun w h => (vV h hT1.mach t).mono fun r w' ⟨e, h'⟩ => ⟨e.trans (congrArg (fun z => Ending.returned (Value.int .i64 z)) hlv), h'⟩
 have AT := Lib.hid (fun (w : World) (h : Has σ M1 w) => nZ h s.c (decide_eq_true hT.mach.may) hT1c lv)
 have f2 : f.row[2]? = some (.int .u64 (x : Nat)) := by rw [← hx]; rfl
 have wx : IntKind.u64.wrap ((x : Int) + 1) = ((x + 1 : Nat) : Int) := by rw [show (x : Int) + 1 = ((x + 1 : Nat) : Int) by omega]; exact IntWalk.u64_in _ (by omega)
 have HT1 := Lib.hid hT1
 have HSP := Lib.hid (fun (M' : Mm) (hle' : M1.le M') => SP.le (Mm.le_trans hle hle'))
 have HB := Lib.hid (⟨hb1, hb2⟩ : s.mem.acc < 1000000000 ∧ s.mem.wr < 1000000000)
 have HKK := Lib.hid hKK
 have HF := Lib.hid hfs
 clear hT hT1 SP hb1 hb2 hn hle hnK hKK hat hT1c hlv hx hx62 hfs
 generalize hrc : runC p t q b = rc at *
 have HRC := Lib.hid hrc
 clear hrc
 generalize f.row = fr0 at *
 generalize K.upd b4 _ = K1 at *
 unfold yM at AT
 generalize ints .i64 14 s.c = crow at *
 go_upto_region 2 with (first
  | (with_reducible show wpList _ _ _ (⟨_, .load 70 _, _, _, _, _⟩ :: _) _ _; refine zZ h rfl 70 _ rfl rfl hb4 d3 Tryz.underlying70 rfl ?_))
 refine zN (Has σ M1) 9 (by kernel_rfl) (by kernel_rfl) (fun _ _ _ _ _ h => h) h.drew ?_
 clear h
 simp only [List.take_succ_cons, List.take_zero, List.drop_succ_cons, List.drop_zero]
 repeat (first
  | go_big_quiet_skip
  | (go_big_quiet_want; first
   | (refine zX 26 _ rfl rfl hb4 d0 Tryz.underlying26 rfl ?_; simp only [Act.put, qD, qE, qF]; go_big_quiet_on)
   | (refine zX 3 _ rfl rfl hb4 d1 Tryz.underlying3 rfl ?_; simp only [Act.put, qD, qE, qF]; go_big_quiet_on)
   | (go_big_quiet_op; first | go_big_quiet_on | go_big_quiet_call (first | with_reducible exact fun _ => rfl | with_reducible exact PL.out _ | with_reducible exact CF.out _ | with_reducible exact LV.out _))))
 refine wpQuiet_nil ?_
 try clear w
 intro w h
 clear PL CF LV
 go_upto_region 3 with (first
  | ((go_at_call 129; refine (AT.out _ h).mono ?_; clear h; rintro _ w ⟨v3, rfl, M2, h, hle2, hown⟩)))
 have hT2 := HT1.out.more hle2
 have ME := Lib.hid (fun (w : World) (h : Has σ M2 w) => yJ h hT2.mach)
 have EP := Lib.hid (fun (w : World) (h : Has σ M2 w) => lH (q := q) (b := b) h (HSP.out M2 hle2))
 rw [HRC.out] at EP
 have CS := Lib.hid (fun (w : World) (h : Has σ M2 w) => oG h hT2.mach.mem HB.out.1 HB.out.2 a (x : Nat) (x + 1 : Nat))
 have hT3 := hT2.cas a (x : Nat) (x + 1 : Nat)
 have hb2 := hT2.base.le _ _ hbK
 have hf2 := hle2 _ _ hfb
 have hb43 := hT3.base.le _ _ hbK
 obtain ⟨A3, c3, rfl⟩ := hown.form
 have BK := Lib.hid (fun (v : Int) (M2' : Mm) (w : World) (bl : Nat) (h : Has σ M2' w) (hle : (casM M2 s.mp s.mem a (x : Nat) (x + 1 : Nat)).le M2') (hn : (casM M2 s.mp s.mem a (x : Nat) (x + 1 : Nat)) bl = none) (hbl : M2' bl = some (.cells #[.int .u64 v] 42)) => oN h hT3 hle hn hbl HF.out)
 clear hT2 hT3 hown HT1 HSP HB HRC hle2 AT hfb hb4 HF
 generalize casM M2 s.mp s.mem a _ _ = M3 at *
 rw [HSW.out] at CS
 clear HSW
 go_upto_region 5 with (first
  | (with_reducible show wpList _ _ _ (⟨_, .load 3 _, _, _, _, _⟩ :: _) _ _; refine zZ h rfl 3 _ rfl rfl hf2 f1 Tryz.underlying3 rfl ?_))
 refine zN (Has σ M2) 16 (by kernel_rfl) (by kernel_rfl) (fun _ _ _ _ _ h => h) h.drew ?_
 clear h
 simp only [List.take_succ_cons, List.take_zero, List.drop_succ_cons, List.drop_zero]
 repeat (first
  | go_big_quiet_skip
  | (go_big_quiet_want; first
   | (refine zX 26 _ rfl rfl hb2 d0 Tryz.underlying26 rfl ?_; simp only [Act.put, qD, qE, qF]; go_big_quiet_on)
   | (refine zL 170 _ rfl rfl hb2 dx dz Tryz.underlying170 rfl (by kernel_rfl) ?_; simp only [Act.put, qD, qE, qF]; go_big_quiet_on)
   | (refine zX 42 _ rfl rfl hf2 f2 Tryz.underlying42 rfl ?_; simp only [Act.put, qD, qE, qF]; go_big_quiet_on)
   | (go_big_quiet_op; first | go_big_quiet_on | go_big_quiet_call (first | with_reducible exact fun _ => rfl | with_reducible exact ME.out _ | with_reducible exact EP.out _))))
 refine wpQuiet_nil ?_
 try clear w
 intro w h
 clear hf2 hb2
 cases sw
 ·skip
  go_wp2_with (first
   | (go_at_call 121; refine (CS.out _ h).mono ?_; clear h; rintro _ w ⟨rfl, h⟩)
   | (with_reducible show wpList _ _ _ (⟨_, .load 38 _, _, _, _, _⟩ :: _) _ _; refine zZ h rfl 38 _ rfl rfl hb43 d2 Tryz.underlying38 rfl ?_))
  obtain ⟨M4, hbx, hle4, hbl, hnl⟩ := h.box (.cells #[.int .u64 0] 42)
  generalize w.alloc _ = wx at hbx ⊢
  generalize w.heap.size = bl at hbl hnl ⊢
  clear h
  try clear w
  have h := hbx
  clear hbx
  obtain ⟨w, rfl⟩ : ∃ x : World, x = wx := ⟨_, rfl⟩
  go_wp2_with (first
   | ((go_at_call 93; refine (BK.out 0 M4 _ bl h hle4 hnl hbl).mono ?_; clear h; rintro _ w ⟨rfl, M5, lab5, h, hM5, hB5⟩)))
  go_end0
  exact ⟨rfl, M5, lab5, h, by rw [show tv = 0 from HTV.out.symm]; exact hM5, fun c o hc => hB5 c o (HKK.out _ _ hc)⟩
 skip
 go_wp2_with (first
  | (go_at_call 121; refine (CS.out _ h).mono ?_; clear h; rintro _ w ⟨rfl, h⟩)
  | (with_reducible show wpList _ _ _ (⟨_, .load 38 _, _, _, _, _⟩ :: _) _ _; refine zZ h rfl 38 _ rfl rfl hb43 d2 Tryz.underlying38 rfl ?_))
 obtain ⟨M4, hbx, hle4, hbl, hnl⟩ := h.box (.cells #[.int .u64 1] 42)
 generalize w.alloc _ = wx at hbx ⊢
 generalize w.heap.size = bl at hbl hnl ⊢
 clear h
 try clear w
 have h := hbx
 clear hbx
 obtain ⟨w, rfl⟩ : ∃ x : World, x = wx := ⟨_, rfl⟩
 go_wp2_with (first
  | ((go_at_call 93; refine (BK.out 1 M4 _ bl h hle4 hnl hbl).mono ?_; clear h; rintro _ w ⟨rfl, M5, lab5, h, hM5, hB5⟩)))
 go_end0
 exact ⟨rfl, M5, lab5, h, by rw [show tv = 1 from HTV.out.symm]; exact hM5, fun c o hc => hB5 c o (HKK.out _ _ hc)⟩
end
section
open Go.RowKit
theorem rA {σ w : World} {K M : Mm} {lab : Nat → Nat} {p t q b : Nat} {s : MachS} {fs : List FrameS} {f : FrameS} (h : Has σ M w) (hT : AtTop K M lab p s t q b fs f) (hfn : f.fn = 12) (hfs : fs.length < 1000000) {R : MachS → Prop} (hstep : ∀ (K1 M1 : Mm) (lab1 : Nat → Nat) (w1 : World), Has σ M1 w1 → AtTop K1 M1 lab1 p s t q b fs f → Calls Tryz.prog 104 #[.agg (runC p t q b)] w1 fun r w' => r = .returned (.tuple #[]) ∧ ∃ M' lab' s', Has σ M' w' ∧ Mach M' lab' p s' ∧ Base K1 M' lab' ∧ R s') : Calls Tryz.prog 63 #[.pointer (some ⟨p, 0, none⟩), .int .i64 (t : Nat)] w fun r w' => r = .returned (.tuple #[]) ∧ ∃ M' lab' s', Has σ M' w' ∧ Base K M' lab' ∧ Mach M' lab' p s' ∧ R s' := by
 obtain ⟨fv, hv, fbs, hTh⟩ := hT.thr
 have hlen : fbs.length = fs.length := by
  have h1 := hTh.flen
  rw [hT.fr] at h1
  simpa using h1
 have TH := Lib.hid (fun (w : World) (h : Has σ M w) => yT h hT.mach hT.tp)
 have TP := Lib.hid (fun (w : World) (h : Has σ M w) => xI h hTh (by omega))
 have hfb := hT.obj
 have f0 : f.row[0]? = some (.int .i64 f.fn) := rfl
 have HT := Lib.hid hT
 have HS := Lib.hid hstep
 rw [hfn] at f0
 clear hT hTh hlen hfs hfn hstep
 generalize f.row = fr0 at *
 go_enter Tryz.func63, Tryz.ntmps63
 go_upto_region 3 with (first
  | (go_at_call 13; refine (TH.out _ h).mono ?_; clear h; rintro _ w ⟨rfl, h⟩)
  | (go_at_call 32; refine (TP.out _ h).mono ?_; clear h; rintro _ w ⟨rfl, h⟩)
  | ((with_reducible show wpList _ _ _ (⟨_, .alloc 170, _, _, _, _⟩ :: _) _ _); refine zK h rfl 170 rfl _ ep_zrun ?_; clear h; intro bx w h hnx; try simp only [Act.put, qD, qE, qF])
  | ((with_reducible show wpList _ _ _ (⟨_, .store 170 _ _, _, _, _, _⟩ :: _) _ _); refine zP (cells := runC p t q b) h rfl 170 _ _ rfl rfl rfl (Mm.upd_same _ _ _) rfl rfl rfl (by kernel_rfl) rfl ?_; clear h; intro w h))
 rw [Mm.upd_upd] at h
 have hfb1 := Mm.upd_of (o := .cells (runC p t q b) 170) hnx hfb
 have hle := Mm.le_upd' hnx (.cells (runC p t q b) 170)
 have hbx := Mm.upd_same M bx (.cells (runC p t q b) 170)
 generalize M.upd bx _ = M1 at h hfb1 hle hbx
 obtain ⟨lab1, hT1⟩ := HT.out.more1 hle hnx hbx
 have hnK : K bx = none := by
  cases e : K bx with
  | none => rfl
  | some o => have := (HT.out.base _ _ e).1; rw [hnx] at this; cases this
 have HKK := Lib.hid (Mm.le_upd' hnK (.cells (runC p t q b) 170))
 have ST := Lib.hid (fun (w : World) (h : Has σ M1 w) => HS.out _ M1 lab1 w h hT1)
 clear hT1 hnK hnx hle TH TP
 unfold runC at ST hbx
 have dx : (#[.pointer (some ⟨p, 0, none⟩), .int .i64 (t : Nat), .pointer (some ⟨q, 0, none⟩), .pointer (some ⟨b, 0, none⟩)] : Array Value).extract 0 (0 + 4) = #[.pointer (some ⟨p, 0, none⟩), .int .i64 (t : Nat), .pointer (some ⟨q, 0, none⟩), .pointer (some ⟨b, 0, none⟩)] := rfl
 go_wp2_with (first
  | (with_reducible show wpList _ _ _ (⟨_, .load 3 _, _, _, _, _⟩ :: _) _ _; refine zZ h rfl 3 _ rfl rfl hfb1 f0 Tryz.underlying3 rfl ?_)
  | ((with_reducible show wpList _ _ _ (⟨_, .load 170 _, _, _, _, _⟩ :: _) _ _); refine zR h rfl 170 _ rfl rfl hbx dx rfl Tryz.underlying170 rfl (by kernel_rfl) ?_; try simp only [Act.put, qD, qE, qF])
  | (go_at_call 104; refine (ST.out _ h).mono ?_; clear h; rintro _ w ⟨rfl, M2, lab2, s2, h, hM2, hB2, hR2⟩))
 go_end0
 exact ⟨rfl, M2, lab2, s2, h, fun c o hc => hB2 c o (HKK.out _ _ hc), hM2, hR2⟩
theorem does_adv0 {σ : World} {p t q l n : Nat} {c : Nat → Int} {tp : List Nat} {g : GM} {fs : List Fr} {F : Fr} (hn : n < 100000) (ht : (t : Int) < c 1) (hq : tp[t]? = some q) (hl : zT c t = (l : Nat)) (hlc : (l : Int) < c 0) (hthr : g.thr t = fs ++ [F]) (hfs : fs.length < 100000) {T : Nat} (hT1c : c 1 = (T : Nat)) (h1 : F.fn = 12) (hp : F.pc = 0) : zG 63 σ p t c tp n l g (g.top t fs ((F.reg 0 (g.w l 1)).goto 1)) := by
 intro K s M lab w h hM hB hA
 obtain ⟨b, hT⟩ := hA.atTop hM hB ht hq hthr
 obtain rfl := hA.cc
 have hmay := hA.may
 have b1 : (s.tick l).mem.acc < 1000000000 := by show s.mem.acc < _; have := hA.acc; omega
 have b2 : (s.tick l).mem.wr < 1000000000 := by show s.mem.wr < _; have := hA.wr; omega
 have hl' : zT (s.tick l).c (t : Nat) = (l : Nat) := hl
 have hlc' : (l : Int) < (s.tick l).c 0 := hlc
 have hfs' : (fs.map Fr.enc).length < 1000000 := by rw [List.length_map]; omega
 have gl : s.given.length ≤ n + 1 := Nat.le_succ_of_le hA.given
 have hk := sP s.c
 have hit := yS hmay hA.memN hlc hk
 have hv : s.mem.load (atK s.c (l : Nat) 1 0 0) = (g.w l 1 : Int) := yL hit (by rw [hA.words.at hmay hlc hk, uN])
 refine (rA h hT (by show (F.fn : Int) = 12; omega) hfs' (R := fun s' => Did s.c n l s s' (g.top t fs ((F.reg 0 (g.w l 1)).goto 1))) fun K1 M1 lab1 w1 h1' hT1 => ?_).mono fun r w' ⟨e, M', lab', s', a1, a2, a3, a4⟩ => ⟨e, M', lab', s', a1, a3, a2, a4⟩
 refine (adv_0 h1' hT1 (by show (F.pc : Int) = 0; omega) hl' hT1c (zD hT1.mach hl' hlc' hk) b1).mono fun r w' ⟨e, M', lab', h', hT'⟩ => ⟨e, M', lab', _, h', hT'.mach, hT'.base, ?_⟩
 refine Did.one hA hk (Nat.zero_le _) ⟨rfl, rfl, rfl, rfl, rfl⟩ (vH hit) hA.words (hA.ward.mono (Nat.le_succ _)) ?_ gl
 have := hA.thr.top (t := t) (fs := fs) (F := (F.reg 0 (g.w l 1)).goto 1)
 rw [← wC, ← wJ, ← hv] at this
 exact this
theorem does_on {σ : World} {p t q l n : Nat} {c : Nat → Int} {tp : List Nat} {g : GM} {fs : List Fr} {F : Fr} (hn : n < 100000) (ht : (t : Int) < c 1) (hq : tp[t]? = some q) (hl : zT c t = (l : Nat)) (hlc : (l : Int) < c 0) (hthr : g.thr t = fs ++ [F]) (hfs : fs.length < 100000) {T : Nat} (hT1c : c 1 = (T : Nat)) (h1 : F.fn = 12) (hp : F.pc = 1) {y : Nat} (hy : (atC c T l)[F.r 1]? = some y) (hr8 : F.r 1 < 8) (hr : F.r 0 < 4611686018427387904) (hz : g.w l (10 + y) < 18446744073709551616) (hlag : rU (g.w l (10 + y)) (F.r 0) = false) (hne : F.r 1 + 1 ≠ (atC c T l).length) : zG 63 σ p t c tp n l g (g.top t fs (F.reg 1 (F.r 1 + 1))) := by
 intro K s M lab w h hM hB hA
 obtain ⟨b, hT⟩ := hA.atTop hM hB ht hq hthr
 obtain rfl := hA.cc
 have hmay := hA.may
 have b1 : (s.tick l).mem.acc < 1000000000 := by show s.mem.acc < _; have := hA.acc; omega
 have b2 : (s.tick l).mem.wr < 1000000000 := by show s.mem.wr < _; have := hA.wr; omega
 have hl' : zT (s.tick l).c (t : Nat) = (l : Nat) := hl
 have hlc' : (l : Int) < (s.tick l).c 0 := hlc
 have hfs' : (fs.map Fr.enc).length < 1000000 := by rw [List.length_map]; omega
 have gl : s.given.length ≤ n + 1 := Nat.le_succ_of_le hA.given
 have y8 : y < 8 := by
  have hm := List.mem_of_getElem? hy
  have := List.mem_range.1 (List.mem_filter.1 hm).1
  have := hmay.2.1
  omega
 have hk := lN s.c y8
 have hit := yS hmay hA.memN hlc hk
 have hv : s.mem.load (atK s.c (l : Nat) 6 (y : Nat) 0) = (g.w l (10 + y) : Int) := yL hit (by rw [hA.words.at hmay hlc hk, mG])
 refine (rA h hT (by show (F.fn : Int) = 12; omega) hfs' (R := fun s' => Did s.c n l s s' (g.top t fs (F.reg 1 (F.r 1 + 1)))) fun K1 M1 lab1 w1 h1' hT1 => ?_).mono fun r w' ⟨e, M', lab', s', a1, a2, a3, a4⟩ => ⟨e, M', lab', s', a1, a3, a2, a4⟩
 refine ((adv_1 h1' hT1 (by show (F.pc : Int) = 1; omega) hl' hT1c rfl (x := F.r 0) (r := F.r 1) (y := y) rfl hr rfl hr8 hy (zD hT1.mach hl' hlc' hk) hv hz b1 hfs').2.1 hlag hne).mono fun r w' ⟨e, M', lab', h', hT'⟩ => ⟨e, M', lab', _, h', hT'.mach, hT'.base, ?_⟩
 refine Did.one hA hk (Nat.zero_le _) ⟨rfl, rfl, rfl, rfl, rfl⟩ (vH hit) hA.words (hA.ward.mono (Nat.le_succ _)) ?_ gl
 have := hA.thr.top (t := t) (fs := fs) (F := F.reg 1 (F.r 1 + 1))
 rw [← wJ] at this
 exact this
theorem does_last {σ : World} {p t q l n : Nat} {c : Nat → Int} {tp : List Nat} {g : GM} {fs : List Fr} {F : Fr} (hn : n < 100000) (ht : (t : Int) < c 1) (hq : tp[t]? = some q) (hl : zT c t = (l : Nat)) (hlc : (l : Int) < c 0) (hthr : g.thr t = fs ++ [F]) (hfs : fs.length < 100000) {T : Nat} (hT1c : c 1 = (T : Nat)) (h1 : F.fn = 12) (hp : F.pc = 1) {y : Nat} (hy : (atC c T l)[F.r 1]? = some y) (hr8 : F.r 1 < 8) (hr : F.r 0 < 4611686018427387904) (hz : g.w l (10 + y) < 18446744073709551616) (hlag : rU (g.w l (10 + y)) (F.r 0) = false) (hne : F.r 1 + 1 = (atC c T l).length) : zG 63 σ p t c tp n l g (g.top t fs ((F.reg 1 (F.r 1 + 1)).goto 2)) := by
 intro K s M lab w h hM hB hA
 obtain ⟨b, hT⟩ := hA.atTop hM hB ht hq hthr
 obtain rfl := hA.cc
 have hmay := hA.may
 have b1 : (s.tick l).mem.acc < 1000000000 := by show s.mem.acc < _; have := hA.acc; omega
 have b2 : (s.tick l).mem.wr < 1000000000 := by show s.mem.wr < _; have := hA.wr; omega
 have hl' : zT (s.tick l).c (t : Nat) = (l : Nat) := hl
 have hlc' : (l : Int) < (s.tick l).c 0 := hlc
 have hfs' : (fs.map Fr.enc).length < 1000000 := by rw [List.length_map]; omega
 have gl : s.given.length ≤ n + 1 := Nat.le_succ_of_le hA.given
 have y8 : y < 8 := by
  have hm := List.mem_of_getElem? hy
  have := List.mem_range.1 (List.mem_filter.1 hm).1
  have := hmay.2.1
  omega
 have hk := lN s.c y8
 have hit := yS hmay hA.memN hlc hk
 have hv : s.mem.load (atK s.c (l : Nat) 6 (y : Nat) 0) = (g.w l (10 + y) : Int) := yL hit (by rw [hA.words.at hmay hlc hk, mG])
 refine (rA h hT (by show (F.fn : Int) = 12; omega) hfs' (R := fun s' => Did s.c n l s s' (g.top t fs ((F.reg 1 (F.r 1 + 1)).goto 2))) fun K1 M1 lab1 w1 h1' hT1 => ?_).mono fun r w' ⟨e, M', lab', s', a1, a2, a3, a4⟩ => ⟨e, M', lab', s', a1, a3, a2, a4⟩
 refine ((adv_1 h1' hT1 (by show (F.pc : Int) = 1; omega) hl' hT1c rfl (x := F.r 0) (r := F.r 1) (y := y) rfl hr rfl hr8 hy (zD hT1.mach hl' hlc' hk) hv hz b1 hfs').2.2 hlag hne).mono fun r w' ⟨e, M', lab', h', hT'⟩ => ⟨e, M', lab', _, h', hT'.mach, hT'.base, ?_⟩
 refine Did.one hA hk (Nat.zero_le _) ⟨rfl, rfl, rfl, rfl, rfl⟩ (vH hit) hA.words (hA.ward.mono (Nat.le_succ _)) ?_ gl
 have := hA.thr.top (t := t) (fs := fs) (F := (F.reg 1 (F.r 1 + 1)).goto 2)
 rw [← wC, ← wJ] at this
 exact this
theorem does_goes {σ : World} {p t q l n : Nat} {c : Nat → Int} {tp : List Nat} {g : GM} {fs : List Fr} {F : Fr} (hn : n < 100000) (ht : (t : Int) < c 1) (hq : tp[t]? = some q) (hl : zT c t = (l : Nat)) (hlc : (l : Int) < c 0) (hthr : g.thr t = fs ++ [F]) (hfs : fs.length < 100000) {T : Nat} (hT1c : c 1 = (T : Nat)) (h1 : F.fn = 12) (hp : F.pc = 2) (hr : F.r 0 < 4611686018427387904) (he : g.w l 1 = F.r 0) : zG 63 σ p t c tp n l g ((g.set l 1 (F.r 0 + 1)).back t fs [1]) := by
 intro K s M lab w h hM hB hA
 obtain ⟨b, hT⟩ := hA.atTop hM hB ht hq hthr
 obtain rfl := hA.cc
 have hmay := hA.may
 have b1 : (s.tick l).mem.acc < 1000000000 := by show s.mem.acc < _; have := hA.acc; omega
 have b2 : (s.tick l).mem.wr < 1000000000 := by show s.mem.wr < _; have := hA.wr; omega
 have hl' : zT (s.tick l).c (t : Nat) = (l : Nat) := hl
 have hlc' : (l : Int) < (s.tick l).c 0 := hlc
 have hfs' : (fs.map Fr.enc).length < 1000000 := by rw [List.length_map]; omega
 have gl : s.given.length ≤ n + 1 := Nat.le_succ_of_le hA.given
 have hk := sP s.c
 have hit := yS hmay hA.memN hlc hk
 have hf0 : s.mem.f (atK s.c (l : Nat) 1 0 0).toNat = (g.w l 1 : Int) := by rw [hA.words.at hmay hlc hk, uN]
 have hsw : s.mem.swaps (atK s.c (l : Nat) 1 0 0) (F.r 0 : Nat) = true := by unfold MemS.swaps; rw [hit, hf0, he]; simp
 refine (rA h hT (by show (F.fn : Int) = 12; omega) hfs' (R := fun s' => Did s.c n l s s' ((g.set l 1 (F.r 0 + 1)).back t fs [1])) fun K1 M1 lab1 w1 h1' hT1 => ?_).mono fun r w' ⟨e, M', lab', s', a1, a2, a3, a4⟩ => ⟨e, M', lab', s', a1, a3, a2, a4⟩
 refine (adv_2 h1' hT1 (by show (F.pc : Int) = 2; omega) hl' hT1c (x := F.r 0) rfl hr (zD hT1.mach hl' hlc' hk) b1 b2 hfs').mono fun r w' ⟨e, M', lab', h', hM', hB'⟩ => ⟨e, M', lab', _, h', hM', hB', ?_⟩
 have hsw' : (s.tick l).mem.swaps (atK (s.tick l).c (l : Nat) 1 0 0) (F.r 0 : Nat) = true := hsw
 rw [hsw', if_pos rfl]
 refine Did.one hA hk (Nat.le_refl _) ⟨rfl, rfl, rfl, rfl, rfl⟩ (qY hit hsw) ?_ (hA.ward.mono (Nat.le_succ _)) ((hA.thr.set l 1 (F.r 0 + 1)).back (t := t) (fs := fs) (us := [1]) (x := s.thr t) ⟨by rw [hA.thr.fr t ht, hthr]; simp, rfl, rfl⟩) gl
 have := hA.words.set hmay (l := l) hk (F.r 0 + 1)
 rw [uN] at this
 exact this
theorem does_not {σ : World} {p t q l n : Nat} {c : Nat → Int} {tp : List Nat} {g : GM} {fs : List Fr} {F : Fr} (hn : n < 100000) (ht : (t : Int) < c 1) (hq : tp[t]? = some q) (hl : zT c t = (l : Nat)) (hlc : (l : Int) < c 0) (hthr : g.thr t = fs ++ [F]) (hfs : fs.length < 100000) {T : Nat} (hT1c : c 1 = (T : Nat)) (h1 : F.fn = 12) (hp : F.pc = 2) (hr : F.r 0 < 4611686018427387904) (he : g.w l 1 ≠ F.r 0) : zG 63 σ p t c tp n l g (g.back t fs [0]) := by
 intro K s M lab w h hM hB hA
 obtain ⟨b, hT⟩ := hA.atTop hM hB ht hq hthr
 obtain rfl := hA.cc
 have hmay := hA.may
 have b1 : (s.tick l).mem.acc < 1000000000 := by show s.mem.acc < _; have := hA.acc; omega
 have b2 : (s.tick l).mem.wr < 1000000000 := by show s.mem.wr < _; have := hA.wr; omega
 have hl' : zT (s.tick l).c (t : Nat) = (l : Nat) := hl
 have hlc' : (l : Int) < (s.tick l).c 0 := hlc
 have hfs' : (fs.map Fr.enc).length < 1000000 := by rw [List.length_map]; omega
 have gl : s.given.length ≤ n + 1 := Nat.le_succ_of_le hA.given
 have hk := sP s.c
 have hit := yS hmay hA.memN hlc hk
 have hf0 : s.mem.f (atK s.c (l : Nat) 1 0 0).toNat = (g.w l 1 : Int) := by rw [hA.words.at hmay hlc hk, uN]
 have hsw : s.mem.swaps (atK s.c (l : Nat) 1 0 0) (F.r 0 : Nat) = false := by unfold MemS.swaps; rw [hit, hf0]; simp; omega
 refine (rA h hT (by show (F.fn : Int) = 12; omega) hfs' (R := fun s' => Did s.c n l s s' (g.back t fs [0])) fun K1 M1 lab1 w1 h1' hT1 => ?_).mono fun r w' ⟨e, M', lab', s', a1, a2, a3, a4⟩ => ⟨e, M', lab', s', a1, a3, a2, a4⟩
 refine (adv_2 h1' hT1 (by show (F.pc : Int) = 2; omega) hl' hT1c (x := F.r 0) rfl hr (zD hT1.mach hl' hlc' hk) b1 b2 hfs').mono fun r w' ⟨e, M', lab', h', hM', hB'⟩ => ⟨e, M', lab', _, h', hM', hB', ?_⟩
 have hsw' : (s.tick l).mem.swaps (atK (s.tick l).c (l : Nat) 1 0 0) (F.r 0 : Nat) = false := hsw
 rw [hsw', if_neg (by decide)]
 exact Did.one hA hk (Nat.zero_le _) ⟨rfl, rfl, rfl, rfl, rfl⟩ (oP hit hsw) hA.words (hA.ward.mono (Nat.le_succ _)) (hA.thr.back (t := t) (fs := fs) (us := [0]) (x := s.thr t) ⟨by rw [hA.thr.fr t ht, hthr]; simp, rfl, rfl⟩) gl
end
section
open Go.RowKit
section
variable {σ : World} {p t q l n B S m gens : Nat} {c : Nat → Int} {tp : List Nat} {g : GM}
theorem jU (ht : (t : Int) < c 1) (hq : tp[t]? = some q) (hl : zT c t = (l : Nat)) (hlc : (l : Int) < c 0) : ∀ (n : Nat) (g g2 : GM) (fs : List Fr) (F : Fr), n < 100000 → (F.fn = 1 ∨ F.fn = 2) → g.thr t = fs ++ [F] → fs.length < 100000 → zG 105 σ p t c tp n l g g2 → zG 15 σ p t c tp n l g g2 :=
 fun n g g2 fs F hn hf hthr hfs D => hand_li hn ht hq hl hlc hthr hfs (by omega) (by omega) (by omega) (by omega) (hand_ep hn ht hq hl hlc hthr hfs (by omega) (by omega) (by omega) D)
theorem sV (F : Fr) (i v : Nat) : (F.reg i v).r i = v := zY _ _ _
theorem oK {F : Fr} {i v j : Nat} (h : j ≠ i) : (F.reg i v).r j = F.r j := zW h
theorem one_len {t : Nat} {g : GM} {F : Fr} : 0 < ((g.top t [] F).thr t).length ∧ ((g.top t [] F).thr t).length < 1000 := by rw [zO]; simp
theorem mK (ht : (t : Int) < c 1) (hq : tp[t]? = some q) (hl : zT c t = (l : Nat)) (hlc : (l : Int) < c 0) (hB' : c 11 = (B : Nat)) : ∀ (k n : Nat) (F : Fr), n + k < 80000 → F.fn = 20 → F.pc = 0 → F.r 0 + k ≤ B → (∀ i, F.r 0 ≤ i → i < F.r 0 + k → g.w l (18 + i) ≠ 0) → ∃ F2, Steps (fun n g g2 => zG 15 σ p t c tp n l g g2) t 0 n k (g.top t [] F) (g.top t [] F2) ∧ F2.fn = 20 ∧ F2.pc = 0 ∧ F2.r 0 = F.r 0 + k
 | 0, n, F, _, h1, h2, _, _ => ⟨F, rfl, h1, h2, rfl⟩
 | k + 1, n, F, hn, h1, h2, h3, h4 => by
  have D := rs_0n (σ := σ) (p := p) (n := n) (g := g.top t [] F) (fs := []) (by omega) ht hq hl hlc zO (by simp) hB' h1 h2 (by omega) (h4 _ (Nat.le_refl _) (by omega))
  rw [top_top] at D
  have e0 : (F.reg 0 (F.r 0 + 1)).r 0 = F.r 0 + 1 := sV _ _ _
  obtain ⟨F2, a, b, d, e⟩ := mK ht hq hl hlc hB' k (n + 1) (F.reg 0 (F.r 0 + 1)) (by omega) h1 h2 (by rw [e0]; omega) fun i i1 i2 => h4 i (by rw [e0] at i1; omega) (by rw [e0] at i2; omega)
  exact ⟨F2, .cons D one_len.1 one_len.2 a, b, d, by rw [e, e0]; omega⟩
theorem steps_rsv_no (ht : (t : Int) < c 1) (hq : tp[t]? = some q) (hl : zT c t = (l : Nat)) (hlc : (l : Int) < c 0) (hB' : c 11 = (B : Nat)) (hn : n < 70000) (hB : B ≤ 1000) (h0 : ∀ i, i < B → g.w l (18 + i) ≠ 0) : Steps (fun n g g2 => zG 15 σ p t c tp n l g g2) t 0 n (B + 1) (g.top t [] ⟨20, 0, fun i => ([] : List Nat).getD i 0⟩) (g.back t [] [0]) := by
 obtain ⟨F2, a, b, d, e⟩ := mK (σ := σ) (p := p) (g := g) ht hq hl hlc hB' B n ⟨20, 0, fun i => ([] : List Nat).getD i 0⟩ (by omega) rfl rfl (by show 0 + B ≤ B; omega) fun i _ i2 => h0 i (by have : i < 0 + B := i2; omega)
 have e' : F2.r 0 = B := e.trans (Nat.zero_add _)
 have D := rs_past (σ := σ) (p := p) (n := n + B) (g := g.top t [] F2) (fs := []) (by omega) ht hq hl hlc zO (by simp) hB' b (by omega) (by omega)
 rw [uJ] at D
 exact a.trans (.cons D one_len.1 one_len.2 rfl)
theorem steps_rsv (ht : (t : Int) < c 1) (hq : tp[t]? = some q) (hl : zT c t = (l : Nat)) (hlc : (l : Int) < c 0) (hB' : c 11 = (B : Nat)) (hn : n < 70000) (hB : B ≤ 1000) {j : Nat} (hj : j < B) (h0 : ∀ i, i < j → g.w l (18 + i) ≠ 0) (hz : g.w l (18 + j) = 0) : Steps (fun n g g2 => zG 15 σ p t c tp n l g g2) t 0 n (j + 2) (g.top t [] ⟨20, 0, fun i => ([] : List Nat).getD i 0⟩) ((g.set l (18 + j) (zI t)).back t [] [1, j]) := by
 obtain ⟨F2, a, b, d, e⟩ := mK (σ := σ) (p := p) (g := g) ht hq hl hlc hB' j n ⟨20, 0, fun i => ([] : List Nat).getD i 0⟩ (by omega) rfl rfl (by show 0 + j ≤ B; omega) fun i _ i2 => h0 i (by have : i < 0 + j := i2; omega)
 have e' : F2.r 0 = j := e.trans (Nat.zero_add _)
 have D := rs_0z (σ := σ) (p := p) (n := n + j) (g := g.top t [] F2) (fs := []) (by omega) ht hq hl hlc zO (by simp) hB' b d (by omega) (by rw [e']; exact hz)
 rw [top_top] at D
 have D2 := rs_1y (σ := σ) (p := p) (n := n + j + 1) (g := g.top t [] (F2.goto 1)) (F := F2.goto 1) (fs := []) (by omega) ht hq hl hlc zO (by simp) hB' b rfl (by show F2.r 0 < B; omega) (by show g.w l (18 + F2.r 0) = 0; rw [e']; exact hz)
 have e2 : (F2.goto 1).r 0 = j := e'
 rw [e2, mY, uJ] at D2
 exact a.trans (.cons D one_len.1 one_len.2 (.cons D2 one_len.1 one_len.2 rfl))
theorem steps_fill (ht : (t : Int) < c 1) (hq : tp[t]? = some q) (hl : zT c t = (l : Nat)) (hlc : (l : Int) < c 0) (hB' : c 11 = (B : Nat)) (hn : n < 70000) {j s gn : Nat} (hj : j < B) (hB : B ≤ 1000) (hs : s < 1000000) (hg : gn < 9223372036854775808) (he : g.w l 1 < 18446744073709551616) : Steps (fun n g g2 => zG 15 σ p t c tp n l g g2) t 0 n 2 (g.top t [] ⟨22, 0, fun i => [j, s, gn].getD i 0⟩) ((g.set l (18 + j) (xY s gn (g.w l 1))).back t [] []) := by
 have D := fl_0 (σ := σ) (p := p) (n := n) (g := g.top t [] ⟨22, 0, fun i => [j, s, gn].getD i 0⟩) (fs := []) (by omega) ht hq hl hlc zO (by simp) hB' rfl rfl
 rw [top_top] at D
 obtain ⟨F1, hF1⟩ : ∃ F1, F1 = ((⟨22, 0, fun i => [j, s, gn].getD i 0⟩ : Fr).reg 3 (g.w l 1)).goto 1 := ⟨_, rfl⟩
 have D' : zG 15 σ p t c tp n l (g.top t [] ⟨22, 0, fun i => [j, s, gn].getD i 0⟩) (g.top t [] F1) := by rw [hF1]; exact D
 have f1 : F1.fn = 22 ∧ F1.pc = 1 ∧ F1.r 0 = j ∧ F1.r 1 = s ∧ F1.r 2 = gn ∧ F1.r 3 = g.w l 1 := by rw [hF1]; exact ⟨rfl, rfl, rfl, rfl, rfl, rfl⟩
 have D2 := fl_1 (σ := σ) (p := p) (n := n + 1) (g := g.top t [] F1) (F := F1) (fs := []) (by omega) ht hq hl hlc zO (by simp) hB' f1.1 f1.2.1 (by omega) (by omega) (by omega) (by rw [f1.2.2.2.2.2]; exact he)
 rw [f1.2.2.1, f1.2.2.2.1, f1.2.2.2.2.1, f1.2.2.2.2.2, mY, uJ] at D2
 exact .cons D' one_len.1 one_len.2 (.cons D2 one_len.1 one_len.2 rfl)
end
structure Far (t l : Nat) (g g2 : GM) : Prop where
 w : ∀ l' o, l' ≠ l ∨ (1 ≤ o ∧ o < 18) → g2.w l' o = g.w l' o
 held : ∀ l' i, l' ≠ l → g2.held l' i = g.held l' i
 thr : ∀ u, u ≠ t → g2.thr u = g.thr u
theorem Far.refl (t l : Nat) (g : GM) : Far t l g g := ⟨fun _ _ _ => rfl, fun _ _ _ => rfl, fun _ _ => rfl⟩
theorem Far.trans {t l : Nat} {g g1 g2 : GM} (h : Far t l g g1) (h2 : Far t l g1 g2) : Far t l g g2 := ⟨fun a b d => (h2.w a b d).trans (h.w a b d), fun a b d => (h2.held a b d).trans (h.held a b d), fun a d => (h2.thr a d).trans (h.thr a d)⟩
theorem Far.cell {t l i v : Nat} {g : GM} : Far t l g (g.set l (18 + i) v) := ⟨fun l' o h => by rw [zM, if_neg fun hh => by rcases h with h | h; exact h hh.1; have := hh.2; omega], fun _ _ _ => rfl, fun _ _ => rfl⟩
theorem Far.top {t l : Nat} {g : GM} {fs : List Fr} {F : Fr} : Far t l g (g.top t fs F) := ⟨fun _ _ _ => rfl, fun _ _ _ => rfl, fun u hu => zW hu⟩
theorem Far.back {t l : Nat} {g : GM} {fs : List Fr} {us : List Nat} : Far t l g (g.back t fs us) := ⟨fun _ _ _ => rfl, fun _ _ _ => rfl, fun u hu => zW hu⟩
theorem giveG_thr {B S gens : Nat} {g : GM} {t l x : Nat} {fs : List Fr} : (xO B S gens g t l fs x).thr = put1 g.thr t fs := by
 unfold xO
 split <;> rfl
theorem Far.give {t l B S gens x : Nat} {g : GM} {fs : List Fr} (x2 : x ≤ S) : Far t l g (xO B S gens g t l fs x) := by
 refine ⟨fun l' o h => mV _ _ fun hh => ?_, fun l' i h => by rw [qQ, if_neg fun hh => h hh.1], fun u hu => by rw [giveG_thr]; exact zW hu⟩
 rcases h with h | h
 ·exact h hh.1
 rcases hh.2 with e | e | e
 ·omega
 ·unfold oLk at e; omega
 unfold oNd at e; omega
theorem Far.take {t l B S x : Nat} {g : GM} {fs : List Fr} : Far t l g (tX B S g t l fs x) := by
 refine ⟨fun l' o h => ?_, fun l' i h => ?_, fun u hu => zW hu⟩
 ·show (g.set l 0 _).w l' o = _
  rw [zM, if_neg fun hh => by rcases h with h | h; exact h hh.1; have := hh.2; omega]
 show (GM.hold (g.set l 0 _) l x).held l' i = _
 rw [vC, if_neg fun hh => h hh.1]; rfl
section
variable {σ : World} {p t q l n B S m gens : Nat} {c : Nat → Int} {tp : List Nat} {g : GM} {had : List Nat}
theorem LbX.topped {L C : List Nat} {fs : List Fr} {F : Fr} (h : LbX S B gens m g l L C had) : LbX S B gens m (g.top t fs F) l L C had := h.congr (fun _ _ => rfl) fun _ => rfl
end
end
section
open Go.RowKit
def pot1 (B N l : Nat) (g : GM) (F : Fr) : Nat :=
 if F.fn = 1 then potF (g.w l 0) (frS F)
 else if F.fn = 12 then (if F.pc = 0 then N + 2 else if F.pc = 1 then N + 1 - F.r 1 else 1)
 else if F.fn = 20 then (if F.pc = 0 then 2 * (B - F.r 0) + 1 else 2 * (B - F.r 0))
 else if F.fn = 22 then 2 - F.pc
 else if F.fn = 23 then (if F.pc = 0 then 13 * B + 3 else if F.pc = 1 then 13 * (B - F.r 1) + 2 else if F.pc = 2 then 13 * (B - F.r 1) + 1 else 13 * (B - F.r 1 - 1) + 3)
 else 1
def potL (B N l t : Nat) (g : GM) : Nat := match g.thr t with
 | [] => 1
 | [F] => pot1 B N l g F
 | [F, G] => 13 * (B - F.r 1 - 1) + 3 + potF (g.w l 0) (frS G)
 | _ => 1
theorem yI {B N l t : Nat} {g : GM} {F : Fr} (h : g.thr t = [F]) : potL B N l t g = pot1 B N l g F := by unfold potL; rw [h]
theorem rH {B N l t : Nat} {g : GM} {F G : Fr} (h : g.thr t = [F, G]) : potL B N l t g = 13 * (B - F.r 1 - 1) + 3 + potF (g.w l 0) (frS G) := by unfold potL; rw [h]
def LcO (B S : Nat) (lev : Nat → Nat) (t : Nat) (g g2 : GM) (md md2 : Nat → List Nat) : Prop :=
 (md2 = md ∧ (∀ F, g.thr t = [F] → F.fn = 1 → g2.thr t = [] → g2.told t 0 = 0) ∧ (∀ F, g.thr t = [F] → F.fn = 20 → g2.thr t = [] → g2.told t 0 = 0 ∨ (g2.told t 0 = 1 ∧ g2.told t 1 < B ∧ g2.w (lev t) (18 + g2.told t 1) = zI t)))
 ∨ (∃ F x, g.thr t = [F] ∧ F.fn = 1 ∧ g2.thr t = [] ∧ g2.told t 0 = x ∧ 1 ≤ x ∧ x ≤ S ∧ md2 = put1 md t (md t ++ [x]))
def botF (g : GM) (t : Nat) : Nat := match g.thr t with
 | [] => 0
 | F :: _ => F.fn
theorem xW {g : GM} {t : Nat} {F : Fr} {r : List Fr} (h : g.thr t = F :: r) : botF g t = F.fn := by unfold botF; rw [h]
def LcN (σ : World) (p : Nat) (c : Nat → Int) (tp : List Nat) (n t : Nat) (B S gens NL T : Nat) (N lev : Nat → Nat) (m : Nat) (g : GM) (md : Nat → List Nat) : Prop :=
 ∃ g2 md2 m2, zG 15 σ p t c tp n (lev t) g g2 ∧ m2 ≤ m + 1 ∧ LcI B S gens NL T N lev m2 g2 md2 ∧ (∀ u, u ≠ t → g2.thr u = g.thr u) ∧ (g2.thr t).length ≤ 2 ∧ LcO B S lev t g g2 md md2 ∧ (g2.thr t = [] ∨ potL B (N (lev t)) (lev t) t g2 + 1 ≤ potL B (N (lev t)) (lev t) t g)
  ∧ (∀ a, AwH S NL T B lev g a → AwH S NL T B lev g2 a ∨ uC lev t g g2 a) ∧ (g2.thr t = [] ∨ botF g2 t = botF g t)
structure LcC (c : Nat → Int) (tp : List Nat) (B S gens NL T : Nat) (N lev : Nat → Nat) (t q n m : Nat) : Prop where
 hn : n < 100000
 hm : m < 100000
 ht : (t : Int) < c 1
 hq : tp[t]? = some q
 hl : zT c t = (lev t : Nat)
 hlc : (lev t : Int) < c 0
 hB : c 11 = (B : Nat)
 hS : c 10 = (S : Nat)
 hg : c 12 = (gens : Nat)
 hT : c 1 = (T : Nat)
 hN : (atC c T (lev t)).length = N (lev t)
 hN8 : 0 < N (lev t) ∧ N (lev t) ≤ 8
 hNy : ∀ y ∈ atC c T (lev t), y < 8
 h60 : S ≤ 60
 hB60 : B ≤ 60
 htT : t < T
 hT8 : T ≤ 8
 hNL : lev t < NL
 lev : ∀ u, u < T → lev u < NL
theorem kW {S NL T B t : Nat} {lev : Nat → Nat} {g g2 : GM} {F : Fr} {a : AwE} (h : AwH S NL T B lev g a) (h0 : g.thr t = [F]) (hthr : ∀ u, u ≠ t → g2.thr u = g.thr u) (hh : g2.held = g.held) (hwg : g2.wg = g.wg) (hep : g.w a.l 1 ≤ g2.w a.l 1)
  (hc : ∀ j, j < B → yY (g.w a.l (18 + j)) = 2 → g2.w a.l (18 + j) = g.w a.l (18 + j) ∨ AwW T B lev g2 a.l (cutN (g.w a.l (18 + j)) 0 8) (cutN (g.w a.l (18 + j)) 32 30))
  (h1 : t < T → lev t = a.l → F.fn = 22 → F.r 1 = a.x → ((F.pc = 0 ∧ a.e ≤ g.w a.l 1) ∨ (F.pc = 1 ∧ a.e ≤ F.r 3)) → AwW T B lev g2 a.l a.x a.e) : AwH S NL T B lev g2 a :=
 ⟨h.hl, h.x1, h.x2, by rw [hh]; exact h.held, by rw [hwg]; exact h.gen, h.at_.keep hthr hep hc (fun a b F' e c d f => by rw [h0] at e; cases e; exact h1 a b c d f) fun _ _ F' G e => by rw [h0] at e; cases e⟩
theorem wM {σ : World} {p t q n m B S gens NL T : Nat} {c : Nat → Int} {tp : List Nat} {N lev : Nat → Nat} {g : GM} {md : Nat → List Nat} {z : StG} {L : Nat → List Nat} {ow : Nat → Nat → Nat × Nat} {had : Nat → List Nat} {ev : Nat → List (Nat × Nat)} {emp : Nat → Bool} (C : LcC c tp B S gens NL T N lev t q n m) (hI : CrI S gens NL T (levH lev) m z L ow had ev emp) (hZ : LcZ B S NL T N lev m g z had md) (hK : CodeI ow z.lv) (hH : HadC (fun j => j < T ∨ 100 ≤ j) (levH lev) ow had) {F : Fr} {g2 : GM} (h0 : g.thr t = [F]) (hf : z.thr t = none) (D : zG 15 σ p t c tp n (lev t) g g2) (hw : g2.w = g.w) (hh : g2.held = g.held) (hwg : g2.wg = g.wg) (hthr : ∀ u, u ≠ t → g2.thr u = g.thr u) (hlen : (g2.thr t).length ≤ 2) (hbt : g2.thr t = [] ∨ ∃ F2, g2.thr t = [F2] ∧ F2.fn = F.fn)
  (hT : LcT B (N (lev t)) (lev t) t g2 z (had t) (md t)) (h1 : F.fn ≠ 1) (hO : F.fn = 20 → g2.thr t = [] → g2.told t 0 = 0) (hp : g2.thr t = [] ∨ potL B (N (lev t)) (lev t) t g2 + 1 ≤ pot1 B (N (lev t)) (lev t) g F)
  (hA : F.fn = 22 → ∃ F2, g2.thr t = [F2] ∧ F2.fn = 22 ∧ F2.r 1 = F.r 1 ∧ F.pc = 0 ∧ F2.pc = 1 ∧ F2.r 3 = g.w (lev t) 1) : LcN σ p c tp n t B S gens NL T N lev m g md := by
 refine ⟨g2, md, m, D, Nat.le_succ _, ⟨z, L, ow, had, ev, emp, hI, hZ.self C.hT8 hthr hw hh (fun _ _ => rfl) rfl (Nat.le_refl _) C.lev hT, hK, hH⟩, hthr, hlen, .inl ⟨rfl, fun F' e e1 => ?_, fun F' e e1 e2 => ?_⟩, by rw [yI h0]; exact hp, fun a ha => .inl (kW ha h0 hthr hh hwg (by rw [hw]; exact Nat.le_refl _) (fun j hj _ => .inl (by rw [hw])) fun htT hlt h22 hx hpc => ?_), hbt.imp id fun ⟨F2, e1, e2⟩ => by rw [xW e1, xW h0, e2]⟩
 ·rw [h0] at e; cases e; exact absurd e1 h1
 ·rw [h0] at e; cases e; exact .inl (hO e1 e2)
 obtain ⟨F2, a1, a2, a3, a4, a5, a6⟩ := hA h22
 refine .inl ⟨t, F2, htT, hlt, a1, a2, by rw [a3]; exact hx, .inr ⟨a5, ?_⟩⟩
 rw [a6, hlt]
 rcases hpc with ⟨_, q⟩ | ⟨q, _⟩
 ·exact q
 omega
theorem lW {σ : World} {p t q n m B S gens NL T : Nat} {c : Nat → Int} {tp : List Nat} {N lev : Nat → Nat} {g : GM} {md : Nat → List Nat} {z : StG} {L : Nat → List Nat} {ow : Nat → Nat → Nat × Nat} {had : Nat → List Nat} {ev : Nat → List (Nat × Nat)} {emp : Nat → Bool} (C : LcC c tp B S gens NL T N lev t q n m) (hI : CrI S gens NL T (levH lev) m z L ow had ev emp) (hZ : LcZ B S NL T N lev m g z had md) (hK : CodeI ow z.lv) (hH : HadC (fun j => j < T ∨ 100 ≤ j) (levH lev) ow had) {F : Fr} {g2 : GM} {j v : Nat} (h0 : g.thr t = [F]) (hf : z.thr t = none) (D : zG 15 σ p t c tp n (lev t) g g2) (hj : j < B) (hw : g2.w = (g.set (lev t) (18 + j) v).w) (hh : g2.held = g.held) (hwg : g2.wg = g.wg) (hthr : ∀ u, u ≠ t → g2.thr u = g.thr u) (hlen : (g2.thr t).length ≤ 2) (hbt : g2.thr t = [] ∨ ∃ F2, g2.thr t = [F2] ∧ F2.fn = F.fn)
  (hk : yY (g.w (lev t) (18 + j)) ≠ 2) (hk2 : yY v ≠ 2) (hv : CellOk T v) (hold : ∀ u, u < T → u ≠ t → g.w (lev t) (18 + j) ≠ zI u)
  (hT : LcT B (N (lev t)) (lev t) t g2 z (had t) (md t)) (h1 : F.fn ≠ 1) (h22 : F.fn ≠ 22) (hO : F.fn = 20 → g2.thr t = [] → g2.told t 0 = 0 ∨ (g2.told t 0 = 1 ∧ g2.told t 1 < B ∧ g2.w (lev t) (18 + g2.told t 1) = zI t)) (hp : g2.thr t = [] ∨ potL B (N (lev t)) (lev t) t g2 + 1 ≤ pot1 B (N (lev t)) (lev t) g F) : LcN σ p c tp n t B S gens NL T N lev m g md := by
 have hw1 : ∀ l, g2.w l 1 = g.w l 1 := fun l => by rw [hw, zM, if_neg fun e => by have := e.2; omega]
 refine ⟨g2, md, m, D, Nat.le_succ _, ⟨z, L, ow, had, ev, emp, hI, hZ.cell1 C.hT8 hj C.hNL hthr hw hh (fun _ _ => rfl) rfl (Nat.le_refl _) C.lev (fun _ _ _ => rfl) (fun _ _ => rfl) ?_ (fun _ _ => rfl) hold hv hT, hK, hH⟩, hthr, hlen, .inl ⟨rfl, fun F' e e1 => ?_, fun F' e e1 e2 => ?_⟩, by rw [yI h0]; exact hp, fun a ha => .inl (kW ha h0 hthr hh hwg (by rw [hw1]; exact Nat.le_refl _) (fun i hi hki => .inl ?_) fun htT hlt h => absurd h h22), hbt.imp id fun ⟨F2, e1, e2⟩ => by rw [xW e1, xW h0, e2]⟩
 ·rw [nP hk hk2 _ _ (wI hj)]; exact hZ.lim _ C.hNL
 ·rw [h0] at e; cases e; exact absurd e1 h1
 ·rw [h0] at e; cases e; exact hO e1 e2
 rw [hw, zM, if_neg fun e => ?_]
 obtain ⟨e1, e2⟩ := e
 rw [e1, e2] at hki
 exact hk hki
section
theorem no22 {F : Fr} {k : Nat} (h : F.fn = k) (hk : k ≠ 22) {P : Prop} : F.fn = 22 → P := fun e => absurd (h.symm.trans e) hk
theorem no20 {F : Fr} {k : Nat} (h : F.fn = k) (hk : k ≠ 20) {P : Prop} : F.fn = 20 → P := fun e => absurd (h.symm.trans e) hk
theorem lc_adv {σ : World} {p t q n m B S gens NL T : Nat} {c : Nat → Int} {tp : List Nat} {N lev : Nat → Nat} {g : GM} {md : Nat → List Nat} {z : StG} {L : Nat → List Nat} {ow : Nat → Nat → Nat × Nat} {had : Nat → List Nat} {ev : Nat → List (Nat × Nat)} {emp : Nat → Bool} (C : LcC c tp B S gens NL T N lev t q n m) (hI : CrI S gens NL T (levH lev) m z L ow had ev emp) (hZ : LcZ B S NL T N lev m g z had md) (hK : CodeI ow z.lv) (hH : HadC (fun j => j < T ∨ 100 ≤ j) (levH lev) ow had) {F : Fr} (h0 : g.thr t = [F]) (hf : z.thr t = none) (hhad : had t = md t) (hF : LcAdv (N (lev t)) (lev t) g F) : LcN σ p c tp n t B S gens NL T N lev m g md := by
 have h0' : g.thr t = [] ++ [F] := h0
 obtain ⟨h12, hF⟩ := hF
 have ne1 : F.fn ≠ 1 := by omega
 have LH : ∀ {g2 : GM}, zG 63 σ p t c tp n (lev t) g g2 → zG 15 σ p t c tp n (lev t) g g2 := fun D => hand_li (C.hn) C.ht C.hq C.hl C.hlc h0' (by simp) (by omega) (by omega) (by omega) (by omega) D
 have hep := hZ.ep _ C.hNL
 have hm := C.hm
 have hN := C.hN
 have pe : ∀ g' : GM, pot1 B (N (lev t)) (lev t) g' F = if F.pc = 0 then N (lev t) + 2 else if F.pc = 1 then N (lev t) + 1 - F.r 1 else 1 := fun g' => by unfold pot1; rw [if_neg (by omega), if_pos h12]
 rcases hF with ⟨hp, r1⟩ | ⟨hp, r1, r0⟩ | ⟨hp, r0⟩
 ·refine wM C hI hZ hK hH h0 hf (LH (does_adv0 (C.hn) C.ht C.hq C.hl C.hlc h0' (by simp) C.hT h12 hp)) rfl rfl rfl (fun u hu => zW hu) (by rw [zO]; simp) (.inr ⟨_, zO, rfl⟩) (.inr (.inr (.inl ⟨_, zO, hf, hhad, .inl ⟨h12, .inr (.inl ⟨rfl, ?_, ?_⟩)⟩⟩))) ne1 (no20 h12 (by decide)) (.inr ?_) (no22 h12 (by decide))
  ·rw [wF (by decide), r1]; exact C.hN8.1
  ·exact Nat.le_of_eq (sV F 0 (g.w (lev t) 1))
  rw [yI zO, pe, if_pos hp]
  unfold pot1
  rw [if_neg (by show ¬ F.fn = 1; omega), if_pos (by show F.fn = 12; omega), if_neg (by show ¬ (1 = 0); decide), if_pos (by rfl)]
  omega
 ·obtain ⟨y, hy⟩ : ∃ y, (atC c T (lev t))[F.r 1]? = some y := ⟨_, List.getElem?_eq_getElem (by omega)⟩
  have hy8 := C.hNy y (List.mem_of_getElem? hy)
  have hz : g.w (lev t) (10 + y) = 0 := hZ.act _ C.hNL _ (by omega) (by omega)
  have hlag : rU (g.w (lev t) (10 + y)) (F.r 0) = false := by rw [hz]; rfl
  have e1 : (F.reg 1 (F.r 1 + 1)).r 1 = F.r 1 + 1 := sV _ _ _
  have e0 : (F.reg 1 (F.r 1 + 1)).r 0 = F.r 0 := oK (by decide)
  by_cases hl : F.r 1 + 1 = N (lev t)
  ·refine wM C hI hZ hK hH h0 hf (LH (does_last (C.hn) C.ht C.hq C.hl C.hlc h0' (by simp) C.hT h12 hp hy (by have := C.hN8; omega) (by omega) (by rw [hz]; decide) hlag (by omega))) rfl rfl rfl (fun u hu => zW hu) (by rw [zO]; simp) (.inr ⟨_, zO, rfl⟩) (.inr (.inr (.inl ⟨_, zO, hf, hhad, .inl ⟨h12, .inr (.inr ⟨rfl, ?_⟩)⟩⟩))) ne1 (no20 h12 (by decide)) (.inr ?_) (no22 h12 (by decide))
   ·rw [wF (by decide)]; exact r0
   rw [yI zO, pe, if_neg (by omega), if_pos hp]
   unfold pot1
   rw [if_neg (by show ¬ F.fn = 1; omega), if_pos (by show F.fn = 12; omega), if_neg (by show ¬ (2 = 0); decide), if_neg (by show ¬ (2 = 1); decide)]
   omega
  refine wM C hI hZ hK hH h0 hf (LH (does_on (C.hn) C.ht C.hq C.hl C.hlc h0' (by simp) C.hT h12 hp hy (by have := C.hN8; omega) (by omega) (by rw [hz]; decide) hlag (by omega))) rfl rfl rfl (fun u hu => zW hu) (by rw [zO]; simp) (.inr ⟨_, zO, rfl⟩) (.inr (.inr (.inl ⟨_, zO, hf, hhad, .inl ⟨h12, .inr (.inl ⟨hp, ?_, ?_⟩)⟩⟩))) ne1 (no20 h12 (by decide)) (.inr ?_) (no22 h12 (by decide))
  ·rw [e1]; omega
  ·rw [e0]; exact r0
  rw [yI zO, pe, if_neg (by omega), if_pos hp]
  unfold pot1
  rw [if_neg (by show ¬ F.fn = 1; omega), if_pos (by show F.fn = 12; omega), if_neg (by show ¬ (F.pc = 0); omega), if_pos (by show F.pc = 1; exact hp), e1]
  omega
 by_cases he : g.w (lev t) 1 = F.r 0
 ·have D := LH (does_goes (C.hn) C.ht C.hq C.hl C.hlc h0' (by simp) C.hT h12 hp (by omega) he)
  have hw : ∀ l o, ((g.set (lev t) 1 (F.r 0 + 1)).back t [] [1]).w l o = if l = lev t ∧ o = 1 then F.r 0 + 1 else g.w l o := fun l o => by
   show (g.set (lev t) 1 (F.r 0 + 1)).w l o = _
   rw [zM]
  have hoff : ∀ l o, o ≠ 1 → ((g.set (lev t) 1 (F.r 0 + 1)).back t [] [1]).w l o = g.w l o := fun l o e => by rw [hw, if_neg fun hh => e hh.2]
  have hup : ∀ l, g.w l 1 ≤ ((g.set (lev t) 1 (F.r 0 + 1)).back t [] [1]).w l 1 := fun l => by
   rw [hw]
   split
   ·next h => rw [h.1, he]; omega
   exact Nat.le_refl _
  refine ⟨_, md, m + 1, D, Nat.le_refl _, ⟨z, L, ow, had, ev, emp, ⟨⟨fun l hl => (hI.inv.lv l hl).mono, hI.inv.thr, hI.inv.had, hI.inv.ev⟩, hI.own, hI.emp⟩, hZ.upd C.hT8 (Nat.le_succ _) (fun u hu => zW hu) (fun _ _ => rfl) ⟨fun l hl => ?_, fun l i hl a b => ?_, fun l i hl a b => ?_, hZ.abs.held⟩ (fun _ _ _ => rfl) (fun _ _ => rfl) (fun l hl o ho => .inl (hoff l o ?_)) (fun l hl => ⟨hup l, ?_⟩) (fun l hl j hj u _ _ _ e => ?_) (fun l hl j hj => ?_) (fun l hl => ?_) C.lev (.inl ⟨zY _ _ _, hf, hhad⟩), hK, hH⟩, fun u hu => zW hu, ?_, .inl ⟨rfl, fun F' e e1 => ?_, fun F' e e1 => ?_⟩, .inl (zY _ _ _), fun a ha => .inl (kW ha h0 (fun u hu => zW hu) rfl rfl (hup _) (fun j hj _ => .inl (hoff _ _ (by omega))) fun _ _ h => absurd h (by omega)), .inl (zY _ _ _)⟩
  ·rw [hoff l 0 (by decide)]; exact hZ.abs.top l hl
  ·rw [hoff l _ (by unfold oLk; omega)]; exact hZ.abs.lk l i hl a b
  ·rw [hoff l _ (by unfold oNd; omega)]; exact hZ.abs.hd l i hl a b
  ·rcases ho with ⟨x, j, _, _, _, _, rfl⟩ | ⟨o1, o2⟩
   ·unfold oNd; omega
   omega
  ·rw [hw]
   split
   ·omega
   have := hZ.ep l hl; omega
  ·rw [hoff l _ (by omega)]; exact e
  ·rw [hoff l _ (by omega)]; exact hZ.cell l hl j hj
  ·rw [uV (g := g) fun j hj => hoff l _ (by omega)]; exact hZ.lim l hl
  ·show (put1 g.thr t [] t).length ≤ 2
   rw [zY]; simp
  ·rw [h0] at e; cases e; omega
  rw [h0] at e; cases e; omega
 exact wM C hI hZ hK hH h0 hf (LH (does_not (C.hn) C.ht C.hq C.hl C.hlc h0' (by simp) C.hT h12 hp (by omega) he)) rfl rfl rfl (fun u hu => zW hu) (by rw [zC]; simp) (.inl zC) (.inl ⟨zC, hf, hhad⟩) ne1 (no20 h12 (by decide)) (.inl zC) (no22 h12 (by decide))
theorem lc_rsv {σ : World} {p t q n m B S gens NL T : Nat} {c : Nat → Int} {tp : List Nat} {N lev : Nat → Nat} {g : GM} {md : Nat → List Nat} {z : StG} {L : Nat → List Nat} {ow : Nat → Nat → Nat × Nat} {had : Nat → List Nat} {ev : Nat → List (Nat × Nat)} {emp : Nat → Bool} (C : LcC c tp B S gens NL T N lev t q n m) (hI : CrI S gens NL T (levH lev) m z L ow had ev emp) (hZ : LcZ B S NL T N lev m g z had md) (hK : CodeI ow z.lv) (hH : HadC (fun j => j < T ∨ 100 ≤ j) (levH lev) ow had) {F : Fr} (h0 : g.thr t = [F]) (hf : z.thr t = none) (hhad : had t = md t) (hF : LcRsv B (md t) F) : LcN σ p c tp n t B S gens NL T N lev m g md := by
 have h0' : g.thr t = [] ++ [F] := h0
 obtain ⟨h20, hne, hF⟩ := hF
 have ne1 : F.fn ≠ 1 := by omega
 have hb60 := C.hB60
 have htT := C.htT
 have hT8 := C.hT8
 have pe : ∀ (g' : GM) (F' : Fr), F'.fn = 20 → pot1 B (N (lev t)) (lev t) g' F' = if F'.pc = 0 then 2 * (B - F'.r 0) + 1 else 2 * (B - F'.r 0) := fun g' F' e => by unfold pot1; rw [if_neg (by omega), if_neg (by omega), if_pos e]
 have e0 : (F.reg 0 (F.r 0 + 1)).r 0 = F.r 0 + 1 := sV _ _ _
 have back0 : ∀ g2 : GM, g2 = g.back t [] [0] → g2.told t 0 = 0 := fun g2 e => by subst e; show put1 g.told t _ t 0 = 0; rw [zY]; rfl
 by_cases hx : B ≤ F.r 0
 ·exact wM C hI hZ hK hH h0 hf (rs_past (C.hn) C.ht C.hq C.hl C.hlc h0' (by simp) C.hB h20 (by rcases hF with ⟨_, h⟩ | ⟨_, h⟩ <;> omega) hx) rfl rfl rfl (fun u hu => zW hu) (by rw [zC]; simp) (.inl zC) (.inl ⟨zC, hf, hhad⟩) ne1 (fun _ _ => back0 _ rfl) (.inl zC) (no22 h20 (by decide))
 have hx : F.r 0 < B := by omega
 have zok : ∀ u, u < T → g.w (lev t) (18 + F.r 0) = 0 → g.w (lev t) (18 + F.r 0) ≠ zI u := fun u hu e e2 => by rw [e2, sD (by omega)] at e; omega
 rcases hF with ⟨hp, r0⟩ | ⟨hp, r0⟩
 ·by_cases hz : g.w (lev t) (18 + F.r 0) = 0
  ·refine wM C hI hZ hK hH h0 hf (rs_0z (C.hn) C.ht C.hq C.hl C.hlc h0' (by simp) C.hB h20 hp hx hz) rfl rfl rfl (fun u hu => zW hu) (by rw [zO]; simp) (.inr ⟨_, zO, rfl⟩) (.inr (.inr (.inl ⟨_, zO, hf, hhad, .inr (.inl ⟨h20, hne, .inr ⟨rfl, hx⟩⟩)⟩))) ne1 (fun _ e => by rw [zO] at e; cases e) (.inr ?_) (no22 h20 (by decide))
   rw [yI zO, pe _ F h20, pe _ _ (by show F.fn = 20; omega), if_neg (by show ¬ (1 = 0); decide), if_pos hp]
   exact Nat.le_refl _
  refine wM C hI hZ hK hH h0 hf (rs_0n (C.hn) C.ht C.hq C.hl C.hlc h0' (by simp) C.hB h20 hp hx hz) rfl rfl rfl (fun u hu => zW hu) (by rw [zO]; simp) (.inr ⟨_, zO, rfl⟩) (.inr (.inr (.inl ⟨_, zO, hf, hhad, .inr (.inl ⟨h20, hne, .inl ⟨hp, by rw [e0]; exact hx⟩⟩)⟩))) ne1 (fun _ e => by rw [zO] at e; cases e) (.inr ?_) (no22 h20 (by decide))
  rw [yI zO, pe _ F h20, pe _ _ (by show F.fn = 20; omega), if_pos (by show F.pc = 0; exact hp), if_pos hp, e0]
  omega
 by_cases hz : g.w (lev t) (18 + F.r 0) = 0
 ·refine lW C hI hZ hK hH (j := F.r 0) (v := zI t) h0 hf (rs_1y (C.hn) C.ht C.hq C.hl C.hlc h0' (by simp) C.hB h20 hp hx hz) hx rfl rfl rfl (fun u hu => zW hu) (by rw [zC]; simp) (.inl zC) (by rw [hz]; exact qU) (uL (by omega)) (.inr (.inl ⟨t, htT, rfl⟩)) (fun u hu _ => zok u hu hz) (.inl ⟨zC, hf, hhad⟩) ne1 (by omega) (fun _ _ => .inr ?_) (.inl zC)
  have t0 : ((g.set (lev t) (18 + F.r 0) (zI t)).back t [] [1, F.r 0]).told t 0 = 1 := by show put1 g.told t _ t 0 = 1; rw [zY]; rfl
  have t1 : ((g.set (lev t) (18 + F.r 0) (zI t)).back t [] [1, F.r 0]).told t 1 = F.r 0 := by show put1 g.told t _ t 1 = _; rw [zY]; rfl
  refine ⟨t0, by rw [t1]; exact hx, ?_⟩
  rw [t1]
  show (g.set (lev t) (18 + F.r 0) (zI t)).w (lev t) (18 + F.r 0) = _
  rw [zM, if_pos ⟨rfl, rfl⟩]
 refine wM C hI hZ hK hH h0 hf (rs_1n (C.hn) C.ht C.hq C.hl C.hlc h0' (by simp) C.hB h20 hp hx hz) rfl rfl rfl (fun u hu => zW hu) (by rw [zO]; simp) (.inr ⟨_, zO, rfl⟩) (.inr (.inr (.inl ⟨_, zO, hf, hhad, .inr (.inl ⟨h20, hne, .inl ⟨rfl, ?_⟩⟩)⟩))) ne1 (fun _ e => by rw [zO] at e; cases e) (.inr ?_) (no22 h20 (by decide))
 ·show (F.reg 0 (F.r 0 + 1)).r 0 ≤ B
  rw [e0]; exact hx
 rw [yI zO, pe _ F h20, pe _ _ (by show F.fn = 20; omega), if_pos (by rfl), if_neg (by omega)]
 show 2 * (B - (F.reg 0 (F.r 0 + 1)).r 0) + 1 + 1 ≤ _
 rw [e0]
 omega
theorem lc_rel {σ : World} {p t q n m B S gens NL T : Nat} {c : Nat → Int} {tp : List Nat} {N lev : Nat → Nat} {g : GM} {md : Nat → List Nat} {z : StG} {L : Nat → List Nat} {ow : Nat → Nat → Nat × Nat} {had : Nat → List Nat} {ev : Nat → List (Nat × Nat)} {emp : Nat → Bool} (C : LcC c tp B S gens NL T N lev t q n m) (hI : CrI S gens NL T (levH lev) m z L ow had ev emp) (hZ : LcZ B S NL T N lev m g z had md) (hK : CodeI ow z.lv) (hH : HadC (fun j => j < T ∨ 100 ≤ j) (levH lev) ow had) {F : Fr} (h0 : g.thr t = [F]) (hf : z.thr t = none) (hhad : had t = md t) (hF : LcRel B (lev t) t g F) : LcN σ p c tp n t B S gens NL T N lev m g md := by
 have h0' : g.thr t = [] ++ [F] := h0
 obtain ⟨h21, hx, hh⟩ := hF
 have hb60 := C.hB60
 have htT := C.htT
 have hT8 := C.hT8
 refine lW C hI hZ hK hH (j := F.r 0) (v := 0) h0 hf (rl_0 (C.hn) C.ht C.hq C.hl C.hlc h0' (by simp) C.hB h21 hx) hx rfl rfl rfl (fun u hu => zW hu) (by rw [zC]; simp) (.inl zC) (by rw [hh]; exact uL (by omega)) qU (.inl rfl) (fun u hu hne e => hne (lM (by omega) (by omega) (e.symm.trans hh))) (.inl ⟨zC, hf, hhad⟩) (by omega) (by omega) (no20 h21 (by decide)) (.inl zC)
end
end
section
open Go.RowKit
section
variable {gens l t : Nat} {z : StG} {f f2 : StF}
theorem give_pc (h2 : f.fn = 2) (h9 : f.pc ≤ 9) (e : (z.next gens t l f).thr t = some f2) : f2.fn = 2 ∧ f2.r0 = f.r0 ∧ (f2.pc ≤ f.pc + 1) := by
 have go : ∀ (z : StG) (F0 : StF), (z.go t F0).thr t = some f2 → f2 = F0 := fun z F0 e => by
  have e' : put1 z.thr t (some F0) t = some f2 := e
  rw [zY] at e'; cases e'; rfl
 have bk : ∀ (z : StG) (a b : Nat), (z.back t a b).thr t = some f2 → False := fun z a b e => by
  have e' : put1 z.thr t none t = some f2 := e
  rw [zY] at e'; cases e'
 unfold StG.next at e
 rw [if_neg (by omega)] at e
 unfold StG.give at e
 by_cases hp0 : f.pc = 0
 ·rw [if_pos hp0] at e; rw [go _ _ e]; exact ⟨h2, rfl, (by show 1 ≤ f.pc + 1; omega)⟩
 rw [if_neg hp0] at e
 by_cases hp1 : f.pc = 1
 ·rw [if_pos hp1] at e; rw [go _ _ e]; exact ⟨h2, rfl, (by show 2 ≤ f.pc + 1; omega)⟩
 rw [if_neg hp1] at e
 by_cases hp2 : f.pc = 2
 ·rw [if_pos hp2] at e; rw [go _ _ e]; exact ⟨h2, rfl, (by show 3 ≤ f.pc + 1; omega)⟩
 rw [if_neg hp2] at e
 by_cases hp3 : f.pc = 3
 ·rw [if_pos hp3] at e; rw [go _ _ e]; exact ⟨h2, rfl, (by show 4 ≤ f.pc + 1; omega)⟩
 rw [if_neg hp3] at e
 by_cases hp4 : f.pc = 4
 ·rw [if_pos hp4] at e; rw [go _ _ e]; exact ⟨h2, rfl, (by show 5 ≤ f.pc + 1; omega)⟩
 rw [if_neg hp4] at e
 by_cases hp5 : f.pc = 5
 ·rw [if_pos hp5] at e; rw [go _ _ e]; exact ⟨h2, rfl, (by show 6 ≤ f.pc + 1; omega)⟩
 rw [if_neg hp5] at e
 by_cases hp6 : f.pc = 6
 ·rw [if_pos hp6] at e
  by_cases hs : f.r2 < gens
  ·rw [if_pos hs] at e; rw [go _ _ e]; exact ⟨h2, rfl, (by show 7 ≤ f.pc + 1; omega)⟩
  rw [if_neg hs] at e; exact (bk _ _ _ e).elim
 rw [if_neg hp6] at e
 by_cases hp7 : f.pc = 7
 ·rw [if_pos hp7] at e; rw [go _ _ e]; exact ⟨h2, rfl, (by show 8 ≤ f.pc + 1; omega)⟩
 rw [if_neg hp7] at e
 by_cases hp8 : f.pc = 8
 ·rw [if_pos hp8] at e; rw [go _ _ e]; exact ⟨h2, rfl, (by show 9 ≤ f.pc + 1; omega)⟩
 rw [if_neg hp8] at e
 by_cases hs : (z.lv l).top = f.r1
 ·rw [if_pos hs] at e; exact (bk _ _ _ e).elim
 rw [if_neg hs] at e; rw [go _ _ e]; exact ⟨h2, rfl, (by show 7 ≤ f.pc + 1; omega)⟩
end
end
section
open Go.RowKit
theorem CrI.up {S gens NL T n : Nat} {lev : Nat → Nat} {g : StG} {L : Nat → List Nat} {ow : Nat → Nat → Nat × Nat} {had : Nat → List Nat} {ev : Nat → List (Nat × Nat)} {emp : Nat → Bool} (h : CrI S gens NL T lev n g L ow had ev emp) : CrI S gens NL T lev (n + 1) g L ow had ev emp :=
 ⟨⟨fun l hl => (h.inv.lv l hl).mono, h.inv.thr, h.inv.had, h.inv.ev⟩, h.own, h.emp⟩
theorem lc_fill {σ : World} {p t q n m B S gens NL T : Nat} {c : Nat → Int} {tp : List Nat} {N lev : Nat → Nat} {g : GM} {md : Nat → List Nat} {z : StG} {L : Nat → List Nat} {ow : Nat → Nat → Nat × Nat} {had : Nat → List Nat} {ev : Nat → List (Nat × Nat)} {emp : Nat → Bool} (C : LcC c tp B S gens NL T N lev t q n m) (hI : CrI S gens NL T (levH lev) m z L ow had ev emp) (hZ : LcZ B S NL T N lev m g z had md) (hK : CodeI ow z.lv) (hH : HadC (fun j => j < T ∨ 100 ≤ j) (levH lev) ow had) {F : Fr} {x : Nat} (h0 : g.thr t = [F]) (hf : z.thr t = none) (hhad : had t = x :: md t) (hF : LcW B (lev t) t g x F) : LcN σ p c tp n t B S gens NL T N lev m g md := by
 have h0' : g.thr t = [] ++ [F] := h0
 obtain ⟨h22, hx, hh, hr1, hr2, hF⟩ := hF
 have ne1 : F.fn ≠ 1 := by omega
 have hb60 := C.hB60
 have htT := C.htT
 have hT8 := C.hT8
 have hm := C.hm
 have hep := hZ.ep _ C.hNL
 obtain ⟨x1, x2, x3⟩ := (hI.inv.had t).all x (by rw [hhad]; exact List.mem_cons_self)
 have h60 := C.h60
 have pe : ∀ (g' : GM) (F' : Fr), F'.fn = 22 → pot1 B (N (lev t)) (lev t) g' F' = 2 - F'.pc := fun g' F' e => by unfold pot1; rw [if_neg (by omega), if_neg (by omega), if_neg (by omega), if_pos e]
 rcases hF with hp | ⟨hp, r3⟩
 ·refine wM C hI hZ hK hH h0 hf (fl_0 (C.hn) C.ht C.hq C.hl C.hlc h0' (by simp) C.hB h22 hp) rfl rfl rfl (fun u hu => zW hu) (by rw [zO]; simp) (.inr ⟨_, zO, rfl⟩) (.inr (.inr (.inr (.inl ⟨_, x, zO, hf, hhad, h22, ?_, ?_, ?_, ?_, .inr ⟨rfl, ?_⟩⟩)))) ne1 (no20 h22 (by decide)) (.inr ?_) (fun _ => ⟨_, zO, h22, wF (by decide), hp, rfl, uX _ _ _ _⟩)
  ·rw [wF (by decide)]; exact hx
  ·rw [wF (by decide)]; exact hh
  ·rw [wF (by decide)]; exact hr1
  ·rw [wF (by decide)]; exact hr2
  ·rw [uX]; exact Nat.le_refl _
  rw [yI zO, pe _ F h22, pe _ _ (by show F.fn = 22; omega), hp]
  exact Nat.le_refl _
 have D := fl_1 (σ := σ) (p := p) (C.hn) C.ht C.hq C.hl C.hlc h0' (by simp) C.hB h22 hp hx (by omega) (by omega) (by omega)
 have et : levH lev t = lev t := vK (by omega)
 obtain ⟨v, hv⟩ : ∃ v, xY (F.r 1) (F.r 2) (F.r 3) = v := ⟨_, rfl⟩
 have v1 : yY v = 2 := by rw [← hv]; exact jJ _ _ _
 have v2 : cutN v 0 8 = x := by rw [← hv, hr1]; exact jK (by omega)
 have v3 : cutN v 32 30 = F.r 3 := by rw [← hv]; exact cell_label (by omega)
 have v4 : v < 18446744073709551616 := by rw [← hv]; exact cell_lt _ _ _
 rw [hv] at D
 have hM := hI.move (u := t) (v := 100 + lev t) (l := lev t) (x := x) (r := md t) et (uF _ _) (by omega) (by rw [hhad])
 have hkh : yY (g.w (lev t) (18 + F.r 0)) ≠ 2 := by rw [hh]; exact uL (by omega)
 have hw : ((g.set (lev t) (18 + F.r 0) v).back t [] []).w = (g.set (lev t) (18 + F.r 0) v).w := rfl
 have hw1 : ∀ l, ((g.set (lev t) (18 + F.r 0) v).back t [] []).w l 1 = g.w l 1 := fun l => by rw [hw, zM, if_neg fun e => by have := e.2; omega]
 have hthr : ∀ u, u ≠ t → ((g.set (lev t) (18 + F.r 0) v).back t [] []).thr u = g.thr u := fun u hu => zW hu
 refine ⟨_, md, m, D, Nat.le_succ _, ⟨z, L, _, _, ev, emp, hM, hZ.cell1 (g2 := (g.set (lev t) (18 + F.r 0) v).back t [] []) C.hT8 hx C.hNL hthr hw rfl (fun _ _ => rfl) rfl (Nat.le_refl _) C.lev (fun u hu hne => ?_) (fun _ _ => rfl) ?_ (fun l hl => ?_) (fun u hu hne e => hne (lM (by omega) (by omega) (e.symm.trans hh))) (.inr (.inr ⟨v4, v1⟩)) (.inl ⟨zY _ _ _, hf, ?_⟩), hK.move hI et (r := md t) (by rw [hhad]), hH.move (uF _ _) (by rw [hhad]) (by omega) (.inr (by omega)) et⟩, hthr, ?_, .inl ⟨rfl, fun F' e e1 => ?_, fun F' e e1 => ?_⟩, .inl zC, fun a ha => .inl (kW ha h0 hthr rfl rfl (by rw [hw1]; exact Nat.le_refl _) (fun i hi hki => .inl ?_) fun _ hlt _ hx1 hpc => ?_), .inl zC⟩
 ·show put1 (put1 had t _) (100 + lev t) _ u = _
  rw [zW (by omega), zW hne]
 ·show (put1 (put1 had t _) (100 + lev t) _ (100 + lev t)).Perm _
  rw [zY]
  refine List.Perm.trans ?_ (nN hkh v1 _ _ (wI hx)).symm
  rw [v2]
  exact (hZ.lim _ C.hNL).cons _
 ·show put1 (put1 had t _) (100 + lev t) _ (100 + l) = _
  rw [zW (by omega), zW (by omega)]
 ·show put1 (put1 had t _) (100 + lev t) _ t = _
  rw [zW (by omega), zY]
 ·rw [zC]; simp
 ·rw [h0] at e; cases e; omega
 ·rw [h0] at e; cases e; omega
 ·rw [hw, zM, if_neg fun e => ?_]
  obtain ⟨e1, e2⟩ := e
  rw [e1, e2] at hki
  exact hkh hki
 refine .inr (.inl ⟨F.r 0, hx, ?_⟩)
 have e : ((g.set (lev t) (18 + F.r 0) v).back t [] []).w a.l (18 + F.r 0) = v := by rw [hw, zM, if_pos ⟨hlt.symm, rfl⟩]
 rw [e]
 refine ⟨v1, v2.trans (hr1.symm.trans hx1), ?_⟩
 rw [v3]
 rcases hpc with ⟨q, _⟩ | ⟨_, q⟩
 ·omega
 exact q
theorem lc_sweep {σ : World} {p t q n m B S gens NL T : Nat} {c : Nat → Int} {tp : List Nat} {N lev : Nat → Nat} {g : GM} {md : Nat → List Nat} {z : StG} {L : Nat → List Nat} {ow : Nat → Nat → Nat × Nat} {had : Nat → List Nat} {ev : Nat → List (Nat × Nat)} {emp : Nat → Bool} (C : LcC c tp B S gens NL T N lev t q n m) (hI : CrI S gens NL T (levH lev) m z L ow had ev emp) (hZ : LcZ B S NL T N lev m g z had md) (hK : CodeI ow z.lv) (hH : HadC (fun j => j < T ∨ 100 ≤ j) (levH lev) ow had) {F : Fr} (h0 : g.thr t = [F]) (hf : z.thr t = none) (hhad : had t = md t) (hF : LcSw B (lev t) t g F) : LcN σ p c tp n t B S gens NL T N lev m g md := by
 have h0' : g.thr t = [] ++ [F] := h0
 obtain ⟨h23, hF⟩ := hF
 have ne1 : F.fn ≠ 1 := by omega
 have hb60 := C.hB60
 have htT := C.htT
 have hT8 := C.hT8
 have hm := C.hm
 have hep := hZ.ep _ C.hNL
 have pe : ∀ (g' : GM) (F' : Fr), F'.fn = 23 → pot1 B (N (lev t)) (lev t) g' F' = if F'.pc = 0 then 13 * B + 3 else if F'.pc = 1 then 13 * (B - F'.r 1) + 2 else if F'.pc = 2 then 13 * (B - F'.r 1) + 1 else 13 * (B - F'.r 1 - 1) + 3 := fun g' F' e => by unfold pot1; rw [if_neg (by omega), if_neg (by omega), if_neg (by omega), if_neg (by omega), if_pos e]
 rcases hF with ⟨hp, r1, r3⟩ | ⟨hp, r1, r3, r0⟩ | ⟨hp, r1, r3, r0, r2, hkd, hlab⟩ | ⟨hp, r1, r3, r0, hh⟩
 ·refine wM C hI hZ hK hH h0 hf (sp_0 (C.hn) C.ht C.hq C.hl C.hlc h0' (by simp) C.hB h23 hp) rfl rfl rfl (fun u hu => zW hu) (by rw [zO]; simp) (.inr ⟨_, zO, rfl⟩) (.inr (.inr (.inl ⟨_, zO, hf, hhad, .inr (.inr (.inr ⟨h23, .inr (.inl ⟨rfl, ?_, ?_, ?_⟩)⟩))⟩))) ne1 (no20 h23 (by decide)) (.inr ?_) (no22 h23 (by decide))
  ·rw [wF (by decide), r1]; exact Nat.zero_le _
  ·rw [wF (by decide), wF (by decide), r1, r3]; exact Nat.le_refl _
  ·rw [uX]; exact Nat.le_refl _
  rw [yI zO, pe _ F h23, pe _ _ (by show F.fn = 23; omega), if_neg (by show ¬ (1 = 0); decide), if_pos (by rfl), if_pos hp, wF (by decide), r1]
  omega
 ·by_cases hx : B ≤ F.r 1
  ·exact wM C hI hZ hK hH h0 hf (sp_past (C.hn) C.ht C.hq C.hl C.hlc h0' (by simp) C.hB h23 hp (by omega) hx) rfl rfl rfl (fun u hu => zW hu) (by rw [zC]; simp) (.inl zC) (.inl ⟨zC, hf, hhad⟩) ne1 (no20 h23 (by decide)) (.inl zC) (no22 h23 (by decide))
  have hx : F.r 1 < B := by omega
  have hw64 : g.w (lev t) (18 + F.r 1) < 18446744073709551616 := by
   rcases hZ.cell _ C.hNL _ hx with e | ⟨u, hu, e⟩ | ⟨e, _⟩
   ·rw [e]; decide
   ·rw [e, sD (by omega)]; omega
   exact e
  by_cases hy : yY (g.w (lev t) (18 + F.r 1)) = 2 ∧ oldB (cutN (g.w (lev t) (18 + F.r 1)) 32 30) (F.r 0) = true
  ·obtain ⟨y1, y2⟩ := hy
   refine wM C hI hZ hK hH h0 hf (sp_yes (C.hn) C.ht C.hq C.hl C.hlc h0' (by simp) C.hB h23 hp hx (by omega) hw64 y1 y2) rfl rfl rfl (fun u hu => zW hu) (by rw [zO]; simp) (.inr ⟨_, zO, rfl⟩) (.inr (.inr (.inl ⟨_, zO, hf, hhad, .inr (.inr (.inr ⟨h23, .inr (.inr (.inl ⟨rfl, ?_, ?_, ?_, ?_, ?_, ?_⟩))⟩))⟩))) ne1 (no20 h23 (by decide)) (.inr ?_) (no22 h23 (by decide))
   ·rw [wF (by decide)]; exact hx
   ·rw [wF (by decide), wF (by decide)]; exact r3
   ·rw [wF (by decide)]; exact r0
   ·rw [uX]; exact hw64
   ·rw [uX]; exact y1
   ·rw [uX, wF (by decide)]
    unfold oldB at y2
    simp at y2
    exact y2.2
   rw [yI zO, pe _ F h23, pe _ _ (by show F.fn = 23; omega), if_neg (by show ¬ (2 = 0); decide), if_neg (by show ¬ (2 = 1); decide), if_pos (by rfl), if_neg (by omega), if_pos hp, wF (by decide)]
   exact Nat.le_refl _
  have e1 : (((F.reg 2 (g.w (lev t) (18 + F.r 1))).reg 1 (F.r 1 + 1))).r 1 = F.r 1 + 1 := sV _ _ _
  have e3 : (((F.reg 2 (g.w (lev t) (18 + F.r 1))).reg 1 (F.r 1 + 1))).r 3 = F.r 3 := (oK (by decide)).trans (oK (by decide))
  have e0 : (((F.reg 2 (g.w (lev t) (18 + F.r 1))).reg 1 (F.r 1 + 1))).r 0 = F.r 0 := (oK (by decide)).trans (oK (by decide))
  refine wM C hI hZ hK hH h0 hf (sp_no (C.hn) C.ht C.hq C.hl C.hlc h0' (by simp) C.hB h23 hp hx (by omega) hw64 ?_) rfl rfl rfl (fun u hu => zW hu) (by rw [zO]; simp) (.inr ⟨_, zO, rfl⟩) (.inr (.inr (.inl ⟨_, zO, hf, hhad, .inr (.inr (.inr ⟨h23, .inr (.inl ⟨hp, ?_, ?_, ?_⟩)⟩))⟩))) ne1 (no20 h23 (by decide)) (.inr ?_) (no22 h23 (by decide))
  ·by_cases hk : yY (g.w (lev t) (18 + F.r 1)) = 2
   ·refine .inr ⟨hk, ?_⟩
    cases ho : oldB (cutN (g.w (lev t) (18 + F.r 1)) 32 30) (F.r 0)
    ·rfl
    exact absurd ⟨hk, ho⟩ hy
   exact .inl hk
  ·rw [e1]; exact hx
  ·rw [e1, e3]; omega
  ·rw [e0]; exact r0
  rw [yI zO, pe _ F h23, pe _ _ (by show F.fn = 23; omega), if_neg (by show ¬ (F.pc = 0); omega), if_pos (by show F.pc = 1; exact hp), if_neg (by omega), if_pos hp, e1]
  omega
 ·by_cases hz : g.w (lev t) (18 + F.r 1) = F.r 2
  ·have D := sp_2y (σ := σ) (p := p) (C.hn) C.ht C.hq C.hl C.hlc h0' (by simp) C.hB h23 hp r1 r2 hkd hz
   obtain ⟨x, hx⟩ : ∃ x, cutN (F.r 2) 0 8 = x := ⟨_, rfl⟩
   rw [hx] at D
   have et : levH lev t = lev t := vK (by omega)
   have hk : yY (g.w (lev t) (18 + F.r 1)) = 2 := by rw [hz]; exact hkd
   have hkh : yY (zI t) ≠ 2 := uL (by omega)
   have hP := (hZ.lim _ C.hNL).trans (pF (v' := zI t) hk hkh _ _ (wI r1))
   rw [hz, hx] at hP
   have hM := hI.move (u := 100 + lev t) (v := t) (l := lev t) (x := x) (uF _ _) et (by omega) hP
   have hG := hM.give (t := t) (x := x) (i := 0) C.htT (by rw [et]; exact C.hNL) hf (by rw [zY]; rfl)
   have hse : (put1 (put1 had (100 + lev t) (xL ((cellsOf g B (lev t)).set (F.r 1) (zI t)))) t (x :: had t) t).eraseIdx 0 = md t := by rw [zY, List.eraseIdx_cons_zero, hhad]
   rw [et, hse] at hG
   have hw : ((g.set (lev t) (18 + F.r 1) (zI t)).top t ([] ++ [F.goto 3]) ⟨2, 0, fun i => [x].getD i 0⟩).w = (g.set (lev t) (18 + F.r 1) (zI t)).w := rfl
   have hthr : ∀ u, u ≠ t → ((g.set (lev t) (18 + F.r 1) (zI t)).top t ([] ++ [F.goto 3]) ⟨2, 0, fun i => [x].getD i 0⟩).thr u = g.thr u := fun u hu => zW hu
   have hthrT : ((g.set (lev t) (18 + F.r 1) (zI t)).top t ([] ++ [F.goto 3]) ⟨2, 0, fun i => [x].getD i 0⟩).thr t = [F.goto 3, ⟨2, 0, fun i => [x].getD i 0⟩] := zY _ _ _
   have hw1 : ∀ l, ((g.set (lev t) (18 + F.r 1) (zI t)).top t ([] ++ [F.goto 3]) ⟨2, 0, fun i => [x].getD i 0⟩).w l 1 = g.w l 1 := fun l => by rw [hw, zM, if_neg fun e => by have := e.2; omega]
   have hwt : ((g.set (lev t) (18 + F.r 1) (zI t)).top t ([] ++ [F.goto 3]) ⟨2, 0, fun i => [x].getD i 0⟩).w (lev t) (18 + F.r 1) = zI t := by rw [hw, zM, if_pos ⟨rfl, rfl⟩]
   have hh2 : ((g.set (lev t) (18 + F.r 1) (zI t)).top t ([] ++ [F.goto 3]) ⟨2, 0, fun i => [x].getD i 0⟩).held = g.held := rfl
   have hg2 : ((g.set (lev t) (18 + F.r 1) (zI t)).top t ([] ++ [F.goto 3]) ⟨2, 0, fun i => [x].getD i 0⟩).wg = g.wg := rfl
   generalize (g.set (lev t) (18 + F.r 1) (zI t)).top t ([] ++ [F.goto 3]) ⟨2, 0, fun i => [x].getD i 0⟩ = g2 at D hw hthr hthrT hw1 hwt hh2 hg2
   refine ⟨g2, md, m + 1, D, Nat.le_refl _, ⟨_, L, _, _, ev, emp, hG, hZ.cell1 C.hT8 r1 C.hNL hthr hw hh2 (fun u hu => zW hu) rfl (Nat.le_succ _) C.lev (fun u hu hne => ?_) (fun _ _ => rfl) ?_ (fun l hl => ?_) (fun u hu hne e => ?_) (.inr (.inl ⟨t, htT, rfl⟩)) (.inr (.inr (.inr (.inr ⟨F.goto 3, _, hthrT, rfl, zY _ _ _, ?_, h23, rfl, r1, r3, ?_, hwt⟩)))), (hK.move hI (uF _ _) hP).give hM et (by rw [zY]; exact List.mem_cons_self), (hH.move et hP (by omega) (.inl htT) (uF _ _)).give et (by rw [zY, hhad])⟩, hthr, by rw [hthrT]; exact Nat.le_refl _, .inl ⟨rfl, fun F' e e1 => ?_, fun F' e e1 => ?_⟩, .inr ?_, fun a ha => .inl (kW ha h0 hthr hh2 hg2 (by rw [hw1]; exact Nat.le_refl _) (fun i hi hki => ?_) fun _ _ h => absurd h (by omega)), .inr (by rw [xW hthrT, xW h0]; rfl)⟩
   ·rw [zW hne, zW hne, zW (by omega)]
   ·rw [zW (by omega), zW (by omega), zY]
   ·rw [zW (by omega), zW (by omega), zW (by omega)]
   ·rw [e] at hk; exact uL (by omega) hk
   ·rw [zY]
   ·show F.r 0 ≤ g2.w (lev t) 1
    rw [hw1]; exact r0
   ·rw [h0] at e; cases e; omega
   ·rw [h0] at e; cases e; omega
   ·rw [yI h0, rH hthrT, pe _ F h23, if_neg (by omega), if_neg (by omega), if_pos hp]
    show 13 * (B - F.r 1 - 1) + 3 + potF _ ⟨2, 0, _, _, _⟩ + 1 ≤ _
    have : ∀ top (a b d : Nat), potF top ⟨2, 0, a, b, d⟩ = 10 := fun top a b d => by unfold potF; simp
    rw [this]
    omega
   by_cases c2 : a.l = lev t ∧ 18 + i = 18 + F.r 1
   ·obtain ⟨e1, e2⟩ := c2
    have e3 : i = F.r 1 := by omega
    subst e3
    rw [e1, hz, hx]
    exact .inr (.inr (.inr ⟨t, F.goto 3, _, htT, rfl, hthrT, h23, rfl, rfl, hlab⟩))
   exact .inl (by rw [hw, zM, if_neg c2])
  have e1 : ((F.reg 1 (F.r 1 + 1)).goto 1).r 1 = F.r 1 + 1 := uX _ _ _ _
  refine wM C hI hZ hK hH h0 hf (sp_2n (C.hn) C.ht C.hq C.hl C.hlc h0' (by simp) C.hB h23 hp r1 hz) rfl rfl rfl (fun u hu => zW hu) (by rw [zO]; simp) (.inr ⟨_, zO, rfl⟩) (.inr (.inr (.inl ⟨_, zO, hf, hhad, .inr (.inr (.inr ⟨h23, .inr (.inl ⟨rfl, ?_, ?_, ?_⟩)⟩))⟩))) ne1 (no20 h23 (by decide)) (.inr ?_) (no22 h23 (by decide))
  ·rw [e1]; exact r1
  ·rw [e1, wF (by decide)]; omega
  ·rw [wF (by decide)]; exact r0
  rw [yI zO, pe _ F h23, pe _ _ (by show F.fn = 23; omega), if_neg (by show ¬ (1 = 0); decide), if_pos (by rfl), if_neg (by omega), if_neg (by omega), if_pos hp, e1]
  omega
 have e1 : (((F.reg 3 (F.r 3 + 1)).reg 1 (F.r 1 + 1)).goto 1).r 1 = F.r 1 + 1 := uX _ _ _ _
 have e3 : (((F.reg 3 (F.r 3 + 1)).reg 1 (F.r 1 + 1)).goto 1).r 3 = F.r 3 + 1 := (wF (by decide)).trans (sV _ _ _)
 have e0 : (((F.reg 3 (F.r 3 + 1)).reg 1 (F.r 1 + 1)).goto 1).r 0 = F.r 0 := (wF (by decide)).trans (oK (by decide))
 refine lW C hI hZ hK hH (j := F.r 1) (v := 0) h0 hf (sp_3 (C.hn) C.ht C.hq C.hl C.hlc h0' (by simp) C.hB h23 hp r1 (by omega)) r1 rfl rfl rfl (fun u hu => zW hu) (by rw [zO]; simp) (.inr ⟨_, zO, rfl⟩) (by rw [hh]; exact uL (by omega)) qU (.inl rfl) (fun u hu hne e => hne (lM (by omega) (by omega) (e.symm.trans hh))) (.inr (.inr (.inl ⟨_, zO, hf, hhad, .inr (.inr (.inr ⟨h23, .inr (.inl ⟨rfl, ?_, ?_, ?_⟩)⟩))⟩))) ne1 (by omega) (no20 h23 (by decide)) (.inr ?_)
 ·rw [e1]; exact r1
 ·rw [e1, e3]; omega
 ·rw [e0]
  show F.r 0 ≤ (g.set (lev t) (18 + F.r 1) 0).w (lev t) 1
  rw [zM, if_neg fun e => by have := e.2; omega]; exact r0
 rw [yI zO, pe _ F h23, pe _ _ (by show F.fn = 23; omega), if_neg (by show ¬ (1 = 0); decide), if_pos (by rfl), if_neg (by omega), if_neg (by omega), if_neg (by omega), e1]
 omega
end
section
open Go.RowKit
section
variable {B S NL t l : Nat} {g g2 : GM} {z2 : StG} {fs : List Fr} {G : Fr}
theorem mU (hD : StD B S NL t l fs G g g2 z2) (h2 : G.fn = 2 → 1 ≤ G.r 0) (l' o : Nat) (ho : o = 1 ∨ (10 ≤ o ∧ o < 18) ∨ (18 ≤ o ∧ o < 18 + B)) : g2.w l' o = g.w l' o := hD.w l' o fun ⟨e, h⟩ => by
 rcases h with h | ⟨hf, h | h⟩
 ·omega
 ·unfold oLk at h; omega
 unfold oNd at h; omega
end
theorem mR {t q n m B S gens NL T : Nat} {c : Nat → Int} {tp : List Nat} {N lev : Nat → Nat} {g : GM} {md : Nat → List Nat} {z : StG} {L : Nat → List Nat} {ow : Nat → Nat → Nat × Nat} {had : Nat → List Nat} {ev : Nat → List (Nat × Nat)} {emp : Nat → Bool} (C : LcC c tp B S gens NL T N lev t q n m) (hI : CrI S gens NL T (levH lev) m z L ow had ev emp) (hZ : LcZ B S NL T N lev m g z had md) (hK : CodeI ow z.lv) (hH : HadC (fun j => j < T ∨ 100 ≤ j) (levH lev) ow had) {g2 : GM} {z2 : StG} {had2 md2 : Nat → List Nat} {fs : List Fr} {G : Fr} (hf : z.thr t = some (frS G)) (hD : StD B S NL t (lev t) fs G g g2 z2) (hthr : ∀ u, u ≠ t → g2.thr u = g.thr u) (hz : ∀ u, u ≠ t → z2.thr u = z.thr u) (hh : ∀ u, u ≠ t → had2 u = had u) (hmd : ∀ u, u ≠ t → md2 u = md u) (hT : LcT B (N (lev t)) (lev t) t g2 z2 (had2 t) (md2 t)) : LcZ B S NL T N lev (m + 1) g2 z2 had2 md2 := by
 have htT := C.htT
 have hT8 := C.hT8
 have hr : G.fn = 2 → 1 ≤ G.r 0 ∧ G.r 0 ≤ S := fun h2 => by
  obtain ⟨a, b, _⟩ := (hI.inv.thr t htT _ hf).r0 h2
  exact ⟨a, b⟩
 have ws := mU hD fun h2 => (hr h2).1
 refine hZ.upd hT8 (Nat.le_succ _) hthr hz hD.abs (fun u _ hu => hh u hu) hmd (fun l hl o ho => ?_) (fun l hl => ?_) (fun l hl j hj u _ _ _ e => ?_) (fun l hl j hj => ?_) (fun l hl => ?_) C.lev hT
 ·rcases ho with ⟨x, j, x1, x2, j1, j5, rfl⟩ | ho
  ·by_cases c1 : l = lev t ∧ G.fn = 2 ∧ x = G.r 0
   ·obtain ⟨rfl, c2, rfl⟩ := c1
    exact .inr (hD.z c2 j j1 j5 (.inl (hZ.fz _ hl _ x1 x2 j j1 j5)))
   refine .inl (hD.w l _ fun ⟨e, h⟩ => ?_)
   rcases h with h | ⟨h2, h | h⟩
   ·unfold oNd at h; omega
   ·have := hr h2
    unfold oNd oLk at h; omega
   have := hr h2
   refine c1 ⟨e, h2, ?_⟩
   unfold oNd at h; omega
  exact .inl (ws l o (.inr (.inl ho)))
 ·rw [ws l 1 (.inl rfl)]
  exact ⟨Nat.le_refl _, by have := hZ.ep l hl; omega⟩
 ·rw [ws l _ (.inr (.inr ⟨by omega, by omega⟩))]; exact e
 ·rw [ws l _ (.inr (.inr ⟨by omega, by omega⟩))]; exact hZ.cell l hl j hj
 rw [hh _ (by omega), uV (g := g) fun j hj => ws l _ (.inr (.inr ⟨by omega, by omega⟩))]
 exact hZ.lim l hl
theorem lc_take {σ : World} {p t q n m B S gens NL T : Nat} {c : Nat → Int} {tp : List Nat} {N lev : Nat → Nat} {g : GM} {md : Nat → List Nat} {z : StG} {L : Nat → List Nat} {ow : Nat → Nat → Nat × Nat} {had : Nat → List Nat} {ev : Nat → List (Nat × Nat)} {emp : Nat → Bool} (C : LcC c tp B S gens NL T N lev t q n m) (hI : CrI S gens NL T (levH lev) m z L ow had ev emp) (hZ : LcZ B S NL T N lev m g z had md) (hK : CodeI ow z.lv) (hH : HadC (fun j => j < T ∨ 100 ≤ j) (levH lev) ow had) {G : Fr} (h0 : g.thr t = [G]) (h1 : G.fn = 1) (hf : z.thr t = some (frS G)) (hhad : had t = md t) : LcN σ p c tp n t B S gens NL T N lev m g md := by
 have htT := C.htT
 have hT8 := C.hT8
 have et : levH lev t = lev t := vK (by omega)
 have hNL' : levH lev t < NL := by rw [et]; exact C.hNL
 have ok := hI.inv.ok (c := c) C.hm C.hS C.h60 htT hNL' hf
 obtain ⟨L2, ow2, had2, ev2, hC⟩ := lG hI C.h60 C.hm htT hNL' hf
 rw [et] at ok hC
 have h0' : g.thr t = [] ++ [G] := h0
 obtain ⟨g2, hDo, hD⟩ := st_does (σ := σ) (p := p) (n := n) (fs := []) (C.hn) C.ht C.hq C.hl C.hlc h0' (by simp) C.hB C.hS C.hg C.hNL hZ.abs ok C.h60
 have n2 : G.fn ≠ 2 := by omega
 have hh : ∀ u, u ≠ t → had2 u = had u := fun u hu => by
  rcases hC.told with ⟨a, _⟩ | ⟨_, _, _, _, _, _, a, _⟩
  ·rw [a]
  rw [a, zW hu]
 have hthr : ∀ u, u ≠ t → g2.thr u = g.thr u := fun u hu => by
  rcases hD.go with ⟨F2, e1, _⟩ | ⟨e1, _⟩ <;> rw [e1, zW hu]
 have ws := mU hD fun h2 => absurd h2 n2
 have hAw : ∀ a, AwH S NL T B lev g a → AwH S NL T B lev g2 a ∨ uC lev t g g2 a := fun a ha => .inl ⟨ha.hl, ha.x1, ha.x2, by
  cases e : g2.held a.l a.x
  ·rcases hD.held _ _ e with q | ⟨_, _, q, _⟩
   ·rw [ha.held] at q; cases q
   exact absurd q n2
  ·rfl, by
  rcases hD.wg a.l a.x with q | ⟨_, _, q, _⟩
  ·rw [q]; exact ha.gen
  exact absurd q n2, ha.at_.keep hthr (by rw [ws _ 1 (.inl rfl)]; exact Nat.le_refl _) (fun j hj _ => .inl (ws _ _ (.inr (.inr ⟨by omega, by omega⟩)))) (fun _ _ F' e c2 => by rw [h0] at e; cases e; omega) fun _ _ F' G' e => by rw [h0] at e; cases e⟩
 have hp0 : potL B (N (lev t)) (lev t) t g = potF (g.w (lev t) 0) (frS G) := by rw [yI h0]; unfold pot1; rw [if_pos h1]
 rcases hD.go with ⟨F2, e1, e2, e3, e4⟩ | ⟨e1, e2, e3, e4, e5⟩
 ·have a : had2 = had := by
   rcases hC.told with ⟨a, _⟩ | ⟨_, a, _⟩
   ·exact a
   rw [e2] at a; cases a
  have hthrT : g2.thr t = [F2] := by rw [e1, zY]; rfl
  have hT : LcT B (N (lev t)) (lev t) t g2 (z.next gens t (lev t) (frS G)) (had2 t) (md t) := by
   rw [a]; exact .inr (.inl ⟨F2, hthrT, by omega, e2, hhad⟩)
  refine ⟨g2, md, m + 1, jU C.ht C.hq C.hl C.hlc _ _ _ _ _ C.hn (.inl h1) h0' (by simp) hDo, Nat.le_refl _, ⟨_, L2, ow2, had2, ev2, _, hC.inv, mR C hI hZ hK hH hf hD hthr hC.thr hh (fun _ _ => rfl) hT, hC.code hK, hC.hadc _ (.inl htT) hH⟩, hthr, by rw [hthrT]; simp, .inl ⟨rfl, fun F' e _ e2 => (by rw [hthrT] at e2; cases e2), fun F' e e1 => by rw [h0] at e; cases e; omega⟩, .inr ?_, hAw, .inr (by rw [xW hthrT, xW h0, e4])⟩
  have hp := pot_next (gens := gens) (l := lev t) (.inl (show (frS G).fn = 1 from h1)) (frS F2) e2
  rw [hD.abs.top (lev t) C.hNL, hZ.abs.top (lev t) C.hNL] at hp
  rw [hp0, yI hthrT]
  unfold pot1
  rw [if_pos (by omega)]
  exact hp
 have hthrT : g2.thr t = [] := by rw [e1, zY]
 rcases hC.told with ⟨a, _, b⟩ | ⟨_, _, k1, k2, k3, _, a, _⟩
 ·have hT : LcT B (N (lev t)) (lev t) t g2 (z.next gens t (lev t) (frS G)) (had2 t) (md t) := by
   rw [a]; exact .inl ⟨hthrT, e2, hhad⟩
  exact ⟨g2, md, m + 1, jU C.ht C.hq C.hl C.hlc _ _ _ _ _ C.hn (.inl h1) h0' (by simp) hDo, Nat.le_refl _, ⟨_, L2, ow2, had2, ev2, _, hC.inv, mR C hI hZ hK hH hf hD hthr hC.thr hh (fun _ _ => rfl) hT, hC.code hK, hC.hadc _ (.inl htT) hH⟩, hthr, by rw [hthrT]; simp, .inl ⟨rfl, fun F' e _ _ => by rw [e4]; exact (b h1 e2).1, fun F' e e1 => by rw [h0] at e; cases e; omega⟩, .inl hthrT, hAw, .inl hthrT⟩
 have hT : LcT B (N (lev t)) (lev t) t g2 (z.next gens t (lev t) (frS G)) (had2 t) (put1 md t (md t ++ [(z.next gens t (lev t) (frS G)).t0 t]) t) := by
  rw [a, zY, zY, hhad]; exact .inl ⟨hthrT, e2, rfl⟩
 exact ⟨g2, put1 md t (md t ++ [(z.next gens t (lev t) (frS G)).t0 t]), m + 1, jU C.ht C.hq C.hl C.hlc _ _ _ _ _ C.hn (.inl h1) h0' (by simp) hDo, Nat.le_refl _, ⟨_, L2, ow2, had2, ev2, _, hC.inv, mR C hI hZ hK hH hf hD hthr hC.thr hh (fun u hu => zW hu) hT, hC.code hK, hC.hadc _ (.inl htT) hH⟩, hthr, by rw [hthrT]; simp, .inr ⟨G, _, h0, h1, hthrT, e4, k1, k2, rfl⟩, .inl hthrT, hAw, .inl hthrT⟩
theorem lc_give {σ : World} {p t q n m B S gens NL T : Nat} {c : Nat → Int} {tp : List Nat} {N lev : Nat → Nat} {g : GM} {md : Nat → List Nat} {z : StG} {L : Nat → List Nat} {ow : Nat → Nat → Nat × Nat} {had : Nat → List Nat} {ev : Nat → List (Nat × Nat)} {emp : Nat → Bool} (C : LcC c tp B S gens NL T N lev t q n m) (hI : CrI S gens NL T (levH lev) m z L ow had ev emp) (hZ : LcZ B S NL T N lev m g z had md) (hK : CodeI ow z.lv) (hH : HadC (fun j => j < T ∨ 100 ≤ j) (levH lev) ow had) {F G : Fr} (h0 : g.thr t = [F, G]) (h2 : G.fn = 2) (hf : z.thr t = some (frS G)) (hhad : had t = md t) (h23 : F.fn = 23) (hp3 : F.pc = 3) (hS3 : LcS B (lev t) t g F) : LcN σ p c tp n t B S gens NL T N lev m g md := by
 have htT := C.htT
 have hT8 := C.hT8
 have et : levH lev t = lev t := vK (by omega)
 have hNL' : levH lev t < NL := by rw [et]; exact C.hNL
 have ok := hI.inv.ok (c := c) C.hm C.hS C.h60 htT hNL' hf
 obtain ⟨L2, ow2, had2, ev2, hC⟩ := lG hI C.h60 C.hm htT hNL' hf
 obtain ⟨x1, x2, x3⟩ := (hI.inv.thr t htT _ hf).r0 h2
 have hV := hI.inv.lv _ hNL'
 rw [et] at ok hC x3 hV
 have x1 : 1 ≤ G.r 0 := x1
 have x2 : G.r 0 ≤ S := x2
 have x3 : ow (lev t) (G.r 0) = (if G.pc ≤ 6 then 4 else 5, t) := x3
 have h0' : g.thr t = [F] ++ [G] := h0
 obtain ⟨g2, hDo, hD⟩ := st_does (σ := σ) (p := p) (n := n) (fs := [F]) (C.hn) C.ht C.hq C.hl C.hlc h0' (by simp) C.hB C.hS C.hg C.hNL hZ.abs ok C.h60
 have n1 : (frS G).fn ≠ 1 := by show G.fn ≠ 1; omega
 obtain ⟨hh, _⟩ : had2 = had ∧ True := by
  rcases hC.told with ⟨a, _⟩ | ⟨a, _⟩
  ·exact ⟨a, trivial⟩
  exact absurd a n1
 have hthr : ∀ u, u ≠ t → g2.thr u = g.thr u := fun u hu => by
  rcases hD.go with ⟨F2, e1, _⟩ | ⟨e1, _⟩ <;> rw [e1, zW hu]
 have ws := mU hD fun _ => x1
 have hS3' : LcS B (lev t) t g2 F := ⟨hS3.1, hS3.2.1, by rw [ws _ 1 (.inl rfl)]; exact hS3.2.2.1, by rw [ws _ _ (.inr (.inr ⟨by omega, by have := hS3.1; omega⟩))]; exact hS3.2.2.2⟩
 have hnot7 : g.held (lev t) (G.r 0) = true → G.pc ≤ 6 := fun e => by
  by_cases h7 : G.pc ≤ 6
  ·exact h7
  rw [if_neg h7] at x3
  have := (hV.off _ x1 x2 (.inr (by rw [x3]))).1
  rw [hZ.abs.held _ _ C.hNL x1 x2, e] at this; cases this
 have hgo : G.pc < 6 → ∃ F2, g2.thr t = [F, F2] ∧ F2.fn = 2 ∧ F2.r 0 = G.r 0 := fun h6 => by
  rcases hD.go with ⟨F2, e1, e2, _, e4⟩ | ⟨_, e2, _⟩
  ·refine ⟨F2, by rw [e1, zY]; rfl, by omega, ?_⟩
   exact (give_pc (gens := gens) (l := lev t) (show (frS G).fn = 2 from h2) (show G.pc ≤ 9 by omega) e2).2.1
  exfalso
  unfold StG.next at e2
  rw [if_neg n1] at e2
  unfold StG.give at e2
  have go : ∀ (z : StG) (F0 : StF), (z.go t F0).thr t = none → False := fun z F0 e => by
   have e' : put1 z.thr t (some F0) t = none := e
   rw [zY] at e'; cases e'
  have epc : (frS G).pc = G.pc := rfl
  by_cases q0 : (frS G).pc = 0
  ·rw [if_pos q0] at e2; exact go _ _ e2
  rw [if_neg q0] at e2
  by_cases q1 : (frS G).pc = 1
  ·rw [if_pos q1] at e2; exact go _ _ e2
  rw [if_neg q1] at e2
  by_cases q2 : (frS G).pc = 2
  ·rw [if_pos q2] at e2; exact go _ _ e2
  rw [if_neg q2] at e2
  by_cases q3 : (frS G).pc = 3
  ·rw [if_pos q3] at e2; exact go _ _ e2
  rw [if_neg q3] at e2
  by_cases q4 : (frS G).pc = 4
  ·rw [if_pos q4] at e2; exact go _ _ e2
  rw [if_neg q4] at e2
  rw [if_pos (by omega)] at e2
  exact go _ _ e2
 have hdrop : G.pc = 6 → g2.held (lev t) (G.r 0) = false := fun h6 => by
  rw [← hD.abs.held _ _ C.hNL x1 x2]
  unfold StG.next
  rw [if_neg n1]
  unfold StG.give
  have epc : (frS G).pc = 6 := h6
  rw [if_neg (by omega), if_neg (by omega), if_neg (by omega), if_neg (by omega), if_neg (by omega), if_neg (by omega), if_pos epc]
  have hl : ∀ V : LvG, ((z.lev (lev t) V).lv (lev t)) = V := fun V => zY _ _ _
  split
  ·show ((z.lev (lev t) _).lv (lev t)).held (G.r 0) = false
   rw [hl]; exact zY _ _ _
  show ((z.lev (lev t) _).lv (lev t)).held (G.r 0) = false
  rw [hl]; exact zY _ _ _
 have hAw : ∀ a, AwH S NL T B lev g a → AwH S NL T B lev g2 a ∨ uC lev t g g2 a := fun a ha => by
  by_cases hd : a.l = lev t ∧ a.x = G.r 0 ∧ G.pc = 6
  ·obtain ⟨d1, d2, d3⟩ := hd
   refine .inr ⟨d1, ?_, by rw [d1, d2]; exact hdrop d3⟩
   have hat := ha.at_
   rw [d1, d2] at hat
   rw [if_pos (by omega)] at x3
   rcases hat with ⟨u, F', a1, a2, a3, a4, a5, _⟩ | ⟨j, a1, a2, a3, _⟩ | ⟨u, F', G', a1, a2, a3, a4, a5, a6, a7⟩
   ·exfalso
    have hTu := hZ.thr u a1
    rcases hTu with ⟨b, _⟩ | ⟨F'', b, b2, _⟩ | ⟨F'', b, _, _, b2⟩ | ⟨F'', x, b, _, b2, b3⟩ | ⟨_, _, b, _⟩
    ·rw [a3] at b; cases b
    ·rw [a3] at b; cases b; omega
    ·rw [a3] at b; cases b
     rcases b2 with ⟨b2, _⟩ | ⟨b2, _⟩ | ⟨b2, _⟩ | ⟨b2, _⟩ <;> omega
    ·rw [a3] at b; cases b
     obtain ⟨_, _, _, b4, _⟩ := b3
     have := ((hI.inv.had u).all x (by rw [b2]; exact List.mem_cons_self)).2.2
     rw [vK (by omega), a2, ← b4, a5, x3] at this
     have h42 : 4 = 2 := congrArg Prod.fst this
     cases h42
    rw [a3] at b; cases b
   ·exfalso
    have hm : G.r 0 ∈ had (100 + lev t) := (hZ.lim _ C.hNL).mem_iff.2 (kSlots_mem.2 ⟨_, List.mem_of_getElem? (wI a1), a2, a3⟩)
    have := ((hI.inv.had _).all _ hm).2.2
    rw [uF, x3] at this
    have h42 : 4 = 2 := congrArg Prod.fst this
    cases h42
   have hTu := hZ.thr u a1
   rcases hTu with ⟨b, _⟩ | ⟨F'', b, _⟩ | ⟨F'', b, _⟩ | ⟨F'', x, b, _⟩ | ⟨F'', G'', b, b2, b3, _, _, _, b4⟩
   ·rw [a3] at b; cases b
   ·rw [a3] at b; cases b
   ·rw [a3] at b; cases b
   ·rw [a3] at b; cases b
   rw [a3] at b; cases b
   have hu := ((hI.inv.thr u a1 _ b3).r0 b2).2.2
   have hu : ow (levH lev u) (G'.r 0) = (if G'.pc ≤ 6 then 4 else 5, u) := hu
   rw [vK (by omega), a2, a6, x3] at hu
   have hut : t = u := congrArg Prod.snd hu
   subst hut
   have := b4.2.2.1
   omega
  have hh2 : g2.held a.l a.x = true := by
   cases e : g2.held a.l a.x
   ·rcases hD.held _ _ e with q | ⟨q1, q2, _, q3⟩
    ·rw [ha.held] at q; cases q
    exact absurd ⟨q1, q2, q3⟩ hd
   rfl
  have hg2 : g2.wg a.l a.x = a.gn := by
   rcases hD.wg a.l a.x with q | ⟨q1, q2, _, q3⟩
   ·rw [q]; exact ha.gen
   exact absurd ⟨q1, q2, q3⟩ hd
  refine .inl ⟨ha.hl, ha.x1, ha.x2, hh2, hg2, ha.at_.keep hthr (by rw [ws _ 1 (.inl rfl)]; exact Nat.le_refl _) (fun j hj _ => .inl (ws _ _ (.inr (.inr ⟨by omega, by omega⟩)))) (fun _ _ F' e => by rw [h0] at e; cases e) fun _ hlt F' G' e c1 c2 c3 c4 => ?_⟩
  rw [h0] at e
  cases e
  have h6 := hnot7 (by rw [hlt, c3]; exact ha.held)
  obtain ⟨F2, f1, f2, f3⟩ := hgo (by
   by_cases e6 : G.pc = 6
   ·exact absurd ⟨hlt.symm, c3.symm, e6⟩ hd
   omega)
  exact .inr (.inr ⟨t, F, F2, htT, hlt, f1, c1, f2, by rw [f3]; exact c3, c4⟩)
 have hO : LcO B S lev t g g2 md md := .inl ⟨rfl, fun F' e => (by rw [h0] at e; cases e), fun F' e => (by rw [h0] at e; cases e)⟩
 have hDL := jU (σ := σ) (p := p) C.ht C.hq C.hl C.hlc _ _ _ _ _ C.hn (.inr h2) h0' (by simp) hDo
 rcases hD.go with ⟨F2, e1, e2, e3, e4⟩ | ⟨e1, e2, e3, e4, e5⟩
 ·have hthrT : g2.thr t = [F, F2] := by rw [e1, zY]; rfl
  have hT : LcT B (N (lev t)) (lev t) t g2 (z.next gens t (lev t) (frS G)) (had2 t) (md t) := by
   rw [hh]; exact .inr (.inr (.inr (.inr ⟨F, F2, hthrT, by omega, e2, hhad, h23, hp3, hS3'⟩)))
  refine ⟨g2, md, m + 1, hDL, Nat.le_refl _, ⟨_, L2, ow2, had2, ev2, _, hC.inv, mR C hI hZ hK hH hf hD hthr hC.thr (fun u _ => by rw [hh]) (fun _ _ => rfl) hT, hC.code hK, hC.hadc _ (.inl htT) hH⟩, hthr, by rw [hthrT]; exact Nat.le_refl _, hO, .inr ?_, hAw, .inr (by rw [xW hthrT, xW h0])⟩
  have hp := pot_next (gens := gens) (l := lev t) (.inr (show (frS G).fn = 2 from h2)) (frS F2) e2
  rw [hD.abs.top (lev t) C.hNL, hZ.abs.top (lev t) C.hNL] at hp
  rw [rH h0, rH hthrT]
  omega
 have hthrT : g2.thr t = [F] := by rw [e1, zY]
 have hT : LcT B (N (lev t)) (lev t) t g2 (z.next gens t (lev t) (frS G)) (had2 t) (md t) := by
  rw [hh]; exact .inr (.inr (.inl ⟨F, hthrT, e2, hhad, .inr (.inr (.inr ⟨h23, .inr (.inr (.inr ⟨hp3, hS3'⟩))⟩))⟩))
 refine ⟨g2, md, m + 1, hDL, Nat.le_refl _, ⟨_, L2, ow2, had2, ev2, _, hC.inv, mR C hI hZ hK hH hf hD hthr hC.thr (fun u _ => by rw [hh]) (fun _ _ => rfl) hT, hC.code hK, hC.hadc _ (.inl htT) hH⟩, hthr, by rw [hthrT]; simp, hO, .inr ?_, hAw, .inr (by rw [xW hthrT, xW h0])⟩
 rw [rH h0, yI hthrT]
 unfold pot1
 rw [if_neg (by omega), if_neg (by omega), if_neg (by omega), if_neg (by omega), if_pos h23, if_neg (by omega), if_neg (by omega), if_neg (by omega)]
 have := pot_pos (g.w (lev t) 0) (frS G)
 omega
theorem lc_next {σ : World} {p t q n m B S gens NL T : Nat} {c : Nat → Int} {tp : List Nat} {N lev : Nat → Nat} {g : GM} {md : Nat → List Nat} (C : LcC c tp B S gens NL T N lev t q n m) (h : LcI B S gens NL T N lev m g md) (hne : g.thr t ≠ []) : LcN σ p c tp n t B S gens NL T N lev m g md := by
 obtain ⟨z, L, ow, had, ev, emp, hI, hZ, hK, hH⟩ := h.ex
 rcases hZ.thr t C.htT with ⟨h0, _⟩ | ⟨F, h0, h1, hf, hhad⟩ | ⟨F, h0, hf, hhad, hF⟩ | ⟨F, x, h0, hf, hhad, hF⟩ | ⟨F, G, h0, h2, hf, hhad, h23, hp3, hS3⟩
 ·exact absurd h0 hne
 ·exact lc_take C hI hZ hK hH h0 h1 hf hhad
 ·rcases hF with hF | hF | hF | hF
  ·exact lc_adv C hI hZ hK hH h0 hf hhad hF
  ·exact lc_rsv C hI hZ hK hH h0 hf hhad hF
  ·exact lc_rel C hI hZ hK hH h0 hf hhad hF
  exact lc_sweep C hI hZ hK hH h0 hf hhad hF
 ·exact lc_fill C hI hZ hK hH h0 hf hhad hF
 exact lc_give C hI hZ hK hH h0 h2 hf hhad h23 hp3 hS3
end
section
open Go.RowKit
theorem mX {σ : World} {M : Mm} {lab : Nat → Nat} {p t q n : Nat} {c : Nat → Int} {tp : List Nat} {s : MachS} {g : GM} (hM : Mach M lab p s) (hA : AbsM c tp n s g) (ht : (t : Int) < c 1) (hq : tp[t]? = some q) :
  ∀ w, Has σ M w → Calls Tryz.prog 30 #[.pointer (some ⟨q, 0, none⟩)] w fun r w' => r = .returned (.int .i64 ((g.thr t).length : Nat)) ∧ Has σ M w' := fun w h => by
 obtain ⟨fv, hv, fbs, hTh⟩ := hM.each t q (by rw [hA.ttp]; exact hq)
 have hl := hTh.flen
 have := uH h hTh
 rw [hl, hA.thr.fr t ht, List.length_map] at this
 exact this
theorem qR {σ w : World} {K M : Mm} {lab : Nat → Nat} {p t q n : Nat} {c : Nat → Int} {tp : List Nat} {s : MachS} {g : GM} (h : Has σ M w) (hM : Mach M lab p s) (hB : Base K M lab) (hA : AbsM c tp n s g) (ht : (t : Int) < c 1) (hq : tp[t]? = some q) (hi : g.thr t = []) (fn : Nat) {us : List Nat} {rv : Value} (hr : Rd M 1 rv us.length (u64s (us.map fun u : Nat => (u : Int)))) (hu : us.length ≤ 16) :
  Calls Tryz.prog 34 #[.pointer (some ⟨q, 0, none⟩), .int .i64 (fn : Nat), rv] w fun r w' => r = .returned (.tuple #[]) ∧ ∃ M' lab' s', Has σ M' w' ∧ Mach M' lab' p s' ∧ Base K M' lab' ∧ AbsM c tp n s' (g.top t [] ⟨fn, 0, fun i => us.getD i 0⟩) := by
 have hq2 : s.tp[t]? = some q := by rw [hA.ttp]; exact hq
 obtain ⟨fv, hv, fbs, hTh⟩ := hM.each t q hq2
 have hl := hTh.flen
 rw [hA.thr.fr t ht, hi] at hl
 refine (pX h hTh fn (rv := rv) (us := us.map fun u : Nat => (u : Int)) (by rw [List.length_map]; exact hr) (by rw [List.length_map]; exact hu) (by rw [hl]; decide)).mono fun r w' hq => ?_
 obtain ⟨e1, M', lab', hh, hK, hI⟩ := hq
 obtain ⟨hM', hB'⟩ := hM.thrTo hB hq2 hK hI
 have hA2 := hA.begun ht fn us
 rw [hi] at hA2
 exact ⟨e1, M', lab', _, hh, hM', hB', hA2⟩
end
section
open Go.RowKit
def levT (c : Nat → Int) (t : Nat) : Nat := (zT c t).toNat
theorem uP {c : Nat → Int} {L B S T : Nat} (hc : zF c) (hn : Nums c L B S) (hT : c 1 = (T : Nat)) {t : Nat} (ht : t < T) : zT c (t : Nat) = (levT c t : Nat) ∧ levT c t < L := by
 obtain ⟨_, ⟨a3, a4⟩, _, a5, _⟩ := id hc
 have h8 := a5 t (by omega)
 have hl : zT c (t : Nat) = c (2 + t) := by
  unfold zT
  rw [if_pos ⟨decide_eq_true hc, by omega, by omega⟩, Int.toNat_natCast]
 have hlev := hn.lev
 unfold levT
 rw [hl]
 omega
theorem lev_cell {c : Nat → Int} {L B S T : Nat} (hc : zF c) (hn : Nums c L B S) (hT : c 1 = (T : Nat)) {y : Nat} (hy : y < T) : c (2 + y) = (levT c y : Nat) := by
 rw [← (uP hc hn hT hy).1]
 unfold zT
 rw [if_pos ⟨decide_eq_true hc, by omega, by omega⟩, Int.toNat_natCast]
end
section
open Go.RowKit
section
variable {σ : World} {p t q l n T : Nat} {c : Nat → Int} {tp : List Nat} {g : GM}
theorem atC_pos {L B S : Nat} (hc : zF c) (hn : Nums c L B S) (hT : c 1 = (T : Nat)) (ht : t < T) : 0 < (atC c T (levT c t)).length ∧ (atC c T (levT c t)).length ≤ 8 ∧ ∀ y ∈ atC c T (levT c t), y < T := by
 have hT8 : T ≤ 8 := by have := hc.2.1; omega
 refine ⟨List.length_pos_iff.2 fun e => ?_, ?_, fun y hy => ?_⟩
 ·have hm : t ∈ atC c T (levT c t) := List.mem_filter.2 ⟨List.mem_range.2 ht, by rw [lev_cell hc hn hT ht]; simp⟩
  rw [e] at hm; cases hm
 ·refine Nat.le_trans (List.length_filter_le _ _) ?_
  rw [List.length_range]; exact hT8
 exact List.mem_range.1 (List.mem_filter.1 hy).1
end
structure LiI (S B gens L T m : Nat) (g : GM) (Lf C had : Nat → List Nat) (ep : Nat → Nat) : Prop where
 lv : ∀ l, l < L → LbX S B gens m g l (Lf l) (C l) (had l)
 ep : ∀ l, l < L → g.w l 1 = ep l ∧ ep l ≤ m + 2
 act : ∀ l, l < L → ∀ o, 10 ≤ o → o < 18 → g.w l o = 0
 idle : ∀ t, t < T → g.thr t = []
section
variable {S B gens L T m m' l t : Nat} {g g2 : GM} {Lf C had : Nat → List Nat} {ep : Nat → Nat}
theorem LiI.mono (h : LiI S B gens L T m g Lf C had ep) (hm : m ≤ m') : LiI S B gens L T m' g Lf C had ep := ⟨fun l hl => (h.lv l hl).mono hm, fun l hl => ⟨(h.ep l hl).1, by have := (h.ep l hl).2; omega⟩, h.act, h.idle⟩
theorem LiI.step (h : LiI S B gens L T m g Lf C had ep) (hl : l < L) {L2 C2 had2 : List Nat} (hX : LbX S B gens m' g2 l L2 C2 had2) (hF : Far t l g g2) (ht : g2.thr t = []) (hm : m ≤ m') : LiI S B gens L T m' g2 (put1 Lf l L2) (put1 C l C2) (put1 had l had2) ep := by
 refine ⟨fun l' hl' => ?_, fun l' hl' => ⟨(hF.w l' 1 (.inr (by omega))).trans (h.ep l' hl').1, by have := (h.ep l' hl').2; omega⟩, fun l' hl' o o1 o2 => (hF.w l' o (.inr (by omega))).trans (h.act l' hl' o o1 o2), fun u hu => ?_⟩
 ·by_cases e : l' = l
  ·subst e; rw [zY, zY, zY]; exact hX
  rw [zW e, zW e, zW e]
  exact ((h.lv l' hl').congr (fun o _ => hF.w l' o (.inl e)) fun i => hF.held l' i e).mono hm
 by_cases e : u = t
 ·subst e; exact ht
 rw [hF.thr u e]; exact h.idle u hu
theorem LiI.first (hS : 2 ≤ S) (hg : 1 ≤ gens) : LiI S B gens L T 0 (gm0 B S) (fun _ => yB 2 (S - 1)) (fun _ => List.replicate B 0) (fun _ => []) (fun _ => 2) := by
 refine ⟨fun l _ => LbX.first hS hg l, fun l _ => ⟨?_, Nat.le_refl _⟩, fun l _ o o1 o2 => ?_, fun _ _ => rfl⟩
 ·show (w0 B S S 1).toNat = 2
  unfold w0
  rfl
 show (w0 B S S o).toNat = 0
 unfold w0
 rw [if_neg (by omega), if_neg (by omega), if_neg (by omega), if_neg (by omega)]; rfl
end
section
variable {σ w : World} {K M : Mm} {lab : Nat → Nat} {p t q n L B S T m gens most : Nat} {s : MachS} {c : Nat → Int} {tp : List Nat} {g : GM} {Lf C had : Nat → List Nat} {ep : Nat → Nat}
theorem li_take (h : Has σ M w) (hM : Mach M lab p s) (hB : Base K M lab) (hA : AbsM c tp n s g) (hc : zF c) (hn : Nums c L B S) (hT : c 1 = (T : Nat)) (hg : c 12 = (gens : Nat)) (hn8 : n < 45000) (hm : m < 600000) (ht : t < T) (hq : tp[t]? = some q) (I : LiI S B gens L T m g Lf C had ep) (hmo : most < 1000) (h4 : 4 ≤ most) :
  Calls Tryz.prog 14 #[.pointer (some ⟨p, 0, none⟩), .int .i64 (t : Nat), (.func (.func 15) #[] #[]), .int .i64 (most : Nat), .int .i64 (1 : Nat), .slice none 0 0] w fun r w' => ∃ (k : Nat) (g2 : GM), r = .returned (.int .i64 (k : Nat)) ∧ 0 < k ∧ k ≤ most ∧ ∃ M' lab' s', Has σ M' w' ∧ Mach M' lab' p s' ∧ Base K M' lab' ∧ AbsM c tp (n + k) s' g2 ∧ ((Lf (levT c t) = [] ∧ g2.told t 0 = 0 ∧ LiI S B gens L T (m + 1) g2 Lf C had ep) ∨ (∃ x r, Lf (levT c t) = x :: r ∧ 1 ≤ x ∧ x ≤ S ∧ g2.told t 0 = x ∧ g2.told t 1 ≤ m ∧ LiI S B gens L T (m + 1) g2 (put1 Lf (levT c t) r) C (put1 had (levT c t) (had (levT c t) ++ [x])) ep)) := by
 obtain ⟨elv, ll⟩ := uP hc hn hT ht
 have ht1 : (t : Int) < c 1 := by rw [hT]; omega
 have hlc : (levT c t : Int) < c 0 := by rw [hn.lev]; omega
 have hs60 := hn.s0.2
 have hb60 : B ≤ 60 := by have h1 := yU hc; have h2 := hn.lim; omega
 have hi := I.idle t ht
 have hX := I.lv (levT c t) ll
 have hE := I.ep (levT c t) ll
 have IR := hX.lv.rest
 cases hL : Lf (levT c t) with
 | nil =>
  have S1 := kT (D := fun n g g2 => zG 15 σ p t c tp n (levT c t) g g2) (p := p) (d := 0) (n := n) (g := g.top t [] ⟨1, 0, fun i => ([] : List Nat).getD i 0⟩) (fs := []) (jU ht1 hq elv hlc) (by omega) ht1 hq elv hlc zO (by simp) (Nat.zero_le _) hn.lim hn.slo hs60 (by omega) (IR.congr rfl (fun _ _ _ => rfl) (fun _ _ _ => rfl) fun _ _ => rfl) rfl rfl (by show 0 < _; decide) hL
  rw [uJ] at S1
  refine (S1.alone h hM hB hA (by omega) ht1 hq elv hi (us := []) (rv := .slice none 0 0) (Rd.nil _ _ _) (by simp) zC (by decide) (by omega) hmo (by kernel_rfl)).mono fun r w' ⟨hr, M', lab', s', a1, a2, a3, a4⟩ => ⟨2, _, hr, by decide, by omega, M', lab', s', a1, a2, a3, a4, .inl ⟨rfl, ?_, ?_⟩⟩
  ·show put1 g.told t _ t 0 = 0
   rw [zY]; rfl
  have := I.step (t := t) ll (g2 := g.back t [] [0, 0]) (hX.congr (fun _ _ => rfl) fun _ => rfl) Far.back zC (Nat.le_refl m)
  rw [yV, yV, yV] at this
  exact this.mono (by omega)
 | cons x r =>
  have hX' := hX
  rw [hL] at hX'
  obtain ⟨x1, x2, _⟩ := hX'.lv.rest.rng x List.mem_cons_self
  have S1 := steps_take (D := fun n g g2 => zG 15 σ p t c tp n (levT c t) g g2) (p := p) (d := 0) (n := n) (g := g.top t [] ⟨1, 0, fun i => ([] : List Nat).getD i 0⟩) (fs := []) (jU ht1 hq elv hlc) (by omega) ht1 hq elv hlc zO (by simp) (Nat.zero_le _) hn.lim hn.slo hs60 (by omega) (IR.congr rfl (fun _ _ _ => rfl) (fun _ _ _ => rfl) fun _ _ => rfl) rfl rfl (by show 0 < _; decide) hL
  have et : tX B S (g.top t [] ⟨1, 0, fun i => ([] : List Nat).getD i 0⟩) t (levT c t) [] x = tX B S g t (levT c t) [] x := by
   unfold tX
   have e : ∀ o, (g.top t [] ⟨1, 0, fun i => ([] : List Nat).getD i 0⟩).w (levT c t) o = g.w (levT c t) o := fun _ => rfl
   rw [e, e, e, mY, top_hold, uJ]
  rw [et] at S1
  refine (S1.alone h hM hB hA (by omega) ht1 hq elv hi (us := []) (rv := .slice none 0 0) (Rd.nil _ _ _) (by simp) zC (by decide) (by omega) hmo (by kernel_rfl)).mono fun r' w' ⟨hr, M', lab', s', a1, a2, a3, a4⟩ => ⟨4, _, hr, by decide, by omega, M', lab', s', a1, a2, a3, a4, .inr ⟨x, r, rfl, x1, x2, ?_, ?_, ?_⟩⟩
  ·show put1 g.told t _ t 0 = x
   rw [zY]; rfl
  ·show put1 g.told t _ t 1 ≤ m
   rw [zY]
   exact (hX'.lv.rest.hd x x1 x2).2
  have := I.step (t := t) ll (hX'.take (t := t) (fs := []) (by omega) hs60) Far.take zC (Nat.le_succ m)
  rw [yV C] at this
  exact this
theorem li_rsv (h : Has σ M w) (hM : Mach M lab p s) (hB : Base K M lab) (hA : AbsM c tp n s g) (hc : zF c) (hn : Nums c L B S) (hT : c 1 = (T : Nat)) (hg : c 12 = (gens : Nat)) (hn8 : n < 45000) (hm : m < 600000) (ht : t < T) (hq : tp[t]? = some q) (I : LiI S B gens L T m g Lf C had ep) (hmo : most < 1000) (h4 : 2 * B + 1 ≤ most) (h3 : 2 ≤ most) :
  Calls Tryz.prog 14 #[.pointer (some ⟨p, 0, none⟩), .int .i64 (t : Nat), (.func (.func 15) #[] #[]), .int .i64 (most : Nat), .int .i64 (20 : Nat), .slice none 0 0] w fun r w' => ∃ (k : Nat) (g2 : GM), r = .returned (.int .i64 (k : Nat)) ∧ 0 < k ∧ k ≤ most ∧ ∃ M' lab' s', Has σ M' w' ∧ Mach M' lab' p s' ∧ Base K M' lab' ∧ AbsM c tp (n + k) s' g2 ∧ (((∀ i, i < B → (C (levT c t)).getD i 0 ≠ 0) ∧ g2.told t 0 = 0 ∧ LiI S B gens L T m g2 Lf C had ep) ∨ (∃ j, j < B ∧ (∀ i, i < j → (C (levT c t)).getD i 0 ≠ 0) ∧ (C (levT c t)).getD j 0 = 0 ∧ g2 = (g.set (levT c t) (18 + j) (zI t)).back t [] [1, j])) := by
 obtain ⟨elv, ll⟩ := uP hc hn hT ht
 have ht1 : (t : Int) < c 1 := by rw [hT]; omega
 have hlc : (levT c t : Int) < c 0 := by rw [hn.lev]; omega
 have hs60 := hn.s0.2
 have hb60 : B ≤ 60 := by have h1 := yU hc; have h2 := hn.lim; omega
 have hi := I.idle t ht
 have hX := I.lv (levT c t) ll
 have hE := I.ep (levT c t) ll
 by_cases hf : ∃ j, j < B ∧ (∀ i, i < j → (C (levT c t)).getD i 0 ≠ 0) ∧ (C (levT c t)).getD j 0 = 0
 ·obtain ⟨j, j1, j2, j3⟩ := hf
  have S1 := steps_rsv (σ := σ) (p := p) (n := n) (g := g) ht1 hq elv hlc hn.lim (by omega) (by omega) j1 (fun i hi => by rw [hX.w i (by omega)]; exact j2 i hi) (by rw [hX.w j j1]; exact j3)
  refine (S1.alone h hM hB hA (by omega) ht1 hq elv hi (us := []) (rv := .slice none 0 0) (Rd.nil _ _ _) (by simp) zC (by omega) (by omega) hmo (by kernel_rfl)).mono fun r w' ⟨hr, M', lab', s', a1, a2, a3, a4⟩ => ⟨j + 2, _, hr, by omega, by omega, M', lab', s', a1, a2, a3, a4, .inr ⟨j, j1, j2, j3, rfl⟩⟩
 have hall : ∀ i, i < B → (C (levT c t)).getD i 0 ≠ 0 := by
  intro i
  induction i using Nat.strongRecOn with
  | ind i ih => exact fun hi e => hf ⟨i, hi, fun k hk => ih k hk (by omega), e⟩
 have S1 := steps_rsv_no (σ := σ) (p := p) (n := n) (g := g) ht1 hq elv hlc hn.lim (by omega) (by omega) fun i hi => by rw [hX.w i hi]; exact hall i hi
 refine (S1.alone h hM hB hA (by omega) ht1 hq elv hi (us := []) (rv := .slice none 0 0) (Rd.nil _ _ _) (by simp) zC (by omega) (by omega) hmo (by kernel_rfl)).mono fun r w' ⟨hr, M', lab', s', a1, a2, a3, a4⟩ => ⟨B + 1, _, hr, by omega, by omega, M', lab', s', a1, a2, a3, a4, .inl ⟨hall, ?_, ?_⟩⟩
 ·show put1 g.told t _ t 0 = 0
  rw [zY]; rfl
 have := I.step (t := t) ll (g2 := g.back t [] [0]) (hX.congr (fun _ _ => rfl) fun _ => rfl) Far.back zC (Nat.le_refl m)
 rw [yV, yV, yV] at this
 exact this
theorem li_fill (h : Has σ M w) (hM : Mach M lab p s) (hB : Base K M lab) {j z sl gn : Nat} {us : List Nat} (hA : AbsM c tp n s ((g.set (levT c t) (18 + j) z).back t [] us)) (hc : zF c) (hn : Nums c L B S) (hT : c 1 = (T : Nat)) (hg : c 12 = (gens : Nat)) (hn8 : n < 45000) (hm : m < 600000) (ht : t < T) (hq : tp[t]? = some q) (I : LiI S B gens L T m g Lf C had ep) (hmo : most < 1000) (h4 : 2 ≤ most) (hj : (C (levT c t))[j]? = some 0) (hsl : sl < 256) (hgn : gn < 9223372036854775808) {had2 : List Nat} (hp : (had (levT c t)).Perm (sl :: had2)) {rv : Value} (hr : Rd M 1 rv 3 (u64s ([j, sl, gn].map fun u : Nat => (u : Int)))) :
  Calls Tryz.prog 14 #[.pointer (some ⟨p, 0, none⟩), .int .i64 (t : Nat), (.func (.func 15) #[] #[]), .int .i64 (most : Nat), .int .i64 (22 : Nat), rv] w fun r w' => ∃ (k : Nat) (g2 : GM), r = .returned (.int .i64 (k : Nat)) ∧ 0 < k ∧ k ≤ most ∧ ∃ M' lab' s', Has σ M' w' ∧ Mach M' lab' p s' ∧ Base K M' lab' ∧ AbsM c tp (n + k) s' g2 ∧ LiI S B gens L T m g2 Lf (put1 C (levT c t) ((C (levT c t)).set j (xY sl gn (ep (levT c t))))) (put1 had (levT c t) had2) ep := by
 obtain ⟨elv, ll⟩ := uP hc hn hT ht
 have ht1 : (t : Int) < c 1 := by rw [hT]; omega
 have hlc : (levT c t : Int) < c 0 := by rw [hn.lev]; omega
 have hs60 := hn.s0.2
 have hb60 : B ≤ 60 := by have h1 := yU hc; have h2 := hn.lim; omega
 have hi := I.idle t ht
 have hX := I.lv (levT c t) ll
 have hE := I.ep (levT c t) ll
 have hj1 := (List.getElem?_eq_some_iff.1 hj).1
 have hjB : j < B := by rw [← hX.len]; exact hj1
 have e1 : ((g.set (levT c t) (18 + j) z).back t [] us).w (levT c t) 1 = ep (levT c t) := by
  show (g.set (levT c t) (18 + j) z).w _ 1 = _
  rw [zM, if_neg fun hh => by have := hh.2; omega]; exact hE.1
 have S1 := steps_fill (σ := σ) (p := p) (n := n) (g := (g.set (levT c t) (18 + j) z).back t [] us) ht1 hq elv hlc hn.lim (by omega) hjB (by omega) (s := sl) (by omega) hgn (by rw [e1]; omega)
 rw [e1] at S1
 refine (S1.alone h hM hB hA (by omega) ht1 hq elv zC (us := [j, sl, gn]) hr (by simp) zC (by decide) (by omega) hmo (by kernel_rfl)).mono fun r w' ⟨hr, M', lab', s', a1, a2, a3, a4⟩ => ⟨2, _, hr, by decide, by omega, M', lab', s', a1, a2, a3, a4, ?_⟩
 have e2 : ∀ o, (((g.set (levT c t) (18 + j) z).back t [] us).set (levT c t) (18 + j) (xY sl gn (ep (levT c t)))).w (levT c t) o = (g.set (levT c t) (18 + j) (xY sl gn (ep (levT c t)))).w (levT c t) o := fun o => by
  rw [zM, zM]
  by_cases e : o = 18 + j
  ·rw [if_pos ⟨rfl, e⟩, if_pos ⟨rfl, e⟩]
  rw [if_neg fun hh => e hh.2, if_neg fun hh => e hh.2]
  show (g.set (levT c t) (18 + j) z).w _ o = _
  rw [zM, if_neg fun hh => e hh.2]
 have hX2 := hX.fill (i := j) (v := xY sl gn (ep (levT c t))) (had2 := had2) (by rw [jK hsl]; exact hp) hj (cell_ne _ _ _) (cell_lt _ _ _) (jJ _ _ _)
 have := I.step (t := t) ll (g2 := (((g.set (levT c t) (18 + j) z).back t [] us).set (levT c t) (18 + j) (xY sl gn (ep (levT c t)))).back t [] []) (hX2.congr (fun o _ => e2 o) fun _ => rfl) (((Far.cell.trans Far.back).trans Far.cell).trans Far.back) zC (Nat.le_refl m)
 rw [yV Lf] at this
 exact this
end
end
end Go.Proofs.YtjeeldacnllipaaGreat
