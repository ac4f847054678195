/- Steps of regions that draw: a variable is made; a literal is appended; a cell of a row of the call's own is stored. -/
import Derived.Test.YtefjjagejgeedaaCroA
import Derived.Test.YtefjjagejgeedaaLinksB
import Derived.Test.YtefjjagejgeedaaMachT
namespace Go.Proofs.Ytefjjagejgeedaa
section
open Go.RowKit
set_option linter.unusedVariables false
set_option linter.unusedSimpArgs false
set_option linter.unnecessarySimpa false
theorem put1_put1 {α : Type} (f : Nat → α) (k : Nat) (a b : α) : put1 (put1 f k a) k b = put1 f k b := by funext j; unfold put1; by_cases hj : j = k <;> simp [hj]
/-- What the warden knows. -/
structure WardG (c : Nat → Int) (n : Nat) (wd : WardS) (G : Nat → LvG) : Prop where
  lv : wd.lv = c 0
  sl : wd.sl = c 10
  held : ∀ l i : Nat, (l : Int) < c 0 → 1 ≤ i → (i : Int) ≤ c 10 → valE (l : Nat) (i : Nat) wd.held = if (G l).held i then 1 else 0
  once : OnceE wd.held
  stamp : StampE wd.gens wd.gclk
  gens : ∀ l i : Int, 0 ≤ valE l i wd.gens ∧ valE l i wd.gens ≤ n
  slips : wd.slips = 0
/-- What threads are within. -/
structure ThrG (c : Nat → Int) (thr : Nat → ThrS) (g : StG) : Prop where
  fr : ∀ t : Nat, (t : Int) < c 1 → (thr t).frames = match g.thr t with | none => [] | some F => [F.enc]
  run : ∀ t : Nat, ((thr t).st || (thr t).ki) = false
  told : ∀ t : Nat, (thr t).told 0 = (g.t0 t : Nat) ∧ (thr t).told 1 = (g.t1 t : Nat)
structure AbsG (c : Nat → Int) (tp : List Nat) (n : Nat) (s : MachS) (g : StG) : Prop where
  cc : s.c = c
  may : ConfMay c
  ttp : s.tp = tp
  memN : (s.mem.N : Int) = c 0 * firsts c 10
  words : Words c s.mem.f g.lv
  ward : WardG c n s.ward g.lv
  thr : ThrG c s.thr g
  flt : s.mem.flt = false
  fault : s.fault = false
  acc : s.mem.acc ≤ n
  wr : s.mem.wr ≤ n
  steps : s.steps ≤ n
  clk : ∀ k, s.clk k ≤ n
  given : s.given.length ≤ n
theorem AbsG.good {c : Nat → Int} {tp : List Nat} {n : Nat} {s : MachS} {g : StG} (h : AbsG c tp n s g) : s.bad = false := by
  unfold MachS.bad
  rw [h.fault, h.flt, h.ward.slips]
  rfl
section
variable {c : Nat → Int} {tp : List Nat} {n : Nat} {s s2 : MachS} {g g2 : StG} {t l : Nat}
theorem WardG.mono {m : Nat} {wd : WardS} {G : Nat → LvG} (h : WardG c n wd G) (hm : n ≤ m) : WardG c m wd G := ⟨h.lv, h.sl, h.held, h.once, h.stamp, fun l i => by have := h.gens l i; omega, h.slips⟩
theorem WardG.same {wd : WardS} {G : Nat → LvG} (h : WardG c n wd G) {L : LvG} (e : L.held = (G l).held) : WardG c n wd (put1 G l L) := by
  refine ⟨h.lv, h.sl, fun l' i h1 h2 h3 => ?_, h.once, h.stamp, h.gens, h.slips⟩
  rw [h.held l' i h1 h2 h3]
  by_cases hl : l' = l
  · subst hl; rw [put1_same, e]
  · rw [put1_ne hl]
theorem WardG.take {wd : WardS} {G : Nat → LvG} (h : WardG c n wd G) {i : Nat} {L : LvG} (e : L.held = put1 (G l).held i true) : WardG c n (wd.take (l : Nat) (i : Nat)) (put1 G l L) := by
  refine ⟨h.lv, h.sl, fun l' j h1 h2 h3 => ?_, h.once.put _ _ _ _, h.stamp, h.gens, h.slips⟩
  show valE _ _ (putE _ _ _ _ _) = _
  rw [valE_put]
  by_cases hl : l' = l
  · subst hl
    rw [put1_same, e]
    by_cases hj : j = i
    · subst hj; rw [put1_same, if_pos ⟨rfl, rfl⟩]; rfl
    · rw [put1_ne hj, if_neg (by omega), h.held l' j h1 h2 h3]
  · rw [put1_ne hl, if_neg (by omega), h.held l' j h1 h2 h3]
theorem WardG.gone {wd : WardS} {G : Nat → LvG} (h : WardG c n wd G) {i : Nat} {L : LvG} (e : L.held = put1 (G l).held i false) : WardG c (n + 1) (wd.gone (l : Nat) (i : Nat)) (put1 G l L) := by
  refine ⟨h.lv, h.sl, fun l' j h1 h2 h3 => ?_, h.once.del _ _, h.stamp.put _ _ _, fun l' j => ?_, h.slips⟩
  · show valE _ _ (delE _ _ _) = _
    by_cases hl : l' = l
    · subst hl
      rw [put1_same, e]
      by_cases hj : j = i
      · subst hj; rw [put1_same, valE_del _ _ _ h.once]; rfl
      · rw [put1_ne hj, valE_del_ne _ _ _ _ (by omega), h.held l' j h1 h2 h3]
    · rw [put1_ne hl, valE_del_ne _ _ _ _ (by omega), h.held l' j h1 h2 h3]
  · show 0 ≤ valE _ _ (putE _ _ _ _ _) ∧ valE _ _ (putE _ _ _ _ _) ≤ _
    rw [valE_put]
    have a := h.gens l i
    have b := h.gens l' j
    split <;> omega
theorem ThrG.go {thr thr2 : Nat → ThrS} (h : ThrG c thr g) {F : StF} (e : thr2 = fun j => if j = t then { thr t with frames := [] ++ [F.enc] } else thr j) (eg : g2.thr = put1 g.thr t (some F) ∧ g2.t0 = g.t0 ∧ g2.t1 = g.t1) : ThrG c thr2 g2 := by
  subst e
  obtain ⟨e1, e2, e3⟩ := eg
  refine ⟨fun t' ht' => ?_, fun t' => ?_, fun t' => ?_⟩
  · rw [e1]
    by_cases h1 : t' = t
    · subst h1; rw [put1_same]; simp
    · rw [put1_ne h1]; simp only [if_neg h1]; exact h.fr t' ht'
  · by_cases h1 : t' = t
    · subst h1; simp only [if_true]; exact h.run t'
    · simp only [if_neg h1]; exact h.run t'
  · rw [e2, e3]
    by_cases h1 : t' = t
    · subst h1; simp only [if_true]; exact h.told t'
    · simp only [if_neg h1]; exact h.told t'
theorem ThrG.back {thr thr2 : Nat → ThrS} (h : ThrG c thr g) {a b : Nat} {us : List Int} {x : ThrS} (hx : x.frames.dropLast = [] ∧ x.st = (thr t).st ∧ x.ki = (thr t).ki) (e : thr2 = fun j => if j = t then x.back us else thr j) (eu : us.getD 0 0 = (a : Int) ∧ us.getD 1 0 = (b : Int)) (eg : g2.thr = put1 g.thr t none ∧ g2.t0 = put1 g.t0 t a ∧ g2.t1 = put1 g.t1 t b) : ThrG c thr2 g2 := by
  subst e
  obtain ⟨e1, e2, e3⟩ := eg
  refine ⟨fun t' ht' => ?_, fun t' => ?_, fun t' => ?_⟩
  · rw [e1]
    by_cases h1 : t' = t
    · subst h1; rw [put1_same]; simp only [if_true]; exact hx.1
    · rw [put1_ne h1]; simp only [if_neg h1]; exact h.fr t' ht'
  · by_cases h1 : t' = t
    · subst h1; simp only [if_true]; show (x.st || x.ki) = false; rw [hx.2.1, hx.2.2]; exact h.run t'
    · simp only [if_neg h1]; exact h.run t'
  · rw [e2, e3]
    by_cases h1 : t' = t
    · subst h1; rw [put1_same, put1_same]; simp only [if_true]; exact eu
    · rw [put1_ne h1, put1_ne h1]; simp only [if_neg h1]; exact h.told t'
/-- Behind a step. -/
theorem AbsG.next (hA : AbsG c tp n s g) (e : s2.c = s.c ∧ s2.tp = s.tp ∧ s2.steps = s.steps ∧ s2.clk = (s.tick l).clk ∧ s2.fault = s.fault) (eN : s2.mem.N = s.mem.N) (eflt : s2.mem.flt = s.mem.flt)
    (ea : s2.mem.acc = s.mem.acc ∨ (s2.mem.acc = s.mem.acc + 1 ∧ s2.mem.last / firsts c 10 = (l : Int))) (ew : s2.mem.wr ≤ s.mem.wr + 1) (hW : Words c s2.mem.f g2.lv) (hD : WardG c (n + 1) s2.ward g2.lv) (hT : ThrG c s2.thr g2) (hG : s2.given.length ≤ n + 1) : AbsG c tp (n + 1) (s2.after s l) g2 := by
  obtain ⟨a1, a2, a3, a4, a5, a6, a7, a8⟩ := after_same s2 s l
  obtain ⟨e1, e2, e3, e4, e5⟩ := e
  have hf : (s2.after s l).fault = false := by
    unfold MachS.after
    rw [(watch_given _ _ _ _).2]
    show (s2.fault || _) = false
    rw [e5, hA.fault, Bool.false_or]
    rcases ea with ea | ⟨ea, el⟩
    · show (decide (s2.mem.acc ≠ s.mem.acc) && _) = false
      rw [ea]; simp
    · unfold MachS.wrong MachS.lvOf
      show (_ && (decide ((s.mem.acc : Int) + 1 < (s2.mem.acc : Int)) || (_ && (decide ((l : Int) < s2.mem.last / firsts s2.c 10) || (_ && s2.mem.last / firsts s2.c 10 != (l : Int)))))) = false
      rw [ea, e1, hA.cc, el]
      simp
  refine ⟨a1.trans (e1.trans hA.cc), hA.may, a2.trans (e2.trans hA.ttp), by rw [a3, eN]; exact hA.memN, by rw [a3]; exact hW, by rw [a4]; exact hD, by rw [a5]; exact hT, by rw [a3, eflt]; exact hA.flt, hf, ?_, ?_, ?_, fun k => ?_, by rw [a8]; exact hG⟩
  · rw [a3]; have := hA.acc; rcases ea with ea | ⟨ea, _⟩ <;> omega
  · rw [a3]; have := hA.wr; omega
  · rw [a7, e3]; have := hA.steps; omega
  · rw [a6, e4]
    show (if l ≤ k ∧ k < 4 then s.clk k + 1 else s.clk k) ≤ _
    have := hA.clk k
    split <;> omega
end
def memTo (m : MemS) (a : Int) (f : Nat → Int) (d : Nat) : MemS := { m with acc := m.acc + 1, last := a, named := true, f := f, wr := m.wr + d }
theorem at_to {m : MemS} {a : Int} (h : m.hit a = true) : m.at_ a = memTo m a m.f 0 := at_hit h
theorem store_to {m : MemS} {a v : Int} (h : m.hit a = true) : m.store a v = memTo m a (upd m.f a.toNat v) 1 := store_hit h
theorem cas_yes {m : MemS} {a x v : Int} (h : m.hit a = true) (hs : m.swaps a x = true) : m.cas a x v = memTo m a (upd m.f a.toNat v) 1 := by unfold MemS.cas; rw [if_pos hs]; exact store_hit h
theorem cas_no {m : MemS} {a x v : Int} (h : m.hit a = true) (hs : m.swaps a x = false) : m.cas a x v = memTo m a m.f 0 := by unfold MemS.cas; rw [hs]; exact at_hit h
/-- Behind a step of one access. -/
theorem AbsG.nextM {c : Nat → Int} {tp : List Nat} {n : Nat} {s s2 : MachS} {g g2 : StG} {l k d : Nat} {i j : Int} {f : Nat → Int} (hA : AbsG c tp n s g) (hk : InK c k i j) (hd : d ≤ 1) (e : s2.c = s.c ∧ s2.tp = s.tp ∧ s2.steps = s.steps ∧ s2.clk = (s.tick l).clk ∧ s2.fault = s.fault) (hm : s2.mem = memTo s.mem (atK c (l : Nat) k i j) f d) (hW : Words c f g2.lv) (hD : WardG c (n + 1) s2.ward g2.lv) (hT : ThrG c s2.thr g2) (hG : s2.given.length ≤ n + 1) : AbsG c tp (n + 1) (s2.after s l) g2 := by
  refine hA.next e (by rw [hm]; rfl) (by rw [hm]; rfl) (.inr ⟨by rw [hm]; rfl, ?_⟩) (by rw [hm]; show s.mem.wr + d ≤ _; omega) (by rw [hm]; exact hW) hD hT hG
  rw [hm]
  exact atK_lv hA.may hk
/-- What a bit of a routine asks for. -/
structure OkF (c : Nat → Int) (g : StG) (l : Nat) (F : StF) : Prop where
  fn : F.fn = 1 ∨ F.fn = 2
  r1 : F.r1 < 18446744073709551616
  tk : F.fn = 1 → F.pc ≤ 3
  gv : F.fn = 2 → F.pc ≤ 9
  tk1 : F.fn = 1 → F.pc = 1 → (slOf F.r1 : Int) ≤ c 10
  tk2 : F.fn = 1 → F.pc = 2 → 1 ≤ slOf F.r1 ∧ (slOf F.r1 : Int) ≤ c 10 ∧ F.r2 < 9223372036854775808 ∧ ((g.lv l).top = F.r1 → (g.lv l).held (slOf F.r1) = false)
  tk3 : F.fn = 1 → F.pc = 3 → 1 ≤ slOf F.r1 ∧ (slOf F.r1 : Int) ≤ c 10
  r0 : F.fn = 2 → 1 ≤ F.r0 ∧ (F.r0 : Int) ≤ c 10
  gv1 : F.fn = 2 → F.pc = 1 → 1 ≤ F.r2 ∧ F.r2 ≤ 4294967296
  gv6 : F.fn = 2 → F.pc = 6 → F.r2 < 4294967296 ∧ (g.lv l).held F.r0 = true
  hd : ∀ i : Nat, 1 ≤ i → (i : Int) ≤ c 10 → (g.lv l).hd i < 18446744073709551616
theorem enc_r (F : StF) : F.enc.r 0 = (F.r0 : Int) ∧ F.enc.r 1 = (F.r1 : Int) ∧ F.enc.r 2 = (F.r2 : Int) := ⟨rfl, rfl, rfl⟩
theorem frames_some {c : Nat → Int} {thr : Nat → ThrS} {g : StG} {t : Nat} {F : StF} (h : ThrG c thr g) (ht : (t : Int) < c 1) (hF : g.thr t = some F) : (thr t).frames = [] ++ [F.enc] := by rw [h.fr t ht, hF]; rfl
section
variable {σ w : World} {K M : Mm} {lab : Nat → Nat} {p t q l n : Nat} {s : MachS} {c : Nat → Int} {tp : List Nat} {g : StG}
theorem load_at {m : MemS} {a : Int} {v : Int} (h : m.hit a = true) (hv : m.f a.toNat = v) : m.load a = v := (load_hit h).trans hv
/-- From what a routine's bit does to what a step does. -/
theorem step_abs (h : Has σ M w) (hM : Mach M lab p s) (hB : Base K M lab) (hA : AbsG c tp n s g) (hn : n < 100000) (ht : (t : Int) < c 1) (hq : tp[t]? = some q) (hl : levelOf c t = (l : Nat)) (hlc : (l : Int) < c 0) {F : StF} (hF : g.thr t = some F) (ok : OkF c g l F) {R : MachS → Prop} {g2 : StG} (hR : ∀ s2, R s2 → (s2.tp = s.tp ∧ s2.steps = s.steps) ∧ AbsG c tp (n + 1) (s2.after s l) g2)
    (hstep : (F.fn = 1 ∧ ∀ (b : Nat) (K1 M1 : Mm) (lab1 : Nat → Nat) (w1 : World), Has σ M1 w1 → AtTop K1 M1 lab1 p (s.tick l) t q b [] F.enc → Calls Try.prog 31 #[.agg (runC p t q b)] w1 fun r w' => r = .returned (.tuple #[]) ∧ ∃ M' lab' s', Has σ M' w' ∧ Mach M' lab' p s' ∧ Base K1 M' lab' ∧ R s') ∨
      (F.fn = 2 ∧ ∀ (b : Nat) (K1 M1 : Mm) (lab1 : Nat → Nat) (w1 : World), Has σ M1 w1 → AtTop K1 M1 lab1 p (s.tick l) t q b [] F.enc → Calls Try.prog 32 #[.agg (runC p t q b)] w1 fun r w' => r = .returned (.tuple #[]) ∧ ∃ M' lab' s', Has σ M' w' ∧ Mach M' lab' p s' ∧ Base K1 M' lab' ∧ R s')) :
    Calls Try.prog 26 #[.pointer (some ⟨p, 0, none⟩), .int .i64 (t : Nat), .func (.func 6) #[] #[]] w fun r w' => ∃ M' lab' s', r = .returned (.bool (g2.thr t).isSome) ∧ Has σ M' w' ∧ Mach M' lab' p s' ∧ Base K M' lab' ∧ AbsG c tp (n + 1) s' g2 := by
  have hfr := frames_some hA.thr ht hF
  have hlen : ∀ s2, R s2 → (s2.thr t).frames = match g2.thr t with | none => [] | some F => [F.enc] := fun s2 h2 => by
    have := (hR s2 h2).2.thr.fr t ht
    rw [(after_same s2 s l).2.2.2.2.1] at this
    exact this
  have hs := stepR (σ := σ) (w := w) (K := K) (M := M) (lab := lab) (p := p) (t := t) (q := q) (lv := l) (s := s) (fs := []) (f := F.enc) h hM hB (by rw [hA.ttp]; exact hq) hfr (hA.thr.run t) (by rw [hA.cc]; exact hl) (by have := hA.acc; omega) (by have := hA.steps; omega) (fun k => by have := hA.clk k; omega) (by simp) (R := R) (fun s2 h2 => ⟨(hR s2 h2).1.1, by rw [(hR s2 h2).1.2]; have := hA.steps; omega, by rw [hlen s2 h2]; cases g2.thr t <;> simp⟩)
    (by
      rcases hstep with ⟨a, b⟩ | ⟨a, b⟩
      · exact .inl ⟨by show (F.fn : Int) = 1; omega, b⟩
      · exact .inr ⟨by show (F.fn : Int) = 2; omega, b⟩)
  refine hs.mono fun r w' hr => ?_
  obtain ⟨M', lab', s2, h2, rfl, h', hM', hB'⟩ := hr
  refine ⟨M', lab', _, ?_, h', hM', hB', (hR s2 h2).2⟩
  rw [hlen s2 h2]
  cases g2.thr t <;> rfl
theorem step_t0 (h : Has σ M w) (hM : Mach M lab p s) (hB : Base K M lab) (hA : AbsG c tp n s g) (hn : n < 100000) (ht : (t : Int) < c 1) (hq : tp[t]? = some q) (hl : levelOf c t = (l : Nat)) (hlc : (l : Int) < c 0) {F : StF} (hF : g.thr t = some F) (ok : OkF c g l F) (h1 : F.fn = 1) (hp : F.pc = 0) :
    Calls Try.prog 26 #[.pointer (some ⟨p, 0, none⟩), .int .i64 (t : Nat), .func (.func 6) #[] #[]] w fun r w' => ∃ M' lab' s', r = .returned (.bool ((g.go t { F with r1 := (g.lv l).top, pc := 1 }).thr t).isSome) ∧ Has σ M' w' ∧ Mach M' lab' p s' ∧ Base K M' lab' ∧ AbsG c tp (n + 1) s' (g.go t { F with r1 := (g.lv l).top, pc := 1 }) := by
  obtain rfl := hA.cc
  have eT : (s.tick l).thr = s.thr := rfl
  have hfr := frames_some hA.thr ht hF
  have hl' : levelOf (s.tick l).c (t : Nat) = (l : Nat) := by show levelOf s.c _ = _; rw [hA.cc]; exact hl
  have hlc' : (l : Int) < (s.tick l).c 0 := by show _ < s.c 0; rw [hA.cc]; exact hlc
  have hNN : (s.mem.N : Int) = s.c 0 * firsts s.c 10 := by rw [hA.cc]; exact hA.memN
  have hmay : ConfMay s.c := by rw [hA.cc]; exact hA.may
  have b1 : (s.tick l).mem.acc < 1000000000 := by show s.mem.acc < _; have := hA.acc; omega
  have b2 : (s.tick l).mem.wr < 1000000000 := by show s.mem.wr < _; have := hA.wr; omega
  have hlcS : (l : Int) < s.c 0 := hlc'
  have cT : (s.tick l).c = s.c := rfl
  have hS : (1 : Nat) ≤ 1 := Nat.le_refl _
  have gl : s.given.length ≤ n + 1 := Nat.le_succ_of_le hA.given
  have l256 := hA.may.2.2.2.2.1
  have hit := atK_hit hmay hNN hlcS (inK_free s.c)
  have hv : s.mem.load (atK s.c (l : Nat) 0 0 0) = ((g.lv l).top : Int) := load_at hit (by rw [hA.cc]; exact hA.words.top l hlc)
  refine step_abs h hM hB hA hn ht hq hl hlc hF ok (R := fun s2 => s2 = MachS.top { s.tick l with mem := s.mem.at_ (atK s.c (l : Nat) 0 0 0) } t [] ((F.enc.reg 1 ((g.lv l).top : Nat)).goto 1)) (fun s2 e => ?_) (.inl ⟨h1, fun b K1 M1 lab1 w1 hw hT => ?_⟩)
  · subst e
    refine ⟨⟨rfl, rfl⟩, hA.nextM (inK_free s.c) (Nat.zero_le _) ⟨rfl, rfl, rfl, rfl, rfl⟩ (by rw [← hA.cc]; exact at_to hit) hA.words (hA.ward.mono (Nat.le_succ _)) (hA.thr.go (t := t) (F := { F with r1 := (g.lv l).top, pc := 1 }) ?_ ⟨rfl, rfl, rfl⟩) gl⟩
    rw [enc_reg1, show (1 : Int) = ((1 : Nat) : Int) from rfl, enc_goto]; rfl
  · refine (take_0 hw hT (by show (F.pc : Int) = 0; omega) (x := F.r1) rfl ok.r1 (spotAt_of hT.mach hl' hlc' (inK_free _)) b1).mono fun r w' ⟨e, M', lab', h', hT'⟩ => ⟨e, M', lab', _, h', hT'.mach, hT'.base, ?_⟩
    show MachS.top { s.tick l with mem := s.mem.at_ (atK s.c (l : Nat) 0 0 0) } t [] ((F.enc.reg 1 (s.mem.load (atK s.c (l : Nat) 0 0 0))).goto 1) = _
    rw [hv]
theorem step_t1a (h : Has σ M w) (hM : Mach M lab p s) (hB : Base K M lab) (hA : AbsG c tp n s g) (hn : n < 100000) (ht : (t : Int) < c 1) (hq : tp[t]? = some q) (hl : levelOf c t = (l : Nat)) (hlc : (l : Int) < c 0) {F : StF} (hF : g.thr t = some F) (ok : OkF c g l F) (h1 : F.fn = 1) (hp : F.pc = 1) (hs : slOf F.r1 = 0) :
    Calls Try.prog 26 #[.pointer (some ⟨p, 0, none⟩), .int .i64 (t : Nat), .func (.func 6) #[] #[]] w fun r w' => ∃ M' lab' s', r = .returned (.bool ((g.back t 0 0).thr t).isSome) ∧ Has σ M' w' ∧ Mach M' lab' p s' ∧ Base K M' lab' ∧ AbsG c tp (n + 1) s' (g.back t 0 0) := by
  obtain rfl := hA.cc
  have eT : (s.tick l).thr = s.thr := rfl
  have hfr := frames_some hA.thr ht hF
  have hl' : levelOf (s.tick l).c (t : Nat) = (l : Nat) := by show levelOf s.c _ = _; rw [hA.cc]; exact hl
  have hlc' : (l : Int) < (s.tick l).c 0 := by show _ < s.c 0; rw [hA.cc]; exact hlc
  have hNN : (s.mem.N : Int) = s.c 0 * firsts s.c 10 := by rw [hA.cc]; exact hA.memN
  have hmay : ConfMay s.c := by rw [hA.cc]; exact hA.may
  have b1 : (s.tick l).mem.acc < 1000000000 := by show s.mem.acc < _; have := hA.acc; omega
  have b2 : (s.tick l).mem.wr < 1000000000 := by show s.mem.wr < _; have := hA.wr; omega
  have hlcS : (l : Int) < s.c 0 := hlc'
  have cT : (s.tick l).c = s.c := rfl
  have hS : (1 : Nat) ≤ 1 := Nat.le_refl _
  have gl : s.given.length ≤ n + 1 := Nat.le_succ_of_le hA.given
  have l256 := hA.may.2.2.2.2.1
  refine step_abs h hM hB hA hn ht hq hl hlc hF ok (R := fun s2 => s2 = (s.tick l).backed t [0, 0]) (fun s2 e => ?_) (.inl ⟨h1, fun b K1 M1 lab1 w1 hw hT => ?_⟩)
  · subst e
    refine ⟨⟨rfl, rfl⟩, hA.next ⟨rfl, rfl, rfl, rfl, rfl⟩ rfl rfl (.inl rfl) (Nat.le_succ _) hA.words (hA.ward.mono (Nat.le_succ _)) (hA.thr.back (t := t) (x := s.thr t) (us := [0, 0]) ⟨by rw [hfr]; rfl, rfl, rfl⟩ rfl ⟨rfl, rfl⟩ ⟨rfl, rfl, rfl⟩) gl⟩
  · exact (take_1end hw hT (by show (F.pc : Int) = 1; omega) (x := F.r1) rfl ok.r1 hs (by simp)).mono fun r w' ⟨e, M', lab', h', hM', hB'⟩ => ⟨e, M', lab', _, h', hM', hB', rfl⟩
theorem step_t1b (h : Has σ M w) (hM : Mach M lab p s) (hB : Base K M lab) (hA : AbsG c tp n s g) (hn : n < 100000) (ht : (t : Int) < c 1) (hq : tp[t]? = some q) (hl : levelOf c t = (l : Nat)) (hlc : (l : Int) < c 0) {F : StF} (hF : g.thr t = some F) (ok : OkF c g l F) (h1 : F.fn = 1) (hp : F.pc = 1) (hs : slOf F.r1 ≠ 0) :
    Calls Try.prog 26 #[.pointer (some ⟨p, 0, none⟩), .int .i64 (t : Nat), .func (.func 6) #[] #[]] w fun r w' => ∃ M' lab' s', r = .returned (.bool ((g.go t { F with r2 := (g.lv l).lk (slOf F.r1), pc := 2 }).thr t).isSome) ∧ Has σ M' w' ∧ Mach M' lab' p s' ∧ Base K M' lab' ∧ AbsG c tp (n + 1) s' (g.go t { F with r2 := (g.lv l).lk (slOf F.r1), pc := 2 }) := by
  obtain rfl := hA.cc
  have eT : (s.tick l).thr = s.thr := rfl
  have hfr := frames_some hA.thr ht hF
  have hl' : levelOf (s.tick l).c (t : Nat) = (l : Nat) := by show levelOf s.c _ = _; rw [hA.cc]; exact hl
  have hlc' : (l : Int) < (s.tick l).c 0 := by show _ < s.c 0; rw [hA.cc]; exact hlc
  have hNN : (s.mem.N : Int) = s.c 0 * firsts s.c 10 := by rw [hA.cc]; exact hA.memN
  have hmay : ConfMay s.c := by rw [hA.cc]; exact hA.may
  have b1 : (s.tick l).mem.acc < 1000000000 := by show s.mem.acc < _; have := hA.acc; omega
  have b2 : (s.tick l).mem.wr < 1000000000 := by show s.mem.wr < _; have := hA.wr; omega
  have hlcS : (l : Int) < s.c 0 := hlc'
  have cT : (s.tick l).c = s.c := rfl
  have hS : (1 : Nat) ≤ 1 := Nat.le_refl _
  have gl : s.given.length ≤ n + 1 := Nat.le_succ_of_le hA.given
  have l256 := hA.may.2.2.2.2.1
  have hi := ok.tk1 h1 hp
  have hit := atK_hit hmay hNN hlcS (inK_link (c := s.c) (i := slOf F.r1) (by omega) (by rw [hA.cc]; exact hi))
  have hv : s.mem.load (atK s.c (l : Nat) 8 (slOf F.r1 : Nat) 0) = ((g.lv l).lk (slOf F.r1) : Int) := load_at hit (by rw [hA.cc]; exact hA.words.lk l _ hlc (by omega) hi)
  refine step_abs h hM hB hA hn ht hq hl hlc hF ok (R := fun s2 => s2 = MachS.top { s.tick l with mem := s.mem.at_ (atK s.c (l : Nat) 8 (slOf F.r1 : Nat) 0) } t [] ((F.enc.reg 2 ((g.lv l).lk (slOf F.r1) : Nat)).goto 2)) (fun s2 e => ?_) (.inl ⟨h1, fun b K1 M1 lab1 w1 hw hT => ?_⟩)
  · subst e
    refine ⟨⟨rfl, rfl⟩, hA.nextM (inK_link (i := slOf F.r1) (by omega) hi) (Nat.zero_le _) ⟨rfl, rfl, rfl, rfl, rfl⟩ (by rw [← hA.cc]; exact at_to hit) hA.words (hA.ward.mono (Nat.le_succ _)) (hA.thr.go (t := t) (F := { F with r2 := (g.lv l).lk (slOf F.r1), pc := 2 }) ?_ ⟨rfl, rfl, rfl⟩) gl⟩
    rw [enc_reg2, show (2 : Int) = ((2 : Nat) : Int) from rfl, enc_goto]; rfl
  · refine (take_1 hw hT (by show (F.pc : Int) = 1; omega) (x := F.r1) rfl ok.r1 hs (spotAt_of hT.mach hl' hlc' (inK_link (i := slOf F.r1) (by omega) (by rw [cT]; exact hi))) b1).mono fun r w' ⟨e, M', lab', h', hT'⟩ => ⟨e, M', lab', _, h', hT'.mach, hT'.base, ?_⟩
    show MachS.top { s.tick l with mem := s.mem.at_ (atK s.c (l : Nat) 8 (slOf F.r1 : Nat) 0) } t [] ((F.enc.reg 2 (s.mem.load (atK s.c (l : Nat) 8 (slOf F.r1 : Nat) 0))).goto 2) = _
    rw [hv]
theorem step_t2a (h : Has σ M w) (hM : Mach M lab p s) (hB : Base K M lab) (hA : AbsG c tp n s g) (hn : n < 100000) (ht : (t : Int) < c 1) (hq : tp[t]? = some q) (hl : levelOf c t = (l : Nat)) (hlc : (l : Int) < c 0) {F : StF} (hF : g.thr t = some F) (ok : OkF c g l F) (h1 : F.fn = 1) (hp : F.pc = 2) (hs : (g.lv l).top = F.r1) :
    Calls Try.prog 26 #[.pointer (some ⟨p, 0, none⟩), .int .i64 (t : Nat), .func (.func 6) #[] #[]] w fun r w' => ∃ M' lab' s', r = .returned (.bool (((g.lev l { g.lv l with top := mkTop F.r2 (cnt F.r1 + 1), held := put1 (g.lv l).held (slOf F.r1) true }).go t { F with pc := 3 }).thr t).isSome) ∧ Has σ M' w' ∧ Mach M' lab' p s' ∧ Base K M' lab' ∧ AbsG c tp (n + 1) s' ((g.lev l { g.lv l with top := mkTop F.r2 (cnt F.r1 + 1), held := put1 (g.lv l).held (slOf F.r1) true }).go t { F with pc := 3 }) := by
  obtain rfl := hA.cc
  have eT : (s.tick l).thr = s.thr := rfl
  have hfr := frames_some hA.thr ht hF
  have hl' : levelOf (s.tick l).c (t : Nat) = (l : Nat) := by show levelOf s.c _ = _; rw [hA.cc]; exact hl
  have hlc' : (l : Int) < (s.tick l).c 0 := by show _ < s.c 0; rw [hA.cc]; exact hlc
  have hNN : (s.mem.N : Int) = s.c 0 * firsts s.c 10 := by rw [hA.cc]; exact hA.memN
  have hmay : ConfMay s.c := by rw [hA.cc]; exact hA.may
  have b1 : (s.tick l).mem.acc < 1000000000 := by show s.mem.acc < _; have := hA.acc; omega
  have b2 : (s.tick l).mem.wr < 1000000000 := by show s.mem.wr < _; have := hA.wr; omega
  have hlcS : (l : Int) < s.c 0 := hlc'
  have cT : (s.tick l).c = s.c := rfl
  have hS : (1 : Nat) ≤ 1 := Nat.le_refl _
  have gl : s.given.length ≤ n + 1 := Nat.le_succ_of_le hA.given
  have l256 := hA.may.2.2.2.2.1
  have hit := atK_hit hmay hNN hlcS (inK_free s.c)
  have hit' : s.mem.hit (atK s.c (l : Nat) 0 0 0) = true := by rw [← hA.cc]; exact hit
  have hf0 := hA.words.top l hlc
  obtain ⟨i1, i2, i3, i4⟩ := ok.tk2 h1 hp
  have hsw : s.mem.swaps (atK s.c (l : Nat) 0 0 0) (F.r1 : Nat) = true := by unfold MemS.swaps; rw [hit', hf0, hs]; simp
  refine step_abs h hM hB hA hn ht hq hl hlc hF ok (R := fun s2 => s2 = MachS.top { s.tick l with mem := s.mem.cas (atK s.c (l : Nat) 0 0 0) (F.r1 : Nat) (mkTop F.r2 (cutN F.r1 8 56 + 1) : Nat), ward := s.ward.take (l : Nat) (slOf F.r1 : Nat) } t [] (F.enc.goto 3)) (fun s2 e => ?_) (.inl ⟨h1, fun b K1 M1 lab1 w1 hw hT => ?_⟩)
  · subst e
    refine ⟨⟨rfl, rfl⟩, hA.nextM (inK_free s.c) (Nat.le_refl _) ⟨rfl, rfl, rfl, rfl, rfl⟩ (cas_yes hit' hsw) ?_ ((hA.ward.take (l := l) (i := slOf F.r1) rfl).mono (Nat.le_succ _)) (hA.thr.go (t := t) (F := { F with pc := 3 }) rfl ⟨rfl, rfl, rfl⟩) gl⟩
    have := (hA.words.setTop hA.may hlc (mkTop F.r2 (cutN F.r1 8 56 + 1))).same (l := l) (L := { g.lv l with top := mkTop F.r2 (cnt F.r1 + 1), held := put1 (g.lv l).held (slOf F.r1) true }) (by rw [put1_same]; exact ⟨rfl, rfl, rfl⟩)
    rw [put1_put1] at this
    exact this
  · have hth : s.ward.there (l : Nat) (slOf F.r1 : Nat) = true := WardS.there_iff.2 ⟨by omega, by rw [hA.ward.lv]; exact hlc, by omega, by rw [hA.ward.sl]; exact i2⟩
    have hv0 : valE (l : Nat) (slOf F.r1 : Nat) s.ward.held = 0 := by rw [hA.ward.held l _ hlc i1 i2, i4 hs]; rfl
    refine (take_2yes hw hT (by show (F.pc : Int) = 2; omega) (x := F.r1) (y := F.r2) rfl ok.r1 rfl i3 hl' hlc' b1 b2 (by rw [cT]; exact hsw) hth hv0).mono fun r w' ⟨e, M', lab', h', hT'⟩ => ⟨e, M', lab', _, h', hT'.mach, hT'.base, ?_⟩
    rw [cT]; rfl
theorem step_t2b (h : Has σ M w) (hM : Mach M lab p s) (hB : Base K M lab) (hA : AbsG c tp n s g) (hn : n < 100000) (ht : (t : Int) < c 1) (hq : tp[t]? = some q) (hl : levelOf c t = (l : Nat)) (hlc : (l : Int) < c 0) {F : StF} (hF : g.thr t = some F) (ok : OkF c g l F) (h1 : F.fn = 1) (hp : F.pc = 2) (hs : (g.lv l).top ≠ F.r1) :
    Calls Try.prog 26 #[.pointer (some ⟨p, 0, none⟩), .int .i64 (t : Nat), .func (.func 6) #[] #[]] w fun r w' => ∃ M' lab' s', r = .returned (.bool ((g.go t { F with pc := 0 }).thr t).isSome) ∧ Has σ M' w' ∧ Mach M' lab' p s' ∧ Base K M' lab' ∧ AbsG c tp (n + 1) s' (g.go t { F with pc := 0 }) := by
  obtain rfl := hA.cc
  have eT : (s.tick l).thr = s.thr := rfl
  have hfr := frames_some hA.thr ht hF
  have hl' : levelOf (s.tick l).c (t : Nat) = (l : Nat) := by show levelOf s.c _ = _; rw [hA.cc]; exact hl
  have hlc' : (l : Int) < (s.tick l).c 0 := by show _ < s.c 0; rw [hA.cc]; exact hlc
  have hNN : (s.mem.N : Int) = s.c 0 * firsts s.c 10 := by rw [hA.cc]; exact hA.memN
  have hmay : ConfMay s.c := by rw [hA.cc]; exact hA.may
  have b1 : (s.tick l).mem.acc < 1000000000 := by show s.mem.acc < _; have := hA.acc; omega
  have b2 : (s.tick l).mem.wr < 1000000000 := by show s.mem.wr < _; have := hA.wr; omega
  have hlcS : (l : Int) < s.c 0 := hlc'
  have cT : (s.tick l).c = s.c := rfl
  have hS : (1 : Nat) ≤ 1 := Nat.le_refl _
  have gl : s.given.length ≤ n + 1 := Nat.le_succ_of_le hA.given
  have l256 := hA.may.2.2.2.2.1
  have hit := atK_hit hmay hNN hlcS (inK_free s.c)
  have hit' : s.mem.hit (atK s.c (l : Nat) 0 0 0) = true := by rw [← hA.cc]; exact hit
  have hf0 := hA.words.top l hlc
  obtain ⟨i1, i2, i3, i4⟩ := ok.tk2 h1 hp
  have hsw : s.mem.swaps (atK s.c (l : Nat) 0 0 0) (F.r1 : Nat) = false := by unfold MemS.swaps; rw [hit', hf0]; simp; omega
  refine step_abs h hM hB hA hn ht hq hl hlc hF ok (R := fun s2 => s2 = { (s.tick l).top t [] (F.enc.goto 0) with mem := s.mem.cas (atK s.c (l : Nat) 0 0 0) (F.r1 : Nat) (mkTop F.r2 (cutN F.r1 8 56 + 1) : Nat) }) (fun s2 e => ?_) (.inl ⟨h1, fun b K1 M1 lab1 w1 hw hT => ?_⟩)
  · subst e
    exact ⟨⟨rfl, rfl⟩, hA.nextM (inK_free s.c) (Nat.zero_le _) ⟨rfl, rfl, rfl, rfl, rfl⟩ (cas_no hit' hsw) hA.words (hA.ward.mono (Nat.le_succ _)) (hA.thr.go (t := t) (F := { F with pc := 0 }) rfl ⟨rfl, rfl, rfl⟩) gl⟩
  · refine (take_2no hw hT (by show (F.pc : Int) = 2; omega) (x := F.r1) (y := F.r2) rfl ok.r1 rfl i3 hl' hlc' b1 b2 (by rw [cT]; exact hsw)).mono fun r w' ⟨e, M', lab', h', hT'⟩ => ⟨e, M', lab', _, h', hT'.mach, hT'.base, ?_⟩
    rw [cT]; rfl
theorem step_t3 (h : Has σ M w) (hM : Mach M lab p s) (hB : Base K M lab) (hA : AbsG c tp n s g) (hn : n < 100000) (ht : (t : Int) < c 1) (hq : tp[t]? = some q) (hl : levelOf c t = (l : Nat)) (hlc : (l : Int) < c 0) {F : StF} (hF : g.thr t = some F) (ok : OkF c g l F) (h1 : F.fn = 1) (hp : F.pc = 3) :
    Calls Try.prog 26 #[.pointer (some ⟨p, 0, none⟩), .int .i64 (t : Nat), .func (.func 6) #[] #[]] w fun r w' => ∃ M' lab' s', r = .returned (.bool ((g.back t (slOf F.r1) (genOf ((g.lv l).hd (slOf F.r1)))).thr t).isSome) ∧ Has σ M' w' ∧ Mach M' lab' p s' ∧ Base K M' lab' ∧ AbsG c tp (n + 1) s' (g.back t (slOf F.r1) (genOf ((g.lv l).hd (slOf F.r1)))) := by
  obtain rfl := hA.cc
  have eT : (s.tick l).thr = s.thr := rfl
  have hfr := frames_some hA.thr ht hF
  have hl' : levelOf (s.tick l).c (t : Nat) = (l : Nat) := by show levelOf s.c _ = _; rw [hA.cc]; exact hl
  have hlc' : (l : Int) < (s.tick l).c 0 := by show _ < s.c 0; rw [hA.cc]; exact hlc
  have hNN : (s.mem.N : Int) = s.c 0 * firsts s.c 10 := by rw [hA.cc]; exact hA.memN
  have hmay : ConfMay s.c := by rw [hA.cc]; exact hA.may
  have b1 : (s.tick l).mem.acc < 1000000000 := by show s.mem.acc < _; have := hA.acc; omega
  have b2 : (s.tick l).mem.wr < 1000000000 := by show s.mem.wr < _; have := hA.wr; omega
  have hlcS : (l : Int) < s.c 0 := hlc'
  have cT : (s.tick l).c = s.c := rfl
  have hS : (1 : Nat) ≤ 1 := Nat.le_refl _
  have gl : s.given.length ≤ n + 1 := Nat.le_succ_of_le hA.given
  have l256 := hA.may.2.2.2.2.1
  obtain ⟨i1, i2⟩ := ok.tk3 h1 hp
  have hk := inK_head (c := s.c) i1 i2
  have hit : s.mem.hit (atK s.c (l : Nat) 9 (slOf F.r1 : Nat) 0) = true := by rw [← hA.cc]; exact atK_hit hmay hNN hlcS (by rw [hA.cc]; exact hk)
  have hv : s.mem.load (atK s.c (l : Nat) 9 (slOf F.r1 : Nat) 0) = ((g.lv l).hd (slOf F.r1) : Int) := load_at hit (hA.words.hd l _ hlc i1 i2)
  refine step_abs h hM hB hA hn ht hq hl hlc hF ok (R := fun s2 => s2 = MachS.backed { s.tick l with mem := s.mem.at_ (atK s.c (l : Nat) 9 (slOf F.r1 : Nat) 0) } t [(slOf F.r1 : Nat), (genOf ((g.lv l).hd (slOf F.r1)) : Nat)]) (fun s2 e => ?_) (.inl ⟨h1, fun b K1 M1 lab1 w1 hw hT => ?_⟩)
  · subst e
    exact ⟨⟨rfl, rfl⟩, hA.nextM hk (Nat.zero_le _) ⟨rfl, rfl, rfl, rfl, rfl⟩ (at_to hit) hA.words (hA.ward.mono (Nat.le_succ _)) (hA.thr.back (t := t) (x := s.thr t) (us := [(slOf F.r1 : Nat), (genOf ((g.lv l).hd (slOf F.r1)) : Nat)]) ⟨by rw [hfr]; rfl, rfl, rfl⟩ rfl ⟨rfl, rfl⟩ ⟨rfl, rfl, rfl⟩) gl⟩
  · refine (take_3 hw hT (by show (F.pc : Int) = 3; omega) (x := F.r1) (z := (g.lv l).hd (slOf F.r1)) rfl ok.r1 hl' hlc' (by rw [cT]; exact hk) (by rw [cT]; exact hv) (ok.hd _ i1 i2) b1 (by simp)).mono fun r w' ⟨e, M', lab', h', hM', hB'⟩ => ⟨e, M', lab', _, h', hM', hB', ?_⟩
    rw [cT]; rfl
theorem step_g0 (h : Has σ M w) (hM : Mach M lab p s) (hB : Base K M lab) (hA : AbsG c tp n s g) (hn : n < 100000) (ht : (t : Int) < c 1) (hq : tp[t]? = some q) (hl : levelOf c t = (l : Nat)) (hlc : (l : Int) < c 0) {F : StF} (hF : g.thr t = some F) (ok : OkF c g l F) (h1 : F.fn = 2) (hp : F.pc = 0) :
    Calls Try.prog 26 #[.pointer (some ⟨p, 0, none⟩), .int .i64 (t : Nat), .func (.func 6) #[] #[]] w fun r w' => ∃ M' lab' s', r = .returned (.bool ((g.go t { F with r2 := genOf ((g.lv l).hd F.r0) + 1, pc := 1 }).thr t).isSome) ∧ Has σ M' w' ∧ Mach M' lab' p s' ∧ Base K M' lab' ∧ AbsG c tp (n + 1) s' (g.go t { F with r2 := genOf ((g.lv l).hd F.r0) + 1, pc := 1 }) := by
  obtain rfl := hA.cc
  have eT : (s.tick l).thr = s.thr := rfl
  have hfr := frames_some hA.thr ht hF
  have hl' : levelOf (s.tick l).c (t : Nat) = (l : Nat) := by show levelOf s.c _ = _; rw [hA.cc]; exact hl
  have hlc' : (l : Int) < (s.tick l).c 0 := by show _ < s.c 0; rw [hA.cc]; exact hlc
  have hNN : (s.mem.N : Int) = s.c 0 * firsts s.c 10 := by rw [hA.cc]; exact hA.memN
  have hmay : ConfMay s.c := by rw [hA.cc]; exact hA.may
  have b1 : (s.tick l).mem.acc < 1000000000 := by show s.mem.acc < _; have := hA.acc; omega
  have b2 : (s.tick l).mem.wr < 1000000000 := by show s.mem.wr < _; have := hA.wr; omega
  have hlcS : (l : Int) < s.c 0 := hlc'
  have cT : (s.tick l).c = s.c := rfl
  have hS : (1 : Nat) ≤ 1 := Nat.le_refl _
  have gl : s.given.length ≤ n + 1 := Nat.le_succ_of_le hA.given
  have l256 := hA.may.2.2.2.2.1
  obtain ⟨i1, i2⟩ := ok.r0 h1
  have i3 : F.r0 < 256 := by omega
  have hk := inK_head (c := s.c) i1 i2
  have hit : s.mem.hit (atK s.c (l : Nat) 9 (F.r0 : Nat) 0) = true := by rw [← hA.cc]; exact atK_hit hmay hNN hlcS (by rw [hA.cc]; exact hk)
  have hv : s.mem.load (atK s.c (l : Nat) 9 (F.r0 : Nat) 0) = ((g.lv l).hd F.r0 : Int) := load_at hit (hA.words.hd l _ hlc i1 i2)
  refine step_abs h hM hB hA hn ht hq hl hlc hF ok (R := fun s2 => s2 = MachS.top { s.tick l with mem := s.mem.at_ (atK s.c (l : Nat) 9 (F.r0 : Nat) 0) } t [] ((F.enc.reg 2 ((genOf ((g.lv l).hd F.r0) : Nat) + 1)).goto 1)) (fun s2 e => ?_) (.inr ⟨h1, fun b K1 M1 lab1 w1 hw hT => ?_⟩)
  · subst e
    refine ⟨⟨rfl, rfl⟩, hA.nextM hk (Nat.zero_le _) ⟨rfl, rfl, rfl, rfl, rfl⟩ (at_to hit) hA.words (hA.ward.mono (Nat.le_succ _)) (hA.thr.go (t := t) (F := { F with r2 := genOf ((g.lv l).hd F.r0) + 1, pc := 1 }) ?_ ⟨rfl, rfl, rfl⟩) gl⟩
    rw [show ((genOf ((g.lv l).hd F.r0) : Nat) : Int) + 1 = ((genOf ((g.lv l).hd F.r0) + 1 : Nat) : Int) by omega, enc_reg2, show (1 : Int) = ((1 : Nat) : Int) from rfl, enc_goto]; rfl
  · refine (give_0 hw hT (by show (F.pc : Int) = 0; omega) (sl := F.r0) (z := (g.lv l).hd F.r0) rfl i3 hl' hlc' (by rw [cT]; exact hk) (by rw [cT]; exact hv) (ok.hd _ i1 i2) b1).mono fun r w' ⟨e, M', lab', h', hT'⟩ => ⟨e, M', lab', _, h', hT'.mach, hT'.base, ?_⟩
    rw [cT]; rfl
theorem step_g1 (h : Has σ M w) (hM : Mach M lab p s) (hB : Base K M lab) (hA : AbsG c tp n s g) (hn : n < 100000) (ht : (t : Int) < c 1) (hq : tp[t]? = some q) (hl : levelOf c t = (l : Nat)) (hlc : (l : Int) < c 0) {F : StF} (hF : g.thr t = some F) (ok : OkF c g l F) (h1 : F.fn = 2) (hp : F.pc = 1) :
    Calls Try.prog 26 #[.pointer (some ⟨p, 0, none⟩), .int .i64 (t : Nat), .func (.func 6) #[] #[]] w fun r w' => ∃ M' lab' s', r = .returned (.bool (((g.lev l { g.lv l with hd := put1 (g.lv l).hd F.r0 (mkHead (F.r2 - 1) 3) }).go t { F with pc := 2 }).thr t).isSome) ∧ Has σ M' w' ∧ Mach M' lab' p s' ∧ Base K M' lab' ∧ AbsG c tp (n + 1) s' ((g.lev l { g.lv l with hd := put1 (g.lv l).hd F.r0 (mkHead (F.r2 - 1) 3) }).go t { F with pc := 2 }) := by
  obtain rfl := hA.cc
  have eT : (s.tick l).thr = s.thr := rfl
  have hfr := frames_some hA.thr ht hF
  have hl' : levelOf (s.tick l).c (t : Nat) = (l : Nat) := by show levelOf s.c _ = _; rw [hA.cc]; exact hl
  have hlc' : (l : Int) < (s.tick l).c 0 := by show _ < s.c 0; rw [hA.cc]; exact hlc
  have hNN : (s.mem.N : Int) = s.c 0 * firsts s.c 10 := by rw [hA.cc]; exact hA.memN
  have hmay : ConfMay s.c := by rw [hA.cc]; exact hA.may
  have b1 : (s.tick l).mem.acc < 1000000000 := by show s.mem.acc < _; have := hA.acc; omega
  have b2 : (s.tick l).mem.wr < 1000000000 := by show s.mem.wr < _; have := hA.wr; omega
  have hlcS : (l : Int) < s.c 0 := hlc'
  have cT : (s.tick l).c = s.c := rfl
  have hS : (1 : Nat) ≤ 1 := Nat.le_refl _
  have gl : s.given.length ≤ n + 1 := Nat.le_succ_of_le hA.given
  have l256 := hA.may.2.2.2.2.1
  obtain ⟨i1, i2⟩ := ok.r0 h1
  have i3 : F.r0 < 256 := by omega
  have hk := inK_head (c := s.c) i1 i2
  have hit : s.mem.hit (atK s.c (l : Nat) 9 (F.r0 : Nat) 0) = true := by rw [← hA.cc]; exact atK_hit hmay hNN hlcS (by rw [hA.cc]; exact hk)
  obtain ⟨j1, j2⟩ := ok.gv1 h1 hp
  refine step_abs h hM hB hA hn ht hq hl hlc hF ok (R := fun s2 => s2 = MachS.top { s.tick l with mem := s.mem.store (atK s.c (l : Nat) 9 (F.r0 : Nat) 0) (mkHead (F.r2 - 1) 3 : Nat) } t [] (F.enc.goto 2)) (fun s2 e => ?_) (.inr ⟨h1, fun b K1 M1 lab1 w1 hw hT => ?_⟩)
  · subst e
    exact ⟨⟨rfl, rfl⟩, hA.nextM hk (Nat.le_refl _) ⟨rfl, rfl, rfl, rfl, rfl⟩ (store_to hit) (hA.words.setHd hA.may hlc i1 i2 _) (WardG.mono (by exact hA.ward.same rfl) (Nat.le_succ _)) (hA.thr.go (t := t) (F := { F with pc := 2 }) rfl ⟨rfl, rfl, rfl⟩) gl⟩
  · refine (give_1 hw hT (by show (F.pc : Int) = 1; omega) (sl := F.r0) (g := F.r2 - 1) rfl i3 (by show (F.r2 : Int) = _; omega) (by omega) hl' hlc' (by rw [cT]; exact hk) b1 b2).mono fun r w' ⟨e, M', lab', h', hT'⟩ => ⟨e, M', lab', _, h', hT'.mach, hT'.base, ?_⟩
    rw [cT]; rfl
theorem step_g2 (h : Has σ M w) (hM : Mach M lab p s) (hB : Base K M lab) (hA : AbsG c tp n s g) (hn : n < 100000) (ht : (t : Int) < c 1) (hq : tp[t]? = some q) (hl : levelOf c t = (l : Nat)) (hlc : (l : Int) < c 0) {F : StF} (hF : g.thr t = some F) (ok : OkF c g l F) (h1 : F.fn = 2) (hp : F.pc = 2) :
    Calls Try.prog 26 #[.pointer (some ⟨p, 0, none⟩), .int .i64 (t : Nat), .func (.func 6) #[] #[]] w fun r w' => ∃ M' lab' s', r = .returned (.bool ((g.go t { F with pc := 3 }).thr t).isSome) ∧ Has σ M' w' ∧ Mach M' lab' p s' ∧ Base K M' lab' ∧ AbsG c tp (n + 1) s' (g.go t { F with pc := 3 }) := by
  obtain rfl := hA.cc
  have eT : (s.tick l).thr = s.thr := rfl
  have hfr := frames_some hA.thr ht hF
  have hl' : levelOf (s.tick l).c (t : Nat) = (l : Nat) := by show levelOf s.c _ = _; rw [hA.cc]; exact hl
  have hlc' : (l : Int) < (s.tick l).c 0 := by show _ < s.c 0; rw [hA.cc]; exact hlc
  have hNN : (s.mem.N : Int) = s.c 0 * firsts s.c 10 := by rw [hA.cc]; exact hA.memN
  have hmay : ConfMay s.c := by rw [hA.cc]; exact hA.may
  have b1 : (s.tick l).mem.acc < 1000000000 := by show s.mem.acc < _; have := hA.acc; omega
  have b2 : (s.tick l).mem.wr < 1000000000 := by show s.mem.wr < _; have := hA.wr; omega
  have hlcS : (l : Int) < s.c 0 := hlc'
  have cT : (s.tick l).c = s.c := rfl
  have hS : (1 : Nat) ≤ 1 := Nat.le_refl _
  have gl : s.given.length ≤ n + 1 := Nat.le_succ_of_le hA.given
  have l256 := hA.may.2.2.2.2.1
  obtain ⟨i1, i2⟩ := ok.r0 h1
  have i3 : F.r0 < 256 := by omega
  have hk := inK_node (c := s.c) (j := 3) i1 i2 (by omega)
  have hit : s.mem.hit (atK s.c (l : Nat) 9 (F.r0 : Nat) ((3 : Nat) : Int)) = true := by rw [← hA.cc]; exact atK_hit hmay hNN hlcS (by rw [hA.cc]; exact hk)
  refine step_abs h hM hB hA hn ht hq hl hlc hF ok (R := fun s2 => s2 = MachS.top { s.tick l with mem := s.mem.store (atK s.c (l : Nat) 9 (F.r0 : Nat) ((3 : Nat) : Int)) 0 } t [] (F.enc.goto 3)) (fun s2 e => ?_) (.inr ⟨h1, fun b K1 M1 lab1 w1 hw hT => ?_⟩)
  · subst e
    exact ⟨⟨rfl, rfl⟩, hA.nextM hk (Nat.le_refl _) ⟨rfl, rfl, rfl, rfl, rfl⟩ (store_to hit) (hA.words.setFld (m := 3) hA.may i1 i2 (by omega) (by omega)) (hA.ward.mono (Nat.le_succ _)) (hA.thr.go (t := t) (F := { F with pc := 3 }) rfl ⟨rfl, rfl, rfl⟩) gl⟩
  · refine (give_2 hw hT (by show (F.pc : Int) = 2; omega) (sl := F.r0) rfl i3 hl' hlc' (by rw [cT]; exact hk) b1 b2).mono fun r w' ⟨e, M', lab', h', hT'⟩ => ⟨e, M', lab', _, h', hT'.mach, hT'.base, ?_⟩
    rw [cT]; rfl
theorem step_g3 (h : Has σ M w) (hM : Mach M lab p s) (hB : Base K M lab) (hA : AbsG c tp n s g) (hn : n < 100000) (ht : (t : Int) < c 1) (hq : tp[t]? = some q) (hl : levelOf c t = (l : Nat)) (hlc : (l : Int) < c 0) {F : StF} (hF : g.thr t = some F) (ok : OkF c g l F) (h1 : F.fn = 2) (hp : F.pc = 3) :
    Calls Try.prog 26 #[.pointer (some ⟨p, 0, none⟩), .int .i64 (t : Nat), .func (.func 6) #[] #[]] w fun r w' => ∃ M' lab' s', r = .returned (.bool ((g.go t { F with pc := 4 }).thr t).isSome) ∧ Has σ M' w' ∧ Mach M' lab' p s' ∧ Base K M' lab' ∧ AbsG c tp (n + 1) s' (g.go t { F with pc := 4 }) := by
  obtain rfl := hA.cc
  have eT : (s.tick l).thr = s.thr := rfl
  have hfr := frames_some hA.thr ht hF
  have hl' : levelOf (s.tick l).c (t : Nat) = (l : Nat) := by show levelOf s.c _ = _; rw [hA.cc]; exact hl
  have hlc' : (l : Int) < (s.tick l).c 0 := by show _ < s.c 0; rw [hA.cc]; exact hlc
  have hNN : (s.mem.N : Int) = s.c 0 * firsts s.c 10 := by rw [hA.cc]; exact hA.memN
  have hmay : ConfMay s.c := by rw [hA.cc]; exact hA.may
  have b1 : (s.tick l).mem.acc < 1000000000 := by show s.mem.acc < _; have := hA.acc; omega
  have b2 : (s.tick l).mem.wr < 1000000000 := by show s.mem.wr < _; have := hA.wr; omega
  have hlcS : (l : Int) < s.c 0 := hlc'
  have cT : (s.tick l).c = s.c := rfl
  have hS : (1 : Nat) ≤ 1 := Nat.le_refl _
  have gl : s.given.length ≤ n + 1 := Nat.le_succ_of_le hA.given
  have l256 := hA.may.2.2.2.2.1
  obtain ⟨i1, i2⟩ := ok.r0 h1
  have i3 : F.r0 < 256 := by omega
  have hk := inK_node (c := s.c) (j := 4) i1 i2 (by omega)
  have hit : s.mem.hit (atK s.c (l : Nat) 9 (F.r0 : Nat) ((4 : Nat) : Int)) = true := by rw [← hA.cc]; exact atK_hit hmay hNN hlcS (by rw [hA.cc]; exact hk)
  refine step_abs h hM hB hA hn ht hq hl hlc hF ok (R := fun s2 => s2 = MachS.top { s.tick l with mem := s.mem.store (atK s.c (l : Nat) 9 (F.r0 : Nat) ((4 : Nat) : Int)) 0 } t [] (F.enc.goto 4)) (fun s2 e => ?_) (.inr ⟨h1, fun b K1 M1 lab1 w1 hw hT => ?_⟩)
  · subst e
    exact ⟨⟨rfl, rfl⟩, hA.nextM hk (Nat.le_refl _) ⟨rfl, rfl, rfl, rfl, rfl⟩ (store_to hit) (hA.words.setFld (m := 4) hA.may i1 i2 (by omega) (by omega)) (hA.ward.mono (Nat.le_succ _)) (hA.thr.go (t := t) (F := { F with pc := 4 }) rfl ⟨rfl, rfl, rfl⟩) gl⟩
  · refine (give_3 hw hT (by show (F.pc : Int) = 3; omega) (sl := F.r0) rfl i3 hl' hlc' (by rw [cT]; exact hk) b1 b2).mono fun r w' ⟨e, M', lab', h', hT'⟩ => ⟨e, M', lab', _, h', hT'.mach, hT'.base, ?_⟩
    rw [cT]; rfl
theorem step_g4 (h : Has σ M w) (hM : Mach M lab p s) (hB : Base K M lab) (hA : AbsG c tp n s g) (hn : n < 100000) (ht : (t : Int) < c 1) (hq : tp[t]? = some q) (hl : levelOf c t = (l : Nat)) (hlc : (l : Int) < c 0) {F : StF} (hF : g.thr t = some F) (ok : OkF c g l F) (h1 : F.fn = 2) (hp : F.pc = 4) :
    Calls Try.prog 26 #[.pointer (some ⟨p, 0, none⟩), .int .i64 (t : Nat), .func (.func 6) #[] #[]] w fun r w' => ∃ M' lab' s', r = .returned (.bool ((g.go t { F with pc := 5 }).thr t).isSome) ∧ Has σ M' w' ∧ Mach M' lab' p s' ∧ Base K M' lab' ∧ AbsG c tp (n + 1) s' (g.go t { F with pc := 5 }) := by
  obtain rfl := hA.cc
  have eT : (s.tick l).thr = s.thr := rfl
  have hfr := frames_some hA.thr ht hF
  have hl' : levelOf (s.tick l).c (t : Nat) = (l : Nat) := by show levelOf s.c _ = _; rw [hA.cc]; exact hl
  have hlc' : (l : Int) < (s.tick l).c 0 := by show _ < s.c 0; rw [hA.cc]; exact hlc
  have hNN : (s.mem.N : Int) = s.c 0 * firsts s.c 10 := by rw [hA.cc]; exact hA.memN
  have hmay : ConfMay s.c := by rw [hA.cc]; exact hA.may
  have b1 : (s.tick l).mem.acc < 1000000000 := by show s.mem.acc < _; have := hA.acc; omega
  have b2 : (s.tick l).mem.wr < 1000000000 := by show s.mem.wr < _; have := hA.wr; omega
  have hlcS : (l : Int) < s.c 0 := hlc'
  have cT : (s.tick l).c = s.c := rfl
  have hS : (1 : Nat) ≤ 1 := Nat.le_refl _
  have gl : s.given.length ≤ n + 1 := Nat.le_succ_of_le hA.given
  have l256 := hA.may.2.2.2.2.1
  obtain ⟨i1, i2⟩ := ok.r0 h1
  have i3 : F.r0 < 256 := by omega
  have hk := inK_node (c := s.c) (j := 2) i1 i2 (by omega)
  have hit : s.mem.hit (atK s.c (l : Nat) 9 (F.r0 : Nat) ((2 : Nat) : Int)) = true := by rw [← hA.cc]; exact atK_hit hmay hNN hlcS (by rw [hA.cc]; exact hk)
  refine step_abs h hM hB hA hn ht hq hl hlc hF ok (R := fun s2 => s2 = MachS.top { s.tick l with mem := s.mem.store (atK s.c (l : Nat) 9 (F.r0 : Nat) ((2 : Nat) : Int)) 0 } t [] (F.enc.goto 5)) (fun s2 e => ?_) (.inr ⟨h1, fun b K1 M1 lab1 w1 hw hT => ?_⟩)
  · subst e
    exact ⟨⟨rfl, rfl⟩, hA.nextM hk (Nat.le_refl _) ⟨rfl, rfl, rfl, rfl, rfl⟩ (store_to hit) (hA.words.setFld (m := 2) hA.may i1 i2 (by omega) (by omega)) (hA.ward.mono (Nat.le_succ _)) (hA.thr.go (t := t) (F := { F with pc := 5 }) rfl ⟨rfl, rfl, rfl⟩) gl⟩
  · refine (give_4 hw hT (by show (F.pc : Int) = 4; omega) (sl := F.r0) rfl i3 hl' hlc' (by rw [cT]; exact hk) b1 b2).mono fun r w' ⟨e, M', lab', h', hT'⟩ => ⟨e, M', lab', _, h', hT'.mach, hT'.base, ?_⟩
    rw [cT]; rfl
theorem step_g5 (h : Has σ M w) (hM : Mach M lab p s) (hB : Base K M lab) (hA : AbsG c tp n s g) (hn : n < 100000) (ht : (t : Int) < c 1) (hq : tp[t]? = some q) (hl : levelOf c t = (l : Nat)) (hlc : (l : Int) < c 0) {F : StF} (hF : g.thr t = some F) (ok : OkF c g l F) (h1 : F.fn = 2) (hp : F.pc = 5) :
    Calls Try.prog 26 #[.pointer (some ⟨p, 0, none⟩), .int .i64 (t : Nat), .func (.func 6) #[] #[]] w fun r w' => ∃ M' lab' s', r = .returned (.bool ((g.go t { F with pc := 6 }).thr t).isSome) ∧ Has σ M' w' ∧ Mach M' lab' p s' ∧ Base K M' lab' ∧ AbsG c tp (n + 1) s' (g.go t { F with pc := 6 }) := by
  obtain rfl := hA.cc
  have eT : (s.tick l).thr = s.thr := rfl
  have hfr := frames_some hA.thr ht hF
  have hl' : levelOf (s.tick l).c (t : Nat) = (l : Nat) := by show levelOf s.c _ = _; rw [hA.cc]; exact hl
  have hlc' : (l : Int) < (s.tick l).c 0 := by show _ < s.c 0; rw [hA.cc]; exact hlc
  have hNN : (s.mem.N : Int) = s.c 0 * firsts s.c 10 := by rw [hA.cc]; exact hA.memN
  have hmay : ConfMay s.c := by rw [hA.cc]; exact hA.may
  have b1 : (s.tick l).mem.acc < 1000000000 := by show s.mem.acc < _; have := hA.acc; omega
  have b2 : (s.tick l).mem.wr < 1000000000 := by show s.mem.wr < _; have := hA.wr; omega
  have hlcS : (l : Int) < s.c 0 := hlc'
  have cT : (s.tick l).c = s.c := rfl
  have hS : (1 : Nat) ≤ 1 := Nat.le_refl _
  have gl : s.given.length ≤ n + 1 := Nat.le_succ_of_le hA.given
  have l256 := hA.may.2.2.2.2.1
  obtain ⟨i1, i2⟩ := ok.r0 h1
  have i3 : F.r0 < 256 := by omega
  have hk := inK_node (c := s.c) (j := 1) i1 i2 (by omega)
  have hit : s.mem.hit (atK s.c (l : Nat) 9 (F.r0 : Nat) ((1 : Nat) : Int)) = true := by rw [← hA.cc]; exact atK_hit hmay hNN hlcS (by rw [hA.cc]; exact hk)
  refine step_abs h hM hB hA hn ht hq hl hlc hF ok (R := fun s2 => s2 = MachS.top { s.tick l with mem := s.mem.store (atK s.c (l : Nat) 9 (F.r0 : Nat) ((1 : Nat) : Int)) 0 } t [] (F.enc.goto 6)) (fun s2 e => ?_) (.inr ⟨h1, fun b K1 M1 lab1 w1 hw hT => ?_⟩)
  · subst e
    exact ⟨⟨rfl, rfl⟩, hA.nextM hk (Nat.le_refl _) ⟨rfl, rfl, rfl, rfl, rfl⟩ (store_to hit) (hA.words.setFld (m := 1) hA.may i1 i2 (by omega) (by omega)) (hA.ward.mono (Nat.le_succ _)) (hA.thr.go (t := t) (F := { F with pc := 6 }) rfl ⟨rfl, rfl, rfl⟩) gl⟩
  · refine (give_5 hw hT (by show (F.pc : Int) = 5; omega) (sl := F.r0) rfl i3 hl' hlc' (by rw [cT]; exact hk) b1 b2).mono fun r w' ⟨e, M', lab', h', hT'⟩ => ⟨e, M', lab', _, h', hT'.mach, hT'.base, ?_⟩
    rw [cT]; rfl
theorem step_g6a (h : Has σ M w) (hM : Mach M lab p s) (hB : Base K M lab) (hA : AbsG c tp n s g) (hn : n < 100000) (ht : (t : Int) < c 1) (hq : tp[t]? = some q) (hl : levelOf c t = (l : Nat)) (hlc : (l : Int) < c 0) {F : StF} (hF : g.thr t = some F) (ok : OkF c g l F) (h1 : F.fn = 2) (hp : F.pc = 6) (hs : (F.r2 : Int) < c 12) :
    Calls Try.prog 26 #[.pointer (some ⟨p, 0, none⟩), .int .i64 (t : Nat), .func (.func 6) #[] #[]] w fun r w' => ∃ M' lab' s', r = .returned (.bool (((g.lev l { g.lv l with hd := put1 (g.lv l).hd F.r0 (mkHead F.r2 0), held := put1 (g.lv l).held F.r0 false }).go t { F with pc := 7 }).thr t).isSome) ∧ Has σ M' w' ∧ Mach M' lab' p s' ∧ Base K M' lab' ∧ AbsG c tp (n + 1) s' ((g.lev l { g.lv l with hd := put1 (g.lv l).hd F.r0 (mkHead F.r2 0), held := put1 (g.lv l).held F.r0 false }).go t { F with pc := 7 }) := by
  obtain rfl := hA.cc
  have eT : (s.tick l).thr = s.thr := rfl
  have hfr := frames_some hA.thr ht hF
  have hl' : levelOf (s.tick l).c (t : Nat) = (l : Nat) := by show levelOf s.c _ = _; rw [hA.cc]; exact hl
  have hlc' : (l : Int) < (s.tick l).c 0 := by show _ < s.c 0; rw [hA.cc]; exact hlc
  have hNN : (s.mem.N : Int) = s.c 0 * firsts s.c 10 := by rw [hA.cc]; exact hA.memN
  have hmay : ConfMay s.c := by rw [hA.cc]; exact hA.may
  have b1 : (s.tick l).mem.acc < 1000000000 := by show s.mem.acc < _; have := hA.acc; omega
  have b2 : (s.tick l).mem.wr < 1000000000 := by show s.mem.wr < _; have := hA.wr; omega
  have hlcS : (l : Int) < s.c 0 := hlc'
  have cT : (s.tick l).c = s.c := rfl
  have hS : (1 : Nat) ≤ 1 := Nat.le_refl _
  have gl : s.given.length ≤ n + 1 := Nat.le_succ_of_le hA.given
  have l256 := hA.may.2.2.2.2.1
  obtain ⟨i1, i2⟩ := ok.r0 h1
  have i3 : F.r0 < 256 := by omega
  have hk := inK_head (c := s.c) i1 i2
  have hit : s.mem.hit (atK s.c (l : Nat) 9 (F.r0 : Nat) 0) = true := by rw [← hA.cc]; exact atK_hit hmay hNN hlcS (by rw [hA.cc]; exact hk)
  obtain ⟨j1, j2⟩ := ok.gv6 h1 hp
  have hhas : (s.tick l).ward.has (l : Nat) (F.r0 : Nat) = true := by
    show s.ward.has _ _ = true
    unfold WardS.has
    rw [Bool.and_eq_true, decide_eq_true_eq, hA.ward.held l _ hlc i1 i2, j2]
    exact ⟨WardS.there_iff.2 ⟨by omega, by rw [hA.ward.lv]; exact hlc, by omega, by rw [hA.ward.sl]; exact i2⟩, by decide⟩
  have hgg : 0 ≤ valE (l : Nat) (F.r0 : Nat) (s.tick l).ward.gens ∧ valE (l : Nat) (F.r0 : Nat) (s.tick l).ward.gens < 1000000000 := by
    have := hA.ward.gens (l : Nat) (F.r0 : Nat)
    show 0 ≤ valE _ _ s.ward.gens ∧ valE _ _ s.ward.gens < _
    omega
  have hsp : (s.tick l).ward.slips < 1000000000 := by show s.ward.slips < _; rw [hA.ward.slips]; omega
  have hgn : (s.tick l).given.length < 1000000 := by show s.given.length < _; have := hA.given; omega
  refine step_abs h hM hB hA hn ht hq hl hlc hF ok (R := fun s2 => ∃ gv, s2 = ((s.tick l).idled l F.r0 F.r2 gv).top t [] (F.enc.goto 7)) (fun s2 e => ?_) (.inr ⟨h1, fun b K1 M1 lab1 w1 hw hT => ?_⟩)
  · obtain ⟨gv, rfl⟩ := e
    refine ⟨⟨rfl, rfl⟩, ?_⟩
    refine hA.nextM hk (Nat.le_refl _) ⟨rfl, rfl, rfl, rfl, rfl⟩ (by show s.mem.store _ _ = _; rw [cT]; exact store_to hit) ?_ (hA.ward.gone (l := l) (i := F.r0) rfl) (hA.thr.go (t := t) (F := { F with pc := 7 }) rfl ⟨rfl, rfl, rfl⟩) ?_
    · have := (hA.words.setHd hA.may hlc i1 i2 (mkHead F.r2 0)).same (l := l) (L := { g.lv l with hd := put1 (g.lv l).hd F.r0 (mkHead F.r2 0), held := put1 (g.lv l).held F.r0 false }) (by rw [put1_same]; exact ⟨rfl, rfl, rfl⟩)
      rw [put1_put1] at this
      exact this
    · show (s.given ++ [_]).length ≤ _
      rw [List.length_append]
      have := hA.given
      simp; omega
  · exact (give_6on hw hT (by show (F.pc : Int) = 6; omega) (sl := F.r0) (g := F.r2) rfl i3 rfl j1 hl' hlc' (by rw [cT]; exact hk) b1 b2 hA.ward.stamp hgg hsp hgn hhas (by simp) (by rw [cT]; exact hs)).mono fun r w' ⟨e, M', lab', gv, h', hT'⟩ => ⟨e, M', lab', _, h', hT'.mach, hT'.base, gv, rfl⟩
theorem step_g6b (h : Has σ M w) (hM : Mach M lab p s) (hB : Base K M lab) (hA : AbsG c tp n s g) (hn : n < 100000) (ht : (t : Int) < c 1) (hq : tp[t]? = some q) (hl : levelOf c t = (l : Nat)) (hlc : (l : Int) < c 0) {F : StF} (hF : g.thr t = some F) (ok : OkF c g l F) (h1 : F.fn = 2) (hp : F.pc = 6) (hs : c 12 ≤ (F.r2 : Int)) :
    Calls Try.prog 26 #[.pointer (some ⟨p, 0, none⟩), .int .i64 (t : Nat), .func (.func 6) #[] #[]] w fun r w' => ∃ M' lab' s', r = .returned (.bool (((g.lev l { g.lv l with hd := put1 (g.lv l).hd F.r0 (mkHead F.r2 0), held := put1 (g.lv l).held F.r0 false }).back t 0 0).thr t).isSome) ∧ Has σ M' w' ∧ Mach M' lab' p s' ∧ Base K M' lab' ∧ AbsG c tp (n + 1) s' ((g.lev l { g.lv l with hd := put1 (g.lv l).hd F.r0 (mkHead F.r2 0), held := put1 (g.lv l).held F.r0 false }).back t 0 0) := by
  obtain rfl := hA.cc
  have eT : (s.tick l).thr = s.thr := rfl
  have hfr := frames_some hA.thr ht hF
  have hl' : levelOf (s.tick l).c (t : Nat) = (l : Nat) := by show levelOf s.c _ = _; rw [hA.cc]; exact hl
  have hlc' : (l : Int) < (s.tick l).c 0 := by show _ < s.c 0; rw [hA.cc]; exact hlc
  have hNN : (s.mem.N : Int) = s.c 0 * firsts s.c 10 := by rw [hA.cc]; exact hA.memN
  have hmay : ConfMay s.c := by rw [hA.cc]; exact hA.may
  have b1 : (s.tick l).mem.acc < 1000000000 := by show s.mem.acc < _; have := hA.acc; omega
  have b2 : (s.tick l).mem.wr < 1000000000 := by show s.mem.wr < _; have := hA.wr; omega
  have hlcS : (l : Int) < s.c 0 := hlc'
  have cT : (s.tick l).c = s.c := rfl
  have hS : (1 : Nat) ≤ 1 := Nat.le_refl _
  have gl : s.given.length ≤ n + 1 := Nat.le_succ_of_le hA.given
  have l256 := hA.may.2.2.2.2.1
  obtain ⟨i1, i2⟩ := ok.r0 h1
  have i3 : F.r0 < 256 := by omega
  have hk := inK_head (c := s.c) i1 i2
  have hit : s.mem.hit (atK s.c (l : Nat) 9 (F.r0 : Nat) 0) = true := by rw [← hA.cc]; exact atK_hit hmay hNN hlcS (by rw [hA.cc]; exact hk)
  obtain ⟨j1, j2⟩ := ok.gv6 h1 hp
  have hhas : (s.tick l).ward.has (l : Nat) (F.r0 : Nat) = true := by
    show s.ward.has _ _ = true
    unfold WardS.has
    rw [Bool.and_eq_true, decide_eq_true_eq, hA.ward.held l _ hlc i1 i2, j2]
    exact ⟨WardS.there_iff.2 ⟨by omega, by rw [hA.ward.lv]; exact hlc, by omega, by rw [hA.ward.sl]; exact i2⟩, by decide⟩
  have hgg : 0 ≤ valE (l : Nat) (F.r0 : Nat) (s.tick l).ward.gens ∧ valE (l : Nat) (F.r0 : Nat) (s.tick l).ward.gens < 1000000000 := by
    have := hA.ward.gens (l : Nat) (F.r0 : Nat)
    show 0 ≤ valE _ _ s.ward.gens ∧ valE _ _ s.ward.gens < _
    omega
  have hsp : (s.tick l).ward.slips < 1000000000 := by show s.ward.slips < _; rw [hA.ward.slips]; omega
  have hgn : (s.tick l).given.length < 1000000 := by show s.given.length < _; have := hA.given; omega
  refine step_abs h hM hB hA hn ht hq hl hlc hF ok (R := fun s2 => ∃ gv, s2 = MachS.backed (((s.tick l).idled l F.r0 F.r2 gv).top t [] (F.enc.goto 7)) t []) (fun s2 e => ?_) (.inr ⟨h1, fun b K1 M1 lab1 w1 hw hT => ?_⟩)
  · obtain ⟨gv, rfl⟩ := e
    refine ⟨⟨rfl, rfl⟩, ?_⟩
    refine hA.nextM hk (Nat.le_refl _) ⟨rfl, rfl, rfl, rfl, rfl⟩ (by show s.mem.store _ _ = _; rw [cT]; exact store_to hit) ?_ (hA.ward.gone (l := l) (i := F.r0) rfl) (hA.thr.back (t := t) (a := 0) (b := 0) (x := { s.thr t with frames := [] ++ [F.enc.goto 7] }) (us := []) ⟨rfl, rfl, rfl⟩ ?_ ⟨rfl, rfl⟩ ⟨rfl, rfl, rfl⟩) ?_
    · have := (hA.words.setHd hA.may hlc i1 i2 (mkHead F.r2 0)).same (l := l) (L := { g.lv l with hd := put1 (g.lv l).hd F.r0 (mkHead F.r2 0), held := put1 (g.lv l).held F.r0 false }) (by rw [put1_same]; exact ⟨rfl, rfl, rfl⟩)
      rw [put1_put1] at this
      exact this
    · funext j
      show (if j = t then ThrS.back (if t = t then _ else _) [] else (if j = t then _ else _)) = _
      by_cases hj : j = t
      · rw [if_pos hj, if_pos rfl, if_pos hj]; rfl
      · rw [if_neg hj, if_neg hj, if_neg hj]; rfl
    · show (s.given ++ [_]).length ≤ _
      rw [List.length_append]
      have := hA.given
      simp; omega
  · exact (give_6end hw hT (by show (F.pc : Int) = 6; omega) (sl := F.r0) (g := F.r2) rfl i3 rfl j1 hl' hlc' (by rw [cT]; exact hk) b1 b2 hA.ward.stamp hgg hsp hgn hhas (by simp) (by rw [cT]; exact hs)).mono fun r w' ⟨e, M', lab', gv, h', hM', hB'⟩ => ⟨e, M', lab', _, h', hM', hB', gv, rfl⟩
theorem step_g7 (h : Has σ M w) (hM : Mach M lab p s) (hB : Base K M lab) (hA : AbsG c tp n s g) (hn : n < 100000) (ht : (t : Int) < c 1) (hq : tp[t]? = some q) (hl : levelOf c t = (l : Nat)) (hlc : (l : Int) < c 0) {F : StF} (hF : g.thr t = some F) (ok : OkF c g l F) (h1 : F.fn = 2) (hp : F.pc = 7) :
    Calls Try.prog 26 #[.pointer (some ⟨p, 0, none⟩), .int .i64 (t : Nat), .func (.func 6) #[] #[]] w fun r w' => ∃ M' lab' s', r = .returned (.bool ((g.go t { F with r1 := (g.lv l).top, pc := 8 }).thr t).isSome) ∧ Has σ M' w' ∧ Mach M' lab' p s' ∧ Base K M' lab' ∧ AbsG c tp (n + 1) s' (g.go t { F with r1 := (g.lv l).top, pc := 8 }) := by
  obtain rfl := hA.cc
  have eT : (s.tick l).thr = s.thr := rfl
  have hfr := frames_some hA.thr ht hF
  have hl' : levelOf (s.tick l).c (t : Nat) = (l : Nat) := by show levelOf s.c _ = _; rw [hA.cc]; exact hl
  have hlc' : (l : Int) < (s.tick l).c 0 := by show _ < s.c 0; rw [hA.cc]; exact hlc
  have hNN : (s.mem.N : Int) = s.c 0 * firsts s.c 10 := by rw [hA.cc]; exact hA.memN
  have hmay : ConfMay s.c := by rw [hA.cc]; exact hA.may
  have b1 : (s.tick l).mem.acc < 1000000000 := by show s.mem.acc < _; have := hA.acc; omega
  have b2 : (s.tick l).mem.wr < 1000000000 := by show s.mem.wr < _; have := hA.wr; omega
  have hlcS : (l : Int) < s.c 0 := hlc'
  have cT : (s.tick l).c = s.c := rfl
  have hS : (1 : Nat) ≤ 1 := Nat.le_refl _
  have gl : s.given.length ≤ n + 1 := Nat.le_succ_of_le hA.given
  have l256 := hA.may.2.2.2.2.1
  obtain ⟨i1, i2⟩ := ok.r0 h1
  have i3 : F.r0 < 256 := by omega
  have hit := atK_hit hmay hNN hlcS (inK_free s.c)
  have hv : s.mem.load (atK s.c (l : Nat) 0 0 0) = ((g.lv l).top : Int) := load_at hit (by rw [hA.cc]; exact hA.words.top l hlc)
  refine step_abs h hM hB hA hn ht hq hl hlc hF ok (R := fun s2 => s2 = MachS.top { s.tick l with mem := s.mem.at_ (atK s.c (l : Nat) 0 0 0) } t [] ((F.enc.reg 1 ((g.lv l).top : Nat)).goto 8)) (fun s2 e => ?_) (.inr ⟨h1, fun b K1 M1 lab1 w1 hw hT => ?_⟩)
  · subst e
    refine ⟨⟨rfl, rfl⟩, hA.nextM (inK_free s.c) (Nat.zero_le _) ⟨rfl, rfl, rfl, rfl, rfl⟩ (by rw [← hA.cc]; exact at_to hit) hA.words (hA.ward.mono (Nat.le_succ _)) (hA.thr.go (t := t) (F := { F with r1 := (g.lv l).top, pc := 8 }) ?_ ⟨rfl, rfl, rfl⟩) gl⟩
    rw [enc_reg1, show (8 : Int) = ((8 : Nat) : Int) from rfl, enc_goto]; rfl
  · refine (give_7 hw hT (by show (F.pc : Int) = 7; omega) (sl := F.r0) rfl i3 (spotAt_of hT.mach hl' hlc' (inK_free _)) b1).mono fun r w' ⟨e, M', lab', h', hT'⟩ => ⟨e, M', lab', _, h', hT'.mach, hT'.base, ?_⟩
    show MachS.top { s.tick l with mem := s.mem.at_ (atK s.c (l : Nat) 0 0 0) } t [] ((F.enc.reg 1 (s.mem.load (atK s.c (l : Nat) 0 0 0))).goto 8) = _
    rw [hv]
theorem step_g8 (h : Has σ M w) (hM : Mach M lab p s) (hB : Base K M lab) (hA : AbsG c tp n s g) (hn : n < 100000) (ht : (t : Int) < c 1) (hq : tp[t]? = some q) (hl : levelOf c t = (l : Nat)) (hlc : (l : Int) < c 0) {F : StF} (hF : g.thr t = some F) (ok : OkF c g l F) (h1 : F.fn = 2) (hp : F.pc = 8) :
    Calls Try.prog 26 #[.pointer (some ⟨p, 0, none⟩), .int .i64 (t : Nat), .func (.func 6) #[] #[]] w fun r w' => ∃ M' lab' s', r = .returned (.bool (((g.lev l { g.lv l with lk := put1 (g.lv l).lk F.r0 (slOf F.r1) }).go t { F with pc := 9 }).thr t).isSome) ∧ Has σ M' w' ∧ Mach M' lab' p s' ∧ Base K M' lab' ∧ AbsG c tp (n + 1) s' ((g.lev l { g.lv l with lk := put1 (g.lv l).lk F.r0 (slOf F.r1) }).go t { F with pc := 9 }) := by
  obtain rfl := hA.cc
  have eT : (s.tick l).thr = s.thr := rfl
  have hfr := frames_some hA.thr ht hF
  have hl' : levelOf (s.tick l).c (t : Nat) = (l : Nat) := by show levelOf s.c _ = _; rw [hA.cc]; exact hl
  have hlc' : (l : Int) < (s.tick l).c 0 := by show _ < s.c 0; rw [hA.cc]; exact hlc
  have hNN : (s.mem.N : Int) = s.c 0 * firsts s.c 10 := by rw [hA.cc]; exact hA.memN
  have hmay : ConfMay s.c := by rw [hA.cc]; exact hA.may
  have b1 : (s.tick l).mem.acc < 1000000000 := by show s.mem.acc < _; have := hA.acc; omega
  have b2 : (s.tick l).mem.wr < 1000000000 := by show s.mem.wr < _; have := hA.wr; omega
  have hlcS : (l : Int) < s.c 0 := hlc'
  have cT : (s.tick l).c = s.c := rfl
  have hS : (1 : Nat) ≤ 1 := Nat.le_refl _
  have gl : s.given.length ≤ n + 1 := Nat.le_succ_of_le hA.given
  have l256 := hA.may.2.2.2.2.1
  obtain ⟨i1, i2⟩ := ok.r0 h1
  have i3 : F.r0 < 256 := by omega
  have hk := inK_link (c := s.c) i1 i2
  have hit : s.mem.hit (atK s.c (l : Nat) 8 (F.r0 : Nat) 0) = true := by rw [← hA.cc]; exact atK_hit hmay hNN hlcS (by rw [hA.cc]; exact hk)
  refine step_abs h hM hB hA hn ht hq hl hlc hF ok (R := fun s2 => s2 = MachS.top { s.tick l with mem := s.mem.store (atK s.c (l : Nat) 8 (F.r0 : Nat) 0) (cutN F.r1 0 8 : Nat) } t [] (F.enc.goto 9)) (fun s2 e => ?_) (.inr ⟨h1, fun b K1 M1 lab1 w1 hw hT => ?_⟩)
  · subst e
    exact ⟨⟨rfl, rfl⟩, hA.nextM hk (Nat.le_refl _) ⟨rfl, rfl, rfl, rfl, rfl⟩ (store_to hit) (hA.words.setLk hA.may hlc i1 i2 _) (WardG.mono (by exact hA.ward.same rfl) (Nat.le_succ _)) (hA.thr.go (t := t) (F := { F with pc := 9 }) rfl ⟨rfl, rfl, rfl⟩) gl⟩
  · refine (give_8 hw hT (by show (F.pc : Int) = 8; omega) (sl := F.r0) (x := F.r1) rfl i3 rfl ok.r1 hl' hlc' (by rw [cT]; exact hk) b1 b2).mono fun r w' ⟨e, M', lab', h', hT'⟩ => ⟨e, M', lab', _, h', hT'.mach, hT'.base, ?_⟩
    rw [cT]; rfl
theorem step_g9a (h : Has σ M w) (hM : Mach M lab p s) (hB : Base K M lab) (hA : AbsG c tp n s g) (hn : n < 100000) (ht : (t : Int) < c 1) (hq : tp[t]? = some q) (hl : levelOf c t = (l : Nat)) (hlc : (l : Int) < c 0) {F : StF} (hF : g.thr t = some F) (ok : OkF c g l F) (h1 : F.fn = 2) (hp : F.pc = 9) (hs : (g.lv l).top = F.r1) :
    Calls Try.prog 26 #[.pointer (some ⟨p, 0, none⟩), .int .i64 (t : Nat), .func (.func 6) #[] #[]] w fun r w' => ∃ M' lab' s', r = .returned (.bool (((g.lev l { g.lv l with top := mkTop F.r0 (cnt F.r1 + 1) }).back t 0 0).thr t).isSome) ∧ Has σ M' w' ∧ Mach M' lab' p s' ∧ Base K M' lab' ∧ AbsG c tp (n + 1) s' ((g.lev l { g.lv l with top := mkTop F.r0 (cnt F.r1 + 1) }).back t 0 0) := by
  obtain rfl := hA.cc
  have eT : (s.tick l).thr = s.thr := rfl
  have hfr := frames_some hA.thr ht hF
  have hl' : levelOf (s.tick l).c (t : Nat) = (l : Nat) := by show levelOf s.c _ = _; rw [hA.cc]; exact hl
  have hlc' : (l : Int) < (s.tick l).c 0 := by show _ < s.c 0; rw [hA.cc]; exact hlc
  have hNN : (s.mem.N : Int) = s.c 0 * firsts s.c 10 := by rw [hA.cc]; exact hA.memN
  have hmay : ConfMay s.c := by rw [hA.cc]; exact hA.may
  have b1 : (s.tick l).mem.acc < 1000000000 := by show s.mem.acc < _; have := hA.acc; omega
  have b2 : (s.tick l).mem.wr < 1000000000 := by show s.mem.wr < _; have := hA.wr; omega
  have hlcS : (l : Int) < s.c 0 := hlc'
  have cT : (s.tick l).c = s.c := rfl
  have hS : (1 : Nat) ≤ 1 := Nat.le_refl _
  have gl : s.given.length ≤ n + 1 := Nat.le_succ_of_le hA.given
  have l256 := hA.may.2.2.2.2.1
  obtain ⟨i1, i2⟩ := ok.r0 h1
  have i3 : F.r0 < 256 := by omega
  have hit := atK_hit hmay hNN hlcS (inK_free s.c)
  have hit' : s.mem.hit (atK s.c (l : Nat) 0 0 0) = true := by rw [← hA.cc]; exact hit
  have hf0 := hA.words.top l hlc
  have hsw : s.mem.swaps (atK s.c (l : Nat) 0 0 0) (F.r1 : Nat) = true := by unfold MemS.swaps; rw [hit', hf0, hs]; simp
  refine step_abs h hM hB hA hn ht hq hl hlc hF ok (R := fun s2 => s2 = MachS.backed { (s.tick l).top t [] (F.enc.goto 7) with mem := s.mem.cas (atK s.c (l : Nat) 0 0 0) (F.r1 : Nat) (mkTop F.r0 (cutN F.r1 8 56 + 1) : Nat) } t []) (fun s2 e => ?_) (.inr ⟨h1, fun b K1 M1 lab1 w1 hw hT => ?_⟩)
  · subst e
    refine ⟨⟨rfl, rfl⟩, hA.nextM (inK_free s.c) (Nat.le_refl _) ⟨rfl, rfl, rfl, rfl, rfl⟩ (cas_yes hit' hsw) (hA.words.setTop hA.may hlc (mkTop F.r0 (cutN F.r1 8 56 + 1))) (WardG.mono (by exact hA.ward.same rfl) (Nat.le_succ _)) (hA.thr.back (t := t) (a := 0) (b := 0) (x := { s.thr t with frames := [] ++ [F.enc.goto 7] }) (us := []) ⟨rfl, rfl, rfl⟩ ?_ ⟨rfl, rfl⟩ ⟨rfl, rfl, rfl⟩) gl⟩
    funext j
    show (if j = t then ThrS.back (if t = t then _ else _) [] else (if j = t then _ else _)) = _
    by_cases hj : j = t
    · rw [if_pos hj, if_pos rfl, if_pos hj]; rfl
    · rw [if_neg hj, if_neg hj, if_neg hj]; rfl
  · refine (give_9yes hw hT (by show (F.pc : Int) = 9; omega) (sl := F.r0) (x := F.r1) rfl i3 rfl ok.r1 hl' hlc' b1 b2 (by rw [cT]; exact hsw) (by simp)).mono fun r w' ⟨e, M', lab', h', hM', hB'⟩ => ⟨e, M', lab', _, h', hM', hB', ?_⟩
    rw [cT]; rfl
theorem step_g9b (h : Has σ M w) (hM : Mach M lab p s) (hB : Base K M lab) (hA : AbsG c tp n s g) (hn : n < 100000) (ht : (t : Int) < c 1) (hq : tp[t]? = some q) (hl : levelOf c t = (l : Nat)) (hlc : (l : Int) < c 0) {F : StF} (hF : g.thr t = some F) (ok : OkF c g l F) (h1 : F.fn = 2) (hp : F.pc = 9) (hs : (g.lv l).top ≠ F.r1) :
    Calls Try.prog 26 #[.pointer (some ⟨p, 0, none⟩), .int .i64 (t : Nat), .func (.func 6) #[] #[]] w fun r w' => ∃ M' lab' s', r = .returned (.bool ((g.go t { F with pc := 7 }).thr t).isSome) ∧ Has σ M' w' ∧ Mach M' lab' p s' ∧ Base K M' lab' ∧ AbsG c tp (n + 1) s' (g.go t { F with pc := 7 }) := by
  obtain rfl := hA.cc
  have eT : (s.tick l).thr = s.thr := rfl
  have hfr := frames_some hA.thr ht hF
  have hl' : levelOf (s.tick l).c (t : Nat) = (l : Nat) := by show levelOf s.c _ = _; rw [hA.cc]; exact hl
  have hlc' : (l : Int) < (s.tick l).c 0 := by show _ < s.c 0; rw [hA.cc]; exact hlc
  have hNN : (s.mem.N : Int) = s.c 0 * firsts s.c 10 := by rw [hA.cc]; exact hA.memN
  have hmay : ConfMay s.c := by rw [hA.cc]; exact hA.may
  have b1 : (s.tick l).mem.acc < 1000000000 := by show s.mem.acc < _; have := hA.acc; omega
  have b2 : (s.tick l).mem.wr < 1000000000 := by show s.mem.wr < _; have := hA.wr; omega
  have hlcS : (l : Int) < s.c 0 := hlc'
  have cT : (s.tick l).c = s.c := rfl
  have hS : (1 : Nat) ≤ 1 := Nat.le_refl _
  have gl : s.given.length ≤ n + 1 := Nat.le_succ_of_le hA.given
  have l256 := hA.may.2.2.2.2.1
  obtain ⟨i1, i2⟩ := ok.r0 h1
  have i3 : F.r0 < 256 := by omega
  have hit := atK_hit hmay hNN hlcS (inK_free s.c)
  have hit' : s.mem.hit (atK s.c (l : Nat) 0 0 0) = true := by rw [← hA.cc]; exact hit
  have hf0 := hA.words.top l hlc
  have hsw : s.mem.swaps (atK s.c (l : Nat) 0 0 0) (F.r1 : Nat) = false := by unfold MemS.swaps; rw [hit', hf0]; simp; omega
  refine step_abs h hM hB hA hn ht hq hl hlc hF ok (R := fun s2 => s2 = { (s.tick l).top t [] (F.enc.goto 7) with mem := s.mem.cas (atK s.c (l : Nat) 0 0 0) (F.r1 : Nat) (mkTop F.r0 (cutN F.r1 8 56 + 1) : Nat) }) (fun s2 e => ?_) (.inr ⟨h1, fun b K1 M1 lab1 w1 hw hT => ?_⟩)
  · subst e
    exact ⟨⟨rfl, rfl⟩, hA.nextM (inK_free s.c) (Nat.zero_le _) ⟨rfl, rfl, rfl, rfl, rfl⟩ (cas_no hit' hsw) hA.words (hA.ward.mono (Nat.le_succ _)) (hA.thr.go (t := t) (F := { F with pc := 7 }) rfl ⟨rfl, rfl, rfl⟩) gl⟩
  · refine (give_9no hw hT (by show (F.pc : Int) = 9; omega) (sl := F.r0) (x := F.r1) rfl i3 rfl ok.r1 hl' hlc' b1 b2 (by rw [cT]; exact hsw)).mono fun r w' ⟨e, M', lab', h', hT'⟩ => ⟨e, M', lab', _, h', hT'.mach, hT'.base, ?_⟩
    rw [cT]; rfl
/-- A step of a thread that is within Take or Give. -/
theorem step_next (h : Has σ M w) (hM : Mach M lab p s) (hB : Base K M lab) (hA : AbsG c tp n s g) (hn : n < 100000) (ht : (t : Int) < c 1) (hq : tp[t]? = some q) (hl : levelOf c t = (l : Nat)) (hlc : (l : Int) < c 0) {F : StF} (hF : g.thr t = some F) (ok : OkF c g l F) {gens : Nat} (hg : c 12 = (gens : Nat)) :
    Calls Try.prog 26 #[.pointer (some ⟨p, 0, none⟩), .int .i64 (t : Nat), .func (.func 6) #[] #[]] w fun r w' => ∃ M' lab' s', r = .returned (.bool ((g.next gens t l F).thr t).isSome) ∧ Has σ M' w' ∧ Mach M' lab' p s' ∧ Base K M' lab' ∧ AbsG c tp (n + 1) s' (g.next gens t l F) := by
  rcases ok.fn with h1 | h1
  · have h3 := ok.tk h1
    have e : F.pc = 0 ∨ F.pc = 1 ∨ F.pc = 2 ∨ F.pc = 3 := by omega
    rcases e with hp | hp | hp | hp
    · unfold StG.next StG.take; rw [if_pos h1, if_pos hp]
      exact step_t0 h hM hB hA hn ht hq hl hlc hF ok h1 hp
    · by_cases hs : slOf F.r1 = 0
      · unfold StG.next StG.take; rw [if_pos h1, if_neg (by omega), if_pos hp, if_pos hs]
        exact step_t1a h hM hB hA hn ht hq hl hlc hF ok h1 hp hs
      · unfold StG.next StG.take; rw [if_pos h1, if_neg (by omega), if_pos hp, if_neg hs]
        exact step_t1b h hM hB hA hn ht hq hl hlc hF ok h1 hp hs
    · by_cases hs : (g.lv l).top = F.r1
      · unfold StG.next StG.take; rw [if_pos h1, if_neg (by omega), if_neg (by omega), if_pos hp, if_pos hs]
        exact step_t2a h hM hB hA hn ht hq hl hlc hF ok h1 hp hs
      · unfold StG.next StG.take; rw [if_pos h1, if_neg (by omega), if_neg (by omega), if_pos hp, if_neg hs]
        exact step_t2b h hM hB hA hn ht hq hl hlc hF ok h1 hp hs
    · unfold StG.next StG.take; rw [if_pos h1, if_neg (by omega), if_neg (by omega), if_neg (by omega)]
      exact step_t3 h hM hB hA hn ht hq hl hlc hF ok h1 hp
  · have h3 := ok.gv h1
    have h0 : F.fn ≠ 1 := by omega
    have e : F.pc = 0 ∨ F.pc = 1 ∨ F.pc = 2 ∨ F.pc = 3 ∨ F.pc = 4 ∨ F.pc = 5 ∨ F.pc = 6 ∨ F.pc = 7 ∨ F.pc = 8 ∨ F.pc = 9 := by omega
    rcases e with hp | hp | hp | hp | hp | hp | hp | hp | hp | hp
    · unfold StG.next StG.give; rw [if_neg h0, if_pos hp]
      exact step_g0 h hM hB hA hn ht hq hl hlc hF ok h1 hp
    · unfold StG.next StG.give; rw [if_neg h0, if_neg (by omega), if_pos hp]
      exact step_g1 h hM hB hA hn ht hq hl hlc hF ok h1 hp
    · unfold StG.next StG.give; rw [if_neg h0, if_neg (by omega), if_neg (by omega), if_pos hp]
      exact step_g2 h hM hB hA hn ht hq hl hlc hF ok h1 hp
    · unfold StG.next StG.give; rw [if_neg h0, if_neg (by omega), if_neg (by omega), if_neg (by omega), if_pos hp]
      exact step_g3 h hM hB hA hn ht hq hl hlc hF ok h1 hp
    · unfold StG.next StG.give; rw [if_neg h0, if_neg (by omega), if_neg (by omega), if_neg (by omega), if_neg (by omega), if_pos hp]
      exact step_g4 h hM hB hA hn ht hq hl hlc hF ok h1 hp
    · unfold StG.next StG.give; rw [if_neg h0, if_neg (by omega), if_neg (by omega), if_neg (by omega), if_neg (by omega), if_neg (by omega), if_pos hp]
      exact step_g5 h hM hB hA hn ht hq hl hlc hF ok h1 hp
    · by_cases hs : F.r2 < gens
      · unfold StG.next StG.give; rw [if_neg h0, if_neg (by omega), if_neg (by omega), if_neg (by omega), if_neg (by omega), if_neg (by omega), if_neg (by omega), if_pos hp, if_pos hs]
        exact step_g6a h hM hB hA hn ht hq hl hlc hF ok h1 hp (by omega)
      · unfold StG.next StG.give; rw [if_neg h0, if_neg (by omega), if_neg (by omega), if_neg (by omega), if_neg (by omega), if_neg (by omega), if_neg (by omega), if_pos hp, if_neg hs]
        exact step_g6b h hM hB hA hn ht hq hl hlc hF ok h1 hp (by omega)
    · unfold StG.next StG.give; rw [if_neg h0, if_neg (by omega), if_neg (by omega), if_neg (by omega), if_neg (by omega), if_neg (by omega), if_neg (by omega), if_neg (by omega), if_pos hp]
      exact step_g7 h hM hB hA hn ht hq hl hlc hF ok h1 hp
    · unfold StG.next StG.give; rw [if_neg h0, if_neg (by omega), if_neg (by omega), if_neg (by omega), if_neg (by omega), if_neg (by omega), if_neg (by omega), if_neg (by omega), if_neg (by omega), if_pos hp]
      exact step_g8 h hM hB hA hn ht hq hl hlc hF ok h1 hp
    · by_cases hs : (g.lv l).top = F.r1
      · unfold StG.next StG.give; rw [if_neg h0, if_neg (by omega), if_neg (by omega), if_neg (by omega), if_neg (by omega), if_neg (by omega), if_neg (by omega), if_neg (by omega), if_neg (by omega), if_neg (by omega), if_pos hs]
        exact step_g9a h hM hB hA hn ht hq hl hlc hF ok h1 hp hs
      · unfold StG.next StG.give; rw [if_neg h0, if_neg (by omega), if_neg (by omega), if_neg (by omega), if_neg (by omega), if_neg (by omega), if_neg (by omega), if_neg (by omega), if_neg (by omega), if_neg (by omega), if_neg hs]
        exact step_g9b h hM hB hA hn ht hq hl hlc hF ok h1 hp hs
end
end
section
open Go.RowKit
set_option linter.unusedVariables false
set_option linter.unusedSimpArgs false
set_option linter.unnecessarySimpa false
def chainP (lk : Nat → Nat) : Nat → List Nat → Prop
  | s, [] => s = 0
  | s, x :: r => s = x ∧ 1 ≤ x ∧ chainP lk (lk x) r
theorem chainP_congr {lk lk' : Nat → Nat} : ∀ (L : List Nat) (s : Nat), chainP lk s L → (∀ x ∈ L, lk' x = lk x) → chainP lk' s L
  | [], _, h, _ => h
  | x :: r, s, h, hx => ⟨h.1, h.2.1, by rw [hx x List.mem_cons_self]; exact chainP_congr r _ h.2.2 fun y hy => hx y (List.mem_cons_of_mem _ hy)⟩
theorem mkTop_eq (a n : Nat) : mkTop a n = 256 * (n % 72057594037927936) + a % 256 := by
  unfold mkTop setN cutN
  have h1 : a / 2 ^ 0 % 2 ^ 8 / 2 ^ (8 + 56) = 0 := Nat.div_eq_of_lt (by omega)
  rw [h1]
  omega
theorem mkHead_eq (g st : Nat) : mkHead g st = 4 * (g % 4294967296) + st % 4 := by
  unfold mkHead setN cutN
  have h1 : st / 2 ^ 0 % 2 ^ 2 / 2 ^ (2 + 32) = 0 := Nat.div_eq_of_lt (by omega)
  rw [h1]
  omega
theorem slOf_eq (x : Nat) : slOf x = x % 256 := by unfold slOf cutN; omega
theorem cnt_eq (x : Nat) : cnt x = x / 256 % 72057594037927936 := by unfold cnt cutN; omega
theorem genOf_eq (x : Nat) : genOf x = x / 4 % 4294967296 := by unfold genOf cutN; omega
theorem sl_top {a n : Nat} (h : a < 256) : slOf (mkTop a n) = a := by rw [slOf_eq, mkTop_eq]; omega
theorem cnt_top {a n : Nat} (h : n < 1000000) : cnt (mkTop a n) = n := by rw [cnt_eq, mkTop_eq]; omega
theorem top_lt (a n : Nat) : mkTop a n < 18446744073709551616 := by rw [mkTop_eq]; omega
theorem gen_head {g st : Nat} (h : g < 1000000) : genOf (mkHead g st) = g := by rw [genOf_eq, mkHead_eq]; omega
theorem head_lt (g st : Nat) : mkHead g st < 17179869184 := by rw [mkHead_eq]; omega
theorem head_st (g : Nat) : mkHead g 0 % 4 = 0 := by rw [mkHead_eq]; omega
def Past (top r : Nat) : Prop := cnt r ≤ cnt top ∧ (cnt r = cnt top → r = top)
theorem Past.refl (x : Nat) : Past x x := ⟨Nat.le_refl _, fun _ => rfl⟩
/-- A thread within a routine. Owners: 1 free, (2, j) had, (3, t) being taken, (4, t) being given, (5, t) given back and not yet free, 0 none. -/
structure ThrI (S : Nat) (V : LvG) (ow : Nat → Nat × Nat) (t : Nat) (F : StF) : Prop where
  fn : F.fn = 1 ∨ F.fn = 2
  r1 : F.r1 < 18446744073709551616
  past : (F.fn = 1 ∧ (F.pc = 1 ∨ F.pc = 2)) ∨ (F.fn = 2 ∧ (F.pc = 8 ∨ F.pc = 9)) → Past V.top F.r1 ∧ slOf F.r1 ≤ S
  tk : F.fn = 1 → F.pc ≤ 3
  gv : F.fn = 2 → F.pc ≤ 9
  tk2 : F.fn = 1 → F.pc = 2 → 1 ≤ slOf F.r1 ∧ F.r2 ≤ S ∧ (V.top = F.r1 → F.r2 = V.lk (slOf F.r1))
  tk3 : F.fn = 1 → F.pc = 3 → 1 ≤ slOf F.r1 ∧ slOf F.r1 ≤ S ∧ ow (slOf F.r1) = (3, t)
  r0 : F.fn = 2 → 1 ≤ F.r0 ∧ F.r0 ≤ S ∧ ow F.r0 = (if F.pc ≤ 6 then 4 else 5, t)
  gen : F.fn = 2 → 1 ≤ F.pc → F.pc ≤ 6 → F.r2 = genOf (V.hd F.r0) + 1
  lk9 : F.fn = 2 → F.pc = 9 → V.lk F.r0 = slOf F.r1
structure LvI (S gens n : Nat) (V : LvG) (ow : Nat → Nat × Nat) (L : List Nat) : Prop where
  chain : chainP V.lk (slOf V.top) L
  nodup : L.Nodup
  mem : ∀ x, x ∈ L ↔ 1 ≤ x ∧ x ≤ S ∧ (ow x).1 = 1
  top : V.top < 18446744073709551616
  cntN : cnt V.top ≤ n
  lk : ∀ i, 1 ≤ i → i ≤ S → V.lk i ≤ S
  hd : ∀ i, 1 ≤ i → i ≤ S → V.hd i < 17179869184 ∧ genOf (V.hd i) ≤ n
  on : ∀ i, 1 ≤ i → i ≤ S → (ow i).1 = 2 ∨ (ow i).1 = 3 ∨ (ow i).1 = 4 → V.held i = true
  off : ∀ i, 1 ≤ i → i ≤ S → (ow i).1 = 1 ∨ (ow i).1 = 5 → V.held i = false ∧ V.hd i % 4 = 0 ∧ genOf (V.hd i) < gens
  none : ∀ i, 1 ≤ i → i ≤ S → (ow i).1 = 0 → V.held i = true ∨ gens ≤ genOf (V.hd i)
  code : ∀ i, 1 ≤ i → i ≤ S → (ow i).1 ≤ 5
structure EvI (S : Nat) (V : LvG) (ow : Nat → Nat × Nat) (ev : List (Nat × Nat)) : Prop where
  all : ∀ x gn, (x, gn) ∈ ev → 1 ≤ x ∧ x ≤ S ∧ gn ≤ genOf (V.hd x) ∧ ((ow x).1 = 1 ∨ (ow x).1 = 3 ∨ (ow x).1 = 5 → gn < genOf (V.hd x))
structure HadI (S : Nat) (ow : Nat → Nat × Nat) (j : Nat) (had : List Nat) : Prop where
  nodup : had.Nodup
  all : ∀ x ∈ had, 1 ≤ x ∧ x ≤ S ∧ ow x = (2, j)
structure GInv (S gens NL T : Nat) (lev hl : Nat → Nat) (n : Nat) (g : StG) (L : Nat → List Nat) (ow : Nat → Nat → Nat × Nat) (had : Nat → List Nat) (ev : Nat → List (Nat × Nat)) : Prop where
  lv : ∀ l, l < NL → LvI S gens n (g.lv l) (ow l) (L l)
  thr : ∀ t, t < T → ∀ F, g.thr t = some F → ThrI S (g.lv (lev t)) (ow (lev t)) t F
  had : ∀ j, HadI S (ow (hl j)) j (had j)
  ev : ∀ l, l < NL → EvI S (g.lv l) (ow l) (ev l)
section
variable {S gens NL T n : Nat} {lev hl : Nat → Nat} {g g2 : StG} {L : Nat → List Nat} {ow : Nat → Nat → Nat × Nat} {had : Nat → List Nat} {ev : Nat → List (Nat × Nat)} {t l : Nat} {F F2 : StF} {V V2 : LvG} {o o2 : Nat → Nat × Nat}
theorem LvI.mono {L : List Nat} (h : LvI S gens n V o L) : LvI S gens (n + 1) V o L :=
  ⟨h.chain, h.nodup, h.mem, h.top, Nat.le_succ_of_le h.cntN, h.lk, fun i a b => ⟨(h.hd i a b).1, Nat.le_succ_of_le (h.hd i a b).2⟩, h.on, h.off, h.none, h.code⟩
theorem LvI.first {L : List Nat} (h : LvI S gens n V o L) : slOf V.top ≤ S ∧ (slOf V.top = 0 → L = []) ∧ (slOf V.top ≠ 0 → ∃ r, L = slOf V.top :: r) := by
  have hc := h.chain
  cases hL : L with
  | nil => rw [hL] at hc; have e : slOf V.top = 0 := hc; rw [e]; exact ⟨Nat.zero_le _, fun _ => rfl, fun h => absurd rfl h⟩
  | cons x r =>
    rw [hL] at hc
    obtain ⟨e, e1, _⟩ := hc
    have hx := (h.mem x).1 (by rw [hL]; exact List.mem_cons_self)
    rw [e]
    exact ⟨hx.2.1, fun e2 => by omega, fun _ => ⟨r, rfl⟩⟩
/-- Another thread's step. -/
theorem ThrI.frame {t' x : Nat} (h : ThrI S V o t' F) (c1 : V2.top = V.top ∨ cnt V2.top = cnt V.top + 1) (c2 : ∀ i, i ≠ x → V2.lk i = V.lk i ∧ V2.hd i = V.hd i ∧ o2 i = o i) (c3 : ∀ k, 3 ≤ k → o x ≠ (k, t')) (c4 : V2.top = V.top → slOf V.top ≠ x ∨ V2.lk x = V.lk x) : ThrI S V2 o2 t' F := by
  have hr0 : F.fn = 2 → F.r0 ≠ x := fun h2 e => by
    have := (h.r0 h2).2.2
    rw [e] at this
    split at this
    · exact c3 4 (by omega) this
    · exact c3 5 (by omega) this
  refine ⟨h.fn, h.r1, fun hp => ⟨?_, (h.past hp).2⟩, h.tk, h.gv, fun h1 h2 => ?_, fun h1 h2 => ?_, fun h1 => ?_, fun h1 h2 h3 => ?_, fun h1 h2 => ?_⟩
  · obtain ⟨a, b⟩ := (h.past hp).1
    rcases c1 with e | e
    · rw [e]; exact ⟨a, b⟩
    · exact ⟨by omega, fun e2 => by omega⟩
  · obtain ⟨a, b, d⟩ := h.tk2 h1 h2
    refine ⟨a, b, fun e => ?_⟩
    have hp := (h.past (.inl ⟨h1, .inr h2⟩)).1
    rcases c1 with e1 | e1
    · rw [d (by rw [← e1]; exact e)]
      by_cases hx : slOf F.r1 = x
      · rcases c4 e1 with h4 | h4
        · exact absurd (by rw [← e1, e]; exact hx) h4
        · rw [hx, h4]
      · exact ((c2 _ hx).1).symm
    · rw [e] at e1
      have := hp.1
      omega
  · obtain ⟨a, b, d⟩ := h.tk3 h1 h2
    exact ⟨a, b, by rw [(c2 _ fun e => c3 3 (by omega) (by rw [← e]; exact d)).2.2]; exact d⟩
  · obtain ⟨a, b, d⟩ := h.r0 h1
    exact ⟨a, b, by rw [(c2 _ (hr0 h1)).2.2]; exact d⟩
  · rw [(c2 _ (hr0 h1)).2.1]; exact h.gen h1 h2 h3
  · rw [(c2 _ (hr0 h1)).1]; exact h.lk9 h1 h2
/-- A step at level l: what is to be shown. -/
theorem GInv.upd (h : GInv S gens NL T lev hl n g L ow had ev) (hl0 : lev t < NL) {x : Nat} {L2 : List Nat} {had2 : Nat → List Nat} {ev2 : List (Nat × Nat)} {Fo : Option StF}
    (e1 : g2.lv = put1 g.lv (lev t) V2) (e2 : g2.thr = put1 g.thr t Fo)
    (c1 : V2.top = (g.lv (lev t)).top ∨ cnt V2.top = cnt (g.lv (lev t)).top + 1) (c2 : ∀ i, i ≠ x → V2.lk i = (g.lv (lev t)).lk i ∧ V2.hd i = (g.lv (lev t)).hd i ∧ o2 i = ow (lev t) i) (c3 : ∀ k t', 3 ≤ k → t' ≠ t → ow (lev t) x ≠ (k, t')) (c4 : V2.top = (g.lv (lev t)).top → slOf (g.lv (lev t)).top ≠ x ∨ V2.lk x = (g.lv (lev t)).lk x)
    (hL : LvI S gens (n + 1) V2 o2 L2) (hF : ∀ F, Fo = some F → ThrI S V2 o2 t F) (hH : ∀ j, hl j = lev t → HadI S o2 j (had2 j)) (hH2 : ∀ j, hl j ≠ lev t → had2 j = had j) (hE : EvI S V2 o2 ev2) :
    GInv S gens NL T lev hl (n + 1) g2 (put1 L (lev t) L2) (put1 ow (lev t) o2) had2 (put1 ev (lev t) ev2) := by
  refine ⟨fun l hl => ?_, fun t' ht' F hF' => ?_, fun j => ?_, fun l hl => ?_⟩
  · rw [e1]
    by_cases e : l = lev t
    · subst e; rw [put1_same, put1_same, put1_same]; exact hL
    · rw [put1_ne e, put1_ne e, put1_ne e]; exact (h.lv l hl).mono
  · rw [e1]
    rw [e2] at hF'
    by_cases e : t' = t
    · subst e
      rw [put1_same] at hF'
      rw [put1_same, put1_same]
      exact hF F hF'
    · rw [put1_ne e] at hF'
      have h0 := h.thr t' ht' F hF'
      by_cases e3 : lev t' = lev t
      · rw [e3, put1_same, put1_same]
        rw [e3] at h0
        exact h0.frame c1 c2 (fun k hk => c3 k t' hk e) c4
      · rw [put1_ne e3, put1_ne e3]; exact h0
  · by_cases e : hl j = lev t
    · rw [e, put1_same]; exact hH j e
    · rw [put1_ne e, hH2 j e]; exact h.had j
  · rw [e1]
    by_cases e : l = lev t
    · subst e; rw [put1_same, put1_same, put1_same]; exact hE
    · rw [put1_ne e, put1_ne e, put1_ne e]; exact h.ev l hl
/-- A step that changes the thread alone. -/
theorem GInv.same (h : GInv S gens NL T lev hl n g L ow had ev) {Fo : Option StF} (e1 : g2.lv = g.lv) (e2 : g2.thr = put1 g.thr t Fo) (hF : ∀ F, Fo = some F → ThrI S (g.lv (lev t)) (ow (lev t)) t F) : GInv S gens NL T lev hl (n + 1) g2 L ow had ev := by
  refine ⟨fun l hl => by rw [e1]; exact (h.lv l hl).mono, fun t' ht' F hF' => ?_, h.had, fun l hl => by rw [e1]; exact h.ev l hl⟩
  rw [e1]
  rw [e2] at hF'
  by_cases e : t' = t
  · subst e; rw [put1_same] at hF'; exact hF F hF'
  · rw [put1_ne e] at hF'; exact h.thr t' ht' F hF'
theorem EvI.keep {ev : List (Nat × Nat)} (h : EvI S V o ev) (hh : ∀ i, V2.hd i = V.hd i) (ho : ∀ i, 1 ≤ i → i ≤ S → (o2 i).1 = 1 ∨ (o2 i).1 = 3 ∨ (o2 i).1 = 5 → (o i).1 = 1 ∨ (o i).1 = 3 ∨ (o i).1 = 5) : EvI S V2 o2 ev :=
  ⟨fun x gn hx => by
    obtain ⟨a, b, d, e⟩ := h.all x gn hx
    rw [hh]
    exact ⟨a, b, d, fun he => e (ho x a b he)⟩⟩
theorem HadI.keep {j x : Nat} {hd : List Nat} (h : HadI S o j hd) (h1 : ∀ i, i ≠ x → o2 i = o i) (hx : (o x).1 ≠ 2) : HadI S o2 j hd :=
  ⟨h.nodup, fun y hy => by
    obtain ⟨a, b, d⟩ := h.all y hy
    exact ⟨a, b, by rw [h1 y fun e => hx (by rw [← e, d])]; exact d⟩⟩
/-- What a bit asks for is there. -/
theorem GInv.ok {c : Nat → Int} (h : GInv S gens NL T lev hl n g L ow had ev) (hn : n < 100000) (hS : c 10 = (S : Nat)) (hS2 : S ≤ 60) (ht : t < T) (hl0 : lev t < NL) (hF : g.thr t = some F) : OkF c g (lev t) F := by
  have h1 := h.thr t ht F hF
  have h2 := h.lv (lev t) hl0
  refine ⟨h1.fn, h1.r1, h1.tk, h1.gv, fun a b => ?_, fun a b => ?_, fun a b => ?_, fun a => ?_, fun a b => ?_, fun a b => ?_, fun i a b => ?_⟩
  · have := (h1.past (.inl ⟨a, .inl b⟩)).2; rw [hS]; omega
  · have p := h1.past (.inl ⟨a, .inr b⟩)
    obtain ⟨q1, q2, q3⟩ := h1.tk2 a b
    refine ⟨q1, by rw [hS]; have := p.2; omega, by omega, fun e => ?_⟩
    obtain ⟨r, hr⟩ := h2.first.2.2 (by rw [e]; omega)
    have hm := (h2.mem (slOf (g.lv (lev t)).top)).1 (by rw [hr]; exact List.mem_cons_self)
    rw [e] at hm
    exact (h2.off _ hm.1 hm.2.1 (.inl hm.2.2)).1
  · obtain ⟨q1, q2, q3⟩ := h1.tk3 a b
    exact ⟨q1, by rw [hS]; omega⟩
  · obtain ⟨q1, q2, q3⟩ := h1.r0 a
    exact ⟨q1, by rw [hS]; omega⟩
  · obtain ⟨q1, q2, q3⟩ := h1.r0 a
    have q4 := h1.gen a (by omega) (by omega)
    have q5 := (h2.hd _ q1 q2).2
    omega
  · obtain ⟨q1, q2, q3⟩ := h1.r0 a
    have q4 := h1.gen a (by omega) (by omega)
    have q5 := (h2.hd _ q1 q2).2
    refine ⟨by omega, h2.on _ q1 q2 (.inr (.inr ?_))⟩
    rw [q3, if_pos (by omega)]
  · rw [hS] at b
    have := (h2.hd i a (by omega)).1
    omega
end
end
section
open Go.RowKit
set_option linter.unusedVariables false
set_option linter.unusedSimpArgs false
set_option linter.unnecessarySimpa false
theorem put1_self {α : Type} (f : Nat → α) (k : Nat) : put1 f k (f k) = f := by funext j; unfold put1; by_cases hj : j = k <;> simp [hj]
section
variable {S gens NL T n : Nat} {lev hl : Nat → Nat} {g g2 : StG} {L : Nat → List Nat} {ow : Nat → Nat → Nat × Nat} {had : Nat → List Nat} {ev : Nat → List (Nat × Nat)} {t l x : Nat} {F F2 : StF} {V V2 : LvG} {o o2 : Nat → Nat × Nat}
theorem LvI.point {K K2 : List Nat} (h : LvI S gens n V o K) (h1 : ∀ i, i ≠ x → V2.hd i = V.hd i ∧ V2.held i = V.held i ∧ o2 i = o i) (hchain : chainP V2.lk (slOf V2.top) K2) (hnd : K2.Nodup) (hmem : ∀ y, y ∈ K2 ↔ 1 ≤ y ∧ y ≤ S ∧ (o2 y).1 = 1) (htop : V2.top < 18446744073709551616) (hcnt : cnt V2.top ≤ n + 1) (hlk : ∀ i, 1 ≤ i → i ≤ S → V2.lk i ≤ S)
    (hhd : V2.hd x < 17179869184 ∧ genOf (V2.hd x) ≤ n + 1) (hon : (o2 x).1 = 2 ∨ (o2 x).1 = 3 ∨ (o2 x).1 = 4 → V2.held x = true) (hoff : (o2 x).1 = 1 ∨ (o2 x).1 = 5 → V2.held x = false ∧ V2.hd x % 4 = 0 ∧ genOf (V2.hd x) < gens) (hnone : (o2 x).1 = 0 → V2.held x = true ∨ gens ≤ genOf (V2.hd x)) (hcode : (o2 x).1 ≤ 5) : LvI S gens (n + 1) V2 o2 K2 := by
  refine ⟨hchain, hnd, hmem, htop, hcnt, hlk, fun i a b => ?_, fun i a b e => ?_, fun i a b e => ?_, fun i a b e => ?_, fun i a b => ?_⟩
  · by_cases hi : i = x
    · subst hi; exact hhd
    · rw [(h1 i hi).1]; exact (h.mono.hd i a b)
  · by_cases hi : i = x
    · subst hi; exact hon e
    · rw [(h1 i hi).2.1]; rw [(h1 i hi).2.2] at e; exact h.on i a b e
  · by_cases hi : i = x
    · subst hi; exact hoff e
    · rw [(h1 i hi).2.1, (h1 i hi).1]; rw [(h1 i hi).2.2] at e; exact h.off i a b e
  · by_cases hi : i = x
    · subst hi; exact hnone e
    · rw [(h1 i hi).2.1, (h1 i hi).1]; rw [(h1 i hi).2.2] at e; exact h.none i a b e
  · by_cases hi : i = x
    · subst hi; exact hcode
    · rw [(h1 i hi).2.2]; exact h.code i a b
theorem LvI.mem2 {K : List Nat} (h : LvI S gens n V o K) (h1 : ∀ i, i ≠ x → o2 i = o i) (hx : (o x).1 ≠ 1) (hx2 : (o2 x).1 ≠ 1) : ∀ y, y ∈ K ↔ 1 ≤ y ∧ y ≤ S ∧ (o2 y).1 = 1 := fun y => by
  rw [h.mem y]
  by_cases e : y = x
  · subst e
    exact ⟨fun h => absurd h.2.2 hx, fun h => absurd h.2.2 hx2⟩
  · rw [h1 y e]
theorem LvI.far {K : List Nat} (h : LvI S gens n V o K) (hx0 : 1 ≤ x) (hx : (o x).1 ≠ 1) : slOf V.top ≠ x ∧ x ∉ K := by
  have hm : x ∉ K := fun hm => hx ((h.mem x).1 hm).2.2
  refine ⟨fun e => ?_, hm⟩
  obtain ⟨r, hr⟩ := h.first.2.2 (by omega)
  exact hm (by rw [hr, e]; exact List.mem_cons_self)
theorem gi_t0 (h : GInv S gens NL T lev hl n g L ow had ev) (ht : t < T) (hl0 : lev t < NL) (hF : g.thr t = some F) (h1 : F.fn = 1) (hp : F.pc = 0) : GInv S gens NL T lev hl (n + 1) (g.go t { F with r1 := (g.lv (lev t)).top, pc := 1 }) L ow had ev := by
  have h3 := h.thr t ht F hF
  have hV := h.lv (lev t) hl0
  have no2 : F.fn ≠ 2 := by omega
  refine h.same rfl rfl fun F' e => ?_
  cases e
  exact ⟨.inl h1, hV.top, fun _ => ⟨Past.refl _, hV.first.1⟩, fun _ => (by decide : 1 ≤ 3), fun h => absurd h no2, fun _ h => absurd h (show ¬ 1 = 2 by decide), fun _ h => absurd h (show ¬ 1 = 3 by decide), fun h => absurd h no2, fun h => absurd h no2, fun h => absurd h no2⟩
theorem gi_back (h : GInv S gens NL T lev hl n g L ow had ev) (ht : t < T) (hl0 : lev t < NL) (hF : g.thr t = some F) (a b : Nat) : GInv S gens NL T lev hl (n + 1) (g.back t a b) L ow had ev := h.same rfl rfl fun F' e => by cases e
theorem gi_t1b (h : GInv S gens NL T lev hl n g L ow had ev) (ht : t < T) (hl0 : lev t < NL) (hF : g.thr t = some F) (h1 : F.fn = 1) (hp : F.pc = 1) (hs : slOf F.r1 ≠ 0) : GInv S gens NL T lev hl (n + 1) (g.go t { F with r2 := (g.lv (lev t)).lk (slOf F.r1), pc := 2 }) L ow had ev := by
  have h3 := h.thr t ht F hF
  have hV := h.lv (lev t) hl0
  have no2 : F.fn ≠ 2 := by omega
  obtain ⟨p1, p2⟩ := h3.past (.inl ⟨h1, .inl hp⟩)
  refine h.same rfl rfl fun F' e => ?_
  cases e
  exact ⟨.inl h1, h3.r1, fun _ => ⟨p1, p2⟩, fun _ => (by decide : 2 ≤ 3), fun h => absurd h no2, fun _ _ => ⟨(show 1 ≤ slOf F.r1 by omega), hV.lk _ (by omega) p2, fun _ => rfl⟩, fun _ h => absurd h (show ¬ 2 = 3 by decide), fun h => absurd h no2, fun h => absurd h no2, fun h => absurd h no2⟩
theorem gi_t2b (h : GInv S gens NL T lev hl n g L ow had ev) (ht : t < T) (hl0 : lev t < NL) (hF : g.thr t = some F) (h1 : F.fn = 1) : GInv S gens NL T lev hl (n + 1) (g.go t { F with pc := 0 }) L ow had ev := by
  have h3 := h.thr t ht F hF
  have hV := h.lv (lev t) hl0
  have no2 : F.fn ≠ 2 := by omega
  refine h.same rfl rfl fun F' e => ?_
  cases e
  exact ⟨.inl h1, h3.r1, fun h => by rcases h with ⟨_, h | h⟩ | ⟨h, _⟩ <;> first | cases h | exact absurd h no2, fun _ => (by decide : 0 ≤ 3), fun h => absurd h no2, fun _ h => absurd h (show ¬ 0 = 2 by decide), fun _ h => absurd h (show ¬ 0 = 3 by decide), fun h => absurd h no2, fun h => absurd h no2, fun h => absurd h no2⟩
/-- The first slot is taken. -/
theorem gi_t2a (h : GInv S gens NL T lev hl n g L ow had ev) (ht : t < T) (hl0 : lev t < NL) (hF : g.thr t = some F) (hS : S ≤ 60) (hn : n < 100000) (h1 : F.fn = 1) (hp : F.pc = 2) (hs : (g.lv (lev t)).top = F.r1) : ∃ r, L (lev t) = slOf F.r1 :: r ∧ ow (lev t) (slOf F.r1) = (1, (ow (lev t) (slOf F.r1)).2) ∧
    GInv S gens NL T lev hl (n + 1) ((g.lev (lev t) { g.lv (lev t) with top := mkTop F.r2 (cnt F.r1 + 1), held := put1 (g.lv (lev t)).held (slOf F.r1) true }).go t { F with pc := 3 }) (put1 L (lev t) r) (put1 ow (lev t) (put1 (ow (lev t)) (slOf F.r1) (3, t))) had ev := by
  have h3 := h.thr t ht F hF
  have hV := h.lv (lev t) hl0
  have no2 : F.fn ≠ 2 := by omega
  obtain ⟨q1, q2, q3⟩ := h3.tk2 h1 hp
  obtain ⟨r, hr⟩ := hV.first.2.2 (by rw [hs]; omega)
  rw [hs] at hr
  have hc := hV.chain
  have hnd := hV.nodup
  have hm := fun y => hV.mem y
  have hcn := hV.cntN
  rw [hs] at hcn
  rw [hs, hr] at hc
  rw [hr] at hnd hm
  have hx := (hm (slOf F.r1)).1 List.mem_cons_self
  have hnx := (List.nodup_cons.1 hnd).1
  refine ⟨r, hr, Prod.ext hx.2.2 rfl, ?_⟩
  have U := h.upd (t := t) (x := slOf F.r1) (g2 := (g.lev (lev t) { g.lv (lev t) with top := mkTop F.r2 (cnt F.r1 + 1), held := put1 (g.lv (lev t)).held (slOf F.r1) true }).go t { F with pc := 3 }) (V2 := { g.lv (lev t) with top := mkTop F.r2 (cnt F.r1 + 1), held := put1 (g.lv (lev t)).held (slOf F.r1) true }) (o2 := put1 (ow (lev t)) (slOf F.r1) (3, t)) (L2 := r) (had2 := had) (ev2 := ev (lev t)) hl0 rfl rfl (.inr ?_) (fun i hi => ⟨rfl, rfl, put1_ne hi⟩) (fun k t' hk _ e => ?_) (fun _ => .inr rfl) ?_ (fun F' e => ?_) (fun j _ => ?_) (fun _ _ => rfl) ?_
  · rw [put1_self] at U; exact U
  · show cnt (mkTop _ _) = _
    rw [cnt_top (by omega), hs]
  · have := congrArg Prod.fst e
    rw [hx.2.2] at this
    have h5 : 1 = k := this
    omega
  · refine hV.point (x := slOf F.r1) (fun i hi => ⟨rfl, put1_ne hi, put1_ne hi⟩) ?_ (List.nodup_cons.1 hnd).2 (fun y => ?_) (top_lt _ _) ?_ hV.lk ?_ (fun _ => put1_same _ _ _) (fun e => ?_) (fun e => ?_) ?_
    · show chainP _ (slOf (mkTop _ _)) r
      rw [sl_top (by omega), q3 hs]
      exact hc.2.2
    · have hy := hm y
      by_cases e : y = slOf F.r1
      · subst e
        rw [put1_same]
        exact ⟨fun e => absurd e hnx, fun e => absurd e.2.2 (show ¬ 3 = 1 by decide)⟩
      · rw [put1_ne e, ← hy, List.mem_cons]
        exact ⟨.inr, fun h => h.resolve_left e⟩
    · show cnt (mkTop _ _) ≤ _
      rw [cnt_top (by omega)]; omega
    · exact hV.mono.hd _ hx.1 hx.2.1
    · rw [put1_same] at e; rcases e with e | e <;> cases e
    · rw [put1_same] at e; cases e
    · rw [put1_same]; exact (by decide : 3 ≤ 5)
  · cases e
    exact ⟨.inl h1, h3.r1, fun h => by rcases h with ⟨_, h | h⟩ | ⟨h, _⟩ <;> first | cases h | exact absurd h no2, fun _ => (by decide : 3 ≤ 3), fun h => absurd h no2, fun _ h => absurd h (show ¬ 3 = 2 by decide), fun _ _ => ⟨hx.1, hx.2.1, put1_same _ _ _⟩, fun h => absurd h no2, fun h => absurd h no2, fun h => absurd h no2⟩
  · rename_i hj
    have hj' := h.had j
    rw [hj] at hj'
    exact hj'.keep (x := slOf F.r1) (fun i hi => put1_ne hi) (by rw [hx.2.2]; simp)
  · refine (h.ev (lev t) hl0).keep (fun i => rfl) fun i a b e => ?_
    by_cases hi : i = slOf F.r1
    · subst hi; exact .inl hx.2.2
    · rw [put1_ne hi] at e; exact e
/-- What was taken is told: holder j has it. -/
theorem gi_t3 (h : GInv S gens NL T lev hl n g L ow had ev) (ht : t < T) (hl0 : lev t < NL) (hF : g.thr t = some F) (h1 : F.fn = 1) (hp : F.pc = 3) {j : Nat} (hj : hl j = lev t) (a b : Nat) : ow (lev t) (slOf F.r1) = (3, t) ∧ 1 ≤ slOf F.r1 ∧ slOf F.r1 ≤ S ∧ (∀ gn, (slOf F.r1, gn) ∈ ev (lev t) → gn < genOf ((g.lv (lev t)).hd (slOf F.r1))) ∧ slOf F.r1 ∉ had j ∧
    GInv S gens NL T lev hl (n + 1) (g.back t a b) L (put1 ow (lev t) (put1 (ow (lev t)) (slOf F.r1) (2, j))) (put1 had j (had j ++ [slOf F.r1])) (put1 ev (lev t) (ev (lev t) ++ [(slOf F.r1, genOf ((g.lv (lev t)).hd (slOf F.r1)))])) := by
  have h3 := h.thr t ht F hF
  have hV := h.lv (lev t) hl0
  have no2 : F.fn ≠ 2 := by omega
  obtain ⟨q1, q2, q3⟩ := h3.tk3 h1 hp
  have hE := h.ev (lev t) hl0
  have hlt : ∀ gn, (slOf F.r1, gn) ∈ ev (lev t) → gn < genOf ((g.lv (lev t)).hd (slOf F.r1)) := fun gn hg => (hE.all _ _ hg).2.2.2 (by rw [q3]; exact .inr (.inl rfl))
  have hnj : ∀ j, hl j = lev t → slOf F.r1 ∉ had j := fun j hj hx => by
    have := ((h.had j).all _ hx).2.2
    rw [hj, q3] at this
    cases this
  refine ⟨q3, q1, q2, hlt, hnj j hj, ?_⟩
  have U := h.upd (t := t) (x := slOf F.r1) (g2 := g.back t a b) (V2 := g.lv (lev t)) (o2 := put1 (ow (lev t)) (slOf F.r1) (2, j)) (L2 := L (lev t)) (had2 := put1 had j (had j ++ [slOf F.r1])) (ev2 := ev (lev t) ++ [(slOf F.r1, genOf ((g.lv (lev t)).hd (slOf F.r1)))]) hl0 (by rw [put1_self]; rfl) rfl (.inl rfl) (fun i hi => ⟨rfl, rfl, put1_ne hi⟩) (fun k t' hk ht' e => ?_) (fun _ => .inr rfl) ?_ (fun F' e => by cases e) (fun j' hj' => ?_) (fun j' hj' => ?_) ?_
  · rw [put1_self] at U; exact U
  · rw [q3] at e; cases e; exact ht' rfl
  · have hx1 : (ow (lev t) (slOf F.r1)).1 ≠ 1 := by rw [q3]; simp
    have hm := hV.mono
    refine hV.point (x := slOf F.r1) (fun i hi => ⟨rfl, rfl, put1_ne hi⟩) hm.chain hm.nodup (hV.mem2 (fun i hi => put1_ne hi) hx1 (by rw [put1_same]; simp)) hm.top hm.cntN hm.lk (hm.hd _ q1 q2) (fun _ => hV.on _ q1 q2 (by rw [q3]; exact .inr (.inl rfl))) (fun e => ?_) (fun e => ?_) ?_
    · rw [put1_same] at e; rcases e with e | e <;> cases e
    · rw [put1_same] at e; cases e
    · rw [put1_same]; exact (by decide : 2 ≤ 5)
  · by_cases ej : j' = j
    · subst ej
      rw [put1_same]
      have h0 := h.had j'
      rw [hj] at h0
      refine ⟨?_, fun y hy => ?_⟩
      · rw [List.nodup_append]
        exact ⟨h0.nodup, by simp, fun a ha b hb => by simp at hb; subst hb; exact fun e => hnj j' hj (by rw [← e]; exact ha)⟩
      · rcases List.mem_append.1 hy with hy | hy
        · obtain ⟨a, b, d⟩ := h0.all y hy
          exact ⟨a, b, by rw [put1_ne (fun e => hnj j' hj (by rw [← e]; exact hy))]; exact d⟩
        · simp at hy; subst hy; exact ⟨q1, q2, put1_same _ _ _⟩
    · rw [put1_ne ej]
      have h0 := h.had j'
      rw [hj'] at h0
      exact h0.keep (x := slOf F.r1) (fun i hi => put1_ne hi) (by rw [q3]; simp)
  · rw [put1_ne (fun e => hj' (by rw [e]; exact hj))]
  · refine ⟨fun y gn hy => ?_⟩
    rcases List.mem_append.1 hy with hy | hy
    · obtain ⟨a, b, d, e⟩ := hE.all y gn hy
      refine ⟨a, b, d, fun he => ?_⟩
      by_cases ey : y = slOf F.r1
      · subst ey; rw [put1_same] at he; rcases he with he | he | he <;> cases he
      · rw [put1_ne ey] at he; exact e he
    · simp only [List.mem_singleton, Prod.mk.injEq] at hy
      obtain ⟨rfl, rfl⟩ := hy
      refine ⟨q1, q2, Nat.le_refl _, fun he => ?_⟩
      rw [put1_same] at he; rcases he with he | he | he <;> cases he
theorem gi_g0 (h : GInv S gens NL T lev hl n g L ow had ev) (ht : t < T) (hl0 : lev t < NL) (hF : g.thr t = some F) (h2 : F.fn = 2) (hp : F.pc = 0) : GInv S gens NL T lev hl (n + 1) (g.go t { F with r2 := genOf ((g.lv (lev t)).hd F.r0) + 1, pc := 1 }) L ow had ev := by
  have h3 := h.thr t ht F hF
  have hV := h.lv (lev t) hl0
  have no1 : F.fn ≠ 1 := by omega
  obtain ⟨x1, x2, x3⟩ := h3.r0 h2
  rw [if_pos (by omega)] at x3
  refine h.same rfl rfl fun F' e => ?_
  cases e
  exact ⟨.inr h2, h3.r1, fun h => by rcases h with ⟨h, _⟩ | ⟨_, h | h⟩ <;> first | cases h | exact absurd h no1, fun h => absurd h no1, fun _ => (by decide : 1 ≤ 9), fun h => absurd h no1, fun h => absurd h no1, fun _ => ⟨x1, x2, x3⟩, fun _ _ _ => rfl, fun _ h => absurd h (show ¬ 1 = 9 by decide)⟩
/-- The next of the bits 2 to 5. -/
theorem gi_g2 (h : GInv S gens NL T lev hl n g L ow had ev) (ht : t < T) (hl0 : lev t < NL) (hF : g.thr t = some F) (h2 : F.fn = 2) (k1 : 1 ≤ F.pc) (k2 : F.pc < 6) : GInv S gens NL T lev hl (n + 1) (g.go t { F with pc := F.pc + 1 }) L ow had ev := by
  have h3 := h.thr t ht F hF
  have hV := h.lv (lev t) hl0
  have no1 : F.fn ≠ 1 := by omega
  obtain ⟨x1, x2, x3⟩ := h3.r0 h2
  rw [if_pos (by omega)] at x3
  have hg := h3.gen h2 k1 (by omega)
  refine h.same rfl rfl fun F' e => ?_
  cases e
  refine ⟨.inr h2, h3.r1, fun h => ?_, fun h => absurd h no1, fun _ => (show F.pc + 1 ≤ 9 by omega), fun h => absurd h no1, fun h => absurd h no1, fun _ => ⟨x1, x2, ?_⟩, fun _ _ _ => hg, fun _ h => ?_⟩
  · rcases h with ⟨h, _⟩ | ⟨_, h | h⟩
    · exact absurd h no1
    · have : F.pc + 1 = 8 := h
      omega
    · have : F.pc + 1 = 9 := h
      omega
  · show _ = (if F.pc + 1 ≤ 6 then 4 else 5, t)
    rw [if_pos (by omega)]; exact x3
  · have : F.pc + 1 = 9 := h
    omega
theorem gi_g1 (h : GInv S gens NL T lev hl n g L ow had ev) (ht : t < T) (hl0 : lev t < NL) (hF : g.thr t = some F) (hn : n < 100000) (h2 : F.fn = 2) (hp : F.pc = 1) : GInv S gens NL T lev hl (n + 1) ((g.lev (lev t) { g.lv (lev t) with hd := put1 (g.lv (lev t)).hd F.r0 (mkHead (F.r2 - 1) 3) }).go t { F with pc := 2 }) L ow had ev := by
  have h3 := h.thr t ht F hF
  have hV := h.lv (lev t) hl0
  have no1 : F.fn ≠ 1 := by omega
  obtain ⟨x1, x2, x3⟩ := h3.r0 h2
  rw [if_pos (by omega)] at x3
  have hg := h3.gen h2 (by omega) (by omega)
  have hh := hV.hd _ x1 x2
  have eg : genOf (mkHead (F.r2 - 1) 3) = genOf ((g.lv (lev t)).hd F.r0) := by rw [gen_head (by omega)]; omega
  have egi : ∀ i, genOf (put1 (g.lv (lev t)).hd F.r0 (mkHead (F.r2 - 1) 3) i) = genOf ((g.lv (lev t)).hd i) := fun i => by
    by_cases hi : i = F.r0
    · subst hi; rw [put1_same]; exact eg
    · rw [put1_ne hi]
  have U := h.upd (t := t) (x := F.r0) (g2 := (g.lev (lev t) { g.lv (lev t) with hd := put1 (g.lv (lev t)).hd F.r0 (mkHead (F.r2 - 1) 3) }).go t { F with pc := 2 }) (V2 := { g.lv (lev t) with hd := put1 (g.lv (lev t)).hd F.r0 (mkHead (F.r2 - 1) 3) }) (o2 := ow (lev t)) (L2 := L (lev t)) (had2 := had) (ev2 := ev (lev t)) hl0 rfl rfl (.inl rfl) (fun i hi => ⟨rfl, put1_ne hi, rfl⟩) (fun k t' hk ht' e => ?_) (fun _ => .inr rfl) ?_ (fun F' e => ?_) (fun j hj => by have := h.had j; rw [hj] at this; exact this) (fun _ _ => rfl) ?_
  · rw [put1_self, put1_self, put1_self] at U; exact U
  · rw [x3] at e; cases e; exact ht' rfl
  · have hm := hV.mono
    have ho : (ow (lev t) F.r0).1 = 4 := by rw [x3]
    refine hV.point (x := F.r0) (fun i hi => ⟨put1_ne hi, rfl, rfl⟩) hm.chain hm.nodup hm.mem hm.top hm.cntN hm.lk ⟨?_, ?_⟩ (fun e => hV.on _ x1 x2 e) (fun e => ?_) (fun e => ?_) (by omega)
    · show put1 _ _ _ F.r0 < _
      rw [put1_same]; exact head_lt _ _
    · show genOf (put1 _ _ _ F.r0) ≤ _
      rw [egi]; omega
    · omega
    · omega
  · cases e
    exact ⟨.inr h2, h3.r1, fun h => by rcases h with ⟨h, _⟩ | ⟨_, h | h⟩ <;> first | cases h | exact absurd h no1, fun h => absurd h no1, fun _ => (by decide : 2 ≤ 9), fun h => absurd h no1, fun h => absurd h no1, fun _ => ⟨x1, x2, x3⟩, fun _ _ _ => (show F.r2 = genOf (put1 _ _ _ F.r0) + 1 by rw [egi]; exact hg), fun _ h => absurd h (show ¬ 2 = 9 by decide)⟩
  · refine ⟨fun y gn hy => ?_⟩
    obtain ⟨a, b, d, e⟩ := (h.ev (lev t) hl0).all y gn hy
    show _ ∧ _ ∧ gn ≤ genOf (put1 _ _ _ y) ∧ (_ → gn < genOf (put1 _ _ _ y))
    rw [egi]
    exact ⟨a, b, d, e⟩
/-- The slot is given back: it isn't worn. -/
theorem gi_g6a (h : GInv S gens NL T lev hl n g L ow had ev) (ht : t < T) (hl0 : lev t < NL) (hF : g.thr t = some F) (hn : n < 100000) (h2 : F.fn = 2) (hp : F.pc = 6) (hs : F.r2 < gens) : GInv S gens NL T lev hl (n + 1) ((g.lev (lev t) { g.lv (lev t) with hd := put1 (g.lv (lev t)).hd F.r0 (mkHead F.r2 0), held := put1 (g.lv (lev t)).held F.r0 false }).go t { F with pc := 7 }) L (put1 ow (lev t) (put1 (ow (lev t)) F.r0 (5, t))) had ev := by
  have h3 := h.thr t ht F hF
  have hV := h.lv (lev t) hl0
  have no1 : F.fn ≠ 1 := by omega
  obtain ⟨x1, x2, x3⟩ := h3.r0 h2
  rw [if_pos (by omega)] at x3
  have hg := h3.gen h2 (by omega) (by omega)
  have hh := hV.hd _ x1 x2
  have eg : genOf (mkHead F.r2 0) = F.r2 := gen_head (by omega)
  have U := h.upd (t := t) (x := F.r0) (g2 := ((g.lev (lev t) { g.lv (lev t) with hd := put1 (g.lv (lev t)).hd F.r0 (mkHead F.r2 0), held := put1 (g.lv (lev t)).held F.r0 false }).go t { F with pc := 7 })) (V2 := { g.lv (lev t) with hd := put1 (g.lv (lev t)).hd F.r0 (mkHead F.r2 0), held := put1 (g.lv (lev t)).held F.r0 false }) (o2 := put1 (ow (lev t)) F.r0 (5, t)) (L2 := L (lev t)) (had2 := had) (ev2 := ev (lev t)) hl0 rfl rfl (.inl rfl) (fun i hi => ⟨rfl, put1_ne hi, put1_ne hi⟩) (fun k t' hk ht' e => ?_) (fun _ => .inr rfl) ?_ (fun F' e => ?_) (fun j hj => ?_) (fun _ _ => rfl) ?_
  · rw [put1_self, put1_self] at U; exact U
  · rw [x3] at e; cases e; exact ht' rfl
  · have hm := hV.mono
    refine hV.point (x := F.r0) (fun i hi => ⟨put1_ne hi, put1_ne hi, put1_ne hi⟩) hm.chain hm.nodup (hV.mem2 (fun i hi => put1_ne hi) (by rw [x3]; simp) (by rw [put1_same]; simp)) hm.top hm.cntN hm.lk ⟨?_, ?_⟩ (fun e => ?_) (fun e => ?_) (fun e => ?_) (by rw [put1_same]; simp)
    · show put1 _ _ _ F.r0 < _
      rw [put1_same]; exact head_lt _ _
    · show genOf (put1 _ _ _ F.r0) ≤ _
      rw [put1_same, eg]; omega
    · rw [put1_same] at e; rcases e with e | e | e <;> cases e
    · show put1 _ _ _ F.r0 = false ∧ put1 _ _ _ F.r0 % 4 = 0 ∧ genOf (put1 _ _ _ F.r0) < gens
      rw [put1_same, put1_same, eg]
      rw [put1_same] at e
      exact ⟨rfl, head_st _, hs⟩
    · show put1 _ _ _ F.r0 = true ∨ gens ≤ genOf (put1 _ _ _ F.r0)
      rw [put1_same, put1_same, eg]
      rw [put1_same] at e
      cases e
  · (cases e; exact ⟨.inr h2, h3.r1, fun h => by rcases h with ⟨h, _⟩ | ⟨_, h | h⟩ <;> first | cases h | exact absurd h no1, fun h => absurd h no1, fun _ => (by decide : 7 ≤ 9), fun h => absurd h no1, fun h => absurd h no1, fun _ => ⟨x1, x2, put1_same _ _ _⟩, fun _ _ h => absurd h (show ¬ 7 ≤ 6 by decide), fun _ h => absurd h (show ¬ 7 = 9 by decide)⟩)
  · have h0 := h.had j
    rw [hj] at h0
    exact h0.keep (x := F.r0) (fun i hi => put1_ne hi) (by rw [x3]; simp)
  · refine ⟨fun y gn hy => ?_⟩
    obtain ⟨a, b, d, e⟩ := (h.ev (lev t) hl0).all y gn hy
    show _ ∧ _ ∧ gn ≤ genOf (put1 _ _ _ y) ∧ (_ → gn < genOf (put1 _ _ _ y))
    by_cases ey : y = F.r0
    · subst ey
      rw [put1_same, eg]
      exact ⟨a, b, by omega, fun _ => by omega⟩
    · rw [put1_ne ey, put1_ne ey]
      exact ⟨a, b, d, e⟩
/-- The slot is worn. -/
theorem gi_g6b (h : GInv S gens NL T lev hl n g L ow had ev) (ht : t < T) (hl0 : lev t < NL) (hF : g.thr t = some F) (hn : n < 100000) (h2 : F.fn = 2) (hp : F.pc = 6) (hs : gens ≤ F.r2) (a b : Nat) : GInv S gens NL T lev hl (n + 1) ((g.lev (lev t) { g.lv (lev t) with hd := put1 (g.lv (lev t)).hd F.r0 (mkHead F.r2 0), held := put1 (g.lv (lev t)).held F.r0 false }).back t a b) L (put1 ow (lev t) (put1 (ow (lev t)) F.r0 (0, 0))) had ev := by
  have h3 := h.thr t ht F hF
  have hV := h.lv (lev t) hl0
  have no1 : F.fn ≠ 1 := by omega
  obtain ⟨x1, x2, x3⟩ := h3.r0 h2
  rw [if_pos (by omega)] at x3
  have hg := h3.gen h2 (by omega) (by omega)
  have hh := hV.hd _ x1 x2
  have eg : genOf (mkHead F.r2 0) = F.r2 := gen_head (by omega)
  have U := h.upd (t := t) (x := F.r0) (g2 := ((g.lev (lev t) { g.lv (lev t) with hd := put1 (g.lv (lev t)).hd F.r0 (mkHead F.r2 0), held := put1 (g.lv (lev t)).held F.r0 false }).back t a b)) (V2 := { g.lv (lev t) with hd := put1 (g.lv (lev t)).hd F.r0 (mkHead F.r2 0), held := put1 (g.lv (lev t)).held F.r0 false }) (o2 := put1 (ow (lev t)) F.r0 (0, 0)) (L2 := L (lev t)) (had2 := had) (ev2 := ev (lev t)) hl0 rfl rfl (.inl rfl) (fun i hi => ⟨rfl, put1_ne hi, put1_ne hi⟩) (fun k t' hk ht' e => ?_) (fun _ => .inr rfl) ?_ (fun F' e => ?_) (fun j hj => ?_) (fun _ _ => rfl) ?_
  · rw [put1_self, put1_self] at U; exact U
  · rw [x3] at e; cases e; exact ht' rfl
  · have hm := hV.mono
    refine hV.point (x := F.r0) (fun i hi => ⟨put1_ne hi, put1_ne hi, put1_ne hi⟩) hm.chain hm.nodup (hV.mem2 (fun i hi => put1_ne hi) (by rw [x3]; simp) (by rw [put1_same]; simp)) hm.top hm.cntN hm.lk ⟨?_, ?_⟩ (fun e => ?_) (fun e => ?_) (fun e => ?_) (by rw [put1_same]; simp)
    · show put1 _ _ _ F.r0 < _
      rw [put1_same]; exact head_lt _ _
    · show genOf (put1 _ _ _ F.r0) ≤ _
      rw [put1_same, eg]; omega
    · rw [put1_same] at e; rcases e with e | e | e <;> cases e
    · show put1 _ _ _ F.r0 = false ∧ put1 _ _ _ F.r0 % 4 = 0 ∧ genOf (put1 _ _ _ F.r0) < gens
      rw [put1_same, put1_same, eg]
      rw [put1_same] at e
      (rcases e with e | e <;> cases e)
    · show put1 _ _ _ F.r0 = true ∨ gens ≤ genOf (put1 _ _ _ F.r0)
      rw [put1_same, put1_same, eg]
      rw [put1_same] at e
      exact .inr hs
  · cases e
  · have h0 := h.had j
    rw [hj] at h0
    exact h0.keep (x := F.r0) (fun i hi => put1_ne hi) (by rw [x3]; simp)
  · refine ⟨fun y gn hy => ?_⟩
    obtain ⟨a, b, d, e⟩ := (h.ev (lev t) hl0).all y gn hy
    show _ ∧ _ ∧ gn ≤ genOf (put1 _ _ _ y) ∧ (_ → gn < genOf (put1 _ _ _ y))
    by_cases ey : y = F.r0
    · subst ey
      rw [put1_same, eg]
      exact ⟨a, b, by omega, fun _ => by omega⟩
    · rw [put1_ne ey, put1_ne ey]
      exact ⟨a, b, d, e⟩
theorem gi_g7 (h : GInv S gens NL T lev hl n g L ow had ev) (ht : t < T) (hl0 : lev t < NL) (hF : g.thr t = some F) (h2 : F.fn = 2) (hp : F.pc = 7) : GInv S gens NL T lev hl (n + 1) (g.go t { F with r1 := (g.lv (lev t)).top, pc := 8 }) L ow had ev := by
  have h3 := h.thr t ht F hF
  have hV := h.lv (lev t) hl0
  have no1 : F.fn ≠ 1 := by omega
  obtain ⟨x1, x2, x3⟩ := h3.r0 h2
  rw [if_neg (by omega)] at x3
  refine h.same rfl rfl fun F' e => ?_
  cases e
  exact ⟨.inr h2, hV.top, fun _ => ⟨Past.refl _, hV.first.1⟩, fun h => absurd h no1, fun _ => (by decide : 8 ≤ 9), fun h => absurd h no1, fun h => absurd h no1, fun _ => ⟨x1, x2, x3⟩, fun _ _ h => absurd h (show ¬ 8 ≤ 6 by decide), fun _ h => absurd h (show ¬ 8 = 9 by decide)⟩
theorem gi_g8 (h : GInv S gens NL T lev hl n g L ow had ev) (ht : t < T) (hl0 : lev t < NL) (hF : g.thr t = some F) (h2 : F.fn = 2) (hp : F.pc = 8) : GInv S gens NL T lev hl (n + 1) ((g.lev (lev t) { g.lv (lev t) with lk := put1 (g.lv (lev t)).lk F.r0 (slOf F.r1) }).go t { F with pc := 9 }) L ow had ev := by
  have h3 := h.thr t ht F hF
  have hV := h.lv (lev t) hl0
  have no1 : F.fn ≠ 1 := by omega
  obtain ⟨x1, x2, x3⟩ := h3.r0 h2
  rw [if_neg (by omega)] at x3
  obtain ⟨p1, p2⟩ := h3.past (.inr ⟨h2, .inl hp⟩)
  obtain ⟨f1, f2⟩ := hV.far x1 (show (ow (lev t) F.r0).1 ≠ 1 by rw [x3]; simp)
  have U := h.upd (t := t) (x := F.r0) (g2 := (g.lev (lev t) { g.lv (lev t) with lk := put1 (g.lv (lev t)).lk F.r0 (slOf F.r1) }).go t { F with pc := 9 }) (V2 := { g.lv (lev t) with lk := put1 (g.lv (lev t)).lk F.r0 (slOf F.r1) }) (o2 := ow (lev t)) (L2 := L (lev t)) (had2 := had) (ev2 := ev (lev t)) hl0 rfl rfl (.inl rfl) (fun i hi => ⟨put1_ne hi, rfl, rfl⟩) (fun k t' hk ht' e => ?_) (fun _ => .inl f1) ?_ (fun F' e => ?_) (fun j hj => by have := h.had j; rw [hj] at this; exact this) (fun _ _ => rfl) ?_
  · rw [put1_self, put1_self, put1_self] at U; exact U
  · rw [x3] at e; cases e; exact ht' rfl
  · have hm := hV.mono
    refine ⟨chainP_congr _ _ hm.chain fun y hy => put1_ne fun e => f2 (by rw [← e]; exact hy), hm.nodup, hm.mem, hm.top, hm.cntN, fun i a b => ?_, hm.hd, hm.on, hm.off, hm.none, hm.code⟩
    show put1 _ _ _ i ≤ S
    by_cases hi : i = F.r0
    · subst hi; rw [put1_same]; exact p2
    · rw [put1_ne hi]; exact hV.lk i a b
  · cases e
    exact ⟨.inr h2, h3.r1, fun _ => ⟨p1, p2⟩, fun h => absurd h no1, fun _ => (by decide : 9 ≤ 9), fun h => absurd h no1, fun h => absurd h no1, fun _ => ⟨x1, x2, x3⟩, fun _ _ h => absurd h (show ¬ 9 ≤ 6 by decide), fun _ _ => put1_same _ _ _⟩
  · exact (h.ev (lev t) hl0).keep (fun i => rfl) fun i a b e => e
theorem gi_g9b (h : GInv S gens NL T lev hl n g L ow had ev) (ht : t < T) (hl0 : lev t < NL) (hF : g.thr t = some F) (h2 : F.fn = 2) (hp : F.pc = 9) : GInv S gens NL T lev hl (n + 1) (g.go t { F with pc := 7 }) L ow had ev := by
  have h3 := h.thr t ht F hF
  have hV := h.lv (lev t) hl0
  have no1 : F.fn ≠ 1 := by omega
  obtain ⟨x1, x2, x3⟩ := h3.r0 h2
  rw [if_neg (by omega)] at x3
  refine h.same rfl rfl fun F' e => ?_
  cases e
  exact ⟨.inr h2, h3.r1, fun h => by rcases h with ⟨h, _⟩ | ⟨_, h | h⟩ <;> first | cases h | exact absurd h no1, fun h => absurd h no1, fun _ => (by decide : 7 ≤ 9), fun h => absurd h no1, fun h => absurd h no1, fun _ => ⟨x1, x2, x3⟩, fun _ _ h => absurd h (show ¬ 7 ≤ 6 by decide), fun _ h => absurd h (show ¬ 7 = 9 by decide)⟩
/-- The slot becomes the first one. -/
theorem gi_g9a (h : GInv S gens NL T lev hl n g L ow had ev) (ht : t < T) (hl0 : lev t < NL) (hF : g.thr t = some F) (hS : S ≤ 60) (hn : n < 100000) (h2 : F.fn = 2) (hp : F.pc = 9) (hs : (g.lv (lev t)).top = F.r1) (a b : Nat) : GInv S gens NL T lev hl (n + 1) ((g.lev (lev t) { g.lv (lev t) with top := mkTop F.r0 (cnt F.r1 + 1) }).back t a b) (put1 L (lev t) (F.r0 :: L (lev t))) (put1 ow (lev t) (put1 (ow (lev t)) F.r0 (1, 0))) had ev := by
  have h3 := h.thr t ht F hF
  have hV := h.lv (lev t) hl0
  have no1 : F.fn ≠ 1 := by omega
  obtain ⟨x1, x2, x3⟩ := h3.r0 h2
  rw [if_neg (by omega)] at x3
  have ho : (ow (lev t) F.r0).1 = 5 := by rw [x3]
  obtain ⟨f1, f2⟩ := hV.far x1 (by omega)
  have h9 := h3.lk9 h2 hp
  have hcn := hV.cntN
  rw [hs] at hcn
  have U := h.upd (t := t) (x := F.r0) (g2 := (g.lev (lev t) { g.lv (lev t) with top := mkTop F.r0 (cnt F.r1 + 1) }).back t a b) (V2 := { g.lv (lev t) with top := mkTop F.r0 (cnt F.r1 + 1) }) (o2 := put1 (ow (lev t)) F.r0 (1, 0)) (L2 := F.r0 :: L (lev t)) (had2 := had) (ev2 := ev (lev t)) hl0 rfl rfl (.inr ?_) (fun i hi => ⟨rfl, rfl, put1_ne hi⟩) (fun k t' hk ht' e => ?_) (fun _ => .inr rfl) ?_ (fun F' e => by cases e) (fun j hj => ?_) (fun _ _ => rfl) ?_
  · rw [put1_self] at U; exact U
  · show cnt (mkTop _ _) = _
    rw [cnt_top (by omega), hs]
  · rw [x3] at e; cases e; exact ht' rfl
  · have hm := hV.mono
    refine hV.point (x := F.r0) (fun i hi => ⟨rfl, rfl, put1_ne hi⟩) ?_ (List.nodup_cons.2 ⟨f2, hV.nodup⟩) (fun y => ?_) (top_lt _ _) ?_ hV.lk (hm.hd _ x1 x2) (fun e => ?_) (fun e => hV.off _ x1 x2 (.inr ho)) (fun e => ?_) (by rw [put1_same]; simp)
    · show chainP _ (slOf (mkTop _ _)) _
      rw [sl_top (by omega)]
      refine ⟨rfl, x1, ?_⟩
      show chainP (g.lv (lev t)).lk ((g.lv (lev t)).lk F.r0) _
      rw [h9, ← hs]
      exact hV.chain
    · rw [List.mem_cons]
      by_cases e : y = F.r0
      · subst e
        rw [put1_same]
        exact ⟨fun _ => ⟨x1, x2, rfl⟩, fun _ => .inl rfl⟩
      · rw [put1_ne e, ← hV.mem y]
        exact ⟨fun h => h.resolve_left e, .inr⟩
    · show cnt (mkTop _ _) ≤ _
      rw [cnt_top (by omega)]; omega
    · rw [put1_same] at e; rcases e with e | e | e <;> cases e
    · rw [put1_same] at e; cases e
  · have h0 := h.had j
    rw [hj] at h0
    exact h0.keep (x := F.r0) (fun i hi => put1_ne hi) (by rw [x3]; simp)
  · refine (h.ev (lev t) hl0).keep (fun i => rfl) fun i a b e => ?_
    by_cases hi : i = F.r0
    · subst hi; exact .inr (.inr ho)
    · rw [put1_ne hi] at e; exact e
end
end
section
open Go.RowKit
set_option linter.unusedVariables false
set_option linter.unusedSimpArgs false
set_option linter.unnecessarySimpa false
theorem linkSlot_any (l : Nat) (hl : l < 18446744073709551616) (w : World) : Calls Try.prog 52 #[.int .u64 l] w fun r w' => r = .returned (.int .i64 (cutN l 0 8 : Nat)) ∧ w = w' := by
  have C := Lib.hid (fieldCut_any l 0 8 (by omega) (by omega) (by omega))
  have hx : cutN l 0 8 < 256 := cutN_lt l 0 8
  have u0 : IntKind.u64.wrap (l : Int) = (l : Int) := IntWalk.u64_in _ (by omega)
  have u1 : IntKind.i64.wrap ((cutN l 0 8 : Nat) : Int) = ((cutN l 0 8 : Nat) : Int) := IntWalk.i64_in _ (by omega)
  generalize cutN l 0 8 = x at *
  clear hl hx
  go_enter Try.func52, Try.ntmps52
  go_wp2_with (first
    | (go_at_call 78; refine (C.out _).mono ?_; rintro r w' ⟨rfl, rfl⟩))
  go_ret
  exact ⟨rfl, rfl⟩
theorem linkGen_any (l : Nat) (hl : l < 18446744073709551616) (w : World) : Calls Try.prog 92 #[.int .u64 l] w fun r w' => r = .returned (.int .i64 (cutN l 8 32 : Nat)) ∧ w = w' := by
  have C := Lib.hid (fieldCut_any l 8 32 (by omega) (by omega) (by omega))
  have hx : cutN l 8 32 < 4294967296 := cutN_lt l 8 32
  have u0 : IntKind.u64.wrap (l : Int) = (l : Int) := IntWalk.u64_in _ (by omega)
  have u1 : IntKind.i64.wrap ((cutN l 8 32 : Nat) : Int) = ((cutN l 8 32 : Nat) : Int) := IntWalk.i64_in _ (by omega)
  generalize cutN l 8 32 = x at *
  clear hl hx
  go_enter Try.func92, Try.ntmps92
  go_wp2_with (first
    | (go_at_call 78; refine (C.out _).mono ?_; rintro r w' ⟨rfl, rfl⟩))
  go_ret
  exact ⟨rfl, rfl⟩
theorem linkPlain_any (l : Nat) (hl : l < 18446744073709551616) (w : World) : Calls Try.prog 79 #[.int .u64 l] w fun r w' => r = .returned (.int .u64 (mkLink (cutN l 0 8) (cutN l 8 32) : Nat)) ∧ w = w' := by
  have C1 := Lib.hid (linkSlot_any l hl)
  have C2 := Lib.hid (linkGen_any l hl)
  have hx : cutN l 0 8 < 256 := cutN_lt l 0 8
  have hy : cutN l 8 32 < 4294967296 := cutN_lt l 8 32
  have C3 := Lib.hid (linkMake_any (cutN l 0 8) (cutN l 8 32) (by omega) (by omega))
  generalize mkLink (cutN l 0 8) (cutN l 8 32) = z at *
  generalize cutN l 0 8 = x at *
  generalize cutN l 8 32 = y at *
  clear hl hx hy
  go_enter Try.func79, Try.ntmps79
  go_wp2_with (first
    | (go_at_call 52; refine (C1.out _).mono ?_; rintro r w' ⟨rfl, rfl⟩)
    | (go_at_call 92; refine (C2.out _).mono ?_; rintro r w' ⟨rfl, rfl⟩)
    | (go_at_call 55; refine (C3.out _).mono ?_; rintro r w' ⟨rfl, rfl⟩))
  go_ret
  exact ⟨rfl, rfl⟩
theorem linkSame_self (l : Nat) (hl : l < 18446744073709551616) (w : World) : Calls Try.prog 54 #[.int .u64 l, .int .u64 l] w fun r w' => r = .returned (.bool true) ∧ w = w' := by
  have P := Lib.hid (linkPlain_any l hl)
  generalize mkLink (cutN l 0 8) (cutN l 8 32) = z at *
  have e : ((z : Int) == (z : Int)) = true := by simp
  clear hl
  go_enter Try.func54, Try.ntmps54
  go_wp2_with (first
    | (go_at_call 79; refine (P.out _).mono ?_; rintro r w' ⟨rfl, rfl⟩))
  go_ret
  exact ⟨rfl, rfl⟩
theorem mkLink_eq (a g : Nat) : mkLink a g = 256 * (g % 4294967296) + a % 256 := by
  unfold mkLink setN cutN
  have h1 : a / 2 ^ 0 % 2 ^ 8 / 2 ^ (8 + 32) = 0 := Nat.div_eq_of_lt (by omega)
  rw [h1]
  omega
set_option maxHeartbeats 2000000 in
set_option maxRecDepth 20000 in
/-- Whether a slot's own link leads to it: whether it is held. -/
theorem leads_eq {σ w : World} {M : Mm} {p : Nat} {s : WardS} (h : Has σ M w) (hM : IsWard M p s) (l : Int) (t : Nat) (ht : s.there l t = true) (hsl : s.sl ≤ 60) (hg : 0 ≤ valE l t s.gens ∧ valE l t s.gens < 1000000000) : Calls Try.prog 28 #[.pointer (some ⟨p, 0, none⟩), .int .i64 l, .int .u64 (s.link l t)] w fun r w' => r = .returned (.bool (decide (0 < valE l t s.held))) ∧ Has σ M w' := by
  obtain ⟨a1, a2, a3, a4⟩ := WardS.there_iff.1 ht
  obtain ⟨k, hk⟩ : ∃ k : Nat, s.link l t = (k : Int) ∧ k < 18446744073709551616 ∧ cutN k 0 8 = t := by
    unfold WardS.link
    rw [if_pos ht, Int.toNat_natCast]
    refine ⟨_, rfl, ?_, ?_⟩
    · rw [mkLink_eq]; omega
    · rw [mkLink_eq]; unfold cutN; omega
  obtain ⟨hk, hk1, hk2⟩ := hk
  rw [hk]
  have SL := Lib.hid (linkSlot_any k hk1)
  rw [hk2] at SL
  have SA := Lib.hid (fun (M' : Mm) (w : World) (h : Has σ M' w) => (linkSame_self k hk1 w).mono (R' := fun r w' => r = .returned (.bool true) ∧ Has σ M' w') fun r w' hr => ⟨hr.1, hr.2 ▸ h⟩)
  have TH := Lib.hid (fun (M' : Mm) (w : World) (h : Has σ M' w) (hM : IsWard M' p s) => there_eq h hM l t)
  rw [ht] at TH
  have LK := Lib.hid (fun (M' : Mm) (w : World) (h : Has σ M' w) (hM : IsWard M' p s) => wardLink_eq h hM l t (by omega) hg)
  rw [hk] at LK
  have hp := hM.obj
  have hh := hM.held
  have e2 : s.cells[2]? = some (.map (some s.hb)) := rfl
  have HM := Lib.hid hM
  have dx : (#[.int .i64 l, .int .i64 (t : Nat)] : Array Value).extract 0 (0 + 2) = #[.int .i64 l, .int .i64 (t : Nat)] := rfl
  have d1 : (#[.int .i64 l, .int .i64 (t : Nat)] : Array Value)[1]? = some (.int .i64 (t : Nat)) := rfl
  obtain ⟨v, hv⟩ : ∃ v, valE l t s.held = v := ⟨_, rfl⟩
  have HV := Lib.hid hv
  rw [hv]
  unfold spotV at TH
  clear hM ht hsl hg hk1 hk2 hk a1 a2 a3 a4 hv
  cases hb : decide (0 < v)
  all_goals
    go_enter Try.func28, Try.ntmps28
    go_upto_region 2 with (first
      | ((go_at_call 52; refine (SL.out _).mono ?_; rintro r w' ⟨rfl, rfl⟩)))
    obtain ⟨M1, hbx, hle, hbq, hnx⟩ := h.box (.cells #[.int .i64 l, .int .i64 (t : Nat)] 112)
    generalize w.alloc _ = wx at hbx ⊢
    generalize w.heap.size = bx at hbq hnx ⊢
    clear h
    try clear w
    have h := hbx
    clear hbx
    obtain ⟨w, rfl⟩ : ∃ x : World, x = wx := ⟨_, rfl⟩
    replace hp := hle _ _ hp
    replace hh := hle _ _ hh
    have hM1 : IsWard M1 p s := HM.out.le hle
    have TH1 := Lib.hid (fun (w : World) (h : Has σ M1 w) => TH.out M1 w h hM1)
    have LK1 := Lib.hid (fun (w : World) (h : Has σ M1 w) => LK.out M1 w h hM1)
    clear TH LK hM1
    refine wp_region_class (Has σ M1) (by kernel_rfl) (by kernel_rfl) h.drew ?_
    clear h
    repeat (first
      | go_big_quiet_skip
      | (go_big_quiet_want; first
        | (refine quiet_agg_has 112 _ rfl rfl hbq dx rfl Try.underlying112 rfl (by kernel_rfl) ?_; simp only [Act.put, List.setIfInBounds_toArray, List.set_cons_zero, List.set_cons_succ]; go_big_quiet_on)
        | (refine quiet_load_has 3 _ rfl rfl hbq d1 Try.underlying3 rfl ?_; simp only [Act.put, List.setIfInBounds_toArray, List.set_cons_zero, List.set_cons_succ]; go_big_quiet_on)
        | (refine quiet_load_has 114 _ rfl rfl hp e2 Try.underlying114 rfl ?_; simp only [Act.put, List.setIfInBounds_toArray, List.set_cons_zero, List.set_cons_succ]; go_big_quiet_on)
        | ((refine quiet_lookup_spot (l := l) (s := t) _ _ rfl rfl rfl hh ?_; rw [HV.out]); simp only [Act.put, List.setIfInBounds_toArray, List.set_cons_zero, List.set_cons_succ]; go_big_quiet_on)
        | (go_big_quiet_op; first | go_big_quiet_on | go_big_quiet_call (first | with_reducible exact fun _ => rfl | with_reducible exact TH1.out _ | with_reducible exact LK1.out _ | with_reducible exact SA.out M1 _))))
    refine wpQuiet_nil ?_
    try clear w
    intro w h
    go_wp2
    go_ret
    exact ⟨rfl, h.le hle⟩
end
section
open Go.RowKit
set_option linter.unusedVariables false
set_option linter.unusedSimpArgs false
set_option linter.unnecessarySimpa false
theorem refFirst_eq {σ w : World} {M : Mm} (h : Has σ M w) (c : Nat → Int) {L B S : Nat} (hn : Nums c L B S) (k : Nat) (hk : k ≤ 4) : Calls Try.prog 45 #[confV c, .int .i64 (k : Nat)] w fun r w' => r = .returned (.int .i64 ((k * (18 + B + 6 * S) : Nat) : Int)) ∧ Has σ M w' := by
  have r11 : (ints .i64 14 c)[11]? = some (.int .i64 (B : Nat)) := by rw [← hn.lim]; rfl
  have r10 : (ints .i64 14 c)[10]? = some (.int .i64 (S : Nat)) := by rw [← hn.slo]; rfl
  have hb := hn.b0
  have hs := hn.s0
  have w1 : IntKind.i64.wrap (18 + (B : Int)) = 18 + (B : Int) := IntWalk.i64_in _ (by omega)
  have w2 : IntKind.i64.wrap (6 * (S : Int)) = 6 * (S : Int) := IntWalk.i64_in _ (by omega)
  have w3 : IntKind.i64.wrap (18 + (B : Int) + 6 * (S : Int)) = 18 + (B : Int) + 6 * (S : Int) := IntWalk.i64_in _ (by omega)
  have hm : k * (18 + B + 6 * S) ≤ 4 * (18 + 40 + 6 * 60) := Nat.mul_le_mul hk (by omega)
  have w4 : IntKind.i64.wrap ((k : Int) * (18 + (B : Int) + 6 * (S : Int))) = (k : Int) * (18 + (B : Int) + 6 * (S : Int)) := by
    have e : (k : Int) * (18 + (B : Int) + 6 * (S : Int)) = ((k * (18 + B + 6 * S) : Nat) : Int) := by push_cast; rfl
    rw [e]
    exact IntWalk.i64_in _ (by omega)
  have E : Hid (((k * (18 + B + 6 * S) : Nat) : Int) = (k : Int) * (18 + (B : Int) + 6 * (S : Int))) := by show _ = _; push_cast; rfl
  rw [E.out]
  clear hb hs hm hn hk E
  unfold confV
  generalize ints .i64 14 c = row at r11 r10
  go_enter Try.func45, Try.ntmps45
  go_upto_region 1 with (fail)
  obtain ⟨M1, hbx, hle, hbf, hnf⟩ := h.box (.cells row 24)
  generalize w.alloc _ = wx at hbx ⊢
  generalize w.heap.size = bf at hbf hnf ⊢
  clear h
  try clear w
  have h := hbx
  clear hbx
  obtain ⟨w, rfl⟩ : ∃ x : World, x = wx := ⟨_, rfl⟩
  go_wp2_with (first
    | (with_reducible show wpList _ _ _ ({ dst := _, op := Op.load 3 _, type := _, pos := _, after := _, guard := _ } :: _) _ _; refine wpList_load1_has h rfl 3 _ rfl rfl hbf r11 Try.underlying3 rfl ?_)
    | (with_reducible show wpList _ _ _ ({ dst := _, op := Op.load 3 _, type := _, pos := _, after := _, guard := _ } :: _) _ _; refine wpList_load1_has h rfl 3 _ rfl rfl hbf r10 Try.underlying3 rfl ?_))
  go_ret
  exact ⟨rfl, h.le hle⟩
set_option maxRecDepth 20000 in
theorem refWord_eq {σ w : World} {M : Mm} (h : Has σ M w) (c : Nat → Int) {L B S : Nat} (hn : Nums c L B S) (k : Nat) (hk : k < L) (i j : Nat) (hi : 1 ≤ i) (hi2 : i ≤ S) (hj : j < 5) : Calls Try.prog 75 #[confV c, .int .i64 (k : Nat), .int .i64 (i : Nat), .int .i64 (j : Nat)] w fun r w' => r = .returned (.int .i64 (((k * (18 + B + 6 * S) + (18 + B + S + (i - 1) * 5 + j) : Nat)) : Int)) ∧ Has σ M w' := by
  have r11 : (ints .i64 14 c)[11]? = some (.int .i64 (B : Nat)) := by rw [← hn.lim]; rfl
  have r10 : (ints .i64 14 c)[10]? = some (.int .i64 (S : Nat)) := by rw [← hn.slo]; rfl
  have hb := hn.b0
  have hs := hn.s0
  have hl := hn.l0
  have hm : k * (18 + B + 6 * S) ≤ 4 * (18 + 40 + 6 * 60) := Nat.mul_le_mul (by omega) (by omega)
  have e : (k : Int) * (18 + (B : Int) + 6 * (S : Int)) = ((k * (18 + B + 6 * S) : Nat) : Int) := by push_cast; rfl
  obtain ⟨z, hz⟩ : ∃ z : Nat, k * (18 + B + 6 * S) = z := ⟨_, rfl⟩
  rw [hz] at e hm
  rw [hz]
  have w1 : IntKind.i64.wrap (18 + (B : Int)) = 18 + (B : Int) := IntWalk.i64_in _ (by omega)
  have w2 : IntKind.i64.wrap (6 * (S : Int)) = 6 * (S : Int) := IntWalk.i64_in _ (by omega)
  have w3 : IntKind.i64.wrap (18 + (B : Int) + 6 * (S : Int)) = 18 + (B : Int) + 6 * (S : Int) := IntWalk.i64_in _ (by omega)
  have w4 : IntKind.i64.wrap ((k : Int) * (18 + (B : Int) + 6 * (S : Int))) = (z : Int) := by rw [e]; exact IntWalk.i64_in _ (by omega)
  have w5 : IntKind.i64.wrap ((z : Int) + 18) = (z : Int) + 18 := IntWalk.i64_in _ (by omega)
  have w6 : IntKind.i64.wrap ((z : Int) + 18 + (B : Int)) = (z : Int) + 18 + (B : Int) := IntWalk.i64_in _ (by omega)
  have w7 : IntKind.i64.wrap ((z : Int) + 18 + (B : Int) + (S : Int)) = (z : Int) + 18 + (B : Int) + (S : Int) := IntWalk.i64_in _ (by omega)
  obtain ⟨y, hy⟩ : ∃ y : Nat, i = y + 1 := ⟨i - 1, by omega⟩
  subst hy
  have w8 : IntKind.i64.wrap (((y + 1 : Nat) : Int) - 1) = (y : Int) := by rw [show ((y + 1 : Nat) : Int) - 1 = y by omega]; exact IntWalk.i64_in _ (by omega)
  have w9 : IntKind.i64.wrap (5 * (y : Int)) = 5 * (y : Int) := IntWalk.i64_in _ (by omega)
  have w10 : IntKind.i64.wrap ((z : Int) + 18 + (B : Int) + (S : Int) + 5 * (y : Int)) = (z : Int) + 18 + (B : Int) + (S : Int) + 5 * (y : Int) := IntWalk.i64_in _ (by omega)
  have w11 : IntKind.i64.wrap ((z : Int) + 18 + (B : Int) + (S : Int) + 5 * (y : Int) + (j : Int)) = (z : Int) + 18 + (B : Int) + (S : Int) + 5 * (y : Int) + (j : Int) := IntWalk.i64_in _ (by omega)
  have E : Hid (((z + (18 + B + S + (y + 1 - 1) * 5 + j) : Nat) : Int) = (z : Int) + 18 + (B : Int) + (S : Int) + 5 * (y : Int) + (j : Int)) := Lib.hid (by omega)
  rw [E.out]
  clear hb hs hl hm hn hk E e hz hi hi2 hj
  unfold confV
  generalize ints .i64 14 c = row at r11 r10
  generalize ((y + 1 : Nat) : Int) = iz at *
  go_enter Try.func75, Try.ntmps75
  go_upto_region 1 with (fail)
  obtain ⟨M1, hbx, hle, hbf, hnf⟩ := h.box (.cells row 24)
  generalize w.alloc _ = wx at hbx ⊢
  generalize w.heap.size = bf at hbf hnf ⊢
  clear h
  try clear w
  have h := hbx
  clear hbx
  obtain ⟨w, rfl⟩ : ∃ x : World, x = wx := ⟨_, rfl⟩
  go_wp2_with (first
    | (with_reducible show wpList _ _ _ ({ dst := _, op := Op.load 3 _, type := _, pos := _, after := _, guard := _ } :: _) _ _; refine wpList_load1_has h rfl 3 _ rfl rfl hbf r11 Try.underlying3 rfl ?_)
    | (with_reducible show wpList _ _ _ ({ dst := _, op := Op.load 3 _, type := _, pos := _, after := _, guard := _ } :: _) _ _; refine wpList_load1_has h rfl 3 _ rfl rfl hbf r10 Try.underlying3 rfl ?_))
  go_ret
  exact ⟨rfl, h.le hle⟩
/-- A word of a row of words. -/
theorem word_at {f : Nat → Int} {N k : Nat} (hk : k < N) {v : Int} (hv : f k = v) : (ints .u64 N f)[k]? = some (.int .u64 v) := by rw [ints_get hk, hv]
set_option maxRecDepth 20000 in
theorem refClean_eq {σ w : World} {M : Mm} (h : Has σ M w) (c : Nat → Int) {L B S N bw : Nat} {f : Nat → Int} (hn : Nums c L B S) (hb : M bw = some (.cells (ints .u64 N f) 40)) (hN : N = L * (18 + B + 6 * S)) (k : Nat) (hk : k < L) (i : Nat) (h1 : 1 ≤ i) (h2 : i ≤ S) {hd : Nat} (e0 : f (k * (18 + B + 6 * S) + (18 + B + S + (i - 1) * 5)) = (hd : Int)) (hd4 : hd % 4 = 0) (hd64 : hd < 18446744073709551616) (e : ∀ j, 1 ≤ j → j < 5 → f (k * (18 + B + 6 * S) + (18 + B + S + (i - 1) * 5 + j)) = 0) :
    Calls Try.prog 46 #[confV c, .slice (some ⟨bw, 0, none⟩) N N, .int .i64 (k : Nat), .int .i64 (i : Nat)] w fun r w' => r = .returned (.bool true) ∧ Has σ M w' := by
  have hx : (ints .i64 14 c).extract 0 (0 + 14) = ints .i64 14 c := rfl
  have hz : (ints .i64 14 c).size = 14 := rfl
  have W0 := Lib.hid (fun (M' : Mm) (w : World) (h : Has σ M' w) => refWord_eq h c hn k hk i 0 h1 h2 (by omega))
  have hb0 := hn.b0
  have hs0 := hn.s0
  have hl0 := hn.l0
  have hm : k * (18 + B + 6 * S) + (18 + B + 6 * S) ≤ L * (18 + B + 6 * S) := by
    have := Nat.mul_le_mul_right (18 + B + 6 * S) (show k + 1 ≤ L by omega)
    rw [Nat.succ_mul] at this
    exact this
  have hm2 : L * (18 + B + 6 * S) ≤ 4 * (18 + 40 + 6 * 60) := Nat.mul_le_mul (by omega) (by omega)
  rw [← hN] at hm hm2
  obtain ⟨a, ha⟩ : ∃ a : Nat, k * (18 + B + 6 * S) + (18 + B + S + (i - 1) * 5 + 0) = a := ⟨_, rfl⟩
  rw [ha] at W0
  have f0 : (ints .u64 N f)[a]? = some (.int .u64 (hd : Int)) := word_at (by omega) (by rw [← ha]; exact e0)
  have f1 : (ints .u64 N f)[a + 1]? = some (.int .u64 0) := word_at (by omega) (by rw [← ha]; exact e 1 (by omega) (by omega))
  have f2 : (ints .u64 N f)[a + 2]? = some (.int .u64 0) := word_at (by omega) (by rw [← ha]; exact e 2 (by omega) (by omega))
  have f3 : (ints .u64 N f)[a + 3]? = some (.int .u64 0) := word_at (by omega) (by rw [← ha]; exact e 3 (by omega) (by omega))
  have f4 : (ints .u64 N f)[a + 4]? = some (.int .u64 0) := word_at (by omega) (by rw [← ha]; exact e 4 (by omega) (by omega))
  have g0 : decide (0 ≤ (a : Int)) = true := decide_eq_true (by omega)
  have g1 : decide ((a : Int) + 5 ≤ (N : Int)) = true := decide_eq_true (by omega)
  have w1 : IntKind.i64.wrap ((a : Int) + 1) = ((a + 1 : Nat) : Int) := by rw [show (a : Int) + 1 = ((a + 1 : Nat) : Int) by omega]; exact IntWalk.i64_in _ (by omega)
  have w2 : IntKind.i64.wrap ((a : Int) + 2) = ((a + 2 : Nat) : Int) := by rw [show (a : Int) + 2 = ((a + 2 : Nat) : Int) by omega]; exact IntWalk.i64_in _ (by omega)
  have w3 : IntKind.i64.wrap ((a : Int) + 3) = ((a + 3 : Nat) : Int) := by rw [show (a : Int) + 3 = ((a + 3 : Nat) : Int) by omega]; exact IntWalk.i64_in _ (by omega)
  have w4 : IntKind.i64.wrap ((a : Int) + 4) = ((a + 4 : Nat) : Int) := by rw [show (a : Int) + 4 = ((a + 4 : Nat) : Int) by omega]; exact IntWalk.i64_in _ (by omega)
  have w5 : IntKind.i64.wrap ((a : Int) + 5) = (a : Int) + 5 := IntWalk.i64_in _ (by omega)
  have m0 : IntKind.u64.wrap ((hd : Int).tmod 4) = 0 := by rw [Int.tmod_eq_emod_of_nonneg (by omega), show (hd : Int) % 4 = 0 by omega]; rfl
  have m1 : (hd : Int).tmod 4 = 0 := by rw [Int.tmod_eq_emod_of_nonneg (by omega)]; omega
  have l0 : a < N := by omega
  have l1 : a + 1 < N := by omega
  have l2 : a + 2 < N := by omega
  have l3 : a + 3 < N := by omega
  have l4 : a + 4 < N := by omega
  clear hb0 hs0 hl0 hm hm2 ha hn hk hN e0 e hd4 h1 h2
  unfold confV at W0 ⊢
  generalize ints .i64 14 c = row at W0 hx hz ⊢
  generalize ints .u64 N f = wrow at *
  generalize a + 1 = a1 at *
  generalize a + 2 = a2 at *
  generalize a + 3 = a3 at *
  generalize a + 4 = a4 at *
  go_enter Try.func46, Try.ntmps46
  go_upto_region 1 with (fail)
  obtain ⟨M1, hbx, hle, hbf, hnf⟩ := h.box (.cells row 24)
  generalize w.alloc _ = wx at hbx ⊢
  generalize w.heap.size = bf at hbf hnf ⊢
  clear h
  try clear w
  have h := hbx
  clear hbx
  obtain ⟨w, rfl⟩ : ∃ x : World, x = wx := ⟨_, rfl⟩
  replace hb := hle _ _ hb
  go_wp2_with (first
    | ((with_reducible show wpList _ _ _ ({ dst := _, op := Op.load 24 _, type := _, pos := _, after := _, guard := _ } :: _) _ _); refine wpList_agg_has h rfl 24 _ rfl rfl hbf hx hz Try.underlying24 rfl (by kernel_rfl) ?_; try simp only [Act.put, List.setIfInBounds_toArray, List.set_cons_zero, List.set_cons_succ])
    | (go_at_call 75; refine (W0.out _ _ h).mono ?_; clear h; rintro _ w ⟨rfl, h⟩)
    | (with_reducible show wpList _ _ _ ({ dst := _, op := Op.load 40 _, type := _, pos := _, after := _, guard := _ } :: _) _ _; refine wpList_load1_has h rfl 40 _ rfl rfl hb f0 Try.underlying40 rfl ?_)
    | (with_reducible show wpList _ _ _ ({ dst := _, op := Op.load 40 _, type := _, pos := _, after := _, guard := _ } :: _) _ _; refine wpList_load1_has h rfl 40 _ rfl rfl hb f1 Try.underlying40 rfl ?_)
    | (with_reducible show wpList _ _ _ ({ dst := _, op := Op.load 40 _, type := _, pos := _, after := _, guard := _ } :: _) _ _; refine wpList_load1_has h rfl 40 _ rfl rfl hb f2 Try.underlying40 rfl ?_)
    | (with_reducible show wpList _ _ _ ({ dst := _, op := Op.load 40 _, type := _, pos := _, after := _, guard := _ } :: _) _ _; refine wpList_load1_has h rfl 40 _ rfl rfl hb f3 Try.underlying40 rfl ?_)
    | (with_reducible show wpList _ _ _ ({ dst := _, op := Op.load 40 _, type := _, pos := _, after := _, guard := _ } :: _) _ _; refine wpList_load1_has h rfl 40 _ rfl rfl hb f4 Try.underlying40 rfl ?_))
  go_ret
  exact ⟨rfl, h.le hle⟩
set_option maxRecDepth 20000 in
theorem refWorn_eq {σ w : World} {M : Mm} (h : Has σ M w) (c : Nat → Int) {L B S N bw : Nat} {f : Nat → Int} (hn : Nums c L B S) (hb : M bw = some (.cells (ints .u64 N f) 40)) (hN : N = L * (18 + B + 6 * S)) (k : Nat) (hk : k < L) (i : Nat) (h1 : 1 ≤ i) (h2 : i ≤ S) {hd gens : Nat} (e0 : f (k * (18 + B + 6 * S) + (18 + B + S + (i - 1) * 5)) = (hd : Int)) (hd64 : hd < 18446744073709551616) (hg : c 12 = (gens : Int)) (hg2 : gens < 10000000) :
    Calls Try.prog 47 #[confV c, .slice (some ⟨bw, 0, none⟩) N N, .int .i64 (k : Nat), .int .i64 (i : Nat)] w fun r w' => r = .returned (.bool (decide (gens ≤ hd / 4))) ∧ Has σ M w' := by
  have hx : (ints .i64 14 c).extract 0 (0 + 14) = ints .i64 14 c := rfl
  have hz : (ints .i64 14 c).size = 14 := rfl
  have W0 := Lib.hid (fun (M' : Mm) (w : World) (h : Has σ M' w) => refWord_eq h c hn k hk i 0 h1 h2 (by omega))
  have hb0 := hn.b0
  have hs0 := hn.s0
  have hl0 := hn.l0
  have hm : k * (18 + B + 6 * S) + (18 + B + 6 * S) ≤ L * (18 + B + 6 * S) := by
    have := Nat.mul_le_mul_right (18 + B + 6 * S) (show k + 1 ≤ L by omega)
    rw [Nat.succ_mul] at this
    exact this
  have hm2 : L * (18 + B + 6 * S) ≤ 4 * (18 + 40 + 6 * 60) := Nat.mul_le_mul (by omega) (by omega)
  rw [← hN] at hm hm2
  obtain ⟨a, ha⟩ : ∃ a : Nat, k * (18 + B + 6 * S) + (18 + B + S + (i - 1) * 5 + 0) = a := ⟨_, rfl⟩
  rw [ha] at W0
  have f0 : (ints .u64 N f)[a]? = some (.int .u64 (hd : Int)) := word_at (by omega) (by rw [← ha]; exact e0)
  have r12 : (ints .i64 14 c)[12]? = some (.int .i64 (gens : Nat)) := by rw [← hg]; rfl
  have g0 : decide (0 ≤ (a : Int)) = true := decide_eq_true (by omega)
  have g1 : decide ((a : Int) < (N : Int)) = true := decide_eq_true (by omega)
  have m1 : (hd : Int).tdiv 4 = ((hd / 4 : Nat) : Int) := by rw [Int.tdiv_eq_ediv_of_nonneg (by omega)]; omega
  have w1 : IntKind.u64.wrap ((hd / 4 : Nat) : Int) = ((hd / 4 : Nat) : Int) := IntWalk.u64_in _ (by omega)
  have w2 : IntKind.u64.wrap ((gens : Nat) : Int) = ((gens : Nat) : Int) := IntWalk.u64_in _ (by omega)
  have l0 : a < N := by omega
  clear hb0 hs0 hl0 hm hm2 ha hn hk hN e0 h1 h2 hg hg2 hd64
  unfold confV at W0 ⊢
  generalize ints .i64 14 c = row at W0 hx hz r12 ⊢
  generalize ints .u64 N f = wrow at *
  generalize hd / 4 = hd4 at *
  go_enter Try.func47, Try.ntmps47
  go_upto_region 1 with (fail)
  obtain ⟨M1, hbx, hle, hbf, hnf⟩ := h.box (.cells row 24)
  generalize w.alloc _ = wx at hbx ⊢
  generalize w.heap.size = bf at hbf hnf ⊢
  clear h
  try clear w
  have h := hbx
  clear hbx
  obtain ⟨w, rfl⟩ : ∃ x : World, x = wx := ⟨_, rfl⟩
  replace hb := hle _ _ hb
  go_upto_region 2 with (first
    | ((with_reducible show wpList _ _ _ ({ dst := _, op := Op.load 24 _, type := _, pos := _, after := _, guard := _ } :: _) _ _); refine wpList_agg_has h rfl 24 _ rfl rfl hbf hx hz Try.underlying24 rfl (by kernel_rfl) ?_; try simp only [Act.put, List.setIfInBounds_toArray, List.set_cons_zero, List.set_cons_succ])
    | (go_at_call 75; refine (W0.out _ _ h).mono ?_; clear h; rintro _ w ⟨rfl, h⟩))
  refine wp_region_class (Has σ M1) (by kernel_rfl) (by kernel_rfl) h.drew ?_
  clear h
  repeat (first
    | go_big_quiet_skip
    | (go_big_quiet_want; first
      | (refine quiet_load_has 40 _ rfl rfl hb f0 Try.underlying40 rfl ?_; simp only [Act.put, List.setIfInBounds_toArray, List.set_cons_zero, List.set_cons_succ]; go_big_quiet_on)
      | (refine quiet_load_has 3 _ rfl rfl hbf r12 Try.underlying3 rfl ?_; simp only [Act.put, List.setIfInBounds_toArray, List.set_cons_zero, List.set_cons_succ]; go_big_quiet_on)
      | (go_big_quiet_op; first | go_big_quiet_on | go_big_quiet_call (first | with_reducible exact fun _ => rfl))))
  refine wpQuiet_nil ?_
  try clear w
  intro w h
  go_wp2
  go_ret
  exact ⟨rfl, h.le hle⟩
/-- The length of a slice. -/
def lenV : Value → Nat
  | .slice _ n _ => n
  | _ => 0
def natv (l : List Nat) : List Value := l.map fun n : Nat => Value.int .i64 n
theorem natv_len (l : List Nat) : (natv l).length = l.length := by simp [natv]
theorem info_int : (Try.prog.info? 3).map (fun i => (i.zero, i.size, i.bytes)) = some (some (.int .i64 0), 1, 8) := by kernel_rfl
theorem chain_get {lk : Nat → Nat} : ∀ (Q : List Nat) (s : Nat), chainP lk s Q → s = Q.getD 0 0 ∧ ∀ k, k < Q.length → 1 ≤ Q.getD k 0 ∧ lk (Q.getD k 0) = Q.getD (k + 1) 0
  | [], s, h => ⟨h, fun k hk => absurd hk (Nat.not_lt_zero _)⟩
  | x :: r, s, h => by
    obtain ⟨h1, h2, h3⟩ := h
    obtain ⟨h4, h5⟩ := chain_get r _ h3
    refine ⟨h1, fun k hk => ?_⟩
    cases k with
    | zero => exact ⟨h2, by simpa using h4⟩
    | succ k => simpa using h5 k (by simpa using hk)
set_option maxHeartbeats 1000000 in
set_option maxRecDepth 20000 in
/-- A level's free list, as the document reads it. -/
theorem refChain_eq {σ w : World} {M : Mm} (h : Has σ M w) (c : Nat → Int) {L B S N bw : Nat} {f : Nat → Int} (hn : Nums c L B S) (hb : M bw = some (.cells (ints .u64 N f) 40)) (hN : N = L * (18 + B + 6 * S)) (l : Nat) (hl : l < L) {top : Nat} {lk : Nat → Nat} (e0 : f (l * (18 + B + 6 * S)) = (top : Int)) (e8 : ∀ i, 1 ≤ i → i ≤ S → f (l * (18 + B + 6 * S) + (18 + B + (i - 1))) = (lk i : Int)) (hlk : ∀ i, 1 ≤ i → i ≤ S → lk i ≤ S) {Q : List Nat} (hQ : chainP lk (top % 256) Q) (hQS : ∀ x ∈ Q, x ≤ S) (hQl : Q.length ≤ S) :
    Calls Try.prog 21 #[confV c, .slice (some ⟨bw, 0, none⟩) N N, .int .i64 (l : Nat)] w fun r w' => ∃ v, r = .returned (.tuple #[v, .bool true]) ∧ Acc σ M w' 3 1 v Q.length (natv Q) := by
  have hx : (ints .i64 14 c).extract 0 (0 + 14) = ints .i64 14 c := rfl
  have hz : (ints .i64 14 c).size = 14 := rfl
  have r0 : (ints .i64 14 c)[0]? = some (.int .i64 (L : Nat)) := by rw [← hn.lev]; rfl
  have r10 : (ints .i64 14 c)[10]? = some (.int .i64 (S : Nat)) := by rw [← hn.slo]; rfl
  have r11 : (ints .i64 14 c)[11]? = some (.int .i64 (B : Nat)) := by rw [← hn.lim]; rfl
  have hb0 := hn.b0
  have hs0 := hn.s0
  have hl0 := hn.l0
  have FL := Lib.hid (fun (M' : Mm) (w : World) (h : Has σ M' w) => refFirst_eq h c hn L (by omega))
  have Fl := Lib.hid (fun (M' : Mm) (w : World) (h : Has σ M' w) => refFirst_eq h c hn l (by omega))
  have hm : l * (18 + B + 6 * S) + (18 + B + 6 * S) ≤ L * (18 + B + 6 * S) := by
    have := Nat.mul_le_mul_right (18 + B + 6 * S) (show l + 1 ≤ L by omega)
    rw [Nat.succ_mul] at this
    exact this
  have hm2 : L * (18 + B + 6 * S) ≤ 4 * (18 + 40 + 6 * 60) := Nat.mul_le_mul (by omega) (by omega)
  rw [← hN] at hm hm2 FL
  generalize hfr : l * (18 + B + 6 * S) = fr at *
  have f0 : (ints .u64 N f)[fr]? = some (.int .u64 (top : Int)) := word_at (by omega) e0
  have f8 : Hid (∀ i, 1 ≤ i → i ≤ S → (ints .u64 N f)[fr + (18 + B + (i - 1))]? = some (.int .u64 (lk i : Int)) ∧ fr + (18 + B + (i - 1)) < N) := Lib.hid fun i a b => ⟨word_at (by omega) (e8 i a b), by omega⟩
  obtain ⟨q0, qk⟩ := chain_get Q _ hQ
  have QK := Lib.hid qk
  have hq60 : ∀ k, Q.getD k 0 ≤ S := fun k => by
    by_cases hk : k < Q.length
    · rw [List.getD_eq_getElem?_getD, List.getElem?_eq_getElem hk]; exact hQS _ (List.getElem_mem hk)
    · rw [List.getD_eq_getElem?_getD, List.getElem?_eq_none (by omega)]; exact Nat.zero_le _
  have Q60 := Lib.hid hq60
  have HLK := Lib.hid hlk
  have g0 : decide ((l : Int) < 0) = false := decide_eq_false (by omega)
  have g1 : decide ((L : Int) ≤ (l : Int)) = false := decide_eq_false (by omega)
  have g2 : ((N : Int) != (N : Int)) = false := by simp
  have g3 : ¬ L ≤ l := by omega
  have m1 : (top : Int).tmod 256 = ((top % 256 : Nat) : Int) := by rw [Int.tmod_eq_emod_of_nonneg (by omega)]; omega
  have w1 : IntKind.u64.wrap ((top % 256 : Nat) : Int) = ((top % 256 : Nat) : Int) := IntWalk.u64_in _ (by omega)
  have w2 : IntKind.i64.wrap ((top % 256 : Nat) : Int) = ((top % 256 : Nat) : Int) := IntWalk.i64_in _ (by omega)
  have l0 : fr < N := by omega
  have lfr : fr < 2000 := by omega
  have Q0 := Lib.hid q0
  clear e0 e8 hlk hQ hQS hm hm2 hn hN qk hq60 hl hl0 hfr q0
  unfold confV at FL Fl ⊢
  generalize ints .i64 14 c = row at *
  generalize ints .u64 N f = wrow at *
  generalize top % 256 = t0 at *
  go_enter Try.func21, Try.ntmps21
  go_upto_region 1 with (fail)
  obtain ⟨M1, hbx, hle, hbf, hnf⟩ := h.box (.cells row 24)
  generalize w.alloc _ = wx at hbx ⊢
  generalize w.heap.size = bf at hbf hnf ⊢
  clear h
  try clear w
  have h := hbx
  clear hbx
  obtain ⟨w, rfl⟩ : ∃ x : World, x = wx := ⟨_, rfl⟩
  replace hb := hle _ _ hb
  go_upto_region 4 with (first
    | (with_reducible show wpList _ _ _ ({ dst := _, op := Op.load 3 _, type := _, pos := _, after := _, guard := _ } :: _) _ _; refine wpList_load1_has h rfl 3 _ rfl rfl hbf r0 Try.underlying3 rfl ?_)
    | ((with_reducible show wpList _ _ _ ({ dst := _, op := Op.load 24 _, type := _, pos := _, after := _, guard := _ } :: _) _ _); refine wpList_agg_has h rfl 24 _ rfl rfl hbf hx hz Try.underlying24 rfl (by kernel_rfl) ?_; try simp only [Act.put, List.setIfInBounds_toArray, List.set_cons_zero, List.set_cons_succ])
    | (go_at_call 45; refine (FL.out _ _ h).mono ?_; clear h; rintro _ w ⟨rfl, h⟩))
  clear FL g0 g1 g2 g3 r0
  go_upto_region 6 with (first
    | ((with_reducible show wpList _ _ _ ({ dst := _, op := Op.load 24 _, type := _, pos := _, after := _, guard := _ } :: _) _ _); refine wpList_agg_has h rfl 24 _ rfl rfl hbf hx hz Try.underlying24 rfl (by kernel_rfl) ?_; try simp only [Act.put, List.setIfInBounds_toArray, List.set_cons_zero, List.set_cons_succ])
    | (go_at_call 45; refine (Fl.out _ _ h).mono ?_; clear h; rintro _ w ⟨rfl, h⟩)
    | (with_reducible show wpList _ _ _ ({ dst := _, op := Op.load 40 _, type := _, pos := _, after := _, guard := _ } :: _) _ _; refine wpList_load1_has h rfl 40 _ rfl rfl hb f0 Try.underlying40 rfl ?_))
  clear Fl hx hz f0 m1 w1 w2 l0
  go_loopw [8, 10, 11] (fun v x _ wr => ∃ k : Nat, k ≤ Q.length ∧ x = .int .i64 (Q.getD k 0 : Nat) ∧ Acc σ M1 wr 3 1 v k (natv (Q.take k))) (fun v _ _ _ => Q.length - lenV v)
  case atStart => exact ⟨0, Nat.zero_le _, by rw [Q0.out], Acc.nil h _ _⟩
  case round =>
    clear h w
    obtain ⟨w, rfl⟩ : ∃ x : World, x = wr := ⟨_, rfl⟩
    obtain ⟨k, hk, rfl, M', h, hle2, hown⟩ := hrel
    obtain ⟨A, cap, rfl⟩ := hown.form
    by_cases hlt : k < Q.length
    · have hq := QK.out k hlt
      have hqS := Q60.out k
      obtain ⟨e8, l8⟩ := f8.out (Q.getD k 0) hq.1 hqS
      rw [hq.2] at e8
      have hn60 := Q60.out (k + 1)
      have T : Hid (natv (Q.take (k + 1)) = natv (Q.take k) ++ [.int .i64 (Q.getD k 0 : Nat)]) := by
        show _ = _
        rw [List.take_succ_eq_append_getElem hlt, List.getD_eq_getElem?_getD, List.getElem?_eq_getElem hlt]
        unfold natv
        rw [List.map_append]
        rfl
      have hq1 := hq.1
      generalize Q.getD k 0 = x at *
      generalize hxn : Q.getD (k + 1) 0 = xn at *
      have HX := Lib.hid hxn
      have c1 : ((x : Int) != 0) = true := by simp; omega
      have c2 : ¬ S < x := by omega
      have c3 : ¬ S < k := by omega
      have c4 : decide ((255 : Int) < (xn : Int)) = false := decide_eq_false (by omega)
      have w3 : IntKind.i64.wrap ((fr : Int) + 18) = (fr : Int) + 18 := IntWalk.i64_in _ (by omega)
      have w4 : IntKind.i64.wrap ((fr : Int) + 18 + (B : Int)) = (fr : Int) + 18 + (B : Int) := IntWalk.i64_in _ (by omega)
      have w5 : IntKind.i64.wrap ((fr : Int) + 18 + (B : Int) + (x : Int)) = (fr : Int) + 18 + (B : Int) + (x : Int) := IntWalk.i64_in _ (by omega)
      have w6 : IntKind.i64.wrap ((fr : Int) + 18 + (B : Int) + (x : Int) - 1) = ((fr + (18 + B + (x - 1)) : Nat) : Int) := by rw [show (fr : Int) + 18 + (B : Int) + (x : Int) - 1 = ((fr + (18 + B + (x - 1)) : Nat) : Int) by omega]; exact IntWalk.i64_in _ (by omega)
      have w7 : IntKind.i64.wrap ((xn : Nat) : Int) = ((xn : Nat) : Int) := IntWalk.i64_in _ (by omega)
      have hb2 := hle2 _ _ hb
      have hbf2 := hle2 _ _ hbf
      have HK := Lib.hid (show k + 1 ≤ Q.length by omega)
      have k60 : k < 60 := by omega
      clear hq hqS hn60 hq1 hlt hk hxn
      generalize fr + (18 + B + (x - 1)) = ax at *
      go_upto_region 9 with (first
        | (with_reducible show wpList _ _ _ ({ dst := _, op := Op.load 3 _, type := _, pos := _, after := _, guard := _ } :: _) _ _; refine wpList_load1_has h rfl 3 _ rfl rfl hbf2 r10 Try.underlying3 rfl ?_))
      go_upto_region 10 with (first
        | (at_builtin; refine wpList_append_lit h hle2 rfl _ _ _ rfl rfl Try.underlying47 info_int rfl (by omega) rfl hown rfl rfl rfl (by omega) (by omega) ?_; clear h hle2 hown; intro v w hacc))
      obtain ⟨M7, h, hle7, hown⟩ := hacc
      obtain ⟨A7, cap7, rfl⟩ := hown.form
      have hb7 := hle7 _ _ hb
      have hbf7 := hle7 _ _ hbf
      go_wp2_with (first
        | (with_reducible show wpList _ _ _ ({ dst := _, op := Op.load 3 _, type := _, pos := _, after := _, guard := _ } :: _) _ _; refine wpList_load1_has h rfl 3 _ rfl rfl hbf7 r11 Try.underlying3 rfl ?_)
        | (with_reducible show wpList _ _ _ ({ dst := _, op := Op.load 40 _, type := _, pos := _, after := _, guard := _ } :: _) _ _; refine wpList_load1_has h rfl 40 _ rfl rfl hb7 e8 Try.underlying40 rfl ?_))
      go_roundw
      case rel => exact ⟨k + 1, HK.out, by rw [HX.out], M7, h, hle7, by rw [T.out]; simpa using hown⟩
      case measure => have := HK.out; simp [lenV]; omega
    · obtain rfl : k = Q.length := by omega
      have c1 : ((Q.getD Q.length 0 : Nat) : Int) = 0 := by rw [List.getD_eq_getElem?_getD, List.getElem?_eq_none (Nat.le_refl _)]; rfl
      rw [c1]
      rw [List.take_length] at hown
      clear c1 hlt hk
      go_wp2
      go_ret2
      exact ⟨_, rfl, M', h, Mm.le_trans hle hle2, hown.base fun b hb => Mm.none_of hle hb⟩
end
section
open Go.RowKit
set_option linter.unusedVariables false
set_option linter.unusedSimpArgs false
set_option linter.unnecessarySimpa false
section
variable {c : Nat → Int} {L B S N : Nat} {f : Nat → Int} {G : Nat → LvG}
theorem atK_nat (hn : Nums c L B S) (l k : Nat) (i j : Int) (r : Nat) (hr : firsts c k + numK k i j = (r : Int)) : (atK c (l : Nat) k i j).toNat = l * (18 + B + 6 * S) + r := by
  unfold atK
  rw [hn.sz, Int.add_assoc, hr, ← Int.natCast_mul, ← Int.natCast_add, Int.toNat_natCast]
theorem Words.top_n (h : Words c f G) (hn : Nums c L B S) {l : Nat} (hl : l < L) : f (l * (18 + B + 6 * S)) = ((G l).top : Int) := by
  rw [← h.top l (by rw [hn.lev]; omega), atK_nat hn l 0 0 0 0 (num_0 c)]; rfl
theorem Words.lk_n (h : Words c f G) (hn : Nums c L B S) {l i : Nat} (hl : l < L) (h1 : 1 ≤ i) (h2 : i ≤ S) : f (l * (18 + B + 6 * S) + (18 + B + (i - 1))) = ((G l).lk i : Int) := by
  rw [← h.lk l i (by rw [hn.lev]; omega) h1 (by rw [hn.slo]; omega), atK_nat hn l 8 (i : Nat) 0 (18 + B + (i - 1)) (by rw [num_8, hn.lim]; omega)]
theorem Words.hd_n (h : Words c f G) (hn : Nums c L B S) {l i : Nat} (hl : l < L) (h1 : 1 ≤ i) (h2 : i ≤ S) : f (l * (18 + B + 6 * S) + (18 + B + S + (i - 1) * 5)) = ((G l).hd i : Int) := by
  rw [← h.hd l i (by rw [hn.lev]; omega) h1 (by rw [hn.slo]; omega), atK_nat hn l 9 (i : Nat) 0 (18 + B + S + (i - 1) * 5) (by rw [num_9', hn.lim, hn.slo]; omega)]
theorem Words.fld_n (h : Words c f G) (hn : Nums c L B S) {l i j : Nat} (hl : l < L) (h1 : 1 ≤ i) (h2 : i ≤ S) (h3 : 1 ≤ j) (h4 : j < 5) : f (l * (18 + B + 6 * S) + (18 + B + S + (i - 1) * 5 + j)) = 0 := by
  rw [← h.fld l i j (by rw [hn.lev]; omega) h1 (by rw [hn.slo]; omega) h3 h4, atK_nat hn l 9 (i : Nat) (j : Nat) (18 + B + S + (i - 1) * 5 + j) (by rw [num_9, hn.lim, hn.slo]; omega)]
end
/-- How many of the first slots aren't free. -/
def busy (o : Nat → Nat × Nat) : Nat → Nat
  | 0 => 0
  | k + 1 => busy o k + if (o (k + 1)).1 = 1 then 0 else 1
theorem busy_le (o : Nat → Nat × Nat) : ∀ k, busy o k ≤ k
  | 0 => Nat.le_refl _
  | k + 1 => by have := busy_le o k; unfold busy; split <;> omega
theorem busy_len (o : Nat → Nat × Nat) : ∀ k, ((List.range k).filter fun i => (o (i + 1)).1 == 1).length + busy o k = k
  | 0 => rfl
  | k + 1 => by
    have ih := busy_len o k
    rw [List.range_succ, List.filter_append, List.length_append]
    unfold busy
    by_cases h : (o (k + 1)).1 = 1
    · rw [if_pos h]; simp [h]; omega
    · rw [if_neg h]; simp [h]; omega
theorem free_busy {S : Nat} {o : Nat → Nat × Nat} {Q : List Nat} (hnd : Q.Nodup) (hm : ∀ x, x ∈ Q ↔ 1 ≤ x ∧ x ≤ S ∧ (o x).1 = 1) : Q.length + busy o S = S := by
  have hp : Q.Perm (((List.range S).filter fun i => (o (i + 1)).1 == 1).map (· + 1)) := by
    refine (List.perm_ext_iff_of_nodup hnd ?_).2 fun x => ?_
    · refine List.Pairwise.map _ (fun a b hab e => hab (by omega)) ((List.nodup_range (n := S)).filter _)
    · rw [hm x, List.mem_map]
      constructor
      · rintro ⟨a, b, d⟩
        exact ⟨x - 1, List.mem_filter.2 ⟨List.mem_range.2 (by omega), by rw [show x - 1 + 1 = x by omega]; simp [d]⟩, by omega⟩
      · rintro ⟨y, hy, rfl⟩
        obtain ⟨a, b⟩ := List.mem_filter.1 hy
        have := List.mem_range.1 a
        exact ⟨by omega, by omega, by simpa using b⟩
  rw [hp.length_eq, List.length_map]
  exact busy_len o S
theorem ints14_one (c : Nat → Int) : (ints .i64 14 c).toList.all (·.oneCell') = true := rfl
set_option maxHeartbeats 4000000 in
set_option maxRecDepth 20000 in
theorem odd_eq {σ w : World} {M : Mm} {lab : Nat → Nat} {p l n m gens : Nat} {s : MachS} {c : Nat → Int} {tp : List Nat} {g : StG} {o : Nat → Nat × Nat} {Q : List Nat} {L B S : Nat} (h : Has σ M w) (hM : Mach M lab p s) (hA : AbsG c tp n s g) (hn4 : n < 100000) (hn : Nums c L B S) (hg : c 12 = (gens : Nat)) (hl : l < L) (hV : LvI S gens m (g.lv l) o Q) (hr : ∀ i, 1 ≤ i → i ≤ S → (o i).1 ≤ 2) :
    Calls Try.prog 23 #[.pointer (some ⟨p, 0, none⟩), .int .i64 (l : Nat)] w fun r w' => r = .returned (.int .i64 0) ∧ ∃ M', Has σ M' w' ∧ M.le M' := by
  obtain rfl := hA.cc
  have hb0 := hn.b0
  have hs0 := hn.s0
  have hl0 := hn.l0
  have hN0 := hM.memN
  have hN1 : s.mem.N = L * (18 + B + 6 * S) := by
    have h1 := hM.memN
    rw [hn.lev, hn.sz, ← Int.natCast_mul] at h1
    exact Int.ofNat_inj.1 h1
  have hN2 : L * (18 + B + 6 * S) ≤ 4 * (18 + 40 + 6 * 60) := Nat.mul_le_mul (by omega) (by omega)
  have hgens : gens ≤ 1048576 := by have := hA.may.2.2.2.2.2.2.1; omega
  have PL := Lib.hid (fun (w : World) (h : Has σ M w) => mPlan_eq h hM)
  have CF := Lib.hid (fun (w : World) (h : Has σ M w) => conf_has h s.c hM.plan)
  have MK : Hid (∀ M', M.le M' → ∃ lab', Mach M' lab' p s) := Lib.hid fun M' hle => ⟨_, hM.keep (Kp.le hle fun _ => 0) fun _ _ h => h⟩
  have HA := Lib.hid hA
  have HN := Lib.hid hn
  have HV := Lib.hid hV
  have HR := Lib.hid hr
  have HG := Lib.hid hg
  have hlS : (l : Int) < s.c 0 := by rw [hn.lev]; omega
  have HLS := Lib.hid hlS
  have hQ60 : Q.length ≤ 60 := by have := free_busy hV.nodup hV.mem; omega
  have hx : (ints .i64 14 s.c).extract 0 (0 + 14) = ints .i64 14 s.c := rfl
  have hz : (ints .i64 14 s.c).size = 14 := rfl
  have r10 : (ints .i64 14 s.c)[10]? = some (.int .i64 (S : Nat)) := by rw [← hn.slo]; rfl
  have O14 := ints14_one s.c
  have zconf : (Try.prog.info? 24).bind (·.zero) = some (.agg #[.int .i64 0, .int .i64 0, .int .i64 0, .int .i64 0, .int .i64 0, .int .i64 0, .int .i64 0, .int .i64 0, .int .i64 0, .int .i64 0, .int .i64 0, .int .i64 0, .int .i64 0, .int .i64 0]) := by kernel_rfl
  clear hM hA hn hV hr hg hN0 hlS
  have HRW : Hid (∃ row, row = ints .i64 14 s.c) := Lib.hid ⟨_, rfl⟩
  have CHQ : Hid (∀ (M' : Mm) (w : World) (bw : Nat), Has σ M' w → M' bw = some (.cells (ints .u64 s.mem.N s.mem.f) 40) → Calls Try.prog 21 #[.agg (ints .i64 14 s.c), .slice (some ⟨bw, 0, none⟩) s.mem.N s.mem.N, .int .i64 (l : Nat)] w fun r w' => ∃ v, r = .returned (.tuple #[v, .bool true]) ∧ Acc σ M' w' 3 1 v Q.length (natv Q)) := Lib.hid fun M' w bw h hb => refChain_eq h s.c HN.out hb hN1 l hl (HA.out.words.top_n HN.out hl) (fun i a b => HA.out.words.lk_n HN.out hl a b) HV.out.lk (by rw [← slOf_eq]; exact HV.out.chain) (fun x hx => ((HV.out.mem x).1 hx).2.1) (by have := free_busy HV.out.nodup HV.out.mem; omega)
  have CLQ : Hid (∀ (M' : Mm) (w : World) (bw i : Nat), Has σ M' w → M' bw = some (.cells (ints .u64 s.mem.N s.mem.f) 40) → i ∈ Q → Calls Try.prog 46 #[.agg (ints .i64 14 s.c), .slice (some ⟨bw, 0, none⟩) s.mem.N s.mem.N, .int .i64 (l : Nat), .int .i64 (i : Nat)] w fun r w' => r = .returned (.bool true) ∧ Has σ M' w') := Lib.hid fun M' w bw i h hb hi => by
    obtain ⟨a1, a2, a3⟩ := (HV.out.mem i).1 hi
    have a4 := HV.out.off i a1 a2 (.inl a3)
    have a5 := (HV.out.hd i a1 a2).1
    exact refClean_eq h s.c HN.out hb hN1 l hl i a1 a2 (HA.out.words.hd_n HN.out hl a1 a2) a4.2.1 (by omega) (fun j h3 h4 => HA.out.words.fld_n HN.out hl a1 a2 h3 h4)
  have WOQ : Hid (∀ (M' : Mm) (w : World) (bw i : Nat), Has σ M' w → M' bw = some (.cells (ints .u64 s.mem.N s.mem.f) 40) → 1 ≤ i → i ≤ S → Calls Try.prog 47 #[.agg (ints .i64 14 s.c), .slice (some ⟨bw, 0, none⟩) s.mem.N s.mem.N, .int .i64 (l : Nat), .int .i64 (i : Nat)] w fun r w' => r = .returned (.bool (decide (gens ≤ (g.lv l).hd i / 4))) ∧ Has σ M' w') := Lib.hid fun M' w bw i h hb a1 a2 => by
    have a5 := (HV.out.hd i a1 a2).1
    exact refWorn_eq h s.c HN.out hb hN1 l hl i a1 a2 (HA.out.words.hd_n HN.out hl a1 a2) (by omega) HG.out (by omega)
  have hWs : Hid (∀ i : Nat, 1 ≤ i → i ≤ S → s.ward.there (l : Nat) (i : Nat) = true) := Lib.hid fun i a b => WardS.there_iff.2 ⟨by omega, by rw [HA.out.ward.lv]; exact HLS.out, by omega, by rw [HA.out.ward.sl, HN.out.slo]; omega⟩
  have LKQ : Hid (∀ (M' : Mm) (w : World) (i : Nat), Has σ M' w → IsWard M' s.wp s.ward → Calls Try.prog 29 #[.pointer (some ⟨s.wp, 0, none⟩), .int .i64 (l : Nat), .int .i64 (i : Nat)] w fun r w' => r = .returned (.int .u64 (s.ward.link (l : Nat) (i : Nat))) ∧ Has σ M' w') := Lib.hid fun M' w i h hW => wardLink_eq h hW _ _ (by rw [HA.out.ward.sl, HN.out.slo]; omega) (by have := HA.out.ward.gens (l : Nat) (i : Nat); omega)
  have LEQ : Hid (∀ (M' : Mm) (w : World) (i : Nat), Has σ M' w → IsWard M' s.wp s.ward → 1 ≤ i → i ≤ S → Calls Try.prog 28 #[.pointer (some ⟨s.wp, 0, none⟩), .int .i64 (l : Nat), .int .u64 (s.ward.link (l : Nat) (i : Nat))] w fun r w' => r = .returned (.bool ((g.lv l).held i)) ∧ Has σ M' w') := Lib.hid fun M' w i h hW a b => by
    have := leads_eq h hW (l : Nat) i (hWs.out i a b) (by rw [HA.out.ward.sl, HN.out.slo]; omega) (by have := HA.out.ward.gens (l : Nat) (i : Nat); omega)
    have e : decide (0 < valE (l : Nat) (i : Nat) s.ward.held) = (g.lv l).held i := by
      rw [HA.out.ward.held l i HLS.out a (by rw [HN.out.slo]; omega)]
      cases (g.lv l).held i <;> rfl
    rw [e] at this
    exact this
  have hN10 : s.mem.N ≤ 10000 := by omega
  clear hN1 hN2 hWs hgens
  unfold confV at *
  go_enter Try.func23, Try.ntmps23
  go_upto_region 2 with (first
    | (go_at_call 41; refine (PL.out _ h).mono ?_; clear h; rintro _ w ⟨rfl, h⟩)
    | (go_at_call 42; refine (CF.out _ h).mono ?_; clear h; rintro _ w ⟨rfl, h⟩)
    | ((with_reducible show wpList _ _ _ ({ dst := _, op := Op.alloc 24, type := _, pos := _, after := _, guard := _ } :: _) _ _); refine wpList_alloc_has h rfl 24 rfl _ zconf ?_; clear h; intro bc w h hnc; try simp only [Act.put, List.setIfInBounds_toArray, List.set_cons_zero, List.set_cons_succ])
    | ((with_reducible show wpList _ _ _ ({ dst := _, op := Op.store 24 _ _, type := _, pos := _, after := _, guard := _ } :: _) _ _); refine wpList_storeAll_has (cells := ints .i64 14 s.c) h rfl 24 _ _ rfl rfl rfl (Mm.upd_same _ _ _) rfl hz.symm rfl (by rw [hz]; kernel_rfl) O14 ?_; clear h; intro w h))
  rw [Mm.upd_upd] at h
  have hle1 := Mm.le_upd' hnc (.cells (ints .i64 14 s.c) 24)
  have hbc := Mm.upd_same M bc (.cells (ints .i64 14 s.c) 24)
  generalize M.upd bc _ = M1 at h hle1 hbc
  clear PL CF O14 hnc
  generalize ints .i64 14 s.c = row at *
  obtain ⟨lab1, hM1⟩ := MK.out M1 hle1
  have ME := Lib.hid (fun (w : World) (h : Has σ M1 w) => mMem_eq h hM1)
  have WO := Lib.hid (fun (w : World) (h : Has σ M1 w) => memWords_eq h hM1.mem (by omega))
  have eR : s.mem.row = .cells (ints .u64 s.mem.N s.mem.f) 40 := rfl
  rw [eR] at WO
  generalize s.mem.N = N at *
  generalize s.mem.f = ff at *
  generalize ints .u64 N ff = wrow at *
  clear hM1 eR
  go_upto_region 3 with (first
    | (go_at_call 10; refine (ME.out _ h).mono ?_; clear h; rintro _ w ⟨rfl, h⟩)
    | (go_at_call 11; refine (WO.out _ h).mono ?_; clear h; rintro _ w ⟨bw, M3, rfl, h, hle3, hnw, hbw⟩))
  replace hbc := hle3 _ _ hbc
  have CH := Lib.hid (fun (w : World) (h : Has σ M3 w) => CHQ.out M3 w bw h hbw)
  clear ME WO CHQ hnw
  go_upto_region 4 with (first
    | ((with_reducible show wpList _ _ _ ({ dst := _, op := Op.load 24 _, type := _, pos := _, after := _, guard := _ } :: _) _ _); refine wpList_agg_has h rfl 24 _ rfl rfl hbc hx hz Try.underlying24 rfl (by kernel_rfl) ?_; try simp only [Act.put, List.setIfInBounds_toArray, List.set_cons_zero, List.set_cons_succ])
    | (go_at_call 21; refine (CH.out _ h).mono ?_; clear h; rintro _ w ⟨v, rfl, M5, h, hle5, hown⟩))
  clear CH
  replace hbc := hle5 _ _ hbc
  replace hbw := hle5 _ _ hbw
  have hle15 := Mm.le_trans hle1 (Mm.le_trans hle3 hle5)
  obtain ⟨lab5, hM5⟩ := MK.out M5 hle15
  have WD := Lib.hid (fun (w : World) (h : Has σ M5 w) => mWarden_eq h hM5)
  have hW5 := hM5.ward
  have LK5 := Lib.hid (fun (w : World) (i : Nat) (h : Has σ M5 w) => LKQ.out M5 w i h hW5)
  have LE5 := Lib.hid (fun (w : World) (i : Nat) (h : Has σ M5 w) => LEQ.out M5 w i h hW5)
  have CL5 := Lib.hid (fun (w : World) (i : Nat) (h : Has σ M5 w) => CLQ.out M5 w bw i h hbw)
  have WO5 := Lib.hid (fun (w : World) (i : Nat) (h : Has σ M5 w) => WOQ.out M5 w bw i h hbw)
  have HL5 := Lib.hid hle15
  clear hM5 hW5 LKQ LEQ CLQ WOQ MK hle1 hle3 hle5 hle15 hN10 hbw
  obtain ⟨A, cap, rfl⟩ := hown.form
  have hrd := Lib.hid hown
  clear hown
  have FB := Lib.hid (free_busy HV.out.nodup HV.out.mem)
  have hql : Q.length = Q.length := rfl
  generalize hqn : Q.length = qn at *
  have QN := Lib.hid hqn
  clear hqn hql
  go_upto_region 8 with (fail)
  go_loopw [10, 11] (fun i _ wr => ∃ j : Nat, j ≤ qn ∧ i = .int .i64 (j : Nat) ∧ Has σ M5 wr) (fun i _ _ => qn - (intOf i).toNat)
  case atStart => exact ⟨0, Nat.zero_le _, rfl, h⟩
  case round =>
    clear h w
    obtain ⟨w, rfl⟩ : ∃ x : World, x = wr := ⟨_, rfl⟩
    obtain ⟨j, hj, rfl, h⟩ := hrel
    by_cases hlt : j < qn
    · obtain ⟨gb, cc, hvv⟩ := Own.pos hrd.out (by omega)
      cases hvv
      obtain ⟨cur, hgb, hcur⟩ := Own.at_ hrd.out
      obtain ⟨x, hxq⟩ : ∃ x, Q[j]? = some x := ⟨_, List.getElem?_eq_getElem (by rw [QN.out]; exact hlt)⟩
      have hxm : x ∈ Q := List.mem_of_getElem? hxq
      have ex : cur[j]? = some (.int .i64 (x : Nat)) := hcur j _ (by simp [natv, hxq])
      obtain ⟨a1, a2, a3⟩ := (HV.out.mem x).1 hxm
      have a4 := (HV.out.off x a1 a2 (.inl a3)).1
      have LKx := Lib.hid (fun (w : World) (h : Has σ M5 w) => LK5.out w x h)
      have LEx := Lib.hid (fun (w : World) (h : Has σ M5 w) => LE5.out w x h a1 a2)
      rw [a4] at LEx
      have CLx := Lib.hid (fun (w : World) (h : Has σ M5 w) => CL5.out w x h hxm)
      have HC := Lib.hid hcur
      have HXQ := Lib.hid hxq
      clear a1 a2 a3 a4 hxm hcur hxq
      generalize s.ward.link (l : Nat) (x : Nat) = lk at LKx LEx
      go_upto_region 10 with (fail)
      refine wp_region_class (Has σ M5) (by kernel_rfl) (by kernel_rfl) h.drew ?_
      clear h
      repeat (first
        | go_big_quiet_skip
        | (go_big_quiet_want; first
          | (refine quiet_load_has 3 _ rfl rfl hgb ex Try.underlying3 rfl ?_; simp only [Act.put, List.setIfInBounds_toArray, List.set_cons_zero, List.set_cons_succ]; go_big_quiet_on)
          | (refine quiet_agg_has 24 _ rfl rfl hbc hx hz Try.underlying24 rfl (by kernel_rfl) ?_; simp only [Act.put, List.setIfInBounds_toArray, List.set_cons_zero, List.set_cons_succ]; go_big_quiet_on)
          | (go_big_quiet_op; first | go_big_quiet_on | go_big_quiet_call (first | with_reducible exact fun _ => rfl | with_reducible exact WD.out _ | with_reducible exact LKx.out _ | with_reducible exact LEx.out _ | with_reducible exact CLx.out _))))
      refine wpQuiet_nil ?_
      try clear w
      intro w h
      go_upto_region 13 with (fail)
      clear LKx LEx CLx
      go_loopw [11] (fun u wr => ∃ k : Nat, k ≤ j ∧ u = .int .i64 (k : Nat) ∧ Has σ M5 wr) (fun u _ => j - (intOf u).toNat)
      case atStart => exact ⟨0, Nat.zero_le _, rfl, h⟩
      case round =>
        clear h w
        obtain ⟨w, rfl⟩ : ∃ x : World, x = wr := ⟨_, rfl⟩
        obtain ⟨k, hk, rfl, h⟩ := hrel
        by_cases hlt2 : k < j
        · obtain ⟨y, hyq⟩ : ∃ y, Q[k]? = some y := ⟨_, List.getElem?_eq_getElem (by rw [QN.out]; omega)⟩
          have ey : cur[k]? = some (.int .i64 (y : Nat)) := HC.out k _ (by simp [natv, hyq])
          have hyx : ((y : Int) == (x : Int)) = false := by
            have hne : y ≠ x := fun e => by
              have h1 := HV.out.nodup
              have h2 := (List.getElem?_inj (by rw [QN.out]; omega) h1).1 (hyq.trans (by rw [e]; exact HXQ.out.symm))
              omega
            exact beq_eq_false_iff_ne.2 (by omega)
          have HK := Lib.hid hlt2
          clear hlt2 hyq hk
          go_upto_region 15 with (fail)
          refine wp_region_class (Has σ M5) (by kernel_rfl) (by kernel_rfl) h.drew ?_
          clear h
          repeat (first
            | go_big_quiet_skip
            | (go_big_quiet_want; first
              | (refine quiet_load_has 3 _ rfl rfl hgb ey Try.underlying3 rfl ?_; simp only [Act.put, List.setIfInBounds_toArray, List.set_cons_zero, List.set_cons_succ]; go_big_quiet_on)
              | (refine quiet_load_has 3 _ rfl rfl hgb ex Try.underlying3 rfl ?_; simp only [Act.put, List.setIfInBounds_toArray, List.set_cons_zero, List.set_cons_succ]; go_big_quiet_on)
              | (go_big_quiet_op; first | go_big_quiet_on | go_big_quiet_call (first | with_reducible exact fun _ => rfl))))
          refine wpQuiet_nil ?_
          try clear w
          intro w h
          go_wp2
          go_roundw
          case rel => exact ⟨k + 1, by have := HK.out; omega, by go_num, h⟩
          case measure => have := HK.out; simp [intOf]; omega
        · obtain rfl : k = j := by omega
          have hlt3 : ¬ k < k := by omega
          clear ex
          go_wp2
          go_roundw
          case rel => exact ⟨k + 1, by omega, by go_num, h⟩
          case measure => simp [intOf]; omega
    · obtain rfl : j = qn := by omega
      clear CL5 hlt hj
      have hS60 : S ≤ 60 := by omega
      go_upto_region 18 with (fail)
      go_loopw [9, 12] (fun u v wr => ∃ i : Nat, i ≤ S ∧ u = .int .i64 ((j + busy o i : Nat) : Int) ∧ v = .int .i64 ((i + 1 : Nat) : Int) ∧ Has σ M5 wr) (fun u v _ => S + 1 - (intOf v).toNat)
      case atStart => exact ⟨0, Nat.zero_le _, rfl, rfl, h⟩
      case round =>
        clear h w
        obtain ⟨w, rfl⟩ : ∃ x : World, x = wr := ⟨_, rfl⟩
        obtain ⟨i, hi, rfl, rfl, h⟩ := hrel
        by_cases hlt2 : i < S
        · have LKx := Lib.hid (fun (w : World) (h : Has σ M5 w) => LK5.out w (i + 1) h)
          have LEx := Lib.hid (fun (w : World) (h : Has σ M5 w) => LE5.out w (i + 1) h (by omega) (by omega))
          have WOx := Lib.hid (fun (w : World) (h : Has σ M5 w) => WO5.out w (i + 1) h (by omega) (by omega))
          have hdl := (HV.out.hd (i + 1) (by omega) (by omega)).1
          have eg : genOf ((g.lv l).hd (i + 1)) = (g.lv l).hd (i + 1) / 4 := by rw [genOf_eq]; omega
          have v1 := HV.out.on (i + 1) (by omega) (by omega)
          have v2 := HV.out.off (i + 1) (by omega) (by omega)
          have v3 := HV.out.none (i + 1) (by omega) (by omega)
          have v4 := HR.out (i + 1) (by omega) (by omega)
          rw [eg] at v2 v3
          have hbu := busy_le o i
          have g18 : ((i + 1 : Nat) : Int) ≤ (S : Int) := by omega
          have w1 : IntKind.i64.wrap (((j + busy o i : Nat) : Int) + 1) = ((j + busy o i + 1 : Nat) : Int) := by rw [show (((j + busy o i : Nat) : Int) + 1) = ((j + busy o i + 1 : Nat) : Int) by omega]; exact IntWalk.i64_in _ (by omega)
          have w2 : IntKind.i64.wrap (((i + 1 : Nat) : Int) + 1) = ((i + 1 + 1 : Nat) : Int) := by rw [show (((i + 1 : Nat) : Int) + 1) = ((i + 1 + 1 : Nat) : Int) by omega]; exact IntWalk.i64_in _ (by omega)
          have HI := Lib.hid hlt2
          generalize s.ward.link (l : Nat) ((i + 1 : Nat) : Int) = lk at LKx LEx
          by_cases hf : (o (i + 1)).1 = 1
          · obtain ⟨q1, q2, q3⟩ := v2 (.inl hf)
            have hbz : Hid (busy o (i + 1) = busy o i) := Lib.hid (by show busy o i + (if (o (i + 1)).1 = 1 then 0 else 1) = _; rw [if_pos hf]; rfl)
            rw [decide_eq_false (by omega : ¬ gens ≤ (g.lv l).hd (i + 1) / 4)] at WOx
            rw [q1] at LEx
            clear v1 v2 v3 v4 q1 q2 q3 hf eg hdl hbu hlt2 hi w1
            generalize hnb : j + busy o i = nb at *
            have HNB := Lib.hid hnb
            clear hnb
            generalize hiz : ((i + 1 : Nat) : Int) = iz at *
            have HIZ := Lib.hid hiz
            clear hiz
            go_wp2_with (first
              | (with_reducible show wpList _ _ _ ({ dst := _, op := Op.load 3 _, type := _, pos := _, after := _, guard := _ } :: _) _ _; refine wpList_load1_has h rfl 3 _ rfl rfl hbc r10 Try.underlying3 rfl ?_)
              | ((with_reducible show wpList _ _ _ ({ dst := _, op := Op.load 24 _, type := _, pos := _, after := _, guard := _ } :: _) _ _); refine wpList_agg_has h rfl 24 _ rfl rfl hbc hx hz Try.underlying24 rfl (by kernel_rfl) ?_; try simp only [Act.put, List.setIfInBounds_toArray, List.set_cons_zero, List.set_cons_succ])
              | (go_at_call 27; refine (WD.out _ h).mono ?_; clear h; rintro _ w ⟨rfl, h⟩)
              | (go_at_call 29; refine (LKx.out _ h).mono ?_; clear h; rintro _ w ⟨rfl, h⟩)
              | (go_at_call 28; refine (LEx.out _ h).mono ?_; clear h; rintro _ w ⟨rfl, h⟩)
              | (go_at_call 47; refine (WOx.out _ h).mono ?_; clear h; rintro _ w ⟨rfl, h⟩))
            go_roundw
            case rel => exact ⟨i + 1, by have := HI.out; omega, by rw [hbz.out, HNB.out], by go_num, h⟩
            case measure => rw [← HIZ.out]; have := HI.out; simp [intOf]; omega
          · have hbz : Hid (busy o (i + 1) = busy o i + 1) := Lib.hid (by show busy o i + (if (o (i + 1)).1 = 1 then 0 else 1) = _; rw [if_neg hf])
            cases hh : (g.lv l).held (i + 1)
            · have q3 : gens ≤ (g.lv l).hd (i + 1) / 4 := by
                rcases (by omega : (o (i + 1)).1 = 0 ∨ (o (i + 1)).1 = 2) with h0 | h0
                · rcases v3 h0 with h1 | h1
                  · rw [hh] at h1; cases h1
                  · exact h1
                · rw [v1 (.inl h0)] at hh; cases hh
              rw [decide_eq_true q3] at WOx
              rw [hh] at LEx
              clear v1 v2 v3 v4 q3 hf eg hdl hbu hlt2 hi hh
              generalize hnb : j + busy o i = nb at *
              have HNB := Lib.hid hnb
              clear hnb
              generalize hiz : ((i + 1 : Nat) : Int) = iz at *
              have HIZ := Lib.hid hiz
              clear hiz
              go_wp2_with (first
                | (with_reducible show wpList _ _ _ ({ dst := _, op := Op.load 3 _, type := _, pos := _, after := _, guard := _ } :: _) _ _; refine wpList_load1_has h rfl 3 _ rfl rfl hbc r10 Try.underlying3 rfl ?_)
                | ((with_reducible show wpList _ _ _ ({ dst := _, op := Op.load 24 _, type := _, pos := _, after := _, guard := _ } :: _) _ _); refine wpList_agg_has h rfl 24 _ rfl rfl hbc hx hz Try.underlying24 rfl (by kernel_rfl) ?_; try simp only [Act.put, List.setIfInBounds_toArray, List.set_cons_zero, List.set_cons_succ])
                | (go_at_call 27; refine (WD.out _ h).mono ?_; clear h; rintro _ w ⟨rfl, h⟩)
                | (go_at_call 29; refine (LKx.out _ h).mono ?_; clear h; rintro _ w ⟨rfl, h⟩)
                | (go_at_call 28; refine (LEx.out _ h).mono ?_; clear h; rintro _ w ⟨rfl, h⟩)
                | (go_at_call 47; refine (WOx.out _ h).mono ?_; clear h; rintro _ w ⟨rfl, h⟩))
              go_roundw
              case rel => exact ⟨i + 1, by have := HI.out; omega, by rw [hbz.out, ← HNB.out]; exact congrArg (Value.int IntKind.i64) (by omega), by go_num, h⟩
              case measure => rw [← HIZ.out]; have := HI.out; simp [intOf]; omega
            · rw [hh] at LEx
              clear v1 v2 v3 v4 hf eg hdl hbu hlt2 hi hh
              generalize hnb : j + busy o i = nb at *
              have HNB := Lib.hid hnb
              clear hnb
              generalize hiz : ((i + 1 : Nat) : Int) = iz at *
              have HIZ := Lib.hid hiz
              clear hiz
              go_wp2_with (first
                | (with_reducible show wpList _ _ _ ({ dst := _, op := Op.load 3 _, type := _, pos := _, after := _, guard := _ } :: _) _ _; refine wpList_load1_has h rfl 3 _ rfl rfl hbc r10 Try.underlying3 rfl ?_)
                | ((with_reducible show wpList _ _ _ ({ dst := _, op := Op.load 24 _, type := _, pos := _, after := _, guard := _ } :: _) _ _); refine wpList_agg_has h rfl 24 _ rfl rfl hbc hx hz Try.underlying24 rfl (by kernel_rfl) ?_; try simp only [Act.put, List.setIfInBounds_toArray, List.set_cons_zero, List.set_cons_succ])
                | (go_at_call 27; refine (WD.out _ h).mono ?_; clear h; rintro _ w ⟨rfl, h⟩)
                | (go_at_call 29; refine (LKx.out _ h).mono ?_; clear h; rintro _ w ⟨rfl, h⟩)
                | (go_at_call 28; refine (LEx.out _ h).mono ?_; clear h; rintro _ w ⟨rfl, h⟩)
                | (go_at_call 47; refine (WOx.out _ h).mono ?_; clear h; rintro _ w ⟨rfl, h⟩))
              go_roundw
              case rel => exact ⟨i + 1, by have := HI.out; omega, by rw [hbz.out, ← HNB.out]; exact congrArg (Value.int IntKind.i64) (by omega), by go_num, h⟩
              case measure => rw [← HIZ.out]; have := HI.out; simp [intOf]; omega
        · obtain rfl : i = S := by omega
          have g19 : ¬ ((i + 1 : Nat) : Int) ≤ (i : Int) := by omega
          have g20 : ¬ i + 1 ≤ i := by omega
          have g21 : ((j + busy o i : Nat) : Int) = (i : Int) := by rw [FB.out]
          rw [g21]
          clear g21 WO5 LE5 LK5 WD
          have r10' : row[10]? = some (.int .i64 (i : Nat)) := r10
          go_wp2_with (first
            | (with_reducible show wpList _ _ _ ({ dst := _, op := Op.load 3 _, type := _, pos := _, after := _, guard := _ } :: _) _ _; refine wpList_load1_has h rfl 3 _ rfl rfl hbc r10' Try.underlying3 rfl ?_))
          go_ret
          exact ⟨rfl, M5, h, HL5.out⟩
end
section
open Go.RowKit
set_option linter.unusedVariables false
set_option linter.unusedSimpArgs false
set_option linter.unnecessarySimpa false
section
variable {α : Type} {sz : Nat} {enc : α → List Value}
theorem flat_split (L : List α) {k : Nat} (hk : k < L.length) : L.flatMap enc = (L.take k).flatMap enc ++ enc L[k] ++ (L.drop (k + 1)).flatMap enc := by
  rw [List.append_assoc, ← List.flatMap_cons, ← List.flatMap_append, ← List.drop_eq_getElem_cons hk, List.take_append_drop]
theorem flat_set (L : List α) {k : Nat} (hk : k < L.length) (y : α) : (L.set k y).flatMap enc = (L.take k).flatMap enc ++ enc y ++ (L.drop (k + 1)).flatMap enc := by
  rw [List.set_eq_take_append_cons_drop, if_pos hk]
  simp [List.flatMap_append]
end
/-- One element of a row of the call's own is stored. -/
theorem Own.putRow {α : Type} {enc : α → List Value} {σ w : World} {M0 M : Mm} {e : TypeId} {sz n g cap : Nat} {L : List α} (hen : ∀ x, (enc x).length = sz) (h : Has σ M w) (hle : M0.le M) (hown : Own M0 M e sz (.slice (some ⟨g, 0, none⟩) n cap) n (L.flatMap enc)) {k : Nat} (hk : k < L.length) (y : α) (hL : L.length = n) :
    ∃ M', Has σ M' (w.setCells g (k * sz) (enc y)) ∧ M0.le M' ∧ Own M0 M' e sz (.slice (some ⟨g, 0, none⟩) n cap) n ((L.set k y).flatMap enc) := by
  obtain ⟨hl, ⟨hv, _⟩ | ⟨g', cap', cur, hv, hg, hh, hc, hm, hs, ht⟩⟩ := hown
  · cases hv
  · cases hv
    have hcur : cur.toList = (L.take k).flatMap enc ++ enc L[k] ++ ((L.drop (k + 1)).flatMap enc ++ cur.toList.drop (n * sz)) := by
      conv => lhs; rw [← List.take_append_drop (n * sz) cur.toList, ht, flat_split L hk]
      simp
    have hB : Blk w g cur e := h.at_ g _ hh
    have hlen : ((L.take k).flatMap enc).length = k * sz := by
      rw [flat_length hen, List.length_take, Nat.min_eq_left (by omega)]
    have hB' : Blk w g ((L.take k).flatMap enc ++ enc L[k] ++ ((L.drop (k + 1)).flatMap enc ++ cur.toList.drop (n * sz))).toArray e := by
      rw [← hcur]
      simpa using hB
    have hx := blk_setCells g e (enc y) (k * sz) w ((L.take k).flatMap enc) (enc L[k]) ((L.drop (k + 1)).flatMap enc ++ cur.toList.drop (n * sz)) hlen (by rw [hen, hen]) hB'
    have hlen' : ((L.set k y).flatMap enc).length = n * sz := by rw [flat_length hen, List.length_set, hL]
    refine ⟨_, h.put (only_setCells g _ _ w) hx, Mm.le_upd hle hg _, hlen', .inr ⟨g, cap, _, rfl, hg, Mm.upd_same _ _ _, hc, hm, ?_, ?_⟩⟩
    · have h1 : cur.toList.length = cap * sz := by simpa using hs
      rw [hcur] at h1
      simp only [List.length_append, hen] at h1
      simp only [List.size_toArray, List.length_append, hen]
      exact h1
    · rw [flat_set L hk] at hlen' ⊢
      rw [← hlen']
      simp only [← List.append_assoc]
      rw [List.take_left]
section
variable {P : Program} {ops : Array Oper} {rest : List Oper} {op : Oper} {a : Act} {σ w : World} {M M0 : Mm} {Q : Exit → Act → World → Prop}
theorem wpList_putRow {α : Type} {enc : α → List Value} {e : TypeId} {sz n g cap : Nat} {L : List α} (hen : ∀ x, (enc x).length = sz) (h : Has σ M w) (hle : M0.le M) (hown : Own M0 M e sz (.slice (some ⟨g, 0, none⟩) n cap) n (L.flatMap enc)) (hL : L.length = n)
    (hgd : op.guard = none) (t : TypeId) (x y : Operand) (ho : op.op = .store t x y) (hdst : op.dst = none) {k : Nat} (hx : a.eval x = .pointer (some ⟨g, k * sz, none⟩)) {cells : Array Value} (hy : a.eval y = .agg cells) (hk : k < n) (z : α) (hz : cells.toList = enc z) (h1 : ∀ u ∈ enc z, u.oneCell' = true)
    (hi : (P.info? t).map (·.size) = some sz)
    (hK : ∀ w' M', Has σ M' w' → M0.le M' → Own M0 M' e sz (.slice (some ⟨g, 0, none⟩) n cap) n ((L.set k z).flatMap enc) → wpList P ops Q rest a w') : wpList P ops Q (op :: rest) a w := by
  obtain ⟨M', hh, hle', hown'⟩ := Own.putRow hen h hle hown (k := k) (by omega) z hL
  have hsz : cells.size = sz := by have := congrArg List.length hz; simpa [hen] using this
  refine wpList_store_mid hgd t x y ho g (k * sz) cells hx hy ?_ (by rw [hi, hsz]) (by rw [Array.all_eq_true_iff_forall_mem]; exact fun u hu => h1 u (by rw [← hz]; simpa using hu)) ?_
  · intro j hj
    obtain ⟨_, ⟨hv, _⟩ | ⟨g', cap', cur, hv, hg, hM, hc, hm, hs, ht⟩⟩ := hown
    · cases hv
    · cases hv
      have : k * sz + j < cur.size := by
        rw [hs]
        have : (k + 1) * sz ≤ cap * sz := Nat.mul_le_mul_right _ (by omega)
        rw [Nat.add_mul, Nat.one_mul] at this
        omega
      exact ⟨by rw [h.cell hM, Array.getElem?_eq_getElem this]; rfl, h.free hM _⟩
  · rw [hdst, hz]
    exact hK _ _ hh hle' hown'
/-- One cell of a row of the call's own is stored. -/
theorem wpList_putOne {e : TypeId} {n g cap : Nat} {xs : List Value} (h : Has σ M w) (hle : M0.le M) (hown : Own M0 M e 1 (.slice (some ⟨g, 0, none⟩) n cap) n xs)
    (hgd : op.guard = none) (t : TypeId) (x y : Operand) (ho : op.op = .store t x y) (hdst : op.dst = none) {k : Nat} (hx : a.eval x = .pointer (some ⟨g, k, none⟩)) (hk : k < n) {u : Value} (hy : a.eval y = u) (h1 : u.oneCell' = true) (hi : (P.info? t).map (·.size) = some 1)
    (hK : ∀ w' M', Has σ M' w' → M0.le M' → Own M0 M' e 1 (.slice (some ⟨g, 0, none⟩) n cap) n (xs.set k u) → wpList P ops Q rest a w') : wpList P ops Q (op :: rest) a w := by
  obtain ⟨cur, hg, hlt, hown', hng⟩ := hown.put k u
  refine wpList_store1_has h (by simp [Region.wanted, hgd]) t x y ho hdst hx hg (by omega) (by rw [hy]; exact h1) hi ?_
  intro w' h'
  rw [hy] at h'
  exact hK w' _ h' (Mm.le_upd hle hng _) hown'
end
def learn (K M M' : Mm) : Mm := fun c => match M c with | none => M' c | some _ => K c
def stable (K : Mm) (labK : Nat → Nat) : Mm := fun c => if labK c = 0 then K c else none
/-- What is known, but for a row of the law's. -/
def outK (K M : Mm) (labK : Nat → Nat) (j : Nat) : Mm := fun c => match K c with | none => M c | some _ => if labK c = j then none else M c
section
variable {K M M' K' : Mm} {lab lab' labK labK' : Nat → Nat} {p n sz j : Nat} {s : MachS} {e : TypeId} {v : Value} {xs : List Value}
theorem Mach.learn (hM : Mach M lab p s) (hB : Base K M lab) (hle : M.le M') : ∃ lab', Mach M' lab' p s ∧ Base (learn K M M') M' lab' :=
  hM.more hB hle fun c o hc => by
    unfold Go.Proofs.Ytefjjagejgeedaa.learn at hc
    cases hm : M c with
    | none => rw [hm] at hc; exact ⟨hc, .inr rfl⟩
    | some x => rw [hm] at hc; exact ⟨hle _ _ (hB c o hc).1, .inl hc⟩
theorem learn_kp (hB : K.le M) (M' : Mm) (labK : Nat → Nat) : Kp Non K labK (learn K M M') (relab K labK fun _ => 0) := fun c o hc _ => by
  unfold learn relab
  rw [hB c o hc, hc]
  exact ⟨rfl, rfl⟩
theorem learn_rd (hB : K.le M) (labK : Nat → Nat) (ho : Own M M' e sz v n xs) : Rd (stable (learn K M M') (relab K labK fun _ => 0)) sz v n xs :=
  ho.rd_in fun c x hn hx => by
    have hk : K c = none := by
      cases h : K c with
      | none => rfl
      | some o => rw [hB c o h] at hn; cases hn
    unfold stable learn relab
    rw [hn, hk]
    exact hx
theorem stable_le (K : Mm) (labK : Nat → Nat) : (stable K labK).le K := fun c o h => by unfold stable at h; split at h; exact h; cases h
theorem stable_kp {A : Nat → Prop} (h : Kp A K labK K' labK') (hA : ¬ A 0) : (stable K labK).le (stable K' labK') := fun c o hc => by
  unfold stable at hc ⊢
  split at hc
  · rename_i h0
    obtain ⟨a, b⟩ := h.get hc h0 hA
    rw [if_pos b]; exact a
  · cases hc
theorem outK_le (K M : Mm) (labK : Nat → Nat) (j : Nat) : (outK K M labK j).le M := fun c o h => by
  unfold outK at h
  split at h
  · exact h
  · split at h
    · cases h
    · exact h
theorem outK_of {c : Nat} {o : Obj} (hB : K.le M) (hc : K c = some o) (hl : labK c ≠ j) : outK K M labK j c = some o := by
  unfold outK
  rw [hc]
  simp only [if_neg hl]
  exact hB _ _ hc
theorem Row.up (h : Row K labK j e sz v n xs) (hB : K.le M) : Own (outK K M labK j) M e sz v n xs := by
  obtain ⟨hl, ⟨hv, h0⟩ | ⟨g, cap, cur, hv, hg, hh, r⟩⟩ := h
  · exact ⟨hl, .inl ⟨hv, h0⟩⟩
  · have hgk : labK g = j := by
      by_cases e : labK g = j
      · exact e
      · rw [Mm.out_of hh e] at hg; cases hg
    refine ⟨hl, .inr ⟨g, cap, cur, hv, ?_, hB _ _ hh, r⟩⟩
    unfold outK
    rw [hh]
    simp only [if_pos hgk]
/-- A row of the law's is another one. -/
theorem Mach.rowTo (hM : Mach M lab p s) (hB : Base K M lab) (hle : (outK K M labK j).le M') (ho : Own (outK K M labK j) M' e sz v n xs) : ∃ lab' K' labK', Mach M' lab' p s ∧ Base K' M' lab' ∧ Kp (fun k => k = j) K labK K' labK' ∧ Row K' labK' j e sz v n xs := by
  have hO : ∀ c o, K c = some o → labK c ≠ j → outK K M labK j c = some o := fun c o hc hl => outK_of hB.le hc hl
  have hMO : ∀ c o, M c = some o → lab c ≠ 0 → outK K M labK j c = some o := fun c o hc hl => by
    have hk : K c = none := by
      cases h : K c with
      | none => rfl
      | some x => exact absurd (hB c x h).2 hl
    unfold outK
    rw [hk]
    exact hc
  obtain ⟨hl, ⟨hv, h0⟩ | ⟨g, cap, cur, hv, hg, hh, r⟩⟩ := ho
  · refine ⟨lab, K.out labK j, labK, hM.keep (A := fun k => k = 0) (fun c o hc hA => ⟨hle _ _ (hMO c o hc hA), rfl⟩) (fun k hk => by omega), fun c o hc => ?_, fun c o hc hA => ⟨Mm.out_of hc hA, rfl⟩, hl, .inl ⟨hv, h0⟩⟩
    have hl2 : labK c ≠ j := fun e => by rw [Mm.out_none e] at hc; cases hc
    have hc2 := Mm.out_le _ _ _ _ _ hc
    exact ⟨hle _ _ (hO c o hc2 hl2), (hB c o hc2).2⟩
  · have hne : ∀ c o, outK K M labK j c = some o → c ≠ g := fun c o hc e => by subst e; rw [hc] at hg; cases hg
    refine ⟨fun c => if c = g then 0 else lab c, fun c => if c = g then M' g else K.out labK j c, fun c => if c = g then j else labK c, hM.keep (A := fun k => k = 0) (fun c o hc hA => ⟨hle _ _ (hMO c o hc hA), if_neg (hne c o (hMO c o hc hA))⟩) (fun k hk => by omega), fun c o hc => ?_, fun c o hc hA => ?_, hl, .inr ⟨g, cap, cur, hv, ?_, ?_, r⟩⟩
    · by_cases h1 : c = g
      · subst h1; simp only [if_true] at hc ⊢; exact ⟨hc, trivial⟩
      · simp only [if_neg h1] at hc ⊢
        have hl2 : labK c ≠ j := fun e => by rw [Mm.out_none e] at hc; cases hc
        have hc2 := Mm.out_le _ _ _ _ _ hc
        exact ⟨hle _ _ (hO c o hc2 hl2), (hB c o hc2).2⟩
    · have h1 := hne c o (hO c o hc hA)
      simp only [if_neg h1]
      exact ⟨Mm.out_of hc hA, trivial⟩
    · exact Mm.out_none (by simp)
    · simp only [if_true]; exact hh
end
end
section
open Go.RowKit
set_option linter.unusedVariables false
set_option linter.unusedSimpArgs false
set_option linter.unnecessarySimpa false
section
variable {M : Mm} {A : Option Addr} {n c l k : Nat} {xs : List Value}
theorem Rd.from_ (h : Rd M 1 (.slice A n c) n xs) (hl : l ≤ n) : Rd M 1 (sliced A l n c 1) (n - l) (xs.drop l) := by
  obtain ⟨h1, A', c', e, hc, hA⟩ := h
  cases e
  refine ⟨by rw [List.length_drop, h1]; omega, _, _, rfl, by omega, fun h0 => ?_⟩
  obtain ⟨b, o, cs, t, fz, rfl, hb, hx⟩ := hA (by omega)
  refine ⟨b, o + l, cs, t, fz, ?_, hb, fun j u hu => ?_⟩
  · rw [if_neg (by omega)]
    simp [Addr.add_mid]
  · rw [List.getElem?_drop] at hu
    rw [Nat.add_assoc]
    exact hx _ _ hu
theorem Rd.upto (h : Rd M 1 (.slice A n c) n xs) (hk : k ≤ n) : Rd M 1 (sliced A 0 k c 1) k (xs.take k) := by
  obtain ⟨h1, A', c', e, hc, hA⟩ := h
  cases e
  refine ⟨by rw [List.length_take, h1]; omega, _, _, rfl, by omega, fun h0 => ?_⟩
  obtain ⟨b, o, cs, t, fz, rfl, hb, hx⟩ := hA (by omega)
  refine ⟨b, o, cs, t, fz, ?_, hb, fun j u hu => ?_⟩
  · rw [if_neg (by omega)]
    simp [Addr.add_mid]
  · rw [List.getElem?_take] at hu
    split at hu
    · exact hx _ _ hu
    · cases hu
theorem slice_from (hl : l ≤ n) (w : World) : (Instr.sliceAt 47 (.slice A n c) (some (.int .i64 (l : Nat))) none none).run Try.prog w = .ok (sliced A l n c 1) w := by
  have hu : Try.prog.underlying 47 = some (.slice (Try.prog.elem 47)) := by kernel_rfl
  have hs : ∀ w, (sizeOf (Try.prog.elem 47)).run Try.prog w = .ok 1 w := fun w => by kernel_rfl
  rw [run_sliceAt_slice _ _ _ _ _ _ hu, run_slice_l _ _ _ _ _ hu .i64 _ (by omega) (by omega), hs]
  simp only [Result.andThen_ok, Int.toNat_natCast]
theorem slice_upto (hk : k ≤ c) (w : World) : (Instr.sliceAt 47 (.slice A n c) none (some (.int .i64 (k : Nat))) none).run Try.prog w = .ok (sliced A 0 k c 1) w := by
  have hu : Try.prog.underlying 47 = some (.slice (Try.prog.elem 47)) := by kernel_rfl
  have hs : ∀ w, (sizeOf (Try.prog.elem 47)).run Try.prog w = .ok 1 w := fun w => by kernel_rfl
  rw [run_sliceAt_slice _ _ _ _ _ _ hu, run_slice_h _ _ _ _ _ hu .i64 _ (by omega) (by omega), hs]
  simp only [Result.andThen_ok, Int.toNat_natCast]
end
theorem natv_one (l : List Nat) : ∀ v ∈ natv l, v.oneCell' = true := by
  intro v hv
  simp only [natv, List.mem_map] at hv
  obtain ⟨x, _, rfl⟩ := hv
  rfl
theorem natv_get {l : List Nat} {i x : Nat} (h : l[i]? = some x) : (natv l)[i]? = some (.int .i64 (x : Nat)) := by simp [natv, h]
theorem results_cell_row2 {P : Program} {fn : Func} {p u v : Tmp} {ty : TypeId} (h : fn.results = #[.cell p ty, .tmp u, .tmp v]) (tmps : Array Value) (w : World) (g : Nat) (t : TypeId) (cs : Array Value) (fr : Nat × Nat) (d : TypeDesc)
    (hp : tmps.getD p undef = .pointer (some ⟨g, 0, none⟩)) (hg : w.heap[g]? = some (.cells cs t fr))
    (hu : P.underlying ty = some d) (hd : (match d with | .struct _ | .array _ _ => true | _ => false) = true) (hi : (P.info? ty).map (·.size) = some cs.size) :
    (results fn tmps).run P w = .ok (.tuple #[.agg cs, tmps.getD u undef, tmps.getD v undef]) w := by
  have hp' : tmps[p]?.getD undef = .pointer (some ⟨g, 0, none⟩) := by simpa using hp
  simp [results, h, hp', asAddr, run_loadVar_row w g t ty cs fr d hg hu hd hi]
theorem Has.box2 {σ w : World} {M : Mm} (h : Has σ M w) (o o' : Obj) : ∃ M', Has σ M' ((w.alloc o).alloc o') ∧ M.le M' ∧ M' w.heap.size = some o ∧ M' (w.heap.size + 1) = some o' ∧ M w.heap.size = none ∧ M (w.heap.size + 1) = none := by
  have ez : (w.alloc o).heap.size = w.heap.size + 1 := by simp
  have h1 := h.alloc o
  have h2 := h1.alloc o'
  have hf := h1.fresh
  rw [ez] at h2 hf
  exact ⟨_, h2, Mm.le_trans (Mm.le_upd' h.fresh _) (Mm.le_upd' hf _), Mm.le_upd' hf _ _ _ (Mm.upd_same _ _ _), Mm.upd_same _ _ _, h.fresh, Mm.none_of (Mm.le_upd' h.fresh o) hf⟩
theorem zF : (Try.prog.info? 49).bind (·.zero) = some (.agg #[.slice none 0 0, .slice none 0 0]) := by kernel_rfl
section
variable {σ w : World} {M : Mm}
set_option maxHeartbeats 1000000 in
/-- Take of an empty list. -/
theorem refTake_no (h : Has σ M w) {vL vG : Value} {m : Nat} {ys : List Value} (hL : Rd M 1 vL 0 []) (hG : Rd M 1 vG m ys) : Calls Try.prog 19 #[.agg #[vL, vG]] w fun r w' => r = .returned (.tuple #[.agg #[vL, vG], .int .i64 0, .int .i64 0]) ∧ Has σ M w' := by
  obtain ⟨A, cap, rfl⟩ := hL.form
  obtain ⟨B, cap2, rfl⟩ := hG.form
  clear hL hG
  have hx : (#[.slice A 0 cap, .slice B m cap2] : Array Value).extract 0 (0 + 2) = #[.slice A 0 cap, .slice B m cap2] := rfl
  have d0 : (#[.slice A 0 cap, .slice B m cap2] : Array Value)[0]? = some (.slice A 0 cap) := rfl
  go_enter Try.func19, Try.ntmps19
  go_upto_region 1 with (fail)
  obtain ⟨M2, hbx, hle, hb1, hb2, hn1, hn2⟩ := h.box2 (.cells #[.slice A 0 cap, .slice B m cap2] 49) (.cells #[.slice none 0 0, .slice none 0 0] 49)
  generalize (w.alloc _).alloc _ = wx at hbx ⊢
  have hne_b1_b2 : w.heap.size ≠ w.heap.size + 1 := Nat.ne_of_lt (Nat.lt_succ_self _)
  generalize w.heap.size + 1 = b2 at hb2 hn2 hne_b1_b2 ⊢
  generalize w.heap.size = b1 at hb1 hn1 hne_b1_b2 ⊢
  clear h
  try clear w
  have h := hbx
  clear hbx
  obtain ⟨w, rfl⟩ : ∃ x : World, x = wx := ⟨_, rfl⟩
  have hbM : M b2 = none := hn2
  go_wp2_with (first
    | (with_reducible show wpList _ _ _ ({ dst := _, op := Op.load 47 _, type := _, pos := _, after := _, guard := _ } :: _) _ _; refine wpList_load1_has h rfl 47 _ rfl rfl hb1 d0 Try.underlying47 rfl ?_)
    | ((with_reducible show wpList _ _ _ ({ dst := _, op := Op.load 49 _, type := _, pos := _, after := _, guard := _ } :: _) _ _); refine wpList_agg_has h rfl 49 _ rfl rfl hb1 hx rfl Try.underlying49 rfl (by kernel_rfl) ?_; try simp only [Act.put, List.setIfInBounds_toArray, List.set_cons_zero, List.set_cons_succ])
    | (with_reducible show wpList _ _ _ ({ dst := _, op := Op.store 49 _ _, type := _, pos := _, after := _, guard := _ } :: _) _ _; refine wpList_storeAll_has (cells := #[.slice A 0 cap, .slice B m cap2]) h rfl 49 _ _ rfl rfl rfl hb2 rfl rfl rfl (by kernel_rfl) rfl ?_; clear h; intro w h))
  exact bodyPost_ret (results_cell_row2 rfl _ _ _ _ _ _ _ rfl (h.at_ b2 _ (Mm.upd_same _ _ _)) Try.underlying49 rfl (by kernel_rfl)) rfl ⟨rfl, h.le (Mm.le_upd hle hbM _)⟩
set_option maxHeartbeats 1000000 in
set_option maxRecDepth 20000 in
/-- Take of a list that isn't empty. -/
theorem refTake_yes (h : Has σ M w) {vL vG : Value} {m x : Nat} {r gs : List Nat} (hL : Rd M 1 vL (r.length + 1) (natv (x :: r))) (hG : Rd M 1 vG m (natv gs)) (x1 : 1 ≤ x) (x2 : x ≤ m) (hm : m ≤ 1000) {gn : Nat} (hgn : gs[x - 1]? = some gn) : Calls Try.prog 19 #[.agg #[vL, vG]] w fun e w' => ∃ u, e = .returned (.tuple #[.agg #[u, vG], .int .i64 (x : Nat), .int .i64 (gn : Nat)]) ∧ Has σ M w' ∧ Rd M 1 u r.length (natv r) ∧ (∀ K : Mm, Rd K 1 vL (r.length + 1) (natv (x :: r)) → Rd K 1 u r.length (natv r)) := by
  obtain ⟨A, cap, rfl⟩ := hL.form
  obtain ⟨B, cap2, rfl⟩ := hG.form
  have hform : sliced A 1 (r.length + 1) cap 1 = .slice (if cap = 1 then A else A.map (·.add (1 * 1))) r.length (cap - 1) := by simp [sliced]
  have hfr : ∀ K : Mm, Rd K 1 (.slice A (r.length + 1) cap) (r.length + 1) (natv (x :: r)) → Rd K 1 (.slice (if cap = 1 then A else A.map (·.add (1 * 1))) r.length (cap - 1)) r.length (natv r) := fun K hK => by
    have := hK.from_ (l := 1) (by omega)
    rw [hform] at this
    simpa [natv] using this
  have HF := Lib.hid hfr
  have hu := hfr M hL
  obtain ⟨_, A', c', e, _, hA⟩ := hL
  cases e
  obtain ⟨b, o, cs, t, fz, rfl, hbl, hxs⟩ := hA (by omega)
  have ex : cs[o + 0]? = some (.int .i64 (x : Nat)) := hxs 0 _ (by simp [natv])
  rw [Nat.add_zero] at ex
  obtain ⟨_, B', c2', e2, _, hB⟩ := hG
  cases e2
  obtain ⟨bb, ob, cs2, t2, fz2, rfl, hbg, hgs⟩ := hB (by omega)
  have eg : cs2[ob + (x - 1)]? = some (.int .i64 (gn : Nat)) := hgs (x - 1) _ (natv_get hgn)
  have HU := Lib.hid hu
  have w1 : IntKind.i64.wrap ((x : Int) - 1) = ((x - 1 : Nat) : Int) := by rw [show (x : Int) - 1 = ((x - 1 : Nat) : Int) by omega]; exact IntWalk.i64_in _ (by omega)
  have l1 : x - 1 < m := by omega
  clear hfr hA hxs hB hgs hgn hu x1 x2 hform
  generalize x - 1 = x' at *
  generalize hr : r.length = n at *
  clear hr
  have hemap : (some (⟨b, o, none⟩ : Addr)).map (·.add (1 * 1)) = some ⟨b, o + 1, none⟩ := by simp [Addr.add_mid]
  rw [hemap] at HU HF
  clear hemap
  have d0 : (#[.slice (some ⟨b, o, none⟩) (n + 1) cap, .slice (some ⟨bb, ob, none⟩) m cap2] : Array Value)[0]? = some (.slice (some ⟨b, o, none⟩) (n + 1) cap) := rfl
  go_enter Try.func19, Try.ntmps19
  go_upto_region 1 with (fail)
  obtain ⟨M2, hbx, hle, hb1, hb2, hn1, hn2⟩ := h.box2 (.cells #[.slice (some ⟨b, o, none⟩) (n + 1) cap, .slice (some ⟨bb, ob, none⟩) m cap2] 49) (.cells #[.slice none 0 0, .slice none 0 0] 49)
  generalize (w.alloc _).alloc _ = wx at hbx ⊢
  have hne_b1_b2 : w.heap.size ≠ w.heap.size + 1 := Nat.ne_of_lt (Nat.lt_succ_self _)
  generalize w.heap.size + 1 = b2 at hb2 hn2 hne_b1_b2 ⊢
  generalize w.heap.size = b1 at hb1 hn1 hne_b1_b2 ⊢
  clear h
  try clear w
  have h := hbx
  clear hbx
  obtain ⟨w, rfl⟩ : ∃ x : World, x = wx := ⟨_, rfl⟩
  have hbM : M b2 = none := hn2
  have hbgM := hbg
  replace hbl := hle _ _ hbl
  replace hbg := hle _ _ hbg
  have hl2 : 0 < (#[.slice (some ⟨b, o, none⟩) (n + 1) cap, .slice (some ⟨bb, ob, none⟩) m cap2] : Array Value).size := by show 0 < 2; omega
  go_upto_region 5 with (first
    | (with_reducible show wpList _ _ _ ({ dst := _, op := Op.load 47 _, type := _, pos := _, after := _, guard := _ } :: _) _ _; refine wpList_load1_has h rfl 47 _ rfl rfl hb1 d0 Try.underlying47 rfl ?_)
    | (with_reducible show wpList _ _ _ ({ dst := _, op := Op.load 3 _, type := _, pos := _, after := _, guard := _ } :: _) _ _; refine wpList_load1_has h rfl 3 _ rfl rfl hbl ex Try.underlying3 rfl ?_)
    | (with_reducible show wpList _ _ _ ({ dst := _, op := Op.store 47 _ _, type := _, pos := _, after := _, guard := _ } :: _) _ _; refine wpList_store1_has h rfl 47 _ _ rfl rfl rfl hb1 hl2 rfl (by kernel_rfl) ?_; clear h; intro w h))
  have h9 : Has σ (M2.upd b1 (.cells #[.slice (if cap = 1 then some ⟨b, o, none⟩ else some ⟨b, o + 1, none⟩) n (cap - 1), .slice (some ⟨bb, ob, none⟩) m cap2] 49)) w := h
  clear h hl2 d0
  have h := h9
  clear h9
  generalize (if cap = 1 then some (⟨b, o, none⟩ : Addr) else some ⟨b, o + 1, none⟩) = A1 at *
  generalize cap - 1 = c1 at *
  have hx : (#[.slice A1 n c1, .slice (some ⟨bb, ob, none⟩) m cap2] : Array Value).extract 0 (0 + 2) = #[.slice A1 n c1, .slice (some ⟨bb, ob, none⟩) m cap2] := rfl
  have d1 : (#[.slice A1 n c1, .slice (some ⟨bb, ob, none⟩) m cap2] : Array Value)[1]? = some (.slice (some ⟨bb, ob, none⟩) m cap2) := rfl
  have n1 : bb ≠ b1 := Mm.ne_of hn1 hbgM
  have n2 : bb ≠ b2 := Mm.ne_of hn2 hbgM
  have kb1 : ((M2.upd b1 (.cells #[.slice A1 n c1, .slice (some ⟨bb, ob, none⟩) m cap2] 49)).drop b2) b1 = some (.cells #[.slice A1 n c1, .slice (some ⟨bb, ob, none⟩) m cap2] 49) := Mm.drop_of (Mm.upd_same _ _ _) hne_b1_b2
  have kbg : ((M2.upd b1 (.cells #[.slice A1 n c1, .slice (some ⟨bb, ob, none⟩) m cap2] 49)).drop b2) bb = some (.cells cs2 t2 fz2) := Mm.drop_of ((Mm.upd_ne n1).trans hbg) n2
  have kb2 : (M2.upd b1 (.cells #[.slice A1 n c1, .slice (some ⟨bb, ob, none⟩) m cap2] 49)) b2 = some (.cells #[.slice none 0 0, .slice none 0 0] 49) := (Mm.upd_ne hne_b1_b2.symm).trans hb2
  have HLE := Lib.hid (fun o o' => Mm.le_upd (Mm.le_upd hle hn1 o) hbM o')
  clear hbl hbg hb1 hb2 hle hn1 hn2 hbM hbgM n1 n2 ex
  have hF : ∀ w o', Has σ ((M2.upd b1 (.cells #[.slice A1 n c1, .slice (some ⟨bb, ob, none⟩) m cap2] 49)).upd b2 o') w → Has σ M w := fun w o' h => h.le (HLE.out _ _)
  replace hF := Lib.hid hF
  generalize M2.upd b1 (.cells #[.slice A1 n c1, .slice (some ⟨bb, ob, none⟩) m cap2] 49) = M3 at *
  refine wp_region_held_drew (S := Has σ (M3.drop b2)) (by kernel_rfl) (h.drew.le (Mm.drop_le _ _)) (fun hHeld => ?_)
  refine wpAnyH_take (i := 0) (v := _) rfl (by kernel_rfl) (by kernel_rfl) (by kernel_rfl) (fun _ _ _ h => h) (yields_agg rfl 49 _ rfl rfl kb1 hx rfl Try.underlying49 rfl (by kernel_rfl)) hHeld ?_
  try simp only [List.getElem_toArray, List.getElem_cons_succ, List.getElem_cons_zero, Act.put, List.setIfInBounds_toArray, List.set_cons_zero, List.set_cons_succ]
  refine wpAnyH_take (i := 1) (v := ?_) rfl (by kernel_rfl) (by kernel_rfl) (by kernel_rfl) (fun _ _ _ h => h) (Or.inl ⟨by rfl, ?_⟩) hHeld ?_
  rotate_left
  · (intro wz _; go_simp; try with_reducible rfl)
  try simp only [List.getElem_toArray, List.getElem_cons_succ, List.getElem_cons_zero, Act.put, List.setIfInBounds_toArray, List.set_cons_zero, List.set_cons_succ]
  refine wpAnyH_take (i := 2) (v := ?_) rfl (by kernel_rfl) (by kernel_rfl) (by kernel_rfl) (fun _ _ _ h => h) (Or.inl ⟨by rfl, ?_⟩) hHeld ?_
  rotate_left
  · (intro wz _; go_simp; try with_reducible rfl)
  try simp only [List.getElem_toArray, List.getElem_cons_succ, List.getElem_cons_zero, Act.put, List.setIfInBounds_toArray, List.set_cons_zero, List.set_cons_succ]
  refine wpAnyH_take (i := 3) (v := _) rfl (by kernel_rfl) (by kernel_rfl) (by kernel_rfl) (fun _ _ _ h => h) (yields_load1 rfl 47 _ rfl rfl kb1 d1 Try.underlying47 rfl) hHeld ?_
  try simp only [List.getElem_toArray, List.getElem_cons_succ, List.getElem_cons_zero, Act.put, List.setIfInBounds_toArray, List.set_cons_zero, List.set_cons_succ]
  refine wpAnyH_take (i := 4) (v := ?_) rfl (by kernel_rfl) (by kernel_rfl) (by kernel_rfl) (fun _ _ _ h => h) (Or.inl ⟨by rfl, ?_⟩) hHeld ?_
  rotate_left
  · (intro wz _; go_simp; try with_reducible rfl)
  try simp only [List.getElem_toArray, List.getElem_cons_succ, List.getElem_cons_zero, Act.put, List.setIfInBounds_toArray, List.set_cons_zero, List.set_cons_succ]
  refine wpAnyH_take (i := 5) (v := ?_) rfl (by kernel_rfl) (by kernel_rfl) (by kernel_rfl) (fun _ _ _ h => h) (Or.inl ⟨by rfl, ?_⟩) hHeld ?_
  rotate_left
  · (intro wz _; go_simp; try with_reducible rfl)
  try simp only [List.getElem_toArray, List.getElem_cons_succ, List.getElem_cons_zero, Act.put, List.setIfInBounds_toArray, List.set_cons_zero, List.set_cons_succ]
  refine wpAnyH_take (i := 6) (v := ?_) rfl (by kernel_rfl) (by kernel_rfl) (by kernel_rfl) (fun _ _ _ h => h) (Or.inl ⟨by rfl, ?_⟩) hHeld ?_
  rotate_left
  · (intro wz _; go_simp; try with_reducible rfl)
  try simp only [List.getElem_toArray, List.getElem_cons_succ, List.getElem_cons_zero, Act.put, List.setIfInBounds_toArray, List.set_cons_zero, List.set_cons_succ]
  refine wpAnyH_take (i := 7) (v := _) rfl (by kernel_rfl) (by kernel_rfl) (by kernel_rfl) (fun _ _ _ h => h) (yields_load1 rfl 3 _ rfl rfl kbg eg Try.underlying3 rfl) hHeld ?_
  try simp only [List.getElem_toArray, List.getElem_cons_succ, List.getElem_cons_zero, Act.put, List.setIfInBounds_toArray, List.set_cons_zero, List.set_cons_succ]
  replace h := h.drew
  generalize w.drew = wq at h hHeld ⊢
  clear w
  obtain ⟨w, rfl⟩ : ∃ q : World, q = wq := ⟨_, rfl⟩
  refine wpAnyH_ready (rs := [8]) (by kernel_rfl) (by simp) ?_
  refine AllReadyH.cons rfl (fun K hK => ?_) AllReadyH.nil
  (refine step_storeAll (cells := #[.slice A1 n c1, .slice (some ⟨bb, ob, none⟩) m cap2]) h rfl 49 _ _ rfl rfl rfl kb2 rfl rfl (by kernel_rfl) rfl ?_; clear h; intro w h)
  refine hK.out _ _ (h.le (Mm.drop_upd (Mm.drop_le _ _) _)) (fun hHeld => ?_)
  clear hK K
  try simp only [Act.put, List.setIfInBounds_toArray, List.set_cons_zero, List.set_cons_succ]
  refine wpAnyH_take (i := 9) (v := ?_) rfl (by kernel_rfl) (by kernel_rfl) (by kernel_rfl) (fun _ _ _ h => h) (Or.inl ⟨by rfl, ?_⟩) hHeld ?_
  rotate_left
  · (intro wz _; go_simp; try with_reducible rfl)
  try simp only [List.getElem_toArray, List.getElem_cons_succ, List.getElem_cons_zero, Act.put, List.setIfInBounds_toArray, List.set_cons_zero, List.set_cons_succ]
  refine wpAnyH_take (i := 10) (v := ?_) rfl (by kernel_rfl) (by kernel_rfl) (by kernel_rfl) (fun _ _ _ h => h) (Or.inl ⟨by rfl, ?_⟩) hHeld ?_
  rotate_left
  · (intro wz _; go_simp; try with_reducible rfl)
  try simp only [List.getElem_toArray, List.getElem_cons_succ, List.getElem_cons_zero, Act.put, List.setIfInBounds_toArray, List.set_cons_zero, List.set_cons_succ]
  refine wpAnyH_done (by kernel_rfl) ?_ _
  go_wp2
  exact bodyPost_ret (results_cell_row2 rfl _ _ _ _ _ _ _ rfl (h.at_ b2 _ (Mm.upd_same _ _ _)) Try.underlying49 rfl (by kernel_rfl)) rfl ⟨_, rfl, hF.out _ _ h, HU.out, HF.out⟩
theorem Own.at_upd {M0 M' : Mm} {e : TypeId} {sz n b : Nat} {v : Value} {xs : List Value} {o : Obj} (h : Own M0 M' e sz v n xs) (hb : M0 b = some o) (o' : Obj) : Own M0 (M'.upd b o') e sz v n xs := by
  obtain ⟨hl, ⟨hv, h0⟩ | ⟨g, cap, cur, hv, hg, hh, r⟩⟩ := h
  · exact ⟨hl, .inl ⟨hv, h0⟩⟩
  · exact ⟨hl, .inr ⟨g, cap, cur, hv, hg, (Mm.upd_ne (fun e => by subst e; rw [hb] at hg; cases hg)).trans hh, r⟩⟩
theorem natv_set (l : List Nat) (i x : Nat) : (natv l).set i (.int .i64 (x : Nat)) = natv (l.set i x) := by simp [natv, List.map_set]
set_option maxHeartbeats 2000000 in
set_option maxRecDepth 20000 in
theorem refGive_on (h : Has σ M w) (c : Nat → Int) {gens : Nat} (hg : c 12 = (gens : Int)) {vL vG : Value} {m x : Nat} {l gs : List Nat} (hL : Rd M 1 vL l.length (natv l)) (hG : Rd M 1 vG m (natv gs)) (x1 : 1 ≤ x) (x2 : x ≤ m) (hm : m ≤ 1000) (hl : l.length ≤ 1000) {gn : Nat} (hgn : gs[x - 1]? = some gn) (hgn2 : gn < 1000000) (hgo : gn + 1 < gens) : Calls Try.prog 20 #[confV c, .agg #[vL, vG], .int .i64 (x : Nat)] w fun e w' => ∃ uL uG M', e = .returned (.agg #[uL, uG]) ∧ Has σ M' w' ∧ M.le M' ∧ Own M M' 3 1 uL (l.length + 1) (natv (x :: l)) ∧ Own M M' 3 1 uG m (natv (gs.set (x - 1) (gn + 1))) := by
  have hgd : decide (((gn + 1 : Nat) : Int) < (gens : Int)) = true := decide_eq_true (by omega)
  have hgd2 : gn + 1 < gens := hgo
  clear hgo
  obtain ⟨A, cap, rfl⟩ := hL.form
  obtain ⟨B, cap2, rfl⟩ := hG.form
  have hx : (ints .i64 14 c).extract 0 (0 + 14) = ints .i64 14 c := rfl
  have r12 : (ints .i64 14 c)[12]? = some (.int .i64 (gens : Nat)) := by rw [← hg]; rfl
  have w1 : IntKind.i64.wrap ((x : Int) - 1) = ((x - 1 : Nat) : Int) := by rw [show (x : Int) - 1 = ((x - 1 : Nat) : Int) by omega]; exact IntWalk.i64_in _ (by omega)
  have w2 : IntKind.i64.wrap ((gn : Int) + 1) = ((gn + 1 : Nat) : Int) := by rw [show (gn : Int) + 1 = ((gn + 1 : Nat) : Int) by omega]; exact IntWalk.i64_in _ (by omega)
  have l1 : x - 1 < m := by omega
  have HGN := Lib.hid hgn
  have oG := natv_one gs
  have oL := natv_one l
  have h1000 : m ≤ 1000 := hm
  have hl1000 : l.length ≤ 1000 := hl
  unfold confV
  clear hgn hg hm hl
  generalize hx' : x - 1 = x' at *
  have HX := Lib.hid hx'
  clear hx'
  generalize hln : l.length = n at *
  have HLN := Lib.hid hln
  clear hln
  generalize hgs : natv gs = gv at *
  have HGS := Lib.hid hgs
  generalize hls : natv l = lv at *
  have HLS := Lib.hid hls
  clear hgs hls
  generalize ints .i64 14 c = row at *
  go_enter Try.func20, Try.ntmps20
  go_upto_region 1 with (first
    | ((with_reducible show wpList _ _ _ ({ dst := _, op := Op.box 24 _, type := _, pos := _, after := _, guard := _ } :: _) _ _); refine wpList_box_has h rfl 24 _ rfl ?_; clear h; intro b3 w h hn3; try simp only [Act.put, List.setIfInBounds_toArray, List.set_cons_zero, List.set_cons_succ])
    | ((with_reducible show wpList _ _ _ ({ dst := _, op := Op.box 49 _, type := _, pos := _, after := _, guard := _ } :: _) _ _); refine wpList_box_has h rfl 49 _ rfl ?_; clear h; intro b4 w h hn4; try simp only [Act.put, List.setIfInBounds_toArray, List.set_cons_zero, List.set_cons_succ])
    | ((with_reducible show wpList _ _ _ ({ dst := _, op := Op.alloc 49, type := _, pos := _, after := _, guard := _ } :: _) _ _); refine wpList_alloc_has h rfl 49 rfl _ zF ?_; clear h; intro b6 w h hn6; try simp only [Act.put, List.setIfInBounds_toArray, List.set_cons_zero, List.set_cons_succ]))
  have h9 : Has σ (((M.upd b3 (.cells row 24)).upd b4 (.cells #[.slice A n cap, .slice B m cap2] 49)).upd b6 (.cells #[.slice none 0 0, .slice none 0 0] 49)) w := h
  have hb3 : (((M.upd b3 (.cells row 24)).upd b4 (.cells #[.slice A n cap, .slice B m cap2] 49)).upd b6 (.cells #[.slice none 0 0, .slice none 0 0] 49)) b3 = some (.cells row 24) := Mm.upd_of hn6 (Mm.upd_of hn4 (Mm.upd_same _ _ _))
  have hb4 : (((M.upd b3 (.cells row 24)).upd b4 (.cells #[.slice A n cap, .slice B m cap2] 49)).upd b6 (.cells #[.slice none 0 0, .slice none 0 0] 49)) b4 = some (.cells #[.slice A n cap, .slice B m cap2] 49) := Mm.upd_of hn6 (Mm.upd_same _ _ _)
  have hb6 : (((M.upd b3 (.cells row 24)).upd b4 (.cells #[.slice A n cap, .slice B m cap2] 49)).upd b6 (.cells #[.slice none 0 0, .slice none 0 0] 49)) b6 = some (.cells #[.slice none 0 0, .slice none 0 0] 49) := Mm.upd_same _ _ _
  have n34 : b3 ≠ b4 := Mm.ne_of hn4 (Mm.upd_same M b3 (.cells row 24))
  have n46 : b4 ≠ b6 := Mm.ne_of hn6 (Mm.upd_same (M.upd b3 (.cells row 24)) b4 (.cells #[.slice A n cap, .slice B m cap2] 49))
  have hleM : M.le (((M.upd b3 (.cells row 24)).upd b4 (.cells #[.slice A n cap, .slice B m cap2] 49)).upd b6 (.cells #[.slice none 0 0, .slice none 0 0] 49)) := Mm.le_trans (Mm.le_upd' hn3 _) (Mm.le_trans (Mm.le_upd' hn4 _) (Mm.le_upd' hn6 _))
  have m4 : M b4 = none := Mm.none_of (Mm.le_upd' hn3 (.cells row 24)) hn4
  have m6 : M b6 = none := Mm.none_of (Mm.le_trans (Mm.le_upd' hn3 (.cells row 24)) (Mm.le_upd' hn4 (.cells #[.slice A n cap, .slice B m cap2] 49))) hn6
  clear h hn3 hn4 hn6
  have h := h9
  clear h9
  generalize Mm.upd _ b6 _ = M4 at h hb3 hb4 hb6 hleM
  have hG4 := hG.le hleM
  have hL4 := hL.le hleM
  have hL0 := hL
  clear hG hL
  have d1 : (#[.slice A n cap, .slice B m cap2] : Array Value)[1]? = some (.slice B m cap2) := rfl
  have ca : (w.alloc (.cells #[] 3)).cell? ⟨b4, 1, none⟩ = some (.slice B m cap2) := ((h.alloc (.cells #[] 3)).cell (Mm.le_upd' h.fresh _ _ _ hb4) 1).trans d1
  go_upto_region 2 with (first
    | (at_builtin; refine wpList_append_rd (h.alloc _) (Mm.le_upd' h.fresh _) rfl _ _ _ rfl Try.underlying47 info_int rfl (by omega) rfl (Own.made h.fresh 0 rfl (by decide)) rfl (hG4.le (Mm.le_upd' h.fresh _)) oG (by omega) (by omega) ?_; clear h; intro v w hacc))
  clear ca
  obtain ⟨M5, h, hle5, hown⟩ := hacc
  rw [Nat.zero_add, List.nil_append] at hown
  obtain ⟨g, cg, rfl⟩ := Own.pos hown (by omega)
  obtain ⟨cur, hcg, hcu⟩ := Own.at_ hown
  have eg : cur[x']? = some (.int .i64 (gn : Nat)) := hcu x' _ (by rw [← HGS.out]; exact natv_get HGN.out)
  have gsz : x' < cur.size := (Array.getElem?_eq_some_iff.1 eg).1
  have hlc : x' < cur.size := gsz
  clear hcu gsz
  have hb45 := hle5 _ _ hb4
  go_upto_region 3 with (first
    | (with_reducible show wpList _ _ _ ({ dst := _, op := Op.load 3 _, type := _, pos := _, after := _, guard := _ } :: _) _ _; refine wpList_load1_has h rfl 3 _ rfl rfl hcg eg Try.underlying3 rfl ?_)
    | ((with_reducible show wpList _ _ _ ({ dst := _, op := Op.store 3 _ _, type := _, pos := _, after := _, guard := _ } :: _) _ _); refine wpList_putOne h hle5 hown rfl 3 _ _ rfl rfl (k := x') rfl l1 (u := .int .i64 ((gn + 1 : Nat) : Int)) rfl rfl (by kernel_rfl) ?_; clear h hle5 hown hcg; intro w M6 h hle6 hown))
  clear eg hlc hb45
  have hb46 := hle6 _ _ hb4
  have hl46 : 1 < (#[.slice A n cap, .slice B m cap2] : Array Value).size := by show 1 < 2; omega
  go_upto_region 4 with (first
    | (with_reducible show wpList _ _ _ ({ dst := _, op := Op.store 47 _ _, type := _, pos := _, after := _, guard := _ } :: _) _ _; refine wpList_store1_has h rfl 47 _ _ rfl rfl rfl hb46 hl46 rfl (by kernel_rfl) ?_; clear h; intro w h))
  have h9 : Has σ (M6.upd b4 (.cells #[.slice A n cap, .slice (some ⟨g, 0, none⟩) m cg] 49)) w := h
  have hown7 := hown.at_upd hb4 (.cells #[.slice A n cap, .slice (some ⟨g, 0, none⟩) m cg] 49)
  have hb37 : (M6.upd b4 (.cells #[.slice A n cap, .slice (some ⟨g, 0, none⟩) m cg] 49)) b3 = some (.cells row 24) := (Mm.upd_ne n34).trans (hle6 _ _ hb3)
  have hb67 : (M6.upd b4 (.cells #[.slice A n cap, .slice (some ⟨g, 0, none⟩) m cg] 49)) b6 = some (.cells #[.slice none 0 0, .slice none 0 0] 49) := (Mm.upd_ne n46.symm).trans (hle6 _ _ hb6)
  have hb47 : (M6.upd b4 (.cells #[.slice A n cap, .slice (some ⟨g, 0, none⟩) m cg] 49)) b4 = some (.cells #[.slice A n cap, .slice (some ⟨g, 0, none⟩) m cg] 49) := Mm.upd_same _ _ _
  have HB4 := Lib.hid hb4
  have HB6 := Lib.hid hb6
  have HLM := Lib.hid hleM
  have h47 : M.le (M6.upd b4 (.cells #[.slice A n cap, .slice (some ⟨g, 0, none⟩) m cg] 49)) := Mm.le_upd (Mm.le_trans hleM hle6) m4 _
  clear h hb46 hl46 hown hle6 hb3 hb4 hb6 d1
  have h := h9
  clear h9
  generalize M6.upd b4 _ = M7 at *
  replace hL4 : Rd M 1 (.slice A n cap) n lv := hL0
  have hownM : Own M M7 3 1 (.slice (some ⟨g, 0, none⟩) m cg) m (gv.set x' (.int .i64 ((gn + 1 : Nat) : Int))) := hown7.base fun b hb => Mm.none_of hleM hb
  obtain ⟨cur7, hcg7, hcu7⟩ := Own.at_ hown7
  have eg7 : cur7[x']? = some (.int .i64 ((gn + 1 : Nat) : Int)) := hcu7 x' _ (by
    have := hown7.1
    rw [List.length_set] at this
    rw [List.getElem?_set_self (by omega)])
  clear hcu7 hleM hG4
  go_upto_region 4 with (fail)
  refine wp_region_class (Has σ M7) (by kernel_rfl) (by kernel_rfl) h.drew ?_
  clear h
  repeat (first
    | go_big_quiet_skip
    | (go_big_quiet_want; first
      | (refine quiet_load_has 3 _ rfl rfl hcg7 eg7 Try.underlying3 rfl ?_; simp only [Act.put, List.setIfInBounds_toArray, List.set_cons_zero, List.set_cons_succ]; go_big_quiet_on)
      | (refine quiet_load_has 3 _ rfl rfl hb37 r12 Try.underlying3 rfl ?_; simp only [Act.put, List.setIfInBounds_toArray, List.set_cons_zero, List.set_cons_succ]; go_big_quiet_on)
      | (go_big_quiet_op; first | go_big_quiet_on | go_big_quiet_call (first | with_reducible exact fun _ => rfl))))
  refine wpQuiet_nil ?_
  try clear w
  intro w h
  clear hcg7 eg7 hb37 r12
  -- the slot becomes the first one
  have hL7 := hL4.le h47
  have d0 : (#[.slice A n cap, .slice (some ⟨g, 0, none⟩) m cg] : Array Value)[0]? = some (.slice A n cap) := rfl
  have ca : (w.alloc (.cells #[.int .i64 (x : Nat)] 3)).cell? ⟨b4, 0, none⟩ = some (.slice A n cap) := ((h.alloc (.cells #[.int .i64 (x : Nat)] 3)).cell (Mm.le_upd' h.fresh _ _ _ hb47) 0).trans d0
  have h0l2 : 0 < (#[.slice A n cap, .slice (some ⟨g, 0, none⟩) m cg] : Array Value).size := by show 0 < 2; omega
  go_upto_region 6 with (first
    | ((at_builtin; refine wpList_append_rd (h.alloc (.cells #[.int .i64 (x : Nat)] 3)) (Mm.le_upd' h.fresh _) rfl _ _ _ rfl Try.underlying47 info_int rfl (by omega) rfl (Own.made h.fresh 1 rfl (by decide)) rfl (hL7.le (Mm.le_upd' h.fresh _)) oL (by omega) (by omega) ?_; clear h ca; intro v w hacc; obtain ⟨M8, h, hle8, hownL⟩ := hacc; obtain ⟨A8, c8, rfl⟩ := hownL.form; have hb48 := hle8 _ _ hb47))
    | (with_reducible show wpList _ _ _ ({ dst := _, op := Op.store 47 _ _, type := _, pos := _, after := _, guard := _ } :: _) _ _; refine wpList_store1_has h rfl 47 _ _ rfl rfl rfl hb48 h0l2 rfl (by kernel_rfl) ?_; clear h; intro w h))
  have h9 : Has σ (M8.upd b4 (.cells #[.slice A8 (1 + n) c8, .slice (some ⟨g, 0, none⟩) m cg] 49)) w := h
  have hG9 : Own M4 ((M8.upd b4 (.cells #[.slice A8 (1 + n) c8, .slice (some ⟨g, 0, none⟩) m cg] 49)).upd b6 (.cells #[.slice A8 (1 + n) c8, .slice (some ⟨g, 0, none⟩) m cg] 49)) _ _ _ _ _ := ((hown7.le hle8).at_upd HB4.out _).at_upd HB6.out _
  have hL9 : Own M7 ((M8.upd b4 (.cells #[.slice A8 (1 + n) c8, .slice (some ⟨g, 0, none⟩) m cg] 49)).upd b6 (.cells #[.slice A8 (1 + n) c8, .slice (some ⟨g, 0, none⟩) m cg] 49)) _ _ _ _ _ := (hownL.at_upd hb47 _).at_upd hb67 _
  have HG9 := Lib.hid (hG9.base (M' := M) fun b hb => Mm.none_of HLM.out hb)
  have HL9 := Lib.hid (hL9.base (M' := M) fun b hb => Mm.none_of h47 hb)
  have HM9 := Lib.hid (Mm.le_upd (Mm.le_upd (Mm.le_trans h47 hle8) m4 (.cells #[.slice A8 (1 + n) c8, .slice (some ⟨g, 0, none⟩) m cg] 49)) m6 (.cells #[.slice A8 (1 + n) c8, .slice (some ⟨g, 0, none⟩) m cg] 49))
  have hb69 : (M8.upd b4 (.cells #[.slice A8 (1 + n) c8, .slice (some ⟨g, 0, none⟩) m cg] 49)) b6 = some (.cells #[.slice none 0 0, .slice none 0 0] 49) := (Mm.upd_ne n46.symm).trans (hle8 _ _ hb67)
  have hb49 : (M8.upd b4 (.cells #[.slice A8 (1 + n) c8, .slice (some ⟨g, 0, none⟩) m cg] 49)) b4 = some (.cells #[.slice A8 (1 + n) c8, .slice (some ⟨g, 0, none⟩) m cg] 49) := Mm.upd_same _ _ _
  have hx9 : (#[.slice A8 (1 + n) c8, .slice (some ⟨g, 0, none⟩) m cg] : Array Value).extract 0 (0 + 2) = #[.slice A8 (1 + n) c8, .slice (some ⟨g, 0, none⟩) m cg] := rfl
  clear h hG9 hL9 hb48 hb67 hb47 hownL hown7 hownM
  have h := h9
  clear h9
  generalize M8.upd b4 _ = M9 at *
  go_wp2_with (first
    | ((with_reducible show wpList _ _ _ ({ dst := _, op := Op.load 49 _, type := _, pos := _, after := _, guard := _ } :: _) _ _); refine wpList_agg_has h rfl 49 _ rfl rfl hb49 hx9 rfl Try.underlying49 rfl (by kernel_rfl) ?_; try simp only [Act.put, List.setIfInBounds_toArray, List.set_cons_zero, List.set_cons_succ])
    | (with_reducible show wpList _ _ _ ({ dst := _, op := Op.store 49 _ _, type := _, pos := _, after := _, guard := _ } :: _) _ _; refine wpList_storeAll_has (cells := #[.slice A8 (1 + n) c8, .slice (some ⟨g, 0, none⟩) m cg]) h rfl 49 _ _ rfl rfl rfl hb69 rfl rfl rfl (by kernel_rfl) rfl ?_; clear h; intro w h))
  refine bodyPost_ret (results_cell_row rfl _ _ _ _ _ _ _ rfl (h.at_ b6 _ (Mm.upd_same _ _ _)) Try.underlying49 rfl (by kernel_rfl)) rfl ⟨_, _, rfl, _, h, HM9.out, ?_, ?_⟩
  · have e1 : natv (x :: l) = #[Value.int IntKind.i64 (x : Nat)].toList ++ lv := by rw [← HLS.out]; rfl
    rw [e1, Nat.add_comm n 1]
    exact HL9.out
  · rw [← natv_set, HGS.out]
    exact HG9.out
set_option maxHeartbeats 2000000 in
set_option maxRecDepth 20000 in
theorem refGive_worn (h : Has σ M w) (c : Nat → Int) {gens : Nat} (hg : c 12 = (gens : Int)) {vL vG : Value} {m x : Nat} {l gs : List Nat} (hL : Rd M 1 vL l.length (natv l)) (hG : Rd M 1 vG m (natv gs)) (x1 : 1 ≤ x) (x2 : x ≤ m) (hm : m ≤ 1000) (hl : l.length ≤ 1000) {gn : Nat} (hgn : gs[x - 1]? = some gn) (hgn2 : gn < 1000000) (hgo : gens ≤ gn + 1) : Calls Try.prog 20 #[confV c, .agg #[vL, vG], .int .i64 (x : Nat)] w fun e w' => ∃ uG M', e = .returned (.agg #[vL, uG]) ∧ Has σ M' w' ∧ M.le M' ∧ Own M M' 3 1 uG m (natv (gs.set (x - 1) (gn + 1))) := by
  have hgd : decide (((gn + 1 : Nat) : Int) < (gens : Int)) = false := decide_eq_false (by omega)
  have hgd2 : ¬ gn + 1 < gens := by omega
  have hgd3 : ¬ ((gn : Int) + 1 < (gens : Int)) := by omega
  clear hgo
  obtain ⟨A, cap, rfl⟩ := hL.form
  obtain ⟨B, cap2, rfl⟩ := hG.form
  have hx : (ints .i64 14 c).extract 0 (0 + 14) = ints .i64 14 c := rfl
  have r12 : (ints .i64 14 c)[12]? = some (.int .i64 (gens : Nat)) := by rw [← hg]; rfl
  have w1 : IntKind.i64.wrap ((x : Int) - 1) = ((x - 1 : Nat) : Int) := by rw [show (x : Int) - 1 = ((x - 1 : Nat) : Int) by omega]; exact IntWalk.i64_in _ (by omega)
  have w2 : IntKind.i64.wrap ((gn : Int) + 1) = ((gn + 1 : Nat) : Int) := by rw [show (gn : Int) + 1 = ((gn + 1 : Nat) : Int) by omega]; exact IntWalk.i64_in _ (by omega)
  have l1 : x - 1 < m := by omega
  have HGN := Lib.hid hgn
  have oG := natv_one gs
  have oL := natv_one l
  have h1000 : m ≤ 1000 := hm
  have hl1000 : l.length ≤ 1000 := hl
  unfold confV
  clear hgn hg hm hl
  generalize hx' : x - 1 = x' at *
  have HX := Lib.hid hx'
  clear hx'
  generalize hln : l.length = n at *
  have HLN := Lib.hid hln
  clear hln
  generalize hgs : natv gs = gv at *
  have HGS := Lib.hid hgs
  generalize hls : natv l = lv at *
  have HLS := Lib.hid hls
  clear hgs hls
  generalize ints .i64 14 c = row at *
  go_enter Try.func20, Try.ntmps20
  go_upto_region 1 with (first
    | ((with_reducible show wpList _ _ _ ({ dst := _, op := Op.box 24 _, type := _, pos := _, after := _, guard := _ } :: _) _ _); refine wpList_box_has h rfl 24 _ rfl ?_; clear h; intro b3 w h hn3; try simp only [Act.put, List.setIfInBounds_toArray, List.set_cons_zero, List.set_cons_succ])
    | ((with_reducible show wpList _ _ _ ({ dst := _, op := Op.box 49 _, type := _, pos := _, after := _, guard := _ } :: _) _ _); refine wpList_box_has h rfl 49 _ rfl ?_; clear h; intro b4 w h hn4; try simp only [Act.put, List.setIfInBounds_toArray, List.set_cons_zero, List.set_cons_succ])
    | ((with_reducible show wpList _ _ _ ({ dst := _, op := Op.alloc 49, type := _, pos := _, after := _, guard := _ } :: _) _ _); refine wpList_alloc_has h rfl 49 rfl _ zF ?_; clear h; intro b6 w h hn6; try simp only [Act.put, List.setIfInBounds_toArray, List.set_cons_zero, List.set_cons_succ]))
  have h9 : Has σ (((M.upd b3 (.cells row 24)).upd b4 (.cells #[.slice A n cap, .slice B m cap2] 49)).upd b6 (.cells #[.slice none 0 0, .slice none 0 0] 49)) w := h
  have hb3 : (((M.upd b3 (.cells row 24)).upd b4 (.cells #[.slice A n cap, .slice B m cap2] 49)).upd b6 (.cells #[.slice none 0 0, .slice none 0 0] 49)) b3 = some (.cells row 24) := Mm.upd_of hn6 (Mm.upd_of hn4 (Mm.upd_same _ _ _))
  have hb4 : (((M.upd b3 (.cells row 24)).upd b4 (.cells #[.slice A n cap, .slice B m cap2] 49)).upd b6 (.cells #[.slice none 0 0, .slice none 0 0] 49)) b4 = some (.cells #[.slice A n cap, .slice B m cap2] 49) := Mm.upd_of hn6 (Mm.upd_same _ _ _)
  have hb6 : (((M.upd b3 (.cells row 24)).upd b4 (.cells #[.slice A n cap, .slice B m cap2] 49)).upd b6 (.cells #[.slice none 0 0, .slice none 0 0] 49)) b6 = some (.cells #[.slice none 0 0, .slice none 0 0] 49) := Mm.upd_same _ _ _
  have n34 : b3 ≠ b4 := Mm.ne_of hn4 (Mm.upd_same M b3 (.cells row 24))
  have n46 : b4 ≠ b6 := Mm.ne_of hn6 (Mm.upd_same (M.upd b3 (.cells row 24)) b4 (.cells #[.slice A n cap, .slice B m cap2] 49))
  have hleM : M.le (((M.upd b3 (.cells row 24)).upd b4 (.cells #[.slice A n cap, .slice B m cap2] 49)).upd b6 (.cells #[.slice none 0 0, .slice none 0 0] 49)) := Mm.le_trans (Mm.le_upd' hn3 _) (Mm.le_trans (Mm.le_upd' hn4 _) (Mm.le_upd' hn6 _))
  have m4 : M b4 = none := Mm.none_of (Mm.le_upd' hn3 (.cells row 24)) hn4
  have m6 : M b6 = none := Mm.none_of (Mm.le_trans (Mm.le_upd' hn3 (.cells row 24)) (Mm.le_upd' hn4 (.cells #[.slice A n cap, .slice B m cap2] 49))) hn6
  clear h hn3 hn4 hn6
  have h := h9
  clear h9
  generalize Mm.upd _ b6 _ = M4 at h hb3 hb4 hb6 hleM
  have hG4 := hG.le hleM
  have hL4 := hL.le hleM
  have hL0 := hL
  clear hG hL
  have d1 : (#[.slice A n cap, .slice B m cap2] : Array Value)[1]? = some (.slice B m cap2) := rfl
  have ca : (w.alloc (.cells #[] 3)).cell? ⟨b4, 1, none⟩ = some (.slice B m cap2) := ((h.alloc (.cells #[] 3)).cell (Mm.le_upd' h.fresh _ _ _ hb4) 1).trans d1
  go_upto_region 2 with (first
    | (at_builtin; refine wpList_append_rd (h.alloc _) (Mm.le_upd' h.fresh _) rfl _ _ _ rfl Try.underlying47 info_int rfl (by omega) rfl (Own.made h.fresh 0 rfl (by decide)) rfl (hG4.le (Mm.le_upd' h.fresh _)) oG (by omega) (by omega) ?_; clear h; intro v w hacc))
  clear ca
  obtain ⟨M5, h, hle5, hown⟩ := hacc
  rw [Nat.zero_add, List.nil_append] at hown
  obtain ⟨g, cg, rfl⟩ := Own.pos hown (by omega)
  obtain ⟨cur, hcg, hcu⟩ := Own.at_ hown
  have eg : cur[x']? = some (.int .i64 (gn : Nat)) := hcu x' _ (by rw [← HGS.out]; exact natv_get HGN.out)
  have gsz : x' < cur.size := (Array.getElem?_eq_some_iff.1 eg).1
  have hlc : x' < cur.size := gsz
  clear hcu gsz
  have hb45 := hle5 _ _ hb4
  go_upto_region 3 with (first
    | (with_reducible show wpList _ _ _ ({ dst := _, op := Op.load 3 _, type := _, pos := _, after := _, guard := _ } :: _) _ _; refine wpList_load1_has h rfl 3 _ rfl rfl hcg eg Try.underlying3 rfl ?_)
    | ((with_reducible show wpList _ _ _ ({ dst := _, op := Op.store 3 _ _, type := _, pos := _, after := _, guard := _ } :: _) _ _); refine wpList_putOne h hle5 hown rfl 3 _ _ rfl rfl (k := x') rfl l1 (u := .int .i64 ((gn + 1 : Nat) : Int)) rfl rfl (by kernel_rfl) ?_; clear h hle5 hown hcg; intro w M6 h hle6 hown))
  clear eg hlc hb45
  have hb46 := hle6 _ _ hb4
  have hl46 : 1 < (#[.slice A n cap, .slice B m cap2] : Array Value).size := by show 1 < 2; omega
  go_upto_region 4 with (first
    | (with_reducible show wpList _ _ _ ({ dst := _, op := Op.store 47 _ _, type := _, pos := _, after := _, guard := _ } :: _) _ _; refine wpList_store1_has h rfl 47 _ _ rfl rfl rfl hb46 hl46 rfl (by kernel_rfl) ?_; clear h; intro w h))
  have h9 : Has σ (M6.upd b4 (.cells #[.slice A n cap, .slice (some ⟨g, 0, none⟩) m cg] 49)) w := h
  have hown7 := hown.at_upd hb4 (.cells #[.slice A n cap, .slice (some ⟨g, 0, none⟩) m cg] 49)
  have hb37 : (M6.upd b4 (.cells #[.slice A n cap, .slice (some ⟨g, 0, none⟩) m cg] 49)) b3 = some (.cells row 24) := (Mm.upd_ne n34).trans (hle6 _ _ hb3)
  have hb67 : (M6.upd b4 (.cells #[.slice A n cap, .slice (some ⟨g, 0, none⟩) m cg] 49)) b6 = some (.cells #[.slice none 0 0, .slice none 0 0] 49) := (Mm.upd_ne n46.symm).trans (hle6 _ _ hb6)
  have hb47 : (M6.upd b4 (.cells #[.slice A n cap, .slice (some ⟨g, 0, none⟩) m cg] 49)) b4 = some (.cells #[.slice A n cap, .slice (some ⟨g, 0, none⟩) m cg] 49) := Mm.upd_same _ _ _
  have HB4 := Lib.hid hb4
  have HB6 := Lib.hid hb6
  have HLM := Lib.hid hleM
  have h47 : M.le (M6.upd b4 (.cells #[.slice A n cap, .slice (some ⟨g, 0, none⟩) m cg] 49)) := Mm.le_upd (Mm.le_trans hleM hle6) m4 _
  clear h hb46 hl46 hown hle6 hb3 hb4 hb6 d1
  have h := h9
  clear h9
  generalize M6.upd b4 _ = M7 at *
  replace hL4 : Rd M 1 (.slice A n cap) n lv := hL0
  have hownM : Own M M7 3 1 (.slice (some ⟨g, 0, none⟩) m cg) m (gv.set x' (.int .i64 ((gn + 1 : Nat) : Int))) := hown7.base fun b hb => Mm.none_of hleM hb
  obtain ⟨cur7, hcg7, hcu7⟩ := Own.at_ hown7
  have eg7 : cur7[x']? = some (.int .i64 ((gn + 1 : Nat) : Int)) := hcu7 x' _ (by
    have := hown7.1
    rw [List.length_set] at this
    rw [List.getElem?_set_self (by omega)])
  clear hcu7 hleM hG4
  go_upto_region 4 with (fail)
  refine wp_region_class (Has σ M7) (by kernel_rfl) (by kernel_rfl) h.drew ?_
  clear h
  repeat (first
    | go_big_quiet_skip
    | (go_big_quiet_want; first
      | (refine quiet_load_has 3 _ rfl rfl hcg7 eg7 Try.underlying3 rfl ?_; simp only [Act.put, List.setIfInBounds_toArray, List.set_cons_zero, List.set_cons_succ]; go_big_quiet_on)
      | (refine quiet_load_has 3 _ rfl rfl hb37 r12 Try.underlying3 rfl ?_; simp only [Act.put, List.setIfInBounds_toArray, List.set_cons_zero, List.set_cons_succ]; go_big_quiet_on)
      | (go_big_quiet_op; first | go_big_quiet_on | go_big_quiet_call (first | with_reducible exact fun _ => rfl))))
  refine wpQuiet_nil ?_
  try clear w
  intro w h
  clear hcg7 eg7 hb37 r12
  have hG9 : Own M4 (M7.upd b6 (.cells #[.slice A n cap, .slice (some ⟨g, 0, none⟩) m cg] 49)) _ _ _ _ _ := hown7.at_upd HB6.out _
  have HG9 := Lib.hid (hG9.base (M' := M) fun b hb => Mm.none_of HLM.out hb)
  have HM9 := Lib.hid (Mm.le_upd h47 m6 (.cells #[.slice A n cap, .slice (some ⟨g, 0, none⟩) m cg] 49))
  have hx9 : (#[.slice A n cap, .slice (some ⟨g, 0, none⟩) m cg] : Array Value).extract 0 (0 + 2) = #[.slice A n cap, .slice (some ⟨g, 0, none⟩) m cg] := rfl
  clear hG9 hown7 hownM
  go_wp2_with (first
    | ((with_reducible show wpList _ _ _ ({ dst := _, op := Op.load 49 _, type := _, pos := _, after := _, guard := _ } :: _) _ _); refine wpList_agg_has h rfl 49 _ rfl rfl hb47 hx9 rfl Try.underlying49 rfl (by kernel_rfl) ?_; try simp only [Act.put, List.setIfInBounds_toArray, List.set_cons_zero, List.set_cons_succ])
    | (with_reducible show wpList _ _ _ ({ dst := _, op := Op.store 49 _ _, type := _, pos := _, after := _, guard := _ } :: _) _ _; refine wpList_storeAll_has (cells := #[.slice A n cap, .slice (some ⟨g, 0, none⟩) m cg]) h rfl 49 _ _ rfl rfl rfl hb67 rfl rfl rfl (by kernel_rfl) rfl ?_; clear h; intro w h))
  refine bodyPost_ret (results_cell_row rfl _ _ _ _ _ _ _ rfl (h.at_ b6 _ (Mm.upd_same _ _ _)) Try.underlying49 rfl (by kernel_rfl)) rfl ⟨_, rfl, _, h, HM9.out, ?_⟩
  rw [← natv_set, HGS.out]
  exact HG9.out
end
end
section
open Go.RowKit
set_option linter.unusedVariables false
set_option linter.unusedSimpArgs false
set_option linter.unnecessarySimpa false
theorem made_int (n : Nat) : madeCells (Value.int .i64 0).cells (n * 1) = (natv (List.replicate n 0)).toArray := by
  apply Array.ext_getElem?
  intro i
  unfold madeCells natv
  by_cases hi : i < n
  · simp [Value.cells, hi, Nat.mod_one]
  · simp [Value.cells, hi]
theorem mk_int (N : Nat) (h : N ≤ 100000) (W : World) : (Instr.makeSlice 47 (.int .i64 N) (.int .i64 N)).run Try.prog W = .ok (.slice (some ⟨W.heap.size, 0, none⟩) N N) (W.alloc (.cells (natv (List.replicate N 0)).toArray 3)) := by
  obtain ⟨i, hi, he⟩ := Option.map_eq_some_iff.1 info_int
  simp only [Prod.mk.injEq] at he
  obtain ⟨h1, h2, h3⟩ := he
  rw [run_makeSlice W 47 3 i (.int .i64 0) Try.underlying47 hi h1 .i64 .i64 N N (by omega) (by omega) (by rw [h2, Int.toNat_natCast]; omega) (by rw [h3]; omega) (by omega), Int.toNat_natCast, h2, made_int]
/-- The slots from 2 on. -/
def slots (n : Nat) : List Nat := (List.range n).map (· + 2)
theorem slots_succ (n : Nat) : slots (n + 1) = slots n ++ [n + 2] := by unfold slots; rw [List.range_succ, List.map_append]; rfl
theorem slots_len (n : Nat) : (slots n).length = n := by simp [slots]
section
variable {σ w : World} {M : Mm}
set_option maxHeartbeats 2000000 in
set_option maxRecDepth 20000 in
theorem refNew_eq (h : Has σ M w) (c : Nat → Int) {S : Nat} (hS : c 10 = (S : Int)) (hS2 : 2 ≤ S) (hS60 : S ≤ 60) : Calls Try.prog 17 #[confV c] w fun e w' => ∃ uL uG M', e = .returned (.agg #[uL, uG]) ∧ Has σ M' w' ∧ M.le M' ∧ Own M M' 3 1 uL (S - 1) (natv (slots (S - 1))) ∧ Own M M' 3 1 uG S (natv (List.replicate S 0)) := by
  have hx : (ints .i64 14 c).extract 0 (0 + 14) = ints .i64 14 c := rfl
  have r10 : (ints .i64 14 c)[10]? = some (.int .i64 (S : Nat)) := by rw [← hS]; rfl
  have MS := mk_int S (by omega)
  unfold confV
  clear hS
  generalize ints .i64 14 c = row at *
  generalize hzz : natv (List.replicate S 0) = zs at *
  have hzl : zs.length = S := by rw [← hzz, natv_len]; simp
  clear hzz
  go_enter Try.func17, Try.ntmps17
  go_upto_region 1 with (first
    | ((with_reducible show wpList _ _ _ ({ dst := _, op := Op.box 24 _, type := _, pos := _, after := _, guard := _ } :: _) _ _); refine wpList_box_has h rfl 24 _ rfl ?_; clear h; intro b1 w h hn1; try simp only [Act.put, List.setIfInBounds_toArray, List.set_cons_zero, List.set_cons_succ])
    | ((with_reducible show wpList _ _ _ ({ dst := _, op := Op.alloc 49, type := _, pos := _, after := _, guard := _ } :: _) _ _); refine wpList_alloc_has h rfl 49 rfl _ zF ?_; clear h; intro b2 w h hn2; try simp only [Act.put, List.setIfInBounds_toArray, List.set_cons_zero, List.set_cons_succ]))
  have h9 : Has σ ((M.upd b1 (.cells row 24)).upd b2 (.cells #[.slice none 0 0, .slice none 0 0] 49)) w := h
  have hb1 : ((M.upd b1 (.cells row 24)).upd b2 (.cells #[.slice none 0 0, .slice none 0 0] 49)) b1 = some (.cells row 24) := Mm.upd_of hn2 (Mm.upd_same _ _ _)
  have hb2 : ((M.upd b1 (.cells row 24)).upd b2 (.cells #[.slice none 0 0, .slice none 0 0] 49)) b2 = some (.cells #[.slice none 0 0, .slice none 0 0] 49) := Mm.upd_same _ _ _
  have hleM : M.le ((M.upd b1 (.cells row 24)).upd b2 (.cells #[.slice none 0 0, .slice none 0 0] 49)) := Mm.le_trans (Mm.le_upd' hn1 _) (Mm.le_upd' hn2 _)
  have HMB2 := Lib.hid (Mm.none_of (Mm.le_upd' hn1 (.cells row 24)) hn2)
  clear h hn1 hn2
  have h := h9
  clear h9
  generalize Mm.upd _ b2 _ = M2 at h hb1 hb2 hleM
  go_upto_region 2 with (first
    | (with_reducible show wpList _ _ _ ({ dst := _, op := Op.load 3 _, type := _, pos := _, after := _, guard := _ } :: _) _ _; refine wpList_load1_has h rfl 3 _ rfl rfl hb1 r10 Try.underlying3 rfl ?_)
    | ((with_reducible show wpList _ _ _ ({ dst := _, op := Op.alloc 49, type := _, pos := _, after := _, guard := _ } :: _) _ _); (obtain ⟨M3, hbx, hle3, hg3, hng⟩ := h.box (.cells zs.toArray 3)); generalize w.alloc _ = wx at hbx ⊢; generalize w.heap.size = g at hg3 hng ⊢; clear h MS; (have h := hbx); clear hbx; refine wpList_alloc_has h rfl 49 rfl _ zF ?_; clear h; intro b3 w h hn3; try simp only [Act.put, List.setIfInBounds_toArray, List.set_cons_zero, List.set_cons_succ])
    | ((with_reducible show wpList _ _ _ ({ dst := _, op := Op.store 49 _ _, type := _, pos := _, after := _, guard := _ } :: _) _ _); refine wpList_storeAll_has (cells := #[.slice none 0 0, .slice (some ⟨g, 0, none⟩) S S]) h rfl 49 _ _ rfl rfl rfl (Mm.upd_same _ _ _) rfl rfl rfl (by kernel_rfl) rfl ?_; clear h; intro w h))
  rw [Mm.upd_upd] at h
  have hle4 := Mm.le_trans (Mm.le_trans hleM hle3) (Mm.le_upd' hn3 (.cells #[.slice none 0 0, .slice (some ⟨g, 0, none⟩) S S] 49))
  have hb34 := Mm.upd_same M3 b3 (.cells #[.slice none 0 0, .slice (some ⟨g, 0, none⟩) S S] 49)
  have ngb : g ≠ b3 := Mm.ne_of hn3 hg3
  have hg4 : (M3.upd b3 (.cells #[.slice none 0 0, .slice (some ⟨g, 0, none⟩) S S] 49)) g = some (.cells zs.toArray 3) := (Mm.upd_ne ngb).trans hg3
  have nb23 : b2 ≠ b3 := Mm.ne_of hn3 (hle3 _ _ hb2)
  have nb13 : b1 ≠ b3 := Mm.ne_of hn3 (hle3 _ _ hb1)
  have hb24 : (M3.upd b3 (.cells #[.slice none 0 0, .slice (some ⟨g, 0, none⟩) S S] 49)) b2 = some (.cells #[.slice none 0 0, .slice none 0 0] 49) := (Mm.upd_ne nb23).trans (hle3 _ _ hb2)
  have hb14 : (M3.upd b3 (.cells #[.slice none 0 0, .slice (some ⟨g, 0, none⟩) S S] 49)) b1 = some (.cells row 24) := (Mm.upd_ne nb13).trans (hle3 _ _ hb1)
  have hMg : M g = none := Mm.none_of hleM hng
  have hMb3 : M b3 = none := Mm.none_of (Mm.le_trans hleM hle3) hn3
  clear hb1 hb2 hg3 hn3 hng hle3 hleM
  generalize M3.upd b3 _ = M4 at *
  go_upto_region 3 with (fail)
  go_loopw [4] (fun u wr => ∃ (k : Nat) (M' : Mm) (v : Value), k + 1 ≤ S ∧ u = .int .i64 ((k + 2 : Nat) : Int) ∧ Has σ M' wr ∧ (M4.drop b3).le M' ∧ M' b3 = some (.cells #[v, .slice (some ⟨g, 0, none⟩) S S] 49) ∧ Own M4 M' 3 1 v k (natv (slots k))) (fun u _ => S + 2 - (intOf u).toNat)
  case atStart => exact ⟨0, M4, .slice none 0 0, by omega, rfl, h, Mm.drop_le _ _, hb34, Own.nil _ _ _ _⟩
  case round =>
    clear h w
    obtain ⟨w, rfl⟩ : ∃ x : World, x = wr := ⟨_, rfl⟩
    obtain ⟨k, M', v, hk, rfl, h, hle, hb3, hown⟩ := hrel
    obtain ⟨A, cap, rfl⟩ := hown.form
    by_cases hlt : k + 2 ≤ S
    · have hb1' := hle _ _ (Mm.drop_of hb14 nb13)
      have hM0 : ((M4.drop b3).upd b3 (.cells #[.slice A k cap, .slice (some ⟨g, 0, none⟩) S S] 49)).le M' := Mm.upd_le2 hle hb3
      have hown0 : Own ((M4.drop b3).upd b3 (.cells #[.slice A k cap, .slice (some ⟨g, 0, none⟩) S S] 49)) M' 3 1 (.slice A k cap) k (natv (slots k)) := hown.base fun b hb => by
        have hne : b ≠ b3 := fun e => by subst e; rw [hb] at hb34; cases hb34
        rw [Mm.upd_ne hne]
        exact Mm.none_of (Mm.drop_le _ _) hb
      have hbM0 := Mm.upd_same (M4.drop b3) b3 (.cells #[.slice A k cap, .slice (some ⟨g, 0, none⟩) S S] 49)
      have hD0 : (M4.drop b3).le ((M4.drop b3).upd b3 (.cells #[.slice A k cap, .slice (some ⟨g, 0, none⟩) S S] 49)) := Mm.le_upd' (Mm.drop_none _ _) _
      have hB0 : Hid (∀ b, ((M4.drop b3).upd b3 (.cells #[.slice A k cap, .slice (some ⟨g, 0, none⟩) S S] 49)) b = none → M4 b = none) := Lib.hid fun b hb => by
        have hne : b ≠ b3 := fun e => by subst e; rw [Mm.upd_same] at hb; cases hb
        rw [Mm.upd_ne hne] at hb
        unfold Mm.drop at hb
        rw [if_neg hne] at hb
        exact hb
      have T : Hid (natv (slots (k + 1)) = natv (slots k) ++ [.int .i64 ((k + 2 : Nat) : Int)]) := by
        show _ = _
        rw [slots_succ]
        unfold natv
        rw [List.map_append]
        rfl
      have h0l2 : 0 < (#[.slice A k cap, .slice (some ⟨g, 0, none⟩) S S] : Array Value).size := by show 0 < 2; omega
      have d0 : (#[.slice A k cap, .slice (some ⟨g, 0, none⟩) S S] : Array Value)[0]? = some (.slice A k cap) := rfl
      have w1 : IntKind.i64.wrap (((k + 2 : Nat) : Int) + 1) = ((k + 2 + 1 : Nat) : Int) := by rw [show (((k + 2 : Nat) : Int) + 1) = ((k + 2 + 1 : Nat) : Int) by omega]; exact IntWalk.i64_in _ (by omega)
      have g1 : ((k + 2 : Nat) : Int) ≤ (S : Int) := by omega
      have HK := Lib.hid hlt
      have k60 : k < 60 := by omega
      clear hown hk hlt
      generalize (M4.drop b3).upd b3 _ = M0 at *
      generalize hz : ((k + 2 : Nat) : Int) = kz at *
      have HZ := Lib.hid hz
      clear hz
      go_upto_region 5 with (first
        | (with_reducible show wpList _ _ _ ({ dst := _, op := Op.load 3 _, type := _, pos := _, after := _, guard := _ } :: _) _ _; refine wpList_load1_has h rfl 3 _ rfl rfl hb1' r10 Try.underlying3 rfl ?_))
      go_upto_region 4 with (first
        | (with_reducible show wpList _ _ _ ({ dst := _, op := Op.load 47 _, type := _, pos := _, after := _, guard := _ } :: _) _ _; refine wpList_load1_has h rfl 47 _ rfl rfl hb3 d0 Try.underlying47 rfl ?_)
        | ((at_builtin; refine wpList_append_lit h hM0 rfl _ _ _ rfl rfl Try.underlying47 info_int rfl (by omega) rfl hown0 rfl rfl rfl (by omega) (by omega) ?_; clear h hM0 hown0; intro v w hacc; obtain ⟨M7, h, hle7, hown7⟩ := hacc; obtain ⟨A7, c7, rfl⟩ := hown7.form; have hb37 := hle7 _ _ hbM0))
        | (with_reducible show wpList _ _ _ ({ dst := _, op := Op.store 47 _ _, type := _, pos := _, after := _, guard := _ } :: _) _ _; refine wpList_store1_has h rfl 47 _ _ rfl rfl rfl hb37 h0l2 rfl (by kernel_rfl) ?_; clear h; intro w h))
      have h9 : Has σ (M7.upd b3 (.cells #[.slice A7 (k + 1) c7, .slice (some ⟨g, 0, none⟩) S S] 49)) w := h
      clear h
      have h := h9
      clear h9
      go_wp2
      go_roundw
      case rel => exact ⟨k + 1, _, _, by have := HK.out; omega, by go_num, h, Mm.drop_upd (Mm.le_trans hD0 hle7) _, Mm.upd_same _ _ _, by rw [T.out]; exact (hown7.at_upd hbM0 _).base hB0.out⟩
      case measure => rw [← HZ.out]; have := HK.out; simp [intOf]; omega
    · have hk2 : k = S - 1 := by omega
      subst hk2
      have hb2' := hle _ _ (Mm.drop_of hb24 nb23)
      have hb1' := hle _ _ (Mm.drop_of hb14 nb13)
      have hg' := hle _ _ (Mm.drop_of hg4 ngb)
      have g1 : ¬ ((S - 1 + 2 : Nat) : Int) ≤ (S : Int) := by omega
      have g2 : ¬ S - 1 + 2 ≤ S := by omega
      have hx3 : (#[.slice A (S - 1) cap, .slice (some ⟨g, 0, none⟩) S S] : Array Value).extract 0 (0 + 2) = #[.slice A (S - 1) cap, .slice (some ⟨g, 0, none⟩) S S] := rfl
      have hb2M : M4 b2 = some _ := hb24
      have hLM : M.le (M'.upd b2 (.cells #[.slice A (S - 1) cap, .slice (some ⟨g, 0, none⟩) S S] 49)) := fun q o hq => by
        have h1 := hle4 q o hq
        have n3 : q ≠ b3 := fun e => by subst e; rw [hMb3] at hq; cases hq
        have n2 : q ≠ b2 := fun e => by subst e; rw [HMB2.out] at hq; cases hq
        rw [Mm.upd_ne n2]
        exact hle _ _ (Mm.drop_of h1 n3)
      have hOL : Own M (M'.upd b2 (.cells #[.slice A (S - 1) cap, .slice (some ⟨g, 0, none⟩) S S] 49)) 3 1 (.slice A (S - 1) cap) (S - 1) (natv (slots (S - 1))) := (hown.at_upd hb24 _).base fun b hb => Mm.none_of hle4 hb
      have ngb2 : g ≠ b2 := fun e => by
        subst e
        rw [hg4] at hb24
        simp only [Option.some.injEq, Obj.cells.injEq] at hb24
        exact absurd hb24.2.1 (by decide)
      have hOG : Own M (M'.upd b2 (.cells #[.slice A (S - 1) cap, .slice (some ⟨g, 0, none⟩) S S] 49)) 3 1 (.slice (some ⟨g, 0, none⟩) S S) S zs := ⟨by omega, .inr ⟨g, S, zs.toArray, rfl, hMg, (Mm.upd_ne ngb2).trans hg', Nat.le_refl _, by unfold maxLen; omega, by simp [hzl], by rw [Nat.mul_one]; exact List.take_of_length_le (Nat.le_of_eq hzl)⟩⟩
      replace hLM := Lib.hid hLM
      replace hOL := Lib.hid hOL
      replace hOG := Lib.hid hOG
      clear hown hk hlt hle hg' hg4 hb24 hb14 hb34 hle4
      go_wp2_with (first
        | (with_reducible show wpList _ _ _ ({ dst := _, op := Op.load 3 _, type := _, pos := _, after := _, guard := _ } :: _) _ _; refine wpList_load1_has h rfl 3 _ rfl rfl hb1' r10 Try.underlying3 rfl ?_)
        | ((with_reducible show wpList _ _ _ ({ dst := _, op := Op.load 49 _, type := _, pos := _, after := _, guard := _ } :: _) _ _); refine wpList_agg_has h rfl 49 _ rfl rfl hb3 hx3 rfl Try.underlying49 rfl (by kernel_rfl) ?_; try simp only [Act.put, List.setIfInBounds_toArray, List.set_cons_zero, List.set_cons_succ])
        | (with_reducible show wpList _ _ _ ({ dst := _, op := Op.store 49 _ _, type := _, pos := _, after := _, guard := _ } :: _) _ _; refine wpList_storeAll_has (cells := #[.slice A (S - 1) cap, .slice (some ⟨g, 0, none⟩) S S]) h rfl 49 _ _ rfl rfl rfl hb2' rfl rfl rfl (by kernel_rfl) rfl ?_; clear h; intro w h))
      exact bodyPost_ret (results_cell_row rfl _ _ _ _ _ _ _ rfl (h.at_ b2 _ (Mm.upd_same _ _ _)) Try.underlying49 rfl (by kernel_rfl)) rfl ⟨_, _, rfl, _, h, hLM.out, hOL.out, hOG.out⟩
end
end
section
open Go.RowKit
set_option linter.unusedVariables false
set_option linter.unusedSimpArgs false
set_option linter.unnecessarySimpa false
theorem info_ints : (Try.prog.info? 47).map (fun i => (i.zero, i.size, i.bytes)) = some (some (.slice none 0 0), 1, 24) := by kernel_rfl
def nils (n : Nat) : List Value := (List.range n).map fun _ => .slice none 0 0
theorem made_ints (n : Nat) : madeCells (Value.slice none 0 0).cells (n * 1) = (nils n).toArray := by
  apply Array.ext_getElem?
  intro i
  unfold madeCells nils
  by_cases hi : i < n
  · simp [Value.cells, hi, Nat.mod_one]
  · simp [Value.cells, hi]
theorem mk_ints (N : Nat) (h : N ≤ 1000) (W : World) : (Instr.makeSlice 46 (.int .i64 N) (.int .i64 N)).run Try.prog W = .ok (.slice (some ⟨W.heap.size, 0, none⟩) N N) (W.alloc (.cells (nils N).toArray 47)) := by
  obtain ⟨i, hi, he⟩ := Option.map_eq_some_iff.1 info_ints
  simp only [Prod.mk.injEq] at he
  obtain ⟨h1, h2, h3⟩ := he
  rw [run_makeSlice W 46 47 i (.slice none 0 0) Try.underlying46 hi h1 .i64 .i64 N N (by omega) (by omega) (by rw [h2, Int.toNat_natCast]; omega) (by rw [h3]; omega) (by omega), Int.toNat_natCast, h2, made_ints]
def enc2 (x : Int × Int) : List Value := [.int .i64 x.1, .int .i64 x.2]
/-- One element of a row of the call's own is stored, at a step of a region that draws. -/
theorem step_putRow {P : Program} {op : Oper} {a : Act} {ops : Array Oper} {σ w : World} {M M0 : Mm} {Q : Exit → Act → World → Prop} {K : Act → World → Prop} {E : Prop} {α : Type} {enc : α → List Value} {e : TypeId} {sz n g cap : Nat} {L : List α} (hen : ∀ x, (enc x).length = sz) (h : Has σ M w) (hle : M0.le M) (hown : Own M0 M e sz (.slice (some ⟨g, 0, none⟩) n cap) n (L.flatMap enc)) (hL : L.length = n)
    (hgd : op.guard = none) (t : TypeId) (x y : Operand) (ho : op.op = .store t x y) (hdst : op.dst = none) {k : Nat} (hx : a.eval x = .pointer (some ⟨g, k * sz, none⟩)) {cells : Array Value} (hy : a.eval y = .agg cells) (hk : k < n) (z : α) (hz : cells.toList = enc z) (h1 : ∀ u ∈ enc z, u.oneCell' = true)
    (hi : (P.info? t).map (·.size) = some sz)
    (hK : ∀ w' M', Has σ M' w' → M0.le M' → Own M0 M' e sz (.slice (some ⟨g, 0, none⟩) n cap) n ((L.set k z).flatMap enc) → K a w') : if Region.wanted op (yielded ops a.tmps) = true then Oper.wp P op a w K Q else E := by
  have hw : Region.wanted op (yielded ops a.tmps) = true := by simp [Region.wanted, hgd]
  rw [if_pos hw]
  obtain ⟨M', hh, hle', hown'⟩ := Own.putRow hen h hle hown (k := k) (by omega) z hL
  have hsz : cells.size = sz := by have := congrArg List.length hz; simpa [hen] using this
  refine wp_store_mid t x y ho g (k * sz) cells hx hy ?_ (by rw [hi, hsz]) (by rw [Array.all_eq_true_iff_forall_mem]; exact fun u hu => h1 u (by rw [← hz]; simpa using hu)) ?_
  · intro j hj
    obtain ⟨_, ⟨hv, _⟩ | ⟨g', cap', cur, hv, hg, hM, hc, hm, hs, ht⟩⟩ := hown
    · cases hv
    · cases hv
      have : k * sz + j < cur.size := by
        rw [hs]
        have : (k + 1) * sz ≤ cap * sz := Nat.mul_le_mul_right _ (by omega)
        rw [Nat.add_mul, Nat.one_mul] at this
        omega
      exact ⟨by rw [h.cell hM, Array.getElem?_eq_getElem this]; rfl, h.free hM _⟩
  · rw [hdst, hz]
    exact hK _ _ hh hle' hown'
theorem natv_erase (l : List Nat) (k : Nat) : natv (l.eraseIdx k) = (natv l).take k ++ (natv l).drop (k + 1) := by
  unfold natv
  rw [List.eraseIdx_eq_take_drop_succ, List.map_append, List.map_take, List.map_drop]
theorem stable_outK {K M : Mm} {labK : Nat → Nat} {j : Nat} (hB : K.le M) (hj : j ≠ 0) : (stable K labK).le (outK K M labK j) := fun c o h => by
  unfold stable at h
  split at h
  · next hl => exact outK_of hB h (by rw [hl]; exact Ne.symm hj)
  · cases h
end
section
open Go.RowKit
set_option linter.unusedVariables false
set_option linter.unusedSimpArgs false
section
variable {P : Program} {op : Oper} {a : Act} {ops : Array Oper} {σ w : World} {M M0 : Mm} {Q : Exit → Act → World → Prop} {K : Act → World → Prop} {E : Prop}
/-- A variable is made, at a step of a region that draws. -/
theorem step_alloc (h : Has σ M w) (hg : op.guard = none) (t : TypeId) (ho : op.op = .alloc t) (z : Value) (hz : (P.info? t).bind (·.zero) = some z)
    (hk : ∀ b w', Has σ (M.upd b (.cells z.cells t)) w' → M b = none → K (a.put op.dst (.pointer (some ⟨b, 0, none⟩))) w') : if Region.wanted op (yielded ops a.tmps) = true then Oper.wp P op a w K Q else E := by
  have hw : Region.wanted op (yielded ops a.tmps) = true := by simp [Region.wanted, hg]
  rw [if_pos hw]
  cases hi : P.info? t with
  | none => simp [hi] at hz
  | some i =>
    have hz : i.zero = some z := by simpa [hi] using hz
    unfold Oper.wp execOp
    simp [ho, Instr.alloc, zeroValue, typeInfo, hi, hz, newVar, newRow, Sem.run_bind, Sem.run_pure, Result.andThen_ok]
    exact hk w.heap.size (w.alloc (.cells z.cells t)) (h.alloc _) h.fresh
/-- One cell of a row of the call's own is stored, at a step of a region that draws. -/
theorem step_putOne {e : TypeId} {n g cap : Nat} {xs : List Value} (h : Has σ M w) (hle : M0.le M) (hown : Own M0 M e 1 (.slice (some ⟨g, 0, none⟩) n cap) n xs)
    (hgd : op.guard = none) (t : TypeId) (x y : Operand) (ho : op.op = .store t x y) (hdst : op.dst = none) {k : Nat} (hx : a.eval x = .pointer (some ⟨g, k, none⟩)) (hk : k < n) {u : Value} (hy : a.eval y = u) (h1 : u.oneCell' = true) (hi : (P.info? t).map (·.size) = some 1)
    (hK : ∀ w' M', Has σ M' w' → M0.le M' → Own M0 M' e 1 (.slice (some ⟨g, 0, none⟩) n cap) n (xs.set k u) → K a w') : if Region.wanted op (yielded ops a.tmps) = true then Oper.wp P op a w K Q else E := by
  obtain ⟨cur, hg, hlt, hown', hng⟩ := hown.put k u
  exact step_store1 h hgd t x y ho hdst hx hg (by omega) hy h1 hi fun w' h' => hK w' _ h' (Mm.le_upd hle hng _) hown'
/-- append of a literal made just now, at a step of a region that draws. -/
theorem step_applit {M0 : Mm} {w1 : World} {row : Array Value} {e' : TypeId} (h : Has σ M w) (hle : M0.le M) (hg : op.guard = none) (s x : Operand) (t : TypeId)
    (ho : op.op = .call { callee := .builtin .append, args := #[s, x], argTypes := #[t, t] })
    (hww : w1 = w.alloc (.cells row e'))
    {e : TypeId} {z : Value} {size bytes : Nat} (ht : P.underlying t = some (.slice e)) (hi : (P.info? e).map (fun i => (i.zero, i.size, i.bytes)) = some (some z, size, bytes)) (hzs : z.cells.size = size) (hsz : 0 < size)
    {v : Value} {n : Nat} {xs : List Value} (hs : a.eval s = v) (hown : Own M0 M e size v n xs) {m : Nat} (hx : a.eval x = .slice (some ⟨w.heap.size, 0, none⟩) m m) (hl : row.size = m * size) (h1 : row.toList.all (·.oneCell') = true)
    (h63 : n + m ≤ 140737488355328) (hbytes : (n + m) * bytes ≤ 140737488355328)
    (hk : ∀ v' w', Acc σ M0 w' e size v' (n + m) (xs ++ row.toList) → K (a.put op.dst v') w') : if Region.wanted op (yielded ops a.tmps) = true then Oper.wp P op a w1 K Q else E := by
  have hw : Region.wanted op (yielded ops a.tmps) = true := by simp [Region.wanted, hg]
  rw [if_pos hw]
  subst hww
  obtain ⟨i, hi1, hz, hsize, hby⟩ := info_parts hi
  have hc : ∀ j x, row.toList[j]? = some x → (w.alloc (.cells row e')).cell? ((⟨w.heap.size, 0, none⟩ : Addr).add j) = some x := fun j x hx => by
    rw [Addr.add_mid, Nat.zero_add, cell_of_row _ _ j row e' (0, 0) (heap_alloc_new w _)]
    simpa using hx
  obtain ⟨v', w', hr, M', hH, hl', hO, _⟩ := run_append_own_has (P := P) (h.quietAlloc (.cells row e')) hle t op.type e i z size bytes ht hi1 hz hsize hby hzs hsz hown (.slice (some ⟨w.heap.size, 0, none⟩) m m) (m := m) (news := row.toList)
    (.inr ⟨_, _, rfl, hc⟩) (by simpa using hl) (fun u hu => (List.all_eq_true.1 h1) u hu) (by unfold maxLen; omega) hbytes
  unfold Oper.wp execOp
  simp only [ho, resolve, invoke, builtin, Sem.run_bind, Sem.run_pure, Result.andThen_ok, List.map_toArray, List.map_cons, List.map_nil, hs, hx, hr]
  exact hk v' w' ⟨M', hH, hl', hO⟩
end
/-- One block is known, and no other. -/
def Mm.one (b : Nat) (o : Obj) : Mm := fun c => if c = b then some o else none
theorem Mm.one_get (b : Nat) (o : Obj) : Mm.one b o b = some o := if_pos rfl
theorem Mm.one_le {b : Nat} {o : Obj} {M : Mm} (h : M b = some o) : (Mm.one b o).le M := fun c o' hc => by
  unfold Mm.one at hc
  split at hc
  · next e => subst e; cases hc; exact h
  · cases hc
end
end Go.Proofs.Ytefjjagejgeedaa
