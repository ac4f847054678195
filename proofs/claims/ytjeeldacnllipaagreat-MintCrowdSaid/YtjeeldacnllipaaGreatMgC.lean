/- Law 25, MintCrowd, plain: each bit of a thread of a crowd keeps what always holds. -/
import Derived.Test.YtjeeldacnllipaaGreatMgB
import Derived.Test.YtjeeldacnllipaaGreatWalk
import Derived.Test.YtjeeldacnllipaaGreatWords
import Derived.Test.YtjeeldacnllipaaGreatConfLevel
import Derived.Test.YtjeeldacnllipaaGreatMgA
namespace Go.Proofs.YtjeeldacnllipaaGreat
set_option linter.unusedVariables false
set_option linter.unusedSimpArgs false
set_option linter.unnecessarySimpa false
section
open Go.RowKit
/-- From state to state, so many steps, thread t within more than d frames ahead of each. -/
def Steps (D : Nat → GM → GM → Prop) (t d : Nat) : Nat → Nat → GM → GM → Prop
 | _, 0, g, g' => g' = g
 | n, k + 1, g, g' => ∃ g1, D n g g1 ∧ d < (g.thr t).length ∧ (g.thr t).length < 1000 ∧ Steps D t d (n + 1) k g1 g'
section
variable {D : Nat → GM → GM → Prop} {t d n a b k : Nat} {g g1 g2 : GM}
theorem Steps.cons (hD : D n g g1) (h1 : d < (g.thr t).length) (h2 : (g.thr t).length < 1000) (h : Steps D t d (n + 1) k g1 g2) : Steps D t d n (k + 1) g g2 := ⟨g1, hD, h1, h2, h⟩
theorem Steps.trans : ∀ {a n : Nat} {g : GM}, Steps D t d n a g g1 → Steps D t d (n + a) b g1 g2 → Steps D t d n (a + b) g g2
 | 0, n, g, h, h2 => by
  have e : g1 = g := h
  subst e
  rw [Nat.zero_add]; exact h2
 | a + 1, n, g, h, h2 => by
  obtain ⟨g', hD, h3, h4, h5⟩ := h
  rw [show a + 1 + b = a + b + 1 by omega]
  exact ⟨g', hD, h3, h4, h5.trans (by rw [show n + 1 + a = n + (a + 1) by omega]; exact h2)⟩
end
/-- Alone tells how many steps there were. -/
theorem Steps.alone {do_ : FuncId} {σ w : World} {K M : Mm} {lab : Nat → Nat} {p t q n l k most fn : Nat} {c : Nat → Int} {tp : List Nat} {s : MachS} {g g2 : GM} {us : List Nat} {rv : Value} (hS : Steps (fun n g g2 => DoesTo do_ σ p t c tp n l g g2) t 0 n k (g.top t [] ⟨fn, 0, fun i => us.getD i 0⟩) g2) (h : Has σ M w) (hM : Mach M lab p s) (hB : Base K M lab) (hA : AbsM c tp n s g) (hn : n < 90000) (ht : (t : Int) < c 1) (hq : tp[t]? = some q) (hl : levelOf c t = (l : Nat)) (hi : g.thr t = []) (hr : Rd M 1 rv us.length (u64s (us.map fun u : Nat => (u : Int)))) (hu : us.length ≤ 16) (hd : g2.thr t = []) (hk : 0 < k) (hkm : k ≤ most) (hm : most < 1000) (hent : entB Tryz.prog do_ = true) :
  Calls Tryz.prog 14 #[.pointer (some ⟨p, 0, none⟩), .int .i64 (t : Nat), .func (.func do_) #[] #[], .int .i64 (most : Nat), .int .i64 (fn : Nat), rv] w fun r w' => r = .returned (.int .i64 (k : Nat)) ∧ ∃ M' lab' s', Has σ M' w' ∧ Mach M' lab' p s' ∧ Base K M' lab' ∧ AbsM c tp (n + k) s' g2 := by
 have hfr : (s.thr t).frames = [] := by rw [hA.thr.fr t ht, hi]; rfl
 have hB0 := hA.begun ht fn us
 rw [hi] at hB0
 refine (alone_rel (dv := .func (.func do_) #[] #[]) h hM hB (by rw [hA.ttp]; exact hq) (us := us.map fun u : Nat => (u : Int)) (by rw [List.length_map]; exact hr) (by rw [List.length_map]; exact hu) (by rw [hfr]; simp) fn (P := fun i s => ∃ gi, AbsM c tp (n + i) s gi ∧ Steps (fun n g g2 => DoesTo do_ σ p t c tp n l g g2) t 0 (n + i) (k - i) gi g2) ⟨_, hB0, hS⟩ hk hkm (by omega) ?_).mono fun r w' ⟨hr, M', lab', s', h', hM', hB', gi, hA', hS'⟩ => ?_
 ·refine ⟨fun i hi M lab s w hw hM hB ⟨gi, hA, hS⟩ => ?_, fun i hi s ⟨gi, hA, _⟩ => by rw [hA.ttp]; exact hq, fun i h0 hi s ⟨gi, hA, hS⟩ => ?_, fun s ⟨gi, hA, hS⟩ => ?_⟩
  ·obtain ⟨j, hj⟩ : ∃ j, k - i = j + 1 := ⟨k - i - 1, by omega⟩
   rw [hj] at hS
   obtain ⟨g1, hD, h1, h2, hS⟩ := hS
   have hl1 : (g1.thr t).length < 1000 := by
    rcases j with _ | j
    ·have e : g2 = g1 := hS
     rw [← e, hd]; simp
    ·obtain ⟨_, _, _, h3, _⟩ := hS; exact h3
   refine (step_does hw hM hB hA (by omega) ht hq hl (fun e => by rw [e] at h1; simp at h1) (by omega) (by omega) hent hD).mono fun r w' ⟨M', lab', s', hr, h', hM', hB', hA'⟩ => ?_
   exact ⟨M', lab', _, s', hr, h', hM', hB', g1, hA', by rw [show k - (i + 1) = j by omega]; exact hS⟩
  ·obtain ⟨j, hj⟩ : ∃ j, k - i = j + 1 := ⟨k - i - 1, by omega⟩
   rw [hj] at hS
   obtain ⟨g1, hD, h1, h2, hS⟩ := hS
   rw [hfr, hA.thr.fr t ht, List.length_map]; exact h1
  ·rw [Nat.sub_self] at hS
   have e : g2 = gi := hS
   rw [hA.thr.fr t ht, ← e, hd]; simp
 ·rw [Nat.sub_self] at hS'
  have e : g2 = gi := hS'
  subst e
  exact ⟨hr, M', lab', s', h', hM', hB', hA'⟩
section
variable {g : GM} {t l o v i : Nat} {fs fs' : List Fr} {F F' : Fr} {us : List Nat}
theorem gr_same (F : Fr) (i v k : Nat) : ((F.reg i v).goto k).r i = v := put1_same _ _ _
theorem gr_ne {F : Fr} {i v k j : Nat} (h : j ≠ i) : ((F.reg i v).goto k).r j = F.r j := put1_ne h
theorem top_top : (g.top t fs F).top t fs' F' = g.top t fs' F' := by unfold GM.top; simp only [put1_put1]
theorem top_back : (g.top t fs F).back t fs' us = g.back t fs' us := by unfold GM.top GM.back; simp only [put1_put1]
theorem top_set : (g.top t fs F).set l o v = (g.set l o v).top t fs F := rfl
theorem top_hold : (g.top t fs F).hold l i = (g.hold l i).top t fs F := rfl
theorem top_drop : (g.top t fs F).drop l i = (g.drop l i).top t fs F := rfl
theorem top_thr : (g.top t fs F).thr t = fs ++ [F] := put1_same _ _ _
theorem back_thr' : (g.back t fs us).thr t = fs := put1_same _ _ _
theorem set_w (l' o' : Nat) : (g.set l o v).w l' o' = if l' = l ∧ o' = o then v else g.w l' o' := by
 show put1 g.w l (put1 (g.w l) o v) l' o' = _
 by_cases e : l' = l
 ·subst e
  rw [put1_same]
  by_cases e2 : o' = o
  ·subst e2; rw [put1_same, if_pos ⟨rfl, rfl⟩]
  ·rw [put1_ne e2, if_neg (fun h => e2 h.2)]
 ·rw [put1_ne e, if_neg (fun h => e h.1)]
theorem hold_held (l' i' : Nat) : (g.hold l i).held l' i' = if l' = l ∧ i' = i then true else g.held l' i' := by
 show put1 g.held l (put1 (g.held l) i true) l' i' = _
 by_cases e : l' = l
 ·subst e
  rw [put1_same]
  by_cases e2 : i' = i
  ·subst e2; rw [put1_same, if_pos ⟨rfl, rfl⟩]
  ·rw [put1_ne e2, if_neg (fun h => e2 h.2)]
 ·rw [put1_ne e, if_neg (fun h => e h.1)]
theorem drop_held (l' i' : Nat) : (g.drop l i).held l' i' = if l' = l ∧ i' = i then false else g.held l' i' := by
 show put1 g.held l (put1 (g.held l) i false) l' i' = _
 by_cases e : l' = l
 ·subst e
  rw [put1_same]
  by_cases e2 : i' = i
  ·subst e2; rw [put1_same, if_pos ⟨rfl, rfl⟩]
  ·rw [put1_ne e2, if_neg (fun h => e2 h.2)]
 ·rw [put1_ne e, if_neg (fun h => e h.1)]
end
/-- A level at rest: its free list, its heads. -/
structure LvR (S B m : Nat) (g : GM) (l : Nat) (L : List Nat) : Prop where
 chain : chainP (fun i => g.w l (oLk B i)) (slOf (g.w l 0)) L
 nodup : L.Nodup
 rng : ∀ x ∈ L, 1 ≤ x ∧ x ≤ S ∧ g.held l x = false
 top : g.w l 0 < 18446744073709551616
 cntN : cnt (g.w l 0) ≤ m
 lk : ∀ i, 1 ≤ i → i ≤ S → g.w l (oLk B i) ≤ S
 hd : ∀ i, 1 ≤ i → i ≤ S → g.w l (oNd B S i 0) < 17179869184 ∧ genOf (g.w l (oNd B S i 0)) ≤ m
/-- What Take makes; what Give makes. -/
def takeG (B S : Nat) (g : GM) (t l : Nat) (fs : List Fr) (x : Nat) : GM := ((g.set l 0 (mkTop (g.w l (oLk B x)) (cnt (g.w l 0) + 1))).hold l x).back t fs [x, genOf (g.w l (oNd B S x 0))]
def goneG (B S : Nat) (g : GM) (l x : Nat) : GM := ((((((g.set l (oNd B S x 0) (mkHead (genOf (g.w l (oNd B S x 0))) 3)).set l (oNd B S x 3) 0).set l (oNd B S x 4) 0).set l (oNd B S x 2) 0).set l (oNd B S x 1) 0).set l (oNd B S x 0) (mkHead (genOf (g.w l (oNd B S x 0)) + 1) 0)).drop l x
def giveG (B S gens : Nat) (g : GM) (t l : Nat) (fs : List Fr) (x : Nat) : GM := if genOf (g.w l (oNd B S x 0)) + 1 < gens then (((goneG B S g l x).set l (oLk B x) (slOf (g.w l 0))).set l 0 (mkTop x (cnt (g.w l 0) + 1))).back t fs [] else (goneG B S g l x).back t fs []
section
variable {D : Nat → GM → GM → Prop} {σ : World} {p t q l n B S m d gens : Nat} {c : Nat → Int} {tp : List Nat} {g : GM} {fs : List Fr} {F : Fr} {L : List Nat} {x : Nat}
theorem nd0_lt {g : GM} (I : LvR S B m g l L) (x1 : 1 ≤ x) (x2 : x ≤ S) : g.w l (oNd B S x 0) < 18446744073709551616 := Nat.lt_trans (I.hd x x1 x2).1 (by decide)
/-- Take alone, of an empty list. -/
theorem steps_take_no (hD : ∀ (n : Nat) (g g2 : GM) (fs : List Fr) (F : Fr), n < 100000 → (F.fn = 1 ∨ F.fn = 2) → g.thr t = fs ++ [F] → fs.length < 100000 → DoesTo 105 σ p t c tp n l g g2 → D n g g2) (hn : n < 90000) (ht : (t : Int) < c 1) (hq : tp[t]? = some q) (hl : levelOf c t = (l : Nat)) (hlc : (l : Int) < c 0) (hthr : g.thr t = fs ++ [F]) (hfs : fs.length < 900) (hds : d ≤ fs.length) (hB' : c 11 = (B : Nat)) (hS' : c 10 = (S : Nat)) (hS60 : S ≤ 60) (hm : m < 1000000) (I : LvR S B m g l L) (h1 : F.fn = 1) (hp : F.pc = 0) (hr : F.r 1 < 18446744073709551616) (hL : L = []) : Steps D t d n 2 g (g.back t fs [0, 0]) := by
 have hs : slOf (g.w l 0) = 0 := by have := I.chain; rw [hL] at this; exact this
 have D0 := hD n g _ fs F (by omega) (.inl h1) hthr (by omega) (does_t0 (by omega) ht hq hl hlc hthr (by omega) hB' hS' h1 hp hr)
 have D1 := hD (n + 1) _ _ fs ((F.reg 1 (g.w l 0)).goto 1) (by omega) (.inl h1) top_thr (by omega) (does_t1a (B := B) (S := S) (n := n + 1) (g := g.top t fs ((F.reg 1 (g.w l 0)).goto 1)) (F := (F.reg 1 (g.w l 0)).goto 1) (by omega) ht hq hl hlc top_thr (by omega) hB' hS' h1 rfl I.top hs)
 rw [top_back] at D1
 exact .cons D0 (by rw [hthr]; simp; omega) (by rw [hthr]; simp; omega) (.cons D1 (by rw [top_thr]; simp; omega) (by rw [top_thr]; simp; omega) rfl)
/-- Take alone, of a list that isn't empty. -/
theorem steps_take (hD : ∀ (n : Nat) (g g2 : GM) (fs : List Fr) (F : Fr), n < 100000 → (F.fn = 1 ∨ F.fn = 2) → g.thr t = fs ++ [F] → fs.length < 100000 → DoesTo 105 σ p t c tp n l g g2 → D n g g2) (hn : n < 90000) (ht : (t : Int) < c 1) (hq : tp[t]? = some q) (hl : levelOf c t = (l : Nat)) (hlc : (l : Int) < c 0) (hthr : g.thr t = fs ++ [F]) (hfs : fs.length < 900) (hds : d ≤ fs.length) (hB' : c 11 = (B : Nat)) (hS' : c 10 = (S : Nat)) (hS60 : S ≤ 60) (hm : m < 1000000) (I : LvR S B m g l L) (h1 : F.fn = 1) (hp : F.pc = 0) (hr : F.r 1 < 18446744073709551616) {r : List Nat} (hL : L = x :: r) : Steps D t d n 4 g (takeG B S g t l fs x) := by
 subst hL
 obtain ⟨hs, hx1, hc2⟩ := I.chain
 obtain ⟨_, hx2, hh⟩ := I.rng x List.mem_cons_self
 have hlk : g.w l (oLk B x) ≤ S := I.lk x hx1 hx2
 have D0 := hD n g _ fs F (by omega) (.inl h1) hthr (by omega) (does_t0 (by omega) ht hq hl hlc hthr (by omega) hB' hS' h1 hp hr)
 obtain ⟨F1, hF1⟩ : ∃ F1, F1 = (F.reg 1 (g.w l 0)).goto 1 := ⟨_, rfl⟩
 rw [← hF1] at D0
 have f1 : F1.fn = 1 ∧ F1.pc = 1 ∧ F1.r 1 = g.w l 0 := by rw [hF1]; exact ⟨h1, rfl, gr_same _ _ _ _⟩
 have D1 := hD (n + 1) _ _ fs _ (by omega) (.inl f1.1) top_thr (by omega) (does_t1b (B := B) (S := S) (n := n + 1) (g := g.top t fs F1) (F := F1) (by omega) ht hq hl hlc top_thr (by omega) hB' hS' f1.1 f1.2.1 (by rw [f1.2.2]; exact I.top) (by rw [f1.2.2, hs]; omega) (by rw [f1.2.2, hs]; exact hx2))
 rw [top_top, f1.2.2, hs] at D1
 obtain ⟨F2, hF2⟩ : ∃ F2, F2 = (F1.reg 2 ((g.top t fs F1).w l (oLk B x))).goto 2 := ⟨_, rfl⟩
 rw [← hF2] at D1
 have f2 : F2.fn = 1 ∧ F2.pc = 2 ∧ F2.r 1 = g.w l 0 ∧ F2.r 2 = g.w l (oLk B x) := by
  rw [hF2]; exact ⟨f1.1, rfl, (gr_ne (by decide)).trans f1.2.2, gr_same _ _ _ _⟩
 have D2 := hD (n + 2) _ _ fs _ (by omega) (.inl f2.1) top_thr (by omega) (does_t2a (B := B) (S := S) (n := n + 2) (g := g.top t fs F2) (F := F2) (by omega) ht hq hl hlc top_thr (by omega) hB' hS' f2.1 f2.2.1 (by rw [f2.2.2.1]; exact I.top) (by rw [f2.2.2.1, hs]; omega) (by rw [f2.2.2.1, hs]; exact hx2) (by rw [f2.2.2.2]; omega) f2.2.2.1.symm (by rw [f2.2.2.1, hs]; exact hh))
 rw [top_set, top_hold, top_top, f2.2.2.1, f2.2.2.2, hs] at D2
 obtain ⟨F3, hF3⟩ : ∃ F3, F3 = F2.goto 3 := ⟨_, rfl⟩
 rw [← hF3] at D2
 have f3 : F3.fn = 1 ∧ F3.pc = 3 ∧ F3.r 1 = g.w l 0 := by rw [hF3]; exact ⟨f2.1, rfl, f2.2.2.1⟩
 obtain ⟨g3, hg3⟩ : ∃ g3, g3 = (g.set l 0 (mkTop (g.w l (oLk B x)) (cnt (g.w l 0) + 1))).hold l x := ⟨_, rfl⟩
 rw [← hg3] at D2
 have hw3 : g3.w l (oNd B S x 0) = g.w l (oNd B S x 0) := by
  rw [hg3]
  show (g.set l 0 _).w l _ = _
  rw [set_w, if_neg (fun h => by have := h.2; unfold oNd at this; omega)]
 have D3 := hD (n + 3) _ _ fs _ (by omega) (.inl f3.1) top_thr (by omega) (does_t3 (B := B) (S := S) (n := n + 3) (g := g3.top t fs F3) (F := F3) (by omega) ht hq hl hlc top_thr (by omega) hB' hS' f3.1 f3.2.1 (by rw [f3.2.2]; exact I.top) (by rw [f3.2.2, hs]; omega) (by rw [f3.2.2, hs]; exact hx2) (by rw [f3.2.2, hs]; show g3.w l _ < _; rw [hw3]; exact nd0_lt I hx1 hx2))
 have e3 : (g3.top t fs F3).w l (oNd B S x 0) = g.w l (oNd B S x 0) := hw3
 rw [top_back, f3.2.2, hs, e3] at D3
 have fin : takeG B S g t l fs x = g3.back t fs [x, genOf (g.w l (oNd B S x 0))] := by rw [hg3]; rfl
 rw [fin]
 exact .cons D0 (by rw [hthr]; simp; omega) (by rw [hthr]; simp; omega) (.cons D1 (by rw [top_thr]; simp; omega) (by rw [top_thr]; simp; omega) (.cons D2 (by rw [top_thr]; simp; omega) (by rw [top_thr]; simp; omega) (.cons D3 (by rw [top_thr]; simp; omega) (by rw [top_thr]; simp; omega) rfl)))
end
end
section
open Go.RowKit
section
variable {t l n B S m gens : Nat} {g : GM} {fs : List Fr} {L r : List Nat} {x : Nat}
theorem LvR.mono {m' : Nat} (h : LvR S B m g l L) (hm : m ≤ m') : LvR S B m' g l L := ⟨h.chain, h.nodup, h.rng, h.top, Nat.le_trans h.cntN hm, h.lk, fun i a b => ⟨(h.hd i a b).1, Nat.le_trans (h.hd i a b).2 hm⟩⟩
/-- What doesn't touch a level's list, heads, held slots that are free. -/
theorem LvR.congr {g2 : GM} (h : LvR S B m g l L) (h0 : g2.w l 0 = g.w l 0) (h1 : ∀ i, 1 ≤ i → i ≤ S → g2.w l (oLk B i) = g.w l (oLk B i)) (h2 : ∀ i, 1 ≤ i → i ≤ S → g2.w l (oNd B S i 0) = g.w l (oNd B S i 0)) (h3 : ∀ x ∈ L, g2.held l x = g.held l x) : LvR S B m g2 l L :=
 ⟨by rw [h0]; exact chainP_congr _ _ h.chain fun x hx => h1 x (h.rng x hx).1 (h.rng x hx).2.1, h.nodup, fun x hx => ⟨(h.rng x hx).1, (h.rng x hx).2.1, by rw [h3 x hx]; exact (h.rng x hx).2.2⟩, by rw [h0]; exact h.top, by rw [h0]; exact h.cntN, fun i a b => by rw [h1 i a b]; exact h.lk i a b, fun i a b => by rw [h2 i a b]; exact h.hd i a b⟩
theorem LvR.take (I : LvR S B m g l (x :: r)) (hm : m < 900000) (hS60 : S ≤ 60) : LvR S B (m + 1) (takeG B S g t l fs x) l r := by
 obtain ⟨hs, hx1, hc2⟩ := I.chain
 obtain ⟨_, hx2, hh⟩ := I.rng x List.mem_cons_self
 have hnd := List.nodup_cons.1 I.nodup
 have hw : ∀ o, o ≠ 0 → (takeG B S g t l fs x).w l o = g.w l o := fun o ho => by
  show (g.set l 0 _).w l o = _
  rw [set_w, if_neg (fun h => ho h.2)]
 have hw0 : (takeG B S g t l fs x).w l 0 = mkTop (g.w l (oLk B x)) (cnt (g.w l 0) + 1) := by
  show (g.set l 0 _).w l 0 = _
  rw [set_w, if_pos ⟨rfl, rfl⟩]
 have hlk := I.lk x hx1 hx2
 have hcn := I.cntN
 have olk : ∀ i, oLk B i ≠ 0 := fun i => by unfold oLk; omega
 have ond : ∀ i, oNd B S i 0 ≠ 0 := fun i => by unfold oNd; omega
 refine ⟨?_, hnd.2, fun y hy => ?_, by rw [hw0]; exact top_lt _ _, ?_, fun i a b => by rw [hw _ (olk i)]; exact I.lk i a b, fun i a b => by rw [hw _ (ond i)]; exact ⟨(I.hd i a b).1, Nat.le_succ_of_le (I.hd i a b).2⟩⟩
 ·rw [hw0, sl_top (by omega)]
  exact chainP_congr _ _ hc2 fun y hy => hw _ (olk y)
 ·obtain ⟨a, b, e⟩ := I.rng y (List.mem_cons_of_mem _ hy)
  refine ⟨a, b, ?_⟩
  show (GM.hold (g.set l 0 _) l x).held l y = false
  rw [hold_held, if_neg (fun h => hnd.1 (by rw [← h.2]; exact hy))]
  exact e
 ·rw [hw0, cnt_top (by omega)]; omega
end
end
section
open Go.RowKit
section
variable {g : GM} {t l o v i : Nat} {fs fs' : List Fr} {F : Fr} {us us' : List Nat}
theorem back_set : (g.back t fs us).set l o v = (g.set l o v).back t fs us := rfl
theorem back_back : (g.back t fs us).back t fs' us' = g.back t fs' us' := by unfold GM.back; simp only [put1_put1]
theorem set_top_back : ((g.back t fs us).top t fs' F).back t fs' us' = g.back t fs' us' := by rw [top_back, back_back]
end
/-- What Mint makes, of the first slot of the free list. -/
def madeW (B S : Nat) (g : GM) (l x st key a b : Nat) : GM := ((((((g.set l 0 (mkTop (g.w l (oLk B x)) (cnt (g.w l 0) + 1))).hold l x).set l (oNd B S x 2) key).set l (oNd B S x 3) a).set l (oNd B S x 4) b).set l (oNd B S x 1) 0).set l (oNd B S x 0) (mkHead (genOf (g.w l (oNd B S x 0))) st)
def madeG (B S : Nat) (g : GM) (t l x st key a b : Nat) : GM := (madeW B S g l x st key a b).back t [] [x, genOf (g.w l (oNd B S x 0))]
section
variable {σ : World} {p t q l n B S m : Nat} {c : Nat → Int} {tp : List Nat} {g : GM} {F : Fr} {L r : List Nat} {x : Nat}
theorem takeG_top (fs fs' : List Fr) (F : Fr) : takeG B S (g.top t fs' F) t l fs x = takeG B S g t l fs x := by
 unfold takeG
 have e : ∀ o, (g.top t fs' F).w l o = g.w l o := fun _ => rfl
 rw [e, e, e, top_set, top_hold, top_back]
theorem LvR.atop (I : LvR S B m g l L) (fs : List Fr) (F : Fr) : LvR S B m (g.top t fs F) l L := I.congr rfl (fun _ _ _ => rfl) (fun _ _ _ => rfl) (fun _ _ => rfl)
theorem hand (ht : (t : Int) < c 1) (hq : tp[t]? = some q) (hl : levelOf c t = (l : Nat)) (hlc : (l : Int) < c 0) : ∀ (n : Nat) (g g2 : GM) (fs : List Fr) (F : Fr), n < 100000 → (F.fn = 1 ∨ F.fn = 2) → g.thr t = fs ++ [F] → fs.length < 100000 → DoesTo 105 σ p t c tp n l g g2 → DoesTo 41 σ p t c tp n l g g2 :=
 fun n g g2 fs F hn hf hthr hfs D => hand_st hn ht hq hl hlc hthr hfs hf D
/-- Mint of no slot. -/
theorem steps_mint_no (hn : n < 80000) (ht : (t : Int) < c 1) (hq : tp[t]? = some q) (hl : levelOf c t = (l : Nat)) (hlc : (l : Int) < c 0) (hthr : g.thr t = [F]) (hB' : c 11 = (B : Nat)) (hS' : c 10 = (S : Nat)) (hS60 : S ≤ 60) (hm : m < 900000) (I : LvR S B m g l L) (h1 : F.fn = 30) (hp : F.pc = 0) (hL : L = []) : Steps (fun n g g2 => DoesTo 41 σ p t c tp n l g g2) t 0 n 4 g (g.back t [] [0]) := by
 have D0 := does_m0 (σ := σ) (p := p) (n := n) (fs := []) (by omega) ht hq hl hlc hthr (by simp) hB' hS' h1 hp
 rw [List.nil_append] at D0
 have T := steps_take_no (D := (fun n g g2 => DoesTo 41 σ p t c tp n l g g2)) (p := p) (d := 0) (n := n + 1) (fs := [F.goto 1]) (hand ht hq hl hlc) (by omega) ht hq hl hlc (top_thr (g := g) (t := t)) (by simp) (Nat.zero_le _) hB' hS' hS60 (by omega) (I.atop [F.goto 1] ⟨1, 0, fun _ => 0⟩) rfl rfl (by show 0 < _; decide) hL
 rw [top_back] at T
 have D1 := does_m1no (σ := σ) (p := p) (n := n + 3) (fs := []) (g := g.back t [F.goto 1] [0, 0]) (F := F.goto 1) (by omega) ht hq hl hlc back_thr' (by simp) hB' hS' h1 rfl (by show put1 g.told t _ t 0 = 0; rw [put1_same]; rfl)
 rw [back_back] at D1
 refine .cons D0 (by rw [hthr]; simp) (by rw [hthr]; simp) ?_
 exact T.trans (b := 1) (.cons D1 (by rw [back_thr']; simp) (by rw [back_thr']; simp) rfl)
/-- Mint of the first slot. -/
theorem steps_mint (hn : n < 80000) (ht : (t : Int) < c 1) (hq : tp[t]? = some q) (hl : levelOf c t = (l : Nat)) (hlc : (l : Int) < c 0) (hthr : g.thr t = [F]) (hB' : c 11 = (B : Nat)) (hS' : c 10 = (S : Nat)) (hS60 : S ≤ 60) (hm : m < 900000) (I : LvR S B m g l L) (h1 : F.fn = 30) (hp : F.pc = 0) (hst : F.r 0 < 256) (hL : L = x :: r) : Steps (fun n g g2 => DoesTo 41 σ p t c tp n l g g2) t 0 n 12 g (madeG B S g t l x (F.r 0) (F.r 1) (F.r 2) (F.r 3)) := by
 have I' := I
 rw [hL] at I'
 obtain ⟨hs, hx1, hc2⟩ := I'.chain
 obtain ⟨_, hx2, hh⟩ := I'.rng x List.mem_cons_self
 have hgm := (I.hd x hx1 hx2).2
 have D0 := does_m0 (σ := σ) (p := p) (n := n) (fs := []) (by omega) ht hq hl hlc hthr (by simp) hB' hS' h1 hp
 rw [List.nil_append] at D0
 have T := steps_take (D := (fun n g g2 => DoesTo 41 σ p t c tp n l g g2)) (p := p) (d := 0) (n := n + 1) (fs := [F.goto 1]) (hand ht hq hl hlc) (by omega) ht hq hl hlc (top_thr (g := g) (t := t)) (by simp) (Nat.zero_le _) hB' hS' hS60 (by omega) (I.atop [F.goto 1] ⟨1, 0, fun _ => 0⟩) rfl rfl (by show 0 < _; decide) hL
 rw [takeG_top] at T
 obtain ⟨g1, hg1⟩ : ∃ G, G = takeG B S g t l [F.goto 1] x := ⟨_, rfl⟩
 rw [← hg1] at T
 have t1 : g1.thr t = [F.goto 1] := by rw [hg1]; exact back_thr'
 have tl0 : g1.told t 0 = x := by rw [hg1]; show put1 g.told t _ t 0 = x; rw [put1_same]; rfl
 have tl1 : g1.told t 1 = genOf (g.w l (oNd B S x 0)) := by rw [hg1]; show put1 g.told t _ t 1 = _; rw [put1_same]; rfl
 have D1 := does_m1 (σ := σ) (p := p) (n := n + 5) (fs := []) (g := g1) (F := F.goto 1) (by omega) ht hq hl hlc t1 (by simp) hB' hS' h1 rfl (by rw [tl0]; omega)
 rw [tl0, tl1] at D1
 obtain ⟨F2, hF2⟩ : ∃ G, G = (((F.goto 1).reg 4 x).reg 5 (genOf (g.w l (oNd B S x 0)))).goto 2 := ⟨_, rfl⟩
 rw [← hF2] at D1
 have f2 : F2.fn = 30 ∧ F2.pc = 2 ∧ F2.r 4 = x ∧ F2.r 5 = genOf (g.w l (oNd B S x 0)) ∧ (∀ i, i < 4 → F2.r i = F.r i) := by
  rw [hF2]
  refine ⟨h1, rfl, (gr_ne (by decide)).trans (show put1 F.r 4 x 4 = x from put1_same _ _ _), gr_same _ _ _ _, fun i hi => (gr_ne (by omega)).trans (show put1 F.r 4 x i = F.r i from put1_ne (by omega))⟩
 obtain ⟨g2, hg2⟩ : ∃ G, G = g1 := ⟨_, rfl⟩
 rw [← hg2] at D1
 have D2 := does_m2 (σ := σ) (p := p) (n := n + 6) (fs := []) (g := g2.top t [] F2) (F := F2) (B := B) (S := S) (by omega) ht hq hl hlc top_thr (by simp) hB' hS' f2.1 f2.2.1 (by rw [f2.2.2.1]; exact hx1) (by rw [f2.2.2.1]; exact hx2)
 rw [top_set, top_top, f2.2.2.1] at D2
 obtain ⟨F3, hF3⟩ : ∃ G, G = F2.goto (2 + 1) := ⟨_, rfl⟩
 rw [← hF3] at D2
 have f3 : F3.fn = 30 ∧ F3.pc = 3 ∧ F3.r 4 = x ∧ F3.r 5 = genOf (g.w l (oNd B S x 0)) ∧ (∀ i, i < 4 → F3.r i = F.r i) := by rw [hF3]; exact ⟨f2.1, rfl, f2.2.2.1, f2.2.2.2.1, f2.2.2.2.2⟩
 obtain ⟨g3, hg3⟩ : ∃ G, G = g2.set l (oNd B S x 2) (F.r 1) := ⟨_, rfl⟩
 rw [f2.2.2.2.2 1 (by decide), ← hg3] at D2
 have D3 := does_m3 (σ := σ) (p := p) (n := n + 7) (fs := []) (g := g3.top t [] F3) (F := F3) (B := B) (S := S) (by omega) ht hq hl hlc top_thr (by simp) hB' hS' f3.1 f3.2.1 (by rw [f3.2.2.1]; exact hx1) (by rw [f3.2.2.1]; exact hx2)
 rw [top_set, top_top, f3.2.2.1] at D3
 obtain ⟨F4, hF4⟩ : ∃ G, G = F3.goto (3 + 1) := ⟨_, rfl⟩
 rw [← hF4] at D3
 have f4 : F4.fn = 30 ∧ F4.pc = 4 ∧ F4.r 4 = x ∧ F4.r 5 = genOf (g.w l (oNd B S x 0)) ∧ (∀ i, i < 4 → F4.r i = F.r i) := by rw [hF4]; exact ⟨f3.1, rfl, f3.2.2.1, f3.2.2.2.1, f3.2.2.2.2⟩
 obtain ⟨g4, hg4⟩ : ∃ G, G = g3.set l (oNd B S x 3) (F.r 2) := ⟨_, rfl⟩
 rw [f3.2.2.2.2 2 (by decide), ← hg4] at D3
 have D4 := does_m4 (σ := σ) (p := p) (n := n + 8) (fs := []) (g := g4.top t [] F4) (F := F4) (B := B) (S := S) (by omega) ht hq hl hlc top_thr (by simp) hB' hS' f4.1 f4.2.1 (by rw [f4.2.2.1]; exact hx1) (by rw [f4.2.2.1]; exact hx2)
 rw [top_set, top_top, f4.2.2.1] at D4
 obtain ⟨F5, hF5⟩ : ∃ G, G = F4.goto (4 + 1) := ⟨_, rfl⟩
 rw [← hF5] at D4
 have f5 : F5.fn = 30 ∧ F5.pc = 5 ∧ F5.r 4 = x ∧ F5.r 5 = genOf (g.w l (oNd B S x 0)) ∧ (∀ i, i < 4 → F5.r i = F.r i) := by rw [hF5]; exact ⟨f4.1, rfl, f4.2.2.1, f4.2.2.2.1, f4.2.2.2.2⟩
 obtain ⟨g5, hg5⟩ : ∃ G, G = g4.set l (oNd B S x 4) (F.r 3) := ⟨_, rfl⟩
 rw [f4.2.2.2.2 3 (by decide), ← hg5] at D4
 have D5 := does_m5 (σ := σ) (p := p) (n := n + 9) (fs := []) (g := g5.top t [] F5) (F := F5) (B := B) (S := S) (by omega) ht hq hl hlc top_thr (by simp) hB' hS' f5.1 f5.2.1 (by rw [f5.2.2.1]; exact hx1) (by rw [f5.2.2.1]; exact hx2)
 rw [top_set, top_top, f5.2.2.1] at D5
 obtain ⟨F6, hF6⟩ : ∃ G, G = F5.goto (5 + 1) := ⟨_, rfl⟩
 rw [← hF6] at D5
 have f6 : F6.fn = 30 ∧ F6.pc = 6 ∧ F6.r 4 = x ∧ F6.r 5 = genOf (g.w l (oNd B S x 0)) ∧ (∀ i, i < 4 → F6.r i = F.r i) := by rw [hF6]; exact ⟨f5.1, rfl, f5.2.2.1, f5.2.2.2.1, f5.2.2.2.2⟩
 obtain ⟨g6, hg6⟩ : ∃ G, G = g5.set l (oNd B S x 1) 0 := ⟨_, rfl⟩
 rw [← hg6] at D5
 have D6 := does_m6 (σ := σ) (p := p) (n := n + 10) (fs := []) (g := g6.top t [] F6) (F := F6) (B := B) (S := S) (by omega) ht hq hl hlc top_thr (by simp) hB' hS' f6.1 f6.2.1 (by rw [f6.2.2.1]; exact hx1) (by rw [f6.2.2.1]; exact hx2) (by rw [f6.2.2.2.1]; omega) (by rw [f6.2.2.2.2 0 (by decide)]; exact hst)
 rw [top_set, top_top, f6.2.2.1, f6.2.2.2.1, f6.2.2.2.2 0 (by decide)] at D6
 obtain ⟨F7, hF7⟩ : ∃ G, G = F6.goto 7 := ⟨_, rfl⟩
 rw [← hF7] at D6
 have f7 : F7.fn = 30 ∧ F7.pc = 7 ∧ F7.r 4 = x ∧ F7.r 5 = genOf (g.w l (oNd B S x 0)) := by rw [hF7]; exact ⟨f6.1, rfl, f6.2.2.1, f6.2.2.2.1⟩
 obtain ⟨g7, hg7⟩ : ∃ G, G = g6.set l (oNd B S x 0) (mkHead (genOf (g.w l (oNd B S x 0))) (F.r 0)) := ⟨_, rfl⟩
 rw [← hg7] at D6
 have D7 := does_m7 (σ := σ) (p := p) (n := n + 11) (fs := []) (g := g7.top t [] F7) (F := F7) (B := B) (S := S) (by omega) ht hq hl hlc top_thr (by simp) hB' hS' f7.1 f7.2.1
 rw [top_back, f7.2.2.1, f7.2.2.2] at D7
 have fin : madeG B S g t l x (F.r 0) (F.r 1) (F.r 2) (F.r 3) = g7.back t [] [x, genOf (g.w l (oNd B S x 0))] := by
  rw [hg7, hg6, hg5, hg4, hg3, hg2, hg1]
  show _ = ((madeW B S g l x (F.r 0) (F.r 1) (F.r 2) (F.r 3)).back t [F.goto 1] _).back t [] _
  rw [back_back]; rfl
 rw [fin]
 refine .cons D0 (by rw [hthr]; simp) (by rw [hthr]; simp) ?_
 rw [← hg2] at T t1
 refine T.trans (b := 7) (.cons (g1 := g2.top t [] F2) D1 (by rw [t1]; simp) (by rw [t1]; simp) ?_)
 exact .cons D2 (by rw [top_thr]; simp) (by rw [top_thr]; simp) (.cons D3 (by rw [top_thr]; simp) (by rw [top_thr]; simp) (.cons D4 (by rw [top_thr]; simp) (by rw [top_thr]; simp) (.cons D5 (by rw [top_thr]; simp) (by rw [top_thr]; simp) (.cons D6 (by rw [top_thr]; simp) (by rw [top_thr]; simp) (.cons D7 (by rw [top_thr]; simp) (by rw [top_thr]; simp) rfl)))))
/-- Words that Mint doesn't touch. -/
theorem made_w (st key a b : Nat) (l' o : Nat) (h : ¬ (l' = l ∧ (o = 0 ∨ (oNd B S x 0 ≤ o ∧ o < oNd B S x 0 + 5)))) : (madeG B S g t l x st key a b).w l' o = g.w l' o := by
 show ((((((g.set l 0 _).set l _ key).set l _ a).set l _ b).set l _ 0).set l _ _).w l' o = _
 unfold oNd at h ⊢
 rw [set_w, if_neg (by omega), set_w, if_neg (by omega), set_w, if_neg (by omega), set_w, if_neg (by omega), set_w, if_neg (by omega), set_w, if_neg (by omega)]
theorem made_0 (st key a b : Nat) : (madeG B S g t l x st key a b).w l 0 = mkTop (g.w l (oLk B x)) (cnt (g.w l 0) + 1) := by
 show ((((((g.set l 0 _).set l _ key).set l _ a).set l _ b).set l _ 0).set l _ _).w l 0 = _
 unfold oNd
 rw [set_w, if_neg (by omega), set_w, if_neg (by omega), set_w, if_neg (by omega), set_w, if_neg (by omega), set_w, if_neg (by omega), set_w, if_pos ⟨rfl, rfl⟩]
theorem made_node (st key a b : Nat) : (madeG B S g t l x st key a b).w l (oNd B S x 0) = mkHead (genOf (g.w l (oNd B S x 0))) st ∧ (madeG B S g t l x st key a b).w l (oNd B S x 1) = 0 ∧ (madeG B S g t l x st key a b).w l (oNd B S x 2) = key ∧ (madeG B S g t l x st key a b).w l (oNd B S x 3) = a ∧ (madeG B S g t l x st key a b).w l (oNd B S x 4) = b := by
 refine ⟨?_, ?_, ?_, ?_, ?_⟩
 ·show (GM.set _ l _ _).w l _ = _
  rw [set_w, if_pos ⟨rfl, rfl⟩]
 ·show ((GM.set _ l _ 0).set l _ _).w l _ = _
  rw [set_w, if_neg (fun h => by have := h.2; unfold oNd at this; omega), set_w, if_pos ⟨rfl, rfl⟩]
 ·show ((((GM.set _ l _ key).set l _ a).set l _ b).set l _ 0 |>.set l _ _).w l _ = _
  rw [set_w, if_neg (fun h => by have := h.2; unfold oNd at this; omega), set_w, if_neg (fun h => by have := h.2; unfold oNd at this; omega), set_w, if_neg (fun h => by have := h.2; unfold oNd at this; omega), set_w, if_neg (fun h => by have := h.2; unfold oNd at this; omega), set_w, if_pos ⟨rfl, rfl⟩]
 ·show (((GM.set _ l _ a).set l _ b).set l _ 0 |>.set l _ _).w l _ = _
  rw [set_w, if_neg (fun h => by have := h.2; unfold oNd at this; omega), set_w, if_neg (fun h => by have := h.2; unfold oNd at this; omega), set_w, if_neg (fun h => by have := h.2; unfold oNd at this; omega), set_w, if_pos ⟨rfl, rfl⟩]
 ·show ((GM.set _ l _ b).set l _ 0 |>.set l _ _).w l _ = _
  rw [set_w, if_neg (fun h => by have := h.2; unfold oNd at this; omega), set_w, if_neg (fun h => by have := h.2; unfold oNd at this; omega), set_w, if_pos ⟨rfl, rfl⟩]
theorem made_held (st key a b : Nat) (l' y : Nat) : (madeG B S g t l x st key a b).held l' y = if l' = l ∧ y = x then true else g.held l' y := hold_held (g := g.set l 0 _) l' y
theorem LvR.made (I : LvR S B m g l (x :: r)) (hm : m < 900000) (hS60 : S ≤ 60) {st key a b : Nat} : LvR S B (m + 1) (madeG B S g t l x st key a b) l r := by
 have J := I.take (t := t) (fs := []) hm hS60
 obtain ⟨hs, hx1, hc2⟩ := I.chain
 obtain ⟨_, hx2, hh⟩ := I.rng x List.mem_cons_self
 have hgm := (I.hd x hx1 hx2).2
 have e0 : (madeG B S g t l x st key a b).w l 0 = (takeG B S g t l [] x).w l 0 := by
  rw [made_0]
  show _ = (g.set l 0 _).w l 0
  rw [set_w, if_pos ⟨rfl, rfl⟩]
 have ew : ∀ o, o ≠ 0 → ¬ (oNd B S x 0 ≤ o ∧ o < oNd B S x 0 + 5) → (madeG B S g t l x st key a b).w l o = (takeG B S g t l [] x).w l o := fun o h0 h => by
  rw [made_w _ _ _ _ _ _ (by omega)]
  show _ = (g.set l 0 _).w l o
  rw [set_w, if_neg (fun h => h0 h.2)]
 have elk : ∀ i, 1 ≤ i → i ≤ S → (madeG B S g t l x st key a b).w l (oLk B i) = (takeG B S g t l [] x).w l (oLk B i) := fun i h1 h2 => ew _ (by unfold oLk; omega) (by unfold oLk oNd; omega)
 have ehd : ∀ y, (madeG B S g t l x st key a b).held l y = (takeG B S g t l [] x).held l y := fun y => by
  rw [made_held]
  exact (hold_held (g := g.set l 0 _) l y).symm
 refine ⟨by rw [e0]; exact chainP_congr _ _ J.chain fun y hy => elk y (J.rng y hy).1 (J.rng y hy).2.1, J.nodup, fun y hy => ⟨(J.rng y hy).1, (J.rng y hy).2.1, by rw [ehd]; exact (J.rng y hy).2.2⟩, by rw [e0]; exact J.top, by rw [e0]; exact J.cntN, fun i h1 h2 => by rw [elk i h1 h2]; exact J.lk i h1 h2, fun i h1 h2 => ?_⟩
 by_cases e : i = x
 ·subst e
  rw [(made_node st key a b).1]
  exact ⟨head_lt _ _, by rw [gen_head (by omega)]; omega⟩
 ·rw [ew _ (by unfold oNd; omega) (by unfold oNd; omega)]; exact J.hd i h1 h2
end
/-- Slots from one on. -/
def slotsFrom (a m : Nat) : List Nat := (List.range m).map (· + a)
theorem slotsFrom_succ (a m : Nat) : slotsFrom a (m + 1) = a :: slotsFrom (a + 1) m := by
 unfold slotsFrom
 rw [List.range_succ_eq_map, List.map_cons, List.map_map, Nat.zero_add]
 congr 1
 apply List.map_congr_left
 intro x _
 show x + 1 + a = x + (a + 1)
 omega
theorem chain_from (lk : Nat → Nat) (S : Nat) : ∀ (m a : Nat), 1 ≤ a → a + m = S + 1 → (∀ i, a ≤ i → i < S → lk i = i + 1) → lk S = 0 → chainP lk (if m = 0 then 0 else a) (slotsFrom a m)
 | 0, _, _, _, _, _ => rfl
 | m + 1, a, h1, he, hk, hz => by
  rw [slotsFrom_succ, if_neg (by omega)]
  refine ⟨rfl, h1, ?_⟩
  have ih := chain_from lk S m (a + 1) (by omega) (by omega) (fun i h2 h3 => hk i (by omega) h3) hz
  by_cases hm : m = 0
  ·subst hm
   rw [if_pos rfl] at ih
   rw [show a = S by omega, hz]
   exact ih
  ·rw [if_neg hm] at ih
   rw [hk a (Nat.le_refl _) (by omega)]
   exact ih
theorem w0_lk (B S i : Nat) (h1 : 1 ≤ i) (h2 : i ≤ S) : (w0 B S S (oLk B i)).toNat = if 2 ≤ i ∧ i < S then i + 1 else 0 := by
 unfold w0 oLk
 by_cases h : 2 ≤ i ∧ i < S
 ·rw [if_neg (by omega), if_neg (by omega), if_neg (by omega), if_pos (by omega), if_pos h]; omega
 ·rw [if_neg (by omega), if_neg (by omega), if_neg (by omega), if_neg (by omega), if_neg h]; rfl
theorem w0_nd (B S i : Nat) (h1 : 1 ≤ i) : (w0 B S S (oNd B S i 0)).toNat = if i = 1 then 1 else 0 := by
 unfold w0 oNd
 by_cases h : i = 1
 ·rw [if_neg (by omega), if_neg (by omega), if_pos (by omega), if_pos h]; rfl
 ·rw [if_neg (by omega), if_neg (by omega), if_neg (by omega), if_neg (by omega), if_neg h]; rfl
theorem w0_fld (B S i j : Nat) (h1 : 1 ≤ i) (h2 : 1 ≤ j) (h3 : j < 5) : (w0 B S S (oNd B S i j)).toNat = 0 := by
 unfold w0 oNd
 rw [if_neg (by omega), if_neg (by omega), if_neg (by omega), if_neg (by omega)]; rfl
theorem lvR_first {B S : Nat} (hS : 2 ≤ S) (l : Nat) : LvR S B 0 (gm0 B S) l (slotsFrom 2 (S - 1)) := by
 have ez : (gm0 B S).w l 0 = 2 := rfl
 refine ⟨?_, ?_, fun x hx => ?_, by rw [ez]; decide, by rw [ez]; decide, fun i h1 h2 => ?_, fun i h1 h2 => ?_⟩
 ·rw [ez, show slOf 2 = 2 by decide]
  have := chain_from (fun i => (w0 B S S (oLk B i)).toNat) S (S - 1) 2 (by omega) (by omega) (fun i h1 h2 => by show (w0 B S S (oLk B i)).toNat = _; rw [w0_lk B S i (by omega) (by omega), if_pos ⟨h1, h2⟩]) (by show (w0 B S S (oLk B S)).toNat = _; rw [w0_lk B S S (by omega) (by omega), if_neg (by omega)])
  rw [if_neg (by omega)] at this
  exact this
 ·exact List.Pairwise.map _ (fun a b hab e => hab (by omega)) (List.nodup_range (n := S - 1))
 ·obtain ⟨y, hy, rfl⟩ := List.mem_map.1 hx
  have := List.mem_range.1 hy
  refine ⟨by omega, by omega, ?_⟩
  show (y + 2 == 1) = false
  simp
 ·show (w0 B S S (oLk B i)).toNat ≤ S
  rw [w0_lk B S i h1 h2]
  split <;> omega
 ·show (w0 B S S (oNd B S i 0)).toNat < _ ∧ genOf (w0 B S S (oNd B S i 0)).toNat ≤ 0
  rw [w0_nd B S i h1]
  split
  ·exact ⟨by decide, by decide⟩
  ·exact ⟨by decide, by decide⟩
end
section
open Go.RowKit
theorem info_int : (Tryz.prog.info? 3).map (fun i => (i.zero, i.size, i.bytes)) = some (some (.int .i64 0), 1, 8) := by kernel_rfl
theorem Has.box2 {σ w : World} {M : Mm} (h : Has σ M w) (o o' : Obj) : ∃ M', Has σ M' ((w.alloc o).alloc o') ∧ M.le M' ∧ M' w.heap.size = some o ∧ M' (w.heap.size + 1) = some o' ∧ M w.heap.size = none ∧ M (w.heap.size + 1) = none := by
 have ez : (w.alloc o).heap.size = w.heap.size + 1 := by simp
 have h1 := h.alloc o
 have h2 := h1.alloc o'
 have hf := h1.fresh
 rw [ez] at h2 hf
 exact ⟨_, h2, Mm.le_trans (Mm.le_upd' h.fresh _) (Mm.le_upd' hf _), Mm.le_upd' hf _ _ _ (Mm.upd_same _ _ _), Mm.upd_same _ _ _, h.fresh, Mm.none_of (Mm.le_upd' h.fresh o) hf⟩
end
section
open Go.RowKit
theorem refFirst_eq {σ w : World} {M : Mm} (h : Has σ M w) (c : Nat → Int) {L B S : Nat} (hn : Nums c L B S) (k : Nat) (hk : k ≤ 4) : Calls Tryz.prog 109 #[confV c, .int .i64 (k : Nat)] w fun r w' => r = .returned (.int .i64 ((k * (18 + B + 6 * S) : Nat) : Int)) ∧ Has σ M w' := by
 have r11 : (ints .i64 14 c)[11]? = some (.int .i64 (B : Nat)) := by rw [← hn.lim]; rfl
 have r10 : (ints .i64 14 c)[10]? = some (.int .i64 (S : Nat)) := by rw [← hn.slo]; rfl
 have hb := hn.b0
 have hs := hn.s0
 have w1 : IntKind.i64.wrap (18 + (B : Int)) = 18 + (B : Int) := IntWalk.i64_in _ (by omega)
 have w2 : IntKind.i64.wrap (6 * (S : Int)) = 6 * (S : Int) := IntWalk.i64_in _ (by omega)
 have w3 : IntKind.i64.wrap (18 + (B : Int) + 6 * (S : Int)) = 18 + (B : Int) + 6 * (S : Int) := IntWalk.i64_in _ (by omega)
 have hm : k * (18 + B + 6 * S) ≤ 4 * (18 + 40 + 6 * 60) := Nat.mul_le_mul hk (by omega)
 have w4 : IntKind.i64.wrap ((k : Int) * (18 + (B : Int) + 6 * (S : Int))) = (k : Int) * (18 + (B : Int) + 6 * (S : Int)) := by
  have e : (k : Int) * (18 + (B : Int) + 6 * (S : Int)) = ((k * (18 + B + 6 * S) : Nat) : Int) := by push_cast; rfl
  rw [e]
  exact IntWalk.i64_in _ (by omega)
 have E : Hid (((k * (18 + B + 6 * S) : Nat) : Int) = (k : Int) * (18 + (B : Int) + 6 * (S : Int))) := by show _ = _; push_cast; rfl
 rw [E.out]
 clear hb hs hm hn hk E
 unfold confV
 generalize ints .i64 14 c = row at r11 r10
 go_enter Tryz.func109, Tryz.ntmps109
 go_upto_region 1 with (fail)
 obtain ⟨M1, hbx, hle, hbf, hnf⟩ := h.box (.cells row 24)
 generalize w.alloc _ = wx at hbx ⊢
 generalize w.heap.size = bf at hbf hnf ⊢
 clear h
 try clear w
 have h := hbx
 clear hbx
 obtain ⟨w, rfl⟩ : ∃ x : World, x = wx := ⟨_, rfl⟩
 go_wp2_with (first
  | (with_reducible show wpList _ _ _ ({ dst := _, op := Op.load 3 _, type := _, pos := _, after := _, guard := _ } :: _) _ _; refine wpList_load1_has h rfl 3 _ rfl rfl hbf r11 Tryz.underlying3 rfl ?_)
  | (with_reducible show wpList _ _ _ ({ dst := _, op := Op.load 3 _, type := _, pos := _, after := _, guard := _ } :: _) _ _; refine wpList_load1_has h rfl 3 _ rfl rfl hbf r10 Tryz.underlying3 rfl ?_))
 go_ret
 exact ⟨rfl, h.le hle⟩
end
section
open Go.RowKit
set_option maxRecDepth 20000 in
theorem refWord_eq {σ w : World} {M : Mm} (h : Has σ M w) (c : Nat → Int) {L B S : Nat} (hn : Nums c L B S) (k : Nat) (hk : k < L) (i j : Nat) (hi : 1 ≤ i) (hi2 : i ≤ S) (hj : j < 5) : Calls Tryz.prog 110 #[confV c, .int .i64 (k : Nat), .int .i64 (i : Nat), .int .i64 (j : Nat)] w fun r w' => r = .returned (.int .i64 (((k * (18 + B + 6 * S) + (18 + B + S + (i - 1) * 5 + j) : Nat)) : Int)) ∧ Has σ M w' := by
 have r11 : (ints .i64 14 c)[11]? = some (.int .i64 (B : Nat)) := by rw [← hn.lim]; rfl
 have r10 : (ints .i64 14 c)[10]? = some (.int .i64 (S : Nat)) := by rw [← hn.slo]; rfl
 have hb := hn.b0
 have hs := hn.s0
 have hl := hn.l0
 have hm : k * (18 + B + 6 * S) ≤ 4 * (18 + 40 + 6 * 60) := Nat.mul_le_mul (by omega) (by omega)
 have e : (k : Int) * (18 + (B : Int) + 6 * (S : Int)) = ((k * (18 + B + 6 * S) : Nat) : Int) := by push_cast; rfl
 obtain ⟨z, hz⟩ : ∃ z : Nat, k * (18 + B + 6 * S) = z := ⟨_, rfl⟩
 rw [hz] at e hm
 rw [hz]
 have w1 : IntKind.i64.wrap (18 + (B : Int)) = 18 + (B : Int) := IntWalk.i64_in _ (by omega)
 have w2 : IntKind.i64.wrap (6 * (S : Int)) = 6 * (S : Int) := IntWalk.i64_in _ (by omega)
 have w3 : IntKind.i64.wrap (18 + (B : Int) + 6 * (S : Int)) = 18 + (B : Int) + 6 * (S : Int) := IntWalk.i64_in _ (by omega)
 have w4 : IntKind.i64.wrap ((k : Int) * (18 + (B : Int) + 6 * (S : Int))) = (z : Int) := by rw [e]; exact IntWalk.i64_in _ (by omega)
 have w5 : IntKind.i64.wrap ((z : Int) + 18) = (z : Int) + 18 := IntWalk.i64_in _ (by omega)
 have w6 : IntKind.i64.wrap ((z : Int) + 18 + (B : Int)) = (z : Int) + 18 + (B : Int) := IntWalk.i64_in _ (by omega)
 have w7 : IntKind.i64.wrap ((z : Int) + 18 + (B : Int) + (S : Int)) = (z : Int) + 18 + (B : Int) + (S : Int) := IntWalk.i64_in _ (by omega)
 obtain ⟨y, hy⟩ : ∃ y : Nat, i = y + 1 := ⟨i - 1, by omega⟩
 subst hy
 have w8 : IntKind.i64.wrap (((y + 1 : Nat) : Int) - 1) = (y : Int) := by rw [show ((y + 1 : Nat) : Int) - 1 = y by omega]; exact IntWalk.i64_in _ (by omega)
 have w9 : IntKind.i64.wrap (5 * (y : Int)) = 5 * (y : Int) := IntWalk.i64_in _ (by omega)
 have w10 : IntKind.i64.wrap ((z : Int) + 18 + (B : Int) + (S : Int) + 5 * (y : Int)) = (z : Int) + 18 + (B : Int) + (S : Int) + 5 * (y : Int) := IntWalk.i64_in _ (by omega)
 have w11 : IntKind.i64.wrap ((z : Int) + 18 + (B : Int) + (S : Int) + 5 * (y : Int) + (j : Int)) = (z : Int) + 18 + (B : Int) + (S : Int) + 5 * (y : Int) + (j : Int) := IntWalk.i64_in _ (by omega)
 have E : Hid (((z + (18 + B + S + (y + 1 - 1) * 5 + j) : Nat) : Int) = (z : Int) + 18 + (B : Int) + (S : Int) + 5 * (y : Int) + (j : Int)) := Lib.hid (by omega)
 rw [E.out]
 clear hb hs hl hm hn hk E e hz hi hi2 hj
 unfold confV
 generalize ints .i64 14 c = row at r11 r10
 generalize ((y + 1 : Nat) : Int) = iz at *
 go_enter Tryz.func110, Tryz.ntmps110
 go_upto_region 1 with (fail)
 obtain ⟨M1, hbx, hle, hbf, hnf⟩ := h.box (.cells row 24)
 generalize w.alloc _ = wx at hbx ⊢
 generalize w.heap.size = bf at hbf hnf ⊢
 clear h
 try clear w
 have h := hbx
 clear hbx
 obtain ⟨w, rfl⟩ : ∃ x : World, x = wx := ⟨_, rfl⟩
 go_wp2_with (first
  | (with_reducible show wpList _ _ _ ({ dst := _, op := Op.load 3 _, type := _, pos := _, after := _, guard := _ } :: _) _ _; refine wpList_load1_has h rfl 3 _ rfl rfl hbf r11 Tryz.underlying3 rfl ?_)
  | (with_reducible show wpList _ _ _ ({ dst := _, op := Op.load 3 _, type := _, pos := _, after := _, guard := _ } :: _) _ _; refine wpList_load1_has h rfl 3 _ rfl rfl hbf r10 Tryz.underlying3 rfl ?_))
 go_ret
 exact ⟨rfl, h.le hle⟩
/-- A word of a row of words. -/
theorem word_at {f : Nat → Int} {N k : Nat} (hk : k < N) {v : Int} (hv : f k = v) : (ints .u64 N f)[k]? = some (.int .u64 v) := by rw [ints_get hk, hv]
end
section
open Go.RowKit
def levT (c : Nat → Int) (t : Nat) : Nat := (levelOf c t).toNat
theorem levT_of {c : Nat → Int} {L B S T : Nat} (hc : ConfMay c) (hn : Nums c L B S) (hT : c 1 = (T : Nat)) {t : Nat} (ht : t < T) : levelOf c (t : Nat) = (levT c t : Nat) ∧ levT c t < L := by
 obtain ⟨_, ⟨a3, a4⟩, _, a5, _⟩ := id hc
 have h8 := a5 t (by omega)
 have hl : levelOf c (t : Nat) = c (2 + t) := by
  unfold levelOf
  rw [if_pos ⟨decide_eq_true hc, by omega, by omega⟩, Int.toNat_natCast]
 have hlev := hn.lev
 unfold levT
 rw [hl]
 omega
theorem levT_out {c : Nat → Int} {T : Nat} (hT : c 1 = (T : Nat)) {t : Int} (ht : ¬ (0 ≤ t ∧ t < T)) : levelOf c t = -1 := by
 unfold levelOf
 exact if_neg fun g => ht ⟨g.2.1, by have := g.2.2; omega⟩
theorem lev_cell {c : Nat → Int} {L B S T : Nat} (hc : ConfMay c) (hn : Nums c L B S) (hT : c 1 = (T : Nat)) {y : Nat} (hy : y < T) : c (2 + y) = (levT c y : Nat) := by
 rw [← (levT_of hc hn hT hy).1]
 unfold levelOf
 rw [if_pos ⟨decide_eq_true hc, by omega, by omega⟩, Int.toNat_natCast]
end
section
open Go.RowKit
theorem zN : (Tryz.prog.info? 89).bind (·.zero) = some (.agg (ints .u64 5 fun _ => 0)) := by kernel_rfl
/-- A node's words. -/
def nodeN (B S : Nat) (g : GM) (l i : Nat) : Nat → Int := fun j => (g.w l (oNd B S i j) : Nat)
set_option maxHeartbeats 4000000 in
set_option maxRecDepth 20000 in
theorem refRead25_eq {σ w : World} {M : Mm} (h : Has σ M w) (c : Nat → Int) {L B S N bw l i : Nat} (hn : Nums c L B S) (hN : N = L * (18 + B + 6 * S)) {f v : Nat → Int} (hb : M bw = some (.cells (ints .u64 N f) 42)) (hl : l < L) (h1 : 1 ≤ i) (h2 : i ≤ S) (hv : ∀ j, j < 5 → f (l * (18 + B + 6 * S) + (18 + B + S + (i - 1) * 5 + j)) = v j) : Calls Tryz.prog 114 #[confV c, .slice (some ⟨bw, 0, none⟩) N N, .int .i64 (l : Nat), .int .i64 (i : Nat)] w fun r w' => r = .returned (.agg (ints .u64 5 v)) ∧ Has σ M w' := by
 have hl0 := hn.l0
 have hb0 := hn.b0
 have hs0 := hn.s0
 have FI : Hid (∀ (M' : Mm) (w : World), Has σ M' w → Calls Tryz.prog 109 #[confV c, .int .i64 (L : Nat)] w fun r w' => r = .returned (.int .i64 (N : Nat)) ∧ Has σ M' w') := Lib.hid (fun (M' : Mm) (w : World) (h : Has σ M' w) => by have := refFirst_eq h c hn L (by omega); rw [← hN] at this; exact this)
 have WO := Lib.hid (fun (M' : Mm) (w : World) (h : Has σ M' w) => refWord_eq h c hn l hl i 0 h1 h2 (by omega))
 have r0 : (ints .i64 14 c)[0]? = some (.int .i64 (L : Nat)) := by rw [← hn.lev]; rfl
 have r10 : (ints .i64 14 c)[10]? = some (.int .i64 (S : Nat)) := by rw [← hn.slo]; rfl
 have hN2 : N ≤ 4 * (18 + 40 + 6 * 60) := by subst hN; exact Nat.mul_le_mul (by omega) (by omega)
 have hlt : l * (18 + B + 6 * S) + (18 + B + 6 * S) ≤ N := by
  subst hN
  have := Nat.mul_le_mul_right (18 + B + 6 * S) (show l + 1 ≤ L by omega)
  rw [Nat.succ_mul] at this
  exact this
 obtain ⟨a, ha⟩ : ∃ a, l * (18 + B + 6 * S) + (18 + B + S + (i - 1) * 5 + 0) = a := ⟨_, rfl⟩
 rw [ha] at WO
 have haN : a + 5 ≤ N := by omega
 have fa : ∀ j, j < 5 → (ints .u64 N f)[a + j]? = some (.int .u64 (v j)) := fun j hj => by
  rw [ints_get (by omega), ← hv j hj, ← ha, Nat.add_zero, Nat.add_assoc]
 have g0 := fa 0 (by omega)
 have g1 := fa 1 (by omega)
 have g2 := fa 2 (by omega)
 have g3 := fa 3 (by omega)
 have g4 := fa 4 (by omega)
 rw [Nat.add_zero] at g0
 have gl : ¬ (l : Int) < 0 := by omega
 have gL : ¬ (L : Int) ≤ (l : Int) := by omega
 have gi : ¬ (i : Int) < 1 := by omega
 have gS : ¬ (S : Int) < (i : Int) := by omega
 have w1 : IntKind.i64.wrap ((a : Int) + 1) = ((a + 1 : Nat) : Int) := by rw [show (a : Int) + 1 = ((a + 1 : Nat) : Int) by omega]; exact IntWalk.i64_in _ (by omega)
 have w2 : IntKind.i64.wrap ((a : Int) + 2) = ((a + 2 : Nat) : Int) := by rw [show (a : Int) + 2 = ((a + 2 : Nat) : Int) by omega]; exact IntWalk.i64_in _ (by omega)
 have w3 : IntKind.i64.wrap ((a : Int) + 3) = ((a + 3 : Nat) : Int) := by rw [show (a : Int) + 3 = ((a + 3 : Nat) : Int) by omega]; exact IntWalk.i64_in _ (by omega)
 have w4 : IntKind.i64.wrap ((a : Int) + 4) = ((a + 4 : Nat) : Int) := by rw [show (a : Int) + 4 = ((a + 4 : Nat) : Int) by omega]; exact IntWalk.i64_in _ (by omega)
 have l0 : (a : Int) < (N : Int) := by omega
 have l1 : ((a + 1 : Nat) : Int) < (N : Int) := by omega
 have l2 : ((a + 2 : Nat) : Int) < (N : Int) := by omega
 have l3 : ((a + 3 : Nat) : Int) < (N : Int) := by omega
 have l4 : ((a + 4 : Nat) : Int) < (N : Int) := by omega
 have hx : (ints .i64 14 c).extract 0 (0 + 14) = ints .i64 14 c := rfl
 have hz : (ints .i64 14 c).size = 14 := rfl
 have VR : Hid ((#[.int .u64 (v 0), .int .u64 (v 1), .int .u64 (v 2), .int .u64 (v 3), .int .u64 (v 4)] : Array Value) = ints .u64 5 v) := rfl
 unfold confV at FI WO ⊢
 generalize ints .i64 14 c = row at *
 generalize hwr : ints .u64 N f = wrow at *
 generalize v 0 = v0 at *
 generalize v 1 = v1 at *
 generalize v 2 = v2 at *
 generalize v 3 = v3 at *
 generalize v 4 = v4 at *
 clear hwr hlt hN2 hN ha hn fa hv haN hl0 hb0 hs0
 generalize a + 1 = a1 at *
 generalize a + 2 = a2 at *
 generalize a + 3 = a3 at *
 generalize a + 4 = a4 at *
 go_enter Tryz.func114, Tryz.ntmps114
 go_upto_region 1 with (first
  | ((with_reducible show wpList _ _ _ ({ dst := _, op := Op.box 24 _, type := _, pos := _, after := _, guard := _ } :: _) _ _); refine wpList_box_has h rfl 24 _ rfl ?_; clear h; intro bf w h hnf; try simp only [Act.put, List.setIfInBounds_toArray, List.set_cons_zero, List.set_cons_succ])
  | ((with_reducible show wpList _ _ _ ({ dst := _, op := Op.alloc 89, type := _, pos := _, after := _, guard := _ } :: _) _ _); refine wpList_alloc_has h rfl 89 rfl _ zN ?_; clear h; intro b6 w h hn6; try simp only [Act.put, List.setIfInBounds_toArray, List.set_cons_zero, List.set_cons_succ]))
 have hle1 : M.le ((M.upd bf (.cells row 24)).upd b6 (.cells (ints .u64 5 fun _ => 0) 89)) := Mm.le_trans (Mm.le_upd' hnf _) (Mm.le_upd' hn6 _)
 have hbf : ((M.upd bf (.cells row 24)).upd b6 (.cells (ints .u64 5 fun _ => 0) 89)) bf = some (.cells row 24) := Mm.upd_of hn6 (Mm.upd_same _ _ _)
 have hb6 : ((M.upd bf (.cells row 24)).upd b6 (.cells (ints .u64 5 fun _ => 0) 89)) b6 = some (.cells (ints .u64 5 fun _ => 0) 89) := Mm.upd_same _ _ _
 have hn0 : M b6 = none := Mm.none_of (Mm.le_upd' hnf _) hn6
 replace h : Has σ ((M.upd bf (.cells row 24)).upd b6 (.cells (ints .u64 5 fun _ => 0) 89)) w := h
 generalize (M.upd bf (.cells row 24)).upd b6 _ = M2 at h hle1 hbf hb6
 have hbw := hle1 _ _ hb
 go_upto_region 4 with (first
  | (with_reducible show wpList _ _ _ ({ dst := _, op := Op.load 3 _, type := _, pos := _, after := _, guard := _ } :: _) _ _; refine wpList_load1_has h rfl 3 _ rfl rfl hbf r0 Tryz.underlying3 rfl ?_)
  | (with_reducible show wpList _ _ _ ({ dst := _, op := Op.load 3 _, type := _, pos := _, after := _, guard := _ } :: _) _ _; refine wpList_load1_has h rfl 3 _ rfl rfl hbf r10 Tryz.underlying3 rfl ?_)
  | ((with_reducible show wpList _ _ _ ({ dst := _, op := Op.load 24 _, type := _, pos := _, after := _, guard := _ } :: _) _ _); refine wpList_agg_has h rfl 24 _ rfl rfl hbf hx hz Tryz.underlying24 rfl (by kernel_rfl) ?_; try simp only [Act.put, List.setIfInBounds_toArray, List.set_cons_zero, List.set_cons_succ])
  | (go_at_call 109; refine (FI.out _ _ h).mono ?_; clear h; rintro _ w ⟨rfl, h⟩)
  | (go_at_call 110; refine (WO.out _ _ h).mono ?_; clear h; rintro _ w ⟨rfl, h⟩))
 refine wp_region_head (Has σ M2) 25 (by kernel_rfl) (by kernel_rfl) (fun _ _ _ _ _ h => h) h.drew ?_
 clear h
 simp only [List.take_succ_cons, List.take_zero, List.drop_succ_cons, List.drop_zero]
 repeat (first
  | go_big_quiet_skip
  | (go_big_quiet_want; first
   | (refine quiet_load_has 42 _ rfl rfl hbw g0 Tryz.underlying42 rfl ?_; simp only [Act.put, List.setIfInBounds_toArray, List.set_cons_zero, List.set_cons_succ]; go_big_quiet_on)
   | (refine quiet_load_has 42 _ rfl rfl hbw g1 Tryz.underlying42 rfl ?_; simp only [Act.put, List.setIfInBounds_toArray, List.set_cons_zero, List.set_cons_succ]; go_big_quiet_on)
   | (refine quiet_load_has 42 _ rfl rfl hbw g2 Tryz.underlying42 rfl ?_; simp only [Act.put, List.setIfInBounds_toArray, List.set_cons_zero, List.set_cons_succ]; go_big_quiet_on)
   | (refine quiet_load_has 42 _ rfl rfl hbw g3 Tryz.underlying42 rfl ?_; simp only [Act.put, List.setIfInBounds_toArray, List.set_cons_zero, List.set_cons_succ]; go_big_quiet_on)
   | (refine quiet_load_has 42 _ rfl rfl hbw g4 Tryz.underlying42 rfl ?_; simp only [Act.put, List.setIfInBounds_toArray, List.set_cons_zero, List.set_cons_succ]; go_big_quiet_on)
   | (go_big_quiet_op; first | go_big_quiet_on | go_big_quiet_call (first | with_reducible exact fun _ => rfl))))
 refine wpQuiet_nil ?_
 try clear w
 intro w h
 go_wp2_with (first
  | ((with_reducible show wpList _ _ _ ({ dst := _, op := Op.store 89 _ _, type := _, pos := _, after := _, guard := _ } :: _) _ _); (refine wpList_storeAll_has (cells := #[.int .u64 v0, .int .u64 v1, .int .u64 v2, .int .u64 v3, .int .u64 v4]) h rfl 89 _ _ rfl rfl rfl hb6 rfl rfl rfl (by kernel_rfl) rfl ?_); clear h; intro w h))
 rw [← VR.out]
 exact bodyPost_ret (results_cell_row rfl _ _ _ _ _ _ _ rfl (h.at_ b6 _ (Mm.upd_same _ _ _)) Tryz.underlying89 rfl (by kernel_rfl)) rfl ⟨rfl, h.le (Mm.le_upd hle1 hn0 _)⟩
set_option maxHeartbeats 4000000 in
set_option maxRecDepth 20000 in
theorem node25_eq {σ w : World} {M : Mm} {lab : Nat → Nat} {p n l i L B S : Nat} {s : MachS} {c : Nat → Int} {tp : List Nat} {g : GM} (h : Has σ M w) (hM : Mach M lab p s) (hA : AbsM c tp n s g) (hn : Nums c L B S) (hl : l < L) (h1 : 1 ≤ i) (h2 : i ≤ S) : Calls Tryz.prog 81 #[.pointer (some ⟨p, 0, none⟩), .int .i64 (l : Nat), .int .i64 (i : Nat)] w fun r w' => r = .returned (.agg (ints .u64 5 (nodeN B S g l i))) ∧ Has σ M w' := by
 obtain rfl := hA.cc
 have hl0 := hn.l0
 have hb0 := hn.b0
 have hs0 := hn.s0
 have hN1 : s.mem.N = L * (18 + B + 6 * S) := by
  have h1 := hM.memN
  rw [hn.lev, hn.sz, ← Int.natCast_mul] at h1
  exact Int.ofNat_inj.1 h1
 have hN2 : L * (18 + B + 6 * S) ≤ 4 * (18 + 40 + 6 * 60) := Nat.mul_le_mul (by omega) (by omega)
 have PL := Lib.hid (fun (M' : Mm) (hle : M.le M') (w : World) (h : Has σ M' w) => mPlan_eq h (hM.keep (Kp.le hle fun _ => 0) fun _ _ h => h))
 have CF := Lib.hid (fun (M' : Mm) (hle : M.le M') (w : World) (h : Has σ M' w) => conf_has h s.c (hM.keep (Kp.le hle fun _ => 0) fun _ _ h => h).plan)
 have ME := Lib.hid (fun (M' : Mm) (hle : M.le M') (w : World) (h : Has σ M' w) => mMem_eq h (hM.keep (Kp.le hle fun _ => 0) fun _ _ h => h))
 have WO := Lib.hid (fun (M' : Mm) (hle : M.le M') (w : World) (h : Has σ M' w) => memWords_eq h (hM.keep (Kp.le hle fun _ => 0) fun _ _ h => h).mem (by omega))
 have RD : Hid (∀ (M' : Mm) (w : World) (bw : Nat), Has σ M' w → M' bw = some (.cells (ints .u64 s.mem.N s.mem.f) 42) → Calls Tryz.prog 114 #[.agg (ints .i64 14 s.c), .slice (some ⟨bw, 0, none⟩) s.mem.N s.mem.N, .int .i64 (l : Nat), .int .i64 (i : Nat)] w fun r w' => r = .returned (.agg (ints .u64 5 (nodeN B S g l i))) ∧ Has σ M' w') := Lib.hid fun M' w bw h hb =>
  refRead25_eq h s.c hn hN1 hb hl h1 h2 fun j hj => by
   have := hA.words l (oNd B S i j) (by rw [hn.lev]; omega) (by rw [hn.sz]; unfold oNd; omega)
   rw [hn.sz, Int.toNat_natCast] at this
   exact this
 clear hA hn hM hN1 hN2 hl hl0 hb0 hs0 h1 h2
 have eR : s.mem.row = .cells (ints .u64 s.mem.N s.mem.f) 42 := rfl
 rw [eR] at WO
 clear eR
 have d1 : (ints .u64 5 (nodeN B S g l i)).toList.all (·.oneCell') = true := rfl
 have dz : (ints .u64 5 (nodeN B S g l i)).size = 5 := ints_size _ _ _
 have dzz : (ints .u64 5 fun _ => (0 : Int)).size = 5 := ints_size _ _ _
 generalize ints .u64 5 (nodeN B S g l i) = erow at *
 generalize ints .i64 14 s.c = row at *
 generalize ints .u64 s.mem.N s.mem.f = wrow at *
 generalize s.mem.N = N at *
 go_enter Tryz.func81, Tryz.ntmps81
 go_upto_region 1 with (first
  | ((with_reducible show wpList _ _ _ ({ dst := _, op := Op.alloc 89, type := _, pos := _, after := _, guard := _ } :: _) _ _); refine wpList_alloc_has h rfl 89 rfl _ zN ?_; clear h; intro b4 w h hn4; try simp only [Act.put, List.setIfInBounds_toArray, List.set_cons_zero, List.set_cons_succ]))
 have hle := Mm.le_upd' hn4 (.cells (ints .u64 5 fun _ => 0) 89)
 have hb4 := Mm.upd_same M b4 (.cells (ints .u64 5 fun _ => 0) 89)
 replace h : Has σ (M.upd b4 (.cells (ints .u64 5 fun _ => 0) 89)) w := h
 generalize M.upd b4 _ = M1 at h hle hb4
 have PL1 := Lib.hid (PL.out M1 hle)
 have CF1 := Lib.hid (CF.out M1 hle)
 have ME1 := Lib.hid (ME.out M1 hle)
 have WO1 := Lib.hid (WO.out M1 hle)
 clear PL CF ME WO
 go_wp2_with (first
  | (go_at_call 57; refine (PL1.out _ h).mono ?_; clear h; rintro _ w ⟨rfl, h⟩)
  | (go_at_call 58; refine (CF1.out _ h).mono ?_; clear h; rintro _ w ⟨rfl, h⟩)
  | (go_at_call 46; refine (ME1.out _ h).mono ?_; clear h; rintro _ w ⟨rfl, h⟩)
  | ((go_at_call 47; refine (WO1.out _ h).mono ?_; clear h; rintro _ w ⟨bw, M3, rfl, h, hle3, hnw, hbw⟩; have hb43 := hle3 _ _ hb4))
  | ((go_at_call 114; refine (RD.out M3 _ bw h hbw).mono ?_; clear h; rintro _ w ⟨rfl, h⟩))
  | ((with_reducible show wpList _ _ _ ({ dst := _, op := Op.store 89 _ _, type := _, pos := _, after := _, guard := _ } :: _) _ _); (refine wpList_storeAll_has (cells := erow) h rfl 89 _ _ rfl rfl rfl hb43 rfl dzz dz (by kernel_rfl) d1 ?_); clear h; intro w h))
 exact bodyPost_ret (results_cell_row rfl _ _ _ _ _ _ _ rfl (h.at_ b4 _ (Mm.upd_same _ _ _)) Tryz.underlying89 rfl (by rw [dz]; kernel_rfl)) rfl ⟨rfl, h.le (Mm.le_upd (Mm.le_trans hle hle3) hn4 _)⟩
/-- What Mint makes, of any free list. -/
def mintR (B S : Nat) (g : GM) (t l : Nat) (Ls us : List Nat) : GM := match Ls with | [] => g.back t [] [0] | x :: _ => madeG B S g t l x (us.getD 0 0) (us.getD 1 0) (us.getD 2 0) (us.getD 3 0)
/-- Mint alone. -/
theorem mint_alone {σ w : World} {K M : Mm} {lab : Nat → Nat} {p t q n L B S T m : Nat} {s : MachS} {c : Nat → Int} {tp : List Nat} {g : GM} (h : Has σ M w) (hM : Mach M lab p s) (hB : Base K M lab) (hA : AbsM c tp n s g) (hc : ConfMay c) (hn : Nums c L B S) (hT : c 1 = (T : Nat)) (hn8 : n < 80000) (hm : m < 900000) (ht : t < T) (hq : tp[t]? = some q) (hi : g.thr t = []) {Ls : List Nat} (I : LvR S B m g (levT c t) Ls) {us : List Nat} {rv : Value} (hr : Rd M 1 rv us.length (u64s (us.map fun u : Nat => (u : Int)))) (hu : us.length ≤ 16) (hst : us.getD 0 0 < 256) {most : Nat} (h12 : 12 ≤ most) (hmo : most < 1000) :
  Calls Tryz.prog 14 #[.pointer (some ⟨p, 0, none⟩), .int .i64 (t : Nat), (.func (.func 41) #[] #[]), .int .i64 (most : Nat), .int .i64 (30 : Nat), rv] w fun r w' => ∃ k : Nat, r = .returned (.int .i64 (k : Nat)) ∧ 0 < k ∧ k ≤ 12 ∧ ∃ M' lab' s', Has σ M' w' ∧ Mach M' lab' p s' ∧ Base K M' lab' ∧ AbsM c tp (n + k) s' (mintR B S g t (levT c t) Ls us) := by
 obtain ⟨elv, ll⟩ := levT_of hc hn hT ht
 have ht1 : (t : Int) < c 1 := by rw [hT]; omega
 have hlc : (levT c t : Int) < c 0 := by rw [hn.lev]; omega
 have hs60 := hn.s0.2
 cases Ls with
 | nil =>
  have S1 := steps_mint_no (σ := σ) (p := p) (n := n) (g := g.top t [] ⟨30, 0, fun i => us.getD i 0⟩) (F := ⟨30, 0, fun i => us.getD i 0⟩) hn8 ht1 hq elv hlc top_thr hn.lim hn.slo hs60 hm (I.atop [] _) rfl rfl rfl
  rw [top_back] at S1
  refine (S1.alone h hM hB hA (by omega) ht1 hq elv hi hr hu back_thr' (by omega) (by omega) hmo (by kernel_rfl)).mono fun r w' ⟨hr, a⟩ => ⟨4, hr, by omega, by omega, a⟩
 | cons x r =>
  have S1 := steps_mint (σ := σ) (p := p) (n := n) (g := g.top t [] ⟨30, 0, fun i => us.getD i 0⟩) (F := ⟨30, 0, fun i => us.getD i 0⟩) hn8 ht1 hq elv hlc top_thr hn.lim hn.slo hs60 hm (I.atop [] _) rfl rfl hst rfl
  refine (S1.alone h hM hB hA (by omega) ht1 hq elv hi hr hu back_thr' (by omega) h12 hmo (by kernel_rfl)).mono fun r w' ⟨hr, M', lab', s', a1, a2, a3, a4⟩ => ⟨12, hr, by omega, by omega, M', lab', s', a1, a2, a3, ?_⟩
  have e : madeG B S (g.top t [] ⟨30, 0, fun i => us.getD i 0⟩) t (levT c t) x (us.getD 0 0) (us.getD 1 0) (us.getD 2 0) (us.getD 3 0) = madeG B S g t (levT c t) x (us.getD 0 0) (us.getD 1 0) (us.getD 2 0) (us.getD 3 0) := by
   unfold madeG madeW
   have e : ∀ o, (g.top t [] ⟨30, 0, fun i => us.getD i 0⟩).w (levT c t) o = g.w (levT c t) o := fun _ => rfl
   rw [e, e, e, top_set, top_hold, top_set, top_set, top_set, top_set, top_set, top_back]
  show AbsM c tp (n + 12) s' (madeG B S g t (levT c t) x (us.getD 0 0) (us.getD 1 0) (us.getD 2 0) (us.getD 3 0))
  rw [← e]; exact a4
/-- What a thread was told last. -/
theorem m_told {M : Mm} {lab : Nat → Nat} {p t q n : Nat} {s : MachS} {c : Nat → Int} {tp : List Nat} {g : GM} (hM : Mach M lab p s) (hA : AbsM c tp n s g) (hq : tp[t]? = some q) : ∃ row ty, M q = some (.cells row ty (0, 0)) ∧ row[0]? = some (.int .u64 (g.told t 0 : Nat)) ∧ row[1]? = some (.int .u64 (g.told t 1 : Nat)) := by
 obtain ⟨fv, hv, fbs, hTh⟩ := hM.each t q (by rw [hA.ttp]; exact hq)
 refine ⟨_, _, hTh.obj, ?_, ?_⟩
 ·show some (Value.int .u64 ((s.thr t).told 0)) = _
  rw [hA.thr.told t 0]
 ·show some (Value.int .u64 ((s.thr t).told 1)) = _
  rw [hA.thr.told t 1]
end
section
open Go.RowKit
/-- What was made: its slot, Head, Key, A, B. -/
abbrev Mk := Nat × Nat × Nat × Nat × Nat
def encM (x : Mk) : List Value := [.int .i64 (x.1 : Nat), .int .u64 (x.2.1 : Nat), .int .u64 0, .int .u64 (x.2.2.1 : Nat), .int .u64 (x.2.2.2.1 : Nat), .int .u64 (x.2.2.2.2 : Nat)]
theorem encM_len (x : Mk) : (encM x).length = 6 := rfl
def ndF (x : Mk) : Nat → Int := fun j => if j = 0 then (x.2.1 : Nat) else if j = 2 then (x.2.2.1 : Nat) else if j = 3 then (x.2.2.2.1 : Nat) else if j = 4 then (x.2.2.2.2 : Nat) else 0
def IsNd (B S : Nat) (g : GM) (l : Nat) (x : Mk) : Prop := ints .u64 5 (nodeN B S g l x.1) = ints .u64 5 (ndF x)
theorem isNd_of {B S l : Nat} {g : GM} {x : Mk} (h0 : g.w l (oNd B S x.1 0) = x.2.1) (h1 : g.w l (oNd B S x.1 1) = 0) (h2 : g.w l (oNd B S x.1 2) = x.2.2.1) (h3 : g.w l (oNd B S x.1 3) = x.2.2.2.1) (h4 : g.w l (oNd B S x.1 4) = x.2.2.2.2) : IsNd B S g l x := by
 refine ints_congr fun j hj => ?_
 unfold nodeN ndF
 rcases (show j = 0 ∨ j = 1 ∨ j = 2 ∨ j = 3 ∨ j = 4 by omega) with e | e | e | e | e
 ·subst e; rw [h0]; rfl
 ·subst e; rw [h1]; rfl
 ·subst e; rw [h2]; rfl
 ·subst e; rw [h3]; rfl
 ·subst e; rw [h4]; rfl
theorem nodup_len {S : Nat} {l : List Nat} (h : l.Nodup) (hl : ∀ x ∈ l, 1 ≤ x ∧ x ≤ S) : l.length ≤ S := by
 have e : l.length = ((slotsFrom 1 S).filter fun x => decide (x ∈ l)).length := List.Perm.length_eq ((List.perm_ext_iff_of_nodup h (List.Nodup.sublist List.filter_sublist (List.Pairwise.map _ (fun a b hab e => hab (by omega)) (List.nodup_range (n := S))))).2 fun x => by
  rw [List.mem_filter, decide_eq_true_eq]
  refine ⟨fun hx => ⟨List.mem_map.2 ⟨x - 1, List.mem_range.2 (by have := hl x hx; omega), by have := hl x hx; omega⟩, hx⟩, fun hx => hx.2⟩)
 rw [e]
 exact Nat.le_trans (List.length_filter_le _ _) (by simp [slotsFrom])
section
variable {B S l : Nat} {g : GM}
theorem isNd_congr {g2 : GM} {y : Mk} (h : IsNd B S g l y) (e : ∀ j, j < 5 → g2.w l (oNd B S y.1 j) = g.w l (oNd B S y.1 j)) : IsNd B S g2 l y := by
 unfold IsNd at h ⊢
 rw [← h]
 exact ints_congr fun j hj => by unfold nodeN; rw [e j hj]
end
end
section
open Go.RowKit
def nKs : List Kd := List.replicate 5 (some (some .u64))
theorem fits_n (Y : Nat → Int) : fits nKs (ints .u64 5 Y).toList := ⟨rfl, rfl, rfl, rfl, rfl, trivial⟩
theorem sames_n (Y : Nat → Int) : sames (ints .u64 5 Y).toList (ints .u64 5 Y).toList = true := by
 show ((Y 0 == Y 0) && ((Y 1 == Y 1) && ((Y 2 == Y 2) && ((Y 3 == Y 3) && ((Y 4 == Y 4) && true))))) = true
 simp
def exM : Nat → Int := fun i => if i = 0 then 1 else if i = 1 then 1 else if i = 10 then 3 else if i = 11 then 1 else if i = 12 then 9 else 0
theorem exM_may : ConfMay exM := by decide
theorem exM_nums : Nums exM 1 1 3 := ⟨rfl, rfl, rfl, by omega, by omega, by omega⟩
theorem exM_lev : levT exM 0 = 0 := by decide
def exMN : Nat → Int := fun j => if j = 0 then 2 else if j = 2 then 5 else if j = 3 then 1 else if j = 4 then 2 else 0
theorem exM_node : ints .u64 5 (nodeN 1 3 (madeG 1 3 (gm0 1 3) 0 0 2 2 5 1 2) 0 2) = ints .u64 5 exMN := by
 obtain ⟨e0, e1, e2, e3, e4⟩ := made_node (B := 1) (S := 3) (g := gm0 1 3) (t := 0) (l := 0) (x := 2) 2 5 1 2
 refine ints_congr fun j hj => ?_
 unfold nodeN exMN
 rcases (show j = 0 ∨ j = 1 ∨ j = 2 ∨ j = 3 ∨ j = 4 by omega) with e | e | e | e | e
 ·subst e; rw [e0]; decide
 ·subst e; rw [e1]; rfl
 ·subst e; rw [e2]; rfl
 ·subst e; rw [e3]; rfl
 ·subst e; rw [e4]; rfl
set_option maxHeartbeats 4000000 in
set_option maxRecDepth 20000 in
theorem mi_lives {σ w : World} {M : Mm} (h : Has σ M w) : Calls Tryz.prog 38 #[] w fun r w' => r = .returned (.bool true) ∧ Has σ M w' := by
 have NW := Lib.hid (fun (w : World) (h : Has σ M w) => mNew_yes h exM exM_may exM_nums)
 have EC : confV exM = .agg #[.int .i64 1, .int .i64 1, .int .i64 0, .int .i64 0, .int .i64 0, .int .i64 0, .int .i64 0, .int .i64 0, .int .i64 0, .int .i64 0, .int .i64 3, .int .i64 1, .int .i64 9, .int .i64 0] := rfl
 rw [EC] at NW
 clear EC
 go_enter Tryz.func38, Tryz.ntmps38
 go_upto_region 2 with (first
  | (go_at_call 9; refine (NW.out _ h).mono ?_; clear h; rintro _ w ⟨p, M1, lab1, s1, rfl, h, hB1, hM1, hN⟩))
 clear NW
 obtain ⟨q, hq0⟩ : ∃ q, s1.tp[0]? = some q := ⟨_, List.getElem?_eq_getElem (by have := hM1.tlen; rw [hN.c] at this; have h2 : exM 1 = 1 := rfl; omega)⟩
 have hA1 := absM_first exM_nums exM_may hN hM1.wsz
 generalize s1.tp = tp at hA1 hq0
 have HQ := Lib.hid hq0
 have HM1 := Lib.hid hM1
 have HB1 := Lib.hid hB1
 have HA1 := Lib.hid hA1
 clear hN hq0 hA1 hM1 hB1
 go_wp2_with (fail)
 obtain ⟨M2, hbx, hle2, hbl, hnl⟩ := h.box (.cells #[.int .u64 2, .int .u64 5, .int .u64 1, .int .u64 2] 42)
 generalize w.alloc _ = wx at hbx ⊢
 generalize w.heap.size = bl at hbl hnl ⊢
 clear h
 try clear w
 have h := hbx
 clear hbx
 obtain ⟨w, rfl⟩ : ∃ x : World, x = wx := ⟨_, rfl⟩
 have P1 : Hid (∀ w : World, Has σ M2 w → Calls Tryz.prog 14 #[.pointer (some ⟨p, 0, none⟩), .int .i64 0, (.func (.func 41) #[] #[]), .int .i64 12, .int .i64 30, .slice (some ⟨bl, 0, none⟩) 4 4] w fun r w' => ∃ k : Nat, r = .returned (.int .i64 (k : Nat)) ∧ 0 < k ∧ k ≤ 12 ∧ ∃ M' lab' s', Has σ M' w' ∧ Mach M' lab' p s' ∧ Base M M' lab' ∧ AbsM exM tp (0 + k) s' (madeG 1 3 (gm0 1 3) 0 0 2 2 5 1 2)) := Lib.hid fun w h => by
  have hrd : Rd M2 1 (.slice (some ⟨bl, 0, none⟩) 4 4) 4 (u64s [2, 5, 1, 2]) := ⟨rfl, _, _, rfl, Nat.le_refl _, fun _ => ⟨bl, 0, _, _, _, rfl, hbl, fun j u hu => by simpa [u64s] using hu⟩⟩
  have := mint_alone (t := 0) (n := 0) (m := 0) (B := 1) (S := 3) (L := 1) (T := 1) h (HM1.out.keep (Kp.le hle2 fun _ => 0) fun _ _ h => h) (HB1.out.keep (Kp.le hle2 fun _ => 0) fun h => h) HA1.out exM_may exM_nums rfl (by omega) (by omega) (by omega) HQ.out rfl (lvR_first (B := 1) (S := 3) (by omega) _) (us := [2, 5, 1, 2]) hrd (by decide) (by decide) (most := 12) (by omega) (by omega)
  rw [exM_lev] at this
  exact this
 clear hbl hle2 hnl
 go_at_call 14
 refine (P1.out _ h).mono ?_
 clear h P1
 rintro _ w ⟨k, rfl, hk0, hk, M3, lab3, s3, h, hM, hB, hA⟩
 obtain ⟨row, ty, hqb, d0, d1⟩ := m_told hM hA HQ.out
 have TH : Hid (∀ w : World, Has σ M3 w → Calls Tryz.prog 13 #[.pointer (some ⟨p, 0, none⟩), .int .i64 0] w fun r w' => r = .returned (.pointer (some ⟨q, 0, none⟩)) ∧ Has σ M3 w') := Lib.hid fun w h => mThread_yes (t := 0) h hM (by rw [hA.ttp]; exact HQ.out)
 replace d0 : row[0]? = some (.int .u64 2) := d0
 replace d1 : row[1]? = some (.int .u64 0) := d1
 have ND : Hid (∀ w : World, Has σ M3 w → Calls Tryz.prog 81 #[.pointer (some ⟨p, 0, none⟩), .int .i64 0, .int .i64 2] w fun r w' => r = .returned (.agg (ints .u64 5 exMN)) ∧ Has σ M3 w') := Lib.hid fun w h => by
  have := node25_eq (l := 0) (i := 2) h hM hA exM_nums (by omega) (by omega) (by omega)
  rw [exM_node] at this
  exact this
 have gl : (0 : Int) < (k : Int) := by omega
 have hle := hB.le
 clear hM hB hA hk0 hk HM1 HB1 HA1
 go_wp2_with (first
  | (go_at_call 13; refine (TH.out _ h).mono ?_; clear h; rintro _ w ⟨rfl, h⟩)
  | (with_reducible show wpList _ _ _ ({ dst := _, op := Op.load 42 _, type := _, pos := _, after := _, guard := _ } :: _) _ _; refine wpList_load1_has h rfl 42 _ rfl rfl hqb d0 Tryz.underlying42 rfl ?_)
  | (with_reducible show wpList _ _ _ ({ dst := _, op := Op.load 42 _, type := _, pos := _, after := _, guard := _ } :: _) _ _; refine wpList_load1_has h rfl 42 _ rfl rfl hqb d1 Tryz.underlying42 rfl ?_)
  | (go_at_call 81; refine (ND.out _ h).mono ?_; clear h; rintro _ w ⟨rfl, h⟩)
  | ((with_reducible show wpList _ _ _ ({ dst := _, op := Op.binOp BinOp.eql 89 _ _ _, type := _, pos := _, after := _, guard := _ } :: _) _ _); (refine wpList_eql_flat rfl 89 _ _ _ rfl (xs := ints .u64 5 exMN) (ys := ints .u64 5 exMN) rfl rfl 10 (by omega) (ks := nKs) (by kernel_rfl) rfl (by kernel_rfl) Tryz.underlying89 rfl (by kernel_rfl) (fits_n _) (fits_n _) ?_); rw [sames_n]; try simp only [Act.put, List.setIfInBounds_toArray, List.set_cons_zero, List.set_cons_succ]))
 go_ret
 exact ⟨rfl, h.le hle⟩
end
section
open Go.RowKit
theorem info_M : (Tryz.prog.info? 91).map (fun i => (i.zero, i.size, i.bytes)) = some (some (.agg #[.int .i64 0, .int .u64 0, .int .u64 0, .int .u64 0, .int .u64 0, .int .u64 0]), 6, 48) := by kernel_rfl
theorem info_MS : (Tryz.prog.info? 87).map (fun i => (i.zero, i.size, i.bytes)) = some (some (.slice none 0 0), 1, 24) := by kernel_rfl
def nils (n : Nat) : List Value := (List.range n).map fun _ => .slice none 0 0
theorem made_nils (n : Nat) : madeCells (Value.slice none 0 0).cells (n * 1) = (nils n).toArray := by
 apply Array.ext_getElem?
 intro i
 unfold madeCells nils
 by_cases hi : i < n
 ·simp [Value.cells, hi, Nat.mod_one]
 ·simp [Value.cells, hi]
theorem mk_mades (N : Nat) (h : N ≤ 1000) (W : World) : (Instr.makeSlice 81 (.int .i64 N) (.int .i64 N)).run Tryz.prog W = .ok (.slice (some ⟨W.heap.size, 0, none⟩) N N) (W.alloc (.cells (nils N).toArray 87)) := by
 obtain ⟨i, hi, he⟩ := Option.map_eq_some_iff.1 info_MS
 simp only [Prod.mk.injEq] at he
 obtain ⟨h1, h2, h3⟩ := he
 rw [run_makeSlice W 81 87 i (.slice none 0 0) Tryz.underlying81 hi h1 .i64 .i64 N N (by omega) (by omega) (by rw [h2, Int.toNat_natCast]; omega) (by rw [h3]; omega) (by omega), Int.toNat_natCast, h2, made_nils]
section
variable {M : Mm} {A : Option Addr} {n c l k sz : Nat} {xs : List Value}
theorem Rd.from_n (h : Rd M sz (.slice A n c) n xs) (hs : 0 < sz) (hl : l ≤ n) : Rd M sz (sliced A l n c sz) (n - l) (xs.drop (l * sz)) := by
 obtain ⟨h1, A', c', e, hc, hA⟩ := h
 cases e
 refine ⟨by rw [List.length_drop, h1, Nat.sub_mul], _, _, rfl, by omega, fun h0 => ?_⟩
 obtain ⟨b, o, cs, t, fz, rfl, hb, hx⟩ := hA (by omega)
 refine ⟨b, o + l * sz, cs, t, fz, ?_, hb, fun j u hu => ?_⟩
 ·rw [if_neg (by omega)]
  simp [Addr.add_mid]
 ·rw [List.getElem?_drop] at hu
  rw [Nat.add_assoc]
  exact hx _ _ hu
theorem Rd.upto_n (h : Rd M sz (.slice A n c) n xs) (hs : 0 < sz) (hk : k ≤ n) : Rd M sz (sliced A 0 k c sz) k (xs.take (k * sz)) := by
 obtain ⟨h1, A', c', e, hc, hA⟩ := h
 cases e
 refine ⟨by rw [List.length_take, h1]; exact Nat.min_eq_left (Nat.mul_le_mul_right _ hk), _, _, rfl, by omega, fun h0 => ?_⟩
 obtain ⟨b, o, cs, t, fz, rfl, hb, hx⟩ := hA (by omega)
 refine ⟨b, o, cs, t, fz, ?_, hb, fun j u hu => ?_⟩
 ·rw [if_neg (by omega)]
  simp [Addr.add_mid]
 ·rw [List.getElem?_take] at hu
  split at hu
  ·exact hx _ _ hu
  ·cases hu
end
theorem flatM_take (l : List Mk) (k : Nat) (hk : k ≤ l.length) : (l.flatMap encM).take (k * 6) = (l.take k).flatMap encM := by
 have e : l.flatMap encM = (l.take k).flatMap encM ++ (l.drop k).flatMap encM := by rw [← List.flatMap_append, List.take_append_drop]
 rw [e, List.take_append_of_le_length (by rw [flat_length encM_len, List.length_take]; have := Nat.min_eq_left hk; rw [this]; exact Nat.le_refl _), List.take_of_length_le (by rw [flat_length encM_len, List.length_take]; exact Nat.mul_le_mul_right _ (Nat.min_le_left _ _))]
theorem flatM_drop (l : List Mk) (k : Nat) (hk : k ≤ l.length) : (l.flatMap encM).drop (k * 6) = (l.drop k).flatMap encM := by
 have e : l.flatMap encM = (l.take k).flatMap encM ++ (l.drop k).flatMap encM := by rw [← List.flatMap_append, List.take_append_drop]
 rw [e]
 exact List.drop_left' (by rw [flat_length encM_len, List.length_take, Nat.min_eq_left hk])
theorem flatM_erase (l : List Mk) (k : Nat) (hk : k < l.length) : (l.eraseIdx k).flatMap encM = (l.flatMap encM).take (k * 6) ++ (l.flatMap encM).drop ((k + 1) * 6) := by
 rw [flatM_take l k (by omega), flatM_drop l (k + 1) (by omega), List.eraseIdx_eq_take_drop_succ, List.flatMap_append]
theorem encM_one (l : List Mk) : ∀ v ∈ l.flatMap encM, v.oneCell' = true := fun v hv => by
 obtain ⟨x, _, hx⟩ := List.mem_flatMap.1 hv
 simp only [encM, List.mem_cons, List.not_mem_nil, or_false] at hx
 rcases hx with rfl | rfl | rfl | rfl | rfl | rfl <;> rfl
/-- A deed. -/
structure DeedS where
 th : Int
 gi : Int
 st : Nat
 key : Nat
 a : Nat
 b : Nat
 hst : st < 256
 hkey : key < 18446744073709551616
 ha : a < 18446744073709551616
 hb : b < 18446744073709551616
def encD (d : DeedS) : List Value := [.int .i64 d.th, .int .i64 d.gi, .int .u8 (d.st : Nat), .int .u64 (d.key : Nat), .int .u64 (d.a : Nat), .int .u64 (d.b : Nat)]
theorem encD_len (d : DeedS) : (encD d).length = 6 := rfl
theorem mkHead_num (g st : Nat) : mkHead g st = st % 4 + 4 * (g % 4294967296) := by rw [mkHead_eq]; omega
set_option maxHeartbeats 1000000 in
/-- The document's Head. -/
theorem refHead_eq {σ w : World} {M : Mm} (h : Has σ M w) (g st : Nat) (hg : g < 4294967296) (hs : st < 256) : Calls Tryz.prog 83 #[.int .i64 (g : Nat), .int .i64 (st : Nat)] w fun r w' => r = .returned (.int .u64 (mkHead g st : Nat)) ∧ Has σ M w' := by
 have w1 : IntKind.u64.wrap (st : Int) = (st : Int) := IntWalk.u64_in _ (by omega)
 have w2 : IntKind.u64.wrap (g : Int) = (g : Int) := IntWalk.u64_in _ (by omega)
 have t1 : ((st : Int)).tmod 4 = ((st % 4 : Nat) : Int) := by rw [Int.tmod_eq_emod_of_nonneg (by omega)]; omega
 have t2 : ((g : Int)).tmod 4294967296 = ((g % 4294967296 : Nat) : Int) := by rw [Int.tmod_eq_emod_of_nonneg (by omega)]; omega
 have w3 : IntKind.u64.wrap ((st % 4 : Nat) : Int) = ((st % 4 : Nat) : Int) := IntWalk.u64_in _ (by omega)
 have w4 : IntKind.u64.wrap ((g % 4294967296 : Nat) : Int) = ((g % 4294967296 : Nat) : Int) := IntWalk.u64_in _ (by omega)
 have w5 : IntKind.u64.wrap (4 * ((g % 4294967296 : Nat) : Int)) = ((4 * (g % 4294967296) : Nat) : Int) := by rw [show 4 * ((g % 4294967296 : Nat) : Int) = ((4 * (g % 4294967296) : Nat) : Int) by omega]; exact IntWalk.u64_in _ (by omega)
 have w6 : IntKind.u64.wrap (((st % 4 : Nat) : Int) + ((4 * (g % 4294967296) : Nat) : Int)) = (mkHead g st : Nat) := by
  rw [mkHead_num, show ((st % 4 : Nat) : Int) + ((4 * (g % 4294967296) : Nat) : Int) = ((st % 4 + 4 * (g % 4294967296) : Nat) : Int) by omega]; exact IntWalk.u64_in _ (by omega)
 generalize mkHead g st = H at *
 generalize st % 4 = s4 at *
 generalize 4 * (g % 4294967296) = g5 at *
 generalize g % 4294967296 = g4 at *
 go_enter Tryz.func83, Tryz.ntmps83
 go_wp2_with (fail)
 go_ret
 exact ⟨by go_num, h⟩
set_option maxHeartbeats 1000000 in
theorem refMade_eq {σ w : World} {M : Mm} (h : Has σ M w) (g st k a b : Nat) (hg : g < 4294967296) (hs : st < 256) : Calls Tryz.prog 43 #[.int .i64 (st : Nat), .int .i64 (g : Nat), .int .u64 (k : Nat), .int .u64 (a : Nat), .int .u64 (b : Nat)] w fun r w' => r = .returned (.agg #[.int .u64 (mkHead g st : Nat), .int .u64 0, .int .u64 (k : Nat), .int .u64 (a : Nat), .int .u64 (b : Nat)]) ∧ Has σ M w' := by
 have HD := Lib.hid (fun (M' : Mm) (w : World) (h : Has σ M' w) => refHead_eq h g st hg hs)
 generalize mkHead g st = H at *
 clear hg hs
 go_enter Tryz.func43, Tryz.ntmps43
 go_upto_region 1 with (first
  | ((with_reducible show wpList _ _ _ ({ dst := _, op := Op.alloc 89, type := _, pos := _, after := _, guard := _ } :: _) _ _); refine wpList_alloc_has h rfl 89 rfl _ zN ?_; clear h; intro b4 w h hn4; try simp only [Act.put, List.setIfInBounds_toArray, List.set_cons_zero, List.set_cons_succ]))
 have hle := Mm.le_upd' hn4 (.cells (ints .u64 5 fun _ => 0) 89)
 have hb4 := Mm.upd_same M b4 (.cells (ints .u64 5 fun _ => 0) 89)
 replace h : Has σ (M.upd b4 (.cells (ints .u64 5 fun _ => 0) 89)) w := h
 generalize M.upd b4 _ = M1 at h hle hb4
 go_wp2_with (first
  | (go_at_call 83; refine (HD.out _ _ h).mono ?_; clear h; rintro _ w ⟨rfl, h⟩)
  | ((with_reducible show wpList _ _ _ ({ dst := _, op := Op.store 89 _ _, type := _, pos := _, after := _, guard := _ } :: _) _ _); (refine wpList_storeAll_has (cells := #[.int .u64 (H : Nat), .int .u64 0, .int .u64 (k : Nat), .int .u64 (a : Nat), .int .u64 (b : Nat)]) h rfl 89 _ _ rfl rfl rfl hb4 rfl rfl rfl (by kernel_rfl) rfl ?_); clear h; intro w h))
 exact bodyPost_ret (results_cell_row rfl _ _ _ _ _ _ _ rfl (h.at_ b4 _ (Mm.upd_same _ _ _)) Tryz.underlying89 rfl (by kernel_rfl)) rfl ⟨rfl, h.le (Mm.le_upd hle hn4 _)⟩
set_option maxHeartbeats 2000000 in
set_option maxRecDepth 20000 in
/-- Each node that was made has what it was made of. -/
theorem has_eq {σ w : World} {M : Mm} {lab : Nat → Nat} {p n m l L B S : Nat} {s : MachS} {c : Nat → Int} {tp : List Nat} {g : GM} {lst : List Mk} {v : Value} (h : Has σ M w) (hM : Mach M lab p s) (hA : AbsM c tp n s g) (hn : Nums c L B S) (hl : l < L) (hr : Rd M 6 v m (lst.flatMap encM)) (hlen : lst.length = m) (hm : m ≤ 60) (hall : ∀ x ∈ lst, 1 ≤ x.1 ∧ x.1 ≤ S ∧ IsNd B S g l x) :
  Calls Tryz.prog 44 #[.pointer (some ⟨p, 0, none⟩), .int .i64 (l : Nat), v] w fun r w' => r = .returned (.bool true) ∧ Has σ M w' := by
 obtain ⟨A, cap, rfl⟩ := hr.form
 have ND := Lib.hid (fun (x : Mk) (hx : x ∈ lst) (w : World) (h : Has σ M w) => node25_eq (i := x.1) h hM hA hn hl (hall x hx).1 (hall x hx).2.1)
 have NE := Lib.hid (fun (x : Mk) (hx : x ∈ lst) => (hall x hx).2.2)
 have HR := Lib.hid hr
 have HL := Lib.hid hlen
 have HM := Lib.hid hm
 clear hM hA hn hl hr hlen hm hall
 go_enter Tryz.func44, Tryz.ntmps44
 go_upto_region 2 with (fail)
 go_loopw [7] (fun u wr => ∃ j : Nat, j ≤ m ∧ u = .int .i64 (j : Nat) ∧ Has σ M wr) (fun u _ => m - (intOf u).toNat)
 case atStart => exact ⟨0, Nat.zero_le _, rfl, h⟩
 case round =>
  clear h w
  obtain ⟨w, rfl⟩ : ∃ x : World, x = wr := ⟨_, rfl⟩
  obtain ⟨j, hj, rfl, h⟩ := hrel
  by_cases hjn : j < m
  ·obtain ⟨x, hx⟩ : ∃ x, lst[j]? = some x := ⟨_, List.getElem?_eq_getElem (by rw [HL.out]; exact hjn)⟩
   have hxm := List.mem_of_getElem? hx
   obtain ⟨bl, ol, cl, csl, tl2, fzl, hle, hbl, hcl⟩ := HR.out.elem (enc := encM) encM_len hjn hx
   have e0 : csl[ol + j * 6 + 0]? = some (.int .i64 (x.1 : Nat)) := hcl 0 _ rfl
   rw [Nat.add_zero] at e0
   have hx1 : csl.extract (ol + j * 6 + 1) (ol + j * 6 + 1 + 5) = ints .u64 5 (ndF x) := extract_of (xs := (ints .u64 5 (ndF x)).toList) (fun i u hu => by
    have e : (ints .u64 5 (ndF x)).toList = (encM x).tail := rfl
    rw [e] at hu
    have := hcl (i + 1) u hu
    rw [show ol + j * 6 + 1 + i = ol + j * 6 + (i + 1) by omega]; exact this) rfl
   have ND1 : Hid (∀ w : World, Has σ M w → Calls Tryz.prog 81 #[.pointer (some ⟨p, 0, none⟩), .int .i64 (l : Nat), .int .i64 (x.1 : Nat)] w fun r w' => r = .returned (.agg (ints .u64 5 (ndF x))) ∧ Has σ M w') := Lib.hid fun w h => by
    rw [← show ints .u64 5 (nodeN B S g l x.1) = ints .u64 5 (ndF x) from NE.out x hxm]
    exact ND.out x hxm w h
   have FX := Lib.hid (fits_n (ndF x))
   have SX := sames_n (ndF x)
   have hz : (ints .u64 5 (ndF x)).size = 5 := rfl
   generalize ints .u64 5 (ndF x) = erow at *
   generalize x.1 = x1 at *
   cases hle
   have hjn' : (j : Int) < (m : Int) := by omega
   have wj : IntKind.i64.wrap ((j : Int) + 1) = ((j + 1 : Nat) : Int) := by rw [show (j : Int) + 1 = ((j + 1 : Nat) : Int) by omega]; exact IntWalk.i64_in _ (by have := HM.out; omega)
   have HJ := Lib.hid hjn
   clear hjn hj hcl hx hxm
   go_upto_region 4 with (fail)
   refine wp_region_class (Has σ M) (by kernel_rfl) (by kernel_rfl) h.drew ?_
   clear h
   repeat (first
    | go_big_quiet_skip
    | (go_big_quiet_want; first
     | (refine quiet_load_has 3 _ rfl rfl hbl e0 Tryz.underlying3 rfl ?_; simp only [Act.put, List.setIfInBounds_toArray, List.set_cons_zero, List.set_cons_succ]; go_big_quiet_on)
     | (refine quiet_agg_has 89 _ rfl rfl hbl hx1 hz Tryz.underlying89 rfl (by kernel_rfl) ?_; simp only [Act.put, List.setIfInBounds_toArray, List.set_cons_zero, List.set_cons_succ]; go_big_quiet_on)
     | (refine quiet_neq_flat 89 _ _ _ rfl rfl rfl 10 (by omega) (ks := nKs) (by kernel_rfl) rfl (by kernel_rfl) Tryz.underlying89 rfl (by kernel_rfl) FX.out FX.out ?_; rw [SX]; simp only [Act.put, List.setIfInBounds_toArray, List.set_cons_zero, List.set_cons_succ]; go_big_quiet_on)
     | (go_big_quiet_op; first | go_big_quiet_on | go_big_quiet_call (first | with_reducible exact fun _ => rfl | with_reducible exact ND1.out _))))
   refine wpQuiet_nil ?_
   try clear w
   intro w h
   go_wp2
   go_roundw
   case rel => exact ⟨j + 1, by have := HJ.out; omega, by first | rfl | go_num, h⟩
   case measure => have := HJ.out; simp [intOf]; omega
  ·obtain rfl : m = j := by omega
   have hjn' : ¬ (m : Int) < (m : Int) := by omega
   clear hjn hj
   go_wp2
   go_ret
   exact ⟨rfl, h⟩
theorem zD : (Tryz.prog.info? 86).bind (·.zero) = some (.agg #[.int .i64 0, .int .i64 0, .int .u8 0, .int .u64 0, .int .u64 0, .int .u64 0]) := by kernel_rfl
theorem zTA : (Tryz.prog.info? 43).bind (·.zero) = some (.agg (ints .u64 8 fun _ => 0)) := by kernel_rfl
/-- What a thread was told last, as an array. -/
theorem m_tolds {M : Mm} {lab : Nat → Nat} {p t q n : Nat} {s : MachS} {c : Nat → Int} {tp : List Nat} {g : GM} (hM : Mach M lab p s) (hA : AbsM c tp n s g) (hq : tp[t]? = some q) : ∃ row ty tr, M q = some (.cells row ty (0, 0)) ∧ row.extract 0 (0 + 8) = tr ∧ tr.size = 8 ∧ tr.toList.all (·.oneCell') = true ∧ tr[0]? = some (.int .u64 (g.told t 0 : Nat)) ∧ tr[1]? = some (.int .u64 (g.told t 1 : Nat)) := by
 obtain ⟨fv, hv, fbs, hTh⟩ := hM.each t q (by rw [hA.ttp]; exact hq)
 refine ⟨_, _, #[.int .u64 ((s.thr t).told 0), .int .u64 ((s.thr t).told 1), .int .u64 ((s.thr t).told 2), .int .u64 ((s.thr t).told 3), .int .u64 ((s.thr t).told 4), .int .u64 ((s.thr t).told 5), .int .u64 ((s.thr t).told 6), .int .u64 ((s.thr t).told 7)], hTh.obj, rfl, rfl, rfl, ?_, ?_⟩
 ·show some (Value.int .u64 ((s.thr t).told 0)) = _
  rw [hA.thr.told t 0]
 ·show some (Value.int .u64 ((s.thr t).told 1)) = _
  rw [hA.thr.told t 1]
end
section
open Go.RowKit
/-- What a bit of a routine asks for. -/
structure OkF (c : Nat → Int) (g : StG) (l : Nat) (F : StF) : Prop where
 fn : F.fn = 1 ∨ F.fn = 2
 r1 : F.r1 < 18446744073709551616
 tk : F.fn = 1 → F.pc ≤ 3
 gv : F.fn = 2 → F.pc ≤ 9
 tk1 : F.fn = 1 → F.pc = 1 → (slOf F.r1 : Int) ≤ c 10
 tk2 : F.fn = 1 → F.pc = 2 → 1 ≤ slOf F.r1 ∧ (slOf F.r1 : Int) ≤ c 10 ∧ F.r2 < 9223372036854775808 ∧ ((g.lv l).top = F.r1 → (g.lv l).held (slOf F.r1) = false)
 tk3 : F.fn = 1 → F.pc = 3 → 1 ≤ slOf F.r1 ∧ (slOf F.r1 : Int) ≤ c 10
 r0 : F.fn = 2 → 1 ≤ F.r0 ∧ (F.r0 : Int) ≤ c 10
 gv1 : F.fn = 2 → F.pc = 1 → 1 ≤ F.r2 ∧ F.r2 ≤ 4294967296
 gv6 : F.fn = 2 → F.pc = 6 → F.r2 < 4294967296 ∧ (g.lv l).held F.r0 = true
 hd : ∀ i : Nat, 1 ≤ i → (i : Int) ≤ c 10 → (g.lv l).hd i < 18446744073709551616
end
section
open Go.RowKit
/-- A frame, as layer 22's plain model has it. -/
def frS (F : Fr) : StF := ⟨F.fn, F.pc, F.r 0, F.r 1, F.r 2⟩
/-- Levels, as layer 22's plain model has them. -/
structure StA (B S NL : Nat) (g : GM) (z : StG) : Prop where
  top : ∀ l, l < NL → (z.lv l).top = g.w l 0
  lk : ∀ l i, l < NL → 1 ≤ i → i ≤ S → (z.lv l).lk i = g.w l (oLk B i)
  hd : ∀ l i, l < NL → 1 ≤ i → i ≤ S → (z.lv l).hd i = g.w l (oNd B S i 0)
  held : ∀ l i, l < NL → 1 ≤ i → i ≤ S → (z.lv l).held i = g.held l i
section
variable {B S NL t l : Nat} {g g2 : GM} {z : StG} {fs : List Fr} {F F2 : Fr}
theorem StA.upd (A : StA B S NL g z) {V2 : LvG} (hw : ∀ l', l' ≠ l → ∀ o, g2.w l' o = g.w l' o) (hh : ∀ l' i, l' ≠ l → g2.held l' i = g.held l' i) (h1 : V2.top = g2.w l 0) (h2 : ∀ i, 1 ≤ i → i ≤ S → V2.lk i = g2.w l (oLk B i)) (h3 : ∀ i, 1 ≤ i → i ≤ S → V2.hd i = g2.w l (oNd B S i 0)) (h4 : ∀ i, 1 ≤ i → i ≤ S → V2.held i = g2.held l i) : StA B S NL g2 (z.lev l V2) := by
  refine ⟨fun l' hl => ?_, fun l' i hl a b => ?_, fun l' i hl a b => ?_, fun l' i hl a b => ?_⟩
  · show (put1 z.lv l V2 l').top = _
    by_cases e : l' = l
    · subst e; rw [put1_same]; exact h1
    · rw [put1_ne e, hw l' e]; exact A.top l' hl
  · show (put1 z.lv l V2 l').lk i = _
    by_cases e : l' = l
    · subst e; rw [put1_same]; exact h2 i a b
    · rw [put1_ne e, hw l' e]; exact A.lk l' i hl a b
  · show (put1 z.lv l V2 l').hd i = _
    by_cases e : l' = l
    · subst e; rw [put1_same]; exact h3 i a b
    · rw [put1_ne e, hw l' e]; exact A.hd l' i hl a b
  · show (put1 z.lv l V2 l').held i = _
    by_cases e : l' = l
    · subst e; rw [put1_same]; exact h4 i a b
    · rw [put1_ne e, hh l' i e]; exact A.held l' i hl a b
theorem StA.top' (A : StA B S NL g z) (fs : List Fr) (F : Fr) (f : StF) : StA B S NL (g.top t fs F) (z.go t f) := ⟨A.top, A.lk, A.hd, A.held⟩
theorem StA.back' (A : StA B S NL g z) (fs : List Fr) (us : List Nat) (a b : Nat) : StA B S NL (g.back t fs us) (z.back t a b) := ⟨A.top, A.lk, A.hd, A.held⟩
end
/-- What is so behind a bit. -/
structure StD (B S NL t l : Nat) (fs : List Fr) (F : Fr) (g g2 : GM) (z2 : StG) : Prop where
  abs : StA B S NL g2 z2
  go : (∃ F2, g2.thr = put1 g.thr t (fs ++ [F2]) ∧ z2.thr t = some (frS F2) ∧ g2.told = g.told ∧ F2.fn = F.fn) ∨ (g2.thr = put1 g.thr t fs ∧ z2.thr t = none ∧ (∀ u, u ≠ t → g2.told u = g.told u) ∧ g2.told t 0 = z2.t0 t ∧ g2.told t 1 = z2.t1 t)
  w : ∀ l' o, ¬ (l' = l ∧ (o = 0 ∨ (F.fn = 2 ∧ (o = oLk B (F.r 0) ∨ (oNd B S (F.r 0) 0 ≤ o ∧ o < oNd B S (F.r 0) 0 + 5))))) → g2.w l' o = g.w l' o
  z : F.fn = 2 → ∀ j, 1 ≤ j → j < 5 → (g.w l (oNd B S (F.r 0) j) = 0 ∨ (F.pc = 2 ∧ j = 3) ∨ (F.pc = 3 ∧ j = 4) ∨ (F.pc = 4 ∧ j = 2) ∨ (F.pc = 5 ∧ j = 1)) → g2.w l (oNd B S (F.r 0) j) = 0
  held : ∀ l' x, g2.held l' x = false → g.held l' x = false ∨ (l' = l ∧ x = F.r 0 ∧ F.fn = 2 ∧ F.pc = 6)
set_option maxRecDepth 4000 in
theorem st_take {σ : World} {p t q l n B S NL gens : Nat} {c : Nat → Int} {tp : List Nat} {g : GM} {z : StG} {fs : List Fr} {F : Fr} (hn : n < 100000) (ht : (t : Int) < c 1) (hq : tp[t]? = some q) (hl : levelOf c t = (l : Nat)) (hlc : (l : Int) < c 0) (hthr : g.thr t = fs ++ [F]) (hfs : fs.length < 100000) (hB' : c 11 = (B : Nat)) (hS' : c 10 = (S : Nat)) (hg' : c 12 = (gens : Nat)) (hNL : l < NL) (A : StA B S NL g z) (ok : OkF c z l (frS F)) (h1 : F.fn = 1) :
    (∃ g2, DoesTo 105 σ p t c tp n l g g2 ∧ StD B S NL t l fs F g g2 (z.take t l (frS F))) := by
  have n2 : ¬ F.fn = 2 := by omega
  have nz : F.fn = 2 → ∀ P : Prop, P := fun e => absurd e n2
  have r1 : F.r 1 < 18446744073709551616 := ok.r1
  unfold StG.take
  by_cases hp : (frS F).pc = 0
  · rw [if_pos hp]
    refine ⟨_, does_t0 hn ht hq hl hlc hthr hfs hB' hS' h1 hp r1, A.top' _ _ _, .inl ⟨_, rfl, (put1_same _ _ _).trans ?_, rfl, rfl⟩, fun _ _ _ => rfl, fun e => nz e _, fun _ _ e => .inl e⟩
    show some (⟨F.fn, 1, F.r 0, (z.lv l).top, F.r 2⟩ : StF) = some ⟨F.fn, 1, F.r 0, g.w l 0, F.r 2⟩
    rw [A.top l hNL]
  rw [if_neg hp]
  by_cases hp1 : (frS F).pc = 1
  · rw [if_pos hp1]
    by_cases hs : slOf (frS F).r1 = 0
    · rw [if_pos hs]
      exact ⟨_, does_t1a hn ht hq hl hlc hthr hfs hB' hS' h1 hp1 r1 hs, A.back' _ _ _ _, .inr ⟨rfl, put1_same _ _ _, fun u hu => put1_ne hu, by show put1 g.told t _ t 0 = put1 z.t0 t _ t; rw [put1_same, put1_same]; rfl, by show put1 g.told t _ t 1 = put1 z.t1 t _ t; rw [put1_same, put1_same]; rfl⟩, fun _ _ _ => rfl, fun e => nz e _, fun _ _ e => .inl e⟩
    · rw [if_neg hs]
      have hs2 : slOf (F.r 1) ≤ S := by have := ok.tk1 h1 hp1; have e : slOf (frS F).r1 = slOf (F.r 1) := rfl; omega
      have hs1 : 1 ≤ slOf (F.r 1) := Nat.one_le_iff_ne_zero.2 hs
      refine ⟨_, does_t1b hn ht hq hl hlc hthr hfs hB' hS' h1 hp1 r1 hs hs2, A.top' _ _ _, ?_, fun _ _ _ => rfl, fun e => nz e _, fun _ _ e => .inl e⟩
      refine .inl ⟨_, rfl, (put1_same _ _ _).trans ?_, rfl, rfl⟩
      have e := A.lk l _ hNL hs1 hs2
      show some (⟨F.fn, 2, F.r 0, F.r 1, (z.lv l).lk (slOf (F.r 1))⟩ : StF) = some ⟨F.fn, 2, F.r 0, F.r 1, g.w l (oLk B (slOf (F.r 1)))⟩
      rw [e]
  rw [if_neg hp1]
  by_cases hp2 : (frS F).pc = 2
  · rw [if_pos hp2]
    obtain ⟨a1, a2, a3, a4⟩ := ok.tk2 h1 hp2
    have a2' : slOf (F.r 1) ≤ S := by have e : slOf (frS F).r1 = slOf (F.r 1) := rfl; omega
    have et := A.top l hNL
    by_cases hs : (z.lv l).top = (frS F).r1
    · rw [if_pos hs]
      have a1' : 1 ≤ slOf (F.r 1) := a1
      have hh : g.held l (slOf (F.r 1)) = false := by rw [← A.held l _ hNL a1' a2']; exact a4 hs
      refine ⟨_, does_t2a hn ht hq hl hlc hthr hfs hB' hS' h1 hp2 r1 (by have : 1 ≤ slOf (F.r 1) := a1; omega) a2' a3 (et.symm.trans hs) hh, ?_, .inl ⟨F.goto 3, rfl, put1_same _ _ _, rfl, rfl⟩, fun l' o h => ?_, fun e => nz e _, fun l' x e => .inl ?_⟩
      · refine StA.top' (A.upd (l := l) (fun l' e o => ?_) (fun l' i e => ?_) ?_ (fun i h1 h2 => ?_) (fun i h1 h2 => ?_) fun i h1 h2 => ?_) _ _ _
        · show (g.set l 0 _).w l' o = _
          rw [set_w, if_neg fun h => e h.1]
        · rw [hold_held, if_neg fun h => e h.1]; rfl
        · show _ = (g.set l 0 _).w l 0
          rw [set_w, if_pos ⟨rfl, rfl⟩]; rfl
        · show _ = (g.set l 0 _).w l _
          rw [set_w, if_neg fun h => by have := h.2; unfold oLk at this; omega]; exact A.lk l i hNL h1 h2
        · show _ = (g.set l 0 _).w l _
          rw [set_w, if_neg fun h => by have := h.2; unfold oNd at this; omega]; exact A.hd l i hNL h1 h2
        · rw [hold_held]
          show put1 (z.lv l).held (slOf (F.r 1)) true i = _
          by_cases e : i = slOf (F.r 1)
          · subst e; rw [put1_same, if_pos ⟨rfl, rfl⟩]
          · rw [put1_ne e, if_neg fun h => e h.2]; exact A.held l i hNL h1 h2
      · show (g.set l 0 _).w l' o = _
        rw [set_w, if_neg fun e => h ⟨e.1, .inl e.2⟩]
      · have e2 : ((g.set l 0 (mkTop (F.r 2) (cnt (F.r 1) + 1))).hold l (slOf (F.r 1))).held l' x = false := e
        rw [hold_held] at e2
        split at e2
        · cases e2
        · exact e2
    · rw [if_neg hs]
      exact ⟨_, does_t2b hn ht hq hl hlc hthr hfs hB' hS' h1 hp2 r1 a3 (fun e => hs (et.trans e)), A.top' _ _ _, .inl ⟨F.goto 0, rfl, put1_same _ _ _, rfl, rfl⟩, fun _ _ _ => rfl, fun e => nz e _, fun _ _ e => .inl e⟩
  rw [if_neg hp2]
  have hp3 : (frS F).pc = 3 := by have := ok.tk h1; omega
  obtain ⟨a1, a2⟩ := ok.tk3 h1 hp3
  have a1' : 1 ≤ slOf (F.r 1) := a1
  have a2' : slOf (F.r 1) ≤ S := by have e : slOf (frS F).r1 = slOf (F.r 1) := rfl; omega
  have eh := A.hd l _ hNL a1' a2'
  have hz : g.w l (oNd B S (slOf (F.r 1)) 0) < 18446744073709551616 := by rw [← eh]; exact ok.hd _ a1' (by rw [hS']; omega)
  refine ⟨_, does_t3 hn ht hq hl hlc hthr hfs hB' hS' h1 hp3 r1 (by omega) a2' hz, A.back' _ _ _ _, .inr ⟨rfl, put1_same _ _ _, fun u hu => put1_ne hu, ?_, ?_⟩, fun _ _ _ => rfl, fun e => nz e _, fun _ _ e => .inl e⟩
  · show put1 g.told t _ t 0 = put1 z.t0 t _ t
    rw [put1_same, put1_same]; rfl
  · show put1 g.told t _ t 1 = put1 z.t1 t _ t
    rw [put1_same, put1_same]
    show genOf (g.w l (oNd B S (slOf (F.r 1)) 0)) = genOf ((z.lv l).hd (slOf (F.r 1)))
    rw [eh]
set_option maxRecDepth 4000 in
theorem st_give {σ : World} {p t q l n B S NL gens : Nat} {c : Nat → Int} {tp : List Nat} {g : GM} {z : StG} {fs : List Fr} {F : Fr} (hn : n < 100000) (ht : (t : Int) < c 1) (hq : tp[t]? = some q) (hl : levelOf c t = (l : Nat)) (hlc : (l : Int) < c 0) (hthr : g.thr t = fs ++ [F]) (hfs : fs.length < 100000) (hB' : c 11 = (B : Nat)) (hS' : c 10 = (S : Nat)) (hg' : c 12 = (gens : Nat)) (hNL : l < NL) (A : StA B S NL g z) (ok : OkF c z l (frS F)) (h2 : F.fn = 2) (h60 : S ≤ 60) :
    (∃ g2, DoesTo 105 σ p t c tp n l g g2 ∧ StD B S NL t l fs F g g2 (z.give gens t l (frS F))) := by
  obtain ⟨x1, x2i⟩ := ok.r0 h2
  have x1 : 1 ≤ F.r 0 := x1
  have x2 : F.r 0 ≤ S := by have e : (frS F).r0 = F.r 0 := rfl; omega
  have eh := A.hd l _ hNL x1 x2
  have hz : g.w l (oNd B S (F.r 0) 0) < 18446744073709551616 := by rw [← eh]; exact ok.hd _ x1 (by rw [hS']; omega)
  have et := A.top l hNL
  have epc : (frS F).pc = F.pc := rfl
  unfold StG.give
  by_cases hp : (frS F).pc = 0
  · rw [if_pos hp]
    refine ⟨_, does_g0 hn ht hq hl hlc hthr hfs hB' hS' h2 hp x1 x2 hz, A.top' _ _ _, .inl ⟨_, rfl, (put1_same _ _ _).trans ?_, rfl, rfl⟩, fun _ _ _ => rfl, fun _ j j1 j5 hj => (by
      rcases hj with hj | hj
      · exact hj
      · omega), fun _ _ e => .inl e⟩
    show some (⟨F.fn, 1, F.r 0, F.r 1, genOf ((z.lv l).hd (F.r 0)) + 1⟩ : StF) = some ⟨F.fn, 1, F.r 0, F.r 1, genOf (g.w l (oNd B S (F.r 0) 0)) + 1⟩
    rw [eh]
  rw [if_neg hp]
  by_cases hp1 : (frS F).pc = 1
  · rw [if_pos hp1]
    obtain ⟨g1, g2⟩ := ok.gv1 h2 hp1
    refine ⟨_, does_g1 hn ht hq hl hlc hthr hfs hB' hS' h2 hp1 x1 x2 g1 g2, ?_, .inl ⟨F.goto 2, rfl, put1_same _ _ _, rfl, rfl⟩, fun l' o h => ?_, fun _ j j1 j5 hj => ?_, fun _ _ e => .inl e⟩
    · skip
      refine StA.top' (A.upd (l := l) (fun l' e o => ?_) (fun l' i e => ?_) ?_ (fun i h1 h2 => ?_) (fun i h1 h2 => ?_) fun i h1 h2 => ?_) _ _ _
      · show (g.set l _ _).w l' o = _
        rw [set_w, if_neg fun h => e h.1]
      · rfl
      · show _ = (g.set l _ _).w l 0
        rw [set_w, if_neg fun h => by have := h.2; unfold oNd at this; omega]; exact A.top l hNL
      · show _ = (g.set l _ _).w l _
        rw [set_w, if_neg fun h => by have := h.2; unfold oNd oLk at this; omega]; exact A.lk l i hNL h1 h2
      · show put1 (z.lv l).hd (F.r 0) _ i = (g.set l _ _).w l _
        rw [set_w]
        by_cases e : i = F.r 0
        · subst e; rw [put1_same, if_pos ⟨rfl, rfl⟩]; rfl
        · rw [put1_ne e, if_neg fun h => by have := h.2; unfold oNd at this; omega]; exact A.hd l i hNL h1 h2
      · exact A.held l i hNL h1 h2
    · show (g.set l _ _).w l' o = _
      rw [set_w, if_neg fun e => h ⟨e.1, .inr ⟨h2, .inr (by have := e.2; unfold oNd at this ⊢; omega)⟩⟩]
    · show (g.set l _ _).w l _ = 0
      rw [set_w, if_neg fun h => by have := h.2; unfold oNd at this; omega]
      rcases hj with hj | hj
      · exact hj
      · omega
  rw [if_neg hp1]
  by_cases hp2 : (frS F).pc = 2
  · skip
    rw [if_pos hp2]
    refine ⟨_, does_g2 hn ht hq hl hlc hthr hfs hB' hS' h2 hp2 x1 x2, ?_, .inl ⟨F.goto 3, rfl, put1_same _ _ _, rfl, rfl⟩, fun l' o h => ?_, fun _ j j1 j5 hj => ?_, fun _ _ e => .inl e⟩
    · refine StA.top' (⟨fun l' h => ?_, fun l' i h a b => ?_, fun l' i h a b => ?_, A.held⟩ : StA B S NL (g.set l (oNd B S (F.r 0) 3) 0) z) _ _ _
      · rw [set_w, if_neg fun h => by have := h.2; unfold oNd at this; omega]; exact A.top l' h
      · rw [set_w, if_neg fun h => by have := h.2; unfold oNd oLk at this; omega]; exact A.lk l' i h a b
      · rw [set_w, if_neg fun h => by have := h.2; unfold oNd at this; omega]; exact A.hd l' i h a b
    · show (g.set l _ 0).w l' o = _
      rw [set_w, if_neg fun e => h ⟨e.1, .inr ⟨h2, .inr (by have := e.2; unfold oNd at this ⊢; omega)⟩⟩]
    · show (g.set l _ 0).w l _ = 0
      rw [set_w]
      split
      · rfl
      · next hne =>
        rcases hj with hj | hj
        · exact hj
        · exact absurd (⟨rfl, by have := hp2; have e : (frS F).pc = F.pc := rfl; have ej : j = 3 := by omega
                                 rw [ej]⟩ : l = l ∧ oNd B S (F.r 0) j = oNd B S (F.r 0) 3) hne
  rw [if_neg hp2]
  by_cases hp3 : (frS F).pc = 3
  · skip
    rw [if_pos hp3]
    refine ⟨_, does_g3 hn ht hq hl hlc hthr hfs hB' hS' h2 hp3 x1 x2, ?_, .inl ⟨F.goto 4, rfl, put1_same _ _ _, rfl, rfl⟩, fun l' o h => ?_, fun _ j j1 j5 hj => ?_, fun _ _ e => .inl e⟩
    · refine StA.top' (⟨fun l' h => ?_, fun l' i h a b => ?_, fun l' i h a b => ?_, A.held⟩ : StA B S NL (g.set l (oNd B S (F.r 0) 4) 0) z) _ _ _
      · rw [set_w, if_neg fun h => by have := h.2; unfold oNd at this; omega]; exact A.top l' h
      · rw [set_w, if_neg fun h => by have := h.2; unfold oNd oLk at this; omega]; exact A.lk l' i h a b
      · rw [set_w, if_neg fun h => by have := h.2; unfold oNd at this; omega]; exact A.hd l' i h a b
    · show (g.set l _ 0).w l' o = _
      rw [set_w, if_neg fun e => h ⟨e.1, .inr ⟨h2, .inr (by have := e.2; unfold oNd at this ⊢; omega)⟩⟩]
    · show (g.set l _ 0).w l _ = 0
      rw [set_w]
      split
      · rfl
      · next hne =>
        rcases hj with hj | hj
        · exact hj
        · exact absurd (⟨rfl, by have := hp3; have e : (frS F).pc = F.pc := rfl; have ej : j = 4 := by omega
                                 rw [ej]⟩ : l = l ∧ oNd B S (F.r 0) j = oNd B S (F.r 0) 4) hne
  rw [if_neg hp3]
  by_cases hp4 : (frS F).pc = 4
  · skip
    rw [if_pos hp4]
    refine ⟨_, does_g4 hn ht hq hl hlc hthr hfs hB' hS' h2 hp4 x1 x2, ?_, .inl ⟨F.goto 5, rfl, put1_same _ _ _, rfl, rfl⟩, fun l' o h => ?_, fun _ j j1 j5 hj => ?_, fun _ _ e => .inl e⟩
    · refine StA.top' (⟨fun l' h => ?_, fun l' i h a b => ?_, fun l' i h a b => ?_, A.held⟩ : StA B S NL (g.set l (oNd B S (F.r 0) 2) 0) z) _ _ _
      · rw [set_w, if_neg fun h => by have := h.2; unfold oNd at this; omega]; exact A.top l' h
      · rw [set_w, if_neg fun h => by have := h.2; unfold oNd oLk at this; omega]; exact A.lk l' i h a b
      · rw [set_w, if_neg fun h => by have := h.2; unfold oNd at this; omega]; exact A.hd l' i h a b
    · show (g.set l _ 0).w l' o = _
      rw [set_w, if_neg fun e => h ⟨e.1, .inr ⟨h2, .inr (by have := e.2; unfold oNd at this ⊢; omega)⟩⟩]
    · show (g.set l _ 0).w l _ = 0
      rw [set_w]
      split
      · rfl
      · next hne =>
        rcases hj with hj | hj
        · exact hj
        · exact absurd (⟨rfl, by have := hp4; have e : (frS F).pc = F.pc := rfl; have ej : j = 2 := by omega
                                 rw [ej]⟩ : l = l ∧ oNd B S (F.r 0) j = oNd B S (F.r 0) 2) hne
  rw [if_neg hp4]
  by_cases hp5 : (frS F).pc = 5
  · skip
    rw [if_pos hp5]
    refine ⟨_, does_g5 hn ht hq hl hlc hthr hfs hB' hS' h2 hp5 x1 x2, ?_, .inl ⟨F.goto 6, rfl, put1_same _ _ _, rfl, rfl⟩, fun l' o h => ?_, fun _ j j1 j5 hj => ?_, fun _ _ e => .inl e⟩
    · refine StA.top' (⟨fun l' h => ?_, fun l' i h a b => ?_, fun l' i h a b => ?_, A.held⟩ : StA B S NL (g.set l (oNd B S (F.r 0) 1) 0) z) _ _ _
      · rw [set_w, if_neg fun h => by have := h.2; unfold oNd at this; omega]; exact A.top l' h
      · rw [set_w, if_neg fun h => by have := h.2; unfold oNd oLk at this; omega]; exact A.lk l' i h a b
      · rw [set_w, if_neg fun h => by have := h.2; unfold oNd at this; omega]; exact A.hd l' i h a b
    · show (g.set l _ 0).w l' o = _
      rw [set_w, if_neg fun e => h ⟨e.1, .inr ⟨h2, .inr (by have := e.2; unfold oNd at this ⊢; omega)⟩⟩]
    · show (g.set l _ 0).w l _ = 0
      rw [set_w]
      split
      · rfl
      · next hne =>
        rcases hj with hj | hj
        · exact hj
        · exact absurd (⟨rfl, by have := hp5; have e : (frS F).pc = F.pc := rfl; have ej : j = 1 := by omega
                                 rw [ej]⟩ : l = l ∧ oNd B S (F.r 0) j = oNd B S (F.r 0) 1) hne
  rw [if_neg hp5]
  by_cases hp6 : (frS F).pc = 6
  · rw [if_pos hp6]
    obtain ⟨k1, k2⟩ := ok.gv6 h2 hp6
    have k1 : F.r 2 < 4294967296 := k1
    have hh : g.held l (F.r 0) = true := by rw [← A.held l _ hNL x1 x2]; exact k2
    by_cases hs : (frS F).r2 < gens
    · rw [if_pos hs]
      refine ⟨_, does_g6a hn ht hq hl hlc hthr hfs hB' hS' h2 hp6 x1 x2 k1 hh (by rw [hg']; have e : (frS F).r2 = F.r 2 := rfl; omega), ?_, .inl ⟨F.goto 7, rfl, put1_same _ _ _, rfl, rfl⟩, fun l' o h => ?_, fun _ j j1 j5 hj => ?_, fun l' x e => ?_⟩
      · skip
        refine StA.top' (A.upd (l := l) (fun l' e o => ?_) (fun l' i e => ?_) ?_ (fun i h1 h2 => ?_) (fun i h1 h2 => ?_) fun i h1 h2 => ?_) _ _ _
        · show (g.set l _ _).w l' o = _
          rw [set_w, if_neg fun h => e h.1]
        · rw [drop_held, if_neg fun h => e h.1]; rfl
        · show _ = (g.set l _ _).w l 0
          rw [set_w, if_neg fun h => by have := h.2; unfold oNd at this; omega]; exact A.top l hNL
        · show _ = (g.set l _ _).w l _
          rw [set_w, if_neg fun h => by have := h.2; unfold oNd oLk at this; omega]; exact A.lk l i hNL h1 h2
        · show put1 (z.lv l).hd (F.r 0) _ i = (g.set l _ _).w l _
          rw [set_w]
          by_cases e : i = F.r 0
          · subst e; rw [put1_same, if_pos ⟨rfl, rfl⟩]; rfl
          · rw [put1_ne e, if_neg fun h => by have := h.2; unfold oNd at this; omega]; exact A.hd l i hNL h1 h2
        · rw [drop_held]
          show put1 (z.lv l).held (F.r 0) false i = _
          by_cases e : i = F.r 0
          · subst e; rw [put1_same, if_pos ⟨rfl, rfl⟩]
          · rw [put1_ne e, if_neg fun h => e h.2]; exact A.held l i hNL h1 h2
      · show (g.set l _ _).w l' o = _
        rw [set_w, if_neg fun e => h ⟨e.1, .inr ⟨h2, .inr (by have := e.2; unfold oNd at this ⊢; omega)⟩⟩]
      · show (g.set l _ _).w l _ = 0
        rw [set_w, if_neg fun h => by have := h.2; unfold oNd at this; omega]
        rcases hj with hj | hj
        · exact hj
        · omega
      · have e2 : ((g.set l (oNd B S (F.r 0) 0) (mkHead (F.r 2) 0)).drop l (F.r 0)).held l' x = false := e
        rw [drop_held] at e2
        split at e2
        · next hx => exact .inr ⟨hx.1, hx.2, h2, hp6⟩
        · exact .inl e2
    · rw [if_neg hs]
      refine ⟨_, does_g6b hn ht hq hl hlc hthr hfs hB' hS' h2 hp6 x1 x2 k1 hh (by rw [hg']; have e : (frS F).r2 = F.r 2 := rfl; omega), ?_, .inr ⟨rfl, put1_same _ _ _, fun u hu => put1_ne hu, by show put1 g.told t _ t 0 = put1 z.t0 t _ t; rw [put1_same, put1_same]; rfl, by show put1 g.told t _ t 1 = put1 z.t1 t _ t; rw [put1_same, put1_same]; rfl⟩, fun l' o h => ?_, fun _ j j1 j5 hj => ?_, fun l' x e => ?_⟩
      · skip
        refine StA.back' (A.upd (l := l) (fun l' e o => ?_) (fun l' i e => ?_) ?_ (fun i h1 h2 => ?_) (fun i h1 h2 => ?_) fun i h1 h2 => ?_) _ _ _ _
        · show (g.set l _ _).w l' o = _
          rw [set_w, if_neg fun h => e h.1]
        · rw [drop_held, if_neg fun h => e h.1]; rfl
        · show _ = (g.set l _ _).w l 0
          rw [set_w, if_neg fun h => by have := h.2; unfold oNd at this; omega]; exact A.top l hNL
        · show _ = (g.set l _ _).w l _
          rw [set_w, if_neg fun h => by have := h.2; unfold oNd oLk at this; omega]; exact A.lk l i hNL h1 h2
        · show put1 (z.lv l).hd (F.r 0) _ i = (g.set l _ _).w l _
          rw [set_w]
          by_cases e : i = F.r 0
          · subst e; rw [put1_same, if_pos ⟨rfl, rfl⟩]; rfl
          · rw [put1_ne e, if_neg fun h => by have := h.2; unfold oNd at this; omega]; exact A.hd l i hNL h1 h2
        · rw [drop_held]
          show put1 (z.lv l).held (F.r 0) false i = _
          by_cases e : i = F.r 0
          · subst e; rw [put1_same, if_pos ⟨rfl, rfl⟩]
          · rw [put1_ne e, if_neg fun h => e h.2]; exact A.held l i hNL h1 h2
      · show (g.set l _ _).w l' o = _
        rw [set_w, if_neg fun e => h ⟨e.1, .inr ⟨h2, .inr (by have := e.2; unfold oNd at this ⊢; omega)⟩⟩]
      · show (g.set l _ _).w l _ = 0
        rw [set_w, if_neg fun h => by have := h.2; unfold oNd at this; omega]
        rcases hj with hj | hj
        · exact hj
        · omega
      · have e2 : ((g.set l (oNd B S (F.r 0) 0) (mkHead (F.r 2) 0)).drop l (F.r 0)).held l' x = false := e
        rw [drop_held] at e2
        split at e2
        · next hx => exact .inr ⟨hx.1, hx.2, h2, hp6⟩
        · exact .inl e2
  rw [if_neg hp6]
  by_cases hp7 : (frS F).pc = 7
  · rw [if_pos hp7]
    refine ⟨_, does_g7 hn ht hq hl hlc hthr hfs hB' hS' h2 hp7 x1 x2, A.top' _ _ _, .inl ⟨_, rfl, (put1_same _ _ _).trans ?_, rfl, rfl⟩, fun _ _ _ => rfl, fun _ j j1 j5 hj => (by
      rcases hj with hj | hj
      · exact hj
      · omega), fun _ _ e => .inl e⟩
    show some (⟨F.fn, 8, F.r 0, (z.lv l).top, F.r 2⟩ : StF) = some ⟨F.fn, 8, F.r 0, g.w l 0, F.r 2⟩
    rw [et]
  rw [if_neg hp7]
  by_cases hp8 : (frS F).pc = 8
  · rw [if_pos hp8]
    refine ⟨_, does_g8 hn ht hq hl hlc hthr hfs hB' hS' h2 hp8 x1 x2 ok.r1, ?_, .inl ⟨F.goto 9, rfl, put1_same _ _ _, rfl, rfl⟩, fun l' o h => ?_, fun _ j j1 j5 hj => ?_, fun _ _ e => .inl e⟩
    · refine StA.top' (A.upd (l := l) (fun l' e o => ?_) (fun l' i e => ?_) ?_ (fun i h1 h2 => ?_) (fun i h1 h2 => ?_) fun i h1 h2 => ?_) _ _ _
      · show (g.set l _ _).w l' o = _
        rw [set_w, if_neg fun h => e h.1]
      · rfl
      · show _ = (g.set l _ _).w l 0
        rw [set_w, if_neg fun h => by have := h.2; unfold oLk at this; omega]; exact et
      · show put1 (z.lv l).lk (F.r 0) _ i = (g.set l _ _).w l _
        rw [set_w]
        by_cases e : i = F.r 0
        · subst e; rw [put1_same, if_pos ⟨rfl, rfl⟩]; rfl
        · rw [put1_ne e, if_neg fun h => by have := h.2; unfold oLk at this; omega]; exact A.lk l i hNL h1 h2
      · show _ = (g.set l _ _).w l _
        rw [set_w, if_neg fun h => by have := h.2; unfold oNd oLk at this; omega]; exact A.hd l i hNL h1 h2
      · exact A.held l i hNL h1 h2
    · show (g.set l _ _).w l' o = _
      rw [set_w, if_neg fun e => h ⟨e.1, .inr ⟨h2, .inl e.2⟩⟩]
    · show (g.set l _ _).w l _ = 0
      rw [set_w, if_neg fun h => by have := h.2; unfold oNd oLk at this; omega]
      rcases hj with hj | hj
      · exact hj
      · omega
  rw [if_neg hp8]
  have hp9 : (frS F).pc = 9 := by have := ok.gv h2; omega
  by_cases hs : (z.lv l).top = (frS F).r1
  · rw [if_pos hs]
    refine ⟨_, does_g9a hn ht hq hl hlc hthr hfs hB' hS' h2 hp9 x1 x2 ok.r1 (et.symm.trans hs), ?_, .inr ⟨rfl, put1_same _ _ _, fun u hu => put1_ne hu, by show put1 g.told t _ t 0 = put1 z.t0 t _ t; rw [put1_same, put1_same]; rfl, by show put1 g.told t _ t 1 = put1 z.t1 t _ t; rw [put1_same, put1_same]; rfl⟩, fun l' o h => ?_, fun _ j j1 j5 hj => ?_, fun _ _ e => .inl e⟩
    · refine StA.back' (A.upd (l := l) (fun l' e o => ?_) (fun l' i e => ?_) ?_ (fun i h1 h2 => ?_) (fun i h1 h2 => ?_) fun i h1 h2 => ?_) _ _ _ _
      · show (g.set l _ _).w l' o = _
        rw [set_w, if_neg fun h => e h.1]
      · rfl
      · show _ = (g.set l 0 _).w l 0
        rw [set_w, if_pos ⟨rfl, rfl⟩]; rfl
      · show _ = (g.set l 0 _).w l _
        rw [set_w, if_neg fun h => by have := h.2; unfold oLk at this; omega]; exact A.lk l i hNL h1 h2
      · show _ = (g.set l 0 _).w l _
        rw [set_w, if_neg fun h => by have := h.2; unfold oNd at this; omega]; exact A.hd l i hNL h1 h2
      · exact A.held l i hNL h1 h2
    · show (g.set l 0 _).w l' o = _
      rw [set_w, if_neg fun e => h ⟨e.1, .inl e.2⟩]
    · show (g.set l 0 _).w l _ = 0
      rw [set_w, if_neg fun h => by have := h.2; unfold oNd at this; omega]
      rcases hj with hj | hj
      · exact hj
      · omega
  · rw [if_neg hs]
    exact ⟨_, does_g9b hn ht hq hl hlc hthr hfs hB' hS' h2 hp9 x1 x2 ok.r1 (fun e => hs (et.trans e)), A.top' _ _ _, .inl ⟨F.goto 7, rfl, put1_same _ _ _, rfl, rfl⟩, fun _ _ _ => rfl, fun _ j j1 j5 hj => (by
      rcases hj with hj | hj
      · exact hj
      · omega), fun _ _ e => .inl e⟩
theorem st_does {σ : World} {p t q l n B S NL gens : Nat} {c : Nat → Int} {tp : List Nat} {g : GM} {z : StG} {fs : List Fr} {F : Fr} (hn : n < 100000) (ht : (t : Int) < c 1) (hq : tp[t]? = some q) (hl : levelOf c t = (l : Nat)) (hlc : (l : Int) < c 0) (hthr : g.thr t = fs ++ [F]) (hfs : fs.length < 100000) (hB' : c 11 = (B : Nat)) (hS' : c 10 = (S : Nat)) (hg' : c 12 = (gens : Nat)) (hNL : l < NL) (A : StA B S NL g z) (ok : OkF c z l (frS F)) (h60 : S ≤ 60) :
    (∃ g2, DoesTo 105 σ p t c tp n l g g2 ∧ StD B S NL t l fs F g g2 (z.next gens t l (frS F))) := by
  unfold StG.next
  rcases ok.fn with h1 | h2
  · rw [if_pos h1]; exact st_take hn ht hq hl hlc hthr hfs hB' hS' hg' hNL A ok h1
  · rw [if_neg (by omega)]; exact st_give hn ht hq hl hlc hthr hfs hB' hS' hg' hNL A ok h2 h60
end
section
open Go.RowKit
section
variable {S gens NL T n : Nat} {lev hl : Nat → Nat} {g g2 : StG} {L : Nat → List Nat} {ow : Nat → Nat → Nat × Nat} {had : Nat → List Nat} {ev : Nat → List (Nat × Nat)} {t l x : Nat} {F F2 : StF} {V V2 : LvG} {o o2 : Nat → Nat × Nat}
theorem LvI.point {K K2 : List Nat} (h : LvI S gens n V o K) (h1 : ∀ i, i ≠ x → V2.hd i = V.hd i ∧ V2.held i = V.held i ∧ o2 i = o i) (hchain : chainP V2.lk (slOf V2.top) K2) (hnd : K2.Nodup) (hmem : ∀ y, y ∈ K2 ↔ 1 ≤ y ∧ y ≤ S ∧ (o2 y).1 = 1) (htop : V2.top < 18446744073709551616) (hcnt : cnt V2.top ≤ n + 1) (hlk : ∀ i, 1 ≤ i → i ≤ S → V2.lk i ≤ S)
  (hhd : V2.hd x < 17179869184 ∧ genOf (V2.hd x) ≤ n + 1) (hon : (o2 x).1 = 2 ∨ (o2 x).1 = 3 ∨ (o2 x).1 = 4 → V2.held x = true) (hoff : (o2 x).1 = 1 ∨ (o2 x).1 = 5 → V2.held x = false ∧ V2.hd x % 4 = 0 ∧ genOf (V2.hd x) < gens) (hnone : (o2 x).1 = 0 → V2.held x = true ∨ gens ≤ genOf (V2.hd x)) (hcode : (o2 x).1 ≤ 5) : LvI S gens (n + 1) V2 o2 K2 := by
 refine ⟨hchain, hnd, hmem, htop, hcnt, hlk, fun i a b => ?_, fun i a b e => ?_, fun i a b e => ?_, fun i a b e => ?_, fun i a b => ?_⟩
 ·by_cases hi : i = x
  ·subst hi; exact hhd
  ·rw [(h1 i hi).1]; exact (h.mono.hd i a b)
 ·by_cases hi : i = x
  ·subst hi; exact hon e
  ·rw [(h1 i hi).2.1]; rw [(h1 i hi).2.2] at e; exact h.on i a b e
 ·by_cases hi : i = x
  ·subst hi; exact hoff e
  ·rw [(h1 i hi).2.1, (h1 i hi).1]; rw [(h1 i hi).2.2] at e; exact h.off i a b e
 ·by_cases hi : i = x
  ·subst hi; exact hnone e
  ·rw [(h1 i hi).2.1, (h1 i hi).1]; rw [(h1 i hi).2.2] at e; exact h.none i a b e
 ·by_cases hi : i = x
  ·subst hi; exact hcode
  ·rw [(h1 i hi).2.2]; exact h.code i a b
theorem LvI.mem2 {K : List Nat} (h : LvI S gens n V o K) (h1 : ∀ i, i ≠ x → o2 i = o i) (hx : (o x).1 ≠ 1) (hx2 : (o2 x).1 ≠ 1) : ∀ y, y ∈ K ↔ 1 ≤ y ∧ y ≤ S ∧ (o2 y).1 = 1 := fun y => by
 rw [h.mem y]
 by_cases e : y = x
 ·subst e
  exact ⟨fun h => absurd h.2.2 hx, fun h => absurd h.2.2 hx2⟩
 ·rw [h1 y e]
theorem LvI.far {K : List Nat} (h : LvI S gens n V o K) (hx0 : 1 ≤ x) (hx : (o x).1 ≠ 1) : slOf V.top ≠ x ∧ x ∉ K := by
 have hm : x ∉ K := fun hm => hx ((h.mem x).1 hm).2.2
 refine ⟨fun e => ?_, hm⟩
 obtain ⟨r, hr⟩ := h.first.2.2 (by omega)
 exact hm (by rw [hr, e]; exact List.mem_cons_self)
theorem gi_t0 (h : GInv S gens NL T lev hl n g L ow had ev) (ht : t < T) (hl0 : lev t < NL) (hF : g.thr t = some F) (h1 : F.fn = 1) (hp : F.pc = 0) : GInv S gens NL T lev hl (n + 1) (g.go t { F with r1 := (g.lv (lev t)).top, pc := 1 }) L ow had ev := by
 have h3 := h.thr t ht F hF
 have hV := h.lv (lev t) hl0
 have no2 : F.fn ≠ 2 := by omega
 refine h.same rfl rfl fun F' e => ?_
 cases e
 exact ⟨.inl h1, hV.top, fun _ => ⟨Past.refl _, hV.first.1⟩, fun _ => (by decide : 1 ≤ 3), fun h => absurd h no2, fun _ h => absurd h (show ¬ 1 = 2 by decide), fun _ h => absurd h (show ¬ 1 = 3 by decide), fun h => absurd h no2, fun h => absurd h no2, fun h => absurd h no2⟩
theorem gi_back (h : GInv S gens NL T lev hl n g L ow had ev) (ht : t < T) (hl0 : lev t < NL) (hF : g.thr t = some F) (a b : Nat) : GInv S gens NL T lev hl (n + 1) (g.back t a b) L ow had ev := h.same rfl rfl fun F' e => by cases e
theorem gi_t1b (h : GInv S gens NL T lev hl n g L ow had ev) (ht : t < T) (hl0 : lev t < NL) (hF : g.thr t = some F) (h1 : F.fn = 1) (hp : F.pc = 1) (hs : slOf F.r1 ≠ 0) : GInv S gens NL T lev hl (n + 1) (g.go t { F with r2 := (g.lv (lev t)).lk (slOf F.r1), pc := 2 }) L ow had ev := by
 have h3 := h.thr t ht F hF
 have hV := h.lv (lev t) hl0
 have no2 : F.fn ≠ 2 := by omega
 obtain ⟨p1, p2⟩ := h3.past (.inl ⟨h1, .inl hp⟩)
 refine h.same rfl rfl fun F' e => ?_
 cases e
 exact ⟨.inl h1, h3.r1, fun _ => ⟨p1, p2⟩, fun _ => (by decide : 2 ≤ 3), fun h => absurd h no2, fun _ _ => ⟨(show 1 ≤ slOf F.r1 by omega), hV.lk _ (by omega) p2, fun _ => rfl⟩, fun _ h => absurd h (show ¬ 2 = 3 by decide), fun h => absurd h no2, fun h => absurd h no2, fun h => absurd h no2⟩
theorem gi_t2b (h : GInv S gens NL T lev hl n g L ow had ev) (ht : t < T) (hl0 : lev t < NL) (hF : g.thr t = some F) (h1 : F.fn = 1) : GInv S gens NL T lev hl (n + 1) (g.go t { F with pc := 0 }) L ow had ev := by
 have h3 := h.thr t ht F hF
 have hV := h.lv (lev t) hl0
 have no2 : F.fn ≠ 2 := by omega
 refine h.same rfl rfl fun F' e => ?_
 cases e
 exact ⟨.inl h1, h3.r1, fun h => by rcases h with ⟨_, h | h⟩ | ⟨h, _⟩ <;> first | cases h | exact absurd h no2, fun _ => (by decide : 0 ≤ 3), fun h => absurd h no2, fun _ h => absurd h (show ¬ 0 = 2 by decide), fun _ h => absurd h (show ¬ 0 = 3 by decide), fun h => absurd h no2, fun h => absurd h no2, fun h => absurd h no2⟩
/-- The first slot is taken. -/
theorem gi_t2a (h : GInv S gens NL T lev hl n g L ow had ev) (ht : t < T) (hl0 : lev t < NL) (hF : g.thr t = some F) (hS : S ≤ 60) (hn : n < 100000) (h1 : F.fn = 1) (hp : F.pc = 2) (hs : (g.lv (lev t)).top = F.r1) : ∃ r, L (lev t) = slOf F.r1 :: r ∧ ow (lev t) (slOf F.r1) = (1, (ow (lev t) (slOf F.r1)).2) ∧
  GInv S gens NL T lev hl (n + 1) ((g.lev (lev t) { g.lv (lev t) with top := mkTop F.r2 (cnt F.r1 + 1), held := put1 (g.lv (lev t)).held (slOf F.r1) true }).go t { F with pc := 3 }) (put1 L (lev t) r) (put1 ow (lev t) (put1 (ow (lev t)) (slOf F.r1) (3, t))) had ev := by
 have h3 := h.thr t ht F hF
 have hV := h.lv (lev t) hl0
 have no2 : F.fn ≠ 2 := by omega
 obtain ⟨q1, q2, q3⟩ := h3.tk2 h1 hp
 obtain ⟨r, hr⟩ := hV.first.2.2 (by rw [hs]; omega)
 rw [hs] at hr
 have hc := hV.chain
 have hnd := hV.nodup
 have hm := fun y => hV.mem y
 have hcn := hV.cntN
 rw [hs] at hcn
 rw [hs, hr] at hc
 rw [hr] at hnd hm
 have hx := (hm (slOf F.r1)).1 List.mem_cons_self
 have hnx := (List.nodup_cons.1 hnd).1
 refine ⟨r, hr, Prod.ext hx.2.2 rfl, ?_⟩
 have U := h.upd (t := t) (x := slOf F.r1) (g2 := (g.lev (lev t) { g.lv (lev t) with top := mkTop F.r2 (cnt F.r1 + 1), held := put1 (g.lv (lev t)).held (slOf F.r1) true }).go t { F with pc := 3 }) (V2 := { g.lv (lev t) with top := mkTop F.r2 (cnt F.r1 + 1), held := put1 (g.lv (lev t)).held (slOf F.r1) true }) (o2 := put1 (ow (lev t)) (slOf F.r1) (3, t)) (L2 := r) (had2 := had) (ev2 := ev (lev t)) hl0 rfl rfl (.inr ?_) (fun i hi => ⟨rfl, rfl, put1_ne hi⟩) (fun k t' hk _ e => ?_) (fun _ => .inr rfl) ?_ (fun F' e => ?_) (fun j _ => ?_) (fun _ _ => rfl) ?_
 ·rw [put1_self] at U; exact U
 ·show cnt (mkTop _ _) = _
  rw [cnt_top (by omega), hs]
 ·have := congrArg Prod.fst e
  rw [hx.2.2] at this
  have h5 : 1 = k := this
  omega
 ·refine hV.point (x := slOf F.r1) (fun i hi => ⟨rfl, put1_ne hi, put1_ne hi⟩) ?_ (List.nodup_cons.1 hnd).2 (fun y => ?_) (top_lt _ _) ?_ hV.lk ?_ (fun _ => put1_same _ _ _) (fun e => ?_) (fun e => ?_) ?_
  ·show chainP _ (slOf (mkTop _ _)) r
   rw [sl_top (by omega), q3 hs]
   exact hc.2.2
  ·have hy := hm y
   by_cases e : y = slOf F.r1
   ·subst e
    rw [put1_same]
    exact ⟨fun e => absurd e hnx, fun e => absurd e.2.2 (show ¬ 3 = 1 by decide)⟩
   ·rw [put1_ne e, ← hy, List.mem_cons]
    exact ⟨.inr, fun h => h.resolve_left e⟩
  ·show cnt (mkTop _ _) ≤ _
   rw [cnt_top (by omega)]; omega
  ·exact hV.mono.hd _ hx.1 hx.2.1
  ·rw [put1_same] at e; rcases e with e | e <;> cases e
  ·rw [put1_same] at e; cases e
  ·rw [put1_same]; exact (by decide : 3 ≤ 5)
 ·cases e
  exact ⟨.inl h1, h3.r1, fun h => by rcases h with ⟨_, h | h⟩ | ⟨h, _⟩ <;> first | cases h | exact absurd h no2, fun _ => (by decide : 3 ≤ 3), fun h => absurd h no2, fun _ h => absurd h (show ¬ 3 = 2 by decide), fun _ _ => ⟨hx.1, hx.2.1, put1_same _ _ _⟩, fun h => absurd h no2, fun h => absurd h no2, fun h => absurd h no2⟩
 ·rename_i hj
  have hj' := h.had j
  rw [hj] at hj'
  exact hj'.keep (x := slOf F.r1) (fun i hi => put1_ne hi) (by rw [hx.2.2]; simp)
 ·refine (h.ev (lev t) hl0).keep (fun i => rfl) fun i a b e => ?_
  by_cases hi : i = slOf F.r1
  ·subst hi; exact .inl hx.2.2
  ·rw [put1_ne hi] at e; exact e
/-- What was taken is told: holder j has it. -/
theorem gi_t3 (h : GInv S gens NL T lev hl n g L ow had ev) (ht : t < T) (hl0 : lev t < NL) (hF : g.thr t = some F) (h1 : F.fn = 1) (hp : F.pc = 3) {j : Nat} (hj : hl j = lev t) (a b : Nat) : ow (lev t) (slOf F.r1) = (3, t) ∧ 1 ≤ slOf F.r1 ∧ slOf F.r1 ≤ S ∧ (∀ gn, (slOf F.r1, gn) ∈ ev (lev t) → gn < genOf ((g.lv (lev t)).hd (slOf F.r1))) ∧ slOf F.r1 ∉ had j ∧
  GInv S gens NL T lev hl (n + 1) (g.back t a b) L (put1 ow (lev t) (put1 (ow (lev t)) (slOf F.r1) (2, j))) (put1 had j (had j ++ [slOf F.r1])) (put1 ev (lev t) (ev (lev t) ++ [(slOf F.r1, genOf ((g.lv (lev t)).hd (slOf F.r1)))])) := by
 have h3 := h.thr t ht F hF
 have hV := h.lv (lev t) hl0
 have no2 : F.fn ≠ 2 := by omega
 obtain ⟨q1, q2, q3⟩ := h3.tk3 h1 hp
 have hE := h.ev (lev t) hl0
 have hlt : ∀ gn, (slOf F.r1, gn) ∈ ev (lev t) → gn < genOf ((g.lv (lev t)).hd (slOf F.r1)) := fun gn hg => (hE.all _ _ hg).2.2.2 (by rw [q3]; exact .inr (.inl rfl))
 have hnj : ∀ j, hl j = lev t → slOf F.r1 ∉ had j := fun j hj hx => by
  have := ((h.had j).all _ hx).2.2
  rw [hj, q3] at this
  cases this
 refine ⟨q3, q1, q2, hlt, hnj j hj, ?_⟩
 have U := h.upd (t := t) (x := slOf F.r1) (g2 := g.back t a b) (V2 := g.lv (lev t)) (o2 := put1 (ow (lev t)) (slOf F.r1) (2, j)) (L2 := L (lev t)) (had2 := put1 had j (had j ++ [slOf F.r1])) (ev2 := ev (lev t) ++ [(slOf F.r1, genOf ((g.lv (lev t)).hd (slOf F.r1)))]) hl0 (by rw [put1_self]; rfl) rfl (.inl rfl) (fun i hi => ⟨rfl, rfl, put1_ne hi⟩) (fun k t' hk ht' e => ?_) (fun _ => .inr rfl) ?_ (fun F' e => by cases e) (fun j' hj' => ?_) (fun j' hj' => ?_) ?_
 ·rw [put1_self] at U; exact U
 ·rw [q3] at e; cases e; exact ht' rfl
 ·have hx1 : (ow (lev t) (slOf F.r1)).1 ≠ 1 := by rw [q3]; simp
  have hm := hV.mono
  refine hV.point (x := slOf F.r1) (fun i hi => ⟨rfl, rfl, put1_ne hi⟩) hm.chain hm.nodup (hV.mem2 (fun i hi => put1_ne hi) hx1 (by rw [put1_same]; simp)) hm.top hm.cntN hm.lk (hm.hd _ q1 q2) (fun _ => hV.on _ q1 q2 (by rw [q3]; exact .inr (.inl rfl))) (fun e => ?_) (fun e => ?_) ?_
  ·rw [put1_same] at e; rcases e with e | e <;> cases e
  ·rw [put1_same] at e; cases e
  ·rw [put1_same]; exact (by decide : 2 ≤ 5)
 ·by_cases ej : j' = j
  ·subst ej
   rw [put1_same]
   have h0 := h.had j'
   rw [hj] at h0
   refine ⟨?_, fun y hy => ?_⟩
   ·rw [List.nodup_append]
    exact ⟨h0.nodup, by simp, fun a ha b hb => by simp at hb; subst hb; exact fun e => hnj j' hj (by rw [← e]; exact ha)⟩
   ·rcases List.mem_append.1 hy with hy | hy
    ·obtain ⟨a, b, d⟩ := h0.all y hy
     exact ⟨a, b, by rw [put1_ne (fun e => hnj j' hj (by rw [← e]; exact hy))]; exact d⟩
    ·simp at hy; subst hy; exact ⟨q1, q2, put1_same _ _ _⟩
  ·rw [put1_ne ej]
   have h0 := h.had j'
   rw [hj'] at h0
   exact h0.keep (x := slOf F.r1) (fun i hi => put1_ne hi) (by rw [q3]; simp)
 ·rw [put1_ne (fun e => hj' (by rw [e]; exact hj))]
 ·refine ⟨fun y gn hy => ?_⟩
  rcases List.mem_append.1 hy with hy | hy
  ·obtain ⟨a, b, d, e⟩ := hE.all y gn hy
   refine ⟨a, b, d, fun he => ?_⟩
   by_cases ey : y = slOf F.r1
   ·subst ey; rw [put1_same] at he; rcases he with he | he | he <;> cases he
   ·rw [put1_ne ey] at he; exact e he
  ·simp only [List.mem_singleton, Prod.mk.injEq] at hy
   obtain ⟨rfl, rfl⟩ := hy
   refine ⟨q1, q2, Nat.le_refl _, fun he => ?_⟩
   rw [put1_same] at he; rcases he with he | he | he <;> cases he
theorem gi_g0 (h : GInv S gens NL T lev hl n g L ow had ev) (ht : t < T) (hl0 : lev t < NL) (hF : g.thr t = some F) (h2 : F.fn = 2) (hp : F.pc = 0) : GInv S gens NL T lev hl (n + 1) (g.go t { F with r2 := genOf ((g.lv (lev t)).hd F.r0) + 1, pc := 1 }) L ow had ev := by
 have h3 := h.thr t ht F hF
 have hV := h.lv (lev t) hl0
 have no1 : F.fn ≠ 1 := by omega
 obtain ⟨x1, x2, x3⟩ := h3.r0 h2
 rw [if_pos (by omega)] at x3
 refine h.same rfl rfl fun F' e => ?_
 cases e
 exact ⟨.inr h2, h3.r1, fun h => by rcases h with ⟨h, _⟩ | ⟨_, h | h⟩ <;> first | cases h | exact absurd h no1, fun h => absurd h no1, fun _ => (by decide : 1 ≤ 9), fun h => absurd h no1, fun h => absurd h no1, fun _ => ⟨x1, x2, x3⟩, fun _ _ _ => rfl, fun _ h => absurd h (show ¬ 1 = 9 by decide)⟩
/-- The next of the bits 2 to 5. -/
theorem gi_g2 (h : GInv S gens NL T lev hl n g L ow had ev) (ht : t < T) (hl0 : lev t < NL) (hF : g.thr t = some F) (h2 : F.fn = 2) (k1 : 1 ≤ F.pc) (k2 : F.pc < 6) : GInv S gens NL T lev hl (n + 1) (g.go t { F with pc := F.pc + 1 }) L ow had ev := by
 have h3 := h.thr t ht F hF
 have hV := h.lv (lev t) hl0
 have no1 : F.fn ≠ 1 := by omega
 obtain ⟨x1, x2, x3⟩ := h3.r0 h2
 rw [if_pos (by omega)] at x3
 have hg := h3.gen h2 k1 (by omega)
 refine h.same rfl rfl fun F' e => ?_
 cases e
 refine ⟨.inr h2, h3.r1, fun h => ?_, fun h => absurd h no1, fun _ => (show F.pc + 1 ≤ 9 by omega), fun h => absurd h no1, fun h => absurd h no1, fun _ => ⟨x1, x2, ?_⟩, fun _ _ _ => hg, fun _ h => ?_⟩
 ·rcases h with ⟨h, _⟩ | ⟨_, h | h⟩
  ·exact absurd h no1
  ·have : F.pc + 1 = 8 := h
   omega
  ·have : F.pc + 1 = 9 := h
   omega
 ·show _ = (if F.pc + 1 ≤ 6 then 4 else 5, t)
  rw [if_pos (by omega)]; exact x3
 ·have : F.pc + 1 = 9 := h
  omega
theorem gi_g1 (h : GInv S gens NL T lev hl n g L ow had ev) (ht : t < T) (hl0 : lev t < NL) (hF : g.thr t = some F) (hn : n < 100000) (h2 : F.fn = 2) (hp : F.pc = 1) : GInv S gens NL T lev hl (n + 1) ((g.lev (lev t) { g.lv (lev t) with hd := put1 (g.lv (lev t)).hd F.r0 (mkHead (F.r2 - 1) 3) }).go t { F with pc := 2 }) L ow had ev := by
 have h3 := h.thr t ht F hF
 have hV := h.lv (lev t) hl0
 have no1 : F.fn ≠ 1 := by omega
 obtain ⟨x1, x2, x3⟩ := h3.r0 h2
 rw [if_pos (by omega)] at x3
 have hg := h3.gen h2 (by omega) (by omega)
 have hh := hV.hd _ x1 x2
 have eg : genOf (mkHead (F.r2 - 1) 3) = genOf ((g.lv (lev t)).hd F.r0) := by rw [gen_head (by omega)]; omega
 have egi : ∀ i, genOf (put1 (g.lv (lev t)).hd F.r0 (mkHead (F.r2 - 1) 3) i) = genOf ((g.lv (lev t)).hd i) := fun i => by
  by_cases hi : i = F.r0
  ·subst hi; rw [put1_same]; exact eg
  ·rw [put1_ne hi]
 have U := h.upd (t := t) (x := F.r0) (g2 := (g.lev (lev t) { g.lv (lev t) with hd := put1 (g.lv (lev t)).hd F.r0 (mkHead (F.r2 - 1) 3) }).go t { F with pc := 2 }) (V2 := { g.lv (lev t) with hd := put1 (g.lv (lev t)).hd F.r0 (mkHead (F.r2 - 1) 3) }) (o2 := ow (lev t)) (L2 := L (lev t)) (had2 := had) (ev2 := ev (lev t)) hl0 rfl rfl (.inl rfl) (fun i hi => ⟨rfl, put1_ne hi, rfl⟩) (fun k t' hk ht' e => ?_) (fun _ => .inr rfl) ?_ (fun F' e => ?_) (fun j hj => by have := h.had j; rw [hj] at this; exact this) (fun _ _ => rfl) ?_
 ·rw [put1_self, put1_self, put1_self] at U; exact U
 ·rw [x3] at e; cases e; exact ht' rfl
 ·have hm := hV.mono
  have ho : (ow (lev t) F.r0).1 = 4 := by rw [x3]
  refine hV.point (x := F.r0) (fun i hi => ⟨put1_ne hi, rfl, rfl⟩) hm.chain hm.nodup hm.mem hm.top hm.cntN hm.lk ⟨?_, ?_⟩ (fun e => hV.on _ x1 x2 e) (fun e => ?_) (fun e => ?_) (by omega)
  ·show put1 _ _ _ F.r0 < _
   rw [put1_same]; exact head_lt _ _
  ·show genOf (put1 _ _ _ F.r0) ≤ _
   rw [egi]; omega
  ·omega
  ·omega
 ·cases e
  exact ⟨.inr h2, h3.r1, fun h => by rcases h with ⟨h, _⟩ | ⟨_, h | h⟩ <;> first | cases h | exact absurd h no1, fun h => absurd h no1, fun _ => (by decide : 2 ≤ 9), fun h => absurd h no1, fun h => absurd h no1, fun _ => ⟨x1, x2, x3⟩, fun _ _ _ => (show F.r2 = genOf (put1 _ _ _ F.r0) + 1 by rw [egi]; exact hg), fun _ h => absurd h (show ¬ 2 = 9 by decide)⟩
 ·refine ⟨fun y gn hy => ?_⟩
  obtain ⟨a, b, d, e⟩ := (h.ev (lev t) hl0).all y gn hy
  show _ ∧ _ ∧ gn ≤ genOf (put1 _ _ _ y) ∧ (_ → gn < genOf (put1 _ _ _ y))
  rw [egi]
  exact ⟨a, b, d, e⟩
/-- The slot is given back: it isn't worn. -/
theorem gi_g6a (h : GInv S gens NL T lev hl n g L ow had ev) (ht : t < T) (hl0 : lev t < NL) (hF : g.thr t = some F) (hn : n < 100000) (h2 : F.fn = 2) (hp : F.pc = 6) (hs : F.r2 < gens) : GInv S gens NL T lev hl (n + 1) ((g.lev (lev t) { g.lv (lev t) with hd := put1 (g.lv (lev t)).hd F.r0 (mkHead F.r2 0), held := put1 (g.lv (lev t)).held F.r0 false }).go t { F with pc := 7 }) L (put1 ow (lev t) (put1 (ow (lev t)) F.r0 (5, t))) had ev := by
 have h3 := h.thr t ht F hF
 have hV := h.lv (lev t) hl0
 have no1 : F.fn ≠ 1 := by omega
 obtain ⟨x1, x2, x3⟩ := h3.r0 h2
 rw [if_pos (by omega)] at x3
 have hg := h3.gen h2 (by omega) (by omega)
 have hh := hV.hd _ x1 x2
 have eg : genOf (mkHead F.r2 0) = F.r2 := gen_head (by omega)
 have U := h.upd (t := t) (x := F.r0) (g2 := ((g.lev (lev t) { g.lv (lev t) with hd := put1 (g.lv (lev t)).hd F.r0 (mkHead F.r2 0), held := put1 (g.lv (lev t)).held F.r0 false }).go t { F with pc := 7 })) (V2 := { g.lv (lev t) with hd := put1 (g.lv (lev t)).hd F.r0 (mkHead F.r2 0), held := put1 (g.lv (lev t)).held F.r0 false }) (o2 := put1 (ow (lev t)) F.r0 (5, t)) (L2 := L (lev t)) (had2 := had) (ev2 := ev (lev t)) hl0 rfl rfl (.inl rfl) (fun i hi => ⟨rfl, put1_ne hi, put1_ne hi⟩) (fun k t' hk ht' e => ?_) (fun _ => .inr rfl) ?_ (fun F' e => ?_) (fun j hj => ?_) (fun _ _ => rfl) ?_
 ·rw [put1_self, put1_self] at U; exact U
 ·rw [x3] at e; cases e; exact ht' rfl
 ·have hm := hV.mono
  refine hV.point (x := F.r0) (fun i hi => ⟨put1_ne hi, put1_ne hi, put1_ne hi⟩) hm.chain hm.nodup (hV.mem2 (fun i hi => put1_ne hi) (by rw [x3]; simp) (by rw [put1_same]; simp)) hm.top hm.cntN hm.lk ⟨?_, ?_⟩ (fun e => ?_) (fun e => ?_) (fun e => ?_) (by rw [put1_same]; simp)
  ·show put1 _ _ _ F.r0 < _
   rw [put1_same]; exact head_lt _ _
  ·show genOf (put1 _ _ _ F.r0) ≤ _
   rw [put1_same, eg]; omega
  ·rw [put1_same] at e; rcases e with e | e | e <;> cases e
  ·show put1 _ _ _ F.r0 = false ∧ put1 _ _ _ F.r0 % 4 = 0 ∧ genOf (put1 _ _ _ F.r0) < gens
   rw [put1_same, put1_same, eg]
   rw [put1_same] at e
   exact ⟨rfl, head_st _, hs⟩
  ·show put1 _ _ _ F.r0 = true ∨ gens ≤ genOf (put1 _ _ _ F.r0)
   rw [put1_same, put1_same, eg]
   rw [put1_same] at e
   cases e
 ·(cases e; exact ⟨.inr h2, h3.r1, fun h => by rcases h with ⟨h, _⟩ | ⟨_, h | h⟩ <;> first | cases h | exact absurd h no1, fun h => absurd h no1, fun _ => (by decide : 7 ≤ 9), fun h => absurd h no1, fun h => absurd h no1, fun _ => ⟨x1, x2, put1_same _ _ _⟩, fun _ _ h => absurd h (show ¬ 7 ≤ 6 by decide), fun _ h => absurd h (show ¬ 7 = 9 by decide)⟩)
 ·have h0 := h.had j
  rw [hj] at h0
  exact h0.keep (x := F.r0) (fun i hi => put1_ne hi) (by rw [x3]; simp)
 ·refine ⟨fun y gn hy => ?_⟩
  obtain ⟨a, b, d, e⟩ := (h.ev (lev t) hl0).all y gn hy
  show _ ∧ _ ∧ gn ≤ genOf (put1 _ _ _ y) ∧ (_ → gn < genOf (put1 _ _ _ y))
  by_cases ey : y = F.r0
  ·subst ey
   rw [put1_same, eg]
   exact ⟨a, b, by omega, fun _ => by omega⟩
  ·rw [put1_ne ey, put1_ne ey]
   exact ⟨a, b, d, e⟩
/-- The slot is worn. -/
theorem gi_g6b (h : GInv S gens NL T lev hl n g L ow had ev) (ht : t < T) (hl0 : lev t < NL) (hF : g.thr t = some F) (hn : n < 100000) (h2 : F.fn = 2) (hp : F.pc = 6) (hs : gens ≤ F.r2) (a b : Nat) : GInv S gens NL T lev hl (n + 1) ((g.lev (lev t) { g.lv (lev t) with hd := put1 (g.lv (lev t)).hd F.r0 (mkHead F.r2 0), held := put1 (g.lv (lev t)).held F.r0 false }).back t a b) L (put1 ow (lev t) (put1 (ow (lev t)) F.r0 (0, 0))) had ev := by
 have h3 := h.thr t ht F hF
 have hV := h.lv (lev t) hl0
 have no1 : F.fn ≠ 1 := by omega
 obtain ⟨x1, x2, x3⟩ := h3.r0 h2
 rw [if_pos (by omega)] at x3
 have hg := h3.gen h2 (by omega) (by omega)
 have hh := hV.hd _ x1 x2
 have eg : genOf (mkHead F.r2 0) = F.r2 := gen_head (by omega)
 have U := h.upd (t := t) (x := F.r0) (g2 := ((g.lev (lev t) { g.lv (lev t) with hd := put1 (g.lv (lev t)).hd F.r0 (mkHead F.r2 0), held := put1 (g.lv (lev t)).held F.r0 false }).back t a b)) (V2 := { g.lv (lev t) with hd := put1 (g.lv (lev t)).hd F.r0 (mkHead F.r2 0), held := put1 (g.lv (lev t)).held F.r0 false }) (o2 := put1 (ow (lev t)) F.r0 (0, 0)) (L2 := L (lev t)) (had2 := had) (ev2 := ev (lev t)) hl0 rfl rfl (.inl rfl) (fun i hi => ⟨rfl, put1_ne hi, put1_ne hi⟩) (fun k t' hk ht' e => ?_) (fun _ => .inr rfl) ?_ (fun F' e => ?_) (fun j hj => ?_) (fun _ _ => rfl) ?_
 ·rw [put1_self, put1_self] at U; exact U
 ·rw [x3] at e; cases e; exact ht' rfl
 ·have hm := hV.mono
  refine hV.point (x := F.r0) (fun i hi => ⟨put1_ne hi, put1_ne hi, put1_ne hi⟩) hm.chain hm.nodup (hV.mem2 (fun i hi => put1_ne hi) (by rw [x3]; simp) (by rw [put1_same]; simp)) hm.top hm.cntN hm.lk ⟨?_, ?_⟩ (fun e => ?_) (fun e => ?_) (fun e => ?_) (by rw [put1_same]; simp)
  ·show put1 _ _ _ F.r0 < _
   rw [put1_same]; exact head_lt _ _
  ·show genOf (put1 _ _ _ F.r0) ≤ _
   rw [put1_same, eg]; omega
  ·rw [put1_same] at e; rcases e with e | e | e <;> cases e
  ·show put1 _ _ _ F.r0 = false ∧ put1 _ _ _ F.r0 % 4 = 0 ∧ genOf (put1 _ _ _ F.r0) < gens
   rw [put1_same, put1_same, eg]
   rw [put1_same] at e
   (rcases e with e | e <;> cases e)
  ·show put1 _ _ _ F.r0 = true ∨ gens ≤ genOf (put1 _ _ _ F.r0)
   rw [put1_same, put1_same, eg]
   rw [put1_same] at e
   exact .inr hs
 ·cases e
 ·have h0 := h.had j
  rw [hj] at h0
  exact h0.keep (x := F.r0) (fun i hi => put1_ne hi) (by rw [x3]; simp)
 ·refine ⟨fun y gn hy => ?_⟩
  obtain ⟨a, b, d, e⟩ := (h.ev (lev t) hl0).all y gn hy
  show _ ∧ _ ∧ gn ≤ genOf (put1 _ _ _ y) ∧ (_ → gn < genOf (put1 _ _ _ y))
  by_cases ey : y = F.r0
  ·subst ey
   rw [put1_same, eg]
   exact ⟨a, b, by omega, fun _ => by omega⟩
  ·rw [put1_ne ey, put1_ne ey]
   exact ⟨a, b, d, e⟩
theorem gi_g7 (h : GInv S gens NL T lev hl n g L ow had ev) (ht : t < T) (hl0 : lev t < NL) (hF : g.thr t = some F) (h2 : F.fn = 2) (hp : F.pc = 7) : GInv S gens NL T lev hl (n + 1) (g.go t { F with r1 := (g.lv (lev t)).top, pc := 8 }) L ow had ev := by
 have h3 := h.thr t ht F hF
 have hV := h.lv (lev t) hl0
 have no1 : F.fn ≠ 1 := by omega
 obtain ⟨x1, x2, x3⟩ := h3.r0 h2
 rw [if_neg (by omega)] at x3
 refine h.same rfl rfl fun F' e => ?_
 cases e
 exact ⟨.inr h2, hV.top, fun _ => ⟨Past.refl _, hV.first.1⟩, fun h => absurd h no1, fun _ => (by decide : 8 ≤ 9), fun h => absurd h no1, fun h => absurd h no1, fun _ => ⟨x1, x2, x3⟩, fun _ _ h => absurd h (show ¬ 8 ≤ 6 by decide), fun _ h => absurd h (show ¬ 8 = 9 by decide)⟩
theorem gi_g8 (h : GInv S gens NL T lev hl n g L ow had ev) (ht : t < T) (hl0 : lev t < NL) (hF : g.thr t = some F) (h2 : F.fn = 2) (hp : F.pc = 8) : GInv S gens NL T lev hl (n + 1) ((g.lev (lev t) { g.lv (lev t) with lk := put1 (g.lv (lev t)).lk F.r0 (slOf F.r1) }).go t { F with pc := 9 }) L ow had ev := by
 have h3 := h.thr t ht F hF
 have hV := h.lv (lev t) hl0
 have no1 : F.fn ≠ 1 := by omega
 obtain ⟨x1, x2, x3⟩ := h3.r0 h2
 rw [if_neg (by omega)] at x3
 obtain ⟨p1, p2⟩ := h3.past (.inr ⟨h2, .inl hp⟩)
 obtain ⟨f1, f2⟩ := hV.far x1 (show (ow (lev t) F.r0).1 ≠ 1 by rw [x3]; simp)
 have U := h.upd (t := t) (x := F.r0) (g2 := (g.lev (lev t) { g.lv (lev t) with lk := put1 (g.lv (lev t)).lk F.r0 (slOf F.r1) }).go t { F with pc := 9 }) (V2 := { g.lv (lev t) with lk := put1 (g.lv (lev t)).lk F.r0 (slOf F.r1) }) (o2 := ow (lev t)) (L2 := L (lev t)) (had2 := had) (ev2 := ev (lev t)) hl0 rfl rfl (.inl rfl) (fun i hi => ⟨put1_ne hi, rfl, rfl⟩) (fun k t' hk ht' e => ?_) (fun _ => .inl f1) ?_ (fun F' e => ?_) (fun j hj => by have := h.had j; rw [hj] at this; exact this) (fun _ _ => rfl) ?_
 ·rw [put1_self, put1_self, put1_self] at U; exact U
 ·rw [x3] at e; cases e; exact ht' rfl
 ·have hm := hV.mono
  refine ⟨chainP_congr _ _ hm.chain fun y hy => put1_ne fun e => f2 (by rw [← e]; exact hy), hm.nodup, hm.mem, hm.top, hm.cntN, fun i a b => ?_, hm.hd, hm.on, hm.off, hm.none, hm.code⟩
  show put1 _ _ _ i ≤ S
  by_cases hi : i = F.r0
  ·subst hi; rw [put1_same]; exact p2
  ·rw [put1_ne hi]; exact hV.lk i a b
 ·cases e
  exact ⟨.inr h2, h3.r1, fun _ => ⟨p1, p2⟩, fun h => absurd h no1, fun _ => (by decide : 9 ≤ 9), fun h => absurd h no1, fun h => absurd h no1, fun _ => ⟨x1, x2, x3⟩, fun _ _ h => absurd h (show ¬ 9 ≤ 6 by decide), fun _ _ => put1_same _ _ _⟩
 ·exact (h.ev (lev t) hl0).keep (fun i => rfl) fun i a b e => e
theorem gi_g9b (h : GInv S gens NL T lev hl n g L ow had ev) (ht : t < T) (hl0 : lev t < NL) (hF : g.thr t = some F) (h2 : F.fn = 2) (hp : F.pc = 9) : GInv S gens NL T lev hl (n + 1) (g.go t { F with pc := 7 }) L ow had ev := by
 have h3 := h.thr t ht F hF
 have hV := h.lv (lev t) hl0
 have no1 : F.fn ≠ 1 := by omega
 obtain ⟨x1, x2, x3⟩ := h3.r0 h2
 rw [if_neg (by omega)] at x3
 refine h.same rfl rfl fun F' e => ?_
 cases e
 exact ⟨.inr h2, h3.r1, fun h => by rcases h with ⟨h, _⟩ | ⟨_, h | h⟩ <;> first | cases h | exact absurd h no1, fun h => absurd h no1, fun _ => (by decide : 7 ≤ 9), fun h => absurd h no1, fun h => absurd h no1, fun _ => ⟨x1, x2, x3⟩, fun _ _ h => absurd h (show ¬ 7 ≤ 6 by decide), fun _ h => absurd h (show ¬ 7 = 9 by decide)⟩
/-- The slot becomes the first one. -/
theorem gi_g9a (h : GInv S gens NL T lev hl n g L ow had ev) (ht : t < T) (hl0 : lev t < NL) (hF : g.thr t = some F) (hS : S ≤ 60) (hn : n < 100000) (h2 : F.fn = 2) (hp : F.pc = 9) (hs : (g.lv (lev t)).top = F.r1) (a b : Nat) : GInv S gens NL T lev hl (n + 1) ((g.lev (lev t) { g.lv (lev t) with top := mkTop F.r0 (cnt F.r1 + 1) }).back t a b) (put1 L (lev t) (F.r0 :: L (lev t))) (put1 ow (lev t) (put1 (ow (lev t)) F.r0 (1, 0))) had ev := by
 have h3 := h.thr t ht F hF
 have hV := h.lv (lev t) hl0
 have no1 : F.fn ≠ 1 := by omega
 obtain ⟨x1, x2, x3⟩ := h3.r0 h2
 rw [if_neg (by omega)] at x3
 have ho : (ow (lev t) F.r0).1 = 5 := by rw [x3]
 obtain ⟨f1, f2⟩ := hV.far x1 (by omega)
 have h9 := h3.lk9 h2 hp
 have hcn := hV.cntN
 rw [hs] at hcn
 have U := h.upd (t := t) (x := F.r0) (g2 := (g.lev (lev t) { g.lv (lev t) with top := mkTop F.r0 (cnt F.r1 + 1) }).back t a b) (V2 := { g.lv (lev t) with top := mkTop F.r0 (cnt F.r1 + 1) }) (o2 := put1 (ow (lev t)) F.r0 (1, 0)) (L2 := F.r0 :: L (lev t)) (had2 := had) (ev2 := ev (lev t)) hl0 rfl rfl (.inr ?_) (fun i hi => ⟨rfl, rfl, put1_ne hi⟩) (fun k t' hk ht' e => ?_) (fun _ => .inr rfl) ?_ (fun F' e => by cases e) (fun j hj => ?_) (fun _ _ => rfl) ?_
 ·rw [put1_self] at U; exact U
 ·show cnt (mkTop _ _) = _
  rw [cnt_top (by omega), hs]
 ·rw [x3] at e; cases e; exact ht' rfl
 ·have hm := hV.mono
  refine hV.point (x := F.r0) (fun i hi => ⟨rfl, rfl, put1_ne hi⟩) ?_ (List.nodup_cons.2 ⟨f2, hV.nodup⟩) (fun y => ?_) (top_lt _ _) ?_ hV.lk (hm.hd _ x1 x2) (fun e => ?_) (fun e => hV.off _ x1 x2 (.inr ho)) (fun e => ?_) (by rw [put1_same]; simp)
  ·show chainP _ (slOf (mkTop _ _)) _
   rw [sl_top (by omega)]
   refine ⟨rfl, x1, ?_⟩
   show chainP (g.lv (lev t)).lk ((g.lv (lev t)).lk F.r0) _
   rw [h9, ← hs]
   exact hV.chain
  ·rw [List.mem_cons]
   by_cases e : y = F.r0
   ·subst e
    rw [put1_same]
    exact ⟨fun _ => ⟨x1, x2, rfl⟩, fun _ => .inl rfl⟩
   ·rw [put1_ne e, ← hV.mem y]
    exact ⟨fun h => h.resolve_left e, .inr⟩
  ·show cnt (mkTop _ _) ≤ _
   rw [cnt_top (by omega)]; omega
  ·rw [put1_same] at e; rcases e with e | e | e <;> cases e
  ·rw [put1_same] at e; cases e
 ·have h0 := h.had j
  rw [hj] at h0
  exact h0.keep (x := F.r0) (fun i hi => put1_ne hi) (by rw [x3]; simp)
 ·refine (h.ev (lev t) hl0).keep (fun i => rfl) fun i a b e => ?_
  by_cases hi : i = F.r0
  ·subst hi; exact .inr (.inr ho)
  ·rw [put1_ne hi] at e; exact e
end
end
section
open Go.RowKit
section
variable {S gens NL T n : Nat} {lev hl : Nat → Nat} {g g2 : StG} {L : Nat → List Nat} {ow : Nat → Nat → Nat × Nat} {had : Nat → List Nat} {ev : Nat → List (Nat × Nat)} {t l x j : Nat} {c : Nat → Int}
theorem gi_call_take (h : GInv S gens NL T lev hl n g L ow had ev) : GInv S gens NL T lev hl (n + 1) (g.go t ⟨1, 0, 0, 0, 0⟩) L ow had ev := by
 refine h.same rfl rfl fun F' e => ?_
 cases e
 exact ⟨.inl rfl, (by decide : 0 < 18446744073709551616), fun h => (by rcases h with ⟨_, h | h⟩ | ⟨h, _⟩ <;> cases h), fun _ => (by decide : 0 ≤ 3), fun h => (by cases h), fun _ h => (by cases h), fun _ h => (by cases h), fun h => (by cases h), fun h => (by cases h), fun h => (by cases h)⟩
/-- A slot that is had begins to be given. -/
theorem gi_call_give (h : GInv S gens NL T lev hl n g L ow had ev) (hl0 : lev t < NL) (hj : hl j = lev t) {i : Nat} (hx : (had j)[i]? = some x) : GInv S gens NL T lev hl (n + 1) (g.go t ⟨2, 0, x, 0, 0⟩) L (put1 ow (lev t) (put1 (ow (lev t)) x (4, t))) (put1 had j ((had j).eraseIdx i)) ev := by
 have hm : x ∈ had j := List.mem_of_getElem? hx
 have hH := h.had j
 obtain ⟨x1, x2, x3⟩ := hH.all x hm
 rw [hj] at x3
 have hV := h.lv (lev t) hl0
 have ho : (ow (lev t) x).1 = 2 := by rw [x3]
 have U := h.upd (t := t) (x := x) (g2 := g.go t ⟨2, 0, x, 0, 0⟩) (V2 := g.lv (lev t)) (o2 := put1 (ow (lev t)) x (4, t)) (L2 := L (lev t)) (had2 := put1 had j ((had j).eraseIdx i)) (ev2 := ev (lev t)) hl0 (by rw [put1_self]; rfl) rfl (.inl rfl) (fun i hi => ⟨rfl, rfl, put1_ne hi⟩) (fun k t' hk _ e => ?_) (fun _ => .inr rfl) ?_ (fun F' e => ?_) (fun j' hj' => ?_) (fun j' hj' => ?_) ?_
 ·rw [put1_self, put1_self] at U; exact U
 ·rw [x3] at e; have := congrArg Prod.fst e; have h5 : 2 = k := this; omega
 ·have hm := hV.mono
  refine hV.point (x := x) (fun i hi => ⟨rfl, rfl, put1_ne hi⟩) hm.chain hm.nodup (hV.mem2 (fun i hi => put1_ne hi) (by omega) (by rw [put1_same]; simp)) hm.top hm.cntN hm.lk (hm.hd _ x1 x2) (fun _ => hV.on _ x1 x2 (.inl ho)) (fun e => ?_) (fun e => ?_) (by rw [put1_same]; simp)
  ·rw [put1_same] at e; rcases e with e | e <;> cases e
  ·rw [put1_same] at e; cases e
 ·cases e
  exact ⟨.inr rfl, (by decide : 0 < 18446744073709551616), fun h => (by rcases h with ⟨h, _⟩ | ⟨_, h | h⟩ <;> cases h), fun h => (by cases h), fun _ => (by decide : 0 ≤ 9), fun h => (by cases h), fun h => (by cases h), fun _ => ⟨x1, x2, put1_same _ _ _⟩, fun _ h => absurd h (show ¬ 1 ≤ 0 by decide), fun _ h => (by cases h)⟩
 ·by_cases ej : j' = j
  ·subst ej
   rw [put1_same]
   have hnd : ((had j').eraseIdx i).Nodup := hH.nodup.sublist (List.eraseIdx_sublist _ _)
   refine ⟨hnd, fun y hy => ?_⟩
   have hy2 : y ∈ had j' := (List.eraseIdx_sublist _ _).subset hy
   obtain ⟨a, b, d⟩ := hH.all y hy2
   have hne : y ≠ x := fun e => by
    subst e
    obtain ⟨q, hq⟩ := List.mem_iff_getElem?.1 hy
    rw [List.getElem?_eraseIdx] at hq
    have hi : i < (had j').length := (List.getElem?_eq_some_iff.1 hx).1
    split at hq
    ·have := (List.getElem?_inj hi hH.nodup).1 (hx.trans hq.symm)
     omega
    ·have := (List.getElem?_inj hi hH.nodup).1 (hx.trans hq.symm)
     omega
   rw [hj] at d
   exact ⟨a, b, by rw [put1_ne hne]; exact d⟩
  ·rw [put1_ne ej]
   have h0 := h.had j'
   rw [hj'] at h0
   refine ⟨h0.nodup, fun y hy => ?_⟩
   obtain ⟨a, b, d⟩ := h0.all y hy
   have hne : y ≠ x := fun e => by
    subst e
    rw [x3] at d
    have := congrArg Prod.snd d
    have h5 : j = j' := this
    exact ej h5.symm
   exact ⟨a, b, by rw [put1_ne hne]; exact d⟩
 ·rw [put1_ne (fun e => hj' (by rw [e]; exact hj))]
 ·refine (h.ev (lev t) hl0).keep (fun i => rfl) fun i a b e => ?_
  by_cases hi : i = x
  ·subst hi; rw [put1_same] at e; rcases e with e | e | e <;> cases e
  ·rw [put1_ne hi] at e; exact e
end
end
section
open Go.RowKit
/-- The slot that a thread has in hand. -/
def slotF (F : StF) : Option Nat := if F.fn = 1 then (if F.pc = 3 then some (slOf F.r1) else none) else some F.r0
/-- A slot in some thread's hand: that thread is within a routine, with this slot. -/
def OwnI (T : Nat) (lev : Nat → Nat) (ow : Nat → Nat → Nat × Nat) (thr : Nat → Option StF) : Prop := ∀ l x, 3 ≤ (ow l x).1 → ∃ F, (ow l x).2 < T ∧ lev (ow l x).2 = l ∧ thr (ow l x).2 = some F ∧ slotF F = some x
/-- Take within its second bit, with no slot: its level's list was seen empty. -/
def EmpI (T : Nat) (thr : Nat → Option StF) (emp : Nat → Bool) : Prop := ∀ t, t < T → ∀ F, thr t = some F → F.fn = 1 → F.pc = 1 → slOf F.r1 = 0 → emp t = true
section
variable {S gens NL T n t x : Nat} {lev : Nat → Nat} {g g2 : StG} {L : Nat → List Nat} {ow o2 : Nat → Nat → Nat × Nat} {had : Nat → List Nat} {ev : Nat → List (Nat × Nat)} {thr : Nat → Option StF} {emp emp2 : Nat → Bool} {F : StF} {Fo : Option StF}
theorem OwnI.same (h : OwnI T lev ow thr) (hold : ∀ F y, thr t = some F → slotF F = some y → ∃ F2, Fo = some F2 ∧ slotF F2 = some y) : OwnI T lev ow (put1 thr t Fo) := fun l y hy => by
 obtain ⟨F0, a, b, d, e⟩ := h l y hy
 by_cases et : (ow l y).2 = t
 ·rw [et] at d
  obtain ⟨F2, e1, e2⟩ := hold F0 y d e
  exact ⟨F2, a, b, by rw [et, put1_same]; exact e1, e2⟩
 ·exact ⟨F0, a, b, by rw [put1_ne et]; exact d, e⟩
theorem OwnI.step (h : OwnI T lev ow thr) (ht : t < T) {v : Nat × Nat} (hold : ∀ F y, thr t = some F → slotF F = some y → y = x) (hnew : 3 ≤ v.1 → v.2 = t ∧ ∃ F2, Fo = some F2 ∧ slotF F2 = some x) : OwnI T lev (put1 ow (lev t) (put1 (ow (lev t)) x v)) (put1 thr t Fo) := fun l y hy => by
 by_cases el : l = lev t
 ·subst el
  rw [put1_same] at hy ⊢
  by_cases ey : y = x
  ·subst ey
   rw [put1_same] at hy ⊢
   obtain ⟨e1, F2, e2, e3⟩ := hnew hy
   exact ⟨F2, by rw [e1]; exact ht, by rw [e1], by rw [e1, put1_same]; exact e2, e3⟩
  ·rw [put1_ne ey] at hy ⊢
   obtain ⟨F0, a, b, d, e⟩ := h _ y hy
   by_cases et : (ow (lev t) y).2 = t
   ·rw [et] at d; exact absurd (hold F0 y d e) ey
   ·exact ⟨F0, a, b, by rw [put1_ne et]; exact d, e⟩
 ·rw [put1_ne el] at hy ⊢
  obtain ⟨F0, a, b, d, e⟩ := h l y hy
  by_cases et : (ow l y).2 = t
  ·exact absurd (by rw [← b, et]) el
  ·exact ⟨F0, a, b, by rw [put1_ne et]; exact d, e⟩
theorem EmpI.step (h : EmpI T thr emp) (hm : ∀ u, emp u = true → emp2 u = true) (hn : ∀ F2, Fo = some F2 → F2.fn = 1 → F2.pc = 1 → slOf F2.r1 = 0 → emp2 t = true) : EmpI T (put1 thr t Fo) emp2 := fun u hu F hF => by
 by_cases e : u = t
 ·subst e; rw [put1_same] at hF; exact hn F hF
 ·rw [put1_ne e] at hF; exact fun a b d => hm u (h u hu F hF a b d)
structure CrI (S gens NL T : Nat) (lev : Nat → Nat) (n : Nat) (g : StG) (L : Nat → List Nat) (ow : Nat → Nat → Nat × Nat) (had : Nat → List Nat) (ev : Nat → List (Nat × Nat)) (emp : Nat → Bool) : Prop where
 inv : GInv S gens NL T lev lev n g L ow had ev
 own : OwnI T lev ow g.thr
 emp : EmpI T g.thr emp
/-- At rest no slot is in a hand. -/
theorem CrI.rest (h : CrI S gens NL T lev n g L ow had ev emp) (hr : ∀ t, t < T → g.thr t = none) (l i : Nat) : (ow l i).1 ≤ 2 := by
 by_cases hc : 3 ≤ (ow l i).1
 ·obtain ⟨F, a, _, d, _⟩ := h.own l i hc
  rw [hr _ a] at d; cases d
 ·omega
theorem CrI.take (h : CrI S gens NL T lev n g L ow had ev emp) (hF : g.thr t = none) : CrI S gens NL T lev (n + 1) (g.go t ⟨1, 0, 0, 0, 0⟩) L ow had ev (put1 emp t false) :=
 ⟨gi_call_take h.inv, h.own.same (fun F y e => by rw [hF] at e; cases e), fun u hu F hu2 a b d => by
  have hu3 : put1 g.thr t (some ⟨1, 0, 0, 0, 0⟩) u = some F := hu2
  by_cases e : u = t
  ·subst e; rw [put1_same] at hu3; cases hu3; cases b
  ·rw [put1_ne e] at hu3 ⊢; exact h.emp u hu F hu3 a b d⟩
theorem CrI.give (h : CrI S gens NL T lev n g L ow had ev emp) (ht : t < T) (hl0 : lev t < NL) (hF : g.thr t = none) {i : Nat} (hx : (had t)[i]? = some x) : CrI S gens NL T lev (n + 1) (g.go t ⟨2, 0, x, 0, 0⟩) L (put1 ow (lev t) (put1 (ow (lev t)) x (4, t))) (put1 had t ((had t).eraseIdx i)) ev emp :=
 ⟨gi_call_give h.inv hl0 rfl hx, h.own.step ht (fun F y e => by rw [hF] at e; cases e) (fun _ => ⟨rfl, _, rfl, rfl⟩), h.emp.step (fun _ h => h) fun F2 e a => by cases e; cases a⟩
/-- What a step leaves seen. -/
def seen (lev : Nat → Nat) (t : Nat) (L L2 : Nat → List Nat) (emp : Nat → Bool) : Nat → Bool := fun y => emp y || (((L (lev t)).length == 0) || ((L2 (lev t)).length == 0)) && (lev y == lev t)
theorem seen_up {L L2 : Nat → List Nat} : ∀ u, emp u = true → seen lev t L L2 emp u = true := fun u h => by unfold seen; rw [h]; rfl
/-- What a step of a crowd makes. -/
structure CrN (S gens NL T : Nat) (lev : Nat → Nat) (n t : Nat) (F : StF) (g g2 : StG) (L : Nat → List Nat) (had : Nat → List Nat) (ev : Nat → List (Nat × Nat)) (emp : Nat → Bool) (L2 : Nat → List Nat) (ow2 : Nat → Nat → Nat × Nat) (had2 : Nat → List Nat) (ev2 : Nat → List (Nat × Nat)) : Prop where
 inv : CrI S gens NL T lev (n + 1) g2 L2 ow2 had2 ev2 (seen lev t L L2 emp)
 thr : ∀ u, u ≠ t → g2.thr u = g.thr u
 told : (had2 = had ∧ ev2 = ev ∧ (F.fn = 1 → g2.thr t = none → g2.t0 t = 0 ∧ emp t = true)) ∨
  (F.fn = 1 ∧ g2.thr t = none ∧ 1 ≤ g2.t0 t ∧ g2.t0 t ≤ S ∧ g2.t1 t < 4294967296 ∧ (g2.t0 t, g2.t1 t) ∉ ev (lev t) ∧ had2 = put1 had t (had t ++ [g2.t0 t]) ∧ ev2 = put1 ev (lev t) (ev (lev t) ++ [(g2.t0 t, g2.t1 t)]) ∧ (g2.lv (lev t)).held (g2.t0 t) = true)
theorem crowd_take (h : CrI S gens NL T lev n g L ow had ev emp) (hS : S ≤ 60) (hn : n < 100000) (ht : t < T) (hl0 : lev t < NL) (hF : g.thr t = some F) (h1 : F.fn = 1) : ∃ L2 ow2 had2 ev2, CrN S gens NL T lev n t F g (g.take t (lev t) F) L had ev emp L2 ow2 had2 ev2 := by
 have h3 := h.inv.thr t ht F hF
 have hne : ∀ (f : Nat → Option StF) (o : Option StF) u, u ≠ t → put1 f t o u = f u := fun f o u hu => put1_ne hu
 have hold : F.pc ≠ 3 → ∀ F0 y, g.thr t = some F0 → slotF F0 = some y → ∃ F2 : StF, (none : Option StF) = some F2 ∧ slotF F2 = some y := fun hp F0 y e hs => by
  rw [hF] at e; cases e
  unfold slotF at hs; rw [if_pos h1, if_neg hp] at hs; cases hs
 have hold2 : F.pc ≠ 3 → ∀ (Fo : Option StF) F0 y, g.thr t = some F0 → slotF F0 = some y → ∃ F2 : StF, Fo = some F2 ∧ slotF F2 = some y := fun hp Fo F0 y e hs => by
  obtain ⟨_, a, _⟩ := hold hp F0 y e hs; cases a
 unfold StG.take
 by_cases hp : F.pc = 0
 ·rw [if_pos hp]
  refine ⟨L, ow, had, ev, ⟨⟨gi_t0 h.inv ht hl0 hF h1 hp, h.own.same (hold2 (by omega) _), h.emp.step seen_up fun F2 e _ _ hs => ?_⟩, hne _ _, .inl ⟨rfl, rfl, fun _ e => ?_⟩⟩⟩
  ·cases e
   have := (h.inv.lv (lev t) hl0).first.2.1 hs
   unfold seen; rw [this]; simp
  ·have : put1 g.thr t (some { F with r1 := (g.lv (lev t)).top, pc := 1 }) t = none := e
   rw [put1_same] at this; cases this
 ·rw [if_neg hp]
  by_cases hp1 : F.pc = 1
  ·rw [if_pos hp1]
   by_cases hs : slOf F.r1 = 0
   ·rw [if_pos hs]
    refine ⟨L, ow, had, ev, ⟨⟨gi_back h.inv ht hl0 hF 0 0, h.own.same (hold2 (by omega) _), h.emp.step seen_up fun F2 e => by cases e⟩, hne _ _, .inl ⟨rfl, rfl, fun _ _ => ⟨put1_same _ _ _, h.emp t ht F hF h1 hp1 hs⟩⟩⟩⟩
   ·rw [if_neg hs]
    refine ⟨L, ow, had, ev, ⟨⟨gi_t1b h.inv ht hl0 hF h1 hp1 hs, h.own.same (hold2 (by omega) _), h.emp.step seen_up fun F2 e _ b => by cases e; cases b⟩, hne _ _, .inl ⟨rfl, rfl, fun _ e => ?_⟩⟩⟩
    have : put1 g.thr t (some { F with r2 := (g.lv (lev t)).lk (slOf F.r1), pc := 2 }) t = none := e
    rw [put1_same] at this; cases this
  ·rw [if_neg hp1]
   by_cases hp2 : F.pc = 2
   ·rw [if_pos hp2]
    by_cases hs : (g.lv (lev t)).top = F.r1
    ·rw [if_pos hs]
     obtain ⟨r, _, _, I⟩ := gi_t2a h.inv ht hl0 hF hS hn h1 hp2 hs
     refine ⟨_, _, had, ev, ⟨⟨I, h.own.step ht (fun F0 y e hs => ?_) (fun _ => ⟨rfl, _, rfl, ?_⟩), h.emp.step seen_up fun F2 e _ b => by cases e; cases b⟩, hne _ _, .inl ⟨rfl, rfl, fun _ e => ?_⟩⟩⟩
     ·obtain ⟨_, a, _⟩ := hold (by omega) F0 y e hs; cases a
     ·unfold slotF; rw [if_pos (show (_ : StF).fn = 1 from h1), if_pos rfl]
     ·have : put1 g.thr t (some { F with pc := 3 }) t = none := e
      rw [put1_same] at this; cases this
    ·rw [if_neg hs]
     refine ⟨L, ow, had, ev, ⟨⟨gi_t2b h.inv ht hl0 hF h1, h.own.same (hold2 (by omega) _), h.emp.step seen_up fun F2 e _ b => by cases e; cases b⟩, hne _ _, .inl ⟨rfl, rfl, fun _ e => ?_⟩⟩⟩
     have : put1 g.thr t (some { F with pc := 0 }) t = none := e
     rw [put1_same] at this; cases this
   ·rw [if_neg hp2]
    have hp3 : F.pc = 3 := by have := h3.tk h1; omega
    obtain ⟨q0, q1, q2, q3, _, I⟩ := gi_t3 h.inv ht hl0 hF h1 hp3 (j := t) rfl (slOf F.r1) (genOf ((g.lv (lev t)).hd (slOf F.r1)))
    have e0 : (g.back t (slOf F.r1) (genOf ((g.lv (lev t)).hd (slOf F.r1)))).t0 t = slOf F.r1 := put1_same _ _ _
    have e1 : (g.back t (slOf F.r1) (genOf ((g.lv (lev t)).hd (slOf F.r1)))).t1 t = genOf ((g.lv (lev t)).hd (slOf F.r1)) := put1_same _ _ _
    refine ⟨L, _, _, _, ⟨⟨I, h.own.step ht (fun F0 y e hs => ?_) (fun h => absurd h (show ¬ 3 ≤ 2 by decide)), h.emp.step seen_up fun F2 e => by cases e⟩, hne _ _, .inr ⟨h1, put1_same _ _ _, ?_⟩⟩⟩
    ·rw [hF] at e; cases e
     unfold slotF at hs; rw [if_pos h1, if_pos hp3] at hs; cases hs; rfl
    ·rw [e0, e1]
     exact ⟨q1, q2, cutN_lt _ _ _, fun hm => absurd (q3 _ hm) (Nat.lt_irrefl _), rfl, rfl, (h.inv.lv (lev t) hl0).on _ q1 q2 (by rw [q0]; exact .inr (.inl rfl))⟩
theorem crowd_give (h : CrI S gens NL T lev n g L ow had ev emp) (hS : S ≤ 60) (hn : n < 100000) (ht : t < T) (hl0 : lev t < NL) (hF : g.thr t = some F) (h2 : F.fn = 2) : ∃ L2 ow2 had2 ev2, CrN S gens NL T lev n t F g (g.give gens t (lev t) F) L had ev emp L2 ow2 had2 ev2 := by
 have h3 := h.inv.thr t ht F hF
 have n1 : F.fn ≠ 1 := by omega
 have hne : ∀ (f : Nat → Option StF) (o : Option StF) u, u ≠ t → put1 f t o u = f u := fun f o u hu => put1_ne hu
 have hsl : slotF F = some F.r0 := by unfold slotF; rw [if_neg n1]
 have hold : ∀ F2 : StF, F2.fn = F.fn → F2.r0 = F.r0 → ∀ F0 y, g.thr t = some F0 → slotF F0 = some y → ∃ F3 : StF, some F2 = some F3 ∧ slotF F3 = some y := fun F2 e1 e2 F0 y e hs => by
  rw [hF] at e; cases e
  refine ⟨F2, rfl, ?_⟩
  unfold slotF
  rw [if_neg (by omega), e2]
  rw [hsl] at hs; exact hs
 have only : ∀ F0 y, g.thr t = some F0 → slotF F0 = some y → y = F.r0 := fun F0 y e hs => by
  rw [hF] at e; cases e
  rw [hsl] at hs; cases hs; rfl
 have hno : ∀ (Fo : Option StF), (∀ F2, Fo = some F2 → F2.fn = F.fn) → ∀ F2, Fo = some F2 → F2.fn = 1 → F2.pc = 1 → slOf F2.r1 = 0 → ∀ b : Bool, b = true := fun Fo hf F2 e a => absurd (by rw [← hf F2 e]; exact a) n1
 have tld : ∀ g2 : StG, F.fn = 1 → g2.thr t = none → g2.t0 t = 0 ∧ emp t = true := fun _ e => absurd e n1
 unfold StG.give
 by_cases hp : F.pc = 0
 ·rw [if_pos hp]
  exact ⟨L, ow, had, ev, ⟨⟨gi_g0 h.inv ht hl0 hF h2 hp, h.own.same (hold _ rfl rfl), h.emp.step seen_up fun F2 e a b d => hno _ (fun _ e => by cases e; rfl) F2 e a b d _⟩, hne _ _, .inl ⟨rfl, rfl, tld _⟩⟩⟩
 rw [if_neg hp]
 by_cases hp1 : F.pc = 1
 ·rw [if_pos hp1]
  exact ⟨L, ow, had, ev, ⟨⟨gi_g1 h.inv ht hl0 hF hn h2 hp1, h.own.same (hold _ rfl rfl), h.emp.step seen_up fun F2 e a b d => hno _ (fun _ e => by cases e; rfl) F2 e a b d _⟩, hne _ _, .inl ⟨rfl, rfl, tld _⟩⟩⟩
 rw [if_neg hp1]
 have mid : ∀ k, F.pc + 1 = k → 1 ≤ F.pc → F.pc < 6 → ∃ L2 ow2 had2 ev2, CrN S gens NL T lev n t F g (g.go t { F with pc := k }) L had ev emp L2 ow2 had2 ev2 := fun k hk a b => by
  subst hk
  exact ⟨L, ow, had, ev, ⟨⟨gi_g2 h.inv ht hl0 hF h2 a b, h.own.same (hold _ rfl rfl), h.emp.step seen_up fun F2 e a b d => hno _ (fun _ e => by cases e; rfl) F2 e a b d _⟩, hne _ _, .inl ⟨rfl, rfl, tld _⟩⟩⟩
 by_cases hp2 : F.pc = 2
 ·rw [if_pos hp2]; exact mid 3 (by omega) (by omega) (by omega)
 rw [if_neg hp2]
 by_cases hp3 : F.pc = 3
 ·rw [if_pos hp3]; exact mid 4 (by omega) (by omega) (by omega)
 rw [if_neg hp3]
 by_cases hp4 : F.pc = 4
 ·rw [if_pos hp4]; exact mid 5 (by omega) (by omega) (by omega)
 rw [if_neg hp4]
 by_cases hp5 : F.pc = 5
 ·rw [if_pos hp5]; exact mid 6 (by omega) (by omega) (by omega)
 rw [if_neg hp5]
 by_cases hp6 : F.pc = 6
 ·rw [if_pos hp6]
  by_cases hs : F.r2 < gens
  ·rw [if_pos hs]
   exact ⟨L, _, had, ev, ⟨⟨gi_g6a h.inv ht hl0 hF hn h2 hp6 hs, h.own.step ht only (fun _ => ⟨rfl, _, rfl, by unfold slotF; rw [if_neg (show ¬ (_ : StF).fn = 1 from n1)]⟩), h.emp.step seen_up fun F2 e a b d => hno _ (fun _ e => by cases e; rfl) F2 e a b d _⟩, hne _ _, .inl ⟨rfl, rfl, tld _⟩⟩⟩
  ·rw [if_neg hs]
   exact ⟨L, _, had, ev, ⟨⟨gi_g6b h.inv ht hl0 hF hn h2 hp6 (by omega) 0 0, h.own.step ht only (fun h => absurd h (show ¬ 3 ≤ 0 by decide)), h.emp.step seen_up fun F2 e => by cases e⟩, hne _ _, .inl ⟨rfl, rfl, tld _⟩⟩⟩
 rw [if_neg hp6]
 by_cases hp7 : F.pc = 7
 ·rw [if_pos hp7]
  exact ⟨L, ow, had, ev, ⟨⟨gi_g7 h.inv ht hl0 hF h2 hp7, h.own.same (hold _ rfl rfl), h.emp.step seen_up fun F2 e a b d => hno _ (fun _ e => by cases e; rfl) F2 e a b d _⟩, hne _ _, .inl ⟨rfl, rfl, tld _⟩⟩⟩
 rw [if_neg hp7]
 by_cases hp8 : F.pc = 8
 ·rw [if_pos hp8]
  exact ⟨L, ow, had, ev, ⟨⟨gi_g8 h.inv ht hl0 hF h2 hp8, h.own.same (hold _ rfl rfl), h.emp.step seen_up fun F2 e a b d => hno _ (fun _ e => by cases e; rfl) F2 e a b d _⟩, hne _ _, .inl ⟨rfl, rfl, tld _⟩⟩⟩
 rw [if_neg hp8]
 have hp9 : F.pc = 9 := by have := h3.gv h2; omega
 by_cases hs : (g.lv (lev t)).top = F.r1
 ·rw [if_pos hs]
  exact ⟨_, _, had, ev, ⟨⟨gi_g9a h.inv ht hl0 hF hS hn h2 hp9 hs 0 0, h.own.step ht only (fun h => absurd h (show ¬ 3 ≤ 1 by decide)), h.emp.step seen_up fun F2 e => by cases e⟩, hne _ _, .inl ⟨rfl, rfl, tld _⟩⟩⟩
 ·rw [if_neg hs]
  exact ⟨L, ow, had, ev, ⟨⟨gi_g9b h.inv ht hl0 hF h2 hp9, h.own.same (hold _ rfl rfl), h.emp.step seen_up fun F2 e a b d => hno _ (fun _ e => by cases e; rfl) F2 e a b d _⟩, hne _ _, .inl ⟨rfl, rfl, tld _⟩⟩⟩
theorem crowd_next (h : CrI S gens NL T lev n g L ow had ev emp) (hS : S ≤ 60) (hn : n < 100000) (ht : t < T) (hl0 : lev t < NL) (hF : g.thr t = some F) : ∃ L2 ow2 had2 ev2, CrN S gens NL T lev n t F g (g.next gens t (lev t) F) L had ev emp L2 ow2 had2 ev2 := by
 unfold StG.next
 rcases (h.inv.thr t ht F hF).fn with h1 | h2
 ·rw [if_pos h1]; exact crowd_take h hS hn ht hl0 hF h1
 ·rw [if_neg (by omega)]; exact crowd_give h hS hn ht hl0 hF h2
/-- How many steps a thread needs at most, alone. -/
def potF (top : Nat) (F : StF) : Nat :=
 if F.fn = 1 then (if F.pc = 0 then 4 else if F.pc = 1 then (if top = F.r1 then 3 else 6) else if F.pc = 2 then (if top = F.r1 then 2 else 5) else 1)
 else (if F.pc < 7 then 10 - F.pc else if F.pc = 7 then 3 else if F.pc = 8 then (if top = F.r1 then 2 else 5) else (if top = F.r1 then 1 else 4))
theorem pot_le (top : Nat) (F : StF) : potF top F ≤ 10 := by
 unfold potF
 repeat' split
 all_goals omega
theorem pot_pos (top : Nat) (F : StF) : 1 ≤ potF top F := by
 unfold potF
 repeat' split
 all_goals omega
theorem pot_next {l : Nat} (h1 : F.fn = 1 ∨ F.fn = 2) (F2 : StF) (e : (g.next gens t l F).thr t = some F2) : potF (((g.next gens t l F).lv l).top) F2 + 1 ≤ potF (g.lv l).top F := by
 have go : ∀ (g : StG) (F0 : StF), (g.go t F0).thr t = some F2 → F2 = F0 := fun g F0 e => by
  have e' : put1 g.thr t (some F0) t = some F2 := e
  rw [put1_same] at e'; cases e'; rfl
 have bk : ∀ (g : StG) (a b : Nat), (g.back t a b).thr t = some F2 → False := fun g a b e => by
  have e' : put1 g.thr t none t = some F2 := e
  rw [put1_same] at e'; cases e'
 rcases h1 with h1 | h1
 ·unfold StG.next at e ⊢
  rw [if_pos h1] at e ⊢
  unfold StG.take at e ⊢
  by_cases hp : F.pc = 0
  ·rw [if_pos hp] at e ⊢
   rw [go _ _ e]
   show potF (g.lv l).top _ + 1 ≤ _
   unfold potF
   simp [h1, hp]
  rw [if_neg hp] at e ⊢
  by_cases hp1 : F.pc = 1
  ·rw [if_pos hp1] at e ⊢
   by_cases hs : slOf F.r1 = 0
   ·rw [if_pos hs] at e; exact (bk _ _ _ e).elim
   ·rw [if_neg hs] at e ⊢
    rw [go _ _ e]
    show potF (g.lv l).top _ + 1 ≤ _
    unfold potF
    simp [h1, hp1]
    split <;> omega
  rw [if_neg hp1] at e ⊢
  by_cases hp2 : F.pc = 2
  ·rw [if_pos hp2] at e ⊢
   by_cases hs : (g.lv l).top = F.r1
   ·rw [if_pos hs] at e ⊢
    rw [go _ _ e]
    unfold potF
    simp [h1, hp2, hs]
   ·rw [if_neg hs] at e ⊢
    rw [go _ _ e]
    show potF (g.lv l).top _ + 1 ≤ _
    unfold potF
    simp [h1, hp2, hs]
  rw [if_neg hp2] at e
  exact (bk _ _ _ e).elim
 ·have n1 : ¬ F.fn = 1 := by omega
  unfold StG.next at e ⊢
  rw [if_neg n1] at e ⊢
  unfold StG.give at e ⊢
  have low : ∀ (top : Nat) (k : Nat) (F3 : StF), F.pc < 6 → F3.fn = 2 → F3.pc = F.pc + 1 → potF top F3 + 1 ≤ potF (g.lv l).top F := fun top k F3 a b d => by
   unfold potF
   rw [if_neg (by omega), if_pos (by omega), if_neg n1, if_pos (by omega)]
   omega
  by_cases hp : F.pc = 0
  ·rw [if_pos hp] at e ⊢
   rw [go _ _ e]; exact low _ 0 _ (by omega) h1 (by show 1 = _; omega)
  rw [if_neg hp] at e ⊢
  by_cases hp1 : F.pc = 1
  ·rw [if_pos hp1] at e ⊢
   rw [go _ _ e]; exact low _ 0 _ (by omega) h1 (by show 2 = _; omega)
  rw [if_neg hp1] at e ⊢
  by_cases hp2 : F.pc = 2
  ·rw [if_pos hp2] at e ⊢
   rw [go _ _ e]; exact low _ 0 _ (by omega) h1 (by show 3 = _; omega)
  rw [if_neg hp2] at e ⊢
  by_cases hp3 : F.pc = 3
  ·rw [if_pos hp3] at e ⊢
   rw [go _ _ e]; exact low _ 0 _ (by omega) h1 (by show 4 = _; omega)
  rw [if_neg hp3] at e ⊢
  by_cases hp4 : F.pc = 4
  ·rw [if_pos hp4] at e ⊢
   rw [go _ _ e]; exact low _ 0 _ (by omega) h1 (by show 5 = _; omega)
  rw [if_neg hp4] at e ⊢
  by_cases hp5 : F.pc = 5
  ·rw [if_pos hp5] at e ⊢
   rw [go _ _ e]; exact low _ 0 _ (by omega) h1 (by show 6 = _; omega)
  rw [if_neg hp5] at e ⊢
  by_cases hp6 : F.pc = 6
  ·rw [if_pos hp6] at e ⊢
   by_cases hs : F.r2 < gens
   ·rw [if_pos hs] at e ⊢
    rw [go _ _ e]
    unfold potF
    simp [h1, hp6]
   ·rw [if_neg hs] at e; exact (bk _ _ _ e).elim
  rw [if_neg hp6] at e ⊢
  by_cases hp7 : F.pc = 7
  ·rw [if_pos hp7] at e ⊢
   rw [go _ _ e]
   show potF (g.lv l).top _ + 1 ≤ _
   unfold potF
   simp [h1, hp7]
  rw [if_neg hp7] at e ⊢
  by_cases hp8 : F.pc = 8
  ·rw [if_pos hp8] at e ⊢
   rw [go _ _ e]
   have et : ((g.lev l { g.lv l with lk := put1 (g.lv l).lk F.r0 (slOf F.r1) }).lv l).top = (g.lv l).top := by
    show (put1 g.lv l _ l).top = _
    rw [put1_same]
   show potF ((g.lev l { g.lv l with lk := put1 (g.lv l).lk F.r0 (slOf F.r1) }).lv l).top _ + 1 ≤ _
   rw [et]
   unfold potF
   simp [h1, hp8]
   split <;> omega
  rw [if_neg hp8] at e ⊢
  by_cases hs : (g.lv l).top = F.r1
  ·rw [if_pos hs] at e; exact (bk _ _ _ e).elim
  ·rw [if_neg hs] at e ⊢
   rw [go _ _ e]
   show potF (g.lv l).top _ + 1 ≤ _
   unfold potF
   have : ¬ F.pc < 7 := by omega
   simp [h1, hp7, hp8, hs, this]
end
end
section
open Go.RowKit
section
variable {S gens NL T n : Nat} {lev hl : Nat → Nat} {g g2 : StG} {L : Nat → List Nat} {ow : Nat → Nat → Nat × Nat} {had : Nat → List Nat} {ev : Nat → List (Nat × Nat)} {t l : Nat} {F F2 : StF} {V V2 : LvG} {o o2 : Nat → Nat × Nat}
/-- What a bit asks for is there. -/
theorem GInv.ok {c : Nat → Int} (h : GInv S gens NL T lev hl n g L ow had ev) (hn : n < 100000) (hS : c 10 = (S : Nat)) (hS2 : S ≤ 60) (ht : t < T) (hl0 : lev t < NL) (hF : g.thr t = some F) : OkF c g (lev t) F := by
 have h1 := h.thr t ht F hF
 have h2 := h.lv (lev t) hl0
 refine ⟨h1.fn, h1.r1, h1.tk, h1.gv, fun a b => ?_, fun a b => ?_, fun a b => ?_, fun a => ?_, fun a b => ?_, fun a b => ?_, fun i a b => ?_⟩
 ·have := (h1.past (.inl ⟨a, .inl b⟩)).2; rw [hS]; omega
 ·have p := h1.past (.inl ⟨a, .inr b⟩)
  obtain ⟨q1, q2, q3⟩ := h1.tk2 a b
  refine ⟨q1, by rw [hS]; have := p.2; omega, by omega, fun e => ?_⟩
  obtain ⟨r, hr⟩ := h2.first.2.2 (by rw [e]; omega)
  have hm := (h2.mem (slOf (g.lv (lev t)).top)).1 (by rw [hr]; exact List.mem_cons_self)
  rw [e] at hm
  exact (h2.off _ hm.1 hm.2.1 (.inl hm.2.2)).1
 ·obtain ⟨q1, q2, q3⟩ := h1.tk3 a b
  exact ⟨q1, by rw [hS]; omega⟩
 ·obtain ⟨q1, q2, q3⟩ := h1.r0 a
  exact ⟨q1, by rw [hS]; omega⟩
 ·obtain ⟨q1, q2, q3⟩ := h1.r0 a
  have q4 := h1.gen a (by omega) (by omega)
  have q5 := (h2.hd _ q1 q2).2
  omega
 ·obtain ⟨q1, q2, q3⟩ := h1.r0 a
  have q4 := h1.gen a (by omega) (by omega)
  have q5 := (h2.hd _ q1 q2).2
  refine ⟨by omega, h2.on _ q1 q2 (.inr (.inr ?_))⟩
  rw [q3, if_pos (by omega)]
 ·rw [hS] at b
  have := (h2.hd i a (by omega)).1
  omega
end
end
section
open Go.RowKit
def slots (n : Nat) : List Nat := (List.range n).map (· + 2)
end
section
open Go.RowKit
def lv0 (S : Nat) : LvG := ⟨2, fun i => if 2 ≤ i ∧ i < S then i + 1 else 0, fun i => if i = 1 then 1 else 0, fun i => i == 1⟩
def g00 (S : Nat) : StG := ⟨fun _ => lv0 S, fun _ => none, fun _ => 0, fun _ => 0⟩
theorem chain_first (S a : Nat) (h1 : 1 ≤ a) : ∀ m : Nat, a + m = S + 1 → (∀ i, a ≤ i → i < S → (lv0 S).lk i = i + 1) → (lv0 S).lk S = 0 → chainP (lv0 S).lk (if m = 0 then 0 else a) ((List.range m).map (· + a))
 | 0, _, _, _ => rfl
 | m + 1, he, hk, hz => by
  rw [List.range_succ_eq_map, List.map_cons, List.map_map, if_neg (by omega)]
  have ih := chain_first S (a + 1) (by omega) m (by omega) (fun i h2 h3 => hk i (by omega) h3) hz
  refine ⟨by omega, by omega, ?_⟩
  have e : List.map ((fun x => x + a) ∘ Nat.succ) (List.range m) = (List.range m).map (· + (a + 1)) := by
   apply List.map_congr_left
   intro x _
   show x + 1 + a = x + (a + 1)
   omega
  rw [e, Nat.zero_add]
  by_cases hm : m = 0
  ·subst hm
   rw [if_pos rfl] at ih
   have : a = S := by omega
   rw [this, hz]; exact ih
  ·rw [if_neg hm] at ih
   rw [hk a (Nat.le_refl _) (by omega)]; exact ih
def ow0 (_ i : Nat) : Nat × Nat := if i = 1 then (0, 0) else (1, 0)
theorem ginv_first {S gens NL T : Nat} {lev hl : Nat → Nat} (hS : 2 ≤ S) (hg : 1 ≤ gens) : GInv S gens NL T lev hl 0 (g00 S) (fun _ => slots (S - 1)) ow0 (fun _ => []) (fun _ => []) := by
 refine ⟨fun l _ => ?_, fun t _ F h => (by cases h), fun j => ⟨List.nodup_nil, fun x h => (by cases h)⟩, fun l _ => ⟨fun x gn h => (by cases h)⟩⟩
 have hc := chain_first S 2 (by omega) (S - 1) (by omega) (fun i h1 h2 => if_pos ⟨h1, h2⟩) (if_neg (by omega))
 rw [if_neg (by omega)] at hc
 have hc' : chainP (lv0 S).lk (slOf 2) (slots (S - 1)) := by rw [show slOf 2 = 2 by decide]; exact hc
 refine ⟨hc', ?_, fun x => ?_, (by decide : 2 < 18446744073709551616), (by decide : cnt 2 ≤ 0), fun i h1 h2 => ?_, fun i h1 h2 => ?_, fun i h1 h2 h => ?_, fun i h1 h2 h => ?_, fun i h1 h2 h => ?_, fun i h1 h2 => ?_⟩
 ·exact List.Pairwise.map _ (fun a b hab e => hab (by omega)) (List.nodup_range (n := S - 1))
 ·unfold slots ow0
  rw [List.mem_map]
  constructor
  ·rintro ⟨y, hy, rfl⟩
   have := List.mem_range.1 hy
   refine ⟨by omega, by omega, ?_⟩
   rw [if_neg (by omega)]
  ·rintro ⟨a, b, d⟩
   by_cases hx : x = 1
   ·rw [if_pos hx] at d; cases d
   ·exact ⟨x - 2, List.mem_range.2 (by omega), by omega⟩
 ·show (if 2 ≤ i ∧ i < S then i + 1 else 0) ≤ S
  split <;> omega
 ·show (if i = 1 then 1 else 0) < _ ∧ genOf (if i = 1 then 1 else 0) ≤ 0
  split
  ·exact ⟨by decide, by decide⟩
  ·exact ⟨by decide, by decide⟩
 ·unfold ow0 at h
  split at h <;> (rcases h with h | h | h <;> cases h)
 ·unfold ow0 at h
  by_cases hi : i = 1
  ·rw [if_pos hi] at h; rcases h with h | h <;> cases h
  ·show (i == 1) = false ∧ (if i = 1 then 1 else 0) % 4 = 0 ∧ genOf (if i = 1 then 1 else 0) < gens
   rw [if_neg hi]
   exact ⟨by simp [hi], rfl, hg⟩
 ·left
  unfold ow0 at h
  by_cases hi : i = 1
  ·subst hi; rfl
  ·rw [if_neg hi] at h; cases h
 ·unfold ow0
  split <;> simp
end
section
open Go.RowKit
section
variable {S gens NL T n l x v t : Nat} {lev hl : Nat → Nat} {z z2 : StG} {L : Nat → List Nat} {ow : Nat → Nat → Nat × Nat} {had : Nat → List Nat} {ev : Nat → List (Nat × Nat)} {emp : Nat → Bool} {f f2 : StF}
/-- The Head of a slot that is had is another one, of the same generation. -/
theorem GInv.head (h : GInv S gens NL T lev hl n z L ow had ev) (hl0 : l < NL) (hx : (ow l x).1 = 2) (hv : v < 17179869184) (hg : genOf v = genOf ((z.lv l).hd x)) : GInv S gens NL T lev hl n (z.lev l { z.lv l with hd := put1 (z.lv l).hd x v }) L ow had ev := by
 have hgen : ∀ i, genOf (put1 (z.lv l).hd x v i) = genOf ((z.lv l).hd i) := fun i => by
  by_cases e : i = x
  ·subst e; rw [put1_same]; exact hg
  ·rw [put1_ne e]
 refine ⟨fun l' hl' => ?_, fun t ht F hF => ?_, h.had, fun l' hl' => ?_⟩
 ·show LvI S gens n (put1 z.lv l _ l') (ow l') (L l')
  by_cases e : l' = l
  ·subst e
   have hV := h.lv l' hl'
   rw [put1_same]
   refine ⟨hV.chain, hV.nodup, hV.mem, hV.top, hV.cntN, hV.lk, fun i a b => ⟨?_, ?_⟩, hV.on, fun i a b hc => ?_, fun i a b hc => ?_, hV.code⟩
   ·show put1 _ _ _ _ < _
    by_cases ei : i = x
    ·subst ei; rw [put1_same]; exact hv
    ·rw [put1_ne ei]; exact (hV.hd i a b).1
   ·show genOf (put1 _ _ _ _) ≤ _
    rw [hgen]; exact (hV.hd i a b).2
   ·have ei : i ≠ x := fun e => by
     subst e
     omega
    obtain ⟨q1, q2, q3⟩ := hV.off i a b hc
    refine ⟨q1, ?_, ?_⟩
    ·show put1 _ _ _ _ % 4 = 0
     rw [put1_ne ei]; exact q2
    ·show genOf (put1 _ _ _ _) < _
     rw [hgen]; exact q3
   ·rcases hV.none i a b hc with q | q
    ·exact .inl q
    ·refine .inr ?_
     show _ ≤ genOf (put1 _ _ _ _)
     rw [hgen]; exact q
  ·rw [put1_ne e]; exact h.lv l' hl'
 ·have h1 := h.thr t ht F hF
  show ThrI S (put1 z.lv l _ (lev t)) (ow (lev t)) t F
  by_cases e : lev t = l
  ·rw [e] at h1 ⊢
   rw [put1_same]
   refine ⟨h1.fn, h1.r1, h1.past, h1.tk, h1.gv, h1.tk2, h1.tk3, h1.r0, fun a b c => ?_, h1.lk9⟩
   show _ = genOf (put1 _ _ _ _) + 1
   rw [hgen]; exact h1.gen a b c
  ·rw [put1_ne e]; exact h1
 ·show EvI S (put1 z.lv l _ l') (ow l') (ev l')
  by_cases e : l' = l
  ·subst e
   rw [put1_same]
   refine ⟨fun y gn hy => ?_⟩
   show 1 ≤ y ∧ y ≤ S ∧ gn ≤ genOf (put1 _ _ _ _) ∧ (_ → gn < genOf (put1 _ _ _ _))
   rw [hgen]
   exact (h.ev l' hl').all y gn hy
  ·rw [put1_ne e]; exact h.ev l' hl'
theorem CrI.head (h : CrI S gens NL T lev n z L ow had ev emp) (hl0 : l < NL) (hx : (ow l x).1 = 2) (hv : v < 17179869184) (hg : genOf v = genOf ((z.lv l).hd x)) : CrI S gens NL T lev n (z.lev l { z.lv l with hd := put1 (z.lv l).hd x v }) L ow had ev emp :=
 ⟨h.inv.head hl0 hx hv hg, h.own, h.emp⟩
/-- What Take tells: a slot's generation. -/
theorem take_gen (h1 : f.fn = 1) (hn : (z.next gens t l f).thr t = none) : (z.next gens t l f).t0 t = 0 ∨ (z.next gens t l f).t1 t = genOf (((z.next gens t l f).lv l).hd ((z.next gens t l f).t0 t)) := by
 have go : ∀ (z : StG) (F0 : StF), (z.go t F0).thr t = none → False := fun z F0 e => by
  have e' : put1 z.thr t (some F0) t = none := e
  rw [put1_same] at e'; cases e'
 unfold StG.next at hn ⊢
 rw [if_pos h1] at hn ⊢
 unfold StG.take at hn ⊢
 by_cases hp : f.pc = 0
 ·rw [if_pos hp] at hn; exact (go _ _ hn).elim
 rw [if_neg hp] at hn ⊢
 by_cases hp1 : f.pc = 1
 ·rw [if_pos hp1] at hn ⊢
  by_cases hs : slOf f.r1 = 0
  ·rw [if_pos hs]; exact .inl (put1_same _ _ _)
  ·rw [if_neg hs] at hn; exact (go _ _ hn).elim
 rw [if_neg hp1] at hn ⊢
 by_cases hp2 : f.pc = 2
 ·rw [if_pos hp2] at hn
  by_cases hs : (z.lv l).top = f.r1
  ·rw [if_pos hs] at hn; exact (go _ _ hn).elim
  ·rw [if_neg hs] at hn; exact (go _ _ hn).elim
 rw [if_neg hp2]
 refine .inr ?_
 show put1 z.t1 t _ t = genOf ((z.lv l).hd (put1 z.t0 t _ t))
 rw [put1_same, put1_same]
/-- Where Give goes on. -/
theorem give_pc (h2 : f.fn = 2) (h9 : f.pc ≤ 9) (e : (z.next gens t l f).thr t = some f2) : f2.fn = 2 ∧ f2.r0 = f.r0 ∧ (f2.pc ≤ f.pc + 1) := by
 have go : ∀ (z : StG) (F0 : StF), (z.go t F0).thr t = some f2 → f2 = F0 := fun z F0 e => by
  have e' : put1 z.thr t (some F0) t = some f2 := e
  rw [put1_same] at e'; cases e'; rfl
 have bk : ∀ (z : StG) (a b : Nat), (z.back t a b).thr t = some f2 → False := fun z a b e => by
  have e' : put1 z.thr t none t = some f2 := e
  rw [put1_same] at e'; cases e'
 unfold StG.next at e
 rw [if_neg (by omega)] at e
 unfold StG.give at e
 by_cases hp0 : f.pc = 0
 ·rw [if_pos hp0] at e; rw [go _ _ e]; exact ⟨h2, rfl, (by show 1 ≤ f.pc + 1; omega)⟩
 rw [if_neg hp0] at e
 by_cases hp1 : f.pc = 1
 ·rw [if_pos hp1] at e; rw [go _ _ e]; exact ⟨h2, rfl, (by show 2 ≤ f.pc + 1; omega)⟩
 rw [if_neg hp1] at e
 by_cases hp2 : f.pc = 2
 ·rw [if_pos hp2] at e; rw [go _ _ e]; exact ⟨h2, rfl, (by show 3 ≤ f.pc + 1; omega)⟩
 rw [if_neg hp2] at e
 by_cases hp3 : f.pc = 3
 ·rw [if_pos hp3] at e; rw [go _ _ e]; exact ⟨h2, rfl, (by show 4 ≤ f.pc + 1; omega)⟩
 rw [if_neg hp3] at e
 by_cases hp4 : f.pc = 4
 ·rw [if_pos hp4] at e; rw [go _ _ e]; exact ⟨h2, rfl, (by show 5 ≤ f.pc + 1; omega)⟩
 rw [if_neg hp4] at e
 by_cases hp5 : f.pc = 5
 ·rw [if_pos hp5] at e; rw [go _ _ e]; exact ⟨h2, rfl, (by show 6 ≤ f.pc + 1; omega)⟩
 rw [if_neg hp5] at e
 by_cases hp6 : f.pc = 6
 ·rw [if_pos hp6] at e
  by_cases hs : f.r2 < gens
  ·rw [if_pos hs] at e; rw [go _ _ e]; exact ⟨h2, rfl, (by show 7 ≤ f.pc + 1; omega)⟩
  ·rw [if_neg hs] at e; exact (bk _ _ _ e).elim
 rw [if_neg hp6] at e
 by_cases hp7 : f.pc = 7
 ·rw [if_pos hp7] at e; rw [go _ _ e]; exact ⟨h2, rfl, (by show 8 ≤ f.pc + 1; omega)⟩
 rw [if_neg hp7] at e
 by_cases hp8 : f.pc = 8
 ·rw [if_pos hp8] at e; rw [go _ _ e]; exact ⟨h2, rfl, (by show 9 ≤ f.pc + 1; omega)⟩
 rw [if_neg hp8] at e
 by_cases hs : (z.lv l).top = f.r1
 ·rw [if_pos hs] at e; exact (bk _ _ _ e).elim
 ·rw [if_neg hs] at e; rw [go _ _ e]; exact ⟨h2, rfl, (by show 7 ≤ f.pc + 1; omega)⟩
end
/-- A frame of Mint. -/
def MinF (G : Fr) (d : DeedS) : Prop := G.fn = 30 ∧ G.r 0 = d.st % 4 ∧ G.r 1 = d.key ∧ G.r 2 = d.a ∧ G.r 3 = d.b
/-- What Mint has written. -/
structure Wrote (B S l : Nat) (g : GM) (x gn pc : Nat) (d : DeedS) : Prop where
 gen : gn = genOf (g.w l (oNd B S x 0))
 key : 3 ≤ pc → g.w l (oNd B S x 2) = d.key
 a : 4 ≤ pc → g.w l (oNd B S x 3) = d.a
 b : 5 ≤ pc → g.w l (oNd B S x 4) = d.b
 nx : 6 ≤ pc → g.w l (oNd B S x 1) = 0
 hd : 7 ≤ pc → g.w l (oNd B S x 0) = mkHead gn (d.st % 4)
theorem Wrote.on {B S l x gn pc : Nat} {g g2 : GM} {d : DeedS} (h : Wrote B S l g x gn pc d) (e : ∀ j, j < 5 → g2.w l (oNd B S x j) = g.w l (oNd B S x j)) : Wrote B S l g2 x gn pc d :=
 ⟨by rw [e 0 (by decide)]; exact h.gen, fun q => by rw [e 2 (by decide)]; exact h.key q, fun q => by rw [e 3 (by decide)]; exact h.a q, fun q => by rw [e 4 (by decide)]; exact h.b q, fun q => by rw [e 1 (by decide)]; exact h.nx q, fun q => by rw [e 0 (by decide)]; exact h.hd q⟩
/-- What a thread is within. -/
def McT (B S l t : Nat) (g : GM) (z : StG) (had : List Nat) (md : List Mk) (d : DeedS) : Prop :=
 (g.thr t = [] ∧ z.thr t = none ∧ had = md.map (·.1))
 ∨ (∃ F, g.thr t = [F] ∧ z.thr t = some (frS F) ∧ F.fn = 2 ∧ 0 ≤ d.gi ∧ had = md.map (·.1))
 ∨ (∃ G, g.thr t = [G] ∧ MinF G d ∧ d.gi < 0 ∧ (G.pc = 0 ∨ (G.pc = 1 ∧ g.told t 0 = 0)) ∧ z.thr t = none ∧ had = md.map (·.1))
 ∨ (∃ G F, g.thr t = [G, F] ∧ MinF G d ∧ d.gi < 0 ∧ G.pc = 1 ∧ z.thr t = some (frS F) ∧ F.fn = 1 ∧ had = md.map (·.1))
 ∨ (∃ G x gn, g.thr t = [G] ∧ MinF G d ∧ d.gi < 0 ∧ ((G.pc = 1 ∧ g.told t 0 = x ∧ g.told t 1 = gn) ∨ (2 ≤ G.pc ∧ G.pc ≤ 7 ∧ G.r 4 = x ∧ G.r 5 = gn)) ∧ z.thr t = none ∧ had = md.map (·.1) ++ [x] ∧ Wrote B S l g x gn G.pc d)
section
variable {B S l t : Nat} {g g2 : GM} {z z2 : StG} {had : List Nat} {md : List Mk} {d : DeedS}
theorem McT.frame (h : McT B S l t g z had md d) (e1 : g2.thr t = g.thr t) (e2 : z2.thr t = z.thr t) (e3 : g2.told t = g.told t) (e4 : ∀ x ∈ had, ∀ j, j < 5 → g2.w l (oNd B S x j) = g.w l (oNd B S x j)) : McT B S l t g2 z2 had md d := by
 unfold McT at h ⊢
 rw [e1, e2, e3]
 rcases h with h | h | h | h | ⟨G, x, gn, h1, h2, h3, h4, h5, h6, h7⟩
 ·exact .inl h
 ·exact .inr (.inl h)
 ·exact .inr (.inr (.inl h))
 ·exact .inr (.inr (.inr (.inl h)))
 ·exact .inr (.inr (.inr (.inr ⟨G, x, gn, h1, h2, h3, h4, h5, h6, h7.on fun j hj => e4 x (by rw [h6]; simp) j hj⟩)))
theorem McT.sub (h : McT B S l t g z had md d) : ∀ x ∈ md, x.1 ∈ had := fun x hx => by
 have hm : x.1 ∈ md.map (·.1) := List.mem_map.2 ⟨x, hx, rfl⟩
 rcases h with ⟨_, _, h⟩ | ⟨_, _, _, _, _, h⟩ | ⟨_, _, _, _, _, _, h⟩ | ⟨_, _, _, _, _, _, _, _, h⟩ | ⟨_, _, _, _, _, _, _, _, h, _⟩
 ·rw [h]; exact hm
 ·rw [h]; exact hm
 ·rw [h]; exact hm
 ·rw [h]; exact hm
 ·rw [h]; exact List.mem_append_left _ hm
end
/-- Which fields Give has put to nothing. -/
def GzJ (pc j : Nat) : Prop := (j = 3 ∧ 3 ≤ pc) ∨ (j = 4 ∧ 4 ≤ pc) ∨ (j = 2 ∧ 5 ≤ pc) ∨ (j = 1 ∧ 6 ≤ pc)
structure McZ (B S NL T : Nat) (lev : Nat → Nat) (g : GM) (z : StG) (had : Nat → List Nat) (md : Nat → List Mk) (nw : Nat → DeedS) : Prop where
 abs : StA B S NL g z
 thr : ∀ t, t < T → McT B S (lev t) t g z (had t) (md t) (nw t)
 all : ∀ t, t < T → ∀ x ∈ md t, IsNd B S g (lev t) x
 fz : ∀ l, l < NL → ∀ x, 1 ≤ x → x ≤ S → g.held l x = false → ∀ j, 1 ≤ j → j < 5 → g.w l (oNd B S x j) = 0
 gz : ∀ t, t < T → ∀ f, z.thr t = some f → f.fn = 2 → ∀ j, GzJ f.pc j → g.w (lev t) (oNd B S f.r0 j) = 0
/-- What always holds of a crowd. -/
structure McI (B S gens NL T : Nat) (lev : Nat → Nat) (m : Nat) (g : GM) (md : Nat → List Mk) (nw : Nat → DeedS) : Prop where
 ex : ∃ z L ow had ev emp, CrI S gens NL T lev m z L ow had ev emp ∧ McZ B S NL T lev g z had md nw
/-- How many steps a thread needs at most, alone. -/
def potM (l t : Nat) (g : GM) : Nat := match g.thr t with
 | [] => 1
 | [G] => if G.fn = 30 then (if G.pc = 0 then 12 else 8 - G.pc) else potF (g.w l 0) (frS G)
 | [_, F] => 7 + potF (g.w l 0) (frS F)
 | _ => 1
/-- What is told, if a slot was made: none that is had. -/
def McO (T : Nat) (lev : Nat → Nat) (t : Nat) (g2 : GM) (md md2 : Nat → List Mk) (d : DeedS) (S : Nat) : Prop :=
 (md2 = md ∧ (g2.thr t = [] → d.gi < 0 → g2.told t 0 = 0)) ∨
 (g2.thr t = [] ∧ d.gi < 0 ∧ ∃ x gn, g2.told t 0 = x ∧ g2.told t 1 = gn ∧ gn < 4294967296 ∧ 1 ≤ x ∧ x ≤ S ∧ md2 = put1 md t (md t ++ [(x, mkHead gn (d.st % 4), d.key, d.a, d.b)]) ∧ ∀ y, y < T → lev y = lev t → ∀ u ∈ md y, u.1 ≠ x)
/-- A bit of a thread of a crowd. -/
def McN (σ : World) (p : Nat) (c : Nat → Int) (tp : List Nat) (n t : Nat) (B S gens NL T : Nat) (lev : Nat → Nat) (m : Nat) (g : GM) (md : Nat → List Mk) (nw : Nat → DeedS) : Prop :=
 ∃ g2 md2 m2, DoesTo 41 σ p t c tp n (lev t) g g2 ∧ m2 ≤ m + 1 ∧ McI B S gens NL T lev m2 g2 md2 nw ∧ (∀ u, u ≠ t → g2.thr u = g.thr u) ∧ (g2.thr t).length ≤ 2 ∧ McO T lev t g2 md md2 (nw t) S ∧ (g2.thr t = [] ∨ potM (lev t) t g2 + 1 ≤ potM (lev t) t g)
section
variable {B S gens NL T m : Nat} {lev : Nat → Nat} {g : GM} {md : Nat → List Mk} {nw : Nat → DeedS} {t : Nat}
/-- At first. -/
theorem McI.first (hS : 2 ≤ S) (hg : 1 ≤ gens) : McI B S gens NL T lev 0 (gm0 B S) (fun _ => []) nw := by
 refine ⟨⟨g00 S, _, _, _, _, fun _ => false, ⟨ginv_first hS hg, fun l x h => ?_, fun t _ F hF => by cases hF⟩, ⟨⟨fun l _ => rfl, fun l i _ a b => ?_, fun l i _ a b => ?_, fun l i _ a b => rfl⟩, fun t _ => .inl ⟨rfl, rfl, rfl⟩, fun t _ x hx => (nomatch hx), fun l _ x a b hh j j1 j5 => w0_fld B S x j a j1 j5, fun t _ f hf => (nomatch hf)⟩⟩⟩
 ·unfold ow0 at h
  split at h
  ·have h' : 3 ≤ 0 := h; omega
  ·have h' : 3 ≤ 1 := h; omega
 ·exact (w0_lk B S i a b).symm
 ·exact (w0_nd B S i a).symm
/-- Mint begins. -/
theorem McI.mint (h : McI B S gens NL T lev m g md nw) (ht : t < T) (hi : g.thr t = []) {d : DeedS} (hd : d.gi < 0) : McI B S gens NL T lev m (g.top t [] ⟨30, 0, fun i => [d.st % 4, d.key, d.a, d.b].getD i 0⟩) md (put1 nw t d) := by
 obtain ⟨z, L, ow, had, ev, emp, hI, hZ⟩ := h.ex
 refine ⟨z, L, ow, had, ev, emp, hI, ⟨hZ.abs.top, hZ.abs.lk, hZ.abs.hd, hZ.abs.held⟩, fun u hu => ?_, hZ.all, hZ.fz, hZ.gz⟩
 have h1 := hZ.thr u hu
 by_cases e : u = t
 ·subst e
  rw [put1_same]
  rcases h1 with ⟨_, h2, h3⟩ | ⟨F, h2, _⟩ | ⟨F, h2, _⟩ | ⟨F, _, h2, _⟩ | ⟨F, _, _, h2, _⟩
  ·exact .inr (.inr (.inl ⟨_, put1_same _ _ _, ⟨rfl, rfl, rfl, rfl, rfl⟩, hd, .inl rfl, h2, h3⟩))
  all_goals (rw [hi] at h2; cases h2)
 ·rw [put1_ne e]
  exact h1.frame (put1_ne e) rfl rfl fun _ _ _ _ => rfl
/-- Give begins. -/
theorem McI.give (h : McI B S gens NL T lev m g md nw) (ht : t < T) (hl0 : lev t < NL) (hi : g.thr t = []) {d : DeedS} (hd : 0 ≤ d.gi) {i : Nat} {y : Mk} (hy : (md t)[i]? = some y) : McI B S gens NL T lev (m + 1) (g.top t [] ⟨2, 0, fun i => [y.1].getD i 0⟩) (put1 md t ((md t).eraseIdx i)) (put1 nw t d) := by
 obtain ⟨z, L, ow, had, ev, emp, hI, hZ⟩ := h.ex
 obtain ⟨h2, h3⟩ : z.thr t = none ∧ had t = (md t).map (·.1) := by
  rcases hZ.thr t ht with ⟨_, h2, h3⟩ | ⟨F, h2, _⟩ | ⟨F, h2, _⟩ | ⟨F, _, h2, _⟩ | ⟨F, _, _, h2, _⟩
  ·exact ⟨h2, h3⟩
  all_goals (rw [hi] at h2; cases h2)
 have hx : (had t)[i]? = some y.1 := by rw [h3, List.getElem?_map, hy]; rfl
 refine ⟨_, L, _, _, ev, emp, hI.give ht hl0 h2 hx, ⟨hZ.abs.top, hZ.abs.lk, hZ.abs.hd, hZ.abs.held⟩, fun u hu => ?_, fun u hu x hx => ?_, hZ.fz, fun u hu f hf h2 j hj => ?_⟩
 ·by_cases e : u = t
  ·subst e
   rw [put1_same, put1_same, put1_same]
   exact .inr (.inl ⟨_, put1_same _ _ _, put1_same _ _ _, rfl, hd, by rw [h3, List.eraseIdx_eq_take_drop_succ, List.eraseIdx_eq_take_drop_succ, List.map_append, List.map_take, List.map_drop]⟩)
  ·rw [put1_ne e, put1_ne e, put1_ne e]
   exact (hZ.thr u hu).frame (put1_ne e) (put1_ne e) rfl fun _ _ _ _ => rfl
 ·by_cases e : u = t
  ·subst e
   rw [put1_same] at hx
   exact hZ.all u hu x (List.mem_of_mem_eraseIdx hx)
  ·rw [put1_ne e] at hx
   exact hZ.all u hu x hx
 ·have hf' : put1 z.thr t (some ⟨2, 0, y.1, 0, 0⟩) u = some f := hf
  by_cases e : u = t
  ·subst e
   rw [put1_same] at hf'
   cases hf'
   unfold GzJ at hj
   have : (⟨2, 0, y.1, 0, 0⟩ : StF).pc = 0 := rfl
   omega
  ·rw [put1_ne e] at hf'
   exact hZ.gz u hu f hf' h2 j hj
end
end
section
open Go.RowKit
section
variable {B S gens NL T m : Nat} {lev : Nat → Nat} {g g2 : GM} {md : Nat → List Mk} {nw : Nat → DeedS} {z z2 : StG} {L : Nat → List Nat} {ow : Nat → Nat → Nat × Nat} {had : Nat → List Nat} {ev : Nat → List (Nat × Nat)} {emp : Nat → Bool} {t : Nat} {fs : List Fr} {F : Fr}
/-- Nodes' words are elsewhere than what a bit of Take or Give writes, but for its own slot. -/
theorem nd_far {l x j : Nat} (x1 : 1 ≤ x) (x2 : x ≤ S) (hj : j < 5) (hr : F.fn = 2 → F.r 0 ≠ x ∧ 1 ≤ F.r 0 ∧ F.r 0 ≤ S) : ¬ (oNd B S x j = 0 ∨ (F.fn = 2 ∧ (oNd B S x j = oLk B (F.r 0) ∨ (oNd B S (F.r 0) 0 ≤ oNd B S x j ∧ oNd B S x j < oNd B S (F.r 0) 0 + 5)))) := by
 unfold oNd oLk
 intro h
 rcases h with h | ⟨h2, h | h⟩
 ·omega
 ·have := hr h2; omega
 ·have := hr h2; omega
/-- A slot that is had isn't the one that a thread gives. -/
theorem had_far (hI : CrI S gens NL T lev m z L ow had ev emp) (htT : t < T) {f : StF} (hf : z.thr t = some f) (h2 : f.fn = 2) {u x : Nat} (hx : x ∈ had u) (hu : lev u = lev t) : f.r0 ≠ x := fun e => by
 have h1 := ((hI.inv.thr t htT f hf).r0 h2).2.2
 have h3 := ((hI.inv.had u).all x hx).2.2
 rw [e] at h1
 rw [hu, h1] at h3
 have := congrArg Prod.fst h3
 have h4 : (if f.pc ≤ 6 then 4 else 5) = 2 := this
 split at h4 <;> cases h4
/-- Words of a slot that is had stay, behind a bit of Take or Give. -/
theorem had_words (hI : CrI S gens NL T lev m z L ow had ev emp) (htT : t < T) (hf : z.thr t = some (frS F)) (hD : StD B S NL t (lev t) fs F g g2 z2) {u x j : Nat} (hx : x ∈ had u) (hj : j < 5) : g2.w (lev u) (oNd B S x j) = g.w (lev u) (oNd B S x j) := by
 obtain ⟨x1, x2, _⟩ := (hI.inv.had u).all x hx
 refine hD.w _ _ fun ⟨e, h⟩ => ?_
 refine nd_far (l := lev t) (F := F) x1 x2 hj (fun h2 => ?_) h
 obtain ⟨a, b, _⟩ := (hI.inv.thr t htT _ hf).r0 h2
 exact ⟨had_far hI htT hf h2 hx e, a, b⟩
end
/-- A bit of Take or Give: all but the thread itself. -/
theorem st_keeps {B S gens NL T m t : Nat} {lev : Nat → Nat} {g g2 : GM} {md : Nat → List Mk} {nw : Nat → DeedS} {z z2 : StG} {L L2 : Nat → List Nat} {ow ow2 : Nat → Nat → Nat × Nat} {had had2 : Nat → List Nat} {ev ev2 : Nat → List (Nat × Nat)} {emp : Nat → Bool} {fs : List Fr} {F : Fr} (hI : CrI S gens NL T lev m z L ow had ev emp) (hZ : McZ B S NL T lev g z had md nw) (htT : t < T) (hNL : lev t < NL) (hf : z.thr t = some (frS F)) (hC : CrN S gens NL T lev m t (frS F) z z2 L had ev emp L2 ow2 had2 ev2) (hD : StD B S NL t (lev t) fs F g g2 z2) (hz2 : z2 = z.next gens t (lev t) (frS F)) (hh : ∀ u, u ≠ t → had2 u = had u) (hT : McT B S (lev t) t g2 z2 (had2 t) (md t) (nw t)) : McZ B S NL T lev g2 z2 had2 md nw := by
 refine ⟨hD.abs, fun u hu => ?_, fun u hu x hx => ?_, fun l hl x x1 x2 hh j j1 j5 => ?_, fun u hu f hfu h2 j hj => ?_⟩
 ·by_cases e : u = t
  ·subst e; exact hT
  ·rw [hh u e]
   have hthr : g2.thr u = g.thr u := by
    rcases hD.go with ⟨F2, e1, _⟩ | ⟨e1, _⟩
    ·rw [e1, put1_ne e]
    ·rw [e1, put1_ne e]
   have htold : g2.told u = g.told u := by
    rcases hD.go with ⟨F2, _, _, e1, _⟩ | ⟨_, _, e1, _⟩
    ·rw [e1]
    ·exact e1 u e
   exact (hZ.thr u hu).frame hthr (hC.thr u e) htold fun x hx j hj => had_words hI htT hf hD hx hj
 ·exact isNd_congr (hZ.all u hu x hx) fun j hj => had_words hI htT hf hD ((hZ.thr u hu).sub x hx) hj
 ·rcases hD.held l x hh with h1 | ⟨rfl, rfl, h2, h6⟩
  ·have h0 := hZ.fz l hl x x1 x2 h1 j j1 j5
   by_cases hc : l = lev t ∧ F.fn = 2 ∧ x = F.r 0
   ·obtain ⟨rfl, h2, rfl⟩ := hc
    exact hD.z h2 j j1 j5 (.inl h0)
   ·have hw : g2.w l (oNd B S x j) = g.w l (oNd B S x j) := hD.w l _ fun ⟨e, h⟩ => by
     refine nd_far (l := lev t) (F := F) x1 x2 j5 (fun h2 => ?_) h
     obtain ⟨a, b, _⟩ := (hI.inv.thr t htT _ hf).r0 h2
     exact ⟨fun e2 => hc ⟨e, h2, e2.symm⟩, a, b⟩
    rw [hw]; exact h0
  ·refine hD.z h2 j j1 j5 (.inl ?_)
   refine hZ.gz t htT _ hf h2 j ?_
   have e : (frS F).pc = F.pc := rfl
   unfold GzJ
   omega
 ·by_cases e : u = t
  ·subst e
   have h1 : (frS F).fn = 2 := by
    rcases (hI.inv.thr u hu _ hf).fn with h1 | h1
    ·have := (hC.inv.inv.thr u hu f hfu)
     exfalso
     have e1 : (frS F).fn = F.fn := rfl
     rcases hD.go with ⟨F2, _, e2, _, e3⟩ | ⟨_, e2, _⟩
     ·rw [hfu] at e2
      cases e2
      have e4 : (frS F2).fn = F2.fn := rfl
      omega
     ·rw [hfu] at e2; cases e2
    ·exact h1
   have h9 := (hI.inv.thr u hu _ hf).gv h1
   rw [hz2] at hfu
   obtain ⟨_, q2, q3⟩ := give_pc (gens := gens) (l := lev u) h1 h9 hfu
   rw [q2]
   have e2 : (frS F).pc = F.pc := rfl
   have e3 : (frS F).r0 = F.r 0 := rfl
   rw [e3]
   have jj : 1 ≤ j ∧ j < 5 := by unfold GzJ at hj; omega
   refine hD.z h1 j jj.1 jj.2 ?_
   by_cases hg : GzJ (frS F).pc j
   ·exact .inl (hZ.gz u hu _ hf h1 j hg)
   ·refine .inr ?_
    unfold GzJ at hj hg
    omega
  ·rw [hC.thr u e] at hfu
   have h0 := hZ.gz u hu f hfu h2 j hj
   have h3 := (hI.inv.thr u hu f hfu).r0 h2
   have jj : 1 ≤ j ∧ j < 5 := by unfold GzJ at hj; omega
   have hw : g2.w (lev u) (oNd B S f.r0 j) = g.w (lev u) (oNd B S f.r0 j) := hD.w (lev u) _ fun ⟨e1, h⟩ => by
    refine nd_far (l := lev t) (F := F) h3.1 h3.2.1 jj.2 (fun k2 => ?_) h
    obtain ⟨a, b, k3⟩ := (hI.inv.thr t htT _ hf).r0 k2
    refine ⟨fun e2 => ?_, a, b⟩
    have e3 : (frS F).r0 = F.r 0 := rfl
    rw [e3, e2, ← e1, h3.2.2] at k3
    exact e (congrArg Prod.snd k3)
   rw [hw]; exact h0
theorem le_two {α : Type} {l : List α} {a : α} (h : l = [a]) : l.length ≤ 2 := by rw [h]; simp
/-- A bit of Give. -/
theorem mc_give {σ : World} {p t q n m B S gens NL T : Nat} {c : Nat → Int} {tp : List Nat} {lev : Nat → Nat} {g : GM} {md : Nat → List Mk} {nw : Nat → DeedS} {z : StG} {L : Nat → List Nat} {ow : Nat → Nat → Nat × Nat} {had : Nat → List Nat} {ev : Nat → List (Nat × Nat)} {emp : Nat → Bool} (hn : n < 100000) (hm : m < 100000) (ht : (t : Int) < c 1) (hq : tp[t]? = some q) (hl : levelOf c t = (lev t : Nat)) (hlc : (lev t : Int) < c 0) (hB' : c 11 = (B : Nat)) (hS' : c 10 = (S : Nat)) (hg' : c 12 = (gens : Nat)) (h60 : S ≤ 60) (htT : t < T) (hNL : lev t < NL) (hI : CrI S gens NL T lev m z L ow had ev emp) (hZ : McZ B S NL T lev g z had md nw) {F : Fr} (hthr : g.thr t = [F]) (hf : z.thr t = some (frS F)) (h2 : F.fn = 2) (hgi : 0 ≤ (nw t).gi) (hhad : had t = (md t).map (·.1)) : McN σ p c tp n t B S gens NL T lev m g md nw := by
 have ok := hI.inv.ok (c := c) hm hS' h60 htT hNL hf
 obtain ⟨g2, hDo, hD⟩ := st_does (σ := σ) (p := p) (n := n) (fs := []) hn ht hq hl hlc hthr (by simp) hB' hS' hg' hNL hZ.abs ok h60
 obtain ⟨L2, ow2, had2, ev2, hC⟩ := crowd_next hI h60 hm htT hNL hf
 obtain ⟨hh, _⟩ : had2 = had ∧ True := by
  rcases hC.told with ⟨a, _⟩ | ⟨a, _⟩
  ·exact ⟨a, trivial⟩
  ·have e : (frS F).fn = F.fn := rfl
   omega
 have hT : McT B S (lev t) t g2 (z.next gens t (lev t) (frS F)) (had2 t) (md t) (nw t) := by
  rw [hh]
  rcases hD.go with ⟨F2, e1, e2, _, e4⟩ | ⟨e1, e2, _⟩
  ·exact .inr (.inl ⟨F2, by rw [e1, put1_same]; rfl, e2, by omega, hgi, hhad⟩)
  ·exact .inl ⟨by rw [e1, put1_same], e2, hhad⟩
 have hZ2 := st_keeps hI hZ htT hNL hf hC hD rfl (fun u _ => by rw [hh]) hT
 refine ⟨g2, md, m + 1, hand_st (fs := []) hn ht hq hl hlc hthr (by simp) (.inr h2) hDo, Nat.le_refl _, ⟨_, L2, ow2, had2, ev2, _, hC.inv, hZ2⟩, fun u hu => ?_, ?_, .inl ⟨rfl, fun _ e => absurd hgi (by omega)⟩, ?_⟩
 ·rcases hD.go with ⟨F2, e1, _⟩ | ⟨e1, _⟩
  ·rw [e1, put1_ne hu]
  ·rw [e1, put1_ne hu]
 ·rcases hD.go with ⟨F2, e1, _⟩ | ⟨e1, _⟩
  ·rw [e1, put1_same]; simp
  ·rw [e1, put1_same]; simp
 ·rcases hD.go with ⟨F2, e1, e2, _, e4⟩ | ⟨e1, _⟩
  ·refine .inr ?_
   have hp := pot_next (gens := gens) (l := lev t) (.inr (show (frS F).fn = 2 from h2)) (frS F2) e2
   rw [hD.abs.top (lev t) hNL, hZ.abs.top (lev t) hNL] at hp
   unfold potM
   rw [e1, put1_same, hthr]
   show (if F2.fn = 30 then _ else potF _ _) + 1 ≤ if F.fn = 30 then _ else potF _ _
   rw [if_neg (by omega), if_neg (by omega)]
   exact hp
  ·exact .inl (by rw [e1, put1_same])
/-- Mint calls Take. -/
theorem mc_m0 {σ : World} {p t q n m B S gens NL T : Nat} {c : Nat → Int} {tp : List Nat} {lev : Nat → Nat} {g : GM} {md : Nat → List Mk} {nw : Nat → DeedS} {z : StG} {L : Nat → List Nat} {ow : Nat → Nat → Nat × Nat} {had : Nat → List Nat} {ev : Nat → List (Nat × Nat)} {emp : Nat → Bool} (hn : n < 100000) (hm : m < 100000) (ht : (t : Int) < c 1) (hq : tp[t]? = some q) (hl : levelOf c t = (lev t : Nat)) (hlc : (lev t : Int) < c 0) (hB' : c 11 = (B : Nat)) (hS' : c 10 = (S : Nat)) (hg' : c 12 = (gens : Nat)) (h60 : S ≤ 60) (htT : t < T) (hNL : lev t < NL) (hI : CrI S gens NL T lev m z L ow had ev emp) (hZ : McZ B S NL T lev g z had md nw) {G : Fr} (hthr : g.thr t = [G]) (hG : MinF G (nw t)) (hgi : (nw t).gi < 0) (hpc : G.pc = 0) (hf : z.thr t = none) (hhad : had t = (md t).map (·.1)) : McN σ p c tp n t B S gens NL T lev m g md nw := by
 refine ⟨_, md, m + 1, does_m0 (fs := []) hn ht hq hl hlc hthr (by simp) hB' hS' hG.1 hpc, Nat.le_refl _, ⟨_, L, ow, had, ev, _, hI.take hf, ⟨hZ.abs.top, hZ.abs.lk, hZ.abs.hd, hZ.abs.held⟩, fun u hu => ?_, hZ.all, hZ.fz, fun u hu f hfu h2 j hj => ?_⟩, fun u hu => put1_ne hu, ?_, .inl ⟨rfl, fun e => ?_⟩, .inr ?_⟩
 ·by_cases e : u = t
  ·subst e
   exact .inr (.inr (.inr (.inl ⟨G.goto 1, ⟨1, 0, fun _ => 0⟩, put1_same _ _ _, ⟨hG.1, hG.2.1, hG.2.2.1, hG.2.2.2.1, hG.2.2.2.2⟩, hgi, rfl, put1_same _ _ _, rfl, hhad⟩)))
  ·exact (hZ.thr u hu).frame (put1_ne e) (put1_ne e) rfl fun _ _ _ _ => rfl
 ·have hf' : put1 z.thr t (some ⟨1, 0, 0, 0, 0⟩) u = some f := hfu
  by_cases e : u = t
  ·subst e
   rw [put1_same] at hf'
   cases hf'
   cases h2
  ·rw [put1_ne e] at hf'
   exact hZ.gz u hu f hf' h2 j hj
 ·show (put1 g.thr t _ t).length ≤ 2
  rw [put1_same]; simp
 ·have e' : put1 g.thr t ([] ++ [G.goto 1] ++ [⟨1, 0, fun _ => 0⟩]) t = [] := e
  rw [put1_same] at e'; cases e'
 ·unfold potM
  rw [hthr]
  show (match put1 g.thr t ([G.goto 1, ⟨1, 0, fun _ => 0⟩] : List Fr) t with | [] => _ | [G] => _ | [_, F] => _ | _ => _) + 1 ≤ if G.fn = 30 then (if G.pc = 0 then 12 else 8 - G.pc) else _
  rw [put1_same, if_pos hG.1, if_pos hpc]
  show 7 + potF _ ⟨1, 0, 0, 0, 0⟩ + 1 ≤ 12
  unfold potF
  simp
/-- Mint of no slot. -/
theorem mc_no {σ : World} {p t q n m B S gens NL T : Nat} {c : Nat → Int} {tp : List Nat} {lev : Nat → Nat} {g : GM} {md : Nat → List Mk} {nw : Nat → DeedS} {z : StG} {L : Nat → List Nat} {ow : Nat → Nat → Nat × Nat} {had : Nat → List Nat} {ev : Nat → List (Nat × Nat)} {emp : Nat → Bool} (hn : n < 100000) (hm : m < 100000) (ht : (t : Int) < c 1) (hq : tp[t]? = some q) (hl : levelOf c t = (lev t : Nat)) (hlc : (lev t : Int) < c 0) (hB' : c 11 = (B : Nat)) (hS' : c 10 = (S : Nat)) (hg' : c 12 = (gens : Nat)) (h60 : S ≤ 60) (htT : t < T) (hNL : lev t < NL) (hI : CrI S gens NL T lev m z L ow had ev emp) (hZ : McZ B S NL T lev g z had md nw) {G : Fr} (hthr : g.thr t = [G]) (hG : MinF G (nw t)) (hpc : G.pc = 1) (h0 : g.told t 0 = 0) (hf : z.thr t = none) (hhad : had t = (md t).map (·.1)) : McN σ p c tp n t B S gens NL T lev m g md nw := by
 refine ⟨_, md, m, does_m1no (fs := []) hn ht hq hl hlc hthr (by simp) hB' hS' hG.1 hpc h0, Nat.le_succ _, ⟨z, L, ow, had, ev, emp, hI, ⟨hZ.abs.top, hZ.abs.lk, hZ.abs.hd, hZ.abs.held⟩, fun u hu => ?_, hZ.all, hZ.fz, hZ.gz⟩, fun u hu => put1_ne hu, ?_, .inl ⟨rfl, fun _ _ => ?_⟩, .inl (put1_same _ _ _)⟩
 ·by_cases e : u = t
  ·subst e; exact .inl ⟨put1_same _ _ _, hf, hhad⟩
  ·exact (hZ.thr u hu).frame (put1_ne e) rfl (put1_ne e) fun _ _ _ _ => rfl
 ·show (put1 g.thr t _ t).length ≤ 2
  rw [put1_same]; simp
 ·show put1 g.told t _ t 0 = 0
  rw [put1_same]; rfl
/-- A bit of Take, within Mint. -/
theorem mc_take {σ : World} {p t q n m B S gens NL T : Nat} {c : Nat → Int} {tp : List Nat} {lev : Nat → Nat} {g : GM} {md : Nat → List Mk} {nw : Nat → DeedS} {z : StG} {L : Nat → List Nat} {ow : Nat → Nat → Nat × Nat} {had : Nat → List Nat} {ev : Nat → List (Nat × Nat)} {emp : Nat → Bool} (hn : n < 100000) (hm : m < 100000) (ht : (t : Int) < c 1) (hq : tp[t]? = some q) (hl : levelOf c t = (lev t : Nat)) (hlc : (lev t : Int) < c 0) (hB' : c 11 = (B : Nat)) (hS' : c 10 = (S : Nat)) (hg' : c 12 = (gens : Nat)) (h60 : S ≤ 60) (htT : t < T) (hNL : lev t < NL) (hI : CrI S gens NL T lev m z L ow had ev emp) (hZ : McZ B S NL T lev g z had md nw) {G F : Fr} (hthr : g.thr t = [G, F]) (hG : MinF G (nw t)) (hgi : (nw t).gi < 0) (hpc : G.pc = 1) (hf : z.thr t = some (frS F)) (h1 : F.fn = 1) (hhad : had t = (md t).map (·.1)) : McN σ p c tp n t B S gens NL T lev m g md nw := by
 have ok := hI.inv.ok (c := c) hm hS' h60 htT hNL hf
 have hthr' : g.thr t = [G] ++ [F] := hthr
 obtain ⟨g2, hDo, hD⟩ := st_does (σ := σ) (p := p) (n := n) (fs := [G]) hn ht hq hl hlc hthr' (by simp) hB' hS' hg' hNL hZ.abs ok h60
 obtain ⟨L2, ow2, had2, ev2, hC⟩ := crowd_next hI h60 hm htT hNL hf
 have hh : ∀ u, u ≠ t → had2 u = had u := fun u hu => by
  rcases hC.told with ⟨a, _⟩ | ⟨_, _, _, _, _, _, a, _⟩
  ·rw [a]
  ·rw [a, put1_ne hu]
 have hT : McT B S (lev t) t g2 (z.next gens t (lev t) (frS F)) (had2 t) (md t) (nw t) := by
  rcases hD.go with ⟨F2, e1, e2, _, e4⟩ | ⟨e1, e2, _, e3, e4⟩
  ·have a : had2 = had := by
    rcases hC.told with ⟨a, _⟩ | ⟨_, a, _⟩
    ·exact a
    ·rw [e2] at a; cases a
   rw [a]
   exact .inr (.inr (.inr (.inl ⟨G, F2, by rw [e1, put1_same]; rfl, hG, hgi, hpc, e2, by omega, hhad⟩)))
  ·rcases hC.told with ⟨a, _, b⟩ | ⟨_, _, k1, k2, k3, _, a, _⟩
   ·rw [a]
    exact .inr (.inr (.inl ⟨G, by rw [e1, put1_same], hG, hgi, .inr ⟨hpc, by rw [e3]; exact (b h1 e2).1⟩, e2, hhad⟩))
   ·rw [a, put1_same, hhad]
    refine .inr (.inr (.inr (.inr ⟨G, _, _, by rw [e1, put1_same], hG, hgi, .inl ⟨hpc, e3, e4⟩, e2, rfl, ?_⟩)))
    refine ⟨?_, fun h => absurd h (by omega), fun h => absurd h (by omega), fun h => absurd h (by omega), fun h => absurd h (by omega), fun h => absurd h (by omega)⟩
    rcases take_gen (gens := gens) (l := lev t) (show (frS F).fn = 1 from h1) e2 with h | h
    ·rw [h] at k1; omega
    ·rw [h, hD.abs.hd (lev t) _ hNL k1 k2]
 have hZ2 := st_keeps hI hZ htT hNL hf hC hD rfl hh hT
 refine ⟨g2, md, m + 1, hand_st hn ht hq hl hlc hthr' (by simp) (.inl h1) hDo, Nat.le_refl _, ⟨_, L2, ow2, had2, ev2, _, hC.inv, hZ2⟩, fun u hu => ?_, ?_, .inl ⟨rfl, fun e => ?_⟩, .inr ?_⟩
 ·rcases hD.go with ⟨F2, e1, _⟩ | ⟨e1, _⟩
  ·rw [e1, put1_ne hu]
  ·rw [e1, put1_ne hu]
 ·rcases hD.go with ⟨F2, e1, _⟩ | ⟨e1, _⟩
  ·rw [e1, put1_same]; simp
  ·rw [e1, put1_same]; simp
 ·rcases hD.go with ⟨F2, e1, _⟩ | ⟨e1, _⟩
  ·rw [e1, put1_same] at e; cases e
  ·rw [e1, put1_same] at e; cases e
 ·unfold potM
  rw [hthr]
  rcases hD.go with ⟨F2, e1, e2, _, e4⟩ | ⟨e1, _⟩
  ·have hp := pot_next (gens := gens) (l := lev t) (.inl (show (frS F).fn = 1 from h1)) (frS F2) e2
   rw [hD.abs.top (lev t) hNL, hZ.abs.top (lev t) hNL] at hp
   rw [e1, put1_same]
   show 7 + potF _ _ + 1 ≤ 7 + potF _ _
   omega
  ·rw [e1, put1_same]
   show (if G.fn = 30 then (if G.pc = 0 then 12 else 8 - G.pc) else _) + 1 ≤ 7 + potF _ _
   rw [if_pos hG.1, if_neg (by omega)]
   have := pot_pos (g.w (lev t) 0) (frS F)
   omega
/-- A bit of Mint that writes a field of its slot: all but the thread itself. -/
theorem mint_keeps {B S gens NL T m t x : Nat} {lev : Nat → Nat} {g g2 : GM} {md md2 : Nat → List Mk} {nw : Nat → DeedS} {z z2 : StG} {L : Nat → List Nat} {ow : Nat → Nat → Nat × Nat} {had : Nat → List Nat} {ev : Nat → List (Nat × Nat)} {emp : Nat → Bool} (hI : CrI S gens NL T lev m z L ow had ev emp) (hZ : McZ B S NL T lev g z had md nw) (htT : t < T) (hNL : lev t < NL) (hx : x ∈ had t) (hw : ∀ l' o, ¬ (l' = lev t ∧ oNd B S x 0 ≤ o ∧ o < oNd B S x 0 + 5) → g2.w l' o = g.w l' o) (hheld : g2.held = g.held) (hthr : ∀ u, u ≠ t → g2.thr u = g.thr u) (htold : ∀ u, u ≠ t → g2.told u = g.told u) (hz : z2.thr = z.thr) (A : StA B S NL g2 z2) (hT : McT B S (lev t) t g2 z2 (had t) (md2 t) (nw t)) (hmd : ∀ u, u ≠ t → md2 u = md u) (hall : ∀ y, y ∈ md2 t → (y ∈ md t ∧ y.1 ≠ x) ∨ IsNd B S g2 (lev t) y) : McZ B S NL T lev g2 z2 had md2 nw := by
 obtain ⟨x1, x2, x3⟩ := (hI.inv.had t).all x hx
 have nd : ∀ l y j, j < 5 → 1 ≤ y → (l = lev t → y ≠ x) → g2.w l (oNd B S y j) = g.w l (oNd B S y j) := fun l y j hj y1 hy => hw _ _ fun ⟨e, h⟩ => by
  have := hy e
  unfold oNd at h
  omega
 have ne : ∀ u, u ≠ t → ∀ y, y ∈ had u → lev u = lev t → y ≠ x := fun u hu y hy e e2 => by
  have h3 := ((hI.inv.had u).all y hy).2.2
  rw [e, e2, x3] at h3
  exact hu (congrArg Prod.snd h3).symm
 have pos : ∀ u y, y ∈ had u → 1 ≤ y := fun u y hy => ((hI.inv.had u).all y hy).1
 refine ⟨A, fun u hu => ?_, fun u hu y hy => ?_, fun l hl y y1 y2 hh j j1 j5 => ?_, fun u hu f hf h2 j hj => ?_⟩
 ·by_cases e : u = t
  ·subst e; exact hT
  ·rw [hmd u e]
   exact (hZ.thr u hu).frame (hthr u e) (by rw [hz]) (htold u e) fun y hy j hj => nd _ _ _ hj (pos u y hy) fun e2 => ne u e y hy e2
 ·by_cases e : u = t
  ·subst e
   rcases hall y hy with ⟨h1, h2⟩ | h1
   ·exact isNd_congr (hZ.all u hu y h1) fun j hj => nd _ _ _ hj (pos u _ ((hZ.thr u hu).sub y h1)) fun _ => h2
   ·exact h1
  ·rw [hmd u e] at hy
   have hy2 := (hZ.thr u hu).sub y hy
   exact isNd_congr (hZ.all u hu y hy) fun j hj => nd _ _ _ hj (pos u _ hy2) fun e2 => ne u e _ hy2 e2
 ·rw [hheld] at hh
  have h0 := hZ.fz l hl y y1 y2 hh j j1 j5
  rw [nd l y j j5 y1 fun e e2 => ?_]
  ·exact h0
  ·have h4 := (hI.inv.lv (lev t) hNL).on x x1 x2 (.inl (by rw [x3]))
   rw [hZ.abs.held (lev t) x hNL x1 x2] at h4
   rw [e, e2, h4] at hh
   cases hh
 ·rw [hz] at hf
  have h0 := hZ.gz u hu f hf h2 j hj
  have h3 := (hI.inv.thr u hu f hf).r0 h2
  have jj : 1 ≤ j ∧ j < 5 := by unfold GzJ at hj; omega
  rw [nd (lev u) f.r0 j jj.2 h3.1 fun e e2 => had_far hI hu hf h2 hx e.symm e2]
  exact h0
/-- Mint has a slot. -/
theorem mc_m1 {σ : World} {p t q n m B S gens NL T : Nat} {c : Nat → Int} {tp : List Nat} {lev : Nat → Nat} {g : GM} {md : Nat → List Mk} {nw : Nat → DeedS} {z : StG} {L : Nat → List Nat} {ow : Nat → Nat → Nat × Nat} {had : Nat → List Nat} {ev : Nat → List (Nat × Nat)} {emp : Nat → Bool} (hn : n < 100000) (hm : m < 100000) (ht : (t : Int) < c 1) (hq : tp[t]? = some q) (hl : levelOf c t = (lev t : Nat)) (hlc : (lev t : Int) < c 0) (hB' : c 11 = (B : Nat)) (hS' : c 10 = (S : Nat)) (hg' : c 12 = (gens : Nat)) (h60 : S ≤ 60) (htT : t < T) (hNL : lev t < NL) (hI : CrI S gens NL T lev m z L ow had ev emp) (hZ : McZ B S NL T lev g z had md nw) {G : Fr} {x gn : Nat} (hthr : g.thr t = [G]) (hG : MinF G (nw t)) (hgi : (nw t).gi < 0) (hf : z.thr t = none) (hhad : had t = (md t).map (·.1) ++ [x]) (hW : Wrote B S (lev t) g x gn G.pc (nw t)) (hpc : G.pc = 1) (h0 : g.told t 0 = x) (h1 : g.told t 1 = gn) : McN σ p c tp n t B S gens NL T lev m g md nw := by
 have hxm : x ∈ had t := by rw [hhad]; simp
 obtain ⟨x1, x2, x3⟩ := (hI.inv.had t).all x hxm
 have hnd := (hI.inv.had t).nodup
 rw [hhad] at hnd
 have hne : ∀ y, y ∈ md t → y.1 ≠ x := fun y hy e => (List.nodup_append.1 hnd).2.2 y.1 (List.mem_map.2 ⟨y, hy, rfl⟩) x (by simp) e
 refine ⟨_, md, m, does_m1 (fs := []) hn ht hq hl hlc hthr (by simp) hB' hS' hG.1 hpc (by rw [h0]; omega), Nat.le_succ _, ⟨z, L, ow, had, ev, emp, hI, mint_keeps hI hZ htT hNL hxm (fun _ _ _ => rfl) rfl (fun u hu => put1_ne hu) (fun _ _ => rfl) rfl ⟨hZ.abs.top, hZ.abs.lk, hZ.abs.hd, hZ.abs.held⟩ ?_ (fun _ _ => rfl) fun y hy => .inl ⟨hy, hne y hy⟩⟩, fun u hu => put1_ne hu, ?_, .inl ⟨rfl, fun e => ?_⟩, .inr ?_⟩
 ·refine .inr (.inr (.inr (.inr ⟨_, x, gn, put1_same _ _ _, ⟨hG.1, hG.2.1, hG.2.2.1, hG.2.2.2.1, hG.2.2.2.2⟩, hgi, .inr ⟨Nat.le_refl 2, (by decide : 2 ≤ 7), h0, h1⟩, hf, hhad, ?_⟩)))
  exact ⟨hW.gen, fun h => absurd h (by decide : ¬ 3 ≤ 2), fun h => absurd h (by decide : ¬ 4 ≤ 2), fun h => absurd h (by decide : ¬ 5 ≤ 2), fun h => absurd h (by decide : ¬ 6 ≤ 2), fun h => absurd h (by decide : ¬ 7 ≤ 2)⟩
 ·show (put1 g.thr t _ t).length ≤ 2
  rw [put1_same]; simp
 ·have e' : put1 g.thr t ([] ++ [_]) t = [] := e
  rw [put1_same] at e'; cases e'
 ·unfold potM
  rw [hthr]
  show (match put1 g.thr t ([((G.reg 4 (g.told t 0)).reg 5 (g.told t 1)).goto 2] : List Fr) t with | [] => _ | [G] => _ | [_, F] => _ | _ => _) + 1 ≤ if G.fn = 30 then (if G.pc = 0 then 12 else 8 - G.pc) else _
  rw [put1_same, if_pos hG.1, if_neg (by omega), hpc]
  show (if G.fn = 30 then (if 2 = 0 then 12 else 8 - 2) else _) + 1 ≤ 8 - 1
  rw [if_pos hG.1]
  simp
/-- Mint writes a field. -/
theorem mc_fld {σ : World} {p t q n m B S gens NL T : Nat} {c : Nat → Int} {tp : List Nat} {lev : Nat → Nat} {g : GM} {md : Nat → List Mk} {nw : Nat → DeedS} {z : StG} {L : Nat → List Nat} {ow : Nat → Nat → Nat × Nat} {had : Nat → List Nat} {ev : Nat → List (Nat × Nat)} {emp : Nat → Bool} (hn : n < 100000) (hm : m < 100000) (ht : (t : Int) < c 1) (hq : tp[t]? = some q) (hl : levelOf c t = (lev t : Nat)) (hlc : (lev t : Int) < c 0) (hB' : c 11 = (B : Nat)) (hS' : c 10 = (S : Nat)) (hg' : c 12 = (gens : Nat)) (h60 : S ≤ 60) (htT : t < T) (hNL : lev t < NL) (hI : CrI S gens NL T lev m z L ow had ev emp) (hZ : McZ B S NL T lev g z had md nw) {G : Fr} {x gn : Nat} (hthr : g.thr t = [G]) (hG : MinF G (nw t)) (hgi : (nw t).gi < 0) (hf : z.thr t = none) (hhad : had t = (md t).map (·.1) ++ [x]) (hW : Wrote B S (lev t) g x gn G.pc (nw t)) {k J V : Nat} (hpc : G.pc = k) (k2 : 2 ≤ k) (k5 : k ≤ 5) (j1 : 1 ≤ J) (j5 : J < 5) (h0 : G.r 4 = x) (h1 : G.r 5 = gn) (D : DoesTo 41 σ p t c tp n (lev t) g ((g.set (lev t) (oNd B S x J) V).top t [] (G.goto (k + 1)))) (hWn : Wrote B S (lev t) (g.set (lev t) (oNd B S x J) V) x gn (k + 1) (nw t)) : McN σ p c tp n t B S gens NL T lev m g md nw := by
 have hxm : x ∈ had t := by rw [hhad]; simp
 obtain ⟨x1, x2, x3⟩ := (hI.inv.had t).all x hxm
 have hnd := (hI.inv.had t).nodup
 rw [hhad] at hnd
 have hne : ∀ y, y ∈ md t → y.1 ≠ x := fun y hy e => (List.nodup_append.1 hnd).2.2 y.1 (List.mem_map.2 ⟨y, hy, rfl⟩) x (by simp) e
 have hw : ∀ l' o, ¬ (l' = lev t ∧ oNd B S x 0 ≤ o ∧ o < oNd B S x 0 + 5) → (g.set (lev t) (oNd B S x J) V).w l' o = g.w l' o := fun l' o h => by
  rw [set_w, if_neg fun e => h ⟨e.1, by have := e.2; unfold oNd at this ⊢; omega⟩]
 refine ⟨_, md, m, D, Nat.le_succ _, ⟨z, L, ow, had, ev, emp, hI, mint_keeps hI hZ htT hNL hxm hw rfl (fun u hu => put1_ne hu) (fun _ _ => rfl) rfl ⟨fun l h => ?_, fun l i h a b => ?_, fun l i h a b => ?_, hZ.abs.held⟩ ?_ (fun _ _ => rfl) fun y hy => .inl ⟨hy, hne y hy⟩⟩, fun u hu => put1_ne hu, ?_, .inl ⟨rfl, fun e => ?_⟩, .inr ?_⟩
 ·show _ = (g.set (lev t) (oNd B S x J) _).w l 0
  rw [set_w, if_neg fun h => by have := h.2; unfold oNd at this; omega]; exact hZ.abs.top l h
 ·show _ = (g.set (lev t) (oNd B S x J) _).w l _
  rw [set_w, if_neg fun h => by have := h.2; unfold oNd oLk at this; omega]; exact hZ.abs.lk l i h a b
 ·show _ = (g.set (lev t) (oNd B S x J) _).w l _
  rw [set_w, if_neg fun h => by have := h.2; unfold oNd at this; omega]; exact hZ.abs.hd l i h a b
 ·exact .inr (.inr (.inr (.inr ⟨_, x, gn, put1_same _ _ _, ⟨hG.1, hG.2.1, hG.2.2.1, hG.2.2.2.1, hG.2.2.2.2⟩, hgi, .inr ⟨(by omega : 2 ≤ k + 1), (by omega : k + 1 ≤ 7), h0, h1⟩, hf, hhad, hWn.on fun _ _ => rfl⟩)))
 ·show (put1 g.thr t _ t).length ≤ 2
  rw [put1_same]; simp
 ·have e' : put1 g.thr t ([] ++ [_]) t = [] := e
  rw [put1_same] at e'; cases e'
 ·unfold potM
  rw [hthr]
  show (match put1 g.thr t ([G.goto (k + 1)] : List Fr) t with | [] => _ | [G] => _ | [_, F] => _ | _ => _) + 1 ≤ if G.fn = 30 then (if G.pc = 0 then 12 else 8 - G.pc) else _
  rw [put1_same, if_pos hG.1, if_neg (by omega), hpc]
  show (if G.fn = 30 then (if k + 1 = 0 then 12 else 8 - (k + 1)) else _) + 1 ≤ 8 - k
  rw [if_pos hG.1, if_neg (by omega)]
  omega
theorem mc_m2 {σ : World} {p t q n m B S gens NL T : Nat} {c : Nat → Int} {tp : List Nat} {lev : Nat → Nat} {g : GM} {md : Nat → List Mk} {nw : Nat → DeedS} {z : StG} {L : Nat → List Nat} {ow : Nat → Nat → Nat × Nat} {had : Nat → List Nat} {ev : Nat → List (Nat × Nat)} {emp : Nat → Bool} (hn : n < 100000) (hm : m < 100000) (ht : (t : Int) < c 1) (hq : tp[t]? = some q) (hl : levelOf c t = (lev t : Nat)) (hlc : (lev t : Int) < c 0) (hB' : c 11 = (B : Nat)) (hS' : c 10 = (S : Nat)) (hg' : c 12 = (gens : Nat)) (h60 : S ≤ 60) (htT : t < T) (hNL : lev t < NL) (hI : CrI S gens NL T lev m z L ow had ev emp) (hZ : McZ B S NL T lev g z had md nw) {G : Fr} {x gn : Nat} (hthr : g.thr t = [G]) (hG : MinF G (nw t)) (hgi : (nw t).gi < 0) (hf : z.thr t = none) (hhad : had t = (md t).map (·.1) ++ [x]) (hW : Wrote B S (lev t) g x gn G.pc (nw t)) (hpc : G.pc = 2) (h0 : G.r 4 = x) (h1 : G.r 5 = gn) : McN σ p c tp n t B S gens NL T lev m g md nw := by
 obtain ⟨x1, x2, _⟩ := (hI.inv.had t).all x (by rw [hhad]; simp)
 have D := does_m2 (σ := σ) (p := p) (n := n) (fs := []) hn ht hq hl hlc hthr (by simp) hB' hS' hG.1 hpc (by rw [h0]; exact x1) (by rw [h0]; exact x2)
 rw [h0] at D
 have nw' : ∀ j, j ≠ 2 → (g.set (lev t) (oNd B S x 2) (G.r 1)).w (lev t) (oNd B S x j) = g.w (lev t) (oNd B S x j) := fun j hj => by
  rw [set_w, if_neg fun h => by have := h.2; unfold oNd at this; omega]
 have at' : (g.set (lev t) (oNd B S x 2) (G.r 1)).w (lev t) (oNd B S x 2) = (G.r 1) := by rw [set_w, if_pos ⟨rfl, rfl⟩]
 have hW2 := hW
 rw [hpc] at hW2
 refine mc_fld hn hm ht hq hl hlc hB' hS' hg' h60 htT hNL hI hZ hthr hG hgi hf hhad hW hpc (by decide) (by decide) (by decide) (by decide) h0 h1 D ⟨hW2.gen.trans (congrArg genOf (nw' 0 (by decide)).symm), fun h => ?_, fun h => ?_, fun h => ?_, fun h => ?_, fun h => absurd h (by decide)⟩
 ·first | exact absurd h (by decide) | exact at'.trans hG.2.2.1 | exact (nw' 2 (by decide)).trans (hW2.key (by decide))
 ·first | exact absurd h (by decide) | exact at'.trans hG.2.2.2.1 | exact (nw' 3 (by decide)).trans (hW2.a (by decide))
 ·first | exact absurd h (by decide) | exact at'.trans hG.2.2.2.2 | exact (nw' 4 (by decide)).trans (hW2.b (by decide))
 ·first | exact absurd h (by decide) | exact at' | exact (nw' 1 (by decide)).trans (hW2.nx (by decide))
theorem mc_m3 {σ : World} {p t q n m B S gens NL T : Nat} {c : Nat → Int} {tp : List Nat} {lev : Nat → Nat} {g : GM} {md : Nat → List Mk} {nw : Nat → DeedS} {z : StG} {L : Nat → List Nat} {ow : Nat → Nat → Nat × Nat} {had : Nat → List Nat} {ev : Nat → List (Nat × Nat)} {emp : Nat → Bool} (hn : n < 100000) (hm : m < 100000) (ht : (t : Int) < c 1) (hq : tp[t]? = some q) (hl : levelOf c t = (lev t : Nat)) (hlc : (lev t : Int) < c 0) (hB' : c 11 = (B : Nat)) (hS' : c 10 = (S : Nat)) (hg' : c 12 = (gens : Nat)) (h60 : S ≤ 60) (htT : t < T) (hNL : lev t < NL) (hI : CrI S gens NL T lev m z L ow had ev emp) (hZ : McZ B S NL T lev g z had md nw) {G : Fr} {x gn : Nat} (hthr : g.thr t = [G]) (hG : MinF G (nw t)) (hgi : (nw t).gi < 0) (hf : z.thr t = none) (hhad : had t = (md t).map (·.1) ++ [x]) (hW : Wrote B S (lev t) g x gn G.pc (nw t)) (hpc : G.pc = 3) (h0 : G.r 4 = x) (h1 : G.r 5 = gn) : McN σ p c tp n t B S gens NL T lev m g md nw := by
 obtain ⟨x1, x2, _⟩ := (hI.inv.had t).all x (by rw [hhad]; simp)
 have D := does_m3 (σ := σ) (p := p) (n := n) (fs := []) hn ht hq hl hlc hthr (by simp) hB' hS' hG.1 hpc (by rw [h0]; exact x1) (by rw [h0]; exact x2)
 rw [h0] at D
 have nw' : ∀ j, j ≠ 3 → (g.set (lev t) (oNd B S x 3) (G.r 2)).w (lev t) (oNd B S x j) = g.w (lev t) (oNd B S x j) := fun j hj => by
  rw [set_w, if_neg fun h => by have := h.2; unfold oNd at this; omega]
 have at' : (g.set (lev t) (oNd B S x 3) (G.r 2)).w (lev t) (oNd B S x 3) = (G.r 2) := by rw [set_w, if_pos ⟨rfl, rfl⟩]
 have hW2 := hW
 rw [hpc] at hW2
 refine mc_fld hn hm ht hq hl hlc hB' hS' hg' h60 htT hNL hI hZ hthr hG hgi hf hhad hW hpc (by decide) (by decide) (by decide) (by decide) h0 h1 D ⟨hW2.gen.trans (congrArg genOf (nw' 0 (by decide)).symm), fun h => ?_, fun h => ?_, fun h => ?_, fun h => ?_, fun h => absurd h (by decide)⟩
 ·first | exact absurd h (by decide) | exact at'.trans hG.2.2.1 | exact (nw' 2 (by decide)).trans (hW2.key (by decide))
 ·first | exact absurd h (by decide) | exact at'.trans hG.2.2.2.1 | exact (nw' 3 (by decide)).trans (hW2.a (by decide))
 ·first | exact absurd h (by decide) | exact at'.trans hG.2.2.2.2 | exact (nw' 4 (by decide)).trans (hW2.b (by decide))
 ·first | exact absurd h (by decide) | exact at' | exact (nw' 1 (by decide)).trans (hW2.nx (by decide))
theorem mc_m4 {σ : World} {p t q n m B S gens NL T : Nat} {c : Nat → Int} {tp : List Nat} {lev : Nat → Nat} {g : GM} {md : Nat → List Mk} {nw : Nat → DeedS} {z : StG} {L : Nat → List Nat} {ow : Nat → Nat → Nat × Nat} {had : Nat → List Nat} {ev : Nat → List (Nat × Nat)} {emp : Nat → Bool} (hn : n < 100000) (hm : m < 100000) (ht : (t : Int) < c 1) (hq : tp[t]? = some q) (hl : levelOf c t = (lev t : Nat)) (hlc : (lev t : Int) < c 0) (hB' : c 11 = (B : Nat)) (hS' : c 10 = (S : Nat)) (hg' : c 12 = (gens : Nat)) (h60 : S ≤ 60) (htT : t < T) (hNL : lev t < NL) (hI : CrI S gens NL T lev m z L ow had ev emp) (hZ : McZ B S NL T lev g z had md nw) {G : Fr} {x gn : Nat} (hthr : g.thr t = [G]) (hG : MinF G (nw t)) (hgi : (nw t).gi < 0) (hf : z.thr t = none) (hhad : had t = (md t).map (·.1) ++ [x]) (hW : Wrote B S (lev t) g x gn G.pc (nw t)) (hpc : G.pc = 4) (h0 : G.r 4 = x) (h1 : G.r 5 = gn) : McN σ p c tp n t B S gens NL T lev m g md nw := by
 obtain ⟨x1, x2, _⟩ := (hI.inv.had t).all x (by rw [hhad]; simp)
 have D := does_m4 (σ := σ) (p := p) (n := n) (fs := []) hn ht hq hl hlc hthr (by simp) hB' hS' hG.1 hpc (by rw [h0]; exact x1) (by rw [h0]; exact x2)
 rw [h0] at D
 have nw' : ∀ j, j ≠ 4 → (g.set (lev t) (oNd B S x 4) (G.r 3)).w (lev t) (oNd B S x j) = g.w (lev t) (oNd B S x j) := fun j hj => by
  rw [set_w, if_neg fun h => by have := h.2; unfold oNd at this; omega]
 have at' : (g.set (lev t) (oNd B S x 4) (G.r 3)).w (lev t) (oNd B S x 4) = (G.r 3) := by rw [set_w, if_pos ⟨rfl, rfl⟩]
 have hW2 := hW
 rw [hpc] at hW2
 refine mc_fld hn hm ht hq hl hlc hB' hS' hg' h60 htT hNL hI hZ hthr hG hgi hf hhad hW hpc (by decide) (by decide) (by decide) (by decide) h0 h1 D ⟨hW2.gen.trans (congrArg genOf (nw' 0 (by decide)).symm), fun h => ?_, fun h => ?_, fun h => ?_, fun h => ?_, fun h => absurd h (by decide)⟩
 ·first | exact absurd h (by decide) | exact at'.trans hG.2.2.1 | exact (nw' 2 (by decide)).trans (hW2.key (by decide))
 ·first | exact absurd h (by decide) | exact at'.trans hG.2.2.2.1 | exact (nw' 3 (by decide)).trans (hW2.a (by decide))
 ·first | exact absurd h (by decide) | exact at'.trans hG.2.2.2.2 | exact (nw' 4 (by decide)).trans (hW2.b (by decide))
 ·first | exact absurd h (by decide) | exact at' | exact (nw' 1 (by decide)).trans (hW2.nx (by decide))
theorem mc_m5 {σ : World} {p t q n m B S gens NL T : Nat} {c : Nat → Int} {tp : List Nat} {lev : Nat → Nat} {g : GM} {md : Nat → List Mk} {nw : Nat → DeedS} {z : StG} {L : Nat → List Nat} {ow : Nat → Nat → Nat × Nat} {had : Nat → List Nat} {ev : Nat → List (Nat × Nat)} {emp : Nat → Bool} (hn : n < 100000) (hm : m < 100000) (ht : (t : Int) < c 1) (hq : tp[t]? = some q) (hl : levelOf c t = (lev t : Nat)) (hlc : (lev t : Int) < c 0) (hB' : c 11 = (B : Nat)) (hS' : c 10 = (S : Nat)) (hg' : c 12 = (gens : Nat)) (h60 : S ≤ 60) (htT : t < T) (hNL : lev t < NL) (hI : CrI S gens NL T lev m z L ow had ev emp) (hZ : McZ B S NL T lev g z had md nw) {G : Fr} {x gn : Nat} (hthr : g.thr t = [G]) (hG : MinF G (nw t)) (hgi : (nw t).gi < 0) (hf : z.thr t = none) (hhad : had t = (md t).map (·.1) ++ [x]) (hW : Wrote B S (lev t) g x gn G.pc (nw t)) (hpc : G.pc = 5) (h0 : G.r 4 = x) (h1 : G.r 5 = gn) : McN σ p c tp n t B S gens NL T lev m g md nw := by
 obtain ⟨x1, x2, _⟩ := (hI.inv.had t).all x (by rw [hhad]; simp)
 have D := does_m5 (σ := σ) (p := p) (n := n) (fs := []) hn ht hq hl hlc hthr (by simp) hB' hS' hG.1 hpc (by rw [h0]; exact x1) (by rw [h0]; exact x2)
 rw [h0] at D
 have nw' : ∀ j, j ≠ 1 → (g.set (lev t) (oNd B S x 1) 0).w (lev t) (oNd B S x j) = g.w (lev t) (oNd B S x j) := fun j hj => by
  rw [set_w, if_neg fun h => by have := h.2; unfold oNd at this; omega]
 have at' : (g.set (lev t) (oNd B S x 1) 0).w (lev t) (oNd B S x 1) = 0 := by rw [set_w, if_pos ⟨rfl, rfl⟩]
 have hW2 := hW
 rw [hpc] at hW2
 refine mc_fld hn hm ht hq hl hlc hB' hS' hg' h60 htT hNL hI hZ hthr hG hgi hf hhad hW hpc (by decide) (by decide) (by decide) (by decide) h0 h1 D ⟨hW2.gen.trans (congrArg genOf (nw' 0 (by decide)).symm), fun h => ?_, fun h => ?_, fun h => ?_, fun h => ?_, fun h => absurd h (by decide)⟩
 ·first | exact absurd h (by decide) | exact at'.trans hG.2.2.1 | exact (nw' 2 (by decide)).trans (hW2.key (by decide))
 ·first | exact absurd h (by decide) | exact at'.trans hG.2.2.2.1 | exact (nw' 3 (by decide)).trans (hW2.a (by decide))
 ·first | exact absurd h (by decide) | exact at'.trans hG.2.2.2.2 | exact (nw' 4 (by decide)).trans (hW2.b (by decide))
 ·first | exact absurd h (by decide) | exact at' | exact (nw' 1 (by decide)).trans (hW2.nx (by decide))
/-- Mint writes the Head. -/
theorem mc_m6 {σ : World} {p t q n m B S gens NL T : Nat} {c : Nat → Int} {tp : List Nat} {lev : Nat → Nat} {g : GM} {md : Nat → List Mk} {nw : Nat → DeedS} {z : StG} {L : Nat → List Nat} {ow : Nat → Nat → Nat × Nat} {had : Nat → List Nat} {ev : Nat → List (Nat × Nat)} {emp : Nat → Bool} (hn : n < 100000) (hm : m < 100000) (ht : (t : Int) < c 1) (hq : tp[t]? = some q) (hl : levelOf c t = (lev t : Nat)) (hlc : (lev t : Int) < c 0) (hB' : c 11 = (B : Nat)) (hS' : c 10 = (S : Nat)) (hg' : c 12 = (gens : Nat)) (h60 : S ≤ 60) (htT : t < T) (hNL : lev t < NL) (hI : CrI S gens NL T lev m z L ow had ev emp) (hZ : McZ B S NL T lev g z had md nw) {G : Fr} {x gn : Nat} (hthr : g.thr t = [G]) (hG : MinF G (nw t)) (hgi : (nw t).gi < 0) (hf : z.thr t = none) (hhad : had t = (md t).map (·.1) ++ [x]) (hW : Wrote B S (lev t) g x gn G.pc (nw t)) (hpc : G.pc = 6) (h0 : G.r 4 = x) (h1 : G.r 5 = gn) : McN σ p c tp n t B S gens NL T lev m g md nw := by
 have hxm : x ∈ had t := by rw [hhad]; simp
 obtain ⟨x1, x2, x3⟩ := (hI.inv.had t).all x hxm
 have hnd := (hI.inv.had t).nodup
 rw [hhad] at hnd
 have hne : ∀ y, y ∈ md t → y.1 ≠ x := fun y hy e => (List.nodup_append.1 hnd).2.2 y.1 (List.mem_map.2 ⟨y, hy, rfl⟩) x (by simp) e
 have st4 : (nw t).st % 4 < 4 := Nat.mod_lt _ (by decide)
 have hgm := ((hI.inv.lv (lev t) hNL).hd x x1 x2).2
 rw [hZ.abs.hd (lev t) x hNL x1 x2, ← hW.gen] at hgm
 have D := does_m6 (σ := σ) (p := p) (n := n) (fs := []) hn ht hq hl hlc hthr (by simp) hB' hS' hG.1 hpc (by rw [h0]; exact x1) (by rw [h0]; exact x2) (by rw [h1]; omega) (by rw [hG.2.1]; omega)
 rw [h0, h1, hG.2.1] at D
 obtain ⟨v, hv⟩ : ∃ v, v = mkHead gn ((nw t).st % 4) := ⟨_, rfl⟩
 have hgv : genOf v = gn := by rw [hv]; exact gen_head (by omega)
 have hvl : v < 17179869184 := by rw [hv]; exact head_lt _ _
 rw [← hv] at D
 have hw : ∀ l' o, ¬ (l' = lev t ∧ oNd B S x 0 ≤ o ∧ o < oNd B S x 0 + 5) → (g.set (lev t) (oNd B S x 0) v).w l' o = g.w l' o := fun l' o h => by
  rw [set_w, if_neg fun e => h ⟨e.1, by have := e.2; unfold oNd at this ⊢; omega⟩]
 have hI2 := hI.head hNL (x := x) (v := v) (by rw [x3]) hvl (by rw [hgv, hW.gen, hZ.abs.hd (lev t) x hNL x1 x2])
 refine ⟨_, md, m, D, Nat.le_succ _, ⟨_, L, ow, had, ev, emp, hI2, mint_keeps hI hZ htT hNL hxm hw rfl (fun u hu => put1_ne hu) (fun _ _ => rfl) rfl (hZ.abs.upd (l := lev t) (fun l' e o => ?_) (fun _ _ _ => rfl) ?_ (fun i a b => ?_) (fun i a b => ?_) fun i a b => hZ.abs.held _ i hNL a b) ?_ (fun _ _ => rfl) fun y hy => .inl ⟨hy, hne y hy⟩⟩, fun u hu => put1_ne hu, ?_, .inl ⟨rfl, fun e => ?_⟩, .inr ?_⟩
 ·show (g.set (lev t) (oNd B S x 0) v).w l' o = _
  rw [set_w, if_neg fun h => e h.1]
 ·show _ = (g.set (lev t) (oNd B S x 0) v).w _ 0
  rw [set_w, if_neg fun h => by have := h.2; unfold oNd at this; omega]; exact hZ.abs.top _ hNL
 ·show _ = (g.set (lev t) (oNd B S x 0) v).w _ _
  rw [set_w, if_neg fun h => by have := h.2; unfold oNd oLk at this; omega]; exact hZ.abs.lk _ i hNL a b
 ·show put1 (z.lv (lev t)).hd x v i = (g.set (lev t) (oNd B S x 0) v).w _ _
  rw [set_w]
  by_cases e : i = x
  ·subst e; rw [put1_same, if_pos ⟨rfl, rfl⟩]
  ·rw [put1_ne e, if_neg fun h => by have := h.2; unfold oNd at this; omega]; exact hZ.abs.hd _ i hNL a b
 ·refine .inr (.inr (.inr (.inr ⟨_, x, gn, put1_same _ _ _, ⟨hG.1, hG.2.1, hG.2.2.1, hG.2.2.2.1, hG.2.2.2.2⟩, hgi, .inr ⟨(by decide : 2 ≤ 6 + 1), (by decide : 6 + 1 ≤ 7), h0, h1⟩, hf, hhad, ?_⟩)))
  have nw' : ∀ j, j ≠ 0 → (g.set (lev t) (oNd B S x 0) v).w (lev t) (oNd B S x j) = g.w (lev t) (oNd B S x j) := fun j hj => by
   rw [set_w, if_neg fun h => by have := h.2; unfold oNd at this; omega]
  have at' : (g.set (lev t) (oNd B S x 0) v).w (lev t) (oNd B S x 0) = v := by rw [set_w, if_pos ⟨rfl, rfl⟩]
  have hW2 := hW
  rw [hpc] at hW2
  show Wrote B S (lev t) _ x gn (6 + 1) (nw t)
  exact ⟨by show gn = genOf ((g.set (lev t) (oNd B S x 0) v).w (lev t) (oNd B S x 0)); rw [at', hgv], fun _ => (nw' 2 (by decide)).trans (hW2.key (by decide)), fun _ => (nw' 3 (by decide)).trans (hW2.a (by decide)), fun _ => (nw' 4 (by decide)).trans (hW2.b (by decide)), fun _ => (nw' 1 (by decide)).trans (hW2.nx (by decide)), fun _ => at'.trans hv⟩
 ·show (put1 g.thr t _ t).length ≤ 2
  rw [put1_same]; simp
 ·have e' : put1 g.thr t ([] ++ [_]) t = [] := e
  rw [put1_same] at e'; cases e'
 ·unfold potM
  rw [hthr]
  show (match put1 g.thr t ([G.goto 7] : List Fr) t with | [] => _ | [G] => _ | [_, F] => _ | _ => _) + 1 ≤ if G.fn = 30 then (if G.pc = 0 then 12 else 8 - G.pc) else _
  rw [put1_same, if_pos hG.1, if_neg (by omega), hpc]
  show (if G.fn = 30 then (if 7 = 0 then 12 else 8 - 7) else _) + 1 ≤ 8 - 6
  rw [if_pos hG.1]
  simp
/-- Mint tells the slot. -/
theorem mc_m7 {σ : World} {p t q n m B S gens NL T : Nat} {c : Nat → Int} {tp : List Nat} {lev : Nat → Nat} {g : GM} {md : Nat → List Mk} {nw : Nat → DeedS} {z : StG} {L : Nat → List Nat} {ow : Nat → Nat → Nat × Nat} {had : Nat → List Nat} {ev : Nat → List (Nat × Nat)} {emp : Nat → Bool} (hn : n < 100000) (hm : m < 100000) (ht : (t : Int) < c 1) (hq : tp[t]? = some q) (hl : levelOf c t = (lev t : Nat)) (hlc : (lev t : Int) < c 0) (hB' : c 11 = (B : Nat)) (hS' : c 10 = (S : Nat)) (hg' : c 12 = (gens : Nat)) (h60 : S ≤ 60) (htT : t < T) (hNL : lev t < NL) (hI : CrI S gens NL T lev m z L ow had ev emp) (hZ : McZ B S NL T lev g z had md nw) {G : Fr} {x gn : Nat} (hthr : g.thr t = [G]) (hG : MinF G (nw t)) (hgi : (nw t).gi < 0) (hf : z.thr t = none) (hhad : had t = (md t).map (·.1) ++ [x]) (hW : Wrote B S (lev t) g x gn G.pc (nw t)) (hpc : G.pc = 7) (h0 : G.r 4 = x) (h1 : G.r 5 = gn) : McN σ p c tp n t B S gens NL T lev m g md nw := by
 have hxm : x ∈ had t := by rw [hhad]; simp
 obtain ⟨x1, x2, x3⟩ := (hI.inv.had t).all x hxm
 have hnd := (hI.inv.had t).nodup
 rw [hhad] at hnd
 have hne : ∀ y, y ∈ md t → y.1 ≠ x := fun y hy e => (List.nodup_append.1 hnd).2.2 y.1 (List.mem_map.2 ⟨y, hy, rfl⟩) x (by simp) e
 have D := does_m7 (σ := σ) (p := p) (n := n) (fs := []) hn ht hq hl hlc hthr (by simp) hB' hS' hG.1 hpc
 rw [h0, h1] at D
 rw [hpc] at hW
 have hgn : gn < 4294967296 := by rw [hW.gen]; exact cutN_lt _ _ _
 refine ⟨_, put1 md t (md t ++ [(x, mkHead gn ((nw t).st % 4), (nw t).key, (nw t).a, (nw t).b)]), m, D, Nat.le_succ _, ⟨z, L, ow, had, ev, emp, hI, mint_keeps hI hZ htT hNL hxm (fun _ _ _ => rfl) rfl (fun u hu => put1_ne hu) (fun u hu => put1_ne hu) rfl ⟨hZ.abs.top, hZ.abs.lk, hZ.abs.hd, hZ.abs.held⟩ ?_ (fun u hu => put1_ne hu) fun y hy => ?_⟩, fun u hu => put1_ne hu, ?_, .inr ⟨put1_same _ _ _, hgi, x, gn, ?_, ?_, hgn, x1, x2, rfl, fun y hy e u hu e2 => ?_⟩, .inl (put1_same _ _ _)⟩
 ·refine .inl ⟨put1_same _ _ _, hf, ?_⟩
  rw [put1_same, hhad, List.map_append]
  rfl
 ·rw [put1_same] at hy
  rcases List.mem_append.1 hy with hy | hy
  ·exact .inl ⟨hy, hne y hy⟩
  ·obtain rfl := List.mem_singleton.1 hy
   exact .inr (isNd_of (hW.hd (by decide)) (hW.nx (by decide)) (hW.key (by decide)) (hW.a (by decide)) (hW.b (by decide)))
 ·show (put1 g.thr t _ t).length ≤ 2
  rw [put1_same]; simp
 ·show put1 g.told t _ t 0 = x
  rw [put1_same]; rfl
 ·show put1 g.told t _ t 1 = gn
  rw [put1_same]; rfl
 ·by_cases et : y = t
  ·subst et; exact hne u hu e2
  ·have h3 := ((hI.inv.had y).all u.1 ((hZ.thr y hy).sub u hu)).2.2
   rw [e, e2, x3] at h3
   exact et (congrArg Prod.snd h3).symm
/-- A bit of any thread that is within something. -/
theorem mc_next {σ : World} {p t q n m B S gens NL T : Nat} {c : Nat → Int} {tp : List Nat} {lev : Nat → Nat} {g : GM} {md : Nat → List Mk} {nw : Nat → DeedS} (hn : n < 100000) (hm : m < 100000) (ht : (t : Int) < c 1) (hq : tp[t]? = some q) (hl : levelOf c t = (lev t : Nat)) (hlc : (lev t : Int) < c 0) (hB' : c 11 = (B : Nat)) (hS' : c 10 = (S : Nat)) (hg' : c 12 = (gens : Nat)) (h60 : S ≤ 60) (htT : t < T) (hNL : lev t < NL) (h : McI B S gens NL T lev m g md nw) (hthr : g.thr t ≠ []) : McN σ p c tp n t B S gens NL T lev m g md nw := by
 obtain ⟨z, L, ow, had, ev, emp, hI, hZ⟩ := h.ex
 rcases hZ.thr t htT with ⟨h1, _⟩ | ⟨F, h1, h2, h3, h4, h5⟩ | ⟨G, h1, h2, h3, h4 | ⟨h4, h4b⟩, h5, h6⟩ | ⟨G, F, h1, h2, h3, h4, h5, h6, h7⟩ | ⟨G, x, gn, h1, h2, h3, ⟨h4, h4b, h4c⟩ | ⟨k1, k2, k3, k4⟩, h5, h6, h7⟩
 ·exact absurd h1 hthr
 ·exact mc_give hn hm ht hq hl hlc hB' hS' hg' h60 htT hNL hI hZ h1 h2 h3 h4 h5
 ·exact mc_m0 hn hm ht hq hl hlc hB' hS' hg' h60 htT hNL hI hZ h1 h2 h3 h4 h5 h6
 ·exact mc_no hn hm ht hq hl hlc hB' hS' hg' h60 htT hNL hI hZ h1 h2 h4 h4b h5 h6
 ·exact mc_take hn hm ht hq hl hlc hB' hS' hg' h60 htT hNL hI hZ h1 h2 h3 h4 h5 h6 h7
 ·exact mc_m1 hn hm ht hq hl hlc hB' hS' hg' h60 htT hNL hI hZ h1 h2 h3 h5 h6 h7 h4 h4b h4c
 ·rcases (show G.pc = 2 ∨ G.pc = 3 ∨ G.pc = 4 ∨ G.pc = 5 ∨ G.pc = 6 ∨ G.pc = 7 by omega) with e | e | e | e | e | e
  ·exact mc_m2 hn hm ht hq hl hlc hB' hS' hg' h60 htT hNL hI hZ h1 h2 h3 h5 h6 h7 e k3 k4
  ·exact mc_m3 hn hm ht hq hl hlc hB' hS' hg' h60 htT hNL hI hZ h1 h2 h3 h5 h6 h7 e k3 k4
  ·exact mc_m4 hn hm ht hq hl hlc hB' hS' hg' h60 htT hNL hI hZ h1 h2 h3 h5 h6 h7 e k3 k4
  ·exact mc_m5 hn hm ht hq hl hlc hB' hS' hg' h60 htT hNL hI hZ h1 h2 h3 h5 h6 h7 e k3 k4
  ·exact mc_m6 hn hm ht hq hl hlc hB' hS' hg' h60 htT hNL hI hZ h1 h2 h3 h5 h6 h7 e k3 k4
  ·exact mc_m7 hn hm ht hq hl hlc hB' hS' hg' h60 htT hNL hI hZ h1 h2 h3 h5 h6 h7 e k3 k4
end
end Go.Proofs.YtjeeldacnllipaaGreat
