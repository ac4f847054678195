/- Law 25, MintAlone: what Mint tells; the laws of an error, of too many; what always holds, with the machine. -/
import Derived.Test.YtjeeldacnllipaaGreatMgB
import Derived.Test.YtjeeldacnllipaaGreatWalk
import Derived.Test.YtjeeldacnllipaaGreatWords
import Derived.Test.YtjeeldacnllipaaGreatConfLevel
import Derived.Test.YtjeeldacnllipaaGreatMgA
import Derived.Test.YtjeeldacnllipaaGreatRunC
import Derived.Test.YtjeeldacnllipaaGreatMachE
import Derived.Test.YtjeeldacnllipaaGreatPlanA
namespace Go.Proofs.YtjeeldacnllipaaGreat
section
open Go.RowKit
set_option linter.unusedVariables false
set_option linter.unusedSimpArgs false
set_option linter.unnecessarySimpa false
/-- From state to state, so many steps, thread t within more than d frames ahead of each. -/
def Steps (D : Nat → GM → GM → Prop) (t d : Nat) : Nat → Nat → GM → GM → Prop
  | _, 0, g, g' => g' = g
  | n, k + 1, g, g' => ∃ g1, D n g g1 ∧ d < (g.thr t).length ∧ (g.thr t).length < 1000 ∧ Steps D t d (n + 1) k g1 g'
section
variable {D : Nat → GM → GM → Prop} {t d n a b k : Nat} {g g1 g2 : GM}
theorem Steps.cons (hD : D n g g1) (h1 : d < (g.thr t).length) (h2 : (g.thr t).length < 1000) (h : Steps D t d (n + 1) k g1 g2) : Steps D t d n (k + 1) g g2 := ⟨g1, hD, h1, h2, h⟩
theorem Steps.trans : ∀ {a n : Nat} {g : GM}, Steps D t d n a g g1 → Steps D t d (n + a) b g1 g2 → Steps D t d n (a + b) g g2
  | 0, n, g, h, h2 => by
    have e : g1 = g := h
    subst e
    rw [Nat.zero_add]; exact h2
  | a + 1, n, g, h, h2 => by
    obtain ⟨g', hD, h3, h4, h5⟩ := h
    rw [show a + 1 + b = a + b + 1 by omega]
    exact ⟨g', hD, h3, h4, h5.trans (by rw [show n + 1 + a = n + (a + 1) by omega]; exact h2)⟩
end
/-- Alone tells how many steps there were. -/
theorem Steps.alone {do_ : FuncId} {σ w : World} {K M : Mm} {lab : Nat → Nat} {p t q n l k most fn : Nat} {c : Nat → Int} {tp : List Nat} {s : MachS} {g g2 : GM} {us : List Nat} {rv : Value} (hS : Steps (fun n g g2 => DoesTo do_ σ p t c tp n l g g2) t 0 n k (g.top t [] ⟨fn, 0, fun i => us.getD i 0⟩) g2) (h : Has σ M w) (hM : Mach M lab p s) (hB : Base K M lab) (hA : AbsM c tp n s g) (hn : n < 90000) (ht : (t : Int) < c 1) (hq : tp[t]? = some q) (hl : levelOf c t = (l : Nat)) (hi : g.thr t = []) (hr : Rd M 1 rv us.length (u64s (us.map fun u : Nat => (u : Int)))) (hu : us.length ≤ 16) (hd : g2.thr t = []) (hk : 0 < k) (hkm : k ≤ most) (hm : most < 1000) (hent : entB Tryz.prog do_ = true) :
    Calls Tryz.prog 14 #[.pointer (some ⟨p, 0, none⟩), .int .i64 (t : Nat), .func (.func do_) #[] #[], .int .i64 (most : Nat), .int .i64 (fn : Nat), rv] w fun r w' => r = .returned (.int .i64 (k : Nat)) ∧ ∃ M' lab' s', Has σ M' w' ∧ Mach M' lab' p s' ∧ Base K M' lab' ∧ AbsM c tp (n + k) s' g2 := by
  have hfr : (s.thr t).frames = [] := by rw [hA.thr.fr t ht, hi]; rfl
  have hB0 := hA.begun ht fn us
  rw [hi] at hB0
  refine (alone_rel (dv := .func (.func do_) #[] #[]) h hM hB (by rw [hA.ttp]; exact hq) (us := us.map fun u : Nat => (u : Int)) (by rw [List.length_map]; exact hr) (by rw [List.length_map]; exact hu) (by rw [hfr]; simp) fn (P := fun i s => ∃ gi, AbsM c tp (n + i) s gi ∧ Steps (fun n g g2 => DoesTo do_ σ p t c tp n l g g2) t 0 (n + i) (k - i) gi g2) ⟨_, hB0, hS⟩ hk hkm (by omega) ?_).mono fun r w' ⟨hr, M', lab', s', h', hM', hB', gi, hA', hS'⟩ => ?_
  · refine ⟨fun i hi M lab s w hw hM hB ⟨gi, hA, hS⟩ => ?_, fun i hi s ⟨gi, hA, _⟩ => by rw [hA.ttp]; exact hq, fun i h0 hi s ⟨gi, hA, hS⟩ => ?_, fun s ⟨gi, hA, hS⟩ => ?_⟩
    · obtain ⟨j, hj⟩ : ∃ j, k - i = j + 1 := ⟨k - i - 1, by omega⟩
      rw [hj] at hS
      obtain ⟨g1, hD, h1, h2, hS⟩ := hS
      have hl1 : (g1.thr t).length < 1000 := by
        rcases j with _ | j
        · have e : g2 = g1 := hS
          rw [← e, hd]; simp
        · obtain ⟨_, _, _, h3, _⟩ := hS; exact h3
      refine (step_does hw hM hB hA (by omega) ht hq hl (fun e => by rw [e] at h1; simp at h1) (by omega) (by omega) hent hD).mono fun r w' ⟨M', lab', s', hr, h', hM', hB', hA'⟩ => ?_
      exact ⟨M', lab', _, s', hr, h', hM', hB', g1, hA', by rw [show k - (i + 1) = j by omega]; exact hS⟩
    · obtain ⟨j, hj⟩ : ∃ j, k - i = j + 1 := ⟨k - i - 1, by omega⟩
      rw [hj] at hS
      obtain ⟨g1, hD, h1, h2, hS⟩ := hS
      rw [hfr, hA.thr.fr t ht, List.length_map]; exact h1
    · rw [Nat.sub_self] at hS
      have e : g2 = gi := hS
      rw [hA.thr.fr t ht, ← e, hd]; simp
  · rw [Nat.sub_self] at hS'
    have e : g2 = gi := hS'
    subst e
    exact ⟨hr, M', lab', s', h', hM', hB', hA'⟩
section
variable {g : GM} {t l o v i : Nat} {fs fs' : List Fr} {F F' : Fr} {us : List Nat}
theorem gr_same (F : Fr) (i v k : Nat) : ((F.reg i v).goto k).r i = v := put1_same _ _ _
theorem gr_ne {F : Fr} {i v k j : Nat} (h : j ≠ i) : ((F.reg i v).goto k).r j = F.r j := put1_ne h
theorem top_top : (g.top t fs F).top t fs' F' = g.top t fs' F' := by unfold GM.top; simp only [put1_put1]
theorem top_back : (g.top t fs F).back t fs' us = g.back t fs' us := by unfold GM.top GM.back; simp only [put1_put1]
theorem top_set : (g.top t fs F).set l o v = (g.set l o v).top t fs F := rfl
theorem top_hold : (g.top t fs F).hold l i = (g.hold l i).top t fs F := rfl
theorem top_drop : (g.top t fs F).drop l i = (g.drop l i).top t fs F := rfl
theorem top_thr : (g.top t fs F).thr t = fs ++ [F] := put1_same _ _ _
theorem back_thr' : (g.back t fs us).thr t = fs := put1_same _ _ _
theorem set_w (l' o' : Nat) : (g.set l o v).w l' o' = if l' = l ∧ o' = o then v else g.w l' o' := by
  show put1 g.w l (put1 (g.w l) o v) l' o' = _
  by_cases e : l' = l
  · subst e
    rw [put1_same]
    by_cases e2 : o' = o
    · subst e2; rw [put1_same, if_pos ⟨rfl, rfl⟩]
    · rw [put1_ne e2, if_neg (fun h => e2 h.2)]
  · rw [put1_ne e, if_neg (fun h => e h.1)]
theorem hold_held (l' i' : Nat) : (g.hold l i).held l' i' = if l' = l ∧ i' = i then true else g.held l' i' := by
  show put1 g.held l (put1 (g.held l) i true) l' i' = _
  by_cases e : l' = l
  · subst e
    rw [put1_same]
    by_cases e2 : i' = i
    · subst e2; rw [put1_same, if_pos ⟨rfl, rfl⟩]
    · rw [put1_ne e2, if_neg (fun h => e2 h.2)]
  · rw [put1_ne e, if_neg (fun h => e h.1)]
theorem drop_held (l' i' : Nat) : (g.drop l i).held l' i' = if l' = l ∧ i' = i then false else g.held l' i' := by
  show put1 g.held l (put1 (g.held l) i false) l' i' = _
  by_cases e : l' = l
  · subst e
    rw [put1_same]
    by_cases e2 : i' = i
    · subst e2; rw [put1_same, if_pos ⟨rfl, rfl⟩]
    · rw [put1_ne e2, if_neg (fun h => e2 h.2)]
  · rw [put1_ne e, if_neg (fun h => e h.1)]
end
/-- A level at rest: its free list, its heads. -/
structure LvR (S B m : Nat) (g : GM) (l : Nat) (L : List Nat) : Prop where
  chain : chainP (fun i => g.w l (oLk B i)) (slOf (g.w l 0)) L
  nodup : L.Nodup
  rng : ∀ x ∈ L, 1 ≤ x ∧ x ≤ S ∧ g.held l x = false
  top : g.w l 0 < 18446744073709551616
  cntN : cnt (g.w l 0) ≤ m
  lk : ∀ i, 1 ≤ i → i ≤ S → g.w l (oLk B i) ≤ S
  hd : ∀ i, 1 ≤ i → i ≤ S → g.w l (oNd B S i 0) < 17179869184 ∧ genOf (g.w l (oNd B S i 0)) ≤ m
/-- What Take makes; what Give makes. -/
def takeG (B S : Nat) (g : GM) (t l : Nat) (fs : List Fr) (x : Nat) : GM := ((g.set l 0 (mkTop (g.w l (oLk B x)) (cnt (g.w l 0) + 1))).hold l x).back t fs [x, genOf (g.w l (oNd B S x 0))]
def goneG (B S : Nat) (g : GM) (l x : Nat) : GM := ((((((g.set l (oNd B S x 0) (mkHead (genOf (g.w l (oNd B S x 0))) 3)).set l (oNd B S x 3) 0).set l (oNd B S x 4) 0).set l (oNd B S x 2) 0).set l (oNd B S x 1) 0).set l (oNd B S x 0) (mkHead (genOf (g.w l (oNd B S x 0)) + 1) 0)).drop l x
def giveG (B S gens : Nat) (g : GM) (t l : Nat) (fs : List Fr) (x : Nat) : GM := if genOf (g.w l (oNd B S x 0)) + 1 < gens then (((goneG B S g l x).set l (oLk B x) (slOf (g.w l 0))).set l 0 (mkTop x (cnt (g.w l 0) + 1))).back t fs [] else (goneG B S g l x).back t fs []
section
variable {D : Nat → GM → GM → Prop} {σ : World} {p t q l n B S m d gens : Nat} {c : Nat → Int} {tp : List Nat} {g : GM} {fs : List Fr} {F : Fr} {L : List Nat} {x : Nat}
theorem nd0_lt {g : GM} (I : LvR S B m g l L) (x1 : 1 ≤ x) (x2 : x ≤ S) : g.w l (oNd B S x 0) < 18446744073709551616 := Nat.lt_trans (I.hd x x1 x2).1 (by decide)
/-- Take alone, of an empty list. -/
theorem steps_take_no (hD : ∀ (n : Nat) (g g2 : GM) (fs : List Fr) (F : Fr), n < 100000 → (F.fn = 1 ∨ F.fn = 2) → g.thr t = fs ++ [F] → fs.length < 100000 → DoesTo 105 σ p t c tp n l g g2 → D n g g2) (hn : n < 90000) (ht : (t : Int) < c 1) (hq : tp[t]? = some q) (hl : levelOf c t = (l : Nat)) (hlc : (l : Int) < c 0) (hthr : g.thr t = fs ++ [F]) (hfs : fs.length < 900) (hds : d ≤ fs.length) (hB' : c 11 = (B : Nat)) (hS' : c 10 = (S : Nat)) (hS60 : S ≤ 60) (hm : m < 1000000) (I : LvR S B m g l L) (h1 : F.fn = 1) (hp : F.pc = 0) (hr : F.r 1 < 18446744073709551616) (hL : L = []) : Steps D t d n 2 g (g.back t fs [0, 0]) := by
  have hs : slOf (g.w l 0) = 0 := by have := I.chain; rw [hL] at this; exact this
  have D0 := hD n g _ fs F (by omega) (.inl h1) hthr (by omega) (does_t0 (by omega) ht hq hl hlc hthr (by omega) hB' hS' h1 hp hr)
  have D1 := hD (n + 1) _ _ fs ((F.reg 1 (g.w l 0)).goto 1) (by omega) (.inl h1) top_thr (by omega) (does_t1a (B := B) (S := S) (n := n + 1) (g := g.top t fs ((F.reg 1 (g.w l 0)).goto 1)) (F := (F.reg 1 (g.w l 0)).goto 1) (by omega) ht hq hl hlc top_thr (by omega) hB' hS' h1 rfl I.top hs)
  rw [top_back] at D1
  exact .cons D0 (by rw [hthr]; simp; omega) (by rw [hthr]; simp; omega) (.cons D1 (by rw [top_thr]; simp; omega) (by rw [top_thr]; simp; omega) rfl)
/-- Take alone, of a list that isn't empty. -/
theorem steps_take (hD : ∀ (n : Nat) (g g2 : GM) (fs : List Fr) (F : Fr), n < 100000 → (F.fn = 1 ∨ F.fn = 2) → g.thr t = fs ++ [F] → fs.length < 100000 → DoesTo 105 σ p t c tp n l g g2 → D n g g2) (hn : n < 90000) (ht : (t : Int) < c 1) (hq : tp[t]? = some q) (hl : levelOf c t = (l : Nat)) (hlc : (l : Int) < c 0) (hthr : g.thr t = fs ++ [F]) (hfs : fs.length < 900) (hds : d ≤ fs.length) (hB' : c 11 = (B : Nat)) (hS' : c 10 = (S : Nat)) (hS60 : S ≤ 60) (hm : m < 1000000) (I : LvR S B m g l L) (h1 : F.fn = 1) (hp : F.pc = 0) (hr : F.r 1 < 18446744073709551616) {r : List Nat} (hL : L = x :: r) : Steps D t d n 4 g (takeG B S g t l fs x) := by
  subst hL
  obtain ⟨hs, hx1, hc2⟩ := I.chain
  obtain ⟨_, hx2, hh⟩ := I.rng x List.mem_cons_self
  have hlk : g.w l (oLk B x) ≤ S := I.lk x hx1 hx2
  have D0 := hD n g _ fs F (by omega) (.inl h1) hthr (by omega) (does_t0 (by omega) ht hq hl hlc hthr (by omega) hB' hS' h1 hp hr)
  obtain ⟨F1, hF1⟩ : ∃ F1, F1 = (F.reg 1 (g.w l 0)).goto 1 := ⟨_, rfl⟩
  rw [← hF1] at D0
  have f1 : F1.fn = 1 ∧ F1.pc = 1 ∧ F1.r 1 = g.w l 0 := by rw [hF1]; exact ⟨h1, rfl, gr_same _ _ _ _⟩
  have D1 := hD (n + 1) _ _ fs _ (by omega) (.inl f1.1) top_thr (by omega) (does_t1b (B := B) (S := S) (n := n + 1) (g := g.top t fs F1) (F := F1) (by omega) ht hq hl hlc top_thr (by omega) hB' hS' f1.1 f1.2.1 (by rw [f1.2.2]; exact I.top) (by rw [f1.2.2, hs]; omega) (by rw [f1.2.2, hs]; exact hx2))
  rw [top_top, f1.2.2, hs] at D1
  obtain ⟨F2, hF2⟩ : ∃ F2, F2 = (F1.reg 2 ((g.top t fs F1).w l (oLk B x))).goto 2 := ⟨_, rfl⟩
  rw [← hF2] at D1
  have f2 : F2.fn = 1 ∧ F2.pc = 2 ∧ F2.r 1 = g.w l 0 ∧ F2.r 2 = g.w l (oLk B x) := by
    rw [hF2]; exact ⟨f1.1, rfl, (gr_ne (by decide)).trans f1.2.2, gr_same _ _ _ _⟩
  have D2 := hD (n + 2) _ _ fs _ (by omega) (.inl f2.1) top_thr (by omega) (does_t2a (B := B) (S := S) (n := n + 2) (g := g.top t fs F2) (F := F2) (by omega) ht hq hl hlc top_thr (by omega) hB' hS' f2.1 f2.2.1 (by rw [f2.2.2.1]; exact I.top) (by rw [f2.2.2.1, hs]; omega) (by rw [f2.2.2.1, hs]; exact hx2) (by rw [f2.2.2.2]; omega) f2.2.2.1.symm (by rw [f2.2.2.1, hs]; exact hh))
  rw [top_set, top_hold, top_top, f2.2.2.1, f2.2.2.2, hs] at D2
  obtain ⟨F3, hF3⟩ : ∃ F3, F3 = F2.goto 3 := ⟨_, rfl⟩
  rw [← hF3] at D2
  have f3 : F3.fn = 1 ∧ F3.pc = 3 ∧ F3.r 1 = g.w l 0 := by rw [hF3]; exact ⟨f2.1, rfl, f2.2.2.1⟩
  obtain ⟨g3, hg3⟩ : ∃ g3, g3 = (g.set l 0 (mkTop (g.w l (oLk B x)) (cnt (g.w l 0) + 1))).hold l x := ⟨_, rfl⟩
  rw [← hg3] at D2
  have hw3 : g3.w l (oNd B S x 0) = g.w l (oNd B S x 0) := by
    rw [hg3]
    show (g.set l 0 _).w l _ = _
    rw [set_w, if_neg (fun h => by have := h.2; unfold oNd at this; omega)]
  have D3 := hD (n + 3) _ _ fs _ (by omega) (.inl f3.1) top_thr (by omega) (does_t3 (B := B) (S := S) (n := n + 3) (g := g3.top t fs F3) (F := F3) (by omega) ht hq hl hlc top_thr (by omega) hB' hS' f3.1 f3.2.1 (by rw [f3.2.2]; exact I.top) (by rw [f3.2.2, hs]; omega) (by rw [f3.2.2, hs]; exact hx2) (by rw [f3.2.2, hs]; show g3.w l _ < _; rw [hw3]; exact nd0_lt I hx1 hx2))
  have e3 : (g3.top t fs F3).w l (oNd B S x 0) = g.w l (oNd B S x 0) := hw3
  rw [top_back, f3.2.2, hs, e3] at D3
  have fin : takeG B S g t l fs x = g3.back t fs [x, genOf (g.w l (oNd B S x 0))] := by rw [hg3]; rfl
  rw [fin]
  exact .cons D0 (by rw [hthr]; simp; omega) (by rw [hthr]; simp; omega) (.cons D1 (by rw [top_thr]; simp; omega) (by rw [top_thr]; simp; omega) (.cons D2 (by rw [top_thr]; simp; omega) (by rw [top_thr]; simp; omega) (.cons D3 (by rw [top_thr]; simp; omega) (by rw [top_thr]; simp; omega) rfl)))
end
end
section
open Go.RowKit
set_option linter.unusedVariables false
set_option linter.unusedSimpArgs false
set_option linter.unnecessarySimpa false
section
variable {D : Nat → GM → GM → Prop} {σ : World} {p t q l n B S m d gens : Nat} {c : Nat → Int} {tp : List Nat} {g : GM} {fs : List Fr} {F : Fr} {L : List Nat} {x : Nat}
/-- Words that Give doesn't touch. -/
theorem gone_w (l' o : Nat) (h : ¬ (l' = l ∧ oNd B S x 0 ≤ o ∧ o < oNd B S x 0 + 5)) : (goneG B S g l x).w l' o = g.w l' o := by
  show ((((((g.set l _ _).set l _ 0).set l _ 0).set l _ 0).set l _ 0).set l _ _).w l' o = _
  unfold oNd at h ⊢
  rw [set_w, if_neg (by omega), set_w, if_neg (by omega), set_w, if_neg (by omega), set_w, if_neg (by omega), set_w, if_neg (by omega), set_w, if_neg (by omega)]
theorem gone_hd : (goneG B S g l x).w l (oNd B S x 0) = mkHead (genOf (g.w l (oNd B S x 0)) + 1) 0 := by
  show (GM.set _ l _ _).w l _ = _
  rw [set_w, if_pos ⟨rfl, rfl⟩]
theorem gone_fld {j : Nat} (h1 : 1 ≤ j) (h2 : j < 5) : (goneG B S g l x).w l (oNd B S x j) = 0 := by
  show ((((((g.set l _ _).set l _ 0).set l _ 0).set l _ 0).set l _ 0).set l _ _).w l _ = _
  rw [set_w, if_neg (fun h => by have := h.2; unfold oNd at this; omega)]
  rcases (show j = 1 ∨ j = 2 ∨ j = 3 ∨ j = 4 by omega) with e | e | e | e
  · subst e; rw [set_w, if_pos ⟨rfl, rfl⟩]
  · subst e; rw [set_w, if_neg (fun h => by have := h.2; unfold oNd at this; omega), set_w, if_pos ⟨rfl, rfl⟩]
  · subst e; rw [set_w, if_neg (fun h => by have := h.2; unfold oNd at this; omega), set_w, if_neg (fun h => by have := h.2; unfold oNd at this; omega), set_w, if_neg (fun h => by have := h.2; unfold oNd at this; omega), set_w, if_pos ⟨rfl, rfl⟩]
  · subst e; rw [set_w, if_neg (fun h => by have := h.2; unfold oNd at this; omega), set_w, if_neg (fun h => by have := h.2; unfold oNd at this; omega), set_w, if_pos ⟨rfl, rfl⟩]
theorem steps_give (hD : ∀ (n : Nat) (g g2 : GM) (fs : List Fr) (F : Fr), n < 100000 → (F.fn = 1 ∨ F.fn = 2) → g.thr t = fs ++ [F] → fs.length < 100000 → DoesTo 105 σ p t c tp n l g g2 → D n g g2) (hn : n < 90000) (ht : (t : Int) < c 1) (hq : tp[t]? = some q) (hl : levelOf c t = (l : Nat)) (hlc : (l : Int) < c 0) (hthr : g.thr t = fs ++ [F]) (hfs : fs.length < 900) (hds : d ≤ fs.length) (hB' : c 11 = (B : Nat)) (hS' : c 10 = (S : Nat)) (hS60 : S ≤ 60) (hm : m < 1000000) (I : LvR S B m g l L) (hg : c 12 = (gens : Nat)) (h2 : F.fn = 2) (hp : F.pc = 0) (h0 : F.r 0 = x) (x1 : 1 ≤ x) (x2 : x ≤ S) (hh : g.held l x = true) : ∃ k, k ≤ 10 ∧ 0 < k ∧ Steps D t d n k g (giveG B S gens g t l fs x) := by
  have hd0 := nd0_lt I x1 x2
  have hgm := (I.hd x x1 x2).2
  have D0 := hD n g _ fs F (by omega) (.inr h2) hthr (by omega) (does_g0 (by omega) ht hq hl hlc hthr (by omega) hB' hS' h2 hp (by rw [h0]; exact x1) (by rw [h0]; exact x2) (by rw [h0]; exact hd0))
  rw [h0] at D0
  obtain ⟨F1, hF1⟩ : ∃ G, G = (F.reg 2 (genOf (g.w l (oNd B S x 0)) + 1)).goto 1 := ⟨_, rfl⟩
  rw [← hF1] at D0
  have f1 : F1.fn = 2 ∧ F1.pc = 1 ∧ F1.r 0 = x ∧ F1.r 2 = genOf (g.w l (oNd B S x 0)) + 1 := by rw [hF1]; exact ⟨h2, rfl, (gr_ne (by decide)).trans h0, gr_same _ _ _ _⟩
  have D1 := hD (n + 1) _ _ fs F1 (by omega) (.inr f1.1) top_thr (by omega) (does_g1 (B := B) (S := S) (n := n + 1) (g := g.top t fs F1) (F := F1) (by omega) ht hq hl hlc top_thr (by omega) hB' hS' f1.1 f1.2.1 (by rw [f1.2.2.1]; exact x1) (by rw [f1.2.2.1]; exact x2) (by rw [f1.2.2.2]; omega) (by rw [f1.2.2.2]; omega))
  rw [top_set, top_top, f1.2.2.1, f1.2.2.2, Nat.add_sub_cancel] at D1
  obtain ⟨F2, hF2⟩ : ∃ G, G = F1.goto 2 := ⟨_, rfl⟩
  rw [← hF2] at D1
  have f2 : F2.fn = 2 ∧ F2.pc = 2 ∧ F2.r 0 = x ∧ F2.r 2 = genOf (g.w l (oNd B S x 0)) + 1 := by rw [hF2]; exact ⟨f1.1, rfl, f1.2.2.1, f1.2.2.2⟩
  obtain ⟨g2, hg2⟩ : ∃ G, G = g.set l (oNd B S x 0) (mkHead (genOf (g.w l (oNd B S x 0))) 3) := ⟨_, rfl⟩
  rw [← hg2] at D1
  have D2 := hD (n + 2) _ _ fs F2 (by omega) (.inr f2.1) top_thr (by omega) (does_g2 (B := B) (S := S) (n := n + 2) (g := g2.top t fs F2) (F := F2) (by omega) ht hq hl hlc top_thr (by omega) hB' hS' f2.1 f2.2.1 (by rw [f2.2.2.1]; exact x1) (by rw [f2.2.2.1]; exact x2))
  rw [top_set, top_top, f2.2.2.1] at D2
  obtain ⟨F3, hF3⟩ : ∃ G, G = F2.goto 3 := ⟨_, rfl⟩
  rw [← hF3] at D2
  have f3 : F3.fn = 2 ∧ F3.pc = 3 ∧ F3.r 0 = x ∧ F3.r 2 = genOf (g.w l (oNd B S x 0)) + 1 := by rw [hF3]; exact ⟨f2.1, rfl, f2.2.2.1, f2.2.2.2⟩
  obtain ⟨g3, hg3⟩ : ∃ G, G = g2.set l (oNd B S x 3) 0 := ⟨_, rfl⟩
  rw [← hg3] at D2
  have D3 := hD (n + 3) _ _ fs F3 (by omega) (.inr f3.1) top_thr (by omega) (does_g3 (B := B) (S := S) (n := n + 3) (g := g3.top t fs F3) (F := F3) (by omega) ht hq hl hlc top_thr (by omega) hB' hS' f3.1 f3.2.1 (by rw [f3.2.2.1]; exact x1) (by rw [f3.2.2.1]; exact x2))
  rw [top_set, top_top, f3.2.2.1] at D3
  obtain ⟨F4, hF4⟩ : ∃ G, G = F3.goto 4 := ⟨_, rfl⟩
  rw [← hF4] at D3
  have f4 : F4.fn = 2 ∧ F4.pc = 4 ∧ F4.r 0 = x ∧ F4.r 2 = genOf (g.w l (oNd B S x 0)) + 1 := by rw [hF4]; exact ⟨f3.1, rfl, f3.2.2.1, f3.2.2.2⟩
  obtain ⟨g4, hg4⟩ : ∃ G, G = g3.set l (oNd B S x 4) 0 := ⟨_, rfl⟩
  rw [← hg4] at D3
  have D4 := hD (n + 4) _ _ fs F4 (by omega) (.inr f4.1) top_thr (by omega) (does_g4 (B := B) (S := S) (n := n + 4) (g := g4.top t fs F4) (F := F4) (by omega) ht hq hl hlc top_thr (by omega) hB' hS' f4.1 f4.2.1 (by rw [f4.2.2.1]; exact x1) (by rw [f4.2.2.1]; exact x2))
  rw [top_set, top_top, f4.2.2.1] at D4
  obtain ⟨F5, hF5⟩ : ∃ G, G = F4.goto 5 := ⟨_, rfl⟩
  rw [← hF5] at D4
  have f5 : F5.fn = 2 ∧ F5.pc = 5 ∧ F5.r 0 = x ∧ F5.r 2 = genOf (g.w l (oNd B S x 0)) + 1 := by rw [hF5]; exact ⟨f4.1, rfl, f4.2.2.1, f4.2.2.2⟩
  obtain ⟨g5, hg5⟩ : ∃ G, G = g4.set l (oNd B S x 2) 0 := ⟨_, rfl⟩
  rw [← hg5] at D4
  have D5 := hD (n + 5) _ _ fs F5 (by omega) (.inr f5.1) top_thr (by omega) (does_g5 (B := B) (S := S) (n := n + 5) (g := g5.top t fs F5) (F := F5) (by omega) ht hq hl hlc top_thr (by omega) hB' hS' f5.1 f5.2.1 (by rw [f5.2.2.1]; exact x1) (by rw [f5.2.2.1]; exact x2))
  rw [top_set, top_top, f5.2.2.1] at D5
  obtain ⟨F6, hF6⟩ : ∃ G, G = F5.goto 6 := ⟨_, rfl⟩
  rw [← hF6] at D5
  have f6 : F6.fn = 2 ∧ F6.pc = 6 ∧ F6.r 0 = x ∧ F6.r 2 = genOf (g.w l (oNd B S x 0)) + 1 := by rw [hF6]; exact ⟨f5.1, rfl, f5.2.2.1, f5.2.2.2⟩
  obtain ⟨g6, hg6⟩ : ∃ G, G = g5.set l (oNd B S x 1) 0 := ⟨_, rfl⟩
  rw [← hg6] at D5
  have hh6 : g6.held l x = true := by rw [hg6, hg5, hg4, hg3, hg2]; exact hh
  have hgo : (g6.set l (oNd B S x 0) (mkHead (genOf (g.w l (oNd B S x 0)) + 1) 0)).drop l x = goneG B S g l x := by rw [hg6, hg5, hg4, hg3, hg2]; rfl
  have hw0 : (goneG B S g l x).w l 0 = g.w l 0 := gone_w l 0 (fun h => by have := h.2.1; unfold oNd at this; omega)
  by_cases hs : genOf (g.w l (oNd B S x 0)) + 1 < gens
  · have D6 := hD (n + 6) _ _ fs F6 (by omega) (.inr f6.1) top_thr (by omega) (does_g6a (B := B) (S := S) (n := n + 6) (g := g6.top t fs F6) (F := F6) (by omega) ht hq hl hlc top_thr (by omega) hB' hS' f6.1 f6.2.1 (by rw [f6.2.2.1]; exact x1) (by rw [f6.2.2.1]; exact x2) (by rw [f6.2.2.2]; omega) (by rw [f6.2.2.1]; exact hh6) (by rw [f6.2.2.2, hg]; omega))
    rw [top_set, top_drop, top_top, f6.2.2.1, f6.2.2.2, hgo] at D6
    obtain ⟨F7, hF7⟩ : ∃ G, G = F6.goto 7 := ⟨_, rfl⟩
    rw [← hF7] at D6
    have f7 : F7.fn = 2 ∧ F7.pc = 7 ∧ F7.r 0 = x := by rw [hF7]; exact ⟨f6.1, rfl, f6.2.2.1⟩
    obtain ⟨g7, hg7⟩ : ∃ G, G = goneG B S g l x := ⟨_, rfl⟩
    rw [← hg7] at D6 hw0
    have D7 := hD (n + 7) _ _ fs F7 (by omega) (.inr f7.1) top_thr (by omega) (does_g7 (B := B) (S := S) (n := n + 7) (g := g7.top t fs F7) (F := F7) (by omega) ht hq hl hlc top_thr (by omega) hB' hS' f7.1 f7.2.1 (by rw [f7.2.2]; exact x1) (by rw [f7.2.2]; exact x2))
    have e7 : (g7.top t fs F7).w l 0 = g.w l 0 := hw0
    rw [top_top, e7] at D7
    obtain ⟨F8, hF8⟩ : ∃ G, G = (F7.reg 1 (g.w l 0)).goto 8 := ⟨_, rfl⟩
    rw [← hF8] at D7
    have f8 : F8.fn = 2 ∧ F8.pc = 8 ∧ F8.r 0 = x ∧ F8.r 1 = g.w l 0 := by rw [hF8]; exact ⟨f7.1, rfl, (gr_ne (by decide)).trans f7.2.2, gr_same _ _ _ _⟩
    have D8 := hD (n + 8) _ _ fs F8 (by omega) (.inr f8.1) top_thr (by omega) (does_g8 (B := B) (S := S) (n := n + 8) (g := g7.top t fs F8) (F := F8) (by omega) ht hq hl hlc top_thr (by omega) hB' hS' f8.1 f8.2.1 (by rw [f8.2.2.1]; exact x1) (by rw [f8.2.2.1]; exact x2) (by rw [f8.2.2.2]; exact I.top))
    rw [top_set, top_top, f8.2.2.1, f8.2.2.2] at D8
    obtain ⟨F9, hF9⟩ : ∃ G, G = F8.goto 9 := ⟨_, rfl⟩
    rw [← hF9] at D8
    have f9 : F9.fn = 2 ∧ F9.pc = 9 ∧ F9.r 0 = x ∧ F9.r 1 = g.w l 0 := by rw [hF9]; exact ⟨f8.1, rfl, f8.2.2.1, f8.2.2.2⟩
    obtain ⟨g9, hg9⟩ : ∃ G, G = g7.set l (oLk B x) (slOf (g.w l 0)) := ⟨_, rfl⟩
    rw [← hg9] at D8
    have e9 : (g9.top t fs F9).w l 0 = g.w l 0 := by
      show g9.w l 0 = _
      rw [hg9, set_w, if_neg (fun h => by have := h.2; unfold oLk at this; omega), hw0]
    have D9 := hD (n + 9) _ _ fs F9 (by omega) (.inr f9.1) top_thr (by omega) (does_g9a (B := B) (S := S) (n := n + 9) (g := g9.top t fs F9) (F := F9) (by omega) ht hq hl hlc top_thr (by omega) hB' hS' f9.1 f9.2.1 (by rw [f9.2.2.1]; exact x1) (by rw [f9.2.2.1]; exact x2) (by rw [f9.2.2.2]; exact I.top) (by rw [e9, f9.2.2.2]))
    rw [top_set, top_back, f9.2.2.1, f9.2.2.2] at D9
    have fin : giveG B S gens g t l fs x = (g9.set l 0 (mkTop x (cnt (g.w l 0) + 1))).back t fs [] := by unfold giveG; rw [if_pos hs, hg9, hg7]
    rw [fin]
    exact ⟨10, Nat.le_refl _, by decide, .cons D0 (by rw [hthr]; simp; omega) (by rw [hthr]; simp; omega) (.cons D1 (by rw [top_thr]; simp; omega) (by rw [top_thr]; simp; omega) (.cons D2 (by rw [top_thr]; simp; omega) (by rw [top_thr]; simp; omega) (.cons D3 (by rw [top_thr]; simp; omega) (by rw [top_thr]; simp; omega) (.cons D4 (by rw [top_thr]; simp; omega) (by rw [top_thr]; simp; omega) (.cons D5 (by rw [top_thr]; simp; omega) (by rw [top_thr]; simp; omega) (.cons D6 (by rw [top_thr]; simp; omega) (by rw [top_thr]; simp; omega) (.cons D7 (by rw [top_thr]; simp; omega) (by rw [top_thr]; simp; omega) (.cons D8 (by rw [top_thr]; simp; omega) (by rw [top_thr]; simp; omega) (.cons D9 (by rw [top_thr]; simp; omega) (by rw [top_thr]; simp; omega) rfl)))))))))⟩
  · have D6 := hD (n + 6) _ _ fs F6 (by omega) (.inr f6.1) top_thr (by omega) (does_g6b (B := B) (S := S) (n := n + 6) (g := g6.top t fs F6) (F := F6) (by omega) ht hq hl hlc top_thr (by omega) hB' hS' f6.1 f6.2.1 (by rw [f6.2.2.1]; exact x1) (by rw [f6.2.2.1]; exact x2) (by rw [f6.2.2.2]; omega) (by rw [f6.2.2.1]; exact hh6) (by rw [f6.2.2.2, hg]; omega))
    rw [top_set, top_drop, top_back, f6.2.2.1, f6.2.2.2, hgo] at D6
    have fin : giveG B S gens g t l fs x = (goneG B S g l x).back t fs [] := by unfold giveG; rw [if_neg hs]
    rw [fin]
    exact ⟨7, by omega, by decide, .cons D0 (by rw [hthr]; simp; omega) (by rw [hthr]; simp; omega) (.cons D1 (by rw [top_thr]; simp; omega) (by rw [top_thr]; simp; omega) (.cons D2 (by rw [top_thr]; simp; omega) (by rw [top_thr]; simp; omega) (.cons D3 (by rw [top_thr]; simp; omega) (by rw [top_thr]; simp; omega) (.cons D4 (by rw [top_thr]; simp; omega) (by rw [top_thr]; simp; omega) (.cons D5 (by rw [top_thr]; simp; omega) (by rw [top_thr]; simp; omega) (.cons D6 (by rw [top_thr]; simp; omega) (by rw [top_thr]; simp; omega) rfl))))))⟩
end
section
variable {t l n B S m gens : Nat} {g : GM} {fs : List Fr} {L r : List Nat} {x : Nat}
theorem LvR.mono {m' : Nat} (h : LvR S B m g l L) (hm : m ≤ m') : LvR S B m' g l L := ⟨h.chain, h.nodup, h.rng, h.top, Nat.le_trans h.cntN hm, h.lk, fun i a b => ⟨(h.hd i a b).1, Nat.le_trans (h.hd i a b).2 hm⟩⟩
/-- What doesn't touch a level's list, heads, held slots that are free. -/
theorem LvR.congr {g2 : GM} (h : LvR S B m g l L) (h0 : g2.w l 0 = g.w l 0) (h1 : ∀ i, 1 ≤ i → i ≤ S → g2.w l (oLk B i) = g.w l (oLk B i)) (h2 : ∀ i, 1 ≤ i → i ≤ S → g2.w l (oNd B S i 0) = g.w l (oNd B S i 0)) (h3 : ∀ x ∈ L, g2.held l x = g.held l x) : LvR S B m g2 l L :=
  ⟨by rw [h0]; exact chainP_congr _ _ h.chain fun x hx => h1 x (h.rng x hx).1 (h.rng x hx).2.1, h.nodup, fun x hx => ⟨(h.rng x hx).1, (h.rng x hx).2.1, by rw [h3 x hx]; exact (h.rng x hx).2.2⟩, by rw [h0]; exact h.top, by rw [h0]; exact h.cntN, fun i a b => by rw [h1 i a b]; exact h.lk i a b, fun i a b => by rw [h2 i a b]; exact h.hd i a b⟩
theorem LvR.take (I : LvR S B m g l (x :: r)) (hm : m < 900000) (hS60 : S ≤ 60) : LvR S B (m + 1) (takeG B S g t l fs x) l r := by
  obtain ⟨hs, hx1, hc2⟩ := I.chain
  obtain ⟨_, hx2, hh⟩ := I.rng x List.mem_cons_self
  have hnd := List.nodup_cons.1 I.nodup
  have hw : ∀ o, o ≠ 0 → (takeG B S g t l fs x).w l o = g.w l o := fun o ho => by
    show (g.set l 0 _).w l o = _
    rw [set_w, if_neg (fun h => ho h.2)]
  have hw0 : (takeG B S g t l fs x).w l 0 = mkTop (g.w l (oLk B x)) (cnt (g.w l 0) + 1) := by
    show (g.set l 0 _).w l 0 = _
    rw [set_w, if_pos ⟨rfl, rfl⟩]
  have hlk := I.lk x hx1 hx2
  have hcn := I.cntN
  have olk : ∀ i, oLk B i ≠ 0 := fun i => by unfold oLk; omega
  have ond : ∀ i, oNd B S i 0 ≠ 0 := fun i => by unfold oNd; omega
  refine ⟨?_, hnd.2, fun y hy => ?_, by rw [hw0]; exact top_lt _ _, ?_, fun i a b => by rw [hw _ (olk i)]; exact I.lk i a b, fun i a b => by rw [hw _ (ond i)]; exact ⟨(I.hd i a b).1, Nat.le_succ_of_le (I.hd i a b).2⟩⟩
  · rw [hw0, sl_top (by omega)]
    exact chainP_congr _ _ hc2 fun y hy => hw _ (olk y)
  · obtain ⟨a, b, e⟩ := I.rng y (List.mem_cons_of_mem _ hy)
    refine ⟨a, b, ?_⟩
    show (GM.hold (g.set l 0 _) l x).held l y = false
    rw [hold_held, if_neg (fun h => hnd.1 (by rw [← h.2]; exact hy))]
    exact e
  · rw [hw0, cnt_top (by omega)]; omega
/-- Free list behind Give. -/
def gaveL (B S gens : Nat) (g : GM) (l x : Nat) (L : List Nat) : List Nat := if genOf (g.w l (oNd B S x 0)) + 1 < gens then x :: L else L
theorem give_w0 (l' o : Nat) (h : ¬ (l' = l ∧ (o = 0 ∨ o = oLk B x ∨ (oNd B S x 0 ≤ o ∧ o < oNd B S x 0 + 5)))) : (giveG B S gens g t l fs x).w l' o = g.w l' o := by
  unfold giveG
  split
  · show (((goneG B S g l x).set l (oLk B x) _).set l 0 _).w l' o = _
    rw [set_w, if_neg (by omega), set_w, if_neg (by omega), gone_w _ _ (by omega)]
  · exact gone_w _ _ (by omega)
theorem give_hd (x1 : 1 ≤ x) (x2 : x ≤ S) : (giveG B S gens g t l fs x).w l (oNd B S x 0) = mkHead (genOf (g.w l (oNd B S x 0)) + 1) 0 := by
  unfold giveG
  split
  · show (((goneG B S g l x).set l (oLk B x) _).set l 0 _).w l _ = _
    rw [set_w, if_neg (fun h => by have := h.2; unfold oNd at this; omega), set_w, if_neg (fun h => by have := h.2; unfold oNd oLk at this; omega)]
    exact gone_hd
  · exact gone_hd
theorem give_fld (x1 : 1 ≤ x) (x2 : x ≤ S) {j : Nat} (h1 : 1 ≤ j) (h2 : j < 5) : (giveG B S gens g t l fs x).w l (oNd B S x j) = 0 := by
  unfold giveG
  split
  · show (((goneG B S g l x).set l (oLk B x) _).set l 0 _).w l _ = _
    rw [set_w, if_neg (fun h => by have := h.2; unfold oNd at this; omega), set_w, if_neg (fun h => by have := h.2; unfold oNd oLk at this; omega)]
    exact gone_fld h1 h2
  · exact gone_fld h1 h2
theorem give_held (l' y : Nat) : (giveG B S gens g t l fs x).held l' y = if l' = l ∧ y = x then false else g.held l' y := by
  unfold giveG
  split
  · exact drop_held (g := ((((((g.set l (oNd B S x 0) (mkHead (genOf (g.w l (oNd B S x 0))) 3)).set l (oNd B S x 3) 0).set l (oNd B S x 4) 0).set l (oNd B S x 2) 0).set l (oNd B S x 1) 0).set l (oNd B S x 0) (mkHead (genOf (g.w l (oNd B S x 0)) + 1) 0))) (l := l) (i := x) l' y
  · exact drop_held (g := ((((((g.set l (oNd B S x 0) (mkHead (genOf (g.w l (oNd B S x 0))) 3)).set l (oNd B S x 3) 0).set l (oNd B S x 4) 0).set l (oNd B S x 2) 0).set l (oNd B S x 1) 0).set l (oNd B S x 0) (mkHead (genOf (g.w l (oNd B S x 0)) + 1) 0))) (l := l) (i := x) l' y
theorem LvR.give (I : LvR S B m g l L) (hm : m < 900000) (hS60 : S ≤ 60) (x1 : 1 ≤ x) (x2 : x ≤ S) (hx : x ∉ L) : LvR S B (m + 1) (giveG B S gens g t l fs x) l (gaveL B S gens g l x L) := by
  have hcn := I.cntN
  have hgn := (I.hd x x1 x2).2
  have hnd : ∀ i, 1 ≤ i → i ≤ S → i ≠ x → (giveG B S gens g t l fs x).w l (oNd B S i 0) = g.w l (oNd B S i 0) := fun i a b e => give_w0 _ _ (fun h => by
    rcases h.2 with h | h | h
    · unfold oNd at h; omega
    · unfold oNd oLk at h; omega
    · unfold oNd at h; omega)
  have hlk : ∀ i, 1 ≤ i → i ≤ S → i ≠ x → (giveG B S gens g t l fs x).w l (oLk B i) = g.w l (oLk B i) := fun i a b e => give_w0 _ _ (fun h => by
    rcases h.2 with h | h | h
    · unfold oLk at h; omega
    · unfold oLk at h; omega
    · unfold oNd oLk at h; omega)
  have hhd : ∀ i, 1 ≤ i → i ≤ S → (giveG B S gens g t l fs x).w l (oNd B S i 0) < 17179869184 ∧ genOf ((giveG B S gens g t l fs x).w l (oNd B S i 0)) ≤ m + 1 := fun i a b => by
    by_cases e : i = x
    · subst e
      rw [give_hd x1 x2]
      exact ⟨head_lt _ _, by rw [gen_head (by omega)]; omega⟩
    · rw [hnd i a b e]; exact ⟨(I.hd i a b).1, Nat.le_succ_of_le (I.hd i a b).2⟩
  have hheld : ∀ y ∈ L, (giveG B S gens g t l fs x).held l y = false := fun y hy => by
    rw [give_held]
    split
    · rfl
    · exact (I.rng y hy).2.2
  by_cases hs : genOf (g.w l (oNd B S x 0)) + 1 < gens
  · have e0 : (giveG B S gens g t l fs x).w l 0 = mkTop x (cnt (g.w l 0) + 1) := by
      unfold giveG
      rw [if_pos hs]
      show (GM.set _ l 0 _).w l 0 = _
      rw [set_w, if_pos ⟨rfl, rfl⟩]
    have ex : (giveG B S gens g t l fs x).w l (oLk B x) = slOf (g.w l 0) := by
      unfold giveG
      rw [if_pos hs]
      show (GM.set (GM.set _ l _ _) l 0 _).w l _ = _
      rw [set_w, if_neg (fun h => by have := h.2; unfold oLk at this; omega), set_w, if_pos ⟨rfl, rfl⟩]
    have hsl : slOf (g.w l 0) ≤ S := by
      have := I.chain
      cases hL : L with
      | nil => rw [hL] at this; have e : slOf (g.w l 0) = 0 := this; omega
      | cons y r => rw [hL] at this; have e := this.1; have := (I.rng y (by rw [hL]; exact List.mem_cons_self)).2.1; omega
    unfold gaveL
    rw [if_pos hs]
    refine ⟨?_, List.nodup_cons.2 ⟨hx, I.nodup⟩, fun y hy => ?_, by rw [e0]; exact top_lt _ _, by rw [e0, cnt_top (by omega)]; omega, fun i a b => ?_, hhd⟩
    · rw [e0, sl_top (by omega)]
      refine ⟨rfl, x1, ?_⟩
      show chainP _ ((giveG B S gens g t l fs x).w l (oLk B x)) L
      rw [ex]
      exact chainP_congr _ _ I.chain fun y hy => hlk y (I.rng y hy).1 (I.rng y hy).2.1 (fun e => hx (by rw [← e]; exact hy))
    · rcases List.mem_cons.1 hy with e | hy
      · subst e; exact ⟨x1, x2, by rw [give_held, if_pos ⟨rfl, rfl⟩]⟩
      · exact ⟨(I.rng y hy).1, (I.rng y hy).2.1, hheld y hy⟩
    · by_cases e : i = x
      · subst e; rw [ex]; exact hsl
      · rw [hlk i a b e]; exact I.lk i a b
  · have e0 : (giveG B S gens g t l fs x).w l 0 = g.w l 0 := by
      unfold giveG
      rw [if_neg hs]
      exact gone_w _ _ (fun h => by have := h.2.1; unfold oNd at this; omega)
    have ex : ∀ i, 1 ≤ i → i ≤ S → (giveG B S gens g t l fs x).w l (oLk B i) = g.w l (oLk B i) := fun i a b => by
      unfold giveG
      rw [if_neg hs]
      exact gone_w _ _ (fun h => by have := h.2.1; unfold oNd oLk at this; omega)
    unfold gaveL
    rw [if_neg hs]
    refine ⟨by rw [e0]; exact chainP_congr _ _ I.chain fun y hy => ex y (I.rng y hy).1 (I.rng y hy).2.1, I.nodup, fun y hy => ⟨(I.rng y hy).1, (I.rng y hy).2.1, hheld y hy⟩, by rw [e0]; exact I.top, by rw [e0]; omega, fun i a b => by rw [ex i a b]; exact I.lk i a b, hhd⟩
end
end
section
open Go.RowKit
set_option linter.unusedVariables false
set_option linter.unusedSimpArgs false
set_option linter.unnecessarySimpa false
section
variable {g : GM} {t l o v i : Nat} {fs fs' : List Fr} {F : Fr} {us us' : List Nat}
theorem back_set : (g.back t fs us).set l o v = (g.set l o v).back t fs us := rfl
theorem back_back : (g.back t fs us).back t fs' us' = g.back t fs' us' := by unfold GM.back; simp only [put1_put1]
theorem set_top_back : ((g.back t fs us).top t fs' F).back t fs' us' = g.back t fs' us' := by rw [top_back, back_back]
end
/-- What Mint makes, of the first slot of the free list. -/
def madeW (B S : Nat) (g : GM) (l x st key a b : Nat) : GM := ((((((g.set l 0 (mkTop (g.w l (oLk B x)) (cnt (g.w l 0) + 1))).hold l x).set l (oNd B S x 2) key).set l (oNd B S x 3) a).set l (oNd B S x 4) b).set l (oNd B S x 1) 0).set l (oNd B S x 0) (mkHead (genOf (g.w l (oNd B S x 0))) st)
def madeG (B S : Nat) (g : GM) (t l x st key a b : Nat) : GM := (madeW B S g l x st key a b).back t [] [x, genOf (g.w l (oNd B S x 0))]
section
variable {σ : World} {p t q l n B S m : Nat} {c : Nat → Int} {tp : List Nat} {g : GM} {F : Fr} {L r : List Nat} {x : Nat}
theorem takeG_top (fs fs' : List Fr) (F : Fr) : takeG B S (g.top t fs' F) t l fs x = takeG B S g t l fs x := by
  unfold takeG
  have e : ∀ o, (g.top t fs' F).w l o = g.w l o := fun _ => rfl
  rw [e, e, e, top_set, top_hold, top_back]
theorem LvR.atop (I : LvR S B m g l L) (fs : List Fr) (F : Fr) : LvR S B m (g.top t fs F) l L := I.congr rfl (fun _ _ _ => rfl) (fun _ _ _ => rfl) (fun _ _ => rfl)
theorem hand (ht : (t : Int) < c 1) (hq : tp[t]? = some q) (hl : levelOf c t = (l : Nat)) (hlc : (l : Int) < c 0) : ∀ (n : Nat) (g g2 : GM) (fs : List Fr) (F : Fr), n < 100000 → (F.fn = 1 ∨ F.fn = 2) → g.thr t = fs ++ [F] → fs.length < 100000 → DoesTo 105 σ p t c tp n l g g2 → DoesTo 41 σ p t c tp n l g g2 :=
  fun n g g2 fs F hn hf hthr hfs D => hand_st hn ht hq hl hlc hthr hfs hf D
/-- Mint of no slot. -/
theorem steps_mint_no (hn : n < 80000) (ht : (t : Int) < c 1) (hq : tp[t]? = some q) (hl : levelOf c t = (l : Nat)) (hlc : (l : Int) < c 0) (hthr : g.thr t = [F]) (hB' : c 11 = (B : Nat)) (hS' : c 10 = (S : Nat)) (hS60 : S ≤ 60) (hm : m < 900000) (I : LvR S B m g l L) (h1 : F.fn = 30) (hp : F.pc = 0) (hL : L = []) : Steps (fun n g g2 => DoesTo 41 σ p t c tp n l g g2) t 0 n 4 g (g.back t [] [0]) := by
  have D0 := does_m0 (σ := σ) (p := p) (n := n) (fs := []) (by omega) ht hq hl hlc hthr (by simp) hB' hS' h1 hp
  rw [List.nil_append] at D0
  have T := steps_take_no (D := (fun n g g2 => DoesTo 41 σ p t c tp n l g g2)) (p := p) (d := 0) (n := n + 1) (fs := [F.goto 1]) (hand ht hq hl hlc) (by omega) ht hq hl hlc (top_thr (g := g) (t := t)) (by simp) (Nat.zero_le _) hB' hS' hS60 (by omega) (I.atop [F.goto 1] ⟨1, 0, fun _ => 0⟩) rfl rfl (by show 0 < _; decide) hL
  rw [top_back] at T
  have D1 := does_m1no (σ := σ) (p := p) (n := n + 3) (fs := []) (g := g.back t [F.goto 1] [0, 0]) (F := F.goto 1) (by omega) ht hq hl hlc back_thr' (by simp) hB' hS' h1 rfl (by show put1 g.told t _ t 0 = 0; rw [put1_same]; rfl)
  rw [back_back] at D1
  refine .cons D0 (by rw [hthr]; simp) (by rw [hthr]; simp) ?_
  exact T.trans (b := 1) (.cons D1 (by rw [back_thr']; simp) (by rw [back_thr']; simp) rfl)
/-- Mint of the first slot. -/
theorem steps_mint (hn : n < 80000) (ht : (t : Int) < c 1) (hq : tp[t]? = some q) (hl : levelOf c t = (l : Nat)) (hlc : (l : Int) < c 0) (hthr : g.thr t = [F]) (hB' : c 11 = (B : Nat)) (hS' : c 10 = (S : Nat)) (hS60 : S ≤ 60) (hm : m < 900000) (I : LvR S B m g l L) (h1 : F.fn = 30) (hp : F.pc = 0) (hst : F.r 0 < 256) (hL : L = x :: r) : Steps (fun n g g2 => DoesTo 41 σ p t c tp n l g g2) t 0 n 12 g (madeG B S g t l x (F.r 0) (F.r 1) (F.r 2) (F.r 3)) := by
  have I' := I
  rw [hL] at I'
  obtain ⟨hs, hx1, hc2⟩ := I'.chain
  obtain ⟨_, hx2, hh⟩ := I'.rng x List.mem_cons_self
  have hgm := (I.hd x hx1 hx2).2
  have D0 := does_m0 (σ := σ) (p := p) (n := n) (fs := []) (by omega) ht hq hl hlc hthr (by simp) hB' hS' h1 hp
  rw [List.nil_append] at D0
  have T := steps_take (D := (fun n g g2 => DoesTo 41 σ p t c tp n l g g2)) (p := p) (d := 0) (n := n + 1) (fs := [F.goto 1]) (hand ht hq hl hlc) (by omega) ht hq hl hlc (top_thr (g := g) (t := t)) (by simp) (Nat.zero_le _) hB' hS' hS60 (by omega) (I.atop [F.goto 1] ⟨1, 0, fun _ => 0⟩) rfl rfl (by show 0 < _; decide) hL
  rw [takeG_top] at T
  obtain ⟨g1, hg1⟩ : ∃ G, G = takeG B S g t l [F.goto 1] x := ⟨_, rfl⟩
  rw [← hg1] at T
  have t1 : g1.thr t = [F.goto 1] := by rw [hg1]; exact back_thr'
  have tl0 : g1.told t 0 = x := by rw [hg1]; show put1 g.told t _ t 0 = x; rw [put1_same]; rfl
  have tl1 : g1.told t 1 = genOf (g.w l (oNd B S x 0)) := by rw [hg1]; show put1 g.told t _ t 1 = _; rw [put1_same]; rfl
  have D1 := does_m1 (σ := σ) (p := p) (n := n + 5) (fs := []) (g := g1) (F := F.goto 1) (by omega) ht hq hl hlc t1 (by simp) hB' hS' h1 rfl (by rw [tl0]; omega)
  rw [tl0, tl1] at D1
  obtain ⟨F2, hF2⟩ : ∃ G, G = (((F.goto 1).reg 4 x).reg 5 (genOf (g.w l (oNd B S x 0)))).goto 2 := ⟨_, rfl⟩
  rw [← hF2] at D1
  have f2 : F2.fn = 30 ∧ F2.pc = 2 ∧ F2.r 4 = x ∧ F2.r 5 = genOf (g.w l (oNd B S x 0)) ∧ (∀ i, i < 4 → F2.r i = F.r i) := by
    rw [hF2]
    refine ⟨h1, rfl, (gr_ne (by decide)).trans (show put1 F.r 4 x 4 = x from put1_same _ _ _), gr_same _ _ _ _, fun i hi => (gr_ne (by omega)).trans (show put1 F.r 4 x i = F.r i from put1_ne (by omega))⟩
  obtain ⟨g2, hg2⟩ : ∃ G, G = g1 := ⟨_, rfl⟩
  rw [← hg2] at D1
  have D2 := does_m2 (σ := σ) (p := p) (n := n + 6) (fs := []) (g := g2.top t [] F2) (F := F2) (B := B) (S := S) (by omega) ht hq hl hlc top_thr (by simp) hB' hS' f2.1 f2.2.1 (by rw [f2.2.2.1]; exact hx1) (by rw [f2.2.2.1]; exact hx2)
  rw [top_set, top_top, f2.2.2.1] at D2
  obtain ⟨F3, hF3⟩ : ∃ G, G = F2.goto (2 + 1) := ⟨_, rfl⟩
  rw [← hF3] at D2
  have f3 : F3.fn = 30 ∧ F3.pc = 3 ∧ F3.r 4 = x ∧ F3.r 5 = genOf (g.w l (oNd B S x 0)) ∧ (∀ i, i < 4 → F3.r i = F.r i) := by rw [hF3]; exact ⟨f2.1, rfl, f2.2.2.1, f2.2.2.2.1, f2.2.2.2.2⟩
  obtain ⟨g3, hg3⟩ : ∃ G, G = g2.set l (oNd B S x 2) (F.r 1) := ⟨_, rfl⟩
  rw [f2.2.2.2.2 1 (by decide), ← hg3] at D2
  have D3 := does_m3 (σ := σ) (p := p) (n := n + 7) (fs := []) (g := g3.top t [] F3) (F := F3) (B := B) (S := S) (by omega) ht hq hl hlc top_thr (by simp) hB' hS' f3.1 f3.2.1 (by rw [f3.2.2.1]; exact hx1) (by rw [f3.2.2.1]; exact hx2)
  rw [top_set, top_top, f3.2.2.1] at D3
  obtain ⟨F4, hF4⟩ : ∃ G, G = F3.goto (3 + 1) := ⟨_, rfl⟩
  rw [← hF4] at D3
  have f4 : F4.fn = 30 ∧ F4.pc = 4 ∧ F4.r 4 = x ∧ F4.r 5 = genOf (g.w l (oNd B S x 0)) ∧ (∀ i, i < 4 → F4.r i = F.r i) := by rw [hF4]; exact ⟨f3.1, rfl, f3.2.2.1, f3.2.2.2.1, f3.2.2.2.2⟩
  obtain ⟨g4, hg4⟩ : ∃ G, G = g3.set l (oNd B S x 3) (F.r 2) := ⟨_, rfl⟩
  rw [f3.2.2.2.2 2 (by decide), ← hg4] at D3
  have D4 := does_m4 (σ := σ) (p := p) (n := n + 8) (fs := []) (g := g4.top t [] F4) (F := F4) (B := B) (S := S) (by omega) ht hq hl hlc top_thr (by simp) hB' hS' f4.1 f4.2.1 (by rw [f4.2.2.1]; exact hx1) (by rw [f4.2.2.1]; exact hx2)
  rw [top_set, top_top, f4.2.2.1] at D4
  obtain ⟨F5, hF5⟩ : ∃ G, G = F4.goto (4 + 1) := ⟨_, rfl⟩
  rw [← hF5] at D4
  have f5 : F5.fn = 30 ∧ F5.pc = 5 ∧ F5.r 4 = x ∧ F5.r 5 = genOf (g.w l (oNd B S x 0)) ∧ (∀ i, i < 4 → F5.r i = F.r i) := by rw [hF5]; exact ⟨f4.1, rfl, f4.2.2.1, f4.2.2.2.1, f4.2.2.2.2⟩
  obtain ⟨g5, hg5⟩ : ∃ G, G = g4.set l (oNd B S x 4) (F.r 3) := ⟨_, rfl⟩
  rw [f4.2.2.2.2 3 (by decide), ← hg5] at D4
  have D5 := does_m5 (σ := σ) (p := p) (n := n + 9) (fs := []) (g := g5.top t [] F5) (F := F5) (B := B) (S := S) (by omega) ht hq hl hlc top_thr (by simp) hB' hS' f5.1 f5.2.1 (by rw [f5.2.2.1]; exact hx1) (by rw [f5.2.2.1]; exact hx2)
  rw [top_set, top_top, f5.2.2.1] at D5
  obtain ⟨F6, hF6⟩ : ∃ G, G = F5.goto (5 + 1) := ⟨_, rfl⟩
  rw [← hF6] at D5
  have f6 : F6.fn = 30 ∧ F6.pc = 6 ∧ F6.r 4 = x ∧ F6.r 5 = genOf (g.w l (oNd B S x 0)) ∧ (∀ i, i < 4 → F6.r i = F.r i) := by rw [hF6]; exact ⟨f5.1, rfl, f5.2.2.1, f5.2.2.2.1, f5.2.2.2.2⟩
  obtain ⟨g6, hg6⟩ : ∃ G, G = g5.set l (oNd B S x 1) 0 := ⟨_, rfl⟩
  rw [← hg6] at D5
  have D6 := does_m6 (σ := σ) (p := p) (n := n + 10) (fs := []) (g := g6.top t [] F6) (F := F6) (B := B) (S := S) (by omega) ht hq hl hlc top_thr (by simp) hB' hS' f6.1 f6.2.1 (by rw [f6.2.2.1]; exact hx1) (by rw [f6.2.2.1]; exact hx2) (by rw [f6.2.2.2.1]; omega) (by rw [f6.2.2.2.2 0 (by decide)]; exact hst)
  rw [top_set, top_top, f6.2.2.1, f6.2.2.2.1, f6.2.2.2.2 0 (by decide)] at D6
  obtain ⟨F7, hF7⟩ : ∃ G, G = F6.goto 7 := ⟨_, rfl⟩
  rw [← hF7] at D6
  have f7 : F7.fn = 30 ∧ F7.pc = 7 ∧ F7.r 4 = x ∧ F7.r 5 = genOf (g.w l (oNd B S x 0)) := by rw [hF7]; exact ⟨f6.1, rfl, f6.2.2.1, f6.2.2.2.1⟩
  obtain ⟨g7, hg7⟩ : ∃ G, G = g6.set l (oNd B S x 0) (mkHead (genOf (g.w l (oNd B S x 0))) (F.r 0)) := ⟨_, rfl⟩
  rw [← hg7] at D6
  have D7 := does_m7 (σ := σ) (p := p) (n := n + 11) (fs := []) (g := g7.top t [] F7) (F := F7) (B := B) (S := S) (by omega) ht hq hl hlc top_thr (by simp) hB' hS' f7.1 f7.2.1
  rw [top_back, f7.2.2.1, f7.2.2.2] at D7
  have fin : madeG B S g t l x (F.r 0) (F.r 1) (F.r 2) (F.r 3) = g7.back t [] [x, genOf (g.w l (oNd B S x 0))] := by
    rw [hg7, hg6, hg5, hg4, hg3, hg2, hg1]
    show _ = ((madeW B S g l x (F.r 0) (F.r 1) (F.r 2) (F.r 3)).back t [F.goto 1] _).back t [] _
    rw [back_back]; rfl
  rw [fin]
  refine .cons D0 (by rw [hthr]; simp) (by rw [hthr]; simp) ?_
  rw [← hg2] at T t1
  refine T.trans (b := 7) (.cons (g1 := g2.top t [] F2) D1 (by rw [t1]; simp) (by rw [t1]; simp) ?_)
  exact .cons D2 (by rw [top_thr]; simp) (by rw [top_thr]; simp) (.cons D3 (by rw [top_thr]; simp) (by rw [top_thr]; simp) (.cons D4 (by rw [top_thr]; simp) (by rw [top_thr]; simp) (.cons D5 (by rw [top_thr]; simp) (by rw [top_thr]; simp) (.cons D6 (by rw [top_thr]; simp) (by rw [top_thr]; simp) (.cons D7 (by rw [top_thr]; simp) (by rw [top_thr]; simp) rfl)))))
/-- Words that Mint doesn't touch. -/
theorem made_w (st key a b : Nat) (l' o : Nat) (h : ¬ (l' = l ∧ (o = 0 ∨ (oNd B S x 0 ≤ o ∧ o < oNd B S x 0 + 5)))) : (madeG B S g t l x st key a b).w l' o = g.w l' o := by
  show ((((((g.set l 0 _).set l _ key).set l _ a).set l _ b).set l _ 0).set l _ _).w l' o = _
  unfold oNd at h ⊢
  rw [set_w, if_neg (by omega), set_w, if_neg (by omega), set_w, if_neg (by omega), set_w, if_neg (by omega), set_w, if_neg (by omega), set_w, if_neg (by omega)]
theorem made_0 (st key a b : Nat) : (madeG B S g t l x st key a b).w l 0 = mkTop (g.w l (oLk B x)) (cnt (g.w l 0) + 1) := by
  show ((((((g.set l 0 _).set l _ key).set l _ a).set l _ b).set l _ 0).set l _ _).w l 0 = _
  unfold oNd
  rw [set_w, if_neg (by omega), set_w, if_neg (by omega), set_w, if_neg (by omega), set_w, if_neg (by omega), set_w, if_neg (by omega), set_w, if_pos ⟨rfl, rfl⟩]
theorem made_node (st key a b : Nat) : (madeG B S g t l x st key a b).w l (oNd B S x 0) = mkHead (genOf (g.w l (oNd B S x 0))) st ∧ (madeG B S g t l x st key a b).w l (oNd B S x 1) = 0 ∧ (madeG B S g t l x st key a b).w l (oNd B S x 2) = key ∧ (madeG B S g t l x st key a b).w l (oNd B S x 3) = a ∧ (madeG B S g t l x st key a b).w l (oNd B S x 4) = b := by
  refine ⟨?_, ?_, ?_, ?_, ?_⟩
  · show (GM.set _ l _ _).w l _ = _
    rw [set_w, if_pos ⟨rfl, rfl⟩]
  · show ((GM.set _ l _ 0).set l _ _).w l _ = _
    rw [set_w, if_neg (fun h => by have := h.2; unfold oNd at this; omega), set_w, if_pos ⟨rfl, rfl⟩]
  · show ((((GM.set _ l _ key).set l _ a).set l _ b).set l _ 0 |>.set l _ _).w l _ = _
    rw [set_w, if_neg (fun h => by have := h.2; unfold oNd at this; omega), set_w, if_neg (fun h => by have := h.2; unfold oNd at this; omega), set_w, if_neg (fun h => by have := h.2; unfold oNd at this; omega), set_w, if_neg (fun h => by have := h.2; unfold oNd at this; omega), set_w, if_pos ⟨rfl, rfl⟩]
  · show (((GM.set _ l _ a).set l _ b).set l _ 0 |>.set l _ _).w l _ = _
    rw [set_w, if_neg (fun h => by have := h.2; unfold oNd at this; omega), set_w, if_neg (fun h => by have := h.2; unfold oNd at this; omega), set_w, if_neg (fun h => by have := h.2; unfold oNd at this; omega), set_w, if_pos ⟨rfl, rfl⟩]
  · show ((GM.set _ l _ b).set l _ 0 |>.set l _ _).w l _ = _
    rw [set_w, if_neg (fun h => by have := h.2; unfold oNd at this; omega), set_w, if_neg (fun h => by have := h.2; unfold oNd at this; omega), set_w, if_pos ⟨rfl, rfl⟩]
theorem made_held (st key a b : Nat) (l' y : Nat) : (madeG B S g t l x st key a b).held l' y = if l' = l ∧ y = x then true else g.held l' y := hold_held (g := g.set l 0 _) l' y
theorem LvR.made (I : LvR S B m g l (x :: r)) (hm : m < 900000) (hS60 : S ≤ 60) {st key a b : Nat} : LvR S B (m + 1) (madeG B S g t l x st key a b) l r := by
  have J := I.take (t := t) (fs := []) hm hS60
  obtain ⟨hs, hx1, hc2⟩ := I.chain
  obtain ⟨_, hx2, hh⟩ := I.rng x List.mem_cons_self
  have hgm := (I.hd x hx1 hx2).2
  have e0 : (madeG B S g t l x st key a b).w l 0 = (takeG B S g t l [] x).w l 0 := by
    rw [made_0]
    show _ = (g.set l 0 _).w l 0
    rw [set_w, if_pos ⟨rfl, rfl⟩]
  have ew : ∀ o, o ≠ 0 → ¬ (oNd B S x 0 ≤ o ∧ o < oNd B S x 0 + 5) → (madeG B S g t l x st key a b).w l o = (takeG B S g t l [] x).w l o := fun o h0 h => by
    rw [made_w _ _ _ _ _ _ (by omega)]
    show _ = (g.set l 0 _).w l o
    rw [set_w, if_neg (fun h => h0 h.2)]
  have elk : ∀ i, 1 ≤ i → i ≤ S → (madeG B S g t l x st key a b).w l (oLk B i) = (takeG B S g t l [] x).w l (oLk B i) := fun i h1 h2 => ew _ (by unfold oLk; omega) (by unfold oLk oNd; omega)
  have ehd : ∀ y, (madeG B S g t l x st key a b).held l y = (takeG B S g t l [] x).held l y := fun y => by
    rw [made_held]
    exact (hold_held (g := g.set l 0 _) l y).symm
  refine ⟨by rw [e0]; exact chainP_congr _ _ J.chain fun y hy => elk y (J.rng y hy).1 (J.rng y hy).2.1, J.nodup, fun y hy => ⟨(J.rng y hy).1, (J.rng y hy).2.1, by rw [ehd]; exact (J.rng y hy).2.2⟩, by rw [e0]; exact J.top, by rw [e0]; exact J.cntN, fun i h1 h2 => by rw [elk i h1 h2]; exact J.lk i h1 h2, fun i h1 h2 => ?_⟩
  by_cases e : i = x
  · subst e
    rw [(made_node st key a b).1]
    exact ⟨head_lt _ _, by rw [gen_head (by omega)]; omega⟩
  · rw [ew _ (by unfold oNd; omega) (by unfold oNd; omega)]; exact J.hd i h1 h2
end
/-- Slots from one on. -/
def slotsFrom (a m : Nat) : List Nat := (List.range m).map (· + a)
theorem slotsFrom_succ (a m : Nat) : slotsFrom a (m + 1) = a :: slotsFrom (a + 1) m := by
  unfold slotsFrom
  rw [List.range_succ_eq_map, List.map_cons, List.map_map, Nat.zero_add]
  congr 1
  apply List.map_congr_left
  intro x _
  show x + 1 + a = x + (a + 1)
  omega
theorem chain_from (lk : Nat → Nat) (S : Nat) : ∀ (m a : Nat), 1 ≤ a → a + m = S + 1 → (∀ i, a ≤ i → i < S → lk i = i + 1) → lk S = 0 → chainP lk (if m = 0 then 0 else a) (slotsFrom a m)
  | 0, _, _, _, _, _ => rfl
  | m + 1, a, h1, he, hk, hz => by
    rw [slotsFrom_succ, if_neg (by omega)]
    refine ⟨rfl, h1, ?_⟩
    have ih := chain_from lk S m (a + 1) (by omega) (by omega) (fun i h2 h3 => hk i (by omega) h3) hz
    by_cases hm : m = 0
    · subst hm
      rw [if_pos rfl] at ih
      rw [show a = S by omega, hz]
      exact ih
    · rw [if_neg hm] at ih
      rw [hk a (Nat.le_refl _) (by omega)]
      exact ih
theorem w0_lk (B S i : Nat) (h1 : 1 ≤ i) (h2 : i ≤ S) : (w0 B S S (oLk B i)).toNat = if 2 ≤ i ∧ i < S then i + 1 else 0 := by
  unfold w0 oLk
  by_cases h : 2 ≤ i ∧ i < S
  · rw [if_neg (by omega), if_neg (by omega), if_neg (by omega), if_pos (by omega), if_pos h]; omega
  · rw [if_neg (by omega), if_neg (by omega), if_neg (by omega), if_neg (by omega), if_neg h]; rfl
theorem w0_nd (B S i : Nat) (h1 : 1 ≤ i) : (w0 B S S (oNd B S i 0)).toNat = if i = 1 then 1 else 0 := by
  unfold w0 oNd
  by_cases h : i = 1
  · rw [if_neg (by omega), if_neg (by omega), if_pos (by omega), if_pos h]; rfl
  · rw [if_neg (by omega), if_neg (by omega), if_neg (by omega), if_neg (by omega), if_neg h]; rfl
theorem w0_fld (B S i j : Nat) (h1 : 1 ≤ i) (h2 : 1 ≤ j) (h3 : j < 5) : (w0 B S S (oNd B S i j)).toNat = 0 := by
  unfold w0 oNd
  rw [if_neg (by omega), if_neg (by omega), if_neg (by omega), if_neg (by omega)]; rfl
theorem lvR_first {B S : Nat} (hS : 2 ≤ S) (l : Nat) : LvR S B 0 (gm0 B S) l (slotsFrom 2 (S - 1)) := by
  have ez : (gm0 B S).w l 0 = 2 := rfl
  refine ⟨?_, ?_, fun x hx => ?_, by rw [ez]; decide, by rw [ez]; decide, fun i h1 h2 => ?_, fun i h1 h2 => ?_⟩
  · rw [ez, show slOf 2 = 2 by decide]
    have := chain_from (fun i => (w0 B S S (oLk B i)).toNat) S (S - 1) 2 (by omega) (by omega) (fun i h1 h2 => by show (w0 B S S (oLk B i)).toNat = _; rw [w0_lk B S i (by omega) (by omega), if_pos ⟨h1, h2⟩]) (by show (w0 B S S (oLk B S)).toNat = _; rw [w0_lk B S S (by omega) (by omega), if_neg (by omega)])
    rw [if_neg (by omega)] at this
    exact this
  · exact List.Pairwise.map _ (fun a b hab e => hab (by omega)) (List.nodup_range (n := S - 1))
  · obtain ⟨y, hy, rfl⟩ := List.mem_map.1 hx
    have := List.mem_range.1 hy
    refine ⟨by omega, by omega, ?_⟩
    show (y + 2 == 1) = false
    simp
  · show (w0 B S S (oLk B i)).toNat ≤ S
    rw [w0_lk B S i h1 h2]
    split <;> omega
  · show (w0 B S S (oNd B S i 0)).toNat < _ ∧ genOf (w0 B S S (oNd B S i 0)).toNat ≤ 0
    rw [w0_nd B S i h1]
    split
    · exact ⟨by decide, by decide⟩
    · exact ⟨by decide, by decide⟩
end
section
open Go.RowKit
set_option linter.unusedVariables false
set_option linter.unusedSimpArgs false
theorem info_int : (Tryz.prog.info? 3).map (fun i => (i.zero, i.size, i.bytes)) = some (some (.int .i64 0), 1, 8) := by kernel_rfl
theorem Has.box2 {σ w : World} {M : Mm} (h : Has σ M w) (o o' : Obj) : ∃ M', Has σ M' ((w.alloc o).alloc o') ∧ M.le M' ∧ M' w.heap.size = some o ∧ M' (w.heap.size + 1) = some o' ∧ M w.heap.size = none ∧ M (w.heap.size + 1) = none := by
  have ez : (w.alloc o).heap.size = w.heap.size + 1 := by simp
  have h1 := h.alloc o
  have h2 := h1.alloc o'
  have hf := h1.fresh
  rw [ez] at h2 hf
  exact ⟨_, h2, Mm.le_trans (Mm.le_upd' h.fresh _) (Mm.le_upd' hf _), Mm.le_upd' hf _ _ _ (Mm.upd_same _ _ _), Mm.upd_same _ _ _, h.fresh, Mm.none_of (Mm.le_upd' h.fresh o) hf⟩
end
section
open Go.RowKit
set_option linter.unusedVariables false
set_option linter.unusedSimpArgs false
set_option linter.unnecessarySimpa false
theorem refFirst_eq {σ w : World} {M : Mm} (h : Has σ M w) (c : Nat → Int) {L B S : Nat} (hn : Nums c L B S) (k : Nat) (hk : k ≤ 4) : Calls Tryz.prog 109 #[confV c, .int .i64 (k : Nat)] w fun r w' => r = .returned (.int .i64 ((k * (18 + B + 6 * S) : Nat) : Int)) ∧ Has σ M w' := by
  have r11 : (ints .i64 14 c)[11]? = some (.int .i64 (B : Nat)) := by rw [← hn.lim]; rfl
  have r10 : (ints .i64 14 c)[10]? = some (.int .i64 (S : Nat)) := by rw [← hn.slo]; rfl
  have hb := hn.b0
  have hs := hn.s0
  have w1 : IntKind.i64.wrap (18 + (B : Int)) = 18 + (B : Int) := IntWalk.i64_in _ (by omega)
  have w2 : IntKind.i64.wrap (6 * (S : Int)) = 6 * (S : Int) := IntWalk.i64_in _ (by omega)
  have w3 : IntKind.i64.wrap (18 + (B : Int) + 6 * (S : Int)) = 18 + (B : Int) + 6 * (S : Int) := IntWalk.i64_in _ (by omega)
  have hm : k * (18 + B + 6 * S) ≤ 4 * (18 + 40 + 6 * 60) := Nat.mul_le_mul hk (by omega)
  have w4 : IntKind.i64.wrap ((k : Int) * (18 + (B : Int) + 6 * (S : Int))) = (k : Int) * (18 + (B : Int) + 6 * (S : Int)) := by
    have e : (k : Int) * (18 + (B : Int) + 6 * (S : Int)) = ((k * (18 + B + 6 * S) : Nat) : Int) := by push_cast; rfl
    rw [e]
    exact IntWalk.i64_in _ (by omega)
  have E : Hid (((k * (18 + B + 6 * S) : Nat) : Int) = (k : Int) * (18 + (B : Int) + 6 * (S : Int))) := by show _ = _; push_cast; rfl
  rw [E.out]
  clear hb hs hm hn hk E
  unfold confV
  generalize ints .i64 14 c = row at r11 r10
  go_enter Tryz.func109, Tryz.ntmps109
  go_upto_region 1 with (fail)
  obtain ⟨M1, hbx, hle, hbf, hnf⟩ := h.box (.cells row 24)
  generalize w.alloc _ = wx at hbx ⊢
  generalize w.heap.size = bf at hbf hnf ⊢
  clear h
  try clear w
  have h := hbx
  clear hbx
  obtain ⟨w, rfl⟩ : ∃ x : World, x = wx := ⟨_, rfl⟩
  go_wp2_with (first
    | (with_reducible show wpList _ _ _ ({ dst := _, op := Op.load 3 _, type := _, pos := _, after := _, guard := _ } :: _) _ _; refine wpList_load1_has h rfl 3 _ rfl rfl hbf r11 Tryz.underlying3 rfl ?_)
    | (with_reducible show wpList _ _ _ ({ dst := _, op := Op.load 3 _, type := _, pos := _, after := _, guard := _ } :: _) _ _; refine wpList_load1_has h rfl 3 _ rfl rfl hbf r10 Tryz.underlying3 rfl ?_))
  go_ret
  exact ⟨rfl, h.le hle⟩
end
section
open Go.RowKit
set_option linter.unusedVariables false
set_option linter.unusedSimpArgs false
set_option linter.unnecessarySimpa false
set_option maxRecDepth 20000 in
theorem refWord_eq {σ w : World} {M : Mm} (h : Has σ M w) (c : Nat → Int) {L B S : Nat} (hn : Nums c L B S) (k : Nat) (hk : k < L) (i j : Nat) (hi : 1 ≤ i) (hi2 : i ≤ S) (hj : j < 5) : Calls Tryz.prog 110 #[confV c, .int .i64 (k : Nat), .int .i64 (i : Nat), .int .i64 (j : Nat)] w fun r w' => r = .returned (.int .i64 (((k * (18 + B + 6 * S) + (18 + B + S + (i - 1) * 5 + j) : Nat)) : Int)) ∧ Has σ M w' := by
  have r11 : (ints .i64 14 c)[11]? = some (.int .i64 (B : Nat)) := by rw [← hn.lim]; rfl
  have r10 : (ints .i64 14 c)[10]? = some (.int .i64 (S : Nat)) := by rw [← hn.slo]; rfl
  have hb := hn.b0
  have hs := hn.s0
  have hl := hn.l0
  have hm : k * (18 + B + 6 * S) ≤ 4 * (18 + 40 + 6 * 60) := Nat.mul_le_mul (by omega) (by omega)
  have e : (k : Int) * (18 + (B : Int) + 6 * (S : Int)) = ((k * (18 + B + 6 * S) : Nat) : Int) := by push_cast; rfl
  obtain ⟨z, hz⟩ : ∃ z : Nat, k * (18 + B + 6 * S) = z := ⟨_, rfl⟩
  rw [hz] at e hm
  rw [hz]
  have w1 : IntKind.i64.wrap (18 + (B : Int)) = 18 + (B : Int) := IntWalk.i64_in _ (by omega)
  have w2 : IntKind.i64.wrap (6 * (S : Int)) = 6 * (S : Int) := IntWalk.i64_in _ (by omega)
  have w3 : IntKind.i64.wrap (18 + (B : Int) + 6 * (S : Int)) = 18 + (B : Int) + 6 * (S : Int) := IntWalk.i64_in _ (by omega)
  have w4 : IntKind.i64.wrap ((k : Int) * (18 + (B : Int) + 6 * (S : Int))) = (z : Int) := by rw [e]; exact IntWalk.i64_in _ (by omega)
  have w5 : IntKind.i64.wrap ((z : Int) + 18) = (z : Int) + 18 := IntWalk.i64_in _ (by omega)
  have w6 : IntKind.i64.wrap ((z : Int) + 18 + (B : Int)) = (z : Int) + 18 + (B : Int) := IntWalk.i64_in _ (by omega)
  have w7 : IntKind.i64.wrap ((z : Int) + 18 + (B : Int) + (S : Int)) = (z : Int) + 18 + (B : Int) + (S : Int) := IntWalk.i64_in _ (by omega)
  obtain ⟨y, hy⟩ : ∃ y : Nat, i = y + 1 := ⟨i - 1, by omega⟩
  subst hy
  have w8 : IntKind.i64.wrap (((y + 1 : Nat) : Int) - 1) = (y : Int) := by rw [show ((y + 1 : Nat) : Int) - 1 = y by omega]; exact IntWalk.i64_in _ (by omega)
  have w9 : IntKind.i64.wrap (5 * (y : Int)) = 5 * (y : Int) := IntWalk.i64_in _ (by omega)
  have w10 : IntKind.i64.wrap ((z : Int) + 18 + (B : Int) + (S : Int) + 5 * (y : Int)) = (z : Int) + 18 + (B : Int) + (S : Int) + 5 * (y : Int) := IntWalk.i64_in _ (by omega)
  have w11 : IntKind.i64.wrap ((z : Int) + 18 + (B : Int) + (S : Int) + 5 * (y : Int) + (j : Int)) = (z : Int) + 18 + (B : Int) + (S : Int) + 5 * (y : Int) + (j : Int) := IntWalk.i64_in _ (by omega)
  have E : Hid (((z + (18 + B + S + (y + 1 - 1) * 5 + j) : Nat) : Int) = (z : Int) + 18 + (B : Int) + (S : Int) + 5 * (y : Int) + (j : Int)) := Lib.hid (by omega)
  rw [E.out]
  clear hb hs hl hm hn hk E e hz hi hi2 hj
  unfold confV
  generalize ints .i64 14 c = row at r11 r10
  generalize ((y + 1 : Nat) : Int) = iz at *
  go_enter Tryz.func110, Tryz.ntmps110
  go_upto_region 1 with (fail)
  obtain ⟨M1, hbx, hle, hbf, hnf⟩ := h.box (.cells row 24)
  generalize w.alloc _ = wx at hbx ⊢
  generalize w.heap.size = bf at hbf hnf ⊢
  clear h
  try clear w
  have h := hbx
  clear hbx
  obtain ⟨w, rfl⟩ : ∃ x : World, x = wx := ⟨_, rfl⟩
  go_wp2_with (first
    | (with_reducible show wpList _ _ _ ({ dst := _, op := Op.load 3 _, type := _, pos := _, after := _, guard := _ } :: _) _ _; refine wpList_load1_has h rfl 3 _ rfl rfl hbf r11 Tryz.underlying3 rfl ?_)
    | (with_reducible show wpList _ _ _ ({ dst := _, op := Op.load 3 _, type := _, pos := _, after := _, guard := _ } :: _) _ _; refine wpList_load1_has h rfl 3 _ rfl rfl hbf r10 Tryz.underlying3 rfl ?_))
  go_ret
  exact ⟨rfl, h.le hle⟩
/-- A word of a row of words. -/
theorem word_at {f : Nat → Int} {N k : Nat} (hk : k < N) {v : Int} (hv : f k = v) : (ints .u64 N f)[k]? = some (.int .u64 v) := by rw [ints_get hk, hv]
end
section
open Go.RowKit
set_option linter.unusedVariables false
def levT (c : Nat → Int) (t : Nat) : Nat := (levelOf c t).toNat
theorem levT_of {c : Nat → Int} {L B S T : Nat} (hc : ConfMay c) (hn : Nums c L B S) (hT : c 1 = (T : Nat)) {t : Nat} (ht : t < T) : levelOf c (t : Nat) = (levT c t : Nat) ∧ levT c t < L := by
  obtain ⟨_, ⟨a3, a4⟩, _, a5, _⟩ := id hc
  have h8 := a5 t (by omega)
  have hl : levelOf c (t : Nat) = c (2 + t) := by
    unfold levelOf
    rw [if_pos ⟨decide_eq_true hc, by omega, by omega⟩, Int.toNat_natCast]
  have hlev := hn.lev
  unfold levT
  rw [hl]
  omega
theorem levT_out {c : Nat → Int} {T : Nat} (hT : c 1 = (T : Nat)) {t : Int} (ht : ¬ (0 ≤ t ∧ t < T)) : levelOf c t = -1 := by
  unfold levelOf
  exact if_neg fun g => ht ⟨g.2.1, by have := g.2.2; omega⟩
theorem lev_cell {c : Nat → Int} {L B S T : Nat} (hc : ConfMay c) (hn : Nums c L B S) (hT : c 1 = (T : Nat)) {y : Nat} (hy : y < T) : c (2 + y) = (levT c y : Nat) := by
  rw [← (levT_of hc hn hT hy).1]
  unfold levelOf
  rw [if_pos ⟨decide_eq_true hc, by omega, by omega⟩, Int.toNat_natCast]
end
section
open Go.RowKit
set_option linter.unusedVariables false
set_option linter.unusedSimpArgs false
set_option linter.unnecessarySimpa false
theorem zN : (Tryz.prog.info? 89).bind (·.zero) = some (.agg (ints .u64 5 fun _ => 0)) := by kernel_rfl
/-- A node's words. -/
def nodeN (B S : Nat) (g : GM) (l i : Nat) : Nat → Int := fun j => (g.w l (oNd B S i j) : Nat)
set_option maxHeartbeats 4000000 in
set_option maxRecDepth 20000 in
theorem refRead25_eq {σ w : World} {M : Mm} (h : Has σ M w) (c : Nat → Int) {L B S N bw l i : Nat} (hn : Nums c L B S) (hN : N = L * (18 + B + 6 * S)) {f v : Nat → Int} (hb : M bw = some (.cells (ints .u64 N f) 42)) (hl : l < L) (h1 : 1 ≤ i) (h2 : i ≤ S) (hv : ∀ j, j < 5 → f (l * (18 + B + 6 * S) + (18 + B + S + (i - 1) * 5 + j)) = v j) : Calls Tryz.prog 114 #[confV c, .slice (some ⟨bw, 0, none⟩) N N, .int .i64 (l : Nat), .int .i64 (i : Nat)] w fun r w' => r = .returned (.agg (ints .u64 5 v)) ∧ Has σ M w' := by
  have hl0 := hn.l0
  have hb0 := hn.b0
  have hs0 := hn.s0
  have FI : Hid (∀ (M' : Mm) (w : World), Has σ M' w → Calls Tryz.prog 109 #[confV c, .int .i64 (L : Nat)] w fun r w' => r = .returned (.int .i64 (N : Nat)) ∧ Has σ M' w') := Lib.hid (fun (M' : Mm) (w : World) (h : Has σ M' w) => by have := refFirst_eq h c hn L (by omega); rw [← hN] at this; exact this)
  have WO := Lib.hid (fun (M' : Mm) (w : World) (h : Has σ M' w) => refWord_eq h c hn l hl i 0 h1 h2 (by omega))
  have r0 : (ints .i64 14 c)[0]? = some (.int .i64 (L : Nat)) := by rw [← hn.lev]; rfl
  have r10 : (ints .i64 14 c)[10]? = some (.int .i64 (S : Nat)) := by rw [← hn.slo]; rfl
  have hN2 : N ≤ 4 * (18 + 40 + 6 * 60) := by subst hN; exact Nat.mul_le_mul (by omega) (by omega)
  have hlt : l * (18 + B + 6 * S) + (18 + B + 6 * S) ≤ N := by
    subst hN
    have := Nat.mul_le_mul_right (18 + B + 6 * S) (show l + 1 ≤ L by omega)
    rw [Nat.succ_mul] at this
    exact this
  obtain ⟨a, ha⟩ : ∃ a, l * (18 + B + 6 * S) + (18 + B + S + (i - 1) * 5 + 0) = a := ⟨_, rfl⟩
  rw [ha] at WO
  have haN : a + 5 ≤ N := by omega
  have fa : ∀ j, j < 5 → (ints .u64 N f)[a + j]? = some (.int .u64 (v j)) := fun j hj => by
    rw [ints_get (by omega), ← hv j hj, ← ha, Nat.add_zero, Nat.add_assoc]
  have g0 := fa 0 (by omega)
  have g1 := fa 1 (by omega)
  have g2 := fa 2 (by omega)
  have g3 := fa 3 (by omega)
  have g4 := fa 4 (by omega)
  rw [Nat.add_zero] at g0
  have gl : ¬ (l : Int) < 0 := by omega
  have gL : ¬ (L : Int) ≤ (l : Int) := by omega
  have gi : ¬ (i : Int) < 1 := by omega
  have gS : ¬ (S : Int) < (i : Int) := by omega
  have w1 : IntKind.i64.wrap ((a : Int) + 1) = ((a + 1 : Nat) : Int) := by rw [show (a : Int) + 1 = ((a + 1 : Nat) : Int) by omega]; exact IntWalk.i64_in _ (by omega)
  have w2 : IntKind.i64.wrap ((a : Int) + 2) = ((a + 2 : Nat) : Int) := by rw [show (a : Int) + 2 = ((a + 2 : Nat) : Int) by omega]; exact IntWalk.i64_in _ (by omega)
  have w3 : IntKind.i64.wrap ((a : Int) + 3) = ((a + 3 : Nat) : Int) := by rw [show (a : Int) + 3 = ((a + 3 : Nat) : Int) by omega]; exact IntWalk.i64_in _ (by omega)
  have w4 : IntKind.i64.wrap ((a : Int) + 4) = ((a + 4 : Nat) : Int) := by rw [show (a : Int) + 4 = ((a + 4 : Nat) : Int) by omega]; exact IntWalk.i64_in _ (by omega)
  have l0 : (a : Int) < (N : Int) := by omega
  have l1 : ((a + 1 : Nat) : Int) < (N : Int) := by omega
  have l2 : ((a + 2 : Nat) : Int) < (N : Int) := by omega
  have l3 : ((a + 3 : Nat) : Int) < (N : Int) := by omega
  have l4 : ((a + 4 : Nat) : Int) < (N : Int) := by omega
  have hx : (ints .i64 14 c).extract 0 (0 + 14) = ints .i64 14 c := rfl
  have hz : (ints .i64 14 c).size = 14 := rfl
  have VR : Hid ((#[.int .u64 (v 0), .int .u64 (v 1), .int .u64 (v 2), .int .u64 (v 3), .int .u64 (v 4)] : Array Value) = ints .u64 5 v) := rfl
  unfold confV at FI WO ⊢
  generalize ints .i64 14 c = row at *
  generalize hwr : ints .u64 N f = wrow at *
  generalize v 0 = v0 at *
  generalize v 1 = v1 at *
  generalize v 2 = v2 at *
  generalize v 3 = v3 at *
  generalize v 4 = v4 at *
  clear hwr hlt hN2 hN ha hn fa hv haN hl0 hb0 hs0
  generalize a + 1 = a1 at *
  generalize a + 2 = a2 at *
  generalize a + 3 = a3 at *
  generalize a + 4 = a4 at *
  go_enter Tryz.func114, Tryz.ntmps114
  go_upto_region 1 with (first
    | ((with_reducible show wpList _ _ _ ({ dst := _, op := Op.box 24 _, type := _, pos := _, after := _, guard := _ } :: _) _ _); refine wpList_box_has h rfl 24 _ rfl ?_; clear h; intro bf w h hnf; try simp only [Act.put, List.setIfInBounds_toArray, List.set_cons_zero, List.set_cons_succ])
    | ((with_reducible show wpList _ _ _ ({ dst := _, op := Op.alloc 89, type := _, pos := _, after := _, guard := _ } :: _) _ _); refine wpList_alloc_has h rfl 89 rfl _ zN ?_; clear h; intro b6 w h hn6; try simp only [Act.put, List.setIfInBounds_toArray, List.set_cons_zero, List.set_cons_succ]))
  have hle1 : M.le ((M.upd bf (.cells row 24)).upd b6 (.cells (ints .u64 5 fun _ => 0) 89)) := Mm.le_trans (Mm.le_upd' hnf _) (Mm.le_upd' hn6 _)
  have hbf : ((M.upd bf (.cells row 24)).upd b6 (.cells (ints .u64 5 fun _ => 0) 89)) bf = some (.cells row 24) := Mm.upd_of hn6 (Mm.upd_same _ _ _)
  have hb6 : ((M.upd bf (.cells row 24)).upd b6 (.cells (ints .u64 5 fun _ => 0) 89)) b6 = some (.cells (ints .u64 5 fun _ => 0) 89) := Mm.upd_same _ _ _
  have hn0 : M b6 = none := Mm.none_of (Mm.le_upd' hnf _) hn6
  replace h : Has σ ((M.upd bf (.cells row 24)).upd b6 (.cells (ints .u64 5 fun _ => 0) 89)) w := h
  generalize (M.upd bf (.cells row 24)).upd b6 _ = M2 at h hle1 hbf hb6
  have hbw := hle1 _ _ hb
  go_upto_region 4 with (first
    | (with_reducible show wpList _ _ _ ({ dst := _, op := Op.load 3 _, type := _, pos := _, after := _, guard := _ } :: _) _ _; refine wpList_load1_has h rfl 3 _ rfl rfl hbf r0 Tryz.underlying3 rfl ?_)
    | (with_reducible show wpList _ _ _ ({ dst := _, op := Op.load 3 _, type := _, pos := _, after := _, guard := _ } :: _) _ _; refine wpList_load1_has h rfl 3 _ rfl rfl hbf r10 Tryz.underlying3 rfl ?_)
    | ((with_reducible show wpList _ _ _ ({ dst := _, op := Op.load 24 _, type := _, pos := _, after := _, guard := _ } :: _) _ _); refine wpList_agg_has h rfl 24 _ rfl rfl hbf hx hz Tryz.underlying24 rfl (by kernel_rfl) ?_; try simp only [Act.put, List.setIfInBounds_toArray, List.set_cons_zero, List.set_cons_succ])
    | (go_at_call 109; refine (FI.out _ _ h).mono ?_; clear h; rintro _ w ⟨rfl, h⟩)
    | (go_at_call 110; refine (WO.out _ _ h).mono ?_; clear h; rintro _ w ⟨rfl, h⟩))
  refine wp_region_head (Has σ M2) 25 (by kernel_rfl) (by kernel_rfl) (fun _ _ _ _ _ h => h) h.drew ?_
  clear h
  simp only [List.take_succ_cons, List.take_zero, List.drop_succ_cons, List.drop_zero]
  repeat (first
    | go_big_quiet_skip
    | (go_big_quiet_want; first
      | (refine quiet_load_has 42 _ rfl rfl hbw g0 Tryz.underlying42 rfl ?_; simp only [Act.put, List.setIfInBounds_toArray, List.set_cons_zero, List.set_cons_succ]; go_big_quiet_on)
      | (refine quiet_load_has 42 _ rfl rfl hbw g1 Tryz.underlying42 rfl ?_; simp only [Act.put, List.setIfInBounds_toArray, List.set_cons_zero, List.set_cons_succ]; go_big_quiet_on)
      | (refine quiet_load_has 42 _ rfl rfl hbw g2 Tryz.underlying42 rfl ?_; simp only [Act.put, List.setIfInBounds_toArray, List.set_cons_zero, List.set_cons_succ]; go_big_quiet_on)
      | (refine quiet_load_has 42 _ rfl rfl hbw g3 Tryz.underlying42 rfl ?_; simp only [Act.put, List.setIfInBounds_toArray, List.set_cons_zero, List.set_cons_succ]; go_big_quiet_on)
      | (refine quiet_load_has 42 _ rfl rfl hbw g4 Tryz.underlying42 rfl ?_; simp only [Act.put, List.setIfInBounds_toArray, List.set_cons_zero, List.set_cons_succ]; go_big_quiet_on)
      | (go_big_quiet_op; first | go_big_quiet_on | go_big_quiet_call (first | with_reducible exact fun _ => rfl))))
  refine wpQuiet_nil ?_
  try clear w
  intro w h
  go_wp2_with (first
    | ((with_reducible show wpList _ _ _ ({ dst := _, op := Op.store 89 _ _, type := _, pos := _, after := _, guard := _ } :: _) _ _); (refine wpList_storeAll_has (cells := #[.int .u64 v0, .int .u64 v1, .int .u64 v2, .int .u64 v3, .int .u64 v4]) h rfl 89 _ _ rfl rfl rfl hb6 rfl rfl rfl (by kernel_rfl) rfl ?_); clear h; intro w h))
  rw [← VR.out]
  exact bodyPost_ret (results_cell_row rfl _ _ _ _ _ _ _ rfl (h.at_ b6 _ (Mm.upd_same _ _ _)) Tryz.underlying89 rfl (by kernel_rfl)) rfl ⟨rfl, h.le (Mm.le_upd hle1 hn0 _)⟩
set_option maxHeartbeats 4000000 in
set_option maxRecDepth 20000 in
theorem node25_eq {σ w : World} {M : Mm} {lab : Nat → Nat} {p n l i L B S : Nat} {s : MachS} {c : Nat → Int} {tp : List Nat} {g : GM} (h : Has σ M w) (hM : Mach M lab p s) (hA : AbsM c tp n s g) (hn : Nums c L B S) (hl : l < L) (h1 : 1 ≤ i) (h2 : i ≤ S) : Calls Tryz.prog 81 #[.pointer (some ⟨p, 0, none⟩), .int .i64 (l : Nat), .int .i64 (i : Nat)] w fun r w' => r = .returned (.agg (ints .u64 5 (nodeN B S g l i))) ∧ Has σ M w' := by
  obtain rfl := hA.cc
  have hl0 := hn.l0
  have hb0 := hn.b0
  have hs0 := hn.s0
  have hN1 : s.mem.N = L * (18 + B + 6 * S) := by
    have h1 := hM.memN
    rw [hn.lev, hn.sz, ← Int.natCast_mul] at h1
    exact Int.ofNat_inj.1 h1
  have hN2 : L * (18 + B + 6 * S) ≤ 4 * (18 + 40 + 6 * 60) := Nat.mul_le_mul (by omega) (by omega)
  have PL := Lib.hid (fun (M' : Mm) (hle : M.le M') (w : World) (h : Has σ M' w) => mPlan_eq h (hM.keep (Kp.le hle fun _ => 0) fun _ _ h => h))
  have CF := Lib.hid (fun (M' : Mm) (hle : M.le M') (w : World) (h : Has σ M' w) => conf_has h s.c (hM.keep (Kp.le hle fun _ => 0) fun _ _ h => h).plan)
  have ME := Lib.hid (fun (M' : Mm) (hle : M.le M') (w : World) (h : Has σ M' w) => mMem_eq h (hM.keep (Kp.le hle fun _ => 0) fun _ _ h => h))
  have WO := Lib.hid (fun (M' : Mm) (hle : M.le M') (w : World) (h : Has σ M' w) => memWords_eq h (hM.keep (Kp.le hle fun _ => 0) fun _ _ h => h).mem (by omega))
  have RD : Hid (∀ (M' : Mm) (w : World) (bw : Nat), Has σ M' w → M' bw = some (.cells (ints .u64 s.mem.N s.mem.f) 42) → Calls Tryz.prog 114 #[.agg (ints .i64 14 s.c), .slice (some ⟨bw, 0, none⟩) s.mem.N s.mem.N, .int .i64 (l : Nat), .int .i64 (i : Nat)] w fun r w' => r = .returned (.agg (ints .u64 5 (nodeN B S g l i))) ∧ Has σ M' w') := Lib.hid fun M' w bw h hb =>
    refRead25_eq h s.c hn hN1 hb hl h1 h2 fun j hj => by
      have := hA.words l (oNd B S i j) (by rw [hn.lev]; omega) (by rw [hn.sz]; unfold oNd; omega)
      rw [hn.sz, Int.toNat_natCast] at this
      exact this
  clear hA hn hM hN1 hN2 hl hl0 hb0 hs0 h1 h2
  have eR : s.mem.row = .cells (ints .u64 s.mem.N s.mem.f) 42 := rfl
  rw [eR] at WO
  clear eR
  have d1 : (ints .u64 5 (nodeN B S g l i)).toList.all (·.oneCell') = true := rfl
  have dz : (ints .u64 5 (nodeN B S g l i)).size = 5 := ints_size _ _ _
  have dzz : (ints .u64 5 fun _ => (0 : Int)).size = 5 := ints_size _ _ _
  generalize ints .u64 5 (nodeN B S g l i) = erow at *
  generalize ints .i64 14 s.c = row at *
  generalize ints .u64 s.mem.N s.mem.f = wrow at *
  generalize s.mem.N = N at *
  go_enter Tryz.func81, Tryz.ntmps81
  go_upto_region 1 with (first
    | ((with_reducible show wpList _ _ _ ({ dst := _, op := Op.alloc 89, type := _, pos := _, after := _, guard := _ } :: _) _ _); refine wpList_alloc_has h rfl 89 rfl _ zN ?_; clear h; intro b4 w h hn4; try simp only [Act.put, List.setIfInBounds_toArray, List.set_cons_zero, List.set_cons_succ]))
  have hle := Mm.le_upd' hn4 (.cells (ints .u64 5 fun _ => 0) 89)
  have hb4 := Mm.upd_same M b4 (.cells (ints .u64 5 fun _ => 0) 89)
  replace h : Has σ (M.upd b4 (.cells (ints .u64 5 fun _ => 0) 89)) w := h
  generalize M.upd b4 _ = M1 at h hle hb4
  have PL1 := Lib.hid (PL.out M1 hle)
  have CF1 := Lib.hid (CF.out M1 hle)
  have ME1 := Lib.hid (ME.out M1 hle)
  have WO1 := Lib.hid (WO.out M1 hle)
  clear PL CF ME WO
  go_wp2_with (first
    | (go_at_call 57; refine (PL1.out _ h).mono ?_; clear h; rintro _ w ⟨rfl, h⟩)
    | (go_at_call 58; refine (CF1.out _ h).mono ?_; clear h; rintro _ w ⟨rfl, h⟩)
    | (go_at_call 46; refine (ME1.out _ h).mono ?_; clear h; rintro _ w ⟨rfl, h⟩)
    | ((go_at_call 47; refine (WO1.out _ h).mono ?_; clear h; rintro _ w ⟨bw, M3, rfl, h, hle3, hnw, hbw⟩; have hb43 := hle3 _ _ hb4))
    | ((go_at_call 114; refine (RD.out M3 _ bw h hbw).mono ?_; clear h; rintro _ w ⟨rfl, h⟩))
    | ((with_reducible show wpList _ _ _ ({ dst := _, op := Op.store 89 _ _, type := _, pos := _, after := _, guard := _ } :: _) _ _); (refine wpList_storeAll_has (cells := erow) h rfl 89 _ _ rfl rfl rfl hb43 rfl dzz dz (by kernel_rfl) d1 ?_); clear h; intro w h))
  exact bodyPost_ret (results_cell_row rfl _ _ _ _ _ _ _ rfl (h.at_ b4 _ (Mm.upd_same _ _ _)) Tryz.underlying89 rfl (by rw [dz]; kernel_rfl)) rfl ⟨rfl, h.le (Mm.le_upd (Mm.le_trans hle hle3) hn4 _)⟩
/-- What Mint makes, of any free list. -/
def mintR (B S : Nat) (g : GM) (t l : Nat) (Ls us : List Nat) : GM := match Ls with | [] => g.back t [] [0] | x :: _ => madeG B S g t l x (us.getD 0 0) (us.getD 1 0) (us.getD 2 0) (us.getD 3 0)
/-- Mint alone. -/
theorem mint_alone {σ w : World} {K M : Mm} {lab : Nat → Nat} {p t q n L B S T m : Nat} {s : MachS} {c : Nat → Int} {tp : List Nat} {g : GM} (h : Has σ M w) (hM : Mach M lab p s) (hB : Base K M lab) (hA : AbsM c tp n s g) (hc : ConfMay c) (hn : Nums c L B S) (hT : c 1 = (T : Nat)) (hn8 : n < 80000) (hm : m < 900000) (ht : t < T) (hq : tp[t]? = some q) (hi : g.thr t = []) {Ls : List Nat} (I : LvR S B m g (levT c t) Ls) {us : List Nat} {rv : Value} (hr : Rd M 1 rv us.length (u64s (us.map fun u : Nat => (u : Int)))) (hu : us.length ≤ 16) (hst : us.getD 0 0 < 256) {most : Nat} (h12 : 12 ≤ most) (hmo : most < 1000) :
    Calls Tryz.prog 14 #[.pointer (some ⟨p, 0, none⟩), .int .i64 (t : Nat), (.func (.func 41) #[] #[]), .int .i64 (most : Nat), .int .i64 (30 : Nat), rv] w fun r w' => ∃ k : Nat, r = .returned (.int .i64 (k : Nat)) ∧ 0 < k ∧ k ≤ 12 ∧ ∃ M' lab' s', Has σ M' w' ∧ Mach M' lab' p s' ∧ Base K M' lab' ∧ AbsM c tp (n + k) s' (mintR B S g t (levT c t) Ls us) := by
  obtain ⟨elv, ll⟩ := levT_of hc hn hT ht
  have ht1 : (t : Int) < c 1 := by rw [hT]; omega
  have hlc : (levT c t : Int) < c 0 := by rw [hn.lev]; omega
  have hs60 := hn.s0.2
  cases Ls with
  | nil =>
    have S1 := steps_mint_no (σ := σ) (p := p) (n := n) (g := g.top t [] ⟨30, 0, fun i => us.getD i 0⟩) (F := ⟨30, 0, fun i => us.getD i 0⟩) hn8 ht1 hq elv hlc top_thr hn.lim hn.slo hs60 hm (I.atop [] _) rfl rfl rfl
    rw [top_back] at S1
    refine (S1.alone h hM hB hA (by omega) ht1 hq elv hi hr hu back_thr' (by omega) (by omega) hmo (by kernel_rfl)).mono fun r w' ⟨hr, a⟩ => ⟨4, hr, by omega, by omega, a⟩
  | cons x r =>
    have S1 := steps_mint (σ := σ) (p := p) (n := n) (g := g.top t [] ⟨30, 0, fun i => us.getD i 0⟩) (F := ⟨30, 0, fun i => us.getD i 0⟩) hn8 ht1 hq elv hlc top_thr hn.lim hn.slo hs60 hm (I.atop [] _) rfl rfl hst rfl
    refine (S1.alone h hM hB hA (by omega) ht1 hq elv hi hr hu back_thr' (by omega) h12 hmo (by kernel_rfl)).mono fun r w' ⟨hr, M', lab', s', a1, a2, a3, a4⟩ => ⟨12, hr, by omega, by omega, M', lab', s', a1, a2, a3, ?_⟩
    have e : madeG B S (g.top t [] ⟨30, 0, fun i => us.getD i 0⟩) t (levT c t) x (us.getD 0 0) (us.getD 1 0) (us.getD 2 0) (us.getD 3 0) = madeG B S g t (levT c t) x (us.getD 0 0) (us.getD 1 0) (us.getD 2 0) (us.getD 3 0) := by
      unfold madeG madeW
      have e : ∀ o, (g.top t [] ⟨30, 0, fun i => us.getD i 0⟩).w (levT c t) o = g.w (levT c t) o := fun _ => rfl
      rw [e, e, e, top_set, top_hold, top_set, top_set, top_set, top_set, top_set, top_back]
    show AbsM c tp (n + 12) s' (madeG B S g t (levT c t) x (us.getD 0 0) (us.getD 1 0) (us.getD 2 0) (us.getD 3 0))
    rw [← e]; exact a4
/-- What a thread was told last. -/
theorem m_told {M : Mm} {lab : Nat → Nat} {p t q n : Nat} {s : MachS} {c : Nat → Int} {tp : List Nat} {g : GM} (hM : Mach M lab p s) (hA : AbsM c tp n s g) (hq : tp[t]? = some q) : ∃ row ty, M q = some (.cells row ty (0, 0)) ∧ row[0]? = some (.int .u64 (g.told t 0 : Nat)) ∧ row[1]? = some (.int .u64 (g.told t 1 : Nat)) := by
  obtain ⟨fv, hv, fbs, hTh⟩ := hM.each t q (by rw [hA.ttp]; exact hq)
  refine ⟨_, _, hTh.obj, ?_, ?_⟩
  · show some (Value.int .u64 ((s.thr t).told 0)) = _
    rw [hA.thr.told t 0]
  · show some (Value.int .u64 ((s.thr t).told 1)) = _
    rw [hA.thr.told t 1]
theorem nodup_lt {m : Nat} {l : List Nat} (h : l.Nodup) (hl : ∀ x ∈ l, x < m) : l.length ≤ m := by
  have e : l.length = ((List.range m).filter fun x => decide (x ∈ l)).length := List.Perm.length_eq ((List.perm_ext_iff_of_nodup h (List.Nodup.sublist List.filter_sublist List.nodup_range)).2 fun x => by
    rw [List.mem_filter, List.mem_range, decide_eq_true_eq]
    exact ⟨fun hx => ⟨hl x hx, hx⟩, fun hx => hx.2⟩)
  rw [e]
  exact Nat.le_trans (List.length_filter_le _ _) (by simp)
theorem held_eq {σ w : World} {M : Mm} {lab : Nat → Nat} {p n l L B S : Nat} {s : MachS} {c : Nat → Int} {tp : List Nat} {g : GM} (h : Has σ M w) (hM : Mach M lab p s) (hA : AbsM c tp n s g) (hn : Nums c L B S) (hl : l < L) : Calls Tryz.prog 27 #[.pointer (some ⟨s.wp, 0, none⟩), .int .i64 (l : Nat)] w fun r w' => r = .returned (.int .i64 (nHeld (g.held l) S : Nat)) ∧ Has σ M w' := by
  have e := allE_held (held := g.held l) (l := l) (S := S) hA.ward.keys hA.ward.once hn.slo (by rw [hn.lev]; omega) (fun i h1 h2 => hA.ward.held l i (by rw [hn.lev]; omega) h1 h2)
  have hlen : s.ward.held.length ≤ 1000 := by
    have hk := hA.ward.keys
    have ho := hA.ward.once
    have hl0 := hn.l0
    have hs0 := hn.s0
    rw [hn.lev, hn.slo] at hk
    have hsub : (s.ward.held.map fun x => (x.l.toNat * 64 + x.s.toNat)).Nodup := by
      unfold OnceE at ho
      rw [List.nodup_iff_pairwise_ne, List.pairwise_map] at ho ⊢
      refine List.Pairwise.imp_of_mem (fun {a b} ha hb hab e => hab ?_) ho
      have ka := hk a ha
      have kb := hk b hb
      exact Prod.ext (by show a.l = b.l; omega) (by show a.s = b.s; omega)
    have hle := nodup_lt hsub (m := 320) (fun y hy => by
      obtain ⟨x, hx, rfl⟩ := List.mem_map.1 hy
      have := hk x hx
      omega)
    rw [List.length_map] at hle
    omega
  rw [← e]
  exact wardHeld_eq h hM.ward (l : Nat) hA.ward.hst.2 hA.ward.hst.1 hlen
end
section
theorem natv_len (l : List Nat) : (natv l).length = l.length := by simp [natv]
end
section
open Go.RowKit
set_option linter.unusedVariables false
set_option linter.unusedSimpArgs false
set_option linter.unnecessarySimpa false
section
variable {M : Mm} {A : Option Addr} {n c l k : Nat} {xs : List Value}
theorem Rd.from_ (h : Rd M 1 (.slice A n c) n xs) (hl : l ≤ n) : Rd M 1 (sliced A l n c 1) (n - l) (xs.drop l) := by
  obtain ⟨h1, A', c', e, hc, hA⟩ := h
  cases e
  refine ⟨by rw [List.length_drop, h1]; omega, _, _, rfl, by omega, fun h0 => ?_⟩
  obtain ⟨b, o, cs, t, fz, rfl, hb, hx⟩ := hA (by omega)
  refine ⟨b, o + l, cs, t, fz, ?_, hb, fun j u hu => ?_⟩
  · rw [if_neg (by omega)]
    simp [Addr.add_mid]
  · rw [List.getElem?_drop] at hu
    rw [Nat.add_assoc]
    exact hx _ _ hu
theorem Rd.upto (h : Rd M 1 (.slice A n c) n xs) (hk : k ≤ n) : Rd M 1 (sliced A 0 k c 1) k (xs.take k) := by
  obtain ⟨h1, A', c', e, hc, hA⟩ := h
  cases e
  refine ⟨by rw [List.length_take, h1]; omega, _, _, rfl, by omega, fun h0 => ?_⟩
  obtain ⟨b, o, cs, t, fz, rfl, hb, hx⟩ := hA (by omega)
  refine ⟨b, o, cs, t, fz, ?_, hb, fun j u hu => ?_⟩
  · rw [if_neg (by omega)]
    simp [Addr.add_mid]
  · rw [List.getElem?_take] at hu
    split at hu
    · exact hx _ _ hu
    · cases hu
theorem slice_from (hl : l ≤ n) (w : World) : (Instr.sliceAt 47 (.slice A n c) (some (.int .i64 (l : Nat))) none none).run Tryz.prog w = .ok (sliced A l n c 1) w := by
  have hu : Tryz.prog.underlying 47 = some (.slice (Tryz.prog.elem 47)) := by kernel_rfl
  have hs : ∀ w, (sizeOf (Tryz.prog.elem 47)).run Tryz.prog w = .ok 1 w := fun w => by kernel_rfl
  rw [run_sliceAt_slice _ _ _ _ _ _ hu, run_slice_l _ _ _ _ _ hu .i64 _ (by omega) (by omega), hs]
  simp only [Result.andThen_ok, Int.toNat_natCast]
theorem slice_upto (hk : k ≤ c) (w : World) : (Instr.sliceAt 47 (.slice A n c) none (some (.int .i64 (k : Nat))) none).run Tryz.prog w = .ok (sliced A 0 k c 1) w := by
  have hu : Tryz.prog.underlying 47 = some (.slice (Tryz.prog.elem 47)) := by kernel_rfl
  have hs : ∀ w, (sizeOf (Tryz.prog.elem 47)).run Tryz.prog w = .ok 1 w := fun w => by kernel_rfl
  rw [run_sliceAt_slice _ _ _ _ _ _ hu, run_slice_h _ _ _ _ _ hu .i64 _ (by omega) (by omega), hs]
  simp only [Result.andThen_ok, Int.toNat_natCast]
end
theorem natv_one (l : List Nat) : ∀ v ∈ natv l, v.oneCell' = true := by
  intro v hv
  simp only [natv, List.mem_map] at hv
  obtain ⟨x, _, rfl⟩ := hv
  rfl
theorem natv_get {l : List Nat} {i x : Nat} (h : l[i]? = some x) : (natv l)[i]? = some (.int .i64 (x : Nat)) := by simp [natv, h]
theorem results_cell_row2 {P : Program} {fn : Func} {p u v : Tmp} {ty : TypeId} (h : fn.results = #[.cell p ty, .tmp u, .tmp v]) (tmps : Array Value) (w : World) (g : Nat) (t : TypeId) (cs : Array Value) (fr : Nat × Nat) (d : TypeDesc)
    (hp : tmps.getD p undef = .pointer (some ⟨g, 0, none⟩)) (hg : w.heap[g]? = some (.cells cs t fr))
    (hu : P.underlying ty = some d) (hd : (match d with | .struct _ | .array _ _ => true | _ => false) = true) (hi : (P.info? ty).map (·.size) = some cs.size) :
    (results fn tmps).run P w = .ok (.tuple #[.agg cs, tmps.getD u undef, tmps.getD v undef]) w := by
  have hp' : tmps[p]?.getD undef = .pointer (some ⟨g, 0, none⟩) := by simpa using hp
  simp [results, h, hp', asAddr, run_loadVar_row w g t ty cs fr d hg hu hd hi]
theorem zF : (Tryz.prog.info? 83).bind (·.zero) = some (.agg #[.slice none 0 0, .slice none 0 0]) := by kernel_rfl
section
variable {σ w : World} {M : Mm}
set_option maxHeartbeats 1000000 in
/-- Take of an empty list. -/
theorem refTake_no (h : Has σ M w) {vL vG : Value} {m : Nat} {ys : List Value} (hL : Rd M 1 vL 0 []) (hG : Rd M 1 vG m ys) : Calls Tryz.prog 42 #[.agg #[vL, vG]] w fun r w' => r = .returned (.tuple #[.agg #[vL, vG], .int .i64 0, .int .i64 0]) ∧ Has σ M w' := by
  obtain ⟨A, cap, rfl⟩ := hL.form
  obtain ⟨B, cap2, rfl⟩ := hG.form
  clear hL hG
  have hx : (#[.slice A 0 cap, .slice B m cap2] : Array Value).extract 0 (0 + 2) = #[.slice A 0 cap, .slice B m cap2] := rfl
  have d0 : (#[.slice A 0 cap, .slice B m cap2] : Array Value)[0]? = some (.slice A 0 cap) := rfl
  go_enter Tryz.func42, Tryz.ntmps42
  go_upto_region 1 with (fail)
  obtain ⟨M2, hbx, hle, hb1, hb2, hn1, hn2⟩ := h.box2 (.cells #[.slice A 0 cap, .slice B m cap2] 83) (.cells #[.slice none 0 0, .slice none 0 0] 83)
  generalize (w.alloc _).alloc _ = wx at hbx ⊢
  have hne_b1_b2 : w.heap.size ≠ w.heap.size + 1 := Nat.ne_of_lt (Nat.lt_succ_self _)
  generalize w.heap.size + 1 = b2 at hb2 hn2 hne_b1_b2 ⊢
  generalize w.heap.size = b1 at hb1 hn1 hne_b1_b2 ⊢
  clear h
  try clear w
  have h := hbx
  clear hbx
  obtain ⟨w, rfl⟩ : ∃ x : World, x = wx := ⟨_, rfl⟩
  have hbM : M b2 = none := hn2
  go_wp2_with (first
    | (with_reducible show wpList _ _ _ ({ dst := _, op := Op.load 47 _, type := _, pos := _, after := _, guard := _ } :: _) _ _; refine wpList_load1_has h rfl 47 _ rfl rfl hb1 d0 Tryz.underlying47 rfl ?_)
    | ((with_reducible show wpList _ _ _ ({ dst := _, op := Op.load 83 _, type := _, pos := _, after := _, guard := _ } :: _) _ _); refine wpList_agg_has h rfl 83 _ rfl rfl hb1 hx rfl Tryz.underlying83 rfl (by kernel_rfl) ?_; try simp only [Act.put, List.setIfInBounds_toArray, List.set_cons_zero, List.set_cons_succ])
    | (with_reducible show wpList _ _ _ ({ dst := _, op := Op.store 83 _ _, type := _, pos := _, after := _, guard := _ } :: _) _ _; refine wpList_storeAll_has (cells := #[.slice A 0 cap, .slice B m cap2]) h rfl 83 _ _ rfl rfl rfl hb2 rfl rfl rfl (by kernel_rfl) rfl ?_; clear h; intro w h))
  exact bodyPost_ret (results_cell_row2 rfl _ _ _ _ _ _ _ rfl (h.at_ b2 _ (Mm.upd_same _ _ _)) Tryz.underlying83 rfl (by kernel_rfl)) rfl ⟨rfl, h.le (Mm.le_upd hle hbM _)⟩
set_option maxHeartbeats 1000000 in
set_option maxRecDepth 20000 in
/-- Take of a list that isn't empty. -/
theorem refTake_yes (h : Has σ M w) {vL vG : Value} {m x : Nat} {r gs : List Nat} (hL : Rd M 1 vL (r.length + 1) (natv (x :: r))) (hG : Rd M 1 vG m (natv gs)) (x1 : 1 ≤ x) (x2 : x ≤ m) (hm : m ≤ 1000) {gn : Nat} (hgn : gs[x - 1]? = some gn) : Calls Tryz.prog 42 #[.agg #[vL, vG]] w fun e w' => ∃ u, e = .returned (.tuple #[.agg #[u, vG], .int .i64 (x : Nat), .int .i64 (gn : Nat)]) ∧ Has σ M w' ∧ Rd M 1 u r.length (natv r) ∧ (∀ K : Mm, Rd K 1 vL (r.length + 1) (natv (x :: r)) → Rd K 1 u r.length (natv r)) := by
  obtain ⟨A, cap, rfl⟩ := hL.form
  obtain ⟨B, cap2, rfl⟩ := hG.form
  have hform : sliced A 1 (r.length + 1) cap 1 = .slice (if cap = 1 then A else A.map (·.add (1 * 1))) r.length (cap - 1) := by simp [sliced]
  have hfr : ∀ K : Mm, Rd K 1 (.slice A (r.length + 1) cap) (r.length + 1) (natv (x :: r)) → Rd K 1 (.slice (if cap = 1 then A else A.map (·.add (1 * 1))) r.length (cap - 1)) r.length (natv r) := fun K hK => by
    have := hK.from_ (l := 1) (by omega)
    rw [hform] at this
    simpa [natv] using this
  have HF := Lib.hid hfr
  have hu := hfr M hL
  obtain ⟨_, A', c', e, _, hA⟩ := hL
  cases e
  obtain ⟨b, o, cs, t, fz, rfl, hbl, hxs⟩ := hA (by omega)
  have ex : cs[o + 0]? = some (.int .i64 (x : Nat)) := hxs 0 _ (by simp [natv])
  rw [Nat.add_zero] at ex
  obtain ⟨_, B', c2', e2, _, hB⟩ := hG
  cases e2
  obtain ⟨bb, ob, cs2, t2, fz2, rfl, hbg, hgs⟩ := hB (by omega)
  have eg : cs2[ob + (x - 1)]? = some (.int .i64 (gn : Nat)) := hgs (x - 1) _ (natv_get hgn)
  have HU := Lib.hid hu
  have w1 : IntKind.i64.wrap ((x : Int) - 1) = ((x - 1 : Nat) : Int) := by rw [show (x : Int) - 1 = ((x - 1 : Nat) : Int) by omega]; exact IntWalk.i64_in _ (by omega)
  have l1 : x - 1 < m := by omega
  clear hfr hA hxs hB hgs hgn hu x1 x2 hform
  generalize x - 1 = x' at *
  generalize hr : r.length = n at *
  clear hr
  have hemap : (some (⟨b, o, none⟩ : Addr)).map (·.add (1 * 1)) = some ⟨b, o + 1, none⟩ := by simp [Addr.add_mid]
  rw [hemap] at HU HF
  clear hemap
  have d0 : (#[.slice (some ⟨b, o, none⟩) (n + 1) cap, .slice (some ⟨bb, ob, none⟩) m cap2] : Array Value)[0]? = some (.slice (some ⟨b, o, none⟩) (n + 1) cap) := rfl
  go_enter Tryz.func42, Tryz.ntmps42
  go_upto_region 1 with (fail)
  obtain ⟨M2, hbx, hle, hb1, hb2, hn1, hn2⟩ := h.box2 (.cells #[.slice (some ⟨b, o, none⟩) (n + 1) cap, .slice (some ⟨bb, ob, none⟩) m cap2] 83) (.cells #[.slice none 0 0, .slice none 0 0] 83)
  generalize (w.alloc _).alloc _ = wx at hbx ⊢
  have hne_b1_b2 : w.heap.size ≠ w.heap.size + 1 := Nat.ne_of_lt (Nat.lt_succ_self _)
  generalize w.heap.size + 1 = b2 at hb2 hn2 hne_b1_b2 ⊢
  generalize w.heap.size = b1 at hb1 hn1 hne_b1_b2 ⊢
  clear h
  try clear w
  have h := hbx
  clear hbx
  obtain ⟨w, rfl⟩ : ∃ x : World, x = wx := ⟨_, rfl⟩
  have hbM : M b2 = none := hn2
  have hbgM := hbg
  replace hbl := hle _ _ hbl
  replace hbg := hle _ _ hbg
  have hl2 : 0 < (#[.slice (some ⟨b, o, none⟩) (n + 1) cap, .slice (some ⟨bb, ob, none⟩) m cap2] : Array Value).size := by show 0 < 2; omega
  go_upto_region 5 with (first
    | (with_reducible show wpList _ _ _ ({ dst := _, op := Op.load 47 _, type := _, pos := _, after := _, guard := _ } :: _) _ _; refine wpList_load1_has h rfl 47 _ rfl rfl hb1 d0 Tryz.underlying47 rfl ?_)
    | (with_reducible show wpList _ _ _ ({ dst := _, op := Op.load 3 _, type := _, pos := _, after := _, guard := _ } :: _) _ _; refine wpList_load1_has h rfl 3 _ rfl rfl hbl ex Tryz.underlying3 rfl ?_)
    | (with_reducible show wpList _ _ _ ({ dst := _, op := Op.store 47 _ _, type := _, pos := _, after := _, guard := _ } :: _) _ _; refine wpList_store1_has h rfl 47 _ _ rfl rfl rfl hb1 hl2 rfl (by kernel_rfl) ?_; clear h; intro w h))
  have h9 : Has σ (M2.upd b1 (.cells #[.slice (if cap = 1 then some ⟨b, o, none⟩ else some ⟨b, o + 1, none⟩) n (cap - 1), .slice (some ⟨bb, ob, none⟩) m cap2] 83)) w := h
  clear h hl2 d0
  have h := h9
  clear h9
  generalize (if cap = 1 then some (⟨b, o, none⟩ : Addr) else some ⟨b, o + 1, none⟩) = A1 at *
  generalize cap - 1 = c1 at *
  have hx : (#[.slice A1 n c1, .slice (some ⟨bb, ob, none⟩) m cap2] : Array Value).extract 0 (0 + 2) = #[.slice A1 n c1, .slice (some ⟨bb, ob, none⟩) m cap2] := rfl
  have d1 : (#[.slice A1 n c1, .slice (some ⟨bb, ob, none⟩) m cap2] : Array Value)[1]? = some (.slice (some ⟨bb, ob, none⟩) m cap2) := rfl
  have n1 : bb ≠ b1 := Mm.ne_of hn1 hbgM
  have n2 : bb ≠ b2 := Mm.ne_of hn2 hbgM
  have kb1 : ((M2.upd b1 (.cells #[.slice A1 n c1, .slice (some ⟨bb, ob, none⟩) m cap2] 83)).drop b2) b1 = some (.cells #[.slice A1 n c1, .slice (some ⟨bb, ob, none⟩) m cap2] 83) := Mm.drop_of (Mm.upd_same _ _ _) hne_b1_b2
  have kbg : ((M2.upd b1 (.cells #[.slice A1 n c1, .slice (some ⟨bb, ob, none⟩) m cap2] 83)).drop b2) bb = some (.cells cs2 t2 fz2) := Mm.drop_of ((Mm.upd_ne n1).trans hbg) n2
  have kb2 : (M2.upd b1 (.cells #[.slice A1 n c1, .slice (some ⟨bb, ob, none⟩) m cap2] 83)) b2 = some (.cells #[.slice none 0 0, .slice none 0 0] 83) := (Mm.upd_ne hne_b1_b2.symm).trans hb2
  have HLE := Lib.hid (fun o o' => Mm.le_upd (Mm.le_upd hle hn1 o) hbM o')
  clear hbl hbg hb1 hb2 hle hn1 hn2 hbM hbgM n1 n2 ex
  have hF : ∀ w o', Has σ ((M2.upd b1 (.cells #[.slice A1 n c1, .slice (some ⟨bb, ob, none⟩) m cap2] 83)).upd b2 o') w → Has σ M w := fun w o' h => h.le (HLE.out _ _)
  replace hF := Lib.hid hF
  generalize M2.upd b1 (.cells #[.slice A1 n c1, .slice (some ⟨bb, ob, none⟩) m cap2] 83) = M3 at *
  refine wp_region_held_drew (S := Has σ (M3.drop b2)) (by kernel_rfl) (h.drew.le (Mm.drop_le _ _)) (fun hHeld => ?_)
  refine wpAnyH_take (i := 0) (v := _) rfl (by kernel_rfl) (by kernel_rfl) (by kernel_rfl) (fun _ _ _ h => h) (yields_agg rfl 83 _ rfl rfl kb1 hx rfl Tryz.underlying83 rfl (by kernel_rfl)) hHeld ?_
  try simp only [List.getElem_toArray, List.getElem_cons_succ, List.getElem_cons_zero, Act.put, List.setIfInBounds_toArray, List.set_cons_zero, List.set_cons_succ]
  refine wpAnyH_take (i := 1) (v := ?_) rfl (by kernel_rfl) (by kernel_rfl) (by kernel_rfl) (fun _ _ _ h => h) (Or.inl ⟨by rfl, ?_⟩) hHeld ?_
  rotate_left
  · (intro wz _; go_simp; try with_reducible rfl)
  try simp only [List.getElem_toArray, List.getElem_cons_succ, List.getElem_cons_zero, Act.put, List.setIfInBounds_toArray, List.set_cons_zero, List.set_cons_succ]
  refine wpAnyH_take (i := 2) (v := ?_) rfl (by kernel_rfl) (by kernel_rfl) (by kernel_rfl) (fun _ _ _ h => h) (Or.inl ⟨by rfl, ?_⟩) hHeld ?_
  rotate_left
  · (intro wz _; go_simp; try with_reducible rfl)
  try simp only [List.getElem_toArray, List.getElem_cons_succ, List.getElem_cons_zero, Act.put, List.setIfInBounds_toArray, List.set_cons_zero, List.set_cons_succ]
  refine wpAnyH_take (i := 3) (v := _) rfl (by kernel_rfl) (by kernel_rfl) (by kernel_rfl) (fun _ _ _ h => h) (yields_load1 rfl 47 _ rfl rfl kb1 d1 Tryz.underlying47 rfl) hHeld ?_
  try simp only [List.getElem_toArray, List.getElem_cons_succ, List.getElem_cons_zero, Act.put, List.setIfInBounds_toArray, List.set_cons_zero, List.set_cons_succ]
  refine wpAnyH_take (i := 4) (v := ?_) rfl (by kernel_rfl) (by kernel_rfl) (by kernel_rfl) (fun _ _ _ h => h) (Or.inl ⟨by rfl, ?_⟩) hHeld ?_
  rotate_left
  · (intro wz _; go_simp; try with_reducible rfl)
  try simp only [List.getElem_toArray, List.getElem_cons_succ, List.getElem_cons_zero, Act.put, List.setIfInBounds_toArray, List.set_cons_zero, List.set_cons_succ]
  refine wpAnyH_take (i := 5) (v := ?_) rfl (by kernel_rfl) (by kernel_rfl) (by kernel_rfl) (fun _ _ _ h => h) (Or.inl ⟨by rfl, ?_⟩) hHeld ?_
  rotate_left
  · (intro wz _; go_simp; try with_reducible rfl)
  try simp only [List.getElem_toArray, List.getElem_cons_succ, List.getElem_cons_zero, Act.put, List.setIfInBounds_toArray, List.set_cons_zero, List.set_cons_succ]
  refine wpAnyH_take (i := 6) (v := ?_) rfl (by kernel_rfl) (by kernel_rfl) (by kernel_rfl) (fun _ _ _ h => h) (Or.inl ⟨by rfl, ?_⟩) hHeld ?_
  rotate_left
  · (intro wz _; go_simp; try with_reducible rfl)
  try simp only [List.getElem_toArray, List.getElem_cons_succ, List.getElem_cons_zero, Act.put, List.setIfInBounds_toArray, List.set_cons_zero, List.set_cons_succ]
  refine wpAnyH_take (i := 7) (v := _) rfl (by kernel_rfl) (by kernel_rfl) (by kernel_rfl) (fun _ _ _ h => h) (yields_load1 rfl 3 _ rfl rfl kbg eg Tryz.underlying3 rfl) hHeld ?_
  try simp only [List.getElem_toArray, List.getElem_cons_succ, List.getElem_cons_zero, Act.put, List.setIfInBounds_toArray, List.set_cons_zero, List.set_cons_succ]
  replace h := h.drew
  generalize w.drew = wq at h hHeld ⊢
  clear w
  obtain ⟨w, rfl⟩ : ∃ q : World, q = wq := ⟨_, rfl⟩
  refine wpAnyH_ready (rs := [8]) (by kernel_rfl) (by simp) ?_
  refine AllReadyH.cons rfl (fun K hK => ?_) AllReadyH.nil
  (refine step_storeAll (cells := #[.slice A1 n c1, .slice (some ⟨bb, ob, none⟩) m cap2]) h rfl 83 _ _ rfl rfl rfl kb2 rfl rfl (by kernel_rfl) rfl ?_; clear h; intro w h)
  refine hK.out _ _ (h.le (Mm.drop_upd (Mm.drop_le _ _) _)) (fun hHeld => ?_)
  clear hK K
  try simp only [Act.put, List.setIfInBounds_toArray, List.set_cons_zero, List.set_cons_succ]
  refine wpAnyH_take (i := 9) (v := ?_) rfl (by kernel_rfl) (by kernel_rfl) (by kernel_rfl) (fun _ _ _ h => h) (Or.inl ⟨by rfl, ?_⟩) hHeld ?_
  rotate_left
  · (intro wz _; go_simp; try with_reducible rfl)
  try simp only [List.getElem_toArray, List.getElem_cons_succ, List.getElem_cons_zero, Act.put, List.setIfInBounds_toArray, List.set_cons_zero, List.set_cons_succ]
  refine wpAnyH_take (i := 10) (v := ?_) rfl (by kernel_rfl) (by kernel_rfl) (by kernel_rfl) (fun _ _ _ h => h) (Or.inl ⟨by rfl, ?_⟩) hHeld ?_
  rotate_left
  · (intro wz _; go_simp; try with_reducible rfl)
  try simp only [List.getElem_toArray, List.getElem_cons_succ, List.getElem_cons_zero, Act.put, List.setIfInBounds_toArray, List.set_cons_zero, List.set_cons_succ]
  refine wpAnyH_done (by kernel_rfl) ?_ _
  go_wp2
  exact bodyPost_ret (results_cell_row2 rfl _ _ _ _ _ _ _ rfl (h.at_ b2 _ (Mm.upd_same _ _ _)) Tryz.underlying83 rfl (by kernel_rfl)) rfl ⟨_, rfl, hF.out _ _ h, HU.out, HF.out⟩
theorem Own.at_upd {M0 M' : Mm} {e : TypeId} {sz n b : Nat} {v : Value} {xs : List Value} {o : Obj} (h : Own M0 M' e sz v n xs) (hb : M0 b = some o) (o' : Obj) : Own M0 (M'.upd b o') e sz v n xs := by
  obtain ⟨hl, ⟨hv, h0⟩ | ⟨g, cap, cur, hv, hg, hh, r⟩⟩ := h
  · exact ⟨hl, .inl ⟨hv, h0⟩⟩
  · exact ⟨hl, .inr ⟨g, cap, cur, hv, hg, (Mm.upd_ne (fun e => by subst e; rw [hb] at hg; cases hg)).trans hh, r⟩⟩
theorem natv_set (l : List Nat) (i x : Nat) : (natv l).set i (.int .i64 (x : Nat)) = natv (l.set i x) := by simp [natv, List.map_set]
set_option maxHeartbeats 2000000 in
set_option maxRecDepth 20000 in
theorem refGive_on (h : Has σ M w) (c : Nat → Int) {gens : Nat} (hg : c 12 = (gens : Int)) {vL vG : Value} {m x : Nat} {l gs : List Nat} (hL : Rd M 1 vL l.length (natv l)) (hG : Rd M 1 vG m (natv gs)) (x1 : 1 ≤ x) (x2 : x ≤ m) (hm : m ≤ 1000) (hl : l.length ≤ 1000) {gn : Nat} (hgn : gs[x - 1]? = some gn) (hgn2 : gn < 1000000) (hgo : gn + 1 < gens) : Calls Tryz.prog 40 #[confV c, .agg #[vL, vG], .int .i64 (x : Nat)] w fun e w' => ∃ uL uG M', e = .returned (.agg #[uL, uG]) ∧ Has σ M' w' ∧ M.le M' ∧ Own M M' 3 1 uL (l.length + 1) (natv (x :: l)) ∧ Own M M' 3 1 uG m (natv (gs.set (x - 1) (gn + 1))) := by
  have hgd : decide (((gn + 1 : Nat) : Int) < (gens : Int)) = true := decide_eq_true (by omega)
  have hgd2 : gn + 1 < gens := hgo
  clear hgo
  obtain ⟨A, cap, rfl⟩ := hL.form
  obtain ⟨B, cap2, rfl⟩ := hG.form
  have hx : (ints .i64 14 c).extract 0 (0 + 14) = ints .i64 14 c := rfl
  have r12 : (ints .i64 14 c)[12]? = some (.int .i64 (gens : Nat)) := by rw [← hg]; rfl
  have w1 : IntKind.i64.wrap ((x : Int) - 1) = ((x - 1 : Nat) : Int) := by rw [show (x : Int) - 1 = ((x - 1 : Nat) : Int) by omega]; exact IntWalk.i64_in _ (by omega)
  have w2 : IntKind.i64.wrap ((gn : Int) + 1) = ((gn + 1 : Nat) : Int) := by rw [show (gn : Int) + 1 = ((gn + 1 : Nat) : Int) by omega]; exact IntWalk.i64_in _ (by omega)
  have l1 : x - 1 < m := by omega
  have HGN := Lib.hid hgn
  have oG := natv_one gs
  have oL := natv_one l
  have h1000 : m ≤ 1000 := hm
  have hl1000 : l.length ≤ 1000 := hl
  unfold confV
  clear hgn hg hm hl
  generalize hx' : x - 1 = x' at *
  have HX := Lib.hid hx'
  clear hx'
  generalize hln : l.length = n at *
  have HLN := Lib.hid hln
  clear hln
  generalize hgs : natv gs = gv at *
  have HGS := Lib.hid hgs
  generalize hls : natv l = lv at *
  have HLS := Lib.hid hls
  clear hgs hls
  generalize ints .i64 14 c = row at *
  go_enter Tryz.func40, Tryz.ntmps40
  go_upto_region 1 with (first
    | ((with_reducible show wpList _ _ _ ({ dst := _, op := Op.box 24 _, type := _, pos := _, after := _, guard := _ } :: _) _ _); refine wpList_box_has h rfl 24 _ rfl ?_; clear h; intro b3 w h hn3; try simp only [Act.put, List.setIfInBounds_toArray, List.set_cons_zero, List.set_cons_succ])
    | ((with_reducible show wpList _ _ _ ({ dst := _, op := Op.box 83 _, type := _, pos := _, after := _, guard := _ } :: _) _ _); refine wpList_box_has h rfl 83 _ rfl ?_; clear h; intro b4 w h hn4; try simp only [Act.put, List.setIfInBounds_toArray, List.set_cons_zero, List.set_cons_succ])
    | ((with_reducible show wpList _ _ _ ({ dst := _, op := Op.alloc 83, type := _, pos := _, after := _, guard := _ } :: _) _ _); refine wpList_alloc_has h rfl 83 rfl _ zF ?_; clear h; intro b6 w h hn6; try simp only [Act.put, List.setIfInBounds_toArray, List.set_cons_zero, List.set_cons_succ]))
  have h9 : Has σ (((M.upd b3 (.cells row 24)).upd b4 (.cells #[.slice A n cap, .slice B m cap2] 83)).upd b6 (.cells #[.slice none 0 0, .slice none 0 0] 83)) w := h
  have hb3 : (((M.upd b3 (.cells row 24)).upd b4 (.cells #[.slice A n cap, .slice B m cap2] 83)).upd b6 (.cells #[.slice none 0 0, .slice none 0 0] 83)) b3 = some (.cells row 24) := Mm.upd_of hn6 (Mm.upd_of hn4 (Mm.upd_same _ _ _))
  have hb4 : (((M.upd b3 (.cells row 24)).upd b4 (.cells #[.slice A n cap, .slice B m cap2] 83)).upd b6 (.cells #[.slice none 0 0, .slice none 0 0] 83)) b4 = some (.cells #[.slice A n cap, .slice B m cap2] 83) := Mm.upd_of hn6 (Mm.upd_same _ _ _)
  have hb6 : (((M.upd b3 (.cells row 24)).upd b4 (.cells #[.slice A n cap, .slice B m cap2] 83)).upd b6 (.cells #[.slice none 0 0, .slice none 0 0] 83)) b6 = some (.cells #[.slice none 0 0, .slice none 0 0] 83) := Mm.upd_same _ _ _
  have n34 : b3 ≠ b4 := Mm.ne_of hn4 (Mm.upd_same M b3 (.cells row 24))
  have n46 : b4 ≠ b6 := Mm.ne_of hn6 (Mm.upd_same (M.upd b3 (.cells row 24)) b4 (.cells #[.slice A n cap, .slice B m cap2] 83))
  have hleM : M.le (((M.upd b3 (.cells row 24)).upd b4 (.cells #[.slice A n cap, .slice B m cap2] 83)).upd b6 (.cells #[.slice none 0 0, .slice none 0 0] 83)) := Mm.le_trans (Mm.le_upd' hn3 _) (Mm.le_trans (Mm.le_upd' hn4 _) (Mm.le_upd' hn6 _))
  have m4 : M b4 = none := Mm.none_of (Mm.le_upd' hn3 (.cells row 24)) hn4
  have m6 : M b6 = none := Mm.none_of (Mm.le_trans (Mm.le_upd' hn3 (.cells row 24)) (Mm.le_upd' hn4 (.cells #[.slice A n cap, .slice B m cap2] 83))) hn6
  clear h hn3 hn4 hn6
  have h := h9
  clear h9
  generalize Mm.upd _ b6 _ = M4 at h hb3 hb4 hb6 hleM
  have hG4 := hG.le hleM
  have hL4 := hL.le hleM
  have hL0 := hL
  clear hG hL
  have d1 : (#[.slice A n cap, .slice B m cap2] : Array Value)[1]? = some (.slice B m cap2) := rfl
  have ca : (w.alloc (.cells #[] 3)).cell? ⟨b4, 1, none⟩ = some (.slice B m cap2) := ((h.alloc (.cells #[] 3)).cell (Mm.le_upd' h.fresh _ _ _ hb4) 1).trans d1
  go_upto_region 2 with (first
    | (at_builtin; refine wpList_append_rd (h.alloc _) (Mm.le_upd' h.fresh _) rfl _ _ _ rfl Tryz.underlying47 info_int rfl (by omega) rfl (Own.made h.fresh 0 rfl (by decide)) rfl (hG4.le (Mm.le_upd' h.fresh _)) oG (by omega) (by omega) ?_; clear h; intro v w hacc))
  clear ca
  obtain ⟨M5, h, hle5, hown⟩ := hacc
  rw [Nat.zero_add, List.nil_append] at hown
  obtain ⟨g, cg, rfl⟩ := Own.pos hown (by omega)
  obtain ⟨cur, hcg, hcu⟩ := Own.at_ hown
  have eg : cur[x']? = some (.int .i64 (gn : Nat)) := hcu x' _ (by rw [← HGS.out]; exact natv_get HGN.out)
  have gsz : x' < cur.size := (Array.getElem?_eq_some_iff.1 eg).1
  have hlc : x' < cur.size := gsz
  clear hcu gsz
  have hb45 := hle5 _ _ hb4
  go_upto_region 3 with (first
    | (with_reducible show wpList _ _ _ ({ dst := _, op := Op.load 3 _, type := _, pos := _, after := _, guard := _ } :: _) _ _; refine wpList_load1_has h rfl 3 _ rfl rfl hcg eg Tryz.underlying3 rfl ?_)
    | ((with_reducible show wpList _ _ _ ({ dst := _, op := Op.store 3 _ _, type := _, pos := _, after := _, guard := _ } :: _) _ _); refine wpList_putOne h hle5 hown rfl 3 _ _ rfl rfl (k := x') rfl l1 (u := .int .i64 ((gn + 1 : Nat) : Int)) rfl rfl (by kernel_rfl) ?_; clear h hle5 hown hcg; intro w M6 h hle6 hown))
  clear eg hlc hb45
  have hb46 := hle6 _ _ hb4
  have hl46 : 1 < (#[.slice A n cap, .slice B m cap2] : Array Value).size := by show 1 < 2; omega
  go_upto_region 4 with (first
    | (with_reducible show wpList _ _ _ ({ dst := _, op := Op.store 47 _ _, type := _, pos := _, after := _, guard := _ } :: _) _ _; refine wpList_store1_has h rfl 47 _ _ rfl rfl rfl hb46 hl46 rfl (by kernel_rfl) ?_; clear h; intro w h))
  have h9 : Has σ (M6.upd b4 (.cells #[.slice A n cap, .slice (some ⟨g, 0, none⟩) m cg] 83)) w := h
  have hown7 := hown.at_upd hb4 (.cells #[.slice A n cap, .slice (some ⟨g, 0, none⟩) m cg] 83)
  have hb37 : (M6.upd b4 (.cells #[.slice A n cap, .slice (some ⟨g, 0, none⟩) m cg] 83)) b3 = some (.cells row 24) := (Mm.upd_ne n34).trans (hle6 _ _ hb3)
  have hb67 : (M6.upd b4 (.cells #[.slice A n cap, .slice (some ⟨g, 0, none⟩) m cg] 83)) b6 = some (.cells #[.slice none 0 0, .slice none 0 0] 83) := (Mm.upd_ne n46.symm).trans (hle6 _ _ hb6)
  have hb47 : (M6.upd b4 (.cells #[.slice A n cap, .slice (some ⟨g, 0, none⟩) m cg] 83)) b4 = some (.cells #[.slice A n cap, .slice (some ⟨g, 0, none⟩) m cg] 83) := Mm.upd_same _ _ _
  have HB4 := Lib.hid hb4
  have HB6 := Lib.hid hb6
  have HLM := Lib.hid hleM
  have h47 : M.le (M6.upd b4 (.cells #[.slice A n cap, .slice (some ⟨g, 0, none⟩) m cg] 83)) := Mm.le_upd (Mm.le_trans hleM hle6) m4 _
  clear h hb46 hl46 hown hle6 hb3 hb4 hb6 d1
  have h := h9
  clear h9
  generalize M6.upd b4 _ = M7 at *
  replace hL4 : Rd M 1 (.slice A n cap) n lv := hL0
  have hownM : Own M M7 3 1 (.slice (some ⟨g, 0, none⟩) m cg) m (gv.set x' (.int .i64 ((gn + 1 : Nat) : Int))) := hown7.base fun b hb => Mm.none_of hleM hb
  obtain ⟨cur7, hcg7, hcu7⟩ := Own.at_ hown7
  have eg7 : cur7[x']? = some (.int .i64 ((gn + 1 : Nat) : Int)) := hcu7 x' _ (by
    have := hown7.1
    rw [List.length_set] at this
    rw [List.getElem?_set_self (by omega)])
  clear hcu7 hleM hG4
  go_upto_region 4 with (fail)
  refine wp_region_class (Has σ M7) (by kernel_rfl) (by kernel_rfl) h.drew ?_
  clear h
  repeat (first
    | go_big_quiet_skip
    | (go_big_quiet_want; first
      | (refine quiet_load_has 3 _ rfl rfl hcg7 eg7 Tryz.underlying3 rfl ?_; simp only [Act.put, List.setIfInBounds_toArray, List.set_cons_zero, List.set_cons_succ]; go_big_quiet_on)
      | (refine quiet_load_has 3 _ rfl rfl hb37 r12 Tryz.underlying3 rfl ?_; simp only [Act.put, List.setIfInBounds_toArray, List.set_cons_zero, List.set_cons_succ]; go_big_quiet_on)
      | (go_big_quiet_op; first | go_big_quiet_on | go_big_quiet_call (first | with_reducible exact fun _ => rfl))))
  refine wpQuiet_nil ?_
  try clear w
  intro w h
  clear hcg7 eg7 hb37 r12
  -- the slot becomes the first one
  have hL7 := hL4.le h47
  have d0 : (#[.slice A n cap, .slice (some ⟨g, 0, none⟩) m cg] : Array Value)[0]? = some (.slice A n cap) := rfl
  have ca : (w.alloc (.cells #[.int .i64 (x : Nat)] 3)).cell? ⟨b4, 0, none⟩ = some (.slice A n cap) := ((h.alloc (.cells #[.int .i64 (x : Nat)] 3)).cell (Mm.le_upd' h.fresh _ _ _ hb47) 0).trans d0
  have h0l2 : 0 < (#[.slice A n cap, .slice (some ⟨g, 0, none⟩) m cg] : Array Value).size := by show 0 < 2; omega
  go_upto_region 6 with (first
    | ((at_builtin; refine wpList_append_rd (h.alloc (.cells #[.int .i64 (x : Nat)] 3)) (Mm.le_upd' h.fresh _) rfl _ _ _ rfl Tryz.underlying47 info_int rfl (by omega) rfl (Own.made h.fresh 1 rfl (by decide)) rfl (hL7.le (Mm.le_upd' h.fresh _)) oL (by omega) (by omega) ?_; clear h ca; intro v w hacc; obtain ⟨M8, h, hle8, hownL⟩ := hacc; obtain ⟨A8, c8, rfl⟩ := hownL.form; have hb48 := hle8 _ _ hb47))
    | (with_reducible show wpList _ _ _ ({ dst := _, op := Op.store 47 _ _, type := _, pos := _, after := _, guard := _ } :: _) _ _; refine wpList_store1_has h rfl 47 _ _ rfl rfl rfl hb48 h0l2 rfl (by kernel_rfl) ?_; clear h; intro w h))
  have h9 : Has σ (M8.upd b4 (.cells #[.slice A8 (1 + n) c8, .slice (some ⟨g, 0, none⟩) m cg] 83)) w := h
  have hG9 : Own M4 ((M8.upd b4 (.cells #[.slice A8 (1 + n) c8, .slice (some ⟨g, 0, none⟩) m cg] 83)).upd b6 (.cells #[.slice A8 (1 + n) c8, .slice (some ⟨g, 0, none⟩) m cg] 83)) _ _ _ _ _ := ((hown7.le hle8).at_upd HB4.out _).at_upd HB6.out _
  have hL9 : Own M7 ((M8.upd b4 (.cells #[.slice A8 (1 + n) c8, .slice (some ⟨g, 0, none⟩) m cg] 83)).upd b6 (.cells #[.slice A8 (1 + n) c8, .slice (some ⟨g, 0, none⟩) m cg] 83)) _ _ _ _ _ := (hownL.at_upd hb47 _).at_upd hb67 _
  have HG9 := Lib.hid (hG9.base (M' := M) fun b hb => Mm.none_of HLM.out hb)
  have HL9 := Lib.hid (hL9.base (M' := M) fun b hb => Mm.none_of h47 hb)
  have HM9 := Lib.hid (Mm.le_upd (Mm.le_upd (Mm.le_trans h47 hle8) m4 (.cells #[.slice A8 (1 + n) c8, .slice (some ⟨g, 0, none⟩) m cg] 83)) m6 (.cells #[.slice A8 (1 + n) c8, .slice (some ⟨g, 0, none⟩) m cg] 83))
  have hb69 : (M8.upd b4 (.cells #[.slice A8 (1 + n) c8, .slice (some ⟨g, 0, none⟩) m cg] 83)) b6 = some (.cells #[.slice none 0 0, .slice none 0 0] 83) := (Mm.upd_ne n46.symm).trans (hle8 _ _ hb67)
  have hb49 : (M8.upd b4 (.cells #[.slice A8 (1 + n) c8, .slice (some ⟨g, 0, none⟩) m cg] 83)) b4 = some (.cells #[.slice A8 (1 + n) c8, .slice (some ⟨g, 0, none⟩) m cg] 83) := Mm.upd_same _ _ _
  have hx9 : (#[.slice A8 (1 + n) c8, .slice (some ⟨g, 0, none⟩) m cg] : Array Value).extract 0 (0 + 2) = #[.slice A8 (1 + n) c8, .slice (some ⟨g, 0, none⟩) m cg] := rfl
  clear h hG9 hL9 hb48 hb67 hb47 hownL hown7 hownM
  have h := h9
  clear h9
  generalize M8.upd b4 _ = M9 at *
  go_wp2_with (first
    | ((with_reducible show wpList _ _ _ ({ dst := _, op := Op.load 83 _, type := _, pos := _, after := _, guard := _ } :: _) _ _); refine wpList_agg_has h rfl 83 _ rfl rfl hb49 hx9 rfl Tryz.underlying83 rfl (by kernel_rfl) ?_; try simp only [Act.put, List.setIfInBounds_toArray, List.set_cons_zero, List.set_cons_succ])
    | (with_reducible show wpList _ _ _ ({ dst := _, op := Op.store 83 _ _, type := _, pos := _, after := _, guard := _ } :: _) _ _; refine wpList_storeAll_has (cells := #[.slice A8 (1 + n) c8, .slice (some ⟨g, 0, none⟩) m cg]) h rfl 83 _ _ rfl rfl rfl hb69 rfl rfl rfl (by kernel_rfl) rfl ?_; clear h; intro w h))
  refine bodyPost_ret (results_cell_row rfl _ _ _ _ _ _ _ rfl (h.at_ b6 _ (Mm.upd_same _ _ _)) Tryz.underlying83 rfl (by kernel_rfl)) rfl ⟨_, _, rfl, _, h, HM9.out, ?_, ?_⟩
  · have e1 : natv (x :: l) = #[Value.int IntKind.i64 (x : Nat)].toList ++ lv := by rw [← HLS.out]; rfl
    rw [e1, Nat.add_comm n 1]
    exact HL9.out
  · rw [← natv_set, HGS.out]
    exact HG9.out
set_option maxHeartbeats 2000000 in
set_option maxRecDepth 20000 in
theorem refGive_worn (h : Has σ M w) (c : Nat → Int) {gens : Nat} (hg : c 12 = (gens : Int)) {vL vG : Value} {m x : Nat} {l gs : List Nat} (hL : Rd M 1 vL l.length (natv l)) (hG : Rd M 1 vG m (natv gs)) (x1 : 1 ≤ x) (x2 : x ≤ m) (hm : m ≤ 1000) (hl : l.length ≤ 1000) {gn : Nat} (hgn : gs[x - 1]? = some gn) (hgn2 : gn < 1000000) (hgo : gens ≤ gn + 1) : Calls Tryz.prog 40 #[confV c, .agg #[vL, vG], .int .i64 (x : Nat)] w fun e w' => ∃ uG M', e = .returned (.agg #[vL, uG]) ∧ Has σ M' w' ∧ M.le M' ∧ Own M M' 3 1 uG m (natv (gs.set (x - 1) (gn + 1))) := by
  have hgd : decide (((gn + 1 : Nat) : Int) < (gens : Int)) = false := decide_eq_false (by omega)
  have hgd2 : ¬ gn + 1 < gens := by omega
  have hgd3 : ¬ ((gn : Int) + 1 < (gens : Int)) := by omega
  clear hgo
  obtain ⟨A, cap, rfl⟩ := hL.form
  obtain ⟨B, cap2, rfl⟩ := hG.form
  have hx : (ints .i64 14 c).extract 0 (0 + 14) = ints .i64 14 c := rfl
  have r12 : (ints .i64 14 c)[12]? = some (.int .i64 (gens : Nat)) := by rw [← hg]; rfl
  have w1 : IntKind.i64.wrap ((x : Int) - 1) = ((x - 1 : Nat) : Int) := by rw [show (x : Int) - 1 = ((x - 1 : Nat) : Int) by omega]; exact IntWalk.i64_in _ (by omega)
  have w2 : IntKind.i64.wrap ((gn : Int) + 1) = ((gn + 1 : Nat) : Int) := by rw [show (gn : Int) + 1 = ((gn + 1 : Nat) : Int) by omega]; exact IntWalk.i64_in _ (by omega)
  have l1 : x - 1 < m := by omega
  have HGN := Lib.hid hgn
  have oG := natv_one gs
  have oL := natv_one l
  have h1000 : m ≤ 1000 := hm
  have hl1000 : l.length ≤ 1000 := hl
  unfold confV
  clear hgn hg hm hl
  generalize hx' : x - 1 = x' at *
  have HX := Lib.hid hx'
  clear hx'
  generalize hln : l.length = n at *
  have HLN := Lib.hid hln
  clear hln
  generalize hgs : natv gs = gv at *
  have HGS := Lib.hid hgs
  generalize hls : natv l = lv at *
  have HLS := Lib.hid hls
  clear hgs hls
  generalize ints .i64 14 c = row at *
  go_enter Tryz.func40, Tryz.ntmps40
  go_upto_region 1 with (first
    | ((with_reducible show wpList _ _ _ ({ dst := _, op := Op.box 24 _, type := _, pos := _, after := _, guard := _ } :: _) _ _); refine wpList_box_has h rfl 24 _ rfl ?_; clear h; intro b3 w h hn3; try simp only [Act.put, List.setIfInBounds_toArray, List.set_cons_zero, List.set_cons_succ])
    | ((with_reducible show wpList _ _ _ ({ dst := _, op := Op.box 83 _, type := _, pos := _, after := _, guard := _ } :: _) _ _); refine wpList_box_has h rfl 83 _ rfl ?_; clear h; intro b4 w h hn4; try simp only [Act.put, List.setIfInBounds_toArray, List.set_cons_zero, List.set_cons_succ])
    | ((with_reducible show wpList _ _ _ ({ dst := _, op := Op.alloc 83, type := _, pos := _, after := _, guard := _ } :: _) _ _); refine wpList_alloc_has h rfl 83 rfl _ zF ?_; clear h; intro b6 w h hn6; try simp only [Act.put, List.setIfInBounds_toArray, List.set_cons_zero, List.set_cons_succ]))
  have h9 : Has σ (((M.upd b3 (.cells row 24)).upd b4 (.cells #[.slice A n cap, .slice B m cap2] 83)).upd b6 (.cells #[.slice none 0 0, .slice none 0 0] 83)) w := h
  have hb3 : (((M.upd b3 (.cells row 24)).upd b4 (.cells #[.slice A n cap, .slice B m cap2] 83)).upd b6 (.cells #[.slice none 0 0, .slice none 0 0] 83)) b3 = some (.cells row 24) := Mm.upd_of hn6 (Mm.upd_of hn4 (Mm.upd_same _ _ _))
  have hb4 : (((M.upd b3 (.cells row 24)).upd b4 (.cells #[.slice A n cap, .slice B m cap2] 83)).upd b6 (.cells #[.slice none 0 0, .slice none 0 0] 83)) b4 = some (.cells #[.slice A n cap, .slice B m cap2] 83) := Mm.upd_of hn6 (Mm.upd_same _ _ _)
  have hb6 : (((M.upd b3 (.cells row 24)).upd b4 (.cells #[.slice A n cap, .slice B m cap2] 83)).upd b6 (.cells #[.slice none 0 0, .slice none 0 0] 83)) b6 = some (.cells #[.slice none 0 0, .slice none 0 0] 83) := Mm.upd_same _ _ _
  have n34 : b3 ≠ b4 := Mm.ne_of hn4 (Mm.upd_same M b3 (.cells row 24))
  have n46 : b4 ≠ b6 := Mm.ne_of hn6 (Mm.upd_same (M.upd b3 (.cells row 24)) b4 (.cells #[.slice A n cap, .slice B m cap2] 83))
  have hleM : M.le (((M.upd b3 (.cells row 24)).upd b4 (.cells #[.slice A n cap, .slice B m cap2] 83)).upd b6 (.cells #[.slice none 0 0, .slice none 0 0] 83)) := Mm.le_trans (Mm.le_upd' hn3 _) (Mm.le_trans (Mm.le_upd' hn4 _) (Mm.le_upd' hn6 _))
  have m4 : M b4 = none := Mm.none_of (Mm.le_upd' hn3 (.cells row 24)) hn4
  have m6 : M b6 = none := Mm.none_of (Mm.le_trans (Mm.le_upd' hn3 (.cells row 24)) (Mm.le_upd' hn4 (.cells #[.slice A n cap, .slice B m cap2] 83))) hn6
  clear h hn3 hn4 hn6
  have h := h9
  clear h9
  generalize Mm.upd _ b6 _ = M4 at h hb3 hb4 hb6 hleM
  have hG4 := hG.le hleM
  have hL4 := hL.le hleM
  have hL0 := hL
  clear hG hL
  have d1 : (#[.slice A n cap, .slice B m cap2] : Array Value)[1]? = some (.slice B m cap2) := rfl
  have ca : (w.alloc (.cells #[] 3)).cell? ⟨b4, 1, none⟩ = some (.slice B m cap2) := ((h.alloc (.cells #[] 3)).cell (Mm.le_upd' h.fresh _ _ _ hb4) 1).trans d1
  go_upto_region 2 with (first
    | (at_builtin; refine wpList_append_rd (h.alloc _) (Mm.le_upd' h.fresh _) rfl _ _ _ rfl Tryz.underlying47 info_int rfl (by omega) rfl (Own.made h.fresh 0 rfl (by decide)) rfl (hG4.le (Mm.le_upd' h.fresh _)) oG (by omega) (by omega) ?_; clear h; intro v w hacc))
  clear ca
  obtain ⟨M5, h, hle5, hown⟩ := hacc
  rw [Nat.zero_add, List.nil_append] at hown
  obtain ⟨g, cg, rfl⟩ := Own.pos hown (by omega)
  obtain ⟨cur, hcg, hcu⟩ := Own.at_ hown
  have eg : cur[x']? = some (.int .i64 (gn : Nat)) := hcu x' _ (by rw [← HGS.out]; exact natv_get HGN.out)
  have gsz : x' < cur.size := (Array.getElem?_eq_some_iff.1 eg).1
  have hlc : x' < cur.size := gsz
  clear hcu gsz
  have hb45 := hle5 _ _ hb4
  go_upto_region 3 with (first
    | (with_reducible show wpList _ _ _ ({ dst := _, op := Op.load 3 _, type := _, pos := _, after := _, guard := _ } :: _) _ _; refine wpList_load1_has h rfl 3 _ rfl rfl hcg eg Tryz.underlying3 rfl ?_)
    | ((with_reducible show wpList _ _ _ ({ dst := _, op := Op.store 3 _ _, type := _, pos := _, after := _, guard := _ } :: _) _ _); refine wpList_putOne h hle5 hown rfl 3 _ _ rfl rfl (k := x') rfl l1 (u := .int .i64 ((gn + 1 : Nat) : Int)) rfl rfl (by kernel_rfl) ?_; clear h hle5 hown hcg; intro w M6 h hle6 hown))
  clear eg hlc hb45
  have hb46 := hle6 _ _ hb4
  have hl46 : 1 < (#[.slice A n cap, .slice B m cap2] : Array Value).size := by show 1 < 2; omega
  go_upto_region 4 with (first
    | (with_reducible show wpList _ _ _ ({ dst := _, op := Op.store 47 _ _, type := _, pos := _, after := _, guard := _ } :: _) _ _; refine wpList_store1_has h rfl 47 _ _ rfl rfl rfl hb46 hl46 rfl (by kernel_rfl) ?_; clear h; intro w h))
  have h9 : Has σ (M6.upd b4 (.cells #[.slice A n cap, .slice (some ⟨g, 0, none⟩) m cg] 83)) w := h
  have hown7 := hown.at_upd hb4 (.cells #[.slice A n cap, .slice (some ⟨g, 0, none⟩) m cg] 83)
  have hb37 : (M6.upd b4 (.cells #[.slice A n cap, .slice (some ⟨g, 0, none⟩) m cg] 83)) b3 = some (.cells row 24) := (Mm.upd_ne n34).trans (hle6 _ _ hb3)
  have hb67 : (M6.upd b4 (.cells #[.slice A n cap, .slice (some ⟨g, 0, none⟩) m cg] 83)) b6 = some (.cells #[.slice none 0 0, .slice none 0 0] 83) := (Mm.upd_ne n46.symm).trans (hle6 _ _ hb6)
  have hb47 : (M6.upd b4 (.cells #[.slice A n cap, .slice (some ⟨g, 0, none⟩) m cg] 83)) b4 = some (.cells #[.slice A n cap, .slice (some ⟨g, 0, none⟩) m cg] 83) := Mm.upd_same _ _ _
  have HB4 := Lib.hid hb4
  have HB6 := Lib.hid hb6
  have HLM := Lib.hid hleM
  have h47 : M.le (M6.upd b4 (.cells #[.slice A n cap, .slice (some ⟨g, 0, none⟩) m cg] 83)) := Mm.le_upd (Mm.le_trans hleM hle6) m4 _
  clear h hb46 hl46 hown hle6 hb3 hb4 hb6 d1
  have h := h9
  clear h9
  generalize M6.upd b4 _ = M7 at *
  replace hL4 : Rd M 1 (.slice A n cap) n lv := hL0
  have hownM : Own M M7 3 1 (.slice (some ⟨g, 0, none⟩) m cg) m (gv.set x' (.int .i64 ((gn + 1 : Nat) : Int))) := hown7.base fun b hb => Mm.none_of hleM hb
  obtain ⟨cur7, hcg7, hcu7⟩ := Own.at_ hown7
  have eg7 : cur7[x']? = some (.int .i64 ((gn + 1 : Nat) : Int)) := hcu7 x' _ (by
    have := hown7.1
    rw [List.length_set] at this
    rw [List.getElem?_set_self (by omega)])
  clear hcu7 hleM hG4
  go_upto_region 4 with (fail)
  refine wp_region_class (Has σ M7) (by kernel_rfl) (by kernel_rfl) h.drew ?_
  clear h
  repeat (first
    | go_big_quiet_skip
    | (go_big_quiet_want; first
      | (refine quiet_load_has 3 _ rfl rfl hcg7 eg7 Tryz.underlying3 rfl ?_; simp only [Act.put, List.setIfInBounds_toArray, List.set_cons_zero, List.set_cons_succ]; go_big_quiet_on)
      | (refine quiet_load_has 3 _ rfl rfl hb37 r12 Tryz.underlying3 rfl ?_; simp only [Act.put, List.setIfInBounds_toArray, List.set_cons_zero, List.set_cons_succ]; go_big_quiet_on)
      | (go_big_quiet_op; first | go_big_quiet_on | go_big_quiet_call (first | with_reducible exact fun _ => rfl))))
  refine wpQuiet_nil ?_
  try clear w
  intro w h
  clear hcg7 eg7 hb37 r12
  have hG9 : Own M4 (M7.upd b6 (.cells #[.slice A n cap, .slice (some ⟨g, 0, none⟩) m cg] 83)) _ _ _ _ _ := hown7.at_upd HB6.out _
  have HG9 := Lib.hid (hG9.base (M' := M) fun b hb => Mm.none_of HLM.out hb)
  have HM9 := Lib.hid (Mm.le_upd h47 m6 (.cells #[.slice A n cap, .slice (some ⟨g, 0, none⟩) m cg] 83))
  have hx9 : (#[.slice A n cap, .slice (some ⟨g, 0, none⟩) m cg] : Array Value).extract 0 (0 + 2) = #[.slice A n cap, .slice (some ⟨g, 0, none⟩) m cg] := rfl
  clear hG9 hown7 hownM
  go_wp2_with (first
    | ((with_reducible show wpList _ _ _ ({ dst := _, op := Op.load 83 _, type := _, pos := _, after := _, guard := _ } :: _) _ _); refine wpList_agg_has h rfl 83 _ rfl rfl hb47 hx9 rfl Tryz.underlying83 rfl (by kernel_rfl) ?_; try simp only [Act.put, List.setIfInBounds_toArray, List.set_cons_zero, List.set_cons_succ])
    | (with_reducible show wpList _ _ _ ({ dst := _, op := Op.store 83 _ _, type := _, pos := _, after := _, guard := _ } :: _) _ _; refine wpList_storeAll_has (cells := #[.slice A n cap, .slice (some ⟨g, 0, none⟩) m cg]) h rfl 83 _ _ rfl rfl rfl hb67 rfl rfl rfl (by kernel_rfl) rfl ?_; clear h; intro w h))
  refine bodyPost_ret (results_cell_row rfl _ _ _ _ _ _ _ rfl (h.at_ b6 _ (Mm.upd_same _ _ _)) Tryz.underlying83 rfl (by kernel_rfl)) rfl ⟨_, rfl, _, h, HM9.out, ?_⟩
  rw [← natv_set, HGS.out]
  exact HG9.out
end
end
section
open Go.RowKit
set_option linter.unusedVariables false
set_option linter.unusedSimpArgs false
set_option linter.unnecessarySimpa false
theorem made_int (n : Nat) : madeCells (Value.int .i64 0).cells (n * 1) = (natv (List.replicate n 0)).toArray := by
  apply Array.ext_getElem?
  intro i
  unfold madeCells natv
  by_cases hi : i < n
  · simp [Value.cells, hi, Nat.mod_one]
  · simp [Value.cells, hi]
theorem mk_int (N : Nat) (h : N ≤ 100000) (W : World) : (Instr.makeSlice 47 (.int .i64 N) (.int .i64 N)).run Tryz.prog W = .ok (.slice (some ⟨W.heap.size, 0, none⟩) N N) (W.alloc (.cells (natv (List.replicate N 0)).toArray 3)) := by
  obtain ⟨i, hi, he⟩ := Option.map_eq_some_iff.1 info_int
  simp only [Prod.mk.injEq] at he
  obtain ⟨h1, h2, h3⟩ := he
  rw [run_makeSlice W 47 3 i (.int .i64 0) Tryz.underlying47 hi h1 .i64 .i64 N N (by omega) (by omega) (by rw [h2, Int.toNat_natCast]; omega) (by rw [h3]; omega) (by omega), Int.toNat_natCast, h2, made_int]
/-- The slots from 2 on. -/
def slots (n : Nat) : List Nat := (List.range n).map (· + 2)
theorem slots_succ (n : Nat) : slots (n + 1) = slots n ++ [n + 2] := by unfold slots; rw [List.range_succ, List.map_append]; rfl
theorem slots_len (n : Nat) : (slots n).length = n := by simp [slots]
section
variable {σ w : World} {M : Mm}
set_option maxHeartbeats 2000000 in
set_option maxRecDepth 20000 in
theorem refNew_eq (h : Has σ M w) (c : Nat → Int) {S : Nat} (hS : c 10 = (S : Int)) (hS2 : 2 ≤ S) (hS60 : S ≤ 60) : Calls Tryz.prog 39 #[confV c] w fun e w' => ∃ uL uG M', e = .returned (.agg #[uL, uG]) ∧ Has σ M' w' ∧ M.le M' ∧ Own M M' 3 1 uL (S - 1) (natv (slots (S - 1))) ∧ Own M M' 3 1 uG S (natv (List.replicate S 0)) := by
  have hx : (ints .i64 14 c).extract 0 (0 + 14) = ints .i64 14 c := rfl
  have r10 : (ints .i64 14 c)[10]? = some (.int .i64 (S : Nat)) := by rw [← hS]; rfl
  have MS := mk_int S (by omega)
  unfold confV
  clear hS
  generalize ints .i64 14 c = row at *
  generalize hzz : natv (List.replicate S 0) = zs at *
  have hzl : zs.length = S := by rw [← hzz, natv_len]; simp
  clear hzz
  go_enter Tryz.func39, Tryz.ntmps39
  go_upto_region 1 with (first
    | ((with_reducible show wpList _ _ _ ({ dst := _, op := Op.box 24 _, type := _, pos := _, after := _, guard := _ } :: _) _ _); refine wpList_box_has h rfl 24 _ rfl ?_; clear h; intro b1 w h hn1; try simp only [Act.put, List.setIfInBounds_toArray, List.set_cons_zero, List.set_cons_succ])
    | ((with_reducible show wpList _ _ _ ({ dst := _, op := Op.alloc 83, type := _, pos := _, after := _, guard := _ } :: _) _ _); refine wpList_alloc_has h rfl 83 rfl _ zF ?_; clear h; intro b2 w h hn2; try simp only [Act.put, List.setIfInBounds_toArray, List.set_cons_zero, List.set_cons_succ]))
  have h9 : Has σ ((M.upd b1 (.cells row 24)).upd b2 (.cells #[.slice none 0 0, .slice none 0 0] 83)) w := h
  have hb1 : ((M.upd b1 (.cells row 24)).upd b2 (.cells #[.slice none 0 0, .slice none 0 0] 83)) b1 = some (.cells row 24) := Mm.upd_of hn2 (Mm.upd_same _ _ _)
  have hb2 : ((M.upd b1 (.cells row 24)).upd b2 (.cells #[.slice none 0 0, .slice none 0 0] 83)) b2 = some (.cells #[.slice none 0 0, .slice none 0 0] 83) := Mm.upd_same _ _ _
  have hleM : M.le ((M.upd b1 (.cells row 24)).upd b2 (.cells #[.slice none 0 0, .slice none 0 0] 83)) := Mm.le_trans (Mm.le_upd' hn1 _) (Mm.le_upd' hn2 _)
  have HMB2 := Lib.hid (Mm.none_of (Mm.le_upd' hn1 (.cells row 24)) hn2)
  clear h hn1 hn2
  have h := h9
  clear h9
  generalize Mm.upd _ b2 _ = M2 at h hb1 hb2 hleM
  go_upto_region 2 with (first
    | (with_reducible show wpList _ _ _ ({ dst := _, op := Op.load 3 _, type := _, pos := _, after := _, guard := _ } :: _) _ _; refine wpList_load1_has h rfl 3 _ rfl rfl hb1 r10 Tryz.underlying3 rfl ?_)
    | ((with_reducible show wpList _ _ _ ({ dst := _, op := Op.alloc 83, type := _, pos := _, after := _, guard := _ } :: _) _ _); (obtain ⟨M3, hbx, hle3, hg3, hng⟩ := h.box (.cells zs.toArray 3)); generalize w.alloc _ = wx at hbx ⊢; generalize w.heap.size = g at hg3 hng ⊢; clear h MS; (have h := hbx); clear hbx; refine wpList_alloc_has h rfl 83 rfl _ zF ?_; clear h; intro b3 w h hn3; try simp only [Act.put, List.setIfInBounds_toArray, List.set_cons_zero, List.set_cons_succ])
    | ((with_reducible show wpList _ _ _ ({ dst := _, op := Op.store 83 _ _, type := _, pos := _, after := _, guard := _ } :: _) _ _); refine wpList_storeAll_has (cells := #[.slice none 0 0, .slice (some ⟨g, 0, none⟩) S S]) h rfl 83 _ _ rfl rfl rfl (Mm.upd_same _ _ _) rfl rfl rfl (by kernel_rfl) rfl ?_; clear h; intro w h))
  rw [Mm.upd_upd] at h
  have hle4 := Mm.le_trans (Mm.le_trans hleM hle3) (Mm.le_upd' hn3 (.cells #[.slice none 0 0, .slice (some ⟨g, 0, none⟩) S S] 83))
  have hb34 := Mm.upd_same M3 b3 (.cells #[.slice none 0 0, .slice (some ⟨g, 0, none⟩) S S] 83)
  have ngb : g ≠ b3 := Mm.ne_of hn3 hg3
  have hg4 : (M3.upd b3 (.cells #[.slice none 0 0, .slice (some ⟨g, 0, none⟩) S S] 83)) g = some (.cells zs.toArray 3) := (Mm.upd_ne ngb).trans hg3
  have nb23 : b2 ≠ b3 := Mm.ne_of hn3 (hle3 _ _ hb2)
  have nb13 : b1 ≠ b3 := Mm.ne_of hn3 (hle3 _ _ hb1)
  have hb24 : (M3.upd b3 (.cells #[.slice none 0 0, .slice (some ⟨g, 0, none⟩) S S] 83)) b2 = some (.cells #[.slice none 0 0, .slice none 0 0] 83) := (Mm.upd_ne nb23).trans (hle3 _ _ hb2)
  have hb14 : (M3.upd b3 (.cells #[.slice none 0 0, .slice (some ⟨g, 0, none⟩) S S] 83)) b1 = some (.cells row 24) := (Mm.upd_ne nb13).trans (hle3 _ _ hb1)
  have hMg : M g = none := Mm.none_of hleM hng
  have hMb3 : M b3 = none := Mm.none_of (Mm.le_trans hleM hle3) hn3
  clear hb1 hb2 hg3 hn3 hng hle3 hleM
  generalize M3.upd b3 _ = M4 at *
  go_upto_region 3 with (fail)
  go_loopw [4] (fun u wr => ∃ (k : Nat) (M' : Mm) (v : Value), k + 1 ≤ S ∧ u = .int .i64 ((k + 2 : Nat) : Int) ∧ Has σ M' wr ∧ (M4.drop b3).le M' ∧ M' b3 = some (.cells #[v, .slice (some ⟨g, 0, none⟩) S S] 83) ∧ Own M4 M' 3 1 v k (natv (slots k))) (fun u _ => S + 2 - (intOf u).toNat)
  case atStart => exact ⟨0, M4, .slice none 0 0, by omega, rfl, h, Mm.drop_le _ _, hb34, Own.nil _ _ _ _⟩
  case round =>
    clear h w
    obtain ⟨w, rfl⟩ : ∃ x : World, x = wr := ⟨_, rfl⟩
    obtain ⟨k, M', v, hk, rfl, h, hle, hb3, hown⟩ := hrel
    obtain ⟨A, cap, rfl⟩ := hown.form
    by_cases hlt : k + 2 ≤ S
    · have hb1' := hle _ _ (Mm.drop_of hb14 nb13)
      have hM0 : ((M4.drop b3).upd b3 (.cells #[.slice A k cap, .slice (some ⟨g, 0, none⟩) S S] 83)).le M' := Mm.upd_le2 hle hb3
      have hown0 : Own ((M4.drop b3).upd b3 (.cells #[.slice A k cap, .slice (some ⟨g, 0, none⟩) S S] 83)) M' 3 1 (.slice A k cap) k (natv (slots k)) := hown.base fun b hb => by
        have hne : b ≠ b3 := fun e => by subst e; rw [hb] at hb34; cases hb34
        rw [Mm.upd_ne hne]
        exact Mm.none_of (Mm.drop_le _ _) hb
      have hbM0 := Mm.upd_same (M4.drop b3) b3 (.cells #[.slice A k cap, .slice (some ⟨g, 0, none⟩) S S] 83)
      have hD0 : (M4.drop b3).le ((M4.drop b3).upd b3 (.cells #[.slice A k cap, .slice (some ⟨g, 0, none⟩) S S] 83)) := Mm.le_upd' (Mm.drop_none _ _) _
      have hB0 : Hid (∀ b, ((M4.drop b3).upd b3 (.cells #[.slice A k cap, .slice (some ⟨g, 0, none⟩) S S] 83)) b = none → M4 b = none) := Lib.hid fun b hb => by
        have hne : b ≠ b3 := fun e => by subst e; rw [Mm.upd_same] at hb; cases hb
        rw [Mm.upd_ne hne] at hb
        unfold Mm.drop at hb
        rw [if_neg hne] at hb
        exact hb
      have T : Hid (natv (slots (k + 1)) = natv (slots k) ++ [.int .i64 ((k + 2 : Nat) : Int)]) := by
        show _ = _
        rw [slots_succ]
        unfold natv
        rw [List.map_append]
        rfl
      have h0l2 : 0 < (#[.slice A k cap, .slice (some ⟨g, 0, none⟩) S S] : Array Value).size := by show 0 < 2; omega
      have d0 : (#[.slice A k cap, .slice (some ⟨g, 0, none⟩) S S] : Array Value)[0]? = some (.slice A k cap) := rfl
      have w1 : IntKind.i64.wrap (((k + 2 : Nat) : Int) + 1) = ((k + 2 + 1 : Nat) : Int) := by rw [show (((k + 2 : Nat) : Int) + 1) = ((k + 2 + 1 : Nat) : Int) by omega]; exact IntWalk.i64_in _ (by omega)
      have g1 : ((k + 2 : Nat) : Int) ≤ (S : Int) := by omega
      have HK := Lib.hid hlt
      have k60 : k < 60 := by omega
      clear hown hk hlt
      generalize (M4.drop b3).upd b3 _ = M0 at *
      generalize hz : ((k + 2 : Nat) : Int) = kz at *
      have HZ := Lib.hid hz
      clear hz
      go_upto_region 5 with (first
        | (with_reducible show wpList _ _ _ ({ dst := _, op := Op.load 3 _, type := _, pos := _, after := _, guard := _ } :: _) _ _; refine wpList_load1_has h rfl 3 _ rfl rfl hb1' r10 Tryz.underlying3 rfl ?_))
      go_upto_region 4 with (first
        | (with_reducible show wpList _ _ _ ({ dst := _, op := Op.load 47 _, type := _, pos := _, after := _, guard := _ } :: _) _ _; refine wpList_load1_has h rfl 47 _ rfl rfl hb3 d0 Tryz.underlying47 rfl ?_)
        | ((at_builtin; refine wpList_append_lit h hM0 rfl _ _ _ rfl rfl Tryz.underlying47 info_int rfl (by omega) rfl hown0 rfl rfl rfl (by omega) (by omega) ?_; clear h hM0 hown0; intro v w hacc; obtain ⟨M7, h, hle7, hown7⟩ := hacc; obtain ⟨A7, c7, rfl⟩ := hown7.form; have hb37 := hle7 _ _ hbM0))
        | (with_reducible show wpList _ _ _ ({ dst := _, op := Op.store 47 _ _, type := _, pos := _, after := _, guard := _ } :: _) _ _; refine wpList_store1_has h rfl 47 _ _ rfl rfl rfl hb37 h0l2 rfl (by kernel_rfl) ?_; clear h; intro w h))
      have h9 : Has σ (M7.upd b3 (.cells #[.slice A7 (k + 1) c7, .slice (some ⟨g, 0, none⟩) S S] 83)) w := h
      clear h
      have h := h9
      clear h9
      go_wp2
      go_roundw
      case rel => exact ⟨k + 1, _, _, by have := HK.out; omega, by go_num, h, Mm.drop_upd (Mm.le_trans hD0 hle7) _, Mm.upd_same _ _ _, by rw [T.out]; exact (hown7.at_upd hbM0 _).base hB0.out⟩
      case measure => rw [← HZ.out]; have := HK.out; simp [intOf]; omega
    · have hk2 : k = S - 1 := by omega
      subst hk2
      have hb2' := hle _ _ (Mm.drop_of hb24 nb23)
      have hb1' := hle _ _ (Mm.drop_of hb14 nb13)
      have hg' := hle _ _ (Mm.drop_of hg4 ngb)
      have g1 : ¬ ((S - 1 + 2 : Nat) : Int) ≤ (S : Int) := by omega
      have g2 : ¬ S - 1 + 2 ≤ S := by omega
      have hx3 : (#[.slice A (S - 1) cap, .slice (some ⟨g, 0, none⟩) S S] : Array Value).extract 0 (0 + 2) = #[.slice A (S - 1) cap, .slice (some ⟨g, 0, none⟩) S S] := rfl
      have hb2M : M4 b2 = some _ := hb24
      have hLM : M.le (M'.upd b2 (.cells #[.slice A (S - 1) cap, .slice (some ⟨g, 0, none⟩) S S] 83)) := fun q o hq => by
        have h1 := hle4 q o hq
        have n3 : q ≠ b3 := fun e => by subst e; rw [hMb3] at hq; cases hq
        have n2 : q ≠ b2 := fun e => by subst e; rw [HMB2.out] at hq; cases hq
        rw [Mm.upd_ne n2]
        exact hle _ _ (Mm.drop_of h1 n3)
      have hOL : Own M (M'.upd b2 (.cells #[.slice A (S - 1) cap, .slice (some ⟨g, 0, none⟩) S S] 83)) 3 1 (.slice A (S - 1) cap) (S - 1) (natv (slots (S - 1))) := (hown.at_upd hb24 _).base fun b hb => Mm.none_of hle4 hb
      have ngb2 : g ≠ b2 := fun e => by
        subst e
        rw [hg4] at hb24
        simp only [Option.some.injEq, Obj.cells.injEq] at hb24
        exact absurd hb24.2.1 (by decide)
      have hOG : Own M (M'.upd b2 (.cells #[.slice A (S - 1) cap, .slice (some ⟨g, 0, none⟩) S S] 83)) 3 1 (.slice (some ⟨g, 0, none⟩) S S) S zs := ⟨by omega, .inr ⟨g, S, zs.toArray, rfl, hMg, (Mm.upd_ne ngb2).trans hg', Nat.le_refl _, by unfold maxLen; omega, by simp [hzl], by rw [Nat.mul_one]; exact List.take_of_length_le (Nat.le_of_eq hzl)⟩⟩
      replace hLM := Lib.hid hLM
      replace hOL := Lib.hid hOL
      replace hOG := Lib.hid hOG
      clear hown hk hlt hle hg' hg4 hb24 hb14 hb34 hle4
      go_wp2_with (first
        | (with_reducible show wpList _ _ _ ({ dst := _, op := Op.load 3 _, type := _, pos := _, after := _, guard := _ } :: _) _ _; refine wpList_load1_has h rfl 3 _ rfl rfl hb1' r10 Tryz.underlying3 rfl ?_)
        | ((with_reducible show wpList _ _ _ ({ dst := _, op := Op.load 83 _, type := _, pos := _, after := _, guard := _ } :: _) _ _); refine wpList_agg_has h rfl 83 _ rfl rfl hb3 hx3 rfl Tryz.underlying83 rfl (by kernel_rfl) ?_; try simp only [Act.put, List.setIfInBounds_toArray, List.set_cons_zero, List.set_cons_succ])
        | (with_reducible show wpList _ _ _ ({ dst := _, op := Op.store 83 _ _, type := _, pos := _, after := _, guard := _ } :: _) _ _; refine wpList_storeAll_has (cells := #[.slice A (S - 1) cap, .slice (some ⟨g, 0, none⟩) S S]) h rfl 83 _ _ rfl rfl rfl hb2' rfl rfl rfl (by kernel_rfl) rfl ?_; clear h; intro w h))
      exact bodyPost_ret (results_cell_row rfl _ _ _ _ _ _ _ rfl (h.at_ b2 _ (Mm.upd_same _ _ _)) Tryz.underlying83 rfl (by kernel_rfl)) rfl ⟨_, _, rfl, _, h, hLM.out, hOL.out, hOG.out⟩
end
end
section
open Go.RowKit
set_option linter.unusedVariables false
set_option linter.unusedSimpArgs false
set_option linter.unnecessarySimpa false
def enc2 (x : Int × Int) : List Value := [.int .i64 x.1, .int .i64 x.2]
/-- One element of a row of the call's own is stored, at a step of a region that draws. -/
theorem step_putRow {P : Program} {op : Oper} {a : Act} {ops : Array Oper} {σ w : World} {M M0 : Mm} {Q : Exit → Act → World → Prop} {K : Act → World → Prop} {E : Prop} {α : Type} {enc : α → List Value} {e : TypeId} {sz n g cap : Nat} {L : List α} (hen : ∀ x, (enc x).length = sz) (h : Has σ M w) (hle : M0.le M) (hown : Own M0 M e sz (.slice (some ⟨g, 0, none⟩) n cap) n (L.flatMap enc)) (hL : L.length = n)
    (hgd : op.guard = none) (t : TypeId) (x y : Operand) (ho : op.op = .store t x y) (hdst : op.dst = none) {k : Nat} (hx : a.eval x = .pointer (some ⟨g, k * sz, none⟩)) {cells : Array Value} (hy : a.eval y = .agg cells) (hk : k < n) (z : α) (hz : cells.toList = enc z) (h1 : ∀ u ∈ enc z, u.oneCell' = true)
    (hi : (P.info? t).map (·.size) = some sz)
    (hK : ∀ w' M', Has σ M' w' → M0.le M' → Own M0 M' e sz (.slice (some ⟨g, 0, none⟩) n cap) n ((L.set k z).flatMap enc) → K a w') : if Region.wanted op (yielded ops a.tmps) = true then Oper.wp P op a w K Q else E := by
  have hw : Region.wanted op (yielded ops a.tmps) = true := by simp [Region.wanted, hgd]
  rw [if_pos hw]
  obtain ⟨M', hh, hle', hown'⟩ := Own.putRow hen h hle hown (k := k) (by omega) z hL
  have hsz : cells.size = sz := by have := congrArg List.length hz; simpa [hen] using this
  refine wp_store_mid t x y ho g (k * sz) cells hx hy ?_ (by rw [hi, hsz]) (by rw [Array.all_eq_true_iff_forall_mem]; exact fun u hu => h1 u (by rw [← hz]; simpa using hu)) ?_
  · intro j hj
    obtain ⟨_, ⟨hv, _⟩ | ⟨g', cap', cur, hv, hg, hM, hc, hm, hs, ht⟩⟩ := hown
    · cases hv
    · cases hv
      have : k * sz + j < cur.size := by
        rw [hs]
        have : (k + 1) * sz ≤ cap * sz := Nat.mul_le_mul_right _ (by omega)
        rw [Nat.add_mul, Nat.one_mul] at this
        omega
      exact ⟨by rw [h.cell hM, Array.getElem?_eq_getElem this]; rfl, h.free hM _⟩
  · rw [hdst, hz]
    exact hK _ _ hh hle' hown'
theorem natv_erase (l : List Nat) (k : Nat) : natv (l.eraseIdx k) = (natv l).take k ++ (natv l).drop (k + 1) := by
  unfold natv
  rw [List.eraseIdx_eq_take_drop_succ, List.map_append, List.map_take, List.map_drop]
theorem outK_self {K M : Mm} {labK : Nat → Nat} {j : Nat} (h : ∀ c o, K c = some o → labK c ≠ j) : outK K M labK j = M := by
  funext c
  unfold outK
  cases e : K c with
  | none => rfl
  | some o => simp only [if_neg (h c o e)]
theorem stable_outK {K M : Mm} {labK : Nat → Nat} {j : Nat} (hB : K.le M) (hj : j ≠ 0) : (stable K labK).le (outK K M labK j) := fun c o h => by
  unfold stable at h
  split at h
  · next hl => exact outK_of hB h (by rw [hl]; exact Ne.symm hj)
  · cases h
end
section
set_option linter.unusedSimpArgs false
theorem map_set {α : Type} (f : Nat → α) (n k : Nat) (y : α) : ((List.range n).map f).set k y = (List.range n).map (put1 f k y) := by
  apply List.ext_getElem?
  intro i
  rw [List.getElem?_set, List.getElem?_map, List.getElem?_map]
  by_cases hi : i < n
  · rw [List.getElem?_range hi]
    by_cases e : k = i
    · subst e; rw [if_pos rfl, if_pos (by simpa using hi)]; simp [put1]
    · rw [if_neg e]; simp [put1, show ¬ i = k from fun h => e h.symm]
  · rw [List.getElem?_eq_none (by simpa using hi)]
    simp [hi]
    omega
end
section
open Go.RowKit
set_option linter.unusedVariables false
set_option linter.unusedSimpArgs false
set_option linter.unnecessarySimpa false
theorem gone_top {B S t l x : Nat} {g : GM} (fs : List Fr) (F : Fr) : goneG B S (g.top t fs F) l x = (goneG B S g l x).top t fs F := rfl
theorem giveG_top {B S gens t l x : Nat} {g : GM} (fs fs' : List Fr) (F : Fr) : giveG B S gens (g.top t fs' F) t l fs x = giveG B S gens g t l fs x := by
  unfold giveG
  have e : ∀ o, (g.top t fs' F).w l o = g.w l o := fun _ => rfl
  rw [e, e, gone_top]
  split
  · rw [top_set, top_set, top_back]
  · rw [top_back]
/-- Give alone. -/
theorem give_alone {σ w : World} {K M : Mm} {lab : Nat → Nat} {p t q n L B S T m gens x : Nat} {s : MachS} {c : Nat → Int} {tp : List Nat} {g : GM} (h : Has σ M w) (hM : Mach M lab p s) (hB : Base K M lab) (hA : AbsM c tp n s g) (hc : ConfMay c) (hn : Nums c L B S) (hT : c 1 = (T : Nat)) (hn8 : n < 80000) (hm : m < 900000) (ht : t < T) (hq : tp[t]? = some q) (hi : g.thr t = []) (hg : c 12 = (gens : Nat)) {Ls : List Nat} (I : LvR S B m g (levT c t) Ls) (x1 : 1 ≤ x) (x2 : x ≤ S) (hh : g.held (levT c t) x = true) {rv : Value} (hr : Rd M 1 rv 1 (u64s [(x : Int)])) :
    Calls Tryz.prog 14 #[.pointer (some ⟨p, 0, none⟩), .int .i64 (t : Nat), (.func (.func 41) #[] #[]), .int .i64 10, .int .i64 2, rv] w fun r w' => ∃ k : Nat, r = .returned (.int .i64 (k : Nat)) ∧ k ≤ 10 ∧ ∃ M' lab' s', Has σ M' w' ∧ Mach M' lab' p s' ∧ Base K M' lab' ∧ AbsM c tp (n + k) s' (giveG B S gens g t (levT c t) [] x) := by
  obtain ⟨elv, ll⟩ := levT_of hc hn hT ht
  have ht1 : (t : Int) < c 1 := by rw [hT]; omega
  have hlc : (levT c t : Int) < c 0 := by rw [hn.lev]; omega
  have hs60 := hn.s0.2
  obtain ⟨k, hk, hk0, S1⟩ := steps_give (D := fun n g g2 => DoesTo 41 σ p t c tp n (levT c t) g g2) (d := 0) (n := n) (g := g.top t [] ⟨2, 0, fun i => [x].getD i 0⟩) (fs := []) (F := ⟨2, 0, fun i => [x].getD i 0⟩) (hand ht1 hq elv hlc) (by omega) ht1 hq elv hlc top_thr (by simp) (Nat.zero_le _) hn.lim hn.slo hs60 (by omega) (I.atop [] _) hg rfl rfl rfl x1 x2 hh
  rw [giveG_top] at S1
  have hd : (giveG B S gens g t (levT c t) [] x).thr t = [] := by
    unfold giveG
    split
    · exact back_thr'
    · exact back_thr'
  refine (S1.alone h hM hB hA (by omega) ht1 hq elv hi (us := [x]) hr (by simp) hd hk0 hk (by omega) (by kernel_rfl)).mono fun r w' ⟨hr, a⟩ => ⟨k, hr, hk, a⟩
/-- Slots' generations, as the document has them. -/
structure GenL (S B : Nat) (g : GM) (l : Nat) (gl : List Nat) : Prop where
  len : gl.length = S
  all : ∀ i, 1 ≤ i → i ≤ S → gl[i - 1]? = some (genOf (g.w l (oNd B S i 0)))
/-- What was made: its slot, Head, Key, A, B. -/
abbrev Mk := Nat × Nat × Nat × Nat × Nat
def encM (x : Mk) : List Value := [.int .i64 (x.1 : Nat), .int .u64 (x.2.1 : Nat), .int .u64 0, .int .u64 (x.2.2.1 : Nat), .int .u64 (x.2.2.2.1 : Nat), .int .u64 (x.2.2.2.2 : Nat)]
theorem encM_len (x : Mk) : (encM x).length = 6 := rfl
def ndF (x : Mk) : Nat → Int := fun j => if j = 0 then (x.2.1 : Nat) else if j = 2 then (x.2.2.1 : Nat) else if j = 3 then (x.2.2.2.1 : Nat) else if j = 4 then (x.2.2.2.2 : Nat) else 0
def IsNd (B S : Nat) (g : GM) (l : Nat) (x : Mk) : Prop := ints .u64 5 (nodeN B S g l x.1) = ints .u64 5 (ndF x)
theorem isNd_of {B S l : Nat} {g : GM} {x : Mk} (h0 : g.w l (oNd B S x.1 0) = x.2.1) (h1 : g.w l (oNd B S x.1 1) = 0) (h2 : g.w l (oNd B S x.1 2) = x.2.2.1) (h3 : g.w l (oNd B S x.1 3) = x.2.2.2.1) (h4 : g.w l (oNd B S x.1 4) = x.2.2.2.2) : IsNd B S g l x := by
  refine ints_congr fun j hj => ?_
  unfold nodeN ndF
  rcases (show j = 0 ∨ j = 1 ∨ j = 2 ∨ j = 3 ∨ j = 4 by omega) with e | e | e | e | e
  · subst e; rw [h0]; rfl
  · subst e; rw [h1]; rfl
  · subst e; rw [h2]; rfl
  · subst e; rw [h3]; rfl
  · subst e; rw [h4]; rfl
/-- What always holds between MintAlone's routines. -/
structure MaI (S B L T m : Nat) (g : GM) (Lf gl : Nat → List Nat) (md : Nat → List Mk) : Prop where
  lv : ∀ l, l < L → LvR S B m g l (Lf l)
  gen : ∀ l, l < L → GenL S B g l (gl l)
  idle : ∀ t, t < T → g.thr t = []
  all : ∀ l, l < L → ∀ x ∈ md l, 1 ≤ x.1 ∧ x.1 ≤ S ∧ g.held l x.1 = true ∧ IsNd B S g l x
  nodup : ∀ l, l < L → ((md l).map fun x => x.1).Nodup
theorem nodup_len {S : Nat} {l : List Nat} (h : l.Nodup) (hl : ∀ x ∈ l, 1 ≤ x ∧ x ≤ S) : l.length ≤ S := by
  have e : l.length = ((slotsFrom 1 S).filter fun x => decide (x ∈ l)).length := List.Perm.length_eq ((List.perm_ext_iff_of_nodup h (List.Nodup.sublist List.filter_sublist (List.Pairwise.map _ (fun a b hab e => hab (by omega)) (List.nodup_range (n := S))))).2 fun x => by
    rw [List.mem_filter, decide_eq_true_eq]
    refine ⟨fun hx => ⟨List.mem_map.2 ⟨x - 1, List.mem_range.2 (by have := hl x hx; omega), by have := hl x hx; omega⟩, hx⟩, fun hx => hx.2⟩)
  rw [e]
  exact Nat.le_trans (List.length_filter_le _ _) (by simp [slotsFrom])
section
variable {S B L T m l t x i : Nat} {g : GM} {Lf gl : Nat → List Nat} {md : Nat → List Mk}
theorem MaI.mono {m' : Nat} (h : MaI S B L T m g Lf gl md) (hm : m ≤ m') : MaI S B L T m' g Lf gl md := ⟨fun l hl => (h.lv l hl).mono hm, h.gen, h.idle, h.all, h.nodup⟩
theorem MaI.short (h : MaI S B L T m g Lf gl md) (hl : l < L) : (md l).length ≤ S := by
  have := nodup_len (S := S) (h.nodup l hl) fun y hy => by
    obtain ⟨x, hx, rfl⟩ := List.mem_map.1 hy
    exact ⟨(h.all l hl x hx).1, (h.all l hl x hx).2.1⟩
  rwa [List.length_map] at this
theorem MaI.free (h : MaI S B L T m g Lf gl md) (hl : l < L) : (Lf l).length ≤ S := nodup_len (h.lv l hl).nodup fun y hy => ⟨((h.lv l hl).rng y hy).1, ((h.lv l hl).rng y hy).2.1⟩
theorem MaI.first (hS : 2 ≤ S) : MaI S B L T 0 (gm0 B S) (fun _ => slots (S - 1)) (fun _ => List.replicate S 0) fun _ => [] := by
  refine ⟨fun l _ => lvR_first hS l, fun l _ => ⟨by simp, fun i h1 h2 => ?_⟩, fun _ _ => rfl, fun l _ x hx => absurd hx List.not_mem_nil, fun l _ => List.nodup_nil⟩
  rw [List.getElem?_replicate, if_pos (by omega)]
  show _ = some (genOf (w0 B S S (oNd B S i 0)).toNat)
  rw [w0_nd B S i h1]
  split <;> rfl
theorem isNd_congr {g2 : GM} {y : Mk} (h : IsNd B S g l y) (e : ∀ j, j < 5 → g2.w l (oNd B S y.1 j) = g.w l (oNd B S y.1 j)) : IsNd B S g2 l y := by
  unfold IsNd at h ⊢
  rw [← h]
  exact ints_congr fun j hj => by unfold nodeN; rw [e j hj]
/-- Mint that is told no slot. -/
theorem MaI.none (h : MaI S B L T m g Lf gl md) : MaI S B L T m (g.back t [] [0]) Lf gl md :=
  ⟨fun l hl => (h.lv l hl).congr rfl (fun _ _ _ => rfl) (fun _ _ _ => rfl) (fun _ _ => rfl), fun l hl => ⟨(h.gen l hl).len, (h.gen l hl).all⟩, fun t' ht' => by
    by_cases e : t' = t
    · subst e; exact back_thr'
    · exact (put1_ne e).trans (h.idle t' ht'), h.all, h.nodup⟩
/-- Mint of a slot. -/
theorem MaI.made (h : MaI S B L T m g Lf gl md) (hl : l < L) {r : List Nat} (hL : Lf l = x :: r) (hm : m < 900000) (hS : S ≤ 60) (st key a b : Nat) : MaI S B L T (m + 1) (madeG B S g t l x st key a b) (put1 Lf l r) gl (put1 md l (md l ++ [(x, mkHead (genOf (g.w l (oNd B S x 0))) st, key, a, b)])) := by
  have hx := h.lv l hl
  rw [hL] at hx
  obtain ⟨x1, x2, xh⟩ := hx.rng x List.mem_cons_self
  have hgm := (hx.hd x x1 x2).2
  have hne : ∀ l' o, l' ≠ l → (madeG B S g t l x st key a b).w l' o = g.w l' o := fun l' o e => made_w _ _ _ _ _ _ fun hh => e hh.1
  have hnd : ∀ y j, 1 ≤ y → j < 5 → y ≠ x → (madeG B S g t l x st key a b).w l (oNd B S y j) = g.w l (oNd B S y j) := fun y j h1 hj e => made_w _ _ _ _ _ _ fun hh => by
    have := hh.2
    unfold oNd at this
    omega
  have hxm : ∀ y ∈ md l, y.1 ≠ x := fun y hy e => by
    have := (h.all l hl y hy).2.2.1
    rw [e, xh] at this; cases this
  refine ⟨fun l' hl' => ?_, fun l' hl' => ⟨(h.gen l' hl').len, fun i h1 h2 => ?_⟩, fun t' ht' => ?_, fun l' hl' y hy => ?_, fun l' hl' => ?_⟩
  · by_cases e : l' = l
    · subst e; rw [put1_same]; exact hx.made hm hS
    · rw [put1_ne e]
      exact ((h.lv l' hl').congr (hne l' _ e) (fun i _ _ => hne l' _ e) (fun i _ _ => hne l' _ e) fun y hy => by rw [made_held, if_neg fun hh => e hh.1]).mono (by omega)
  · rw [(h.gen l' hl').all i h1 h2]
    by_cases e : l' = l
    · subst e
      by_cases e2 : i = x
      · subst e2; rw [(made_node st key a b).1, gen_head (by omega)]
      · rw [hnd i 0 h1 (by omega) e2]
    · rw [hne l' _ e]
  · by_cases e : t' = t
    · subst e; exact back_thr'
    · exact (put1_ne e).trans (h.idle t' ht')
  · by_cases e : l' = l
    · subst e
      rw [put1_same] at hy
      rcases List.mem_append.1 hy with hy | hy
      · obtain ⟨a1, a2, a3, a4⟩ := h.all _ hl y hy
        refine ⟨a1, a2, by rw [made_held]; split <;> first | rfl | exact a3, isNd_congr a4 fun j hj => hnd y.1 j a1 hj (hxm y hy)⟩
      · obtain rfl := List.mem_singleton.1 hy
        refine ⟨x1, x2, by rw [made_held, if_pos ⟨rfl, rfl⟩], ?_⟩
        obtain ⟨e0, e1, e2, e3, e4⟩ := made_node (B := B) (S := S) (g := g) (t := t) (l := l') (x := x) st key a b
        exact isNd_of e0 e1 e2 e3 e4
    · rw [put1_ne e] at hy
      obtain ⟨a1, a2, a3, a4⟩ := h.all l' hl' y hy
      exact ⟨a1, a2, by rw [made_held, if_neg fun hh => e hh.1]; exact a3, isNd_congr a4 fun j hj => hne l' _ e⟩
  · by_cases e : l' = l
    · subst e
      rw [put1_same, List.map_append]
      refine List.nodup_append.2 ⟨h.nodup _ hl, by simp, fun y hy z hz => ?_⟩
      obtain ⟨y', hy', rfl⟩ := List.mem_map.1 hy
      have : z = x := by simpa using hz
      subst this
      exact hxm y' hy'
    · rw [put1_ne e]; exact h.nodup l' hl'
/-- Give of what was made. -/
theorem MaI.give {gens : Nat} (h : MaI S B L T m g Lf gl md) (hl : l < L) {y : Mk} (hy : (md l)[i]? = some y) (hm : m < 900000) (hS : S ≤ 60) : MaI S B L T (m + 1) (giveG B S gens g t l [] y.1) (put1 Lf l (gaveL B S gens g l y.1 (Lf l))) (put1 gl l ((gl l).set (y.1 - 1) (genOf (g.w l (oNd B S y.1 0)) + 1))) (put1 md l ((md l).eraseIdx i)) := by
  have hym := List.mem_of_getElem? hy
  obtain ⟨x1, x2, xh, xn⟩ := h.all l hl y hym
  obtain ⟨x, hx⟩ : ∃ x, y.1 = x := ⟨_, rfl⟩
  have hgm := ((h.lv l hl).hd _ x1 x2).2
  rw [hx] at x1 x2 xh hgm ⊢
  have hxL : x ∉ Lf l := fun hh => by have := ((h.lv l hl).rng x hh).2.2; rw [xh] at this; cases this
  have hne : ∀ l' o, l' ≠ l → (giveG B S gens g t l [] x).w l' o = g.w l' o := fun l' o e => give_w0 _ _ fun hh => e hh.1
  have hnd : ∀ y j, 1 ≤ y → y ≤ S → j < 5 → y ≠ x → (giveG B S gens g t l [] x).w l (oNd B S y j) = g.w l (oNd B S y j) := fun y j h1 h2 hj e => give_w0 _ _ fun hh => by
    rcases hh.2 with h | h | h
    · unfold oNd at h; omega
    · unfold oNd oLk at h; omega
    · unfold oNd at h; omega
  have hnod := h.nodup l hl
  have hxm : ∀ z ∈ (md l).eraseIdx i, z.1 ≠ x := fun z hz e => by
    obtain ⟨hi, hyy⟩ := List.getElem?_eq_some_iff.1 hy
    obtain ⟨j, hj, hjz⟩ := List.mem_eraseIdx_iff_getElem.1 hz
    have hp := List.pairwise_iff_getElem.1 hnod
    rcases Nat.lt_trichotomy i j with hlt | heq | hgt
    · exact hp i j (by simpa using hi) (by simpa using hj) hlt (by simp [hyy, hjz.2, hx, e])
    · exact hjz.1 heq.symm
    · exact hp j i (by simpa using hj) (by simpa using hi) hgt (by simp [hyy, hjz.2, hx, e])
  refine ⟨fun l' hl' => ?_, fun l' hl' => ?_, fun t' ht' => ?_, fun l' hl' z hz => ?_, fun l' hl' => ?_⟩
  · by_cases e : l' = l
    · subst e; rw [put1_same]; exact (h.lv _ hl).give hm hS x1 x2 hxL
    · rw [put1_ne e]
      exact ((h.lv l' hl').congr (hne l' _ e) (fun i _ _ => hne l' _ e) (fun i _ _ => hne l' _ e) fun y hy => by rw [give_held, if_neg fun hh => e hh.1]).mono (by omega)
  · by_cases e : l' = l
    · subst e
      rw [put1_same]
      refine ⟨by rw [List.length_set]; exact (h.gen _ hl).len, fun j h1 h2 => ?_⟩
      rw [List.getElem?_set]
      by_cases e2 : j = x
      · subst e2
        rw [if_pos rfl, if_pos (by rw [(h.gen _ hl).len]; omega), give_hd x1 x2, gen_head (by omega)]
      · rw [if_neg (by omega), (h.gen _ hl).all j h1 h2, hnd j 0 h1 h2 (by omega) e2]
    · rw [put1_ne e]
      refine ⟨(h.gen l' hl').len, fun j h1 h2 => ?_⟩
      rw [hne l' _ e]
      exact (h.gen l' hl').all j h1 h2
  · have hthr : ∀ t', (giveG B S gens g t l [] x).thr t' = put1 g.thr t [] t' := fun t' => by unfold giveG; split <;> rfl
    rw [hthr]
    by_cases e : t' = t
    · subst e; exact put1_same _ _ _
    · exact (put1_ne e).trans (h.idle t' ht')
  · by_cases e : l' = l
    · subst e
      rw [put1_same] at hz
      obtain ⟨a1, a2, a3, a4⟩ := h.all _ hl z (List.mem_of_mem_eraseIdx hz)
      exact ⟨a1, a2, by rw [give_held, if_neg fun hh => hxm z hz hh.2]; exact a3, isNd_congr a4 fun j hj => hnd z.1 j a1 a2 hj (hxm z hz)⟩
    · rw [put1_ne e] at hz
      obtain ⟨a1, a2, a3, a4⟩ := h.all l' hl' z hz
      exact ⟨a1, a2, by rw [give_held, if_neg fun hh => e hh.1]; exact a3, isNd_congr a4 fun j hj => hne l' _ e⟩
  · by_cases e : l' = l
    · subst e
      rw [put1_same]
      exact List.Nodup.sublist (List.Sublist.map _ (List.eraseIdx_sublist _ _)) hnod
    · rw [put1_ne e]; exact h.nodup l' hl'
end
/-- What Take tells of a free list. -/
def toldN (B S : Nat) (g : GM) (l : Nat) (Ls : List Nat) : Nat := match Ls with | [] => 0 | x :: _ => genOf (g.w l (oNd B S x 0))
theorem refTake_gm {σ w : World} {M : Mm} {vL vG : Value} {B S l : Nat} {Ls gs : List Nat} {g : GM} (h : Has σ M w) (hL : Rd M 1 vL Ls.length (natv Ls)) (hG : Rd M 1 vG S (natv gs)) (hg : GenL S B g l gs) (hl : ∀ x ∈ Ls, 1 ≤ x ∧ x ≤ S) (hS : S ≤ 60) :
    Calls Tryz.prog 42 #[.agg #[vL, vG]] w fun e w' => ∃ u, e = .returned (.tuple #[.agg #[u, vG], .int .i64 (Ls.headD 0 : Nat), .int .i64 (toldN B S g l Ls : Nat)]) ∧ Has σ M w' ∧ (∀ K : Mm, Rd K 1 vL Ls.length (natv Ls) → Rd K 1 u Ls.tail.length (natv Ls.tail)) := by
  cases Ls with
  | nil => exact (refTake_no h hL hG).mono fun e w' ⟨a, b⟩ => ⟨vL, a, b, fun K hK => hK⟩
  | cons x r =>
    obtain ⟨x1, x2⟩ := hl x List.mem_cons_self
    refine (refTake_yes h hL hG x1 x2 (by omega) (hg.all x x1 x2)).mono fun e w' hq => ?_
    obtain ⟨u, a, b, _, d⟩ := hq
    exact ⟨u, a, b, d⟩
theorem refGive_gm {σ w : World} {M K : Mm} {labK : Nat → Nat} (h : Has σ M w) (c : Nat → Int) {gens : Nat} (hg : c 12 = (gens : Nat)) {vL vG : Value} {B S x l : Nat} {Ls gs : List Nat} {g : GM} (hK : K.le M) (hL : Rd (stable K labK) 1 vL Ls.length (natv Ls)) (hG : Rd (stable K labK) 1 vG S (natv gs)) (hI : GenL S B g l gs) (x1 : 1 ≤ x) (x2 : x ≤ S) (hS : S ≤ 60) (hl : Ls.length ≤ 60) (hn : genOf (g.w l (oNd B S x 0)) ≤ 1000) :
    Calls Tryz.prog 40 #[confV c, .agg #[vL, vG], .int .i64 (x : Nat)] w fun e w' => ∃ uL uG M', e = .returned (.agg #[uL, uG]) ∧ Has σ M' w' ∧ M.le M' ∧ Rd (stable (learn K M M') (relab K labK fun _ => 0)) 1 uL (gaveL B S gens g l x Ls).length (natv (gaveL B S gens g l x Ls)) ∧ Rd (stable (learn K M M') (relab K labK fun _ => 0)) 1 uG S (natv (gs.set (x - 1) (genOf (g.w l (oNd B S x 0)) + 1))) := by
  have hs := Mm.le_trans (stable_le K labK) hK
  unfold gaveL
  by_cases hw : genOf (g.w l (oNd B S x 0)) + 1 < gens
  · rw [if_pos hw]
    refine (refGive_on h c hg (hL.le hs) (hG.le hs) x1 x2 (by omega) (by omega) (hI.all x x1 x2) (by omega) hw).mono fun e w' hq => ?_
    obtain ⟨uL, uG, M', e, hh, hle, oL, oG⟩ := hq
    exact ⟨uL, uG, M', e, hh, hle, learn_rd hK labK oL, learn_rd hK labK oG⟩
  · rw [if_neg hw]
    refine (refGive_worn h c hg (hL.le hs) (hG.le hs) x1 x2 (by omega) (by omega) (hI.all x x1 x2) (by omega) (by omega)).mono fun e w' hq => ?_
    obtain ⟨uG, M', e, hh, hle, oG⟩ := hq
    exact ⟨vL, uG, M', e, hh, hle, hL.le (stable_kp (learn_kp hK M' labK) fun h => h), learn_rd hK labK oG⟩
def encF (x : Value × Value) : List Value := [x.1, x.2]
theorem encF_len (x : Value × Value) : (encF x).length = 2 := rfl
/-- What the law knows besides: rows of its own. -/
structure LawM (K : Mm) (labK : Nat → Nat) (NL S kx : Nat) (xv hv : Value) (fx : Nat → Value × Value) (fh : Nat → Value) (L gl : Nat → List Nat) (md : Nat → List Mk) : Prop where
  xrow : Row K labK 1 83 2 xv kx (((List.range kx).map fx).flatMap encF)
  xl : ∀ k, k < kx → Rd (stable K labK) 1 (fx k).1 (L k).length (natv (L k))
  xg : ∀ k, k < kx → Rd (stable K labK) 1 (fx k).2 S (natv (gl k))
  hrow : Row K labK 2 87 1 hv NL ((List.range NL).map fh)
  each : ∀ k, k < NL → Row K labK (10 + k) 91 6 (fh k) (md k).length ((md k).flatMap encM)
section
variable {K K' M : Mm} {labK labK' : Nat → Nat} {NL S kx k : Nat} {xv hv v : Value} {fx : Nat → Value × Value} {fh : Nat → Value} {L gl : Nat → List Nat} {md : Nat → List Mk} {uL uG : Value} {l2 g2 : List Nat} {h2 : List Mk}
theorem LawM.keep (h : LawM K labK NL S kx xv hv fx fh L gl md) (hK : Kp Non K labK K' labK') : LawM K' labK' NL S kx xv hv fx fh L gl md :=
  ⟨h.xrow.keep hK (fun h => h), fun k hk => (h.xl k hk).le (stable_kp hK fun h => h), fun k hk => (h.xg k hk).le (stable_kp hK fun h => h), h.hrow.keep hK (fun h => h), fun k hk => (h.each k hk).keep hK (fun h => h)⟩
/-- One document's state more. -/
theorem LawM.push (h : LawM K labK NL S kx xv hv fx fh L gl md) (hK : Kp (fun j => j = 1) K labK K' labK') (hr : Row K' labK' 1 83 2 v (kx + 1) (((List.range kx).map fx).flatMap encF ++ [uL, uG])) (hL : Rd (stable K labK) 1 uL (L kx).length (natv (L kx))) (hG : Rd (stable K labK) 1 uG S (natv (gl kx))) : LawM K' labK' NL S (kx + 1) v hv (put1 fx kx (uL, uG)) fh L gl md := by
  have hs := stable_kp hK (by omega)
  refine ⟨?_, fun k hk => ?_, fun k hk => ?_, h.hrow.keep hK (by omega), fun k hk => (h.each k hk).keep hK (by omega)⟩
  · have e : (List.range (kx + 1)).map (put1 fx kx (uL, uG)) = (List.range kx).map fx ++ [(uL, uG)] := by
      rw [List.range_succ, List.map_append]
      congr 1
      · apply List.map_congr_left
        intro x hx
        exact put1_ne (by have := List.mem_range.1 hx; omega)
      · show [put1 fx kx (uL, uG) kx] = _
        rw [put1_same]
    rw [e, List.flatMap_append]
    exact hr
  · by_cases e : k = kx
    · subst e; rw [put1_same]; exact hL.le hs
    · rw [put1_ne e]; exact (h.xl k (by omega)).le hs
  · by_cases e : k = kx
    · subst e; rw [put1_same]; exact hG.le hs
    · rw [put1_ne e]; exact (h.xg k (by omega)).le hs
/-- A document's state is another one. -/
theorem LawM.setX (h : LawM K labK NL S kx xv hv fx fh L gl md) (hK : Kp (fun j => j = 1) K labK K' labK') (hr : Row K' labK' 1 83 2 v kx ((((List.range kx).map fx).set k (uL, uG)).flatMap encF)) (hL : Rd (stable K labK) 1 uL l2.length (natv l2)) (hG : Rd (stable K labK) 1 uG S (natv g2)) : LawM K' labK' NL S kx v hv (put1 fx k (uL, uG)) fh (put1 L k l2) (put1 gl k g2) md := by
  have hs := stable_kp hK (by omega)
  refine ⟨by rw [← map_set]; exact hr, fun i hi => ?_, fun i hi => ?_, h.hrow.keep hK (by omega), fun k hk => (h.each k hk).keep hK (by omega)⟩
  · by_cases e : i = k
    · subst e; rw [put1_same, put1_same]; exact hL.le hs
    · rw [put1_ne e, put1_ne e]; exact (h.xl i hi).le hs
  · by_cases e : i = k
    · subst e; rw [put1_same, put1_same]; exact hG.le hs
    · rw [put1_ne e, put1_ne e]; exact (h.xg i hi).le hs
/-- What a level made is another row, in two steps: the row itself, then its place. -/
theorem LawM.setH {K2 : Mm} {labK2 : Nat → Nat} (h : LawM K labK NL S kx xv hv fx fh L gl md) (hk : k < NL) (hK : Kp (fun j => j = 10 + k) K labK K' labK') (hr : Row K' labK' (10 + k) 91 6 v h2.length (h2.flatMap encM)) (hK2 : Kp (fun j => j = 2) K' labK' K2 labK2) {hv2 : Value} (hr2 : Row K2 labK2 2 87 1 hv2 NL (((List.range NL).map fh).set k v)) : LawM K2 labK2 NL S kx xv hv2 fx (put1 fh k v) L gl (put1 md k h2) := by
  have hs := stable_kp hK (by omega)
  have hs2 := stable_kp hK2 (by omega)
  refine ⟨(h.xrow.keep hK (by omega)).keep hK2 (by omega), fun i hi => ((h.xl i hi).le hs).le hs2, fun i hi => ((h.xg i hi).le hs).le hs2, by rw [← map_set]; exact hr2, fun i hi => ?_⟩
  by_cases e : i = k
  · subst e; rw [put1_same, put1_same]; exact hr.keep hK2 (by omega)
  · rw [put1_ne e, put1_ne e]; exact ((h.each i hi).keep hK (by omega)).keep hK2 (by omega)
end
end
section
open Go.RowKit
set_option linter.unusedVariables false
set_option linter.unusedSimpArgs false
set_option linter.unnecessarySimpa false
def nKs : List Kd := List.replicate 5 (some (some .u64))
theorem fits_n (Y : Nat → Int) : fits nKs (ints .u64 5 Y).toList := ⟨rfl, rfl, rfl, rfl, rfl, trivial⟩
theorem sames_n (Y : Nat → Int) : sames (ints .u64 5 Y).toList (ints .u64 5 Y).toList = true := by
  show ((Y 0 == Y 0) && ((Y 1 == Y 1) && ((Y 2 == Y 2) && ((Y 3 == Y 3) && ((Y 4 == Y 4) && true))))) = true
  simp
def exM : Nat → Int := fun i => if i = 0 then 1 else if i = 1 then 1 else if i = 10 then 3 else if i = 11 then 1 else if i = 12 then 9 else 0
theorem exM_may : ConfMay exM := by decide
theorem exM_nums : Nums exM 1 1 3 := ⟨rfl, rfl, rfl, by omega, by omega, by omega⟩
theorem exM_lev : levT exM 0 = 0 := by decide
def exMN : Nat → Int := fun j => if j = 0 then 2 else if j = 2 then 5 else if j = 3 then 1 else if j = 4 then 2 else 0
theorem exM_node : ints .u64 5 (nodeN 1 3 (madeG 1 3 (gm0 1 3) 0 0 2 2 5 1 2) 0 2) = ints .u64 5 exMN := by
  obtain ⟨e0, e1, e2, e3, e4⟩ := made_node (B := 1) (S := 3) (g := gm0 1 3) (t := 0) (l := 0) (x := 2) 2 5 1 2
  refine ints_congr fun j hj => ?_
  unfold nodeN exMN
  rcases (show j = 0 ∨ j = 1 ∨ j = 2 ∨ j = 3 ∨ j = 4 by omega) with e | e | e | e | e
  · subst e; rw [e0]; decide
  · subst e; rw [e1]; rfl
  · subst e; rw [e2]; rfl
  · subst e; rw [e3]; rfl
  · subst e; rw [e4]; rfl
set_option maxHeartbeats 4000000 in
set_option maxRecDepth 20000 in
theorem mi_lives {σ w : World} {M : Mm} (h : Has σ M w) : Calls Tryz.prog 38 #[] w fun r w' => r = .returned (.bool true) ∧ Has σ M w' := by
  have NW := Lib.hid (fun (w : World) (h : Has σ M w) => mNew_yes h exM exM_may exM_nums)
  have EC : confV exM = .agg #[.int .i64 1, .int .i64 1, .int .i64 0, .int .i64 0, .int .i64 0, .int .i64 0, .int .i64 0, .int .i64 0, .int .i64 0, .int .i64 0, .int .i64 3, .int .i64 1, .int .i64 9, .int .i64 0] := rfl
  rw [EC] at NW
  clear EC
  go_enter Tryz.func38, Tryz.ntmps38
  go_upto_region 2 with (first
    | (go_at_call 9; refine (NW.out _ h).mono ?_; clear h; rintro _ w ⟨p, M1, lab1, s1, rfl, h, hB1, hM1, hN⟩))
  clear NW
  obtain ⟨q, hq0⟩ : ∃ q, s1.tp[0]? = some q := ⟨_, List.getElem?_eq_getElem (by have := hM1.tlen; rw [hN.c] at this; have h2 : exM 1 = 1 := rfl; omega)⟩
  have hA1 := absM_first exM_nums exM_may hN hM1.wsz
  generalize s1.tp = tp at hA1 hq0
  have HQ := Lib.hid hq0
  have HM1 := Lib.hid hM1
  have HB1 := Lib.hid hB1
  have HA1 := Lib.hid hA1
  clear hN hq0 hA1 hM1 hB1
  go_wp2_with (fail)
  obtain ⟨M2, hbx, hle2, hbl, hnl⟩ := h.box (.cells #[.int .u64 2, .int .u64 5, .int .u64 1, .int .u64 2] 42)
  generalize w.alloc _ = wx at hbx ⊢
  generalize w.heap.size = bl at hbl hnl ⊢
  clear h
  try clear w
  have h := hbx
  clear hbx
  obtain ⟨w, rfl⟩ : ∃ x : World, x = wx := ⟨_, rfl⟩
  have P1 : Hid (∀ w : World, Has σ M2 w → Calls Tryz.prog 14 #[.pointer (some ⟨p, 0, none⟩), .int .i64 0, (.func (.func 41) #[] #[]), .int .i64 12, .int .i64 30, .slice (some ⟨bl, 0, none⟩) 4 4] w fun r w' => ∃ k : Nat, r = .returned (.int .i64 (k : Nat)) ∧ 0 < k ∧ k ≤ 12 ∧ ∃ M' lab' s', Has σ M' w' ∧ Mach M' lab' p s' ∧ Base M M' lab' ∧ AbsM exM tp (0 + k) s' (madeG 1 3 (gm0 1 3) 0 0 2 2 5 1 2)) := Lib.hid fun w h => by
    have hrd : Rd M2 1 (.slice (some ⟨bl, 0, none⟩) 4 4) 4 (u64s [2, 5, 1, 2]) := ⟨rfl, _, _, rfl, Nat.le_refl _, fun _ => ⟨bl, 0, _, _, _, rfl, hbl, fun j u hu => by simpa [u64s] using hu⟩⟩
    have := mint_alone (t := 0) (n := 0) (m := 0) (B := 1) (S := 3) (L := 1) (T := 1) h (HM1.out.keep (Kp.le hle2 fun _ => 0) fun _ _ h => h) (HB1.out.keep (Kp.le hle2 fun _ => 0) fun h => h) HA1.out exM_may exM_nums rfl (by omega) (by omega) (by omega) HQ.out rfl (lvR_first (B := 1) (S := 3) (by omega) _) (us := [2, 5, 1, 2]) hrd (by decide) (by decide) (most := 12) (by omega) (by omega)
    rw [exM_lev] at this
    exact this
  clear hbl hle2 hnl
  go_at_call 14
  refine (P1.out _ h).mono ?_
  clear h P1
  rintro _ w ⟨k, rfl, hk0, hk, M3, lab3, s3, h, hM, hB, hA⟩
  obtain ⟨row, ty, hqb, d0, d1⟩ := m_told hM hA HQ.out
  have TH : Hid (∀ w : World, Has σ M3 w → Calls Tryz.prog 13 #[.pointer (some ⟨p, 0, none⟩), .int .i64 0] w fun r w' => r = .returned (.pointer (some ⟨q, 0, none⟩)) ∧ Has σ M3 w') := Lib.hid fun w h => mThread_yes (t := 0) h hM (by rw [hA.ttp]; exact HQ.out)
  replace d0 : row[0]? = some (.int .u64 2) := d0
  replace d1 : row[1]? = some (.int .u64 0) := d1
  have ND : Hid (∀ w : World, Has σ M3 w → Calls Tryz.prog 81 #[.pointer (some ⟨p, 0, none⟩), .int .i64 0, .int .i64 2] w fun r w' => r = .returned (.agg (ints .u64 5 exMN)) ∧ Has σ M3 w') := Lib.hid fun w h => by
    have := node25_eq (l := 0) (i := 2) h hM hA exM_nums (by omega) (by omega) (by omega)
    rw [exM_node] at this
    exact this
  have gl : (0 : Int) < (k : Int) := by omega
  have hle := hB.le
  clear hM hB hA hk0 hk HM1 HB1 HA1
  go_wp2_with (first
    | (go_at_call 13; refine (TH.out _ h).mono ?_; clear h; rintro _ w ⟨rfl, h⟩)
    | (with_reducible show wpList _ _ _ ({ dst := _, op := Op.load 42 _, type := _, pos := _, after := _, guard := _ } :: _) _ _; refine wpList_load1_has h rfl 42 _ rfl rfl hqb d0 Tryz.underlying42 rfl ?_)
    | (with_reducible show wpList _ _ _ ({ dst := _, op := Op.load 42 _, type := _, pos := _, after := _, guard := _ } :: _) _ _; refine wpList_load1_has h rfl 42 _ rfl rfl hqb d1 Tryz.underlying42 rfl ?_)
    | (go_at_call 81; refine (ND.out _ h).mono ?_; clear h; rintro _ w ⟨rfl, h⟩)
    | ((with_reducible show wpList _ _ _ ({ dst := _, op := Op.binOp BinOp.eql 89 _ _ _, type := _, pos := _, after := _, guard := _ } :: _) _ _); (refine wpList_eql_flat rfl 89 _ _ _ rfl (xs := ints .u64 5 exMN) (ys := ints .u64 5 exMN) rfl rfl 10 (by omega) (ks := nKs) (by kernel_rfl) rfl (by kernel_rfl) Tryz.underlying89 rfl (by kernel_rfl) (fits_n _) (fits_n _) ?_); rw [sames_n]; try simp only [Act.put, List.setIfInBounds_toArray, List.set_cons_zero, List.set_cons_succ]))
  go_ret
  exact ⟨rfl, h.le hle⟩
end
section
open Go.RowKit
set_option linter.unusedVariables false
set_option linter.unusedSimpArgs false
set_option linter.unnecessarySimpa false
theorem info_M : (Tryz.prog.info? 91).map (fun i => (i.zero, i.size, i.bytes)) = some (some (.agg #[.int .i64 0, .int .u64 0, .int .u64 0, .int .u64 0, .int .u64 0, .int .u64 0]), 6, 48) := by kernel_rfl
theorem info_MS : (Tryz.prog.info? 87).map (fun i => (i.zero, i.size, i.bytes)) = some (some (.slice none 0 0), 1, 24) := by kernel_rfl
def nils (n : Nat) : List Value := (List.range n).map fun _ => .slice none 0 0
theorem made_nils (n : Nat) : madeCells (Value.slice none 0 0).cells (n * 1) = (nils n).toArray := by
  apply Array.ext_getElem?
  intro i
  unfold madeCells nils
  by_cases hi : i < n
  · simp [Value.cells, hi, Nat.mod_one]
  · simp [Value.cells, hi]
theorem mk_mades (N : Nat) (h : N ≤ 1000) (W : World) : (Instr.makeSlice 81 (.int .i64 N) (.int .i64 N)).run Tryz.prog W = .ok (.slice (some ⟨W.heap.size, 0, none⟩) N N) (W.alloc (.cells (nils N).toArray 87)) := by
  obtain ⟨i, hi, he⟩ := Option.map_eq_some_iff.1 info_MS
  simp only [Prod.mk.injEq] at he
  obtain ⟨h1, h2, h3⟩ := he
  rw [run_makeSlice W 81 87 i (.slice none 0 0) Tryz.underlying81 hi h1 .i64 .i64 N N (by omega) (by omega) (by rw [h2, Int.toNat_natCast]; omega) (by rw [h3]; omega) (by omega), Int.toNat_natCast, h2, made_nils]
section
variable {M : Mm} {A : Option Addr} {n c l k sz : Nat} {xs : List Value}
theorem Rd.from_n (h : Rd M sz (.slice A n c) n xs) (hs : 0 < sz) (hl : l ≤ n) : Rd M sz (sliced A l n c sz) (n - l) (xs.drop (l * sz)) := by
  obtain ⟨h1, A', c', e, hc, hA⟩ := h
  cases e
  refine ⟨by rw [List.length_drop, h1, Nat.sub_mul], _, _, rfl, by omega, fun h0 => ?_⟩
  obtain ⟨b, o, cs, t, fz, rfl, hb, hx⟩ := hA (by omega)
  refine ⟨b, o + l * sz, cs, t, fz, ?_, hb, fun j u hu => ?_⟩
  · rw [if_neg (by omega)]
    simp [Addr.add_mid]
  · rw [List.getElem?_drop] at hu
    rw [Nat.add_assoc]
    exact hx _ _ hu
theorem Rd.upto_n (h : Rd M sz (.slice A n c) n xs) (hs : 0 < sz) (hk : k ≤ n) : Rd M sz (sliced A 0 k c sz) k (xs.take (k * sz)) := by
  obtain ⟨h1, A', c', e, hc, hA⟩ := h
  cases e
  refine ⟨by rw [List.length_take, h1]; exact Nat.min_eq_left (Nat.mul_le_mul_right _ hk), _, _, rfl, by omega, fun h0 => ?_⟩
  obtain ⟨b, o, cs, t, fz, rfl, hb, hx⟩ := hA (by omega)
  refine ⟨b, o, cs, t, fz, ?_, hb, fun j u hu => ?_⟩
  · rw [if_neg (by omega)]
    simp [Addr.add_mid]
  · rw [List.getElem?_take] at hu
    split at hu
    · exact hx _ _ hu
    · cases hu
end
theorem flatM_take (l : List Mk) (k : Nat) (hk : k ≤ l.length) : (l.flatMap encM).take (k * 6) = (l.take k).flatMap encM := by
  have e : l.flatMap encM = (l.take k).flatMap encM ++ (l.drop k).flatMap encM := by rw [← List.flatMap_append, List.take_append_drop]
  rw [e, List.take_append_of_le_length (by rw [flat_length encM_len, List.length_take]; have := Nat.min_eq_left hk; rw [this]; exact Nat.le_refl _), List.take_of_length_le (by rw [flat_length encM_len, List.length_take]; exact Nat.mul_le_mul_right _ (Nat.min_le_left _ _))]
theorem flatM_drop (l : List Mk) (k : Nat) (hk : k ≤ l.length) : (l.flatMap encM).drop (k * 6) = (l.drop k).flatMap encM := by
  have e : l.flatMap encM = (l.take k).flatMap encM ++ (l.drop k).flatMap encM := by rw [← List.flatMap_append, List.take_append_drop]
  rw [e]
  exact List.drop_left' (by rw [flat_length encM_len, List.length_take, Nat.min_eq_left hk])
theorem flatM_erase (l : List Mk) (k : Nat) (hk : k < l.length) : (l.eraseIdx k).flatMap encM = (l.flatMap encM).take (k * 6) ++ (l.flatMap encM).drop ((k + 1) * 6) := by
  rw [flatM_take l k (by omega), flatM_drop l (k + 1) (by omega), List.eraseIdx_eq_take_drop_succ, List.flatMap_append]
theorem encM_one (l : List Mk) : ∀ v ∈ l.flatMap encM, v.oneCell' = true := fun v hv => by
  obtain ⟨x, _, hx⟩ := List.mem_flatMap.1 hv
  simp only [encM, List.mem_cons, List.not_mem_nil, or_false] at hx
  rcases hx with rfl | rfl | rfl | rfl | rfl | rfl <;> rfl
/-- A deed. -/
structure DeedS where
  th : Int
  gi : Int
  st : Nat
  key : Nat
  a : Nat
  b : Nat
  hst : st < 256
  hkey : key < 18446744073709551616
  ha : a < 18446744073709551616
  hb : b < 18446744073709551616
def encD (d : DeedS) : List Value := [.int .i64 d.th, .int .i64 d.gi, .int .u8 (d.st : Nat), .int .u64 (d.key : Nat), .int .u64 (d.a : Nat), .int .u64 (d.b : Nat)]
theorem encD_len (d : DeedS) : (encD d).length = 6 := rfl
theorem mkHead_num (g st : Nat) : mkHead g st = st % 4 + 4 * (g % 4294967296) := by rw [mkHead_eq]; omega
set_option maxHeartbeats 1000000 in
/-- The document's Head. -/
theorem refHead_eq {σ w : World} {M : Mm} (h : Has σ M w) (g st : Nat) (hg : g < 4294967296) (hs : st < 256) : Calls Tryz.prog 83 #[.int .i64 (g : Nat), .int .i64 (st : Nat)] w fun r w' => r = .returned (.int .u64 (mkHead g st : Nat)) ∧ Has σ M w' := by
  have w1 : IntKind.u64.wrap (st : Int) = (st : Int) := IntWalk.u64_in _ (by omega)
  have w2 : IntKind.u64.wrap (g : Int) = (g : Int) := IntWalk.u64_in _ (by omega)
  have t1 : ((st : Int)).tmod 4 = ((st % 4 : Nat) : Int) := by rw [Int.tmod_eq_emod_of_nonneg (by omega)]; omega
  have t2 : ((g : Int)).tmod 4294967296 = ((g % 4294967296 : Nat) : Int) := by rw [Int.tmod_eq_emod_of_nonneg (by omega)]; omega
  have w3 : IntKind.u64.wrap ((st % 4 : Nat) : Int) = ((st % 4 : Nat) : Int) := IntWalk.u64_in _ (by omega)
  have w4 : IntKind.u64.wrap ((g % 4294967296 : Nat) : Int) = ((g % 4294967296 : Nat) : Int) := IntWalk.u64_in _ (by omega)
  have w5 : IntKind.u64.wrap (4 * ((g % 4294967296 : Nat) : Int)) = ((4 * (g % 4294967296) : Nat) : Int) := by rw [show 4 * ((g % 4294967296 : Nat) : Int) = ((4 * (g % 4294967296) : Nat) : Int) by omega]; exact IntWalk.u64_in _ (by omega)
  have w6 : IntKind.u64.wrap (((st % 4 : Nat) : Int) + ((4 * (g % 4294967296) : Nat) : Int)) = (mkHead g st : Nat) := by
    rw [mkHead_num, show ((st % 4 : Nat) : Int) + ((4 * (g % 4294967296) : Nat) : Int) = ((st % 4 + 4 * (g % 4294967296) : Nat) : Int) by omega]; exact IntWalk.u64_in _ (by omega)
  generalize mkHead g st = H at *
  generalize st % 4 = s4 at *
  generalize 4 * (g % 4294967296) = g5 at *
  generalize g % 4294967296 = g4 at *
  go_enter Tryz.func83, Tryz.ntmps83
  go_wp2_with (fail)
  go_ret
  exact ⟨by go_num, h⟩
set_option maxHeartbeats 1000000 in
theorem refMade_eq {σ w : World} {M : Mm} (h : Has σ M w) (g st k a b : Nat) (hg : g < 4294967296) (hs : st < 256) : Calls Tryz.prog 43 #[.int .i64 (st : Nat), .int .i64 (g : Nat), .int .u64 (k : Nat), .int .u64 (a : Nat), .int .u64 (b : Nat)] w fun r w' => r = .returned (.agg #[.int .u64 (mkHead g st : Nat), .int .u64 0, .int .u64 (k : Nat), .int .u64 (a : Nat), .int .u64 (b : Nat)]) ∧ Has σ M w' := by
  have HD := Lib.hid (fun (M' : Mm) (w : World) (h : Has σ M' w) => refHead_eq h g st hg hs)
  generalize mkHead g st = H at *
  clear hg hs
  go_enter Tryz.func43, Tryz.ntmps43
  go_upto_region 1 with (first
    | ((with_reducible show wpList _ _ _ ({ dst := _, op := Op.alloc 89, type := _, pos := _, after := _, guard := _ } :: _) _ _); refine wpList_alloc_has h rfl 89 rfl _ zN ?_; clear h; intro b4 w h hn4; try simp only [Act.put, List.setIfInBounds_toArray, List.set_cons_zero, List.set_cons_succ]))
  have hle := Mm.le_upd' hn4 (.cells (ints .u64 5 fun _ => 0) 89)
  have hb4 := Mm.upd_same M b4 (.cells (ints .u64 5 fun _ => 0) 89)
  replace h : Has σ (M.upd b4 (.cells (ints .u64 5 fun _ => 0) 89)) w := h
  generalize M.upd b4 _ = M1 at h hle hb4
  go_wp2_with (first
    | (go_at_call 83; refine (HD.out _ _ h).mono ?_; clear h; rintro _ w ⟨rfl, h⟩)
    | ((with_reducible show wpList _ _ _ ({ dst := _, op := Op.store 89 _ _, type := _, pos := _, after := _, guard := _ } :: _) _ _); (refine wpList_storeAll_has (cells := #[.int .u64 (H : Nat), .int .u64 0, .int .u64 (k : Nat), .int .u64 (a : Nat), .int .u64 (b : Nat)]) h rfl 89 _ _ rfl rfl rfl hb4 rfl rfl rfl (by kernel_rfl) rfl ?_); clear h; intro w h))
  exact bodyPost_ret (results_cell_row rfl _ _ _ _ _ _ _ rfl (h.at_ b4 _ (Mm.upd_same _ _ _)) Tryz.underlying89 rfl (by kernel_rfl)) rfl ⟨rfl, h.le (Mm.le_upd hle hn4 _)⟩
set_option maxHeartbeats 2000000 in
set_option maxRecDepth 20000 in
/-- Each node that was made has what it was made of. -/
theorem has_eq {σ w : World} {M : Mm} {lab : Nat → Nat} {p n m l L B S : Nat} {s : MachS} {c : Nat → Int} {tp : List Nat} {g : GM} {lst : List Mk} {v : Value} (h : Has σ M w) (hM : Mach M lab p s) (hA : AbsM c tp n s g) (hn : Nums c L B S) (hl : l < L) (hr : Rd M 6 v m (lst.flatMap encM)) (hlen : lst.length = m) (hm : m ≤ 60) (hall : ∀ x ∈ lst, 1 ≤ x.1 ∧ x.1 ≤ S ∧ IsNd B S g l x) :
    Calls Tryz.prog 44 #[.pointer (some ⟨p, 0, none⟩), .int .i64 (l : Nat), v] w fun r w' => r = .returned (.bool true) ∧ Has σ M w' := by
  obtain ⟨A, cap, rfl⟩ := hr.form
  have ND := Lib.hid (fun (x : Mk) (hx : x ∈ lst) (w : World) (h : Has σ M w) => node25_eq (i := x.1) h hM hA hn hl (hall x hx).1 (hall x hx).2.1)
  have NE := Lib.hid (fun (x : Mk) (hx : x ∈ lst) => (hall x hx).2.2)
  have HR := Lib.hid hr
  have HL := Lib.hid hlen
  have HM := Lib.hid hm
  clear hM hA hn hl hr hlen hm hall
  go_enter Tryz.func44, Tryz.ntmps44
  go_upto_region 2 with (fail)
  go_loopw [7] (fun u wr => ∃ j : Nat, j ≤ m ∧ u = .int .i64 (j : Nat) ∧ Has σ M wr) (fun u _ => m - (intOf u).toNat)
  case atStart => exact ⟨0, Nat.zero_le _, rfl, h⟩
  case round =>
    clear h w
    obtain ⟨w, rfl⟩ : ∃ x : World, x = wr := ⟨_, rfl⟩
    obtain ⟨j, hj, rfl, h⟩ := hrel
    by_cases hjn : j < m
    · obtain ⟨x, hx⟩ : ∃ x, lst[j]? = some x := ⟨_, List.getElem?_eq_getElem (by rw [HL.out]; exact hjn)⟩
      have hxm := List.mem_of_getElem? hx
      obtain ⟨bl, ol, cl, csl, tl2, fzl, hle, hbl, hcl⟩ := HR.out.elem (enc := encM) encM_len hjn hx
      have e0 : csl[ol + j * 6 + 0]? = some (.int .i64 (x.1 : Nat)) := hcl 0 _ rfl
      rw [Nat.add_zero] at e0
      have hx1 : csl.extract (ol + j * 6 + 1) (ol + j * 6 + 1 + 5) = ints .u64 5 (ndF x) := extract_of (xs := (ints .u64 5 (ndF x)).toList) (fun i u hu => by
        have e : (ints .u64 5 (ndF x)).toList = (encM x).tail := rfl
        rw [e] at hu
        have := hcl (i + 1) u hu
        rw [show ol + j * 6 + 1 + i = ol + j * 6 + (i + 1) by omega]; exact this) rfl
      have ND1 : Hid (∀ w : World, Has σ M w → Calls Tryz.prog 81 #[.pointer (some ⟨p, 0, none⟩), .int .i64 (l : Nat), .int .i64 (x.1 : Nat)] w fun r w' => r = .returned (.agg (ints .u64 5 (ndF x))) ∧ Has σ M w') := Lib.hid fun w h => by
        rw [← show ints .u64 5 (nodeN B S g l x.1) = ints .u64 5 (ndF x) from NE.out x hxm]
        exact ND.out x hxm w h
      have FX := Lib.hid (fits_n (ndF x))
      have SX := sames_n (ndF x)
      have hz : (ints .u64 5 (ndF x)).size = 5 := rfl
      generalize ints .u64 5 (ndF x) = erow at *
      generalize x.1 = x1 at *
      cases hle
      have hjn' : (j : Int) < (m : Int) := by omega
      have wj : IntKind.i64.wrap ((j : Int) + 1) = ((j + 1 : Nat) : Int) := by rw [show (j : Int) + 1 = ((j + 1 : Nat) : Int) by omega]; exact IntWalk.i64_in _ (by have := HM.out; omega)
      have HJ := Lib.hid hjn
      clear hjn hj hcl hx hxm
      go_upto_region 4 with (fail)
      refine wp_region_class (Has σ M) (by kernel_rfl) (by kernel_rfl) h.drew ?_
      clear h
      repeat (first
        | go_big_quiet_skip
        | (go_big_quiet_want; first
          | (refine quiet_load_has 3 _ rfl rfl hbl e0 Tryz.underlying3 rfl ?_; simp only [Act.put, List.setIfInBounds_toArray, List.set_cons_zero, List.set_cons_succ]; go_big_quiet_on)
          | (refine quiet_agg_has 89 _ rfl rfl hbl hx1 hz Tryz.underlying89 rfl (by kernel_rfl) ?_; simp only [Act.put, List.setIfInBounds_toArray, List.set_cons_zero, List.set_cons_succ]; go_big_quiet_on)
          | (refine quiet_neq_flat 89 _ _ _ rfl rfl rfl 10 (by omega) (ks := nKs) (by kernel_rfl) rfl (by kernel_rfl) Tryz.underlying89 rfl (by kernel_rfl) FX.out FX.out ?_; rw [SX]; simp only [Act.put, List.setIfInBounds_toArray, List.set_cons_zero, List.set_cons_succ]; go_big_quiet_on)
          | (go_big_quiet_op; first | go_big_quiet_on | go_big_quiet_call (first | with_reducible exact fun _ => rfl | with_reducible exact ND1.out _))))
      refine wpQuiet_nil ?_
      try clear w
      intro w h
      go_wp2
      go_roundw
      case rel => exact ⟨j + 1, by have := HJ.out; omega, by first | rfl | go_num, h⟩
      case measure => have := HJ.out; simp [intOf]; omega
    · obtain rfl : m = j := by omega
      have hjn' : ¬ (m : Int) < (m : Int) := by omega
      clear hjn hj
      go_wp2
      go_ret
      exact ⟨rfl, h⟩
end
section
open Go.RowKit
set_option linter.unusedVariables false
set_option linter.unusedSimpArgs false
set_option linter.unnecessarySimpa false
def zeroC : Nat → Int := fun _ => 0
theorem zeroC_may : confMayB zeroC = false := by kernel_rfl
theorem zeroC_level (t : Int) : levelOf zeroC t = -1 := by
  unfold levelOf
  rw [if_neg (fun h => by rw [zeroC_may] at h; cases h.1)]
section
variable {σ w : World} {M : Mm}
theorem nPlan_eq (h : Has σ M w) : Calls Tryz.prog 57 #[.pointer none] w fun r w' => r = .returned (.pointer none) ∧ Has σ M w' := by
  go_enter Tryz.func57, Tryz.ntmps57
  go_wp2
  go_ret
  exact ⟨rfl, h⟩
theorem nConf_eq (h : Has σ M w) : Calls Tryz.prog 58 #[.pointer none] w fun r w' => r = .returned (confV zeroC) ∧ Has σ M w' := by
  go_enter Tryz.func58, Tryz.ntmps58
  go_upto_region 1 with (fail)
  obtain ⟨M4, hbx, hle4, hb4, hn4⟩ := h.box (.cells #[.int .i64 0, .int .i64 0, .int .i64 0, .int .i64 0, .int .i64 0, .int .i64 0, .int .i64 0, .int .i64 0, .int .i64 0, .int .i64 0, .int .i64 0, .int .i64 0, .int .i64 0, .int .i64 0] 24)
  generalize w.alloc _ = wx at hbx ⊢
  generalize w.heap.size = b4 at hb4 hn4 ⊢
  clear h
  try clear w
  have h := hbx
  clear hbx
  obtain ⟨w, rfl⟩ : ∃ x : World, x = wx := ⟨_, rfl⟩
  have hz : (ints .i64 14 zeroC).size = 14 := rfl
  go_wp2_with (first
    | (refine wpList_storeAll_has (cells := ints .i64 14 zeroC) h rfl 24 _ _ rfl rfl rfl hb4 rfl rfl rfl (by kernel_rfl) rfl ?_; clear h; intro w h))
  exact bodyPost_ret (results_cell_row rfl _ _ _ _ _ _ _ rfl (h.at_ b4 _ (Mm.upd_same _ _ _)) Tryz.underlying24 rfl (by rw [hz]; kernel_rfl)) rfl ⟨rfl, h.le (Mm.le_upd hle4 hn4 _)⟩
theorem nLevel_eq (h : Has σ M w) (t : Int) : Calls Tryz.prog 12 #[.pointer none, .int .i64 t] w fun r w' => r = .returned (.int .i64 (-1)) ∧ Has σ M w' := by
  have P1 := Lib.hid (fun (w : World) (h : Has σ M w) => nPlan_eq h)
  have P2 := Lib.hid (fun (w : World) (h : Has σ M w) => nConf_eq h)
  have P3 := Lib.hid (fun (w : World) (h : Has σ M w) => level_has h zeroC t)
  rw [zeroC_level] at P3
  generalize confV zeroC = cz at P2 P3
  go_enter Tryz.func12, Tryz.ntmps12
  go_wp2_with (first
    | (go_at_call 57; refine (P1.out _ h).mono ?_; clear h; rintro _ w ⟨rfl, h⟩)
    | (go_at_call 58; refine (P2.out _ h).mono ?_; clear h; rintro _ w ⟨rfl, h⟩)
    | (go_at_call 56; refine (P3.out _ h).mono ?_; clear h; rintro _ w ⟨rfl, h⟩))
  go_ret
  exact ⟨rfl, h⟩
end
end
section
open Go.RowKit
set_option linter.unusedVariables false
set_option linter.unusedSimpArgs false
set_option linter.unnecessarySimpa false

def okOf (c : Nat → Int) (t : Nat) : Prop := (c 1 ≤ (t : Int) → c (2 + t) = 0) ∧ 0 ≤ c (2 + t) ∧ c (2 + t) < c 0
theorem confMay_iff (c : Nat → Int) : ConfMay c ↔ (1 ≤ c 0 ∧ c 0 ≤ 4) ∧ (1 ≤ c 1 ∧ c 1 ≤ 8) ∧ (∀ t, t < 8 → okOf c t) ∧ (2 ≤ c 10 ∧ c 10 ≤ 60) ∧ (1 ≤ c 11 ∧ c 11 ≤ 40) ∧ (1 ≤ c 12 ∧ c 12 ≤ 1048576) ∧ (0 ≤ c 13 ∧ c 13 ≤ 60) := by
  unfold ConfMay okOf
  constructor
  · rintro ⟨h0, h1, h2, h3, h4, h5, h6, h7⟩
    refine ⟨h0, h1, fun t ht => ⟨fun hc => ?_, (h3 t ht).1, by have := h3 t ht; omega⟩, h4, h5, h6, h7⟩
    rw [h2 t ht, clearedOf, if_pos (by omega)]
  · rintro ⟨h0, h1, h2, h4, h5, h6, h7⟩
    refine ⟨h0, h1, fun t ht => ?_, fun t ht => ?_, h4, h5, h6, h7⟩
    · unfold clearedOf
      split
      · exact (h2 t ht).1 (by omega)
      · rfl
    · have := h2 t ht
      omega
theorem confMayB_false {c : Nat → Int} (h : ¬ ConfMay c) : confMayB c = false := decide_eq_false h

set_option maxHeartbeats 4000000 in
theorem refMay_has {σ w : World} {M : Mm} (h : Has σ M w) (c : Nat → Int) : Calls Tryz.prog 10 #[confV c] w fun e w' => e = .returned (.bool (confMayB c)) ∧ Has σ M w' := by
  have NO : Hid (¬ ConfMay c → confMayB c = false) := confMayB_false
  have YES : Hid (ConfMay c → confMayB c = true) := fun h => decide_eq_true h
  have IFF := Lib.hid (confMay_iff c)
  simp only [confV, ints14_lit]
  go_enter Tryz.func10, Tryz.ntmps10
  go_upto_region 1 with (fail)
  obtain ⟨M1, hbx, hle, hb, hn⟩ := h.box (.cells #[.int .i64 (c 0), .int .i64 (c 1), .int .i64 (c 2), .int .i64 (c 3), .int .i64 (c 4), .int .i64 (c 5), .int .i64 (c 6), .int .i64 (c 7), .int .i64 (c 8), .int .i64 (c 9), .int .i64 (c 10), .int .i64 (c 11), .int .i64 (c 12), .int .i64 (c 13)] 24)
  generalize w.alloc _ = wx at hbx ⊢
  generalize w.heap.size = b at hb hn ⊢
  clear h
  try clear w
  have h := hbx
  clear hbx
  obtain ⟨w, rfl⟩ : ∃ x : World, x = wx := ⟨_, rfl⟩
  have c0 : w.cell? ⟨b, 0, none⟩ = some (.int .i64 (c 0)) := h.cell hb 0
  have c1 : w.cell? ⟨b, 1, none⟩ = some (.int .i64 (c 1)) := h.cell hb 1
  by_cases hr : (1 ≤ c 0 ∧ c 0 ≤ 4) ∧ (1 ≤ c 1 ∧ c 1 ≤ 8)
  · obtain ⟨⟨r0, r1⟩, r2, r3⟩ := hr
    have q0 : ¬ c 0 < 1 := by omega
    have q1 : ¬ 4 < c 0 := by omega
    have q2 : ¬ c 1 < 1 := by omega
    have q3 : ¬ 8 < c 1 := by omega
    go_wp2
    clear c0 c1 q0 q1 q2 q3
    go_loopw [3] (fun i wr => ∃ k : Nat, k ≤ 8 ∧ i = .int .i64 k ∧ Has σ M1 wr ∧ ∀ t, t < k → okOf c t) (fun i _ => 8 - (intOf i).toNat)
    case atStart => exact ⟨0, by omega, rfl, h, fun t ht => absurd ht (by omega)⟩
    case round =>
      clear h w
      obtain ⟨w, rfl⟩ : ∃ x : World, x = wr := ⟨_, rfl⟩
      obtain ⟨k, hk, rfl, h, hall⟩ := hrel
      have HA := Lib.hid hall
      clear hall
      by_cases hlt : k < 8
      · have e0 : (#[.int .i64 (c 0), .int .i64 (c 1), .int .i64 (c 2), .int .i64 (c 3), .int .i64 (c 4), .int .i64 (c 5), .int .i64 (c 6), .int .i64 (c 7), .int .i64 (c 8), .int .i64 (c 9), .int .i64 (c 10), .int .i64 (c 11), .int .i64 (c 12), .int .i64 (c 13)] : Array Value)[0]? = some (.int .i64 (c 0)) := rfl
        have e1 : (#[.int .i64 (c 0), .int .i64 (c 1), .int .i64 (c 2), .int .i64 (c 3), .int .i64 (c 4), .int .i64 (c 5), .int .i64 (c 6), .int .i64 (c 7), .int .i64 (c 8), .int .i64 (c 9), .int .i64 (c 10), .int .i64 (c 11), .int .i64 (c 12), .int .i64 (c 13)] : Array Value)[1]? = some (.int .i64 (c 1)) := rfl
        have e2 : (#[.int .i64 (c 0), .int .i64 (c 1), .int .i64 (c 2), .int .i64 (c 3), .int .i64 (c 4), .int .i64 (c 5), .int .i64 (c 6), .int .i64 (c 7), .int .i64 (c 8), .int .i64 (c 9), .int .i64 (c 10), .int .i64 (c 11), .int .i64 (c 12), .int .i64 (c 13)] : Array Value)[2 + k]? = some (.int .i64 (c (2 + k))) := by rw [← ints14_lit, ints_get (by omega)]
        have OK : Hid (okOf c k ↔ (c 1 ≤ (k : Int) → c (2 + k) = 0) ∧ 0 ≤ c (2 + k) ∧ c (2 + k) < c 0) := Iff.rfl
        generalize c (2 + k) = x at e2 OK
        generalize (#[.int .i64 (c 0), .int .i64 (c 1), .int .i64 (c 2), .int .i64 (c 3), .int .i64 (c 4), .int .i64 (c 5), .int .i64 (c 6), .int .i64 (c 7), .int .i64 (c 8), .int .i64 (c 9), .int .i64 (c 10), .int .i64 (c 11), .int .i64 (c 12), .int .i64 (c 13)] : Array Value) = cs at hb e0 e1 e2
        go_upto_region 6 with (fail)
        by_cases hok : okOf c k
        · obtain ⟨p1, p2, p3⟩ := OK.out.1 hok
          have HN : Hid (∀ t, t < k + 1 → okOf c t) := fun t ht => by
            rcases Nat.lt_or_ge t k with h1 | h1
            · exact HA.out t h1
            · obtain rfl : t = k := by omega
              exact hok
          have n2 : ¬ x < 0 := by omega
          have n3 : ¬ c 0 ≤ x := by omega
          clear hok
          by_cases hc1 : c 1 ≤ (k : Int)
          · have hx0 := p1 hc1
            clear p1
            have hx0' : (x != 0) = false := by simp [hx0]
            have H0 := Lib.hid hx0
            clear hx0
            refine wp_region_class (Has σ M1) (by kernel_rfl) (by kernel_rfl) h.drew ?_
            clear h
            repeat (first
              | go_big_quiet_skip
              | (go_big_quiet_want; first
                | (refine quiet_load_has 3 _ rfl rfl hb e0 Tryz.underlying3 rfl ?_; simp only [Act.put, List.setIfInBounds_toArray, List.set_cons_zero, List.set_cons_succ]; go_big_quiet_on)
                | (refine quiet_load_has 3 _ rfl rfl hb e1 Tryz.underlying3 rfl ?_; simp only [Act.put, List.setIfInBounds_toArray, List.set_cons_zero, List.set_cons_succ]; go_big_quiet_on)
                | (refine quiet_load_has 3 _ rfl rfl hb e2 Tryz.underlying3 rfl ?_; simp only [Act.put, List.setIfInBounds_toArray, List.set_cons_zero, List.set_cons_succ]; go_big_quiet_on)
                | (go_big_quiet_op; first | go_big_quiet_on | go_big_quiet_call (first | with_reducible exact fun _ => rfl))))
            refine wpQuiet_nil ?_
            try clear w
            intro w h
            go_wp2
            go_roundw
            case rel => exact ⟨k + 1, by omega, by go_num, h, HN.out⟩
            case measure => simp [intOf]; omega
          · clear p1
            refine wp_region_class (Has σ M1) (by kernel_rfl) (by kernel_rfl) h.drew ?_
            clear h
            repeat (first
              | go_big_quiet_skip
              | (go_big_quiet_want; first
                | (refine quiet_load_has 3 _ rfl rfl hb e0 Tryz.underlying3 rfl ?_; simp only [Act.put, List.setIfInBounds_toArray, List.set_cons_zero, List.set_cons_succ]; go_big_quiet_on)
                | (refine quiet_load_has 3 _ rfl rfl hb e1 Tryz.underlying3 rfl ?_; simp only [Act.put, List.setIfInBounds_toArray, List.set_cons_zero, List.set_cons_succ]; go_big_quiet_on)
                | (refine quiet_load_has 3 _ rfl rfl hb e2 Tryz.underlying3 rfl ?_; simp only [Act.put, List.setIfInBounds_toArray, List.set_cons_zero, List.set_cons_succ]; go_big_quiet_on)
                | (go_big_quiet_op; first | go_big_quiet_on | go_big_quiet_call (first | with_reducible exact fun _ => rfl))))
            refine wpQuiet_nil ?_
            try clear w
            intro w h
            go_wp2
            go_roundw
            case rel => exact ⟨k + 1, by omega, by go_num, h, HN.out⟩
            case measure => simp [intOf]; omega
        · have N := Lib.hid (NO.out fun h1 => hok ((IFF.out.1 h1).2.2.1 k hlt))
          have hcase : (c 1 ≤ (k : Int) ∧ x ≠ 0) ∨ ((c 1 ≤ (k : Int) → x = 0) ∧ x < 0) ∨ ((c 1 ≤ (k : Int) → x = 0) ∧ ¬ x < 0 ∧ c 0 ≤ x) := by
            by_cases a1 : c 1 ≤ (k : Int) ∧ x ≠ 0
            · exact .inl a1
            · by_cases a2 : x < 0
              · exact .inr (.inl ⟨fun h1 => Classical.byContradiction fun h2 => a1 ⟨h1, h2⟩, a2⟩)
              · refine .inr (.inr ⟨fun h1 => Classical.byContradiction fun h2 => a1 ⟨h1, h2⟩, a2, ?_⟩)
                apply Classical.byContradiction
                intro h3
                exact hok (OK.out.2 ⟨fun h1 => Classical.byContradiction fun h2 => a1 ⟨h1, h2⟩, by omega, by omega⟩)
          clear hok
          rcases hcase with ⟨a1, a2⟩ | ⟨a1, a2⟩ | ⟨a1, a2, a3⟩
          · have hx0' : (x != 0) = true := by simpa using a2
            clear a2
            refine wp_region_class (Has σ M1) (by kernel_rfl) (by kernel_rfl) h.drew ?_
            clear h
            repeat (first
              | go_big_quiet_skip
              | (go_big_quiet_want; first
                | (refine quiet_load_has 3 _ rfl rfl hb e0 Tryz.underlying3 rfl ?_; simp only [Act.put, List.setIfInBounds_toArray, List.set_cons_zero, List.set_cons_succ]; go_big_quiet_on)
                | (refine quiet_load_has 3 _ rfl rfl hb e1 Tryz.underlying3 rfl ?_; simp only [Act.put, List.setIfInBounds_toArray, List.set_cons_zero, List.set_cons_succ]; go_big_quiet_on)
                | (refine quiet_load_has 3 _ rfl rfl hb e2 Tryz.underlying3 rfl ?_; simp only [Act.put, List.setIfInBounds_toArray, List.set_cons_zero, List.set_cons_succ]; go_big_quiet_on)
                | (go_big_quiet_op; first | go_big_quiet_on | go_big_quiet_call (first | with_reducible exact fun _ => rfl))))
            refine wpQuiet_nil ?_
            try clear w
            intro w h
            go_wp2
            go_ret
            exact ⟨by rw [N.out]; rfl, h.le hle⟩
          · by_cases hc1 : c 1 ≤ (k : Int)
            · have hx0 := a1 hc1
              omega
            · clear a1
              refine wp_region_class (Has σ M1) (by kernel_rfl) (by kernel_rfl) h.drew ?_
              clear h
              repeat (first
                | go_big_quiet_skip
                | (go_big_quiet_want; first
                  | (refine quiet_load_has 3 _ rfl rfl hb e0 Tryz.underlying3 rfl ?_; simp only [Act.put, List.setIfInBounds_toArray, List.set_cons_zero, List.set_cons_succ]; go_big_quiet_on)
                  | (refine quiet_load_has 3 _ rfl rfl hb e1 Tryz.underlying3 rfl ?_; simp only [Act.put, List.setIfInBounds_toArray, List.set_cons_zero, List.set_cons_succ]; go_big_quiet_on)
                  | (refine quiet_load_has 3 _ rfl rfl hb e2 Tryz.underlying3 rfl ?_; simp only [Act.put, List.setIfInBounds_toArray, List.set_cons_zero, List.set_cons_succ]; go_big_quiet_on)
                  | (go_big_quiet_op; first | go_big_quiet_on | go_big_quiet_call (first | with_reducible exact fun _ => rfl))))
              refine wpQuiet_nil ?_
              try clear w
              intro w h
              go_wp2
              go_ret
              exact ⟨by rw [N.out]; rfl, h.le hle⟩
          · by_cases hc1 : c 1 ≤ (k : Int)
            · have hx0 := a1 hc1
              omega
            · clear a1
              refine wp_region_class (Has σ M1) (by kernel_rfl) (by kernel_rfl) h.drew ?_
              clear h
              repeat (first
                | go_big_quiet_skip
                | (go_big_quiet_want; first
                  | (refine quiet_load_has 3 _ rfl rfl hb e0 Tryz.underlying3 rfl ?_; simp only [Act.put, List.setIfInBounds_toArray, List.set_cons_zero, List.set_cons_succ]; go_big_quiet_on)
                  | (refine quiet_load_has 3 _ rfl rfl hb e1 Tryz.underlying3 rfl ?_; simp only [Act.put, List.setIfInBounds_toArray, List.set_cons_zero, List.set_cons_succ]; go_big_quiet_on)
                  | (refine quiet_load_has 3 _ rfl rfl hb e2 Tryz.underlying3 rfl ?_; simp only [Act.put, List.setIfInBounds_toArray, List.set_cons_zero, List.set_cons_succ]; go_big_quiet_on)
                  | (go_big_quiet_op; first | go_big_quiet_on | go_big_quiet_call (first | with_reducible exact fun _ => rfl))))
              refine wpQuiet_nil ?_
              try clear w
              intro w h
              go_wp2
              go_ret
              exact ⟨by rw [N.out]; rfl, h.le hle⟩
      · obtain rfl : k = 8 := by omega
        have c10 : w.cell? ⟨b, 10, none⟩ = some (.int .i64 (c 10)) := h.cell hb 10
        have c11 : w.cell? ⟨b, 11, none⟩ = some (.int .i64 (c 11)) := h.cell hb 11
        have c12 : w.cell? ⟨b, 12, none⟩ = some (.int .i64 (c 12)) := h.cell hb 12
        have c13 : w.cell? ⟨b, 13, none⟩ = some (.int .i64 (c 13)) := h.cell hb 13
        have hmay : confMayB c = decide ((2 ≤ c 10 ∧ c 10 ≤ 60) ∧ (1 ≤ c 11 ∧ c 11 ≤ 40) ∧ (1 ≤ c 12 ∧ c 12 ≤ 1048576) ∧ (0 ≤ c 13 ∧ c 13 ≤ 60)) := by
          by_cases hm : (2 ≤ c 10 ∧ c 10 ≤ 60) ∧ (1 ≤ c 11 ∧ c 11 ≤ 40) ∧ (1 ≤ c 12 ∧ c 12 ≤ 1048576) ∧ (0 ≤ c 13 ∧ c 13 ≤ 60)
          · rw [YES.out (IFF.out.2 ⟨⟨r0, r1⟩, ⟨r2, r3⟩, HA.out, hm⟩), decide_eq_true hm]
          · rw [NO.out fun h1 => hm (IFF.out.1 h1).2.2.2, decide_eq_false hm]
        have HM := Lib.hid hmay
        clear hmay
        generalize c 10 = x at c10 HM
        generalize c 11 = y at c11 HM
        generalize c 12 = z at c12 HM
        generalize c 13 = v at c13 HM
        by_cases b1 : x < 2
        · go_wp2
          go_ret
          exact ⟨by rw [HM.out, decide_eq_false (by omega)]; rfl, h.le hle⟩
        · skip
          by_cases b2 : 60 < x
          · go_wp2
            go_ret
            exact ⟨by rw [HM.out, decide_eq_false (by omega)]; rfl, h.le hle⟩
          · skip
            by_cases b3 : y < 1
            · go_wp2
              go_ret
              exact ⟨by rw [HM.out, decide_eq_false (by omega)]; rfl, h.le hle⟩
            · skip
              by_cases b4 : 40 < y
              · go_wp2
                go_ret
                exact ⟨by rw [HM.out, decide_eq_false (by omega)]; rfl, h.le hle⟩
              · skip
                by_cases b5 : ¬ 1 ≤ z
                · go_wp2
                  go_ret
                  exact ⟨by rw [HM.out, decide_eq_false (by omega)]; rfl, h.le hle⟩
                · skip
                  by_cases b6 : ¬ z ≤ 1048576
                  · go_wp2
                    go_ret
                    exact ⟨by rw [HM.out, decide_eq_false (by omega)]; rfl, h.le hle⟩
                  · skip
                    by_cases b7 : ¬ 0 ≤ v
                    · go_wp2
                      go_ret
                      exact ⟨by rw [HM.out, decide_eq_false (by omega)]; rfl, h.le hle⟩
                    · skip
                      by_cases b8 : ¬ v ≤ 60
                      · go_wp2
                        go_ret
                        exact ⟨by rw [HM.out, decide_eq_false (by omega)]; rfl, h.le hle⟩
                      · skip
                        go_wp2
                        go_ret
                        exact ⟨by rw [HM.out, decide_eq_true (by omega)]; rfl, h.le hle⟩
  · skip
    by_cases b1 : c 0 < 1
    · have N := Lib.hid (NO.out fun h1 => by have := IFF.out.1 h1; omega)
      go_wp2
      go_ret
      exact ⟨by rw [N.out]; rfl, h.le hle⟩
    · skip
      by_cases b2 : 4 < c 0
      · have N := Lib.hid (NO.out fun h1 => by have := IFF.out.1 h1; omega)
        go_wp2
        go_ret
        exact ⟨by rw [N.out]; rfl, h.le hle⟩
      · skip
        by_cases b3 : c 1 < 1
        · have N := Lib.hid (NO.out fun h1 => by have := IFF.out.1 h1; omega)
          go_wp2
          go_ret
          exact ⟨by rw [N.out]; rfl, h.le hle⟩
        · skip
          by_cases b4 : 8 < c 1
          · have N := Lib.hid (NO.out fun h1 => by have := IFF.out.1 h1; omega)
            go_wp2
            go_ret
            exact ⟨by rw [N.out]; rfl, h.le hle⟩
          · skip
            omega
end
section
open Go.RowKit
set_option linter.unusedVariables false
set_option linter.unusedSimpArgs false
set_option linter.unnecessarySimpa false
theorem zD : (Tryz.prog.info? 86).bind (·.zero) = some (.agg #[.int .i64 0, .int .i64 0, .int .u8 0, .int .u64 0, .int .u64 0, .int .u64 0]) := by kernel_rfl
theorem zTA : (Tryz.prog.info? 43).bind (·.zero) = some (.agg (ints .u64 8 fun _ => 0)) := by kernel_rfl
theorem info_F : (Tryz.prog.info? 83).map (fun i => (i.zero, i.size, i.bytes)) = some (some (.agg #[.slice none 0 0, .slice none 0 0]), 2, 48) := by kernel_rfl
/-- What a thread was told last, as an array. -/
theorem m_tolds {M : Mm} {lab : Nat → Nat} {p t q n : Nat} {s : MachS} {c : Nat → Int} {tp : List Nat} {g : GM} (hM : Mach M lab p s) (hA : AbsM c tp n s g) (hq : tp[t]? = some q) : ∃ row ty tr, M q = some (.cells row ty (0, 0)) ∧ row.extract 0 (0 + 8) = tr ∧ tr.size = 8 ∧ tr.toList.all (·.oneCell') = true ∧ tr[0]? = some (.int .u64 (g.told t 0 : Nat)) ∧ tr[1]? = some (.int .u64 (g.told t 1 : Nat)) := by
  obtain ⟨fv, hv, fbs, hTh⟩ := hM.each t q (by rw [hA.ttp]; exact hq)
  refine ⟨_, _, #[.int .u64 ((s.thr t).told 0), .int .u64 ((s.thr t).told 1), .int .u64 ((s.thr t).told 2), .int .u64 ((s.thr t).told 3), .int .u64 ((s.thr t).told 4), .int .u64 ((s.thr t).told 5), .int .u64 ((s.thr t).told 6), .int .u64 ((s.thr t).told 7)], hTh.obj, rfl, rfl, rfl, ?_, ?_⟩
  · show some (Value.int .u64 ((s.thr t).told 0)) = _
    rw [hA.thr.told t 0]
  · show some (Value.int .u64 ((s.thr t).told 1)) = _
    rw [hA.thr.told t 1]
section
variable {S B L T m l t : Nat} {g : GM} {Lf gl : Nat → List Nat} {md : Nat → List Mk}
theorem mintR_told (Ls us : List Nat) : (mintR B S g t l Ls us).told t 0 = Ls.headD 0 ∧ (Ls.headD 0 ≠ 0 → (mintR B S g t l Ls us).told t 1 = toldN B S g l Ls) := by
  cases Ls with
  | nil => exact ⟨by show put1 g.told t _ t 0 = 0; rw [put1_same]; rfl, fun h => absurd rfl h⟩
  | cons x r => exact ⟨by show put1 g.told t _ t 0 = x; rw [put1_same]; rfl, fun _ => by show put1 g.told t _ t 1 = _; rw [put1_same]; rfl⟩
theorem MaI.mint (h : MaI S B L T m g Lf gl md) (hl : l < L) (hm : m < 900000) (hS : S ≤ 60) (us : List Nat) : MaI S B L T (m + 1) (mintR B S g t l (Lf l) us) (put1 Lf l (Lf l).tail) gl (if (Lf l).headD 0 = 0 then md else put1 md l (md l ++ [((Lf l).headD 0, mkHead (toldN B S g l (Lf l)) (us.getD 0 0), us.getD 1 0, us.getD 2 0, us.getD 3 0)])) := by
  cases hL : Lf l with
  | nil =>
    have e : put1 Lf l ([] : List Nat).tail = Lf := by rw [show ([] : List Nat).tail = Lf l from hL.symm]; exact put1_self _ _
    rw [e, if_pos (show ([] : List Nat).headD 0 = 0 from rfl)]
    exact h.none.mono (by omega)
  | cons x r =>
    have x1 : 1 ≤ x := by
      have := (h.lv l hl).rng x (by rw [hL]; exact List.mem_cons_self)
      exact this.1
    rw [if_neg (show ¬ (x :: r).headD 0 = 0 from (by omega : ¬ x = 0))]
    exact h.made hl hL hm hS _ _ _ _
end
/-- What always holds between MintAlone's routines, with the machine. -/
structure MaJ (c : Nat → Int) (S B L T : Nat) (tp : List Nat) (i : Nat) (s : MachS) (Lf gl : Nat → List Nat) (md : Nat → List Mk) : Prop where
  all : ∃ a m g, a ≤ 12 * i ∧ AbsM c tp a s g ∧ m ≤ i ∧ MaI S B L T m g Lf gl md
theorem MaJ.mono {c : Nat → Int} {S B L T : Nat} {tp : List Nat} {i j : Nat} {s : MachS} {Lf gl : Nat → List Nat} {md : Nat → List Mk} (h : MaJ c S B L T tp i s Lf gl md) (hij : i ≤ j) : MaJ c S B L T tp j s Lf gl md := by
  obtain ⟨a, m, g, h1, h2, h3, h4⟩ := h.all
  exact ⟨⟨a, m, g, by omega, h2, by omega, h4⟩⟩
set_option maxHeartbeats 2000000 in
set_option maxRecDepth 20000 in
theorem mAlone_no {σ w : World} {M : Mm} (h : Has σ M w) (c : Nat → Int) (A : Option Addr) (n cap : Nat) (hm : confMayB c = false) :
    Calls Tryz.prog 6 #[confV c, .slice A n cap] w fun r w' => r = .returned (.bool true) ∧ Has σ M w' := by
  have NW := Lib.hid (fun (M' : Mm) (w : World) (h : Has σ M' w) => mNew_no h c hm)
  have RM := Lib.hid (fun (M' : Mm) (w : World) (h : Has σ M' w) => refMay_has h c)
  have LI := Lib.hid (fun (M' : Mm) (w : World) (h : Has σ M' w) => mi_lives h)
  have hx : (ints .i64 14 c).extract 0 (0 + 14) = ints .i64 14 c := rfl
  have hz : (ints .i64 14 c).size = 14 := rfl
  unfold errV at NW
  rw [hm] at RM
  unfold confV at NW RM ⊢
  generalize ints .i64 14 c = row at NW RM hx hz ⊢
  clear hm
  go_enter Tryz.func6, Tryz.ntmps6
  go_upto_region 1 with (fail)
  obtain ⟨M1, hbx, hle, hbf, hnf⟩ := h.box (.cells row 24)
  generalize w.alloc _ = wx at hbx ⊢
  generalize w.heap.size = bf at hbf hnf ⊢
  clear h
  try clear w
  have h := hbx
  clear hbx
  obtain ⟨w, rfl⟩ : ∃ x : World, x = wx := ⟨_, rfl⟩
  go_wp2_with (first
    | ((with_reducible show wpList _ _ _ ({ dst := _, op := Op.load 24 _, type := _, pos := _, after := _, guard := _ } :: _) _ _); refine wpList_agg_has h rfl 24 _ rfl rfl hbf hx hz Tryz.underlying24 rfl (by kernel_rfl) ?_; try simp only [Act.put, List.setIfInBounds_toArray, List.set_cons_zero, List.set_cons_succ])
    | ((go_at_call 9; refine (NW.out _ _ h).mono ?_; clear h; rintro _ w ⟨b, M2, rfl, h, hle2, hn⟩; have hbf := hle2 _ _ hbf))
    | (go_at_call 10; refine (RM.out _ _ h).mono ?_; clear h; rintro _ w ⟨rfl, h⟩)
    | (go_at_call 38; refine (LI.out _ _ h).mono ?_; clear h; rintro _ w ⟨rfl, h⟩))
  go_ret
  exact ⟨rfl, h.le (Mm.le_trans hle hle2)⟩
set_option maxHeartbeats 2000000 in
set_option maxRecDepth 20000 in
theorem mAlone_many {σ w : World} {M : Mm} (h : Has σ M w) (c : Nat → Int) (hc : ConfMay c) {L B S : Nat} (hn : Nums c L B S) (A : Option Addr) (n cap : Nat) (hm : confMayB c = true) (h60 : 60 < n) :
    Calls Tryz.prog 6 #[confV c, .slice A n cap] w fun r w' => r = .returned (.bool true) ∧ Has σ M w' := by
  have NW := Lib.hid (fun (M' : Mm) (w : World) (h : Has σ M' w) => mNew_yes h c hc hn)
  have RM := Lib.hid (fun (M' : Mm) (w : World) (h : Has σ M' w) => refMay_has h c)
  have LI := Lib.hid (fun (M' : Mm) (w : World) (h : Has σ M' w) => mi_lives h)
  have hx : (ints .i64 14 c).extract 0 (0 + 14) = ints .i64 14 c := rfl
  have hz : (ints .i64 14 c).size = 14 := rfl
  have g60 : decide ((60 : Int) < (n : Int)) = true := decide_eq_true (by omega)
  have g60' : (60 : Int) < (n : Int) := by omega
  rw [hm] at RM
  unfold confV at NW RM ⊢
  generalize ints .i64 14 c = row at NW RM hx hz ⊢
  clear hm hc hn h60
  go_enter Tryz.func6, Tryz.ntmps6
  go_upto_region 1 with (fail)
  obtain ⟨M1, hbx, hle, hbf, hnf⟩ := h.box (.cells row 24)
  generalize w.alloc _ = wx at hbx ⊢
  generalize w.heap.size = bf at hbf hnf ⊢
  clear h
  try clear w
  have h := hbx
  clear hbx
  obtain ⟨w, rfl⟩ : ∃ x : World, x = wx := ⟨_, rfl⟩
  go_wp2_with (first
    | ((with_reducible show wpList _ _ _ ({ dst := _, op := Op.load 24 _, type := _, pos := _, after := _, guard := _ } :: _) _ _); refine wpList_agg_has h rfl 24 _ rfl rfl hbf hx hz Tryz.underlying24 rfl (by kernel_rfl) ?_; try simp only [Act.put, List.setIfInBounds_toArray, List.set_cons_zero, List.set_cons_succ])
    | ((go_at_call 9; refine (NW.out _ _ h).mono ?_; clear h; rintro _ w ⟨p, M2, lab2, s, rfl, h, hB2, hM2, hN⟩; have hle2 := hB2.le; clear hB2 hM2 hN; have hbf := hle2 _ _ hbf))
    | (go_at_call 10; refine (RM.out _ _ h).mono ?_; clear h; rintro _ w ⟨rfl, h⟩)
    | (go_at_call 38; refine (LI.out _ _ h).mono ?_; clear h; rintro _ w ⟨rfl, h⟩))
  go_ret
  exact ⟨rfl, h.le (Mm.le_trans hle hle2)⟩
end
end Go.Proofs.YtjeeldacnllipaaGreat
