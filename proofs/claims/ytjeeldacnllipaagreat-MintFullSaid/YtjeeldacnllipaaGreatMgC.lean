/- The document's answer for layer 4: whether a configuration may be. -/
import Derived.Test.YtjeeldacnllipaaGreatMgB
import Derived.Test.YtjeeldacnllipaaGreatWalk
import Derived.Test.YtjeeldacnllipaaGreatWords
import Derived.Test.YtjeeldacnllipaaGreatConfLevel
import Derived.Test.YtjeeldacnllipaaGreatMachE
import Derived.Test.YtjeeldacnllipaaGreatPlanA
namespace Go.Proofs.YtjeeldacnllipaaGreat
section
open Go.RowKit
set_option linter.unusedVariables false
set_option linter.unusedSimpArgs false
set_option linter.unnecessarySimpa false
/-- From state to state, so many steps, thread t within more than d frames ahead of each. -/
def Steps (D : Nat → GM → GM → Prop) (t d : Nat) : Nat → Nat → GM → GM → Prop
  | _, 0, g, g' => g' = g
  | n, k + 1, g, g' => ∃ g1, D n g g1 ∧ d < (g.thr t).length ∧ (g.thr t).length < 1000 ∧ Steps D t d (n + 1) k g1 g'
section
variable {D : Nat → GM → GM → Prop} {t d n a b k : Nat} {g g1 g2 : GM}
theorem Steps.cons (hD : D n g g1) (h1 : d < (g.thr t).length) (h2 : (g.thr t).length < 1000) (h : Steps D t d (n + 1) k g1 g2) : Steps D t d n (k + 1) g g2 := ⟨g1, hD, h1, h2, h⟩
theorem Steps.trans : ∀ {a n : Nat} {g : GM}, Steps D t d n a g g1 → Steps D t d (n + a) b g1 g2 → Steps D t d n (a + b) g g2
  | 0, n, g, h, h2 => by
    have e : g1 = g := h
    subst e
    rw [Nat.zero_add]; exact h2
  | a + 1, n, g, h, h2 => by
    obtain ⟨g', hD, h3, h4, h5⟩ := h
    rw [show a + 1 + b = a + b + 1 by omega]
    exact ⟨g', hD, h3, h4, h5.trans (by rw [show n + 1 + a = n + (a + 1) by omega]; exact h2)⟩
end
/-- Alone tells how many steps there were. -/
theorem Steps.alone {do_ : FuncId} {σ w : World} {K M : Mm} {lab : Nat → Nat} {p t q n l k most fn : Nat} {c : Nat → Int} {tp : List Nat} {s : MachS} {g g2 : GM} {us : List Nat} {rv : Value} (hS : Steps (fun n g g2 => DoesTo do_ σ p t c tp n l g g2) t 0 n k (g.top t [] ⟨fn, 0, fun i => us.getD i 0⟩) g2) (h : Has σ M w) (hM : Mach M lab p s) (hB : Base K M lab) (hA : AbsM c tp n s g) (hn : n < 90000) (ht : (t : Int) < c 1) (hq : tp[t]? = some q) (hl : levelOf c t = (l : Nat)) (hi : g.thr t = []) (hr : Rd M 1 rv us.length (u64s (us.map fun u : Nat => (u : Int)))) (hu : us.length ≤ 16) (hd : g2.thr t = []) (hk : 0 < k) (hkm : k ≤ most) (hm : most < 1000) (hent : entB Tryz.prog do_ = true) :
    Calls Tryz.prog 14 #[.pointer (some ⟨p, 0, none⟩), .int .i64 (t : Nat), .func (.func do_) #[] #[], .int .i64 (most : Nat), .int .i64 (fn : Nat), rv] w fun r w' => r = .returned (.int .i64 (k : Nat)) ∧ ∃ M' lab' s', Has σ M' w' ∧ Mach M' lab' p s' ∧ Base K M' lab' ∧ AbsM c tp (n + k) s' g2 := by
  have hfr : (s.thr t).frames = [] := by rw [hA.thr.fr t ht, hi]; rfl
  have hB0 := hA.begun ht fn us
  rw [hi] at hB0
  refine (alone_rel (dv := .func (.func do_) #[] #[]) h hM hB (by rw [hA.ttp]; exact hq) (us := us.map fun u : Nat => (u : Int)) (by rw [List.length_map]; exact hr) (by rw [List.length_map]; exact hu) (by rw [hfr]; simp) fn (P := fun i s => ∃ gi, AbsM c tp (n + i) s gi ∧ Steps (fun n g g2 => DoesTo do_ σ p t c tp n l g g2) t 0 (n + i) (k - i) gi g2) ⟨_, hB0, hS⟩ hk hkm (by omega) ?_).mono fun r w' ⟨hr, M', lab', s', h', hM', hB', gi, hA', hS'⟩ => ?_
  · refine ⟨fun i hi M lab s w hw hM hB ⟨gi, hA, hS⟩ => ?_, fun i hi s ⟨gi, hA, _⟩ => by rw [hA.ttp]; exact hq, fun i h0 hi s ⟨gi, hA, hS⟩ => ?_, fun s ⟨gi, hA, hS⟩ => ?_⟩
    · obtain ⟨j, hj⟩ : ∃ j, k - i = j + 1 := ⟨k - i - 1, by omega⟩
      rw [hj] at hS
      obtain ⟨g1, hD, h1, h2, hS⟩ := hS
      have hl1 : (g1.thr t).length < 1000 := by
        rcases j with _ | j
        · have e : g2 = g1 := hS
          rw [← e, hd]; simp
        · obtain ⟨_, _, _, h3, _⟩ := hS; exact h3
      refine (step_does hw hM hB hA (by omega) ht hq hl (fun e => by rw [e] at h1; simp at h1) (by omega) (by omega) hent hD).mono fun r w' ⟨M', lab', s', hr, h', hM', hB', hA'⟩ => ?_
      exact ⟨M', lab', _, s', hr, h', hM', hB', g1, hA', by rw [show k - (i + 1) = j by omega]; exact hS⟩
    · obtain ⟨j, hj⟩ : ∃ j, k - i = j + 1 := ⟨k - i - 1, by omega⟩
      rw [hj] at hS
      obtain ⟨g1, hD, h1, h2, hS⟩ := hS
      rw [hfr, hA.thr.fr t ht, List.length_map]; exact h1
    · rw [Nat.sub_self] at hS
      have e : g2 = gi := hS
      rw [hA.thr.fr t ht, ← e, hd]; simp
  · rw [Nat.sub_self] at hS'
    have e : g2 = gi := hS'
    subst e
    exact ⟨hr, M', lab', s', h', hM', hB', hA'⟩
section
variable {g : GM} {t l o v i : Nat} {fs fs' : List Fr} {F F' : Fr} {us : List Nat}
theorem gr_same (F : Fr) (i v k : Nat) : ((F.reg i v).goto k).r i = v := put1_same _ _ _
theorem gr_ne {F : Fr} {i v k j : Nat} (h : j ≠ i) : ((F.reg i v).goto k).r j = F.r j := put1_ne h
theorem top_top : (g.top t fs F).top t fs' F' = g.top t fs' F' := by unfold GM.top; simp only [put1_put1]
theorem top_back : (g.top t fs F).back t fs' us = g.back t fs' us := by unfold GM.top GM.back; simp only [put1_put1]
theorem top_set : (g.top t fs F).set l o v = (g.set l o v).top t fs F := rfl
theorem top_hold : (g.top t fs F).hold l i = (g.hold l i).top t fs F := rfl
theorem top_drop : (g.top t fs F).drop l i = (g.drop l i).top t fs F := rfl
theorem top_thr : (g.top t fs F).thr t = fs ++ [F] := put1_same _ _ _
theorem back_thr' : (g.back t fs us).thr t = fs := put1_same _ _ _
theorem set_w (l' o' : Nat) : (g.set l o v).w l' o' = if l' = l ∧ o' = o then v else g.w l' o' := by
  show put1 g.w l (put1 (g.w l) o v) l' o' = _
  by_cases e : l' = l
  · subst e
    rw [put1_same]
    by_cases e2 : o' = o
    · subst e2; rw [put1_same, if_pos ⟨rfl, rfl⟩]
    · rw [put1_ne e2, if_neg (fun h => e2 h.2)]
  · rw [put1_ne e, if_neg (fun h => e h.1)]
theorem hold_held (l' i' : Nat) : (g.hold l i).held l' i' = if l' = l ∧ i' = i then true else g.held l' i' := by
  show put1 g.held l (put1 (g.held l) i true) l' i' = _
  by_cases e : l' = l
  · subst e
    rw [put1_same]
    by_cases e2 : i' = i
    · subst e2; rw [put1_same, if_pos ⟨rfl, rfl⟩]
    · rw [put1_ne e2, if_neg (fun h => e2 h.2)]
  · rw [put1_ne e, if_neg (fun h => e h.1)]
theorem drop_held (l' i' : Nat) : (g.drop l i).held l' i' = if l' = l ∧ i' = i then false else g.held l' i' := by
  show put1 g.held l (put1 (g.held l) i false) l' i' = _
  by_cases e : l' = l
  · subst e
    rw [put1_same]
    by_cases e2 : i' = i
    · subst e2; rw [put1_same, if_pos ⟨rfl, rfl⟩]
    · rw [put1_ne e2, if_neg (fun h => e2 h.2)]
  · rw [put1_ne e, if_neg (fun h => e h.1)]
end
/-- A level at rest: its free list, its heads. -/
structure LvR (S B m : Nat) (g : GM) (l : Nat) (L : List Nat) : Prop where
  chain : chainP (fun i => g.w l (oLk B i)) (slOf (g.w l 0)) L
  nodup : L.Nodup
  rng : ∀ x ∈ L, 1 ≤ x ∧ x ≤ S ∧ g.held l x = false
  top : g.w l 0 < 18446744073709551616
  cntN : cnt (g.w l 0) ≤ m
  lk : ∀ i, 1 ≤ i → i ≤ S → g.w l (oLk B i) ≤ S
  hd : ∀ i, 1 ≤ i → i ≤ S → g.w l (oNd B S i 0) < 17179869184 ∧ genOf (g.w l (oNd B S i 0)) ≤ m
/-- What Take makes; what Give makes. -/
def takeG (B S : Nat) (g : GM) (t l : Nat) (fs : List Fr) (x : Nat) : GM := ((g.set l 0 (mkTop (g.w l (oLk B x)) (cnt (g.w l 0) + 1))).hold l x).back t fs [x, genOf (g.w l (oNd B S x 0))]
def goneG (B S : Nat) (g : GM) (l x : Nat) : GM := ((((((g.set l (oNd B S x 0) (mkHead (genOf (g.w l (oNd B S x 0))) 3)).set l (oNd B S x 3) 0).set l (oNd B S x 4) 0).set l (oNd B S x 2) 0).set l (oNd B S x 1) 0).set l (oNd B S x 0) (mkHead (genOf (g.w l (oNd B S x 0)) + 1) 0)).drop l x
def giveG (B S gens : Nat) (g : GM) (t l : Nat) (fs : List Fr) (x : Nat) : GM := if genOf (g.w l (oNd B S x 0)) + 1 < gens then (((goneG B S g l x).set l (oLk B x) (slOf (g.w l 0))).set l 0 (mkTop x (cnt (g.w l 0) + 1))).back t fs [] else (goneG B S g l x).back t fs []
section
variable {D : Nat → GM → GM → Prop} {σ : World} {p t q l n B S m d gens : Nat} {c : Nat → Int} {tp : List Nat} {g : GM} {fs : List Fr} {F : Fr} {L : List Nat} {x : Nat}
theorem nd0_lt {g : GM} (I : LvR S B m g l L) (x1 : 1 ≤ x) (x2 : x ≤ S) : g.w l (oNd B S x 0) < 18446744073709551616 := Nat.lt_trans (I.hd x x1 x2).1 (by decide)
/-- Take alone, of an empty list. -/
theorem steps_take_no (hD : ∀ (n : Nat) (g g2 : GM) (fs : List Fr) (F : Fr), n < 100000 → (F.fn = 1 ∨ F.fn = 2) → g.thr t = fs ++ [F] → fs.length < 100000 → DoesTo 105 σ p t c tp n l g g2 → D n g g2) (hn : n < 90000) (ht : (t : Int) < c 1) (hq : tp[t]? = some q) (hl : levelOf c t = (l : Nat)) (hlc : (l : Int) < c 0) (hthr : g.thr t = fs ++ [F]) (hfs : fs.length < 900) (hds : d ≤ fs.length) (hB' : c 11 = (B : Nat)) (hS' : c 10 = (S : Nat)) (hS60 : S ≤ 60) (hm : m < 1000000) (I : LvR S B m g l L) (h1 : F.fn = 1) (hp : F.pc = 0) (hr : F.r 1 < 18446744073709551616) (hL : L = []) : Steps D t d n 2 g (g.back t fs [0, 0]) := by
  have hs : slOf (g.w l 0) = 0 := by have := I.chain; rw [hL] at this; exact this
  have D0 := hD n g _ fs F (by omega) (.inl h1) hthr (by omega) (does_t0 (by omega) ht hq hl hlc hthr (by omega) hB' hS' h1 hp hr)
  have D1 := hD (n + 1) _ _ fs ((F.reg 1 (g.w l 0)).goto 1) (by omega) (.inl h1) top_thr (by omega) (does_t1a (B := B) (S := S) (n := n + 1) (g := g.top t fs ((F.reg 1 (g.w l 0)).goto 1)) (F := (F.reg 1 (g.w l 0)).goto 1) (by omega) ht hq hl hlc top_thr (by omega) hB' hS' h1 rfl I.top hs)
  rw [top_back] at D1
  exact .cons D0 (by rw [hthr]; simp; omega) (by rw [hthr]; simp; omega) (.cons D1 (by rw [top_thr]; simp; omega) (by rw [top_thr]; simp; omega) rfl)
/-- Take alone, of a list that isn't empty. -/
theorem steps_take (hD : ∀ (n : Nat) (g g2 : GM) (fs : List Fr) (F : Fr), n < 100000 → (F.fn = 1 ∨ F.fn = 2) → g.thr t = fs ++ [F] → fs.length < 100000 → DoesTo 105 σ p t c tp n l g g2 → D n g g2) (hn : n < 90000) (ht : (t : Int) < c 1) (hq : tp[t]? = some q) (hl : levelOf c t = (l : Nat)) (hlc : (l : Int) < c 0) (hthr : g.thr t = fs ++ [F]) (hfs : fs.length < 900) (hds : d ≤ fs.length) (hB' : c 11 = (B : Nat)) (hS' : c 10 = (S : Nat)) (hS60 : S ≤ 60) (hm : m < 1000000) (I : LvR S B m g l L) (h1 : F.fn = 1) (hp : F.pc = 0) (hr : F.r 1 < 18446744073709551616) {r : List Nat} (hL : L = x :: r) : Steps D t d n 4 g (takeG B S g t l fs x) := by
  subst hL
  obtain ⟨hs, hx1, hc2⟩ := I.chain
  obtain ⟨_, hx2, hh⟩ := I.rng x List.mem_cons_self
  have hlk : g.w l (oLk B x) ≤ S := I.lk x hx1 hx2
  have D0 := hD n g _ fs F (by omega) (.inl h1) hthr (by omega) (does_t0 (by omega) ht hq hl hlc hthr (by omega) hB' hS' h1 hp hr)
  obtain ⟨F1, hF1⟩ : ∃ F1, F1 = (F.reg 1 (g.w l 0)).goto 1 := ⟨_, rfl⟩
  rw [← hF1] at D0
  have f1 : F1.fn = 1 ∧ F1.pc = 1 ∧ F1.r 1 = g.w l 0 := by rw [hF1]; exact ⟨h1, rfl, gr_same _ _ _ _⟩
  have D1 := hD (n + 1) _ _ fs _ (by omega) (.inl f1.1) top_thr (by omega) (does_t1b (B := B) (S := S) (n := n + 1) (g := g.top t fs F1) (F := F1) (by omega) ht hq hl hlc top_thr (by omega) hB' hS' f1.1 f1.2.1 (by rw [f1.2.2]; exact I.top) (by rw [f1.2.2, hs]; omega) (by rw [f1.2.2, hs]; exact hx2))
  rw [top_top, f1.2.2, hs] at D1
  obtain ⟨F2, hF2⟩ : ∃ F2, F2 = (F1.reg 2 ((g.top t fs F1).w l (oLk B x))).goto 2 := ⟨_, rfl⟩
  rw [← hF2] at D1
  have f2 : F2.fn = 1 ∧ F2.pc = 2 ∧ F2.r 1 = g.w l 0 ∧ F2.r 2 = g.w l (oLk B x) := by
    rw [hF2]; exact ⟨f1.1, rfl, (gr_ne (by decide)).trans f1.2.2, gr_same _ _ _ _⟩
  have D2 := hD (n + 2) _ _ fs _ (by omega) (.inl f2.1) top_thr (by omega) (does_t2a (B := B) (S := S) (n := n + 2) (g := g.top t fs F2) (F := F2) (by omega) ht hq hl hlc top_thr (by omega) hB' hS' f2.1 f2.2.1 (by rw [f2.2.2.1]; exact I.top) (by rw [f2.2.2.1, hs]; omega) (by rw [f2.2.2.1, hs]; exact hx2) (by rw [f2.2.2.2]; omega) f2.2.2.1.symm (by rw [f2.2.2.1, hs]; exact hh))
  rw [top_set, top_hold, top_top, f2.2.2.1, f2.2.2.2, hs] at D2
  obtain ⟨F3, hF3⟩ : ∃ F3, F3 = F2.goto 3 := ⟨_, rfl⟩
  rw [← hF3] at D2
  have f3 : F3.fn = 1 ∧ F3.pc = 3 ∧ F3.r 1 = g.w l 0 := by rw [hF3]; exact ⟨f2.1, rfl, f2.2.2.1⟩
  obtain ⟨g3, hg3⟩ : ∃ g3, g3 = (g.set l 0 (mkTop (g.w l (oLk B x)) (cnt (g.w l 0) + 1))).hold l x := ⟨_, rfl⟩
  rw [← hg3] at D2
  have hw3 : g3.w l (oNd B S x 0) = g.w l (oNd B S x 0) := by
    rw [hg3]
    show (g.set l 0 _).w l _ = _
    rw [set_w, if_neg (fun h => by have := h.2; unfold oNd at this; omega)]
  have D3 := hD (n + 3) _ _ fs _ (by omega) (.inl f3.1) top_thr (by omega) (does_t3 (B := B) (S := S) (n := n + 3) (g := g3.top t fs F3) (F := F3) (by omega) ht hq hl hlc top_thr (by omega) hB' hS' f3.1 f3.2.1 (by rw [f3.2.2]; exact I.top) (by rw [f3.2.2, hs]; omega) (by rw [f3.2.2, hs]; exact hx2) (by rw [f3.2.2, hs]; show g3.w l _ < _; rw [hw3]; exact nd0_lt I hx1 hx2))
  have e3 : (g3.top t fs F3).w l (oNd B S x 0) = g.w l (oNd B S x 0) := hw3
  rw [top_back, f3.2.2, hs, e3] at D3
  have fin : takeG B S g t l fs x = g3.back t fs [x, genOf (g.w l (oNd B S x 0))] := by rw [hg3]; rfl
  rw [fin]
  exact .cons D0 (by rw [hthr]; simp; omega) (by rw [hthr]; simp; omega) (.cons D1 (by rw [top_thr]; simp; omega) (by rw [top_thr]; simp; omega) (.cons D2 (by rw [top_thr]; simp; omega) (by rw [top_thr]; simp; omega) (.cons D3 (by rw [top_thr]; simp; omega) (by rw [top_thr]; simp; omega) rfl)))
end
end
section
open Go.RowKit
set_option linter.unusedVariables false
set_option linter.unusedSimpArgs false
set_option linter.unnecessarySimpa false
section
variable {D : Nat → GM → GM → Prop} {σ : World} {p t q l n B S m d gens : Nat} {c : Nat → Int} {tp : List Nat} {g : GM} {fs : List Fr} {F : Fr} {L : List Nat} {x : Nat}
/-- Words that Give doesn't touch. -/
theorem gone_w (l' o : Nat) (h : ¬ (l' = l ∧ oNd B S x 0 ≤ o ∧ o < oNd B S x 0 + 5)) : (goneG B S g l x).w l' o = g.w l' o := by
  show ((((((g.set l _ _).set l _ 0).set l _ 0).set l _ 0).set l _ 0).set l _ _).w l' o = _
  unfold oNd at h ⊢
  rw [set_w, if_neg (by omega), set_w, if_neg (by omega), set_w, if_neg (by omega), set_w, if_neg (by omega), set_w, if_neg (by omega), set_w, if_neg (by omega)]
theorem gone_hd : (goneG B S g l x).w l (oNd B S x 0) = mkHead (genOf (g.w l (oNd B S x 0)) + 1) 0 := by
  show (GM.set _ l _ _).w l _ = _
  rw [set_w, if_pos ⟨rfl, rfl⟩]
theorem gone_fld {j : Nat} (h1 : 1 ≤ j) (h2 : j < 5) : (goneG B S g l x).w l (oNd B S x j) = 0 := by
  show ((((((g.set l _ _).set l _ 0).set l _ 0).set l _ 0).set l _ 0).set l _ _).w l _ = _
  rw [set_w, if_neg (fun h => by have := h.2; unfold oNd at this; omega)]
  rcases (show j = 1 ∨ j = 2 ∨ j = 3 ∨ j = 4 by omega) with e | e | e | e
  · subst e; rw [set_w, if_pos ⟨rfl, rfl⟩]
  · subst e; rw [set_w, if_neg (fun h => by have := h.2; unfold oNd at this; omega), set_w, if_pos ⟨rfl, rfl⟩]
  · subst e; rw [set_w, if_neg (fun h => by have := h.2; unfold oNd at this; omega), set_w, if_neg (fun h => by have := h.2; unfold oNd at this; omega), set_w, if_neg (fun h => by have := h.2; unfold oNd at this; omega), set_w, if_pos ⟨rfl, rfl⟩]
  · subst e; rw [set_w, if_neg (fun h => by have := h.2; unfold oNd at this; omega), set_w, if_neg (fun h => by have := h.2; unfold oNd at this; omega), set_w, if_pos ⟨rfl, rfl⟩]
theorem steps_give (hD : ∀ (n : Nat) (g g2 : GM) (fs : List Fr) (F : Fr), n < 100000 → (F.fn = 1 ∨ F.fn = 2) → g.thr t = fs ++ [F] → fs.length < 100000 → DoesTo 105 σ p t c tp n l g g2 → D n g g2) (hn : n < 90000) (ht : (t : Int) < c 1) (hq : tp[t]? = some q) (hl : levelOf c t = (l : Nat)) (hlc : (l : Int) < c 0) (hthr : g.thr t = fs ++ [F]) (hfs : fs.length < 900) (hds : d ≤ fs.length) (hB' : c 11 = (B : Nat)) (hS' : c 10 = (S : Nat)) (hS60 : S ≤ 60) (hm : m < 1000000) (I : LvR S B m g l L) (hg : c 12 = (gens : Nat)) (h2 : F.fn = 2) (hp : F.pc = 0) (h0 : F.r 0 = x) (x1 : 1 ≤ x) (x2 : x ≤ S) (hh : g.held l x = true) : ∃ k, k ≤ 10 ∧ 0 < k ∧ Steps D t d n k g (giveG B S gens g t l fs x) := by
  have hd0 := nd0_lt I x1 x2
  have hgm := (I.hd x x1 x2).2
  have D0 := hD n g _ fs F (by omega) (.inr h2) hthr (by omega) (does_g0 (by omega) ht hq hl hlc hthr (by omega) hB' hS' h2 hp (by rw [h0]; exact x1) (by rw [h0]; exact x2) (by rw [h0]; exact hd0))
  rw [h0] at D0
  obtain ⟨F1, hF1⟩ : ∃ G, G = (F.reg 2 (genOf (g.w l (oNd B S x 0)) + 1)).goto 1 := ⟨_, rfl⟩
  rw [← hF1] at D0
  have f1 : F1.fn = 2 ∧ F1.pc = 1 ∧ F1.r 0 = x ∧ F1.r 2 = genOf (g.w l (oNd B S x 0)) + 1 := by rw [hF1]; exact ⟨h2, rfl, (gr_ne (by decide)).trans h0, gr_same _ _ _ _⟩
  have D1 := hD (n + 1) _ _ fs F1 (by omega) (.inr f1.1) top_thr (by omega) (does_g1 (B := B) (S := S) (n := n + 1) (g := g.top t fs F1) (F := F1) (by omega) ht hq hl hlc top_thr (by omega) hB' hS' f1.1 f1.2.1 (by rw [f1.2.2.1]; exact x1) (by rw [f1.2.2.1]; exact x2) (by rw [f1.2.2.2]; omega) (by rw [f1.2.2.2]; omega))
  rw [top_set, top_top, f1.2.2.1, f1.2.2.2, Nat.add_sub_cancel] at D1
  obtain ⟨F2, hF2⟩ : ∃ G, G = F1.goto 2 := ⟨_, rfl⟩
  rw [← hF2] at D1
  have f2 : F2.fn = 2 ∧ F2.pc = 2 ∧ F2.r 0 = x ∧ F2.r 2 = genOf (g.w l (oNd B S x 0)) + 1 := by rw [hF2]; exact ⟨f1.1, rfl, f1.2.2.1, f1.2.2.2⟩
  obtain ⟨g2, hg2⟩ : ∃ G, G = g.set l (oNd B S x 0) (mkHead (genOf (g.w l (oNd B S x 0))) 3) := ⟨_, rfl⟩
  rw [← hg2] at D1
  have D2 := hD (n + 2) _ _ fs F2 (by omega) (.inr f2.1) top_thr (by omega) (does_g2 (B := B) (S := S) (n := n + 2) (g := g2.top t fs F2) (F := F2) (by omega) ht hq hl hlc top_thr (by omega) hB' hS' f2.1 f2.2.1 (by rw [f2.2.2.1]; exact x1) (by rw [f2.2.2.1]; exact x2))
  rw [top_set, top_top, f2.2.2.1] at D2
  obtain ⟨F3, hF3⟩ : ∃ G, G = F2.goto 3 := ⟨_, rfl⟩
  rw [← hF3] at D2
  have f3 : F3.fn = 2 ∧ F3.pc = 3 ∧ F3.r 0 = x ∧ F3.r 2 = genOf (g.w l (oNd B S x 0)) + 1 := by rw [hF3]; exact ⟨f2.1, rfl, f2.2.2.1, f2.2.2.2⟩
  obtain ⟨g3, hg3⟩ : ∃ G, G = g2.set l (oNd B S x 3) 0 := ⟨_, rfl⟩
  rw [← hg3] at D2
  have D3 := hD (n + 3) _ _ fs F3 (by omega) (.inr f3.1) top_thr (by omega) (does_g3 (B := B) (S := S) (n := n + 3) (g := g3.top t fs F3) (F := F3) (by omega) ht hq hl hlc top_thr (by omega) hB' hS' f3.1 f3.2.1 (by rw [f3.2.2.1]; exact x1) (by rw [f3.2.2.1]; exact x2))
  rw [top_set, top_top, f3.2.2.1] at D3
  obtain ⟨F4, hF4⟩ : ∃ G, G = F3.goto 4 := ⟨_, rfl⟩
  rw [← hF4] at D3
  have f4 : F4.fn = 2 ∧ F4.pc = 4 ∧ F4.r 0 = x ∧ F4.r 2 = genOf (g.w l (oNd B S x 0)) + 1 := by rw [hF4]; exact ⟨f3.1, rfl, f3.2.2.1, f3.2.2.2⟩
  obtain ⟨g4, hg4⟩ : ∃ G, G = g3.set l (oNd B S x 4) 0 := ⟨_, rfl⟩
  rw [← hg4] at D3
  have D4 := hD (n + 4) _ _ fs F4 (by omega) (.inr f4.1) top_thr (by omega) (does_g4 (B := B) (S := S) (n := n + 4) (g := g4.top t fs F4) (F := F4) (by omega) ht hq hl hlc top_thr (by omega) hB' hS' f4.1 f4.2.1 (by rw [f4.2.2.1]; exact x1) (by rw [f4.2.2.1]; exact x2))
  rw [top_set, top_top, f4.2.2.1] at D4
  obtain ⟨F5, hF5⟩ : ∃ G, G = F4.goto 5 := ⟨_, rfl⟩
  rw [← hF5] at D4
  have f5 : F5.fn = 2 ∧ F5.pc = 5 ∧ F5.r 0 = x ∧ F5.r 2 = genOf (g.w l (oNd B S x 0)) + 1 := by rw [hF5]; exact ⟨f4.1, rfl, f4.2.2.1, f4.2.2.2⟩
  obtain ⟨g5, hg5⟩ : ∃ G, G = g4.set l (oNd B S x 2) 0 := ⟨_, rfl⟩
  rw [← hg5] at D4
  have D5 := hD (n + 5) _ _ fs F5 (by omega) (.inr f5.1) top_thr (by omega) (does_g5 (B := B) (S := S) (n := n + 5) (g := g5.top t fs F5) (F := F5) (by omega) ht hq hl hlc top_thr (by omega) hB' hS' f5.1 f5.2.1 (by rw [f5.2.2.1]; exact x1) (by rw [f5.2.2.1]; exact x2))
  rw [top_set, top_top, f5.2.2.1] at D5
  obtain ⟨F6, hF6⟩ : ∃ G, G = F5.goto 6 := ⟨_, rfl⟩
  rw [← hF6] at D5
  have f6 : F6.fn = 2 ∧ F6.pc = 6 ∧ F6.r 0 = x ∧ F6.r 2 = genOf (g.w l (oNd B S x 0)) + 1 := by rw [hF6]; exact ⟨f5.1, rfl, f5.2.2.1, f5.2.2.2⟩
  obtain ⟨g6, hg6⟩ : ∃ G, G = g5.set l (oNd B S x 1) 0 := ⟨_, rfl⟩
  rw [← hg6] at D5
  have hh6 : g6.held l x = true := by rw [hg6, hg5, hg4, hg3, hg2]; exact hh
  have hgo : (g6.set l (oNd B S x 0) (mkHead (genOf (g.w l (oNd B S x 0)) + 1) 0)).drop l x = goneG B S g l x := by rw [hg6, hg5, hg4, hg3, hg2]; rfl
  have hw0 : (goneG B S g l x).w l 0 = g.w l 0 := gone_w l 0 (fun h => by have := h.2.1; unfold oNd at this; omega)
  by_cases hs : genOf (g.w l (oNd B S x 0)) + 1 < gens
  · have D6 := hD (n + 6) _ _ fs F6 (by omega) (.inr f6.1) top_thr (by omega) (does_g6a (B := B) (S := S) (n := n + 6) (g := g6.top t fs F6) (F := F6) (by omega) ht hq hl hlc top_thr (by omega) hB' hS' f6.1 f6.2.1 (by rw [f6.2.2.1]; exact x1) (by rw [f6.2.2.1]; exact x2) (by rw [f6.2.2.2]; omega) (by rw [f6.2.2.1]; exact hh6) (by rw [f6.2.2.2, hg]; omega))
    rw [top_set, top_drop, top_top, f6.2.2.1, f6.2.2.2, hgo] at D6
    obtain ⟨F7, hF7⟩ : ∃ G, G = F6.goto 7 := ⟨_, rfl⟩
    rw [← hF7] at D6
    have f7 : F7.fn = 2 ∧ F7.pc = 7 ∧ F7.r 0 = x := by rw [hF7]; exact ⟨f6.1, rfl, f6.2.2.1⟩
    obtain ⟨g7, hg7⟩ : ∃ G, G = goneG B S g l x := ⟨_, rfl⟩
    rw [← hg7] at D6 hw0
    have D7 := hD (n + 7) _ _ fs F7 (by omega) (.inr f7.1) top_thr (by omega) (does_g7 (B := B) (S := S) (n := n + 7) (g := g7.top t fs F7) (F := F7) (by omega) ht hq hl hlc top_thr (by omega) hB' hS' f7.1 f7.2.1 (by rw [f7.2.2]; exact x1) (by rw [f7.2.2]; exact x2))
    have e7 : (g7.top t fs F7).w l 0 = g.w l 0 := hw0
    rw [top_top, e7] at D7
    obtain ⟨F8, hF8⟩ : ∃ G, G = (F7.reg 1 (g.w l 0)).goto 8 := ⟨_, rfl⟩
    rw [← hF8] at D7
    have f8 : F8.fn = 2 ∧ F8.pc = 8 ∧ F8.r 0 = x ∧ F8.r 1 = g.w l 0 := by rw [hF8]; exact ⟨f7.1, rfl, (gr_ne (by decide)).trans f7.2.2, gr_same _ _ _ _⟩
    have D8 := hD (n + 8) _ _ fs F8 (by omega) (.inr f8.1) top_thr (by omega) (does_g8 (B := B) (S := S) (n := n + 8) (g := g7.top t fs F8) (F := F8) (by omega) ht hq hl hlc top_thr (by omega) hB' hS' f8.1 f8.2.1 (by rw [f8.2.2.1]; exact x1) (by rw [f8.2.2.1]; exact x2) (by rw [f8.2.2.2]; exact I.top))
    rw [top_set, top_top, f8.2.2.1, f8.2.2.2] at D8
    obtain ⟨F9, hF9⟩ : ∃ G, G = F8.goto 9 := ⟨_, rfl⟩
    rw [← hF9] at D8
    have f9 : F9.fn = 2 ∧ F9.pc = 9 ∧ F9.r 0 = x ∧ F9.r 1 = g.w l 0 := by rw [hF9]; exact ⟨f8.1, rfl, f8.2.2.1, f8.2.2.2⟩
    obtain ⟨g9, hg9⟩ : ∃ G, G = g7.set l (oLk B x) (slOf (g.w l 0)) := ⟨_, rfl⟩
    rw [← hg9] at D8
    have e9 : (g9.top t fs F9).w l 0 = g.w l 0 := by
      show g9.w l 0 = _
      rw [hg9, set_w, if_neg (fun h => by have := h.2; unfold oLk at this; omega), hw0]
    have D9 := hD (n + 9) _ _ fs F9 (by omega) (.inr f9.1) top_thr (by omega) (does_g9a (B := B) (S := S) (n := n + 9) (g := g9.top t fs F9) (F := F9) (by omega) ht hq hl hlc top_thr (by omega) hB' hS' f9.1 f9.2.1 (by rw [f9.2.2.1]; exact x1) (by rw [f9.2.2.1]; exact x2) (by rw [f9.2.2.2]; exact I.top) (by rw [e9, f9.2.2.2]))
    rw [top_set, top_back, f9.2.2.1, f9.2.2.2] at D9
    have fin : giveG B S gens g t l fs x = (g9.set l 0 (mkTop x (cnt (g.w l 0) + 1))).back t fs [] := by unfold giveG; rw [if_pos hs, hg9, hg7]
    rw [fin]
    exact ⟨10, Nat.le_refl _, by decide, .cons D0 (by rw [hthr]; simp; omega) (by rw [hthr]; simp; omega) (.cons D1 (by rw [top_thr]; simp; omega) (by rw [top_thr]; simp; omega) (.cons D2 (by rw [top_thr]; simp; omega) (by rw [top_thr]; simp; omega) (.cons D3 (by rw [top_thr]; simp; omega) (by rw [top_thr]; simp; omega) (.cons D4 (by rw [top_thr]; simp; omega) (by rw [top_thr]; simp; omega) (.cons D5 (by rw [top_thr]; simp; omega) (by rw [top_thr]; simp; omega) (.cons D6 (by rw [top_thr]; simp; omega) (by rw [top_thr]; simp; omega) (.cons D7 (by rw [top_thr]; simp; omega) (by rw [top_thr]; simp; omega) (.cons D8 (by rw [top_thr]; simp; omega) (by rw [top_thr]; simp; omega) (.cons D9 (by rw [top_thr]; simp; omega) (by rw [top_thr]; simp; omega) rfl)))))))))⟩
  · have D6 := hD (n + 6) _ _ fs F6 (by omega) (.inr f6.1) top_thr (by omega) (does_g6b (B := B) (S := S) (n := n + 6) (g := g6.top t fs F6) (F := F6) (by omega) ht hq hl hlc top_thr (by omega) hB' hS' f6.1 f6.2.1 (by rw [f6.2.2.1]; exact x1) (by rw [f6.2.2.1]; exact x2) (by rw [f6.2.2.2]; omega) (by rw [f6.2.2.1]; exact hh6) (by rw [f6.2.2.2, hg]; omega))
    rw [top_set, top_drop, top_back, f6.2.2.1, f6.2.2.2, hgo] at D6
    have fin : giveG B S gens g t l fs x = (goneG B S g l x).back t fs [] := by unfold giveG; rw [if_neg hs]
    rw [fin]
    exact ⟨7, by omega, by decide, .cons D0 (by rw [hthr]; simp; omega) (by rw [hthr]; simp; omega) (.cons D1 (by rw [top_thr]; simp; omega) (by rw [top_thr]; simp; omega) (.cons D2 (by rw [top_thr]; simp; omega) (by rw [top_thr]; simp; omega) (.cons D3 (by rw [top_thr]; simp; omega) (by rw [top_thr]; simp; omega) (.cons D4 (by rw [top_thr]; simp; omega) (by rw [top_thr]; simp; omega) (.cons D5 (by rw [top_thr]; simp; omega) (by rw [top_thr]; simp; omega) (.cons D6 (by rw [top_thr]; simp; omega) (by rw [top_thr]; simp; omega) rfl))))))⟩
end
section
variable {t l n B S m gens : Nat} {g : GM} {fs : List Fr} {L r : List Nat} {x : Nat}
theorem LvR.mono {m' : Nat} (h : LvR S B m g l L) (hm : m ≤ m') : LvR S B m' g l L := ⟨h.chain, h.nodup, h.rng, h.top, Nat.le_trans h.cntN hm, h.lk, fun i a b => ⟨(h.hd i a b).1, Nat.le_trans (h.hd i a b).2 hm⟩⟩
/-- What doesn't touch a level's list, heads, held slots that are free. -/
theorem LvR.congr {g2 : GM} (h : LvR S B m g l L) (h0 : g2.w l 0 = g.w l 0) (h1 : ∀ i, 1 ≤ i → i ≤ S → g2.w l (oLk B i) = g.w l (oLk B i)) (h2 : ∀ i, 1 ≤ i → i ≤ S → g2.w l (oNd B S i 0) = g.w l (oNd B S i 0)) (h3 : ∀ x ∈ L, g2.held l x = g.held l x) : LvR S B m g2 l L :=
  ⟨by rw [h0]; exact chainP_congr _ _ h.chain fun x hx => h1 x (h.rng x hx).1 (h.rng x hx).2.1, h.nodup, fun x hx => ⟨(h.rng x hx).1, (h.rng x hx).2.1, by rw [h3 x hx]; exact (h.rng x hx).2.2⟩, by rw [h0]; exact h.top, by rw [h0]; exact h.cntN, fun i a b => by rw [h1 i a b]; exact h.lk i a b, fun i a b => by rw [h2 i a b]; exact h.hd i a b⟩
theorem LvR.take (I : LvR S B m g l (x :: r)) (hm : m < 900000) (hS60 : S ≤ 60) : LvR S B (m + 1) (takeG B S g t l fs x) l r := by
  obtain ⟨hs, hx1, hc2⟩ := I.chain
  obtain ⟨_, hx2, hh⟩ := I.rng x List.mem_cons_self
  have hnd := List.nodup_cons.1 I.nodup
  have hw : ∀ o, o ≠ 0 → (takeG B S g t l fs x).w l o = g.w l o := fun o ho => by
    show (g.set l 0 _).w l o = _
    rw [set_w, if_neg (fun h => ho h.2)]
  have hw0 : (takeG B S g t l fs x).w l 0 = mkTop (g.w l (oLk B x)) (cnt (g.w l 0) + 1) := by
    show (g.set l 0 _).w l 0 = _
    rw [set_w, if_pos ⟨rfl, rfl⟩]
  have hlk := I.lk x hx1 hx2
  have hcn := I.cntN
  have olk : ∀ i, oLk B i ≠ 0 := fun i => by unfold oLk; omega
  have ond : ∀ i, oNd B S i 0 ≠ 0 := fun i => by unfold oNd; omega
  refine ⟨?_, hnd.2, fun y hy => ?_, by rw [hw0]; exact top_lt _ _, ?_, fun i a b => by rw [hw _ (olk i)]; exact I.lk i a b, fun i a b => by rw [hw _ (ond i)]; exact ⟨(I.hd i a b).1, Nat.le_succ_of_le (I.hd i a b).2⟩⟩
  · rw [hw0, sl_top (by omega)]
    exact chainP_congr _ _ hc2 fun y hy => hw _ (olk y)
  · obtain ⟨a, b, e⟩ := I.rng y (List.mem_cons_of_mem _ hy)
    refine ⟨a, b, ?_⟩
    show (GM.hold (g.set l 0 _) l x).held l y = false
    rw [hold_held, if_neg (fun h => hnd.1 (by rw [← h.2]; exact hy))]
    exact e
  · rw [hw0, cnt_top (by omega)]; omega
/-- Free list behind Give. -/
def gaveL (B S gens : Nat) (g : GM) (l x : Nat) (L : List Nat) : List Nat := if genOf (g.w l (oNd B S x 0)) + 1 < gens then x :: L else L
theorem give_w0 (l' o : Nat) (h : ¬ (l' = l ∧ (o = 0 ∨ o = oLk B x ∨ (oNd B S x 0 ≤ o ∧ o < oNd B S x 0 + 5)))) : (giveG B S gens g t l fs x).w l' o = g.w l' o := by
  unfold giveG
  split
  · show (((goneG B S g l x).set l (oLk B x) _).set l 0 _).w l' o = _
    rw [set_w, if_neg (by omega), set_w, if_neg (by omega), gone_w _ _ (by omega)]
  · exact gone_w _ _ (by omega)
theorem give_hd (x1 : 1 ≤ x) (x2 : x ≤ S) : (giveG B S gens g t l fs x).w l (oNd B S x 0) = mkHead (genOf (g.w l (oNd B S x 0)) + 1) 0 := by
  unfold giveG
  split
  · show (((goneG B S g l x).set l (oLk B x) _).set l 0 _).w l _ = _
    rw [set_w, if_neg (fun h => by have := h.2; unfold oNd at this; omega), set_w, if_neg (fun h => by have := h.2; unfold oNd oLk at this; omega)]
    exact gone_hd
  · exact gone_hd
theorem give_fld (x1 : 1 ≤ x) (x2 : x ≤ S) {j : Nat} (h1 : 1 ≤ j) (h2 : j < 5) : (giveG B S gens g t l fs x).w l (oNd B S x j) = 0 := by
  unfold giveG
  split
  · show (((goneG B S g l x).set l (oLk B x) _).set l 0 _).w l _ = _
    rw [set_w, if_neg (fun h => by have := h.2; unfold oNd at this; omega), set_w, if_neg (fun h => by have := h.2; unfold oNd oLk at this; omega)]
    exact gone_fld h1 h2
  · exact gone_fld h1 h2
theorem give_held (l' y : Nat) : (giveG B S gens g t l fs x).held l' y = if l' = l ∧ y = x then false else g.held l' y := by
  unfold giveG
  split
  · exact drop_held (g := ((((((g.set l (oNd B S x 0) (mkHead (genOf (g.w l (oNd B S x 0))) 3)).set l (oNd B S x 3) 0).set l (oNd B S x 4) 0).set l (oNd B S x 2) 0).set l (oNd B S x 1) 0).set l (oNd B S x 0) (mkHead (genOf (g.w l (oNd B S x 0)) + 1) 0))) (l := l) (i := x) l' y
  · exact drop_held (g := ((((((g.set l (oNd B S x 0) (mkHead (genOf (g.w l (oNd B S x 0))) 3)).set l (oNd B S x 3) 0).set l (oNd B S x 4) 0).set l (oNd B S x 2) 0).set l (oNd B S x 1) 0).set l (oNd B S x 0) (mkHead (genOf (g.w l (oNd B S x 0)) + 1) 0))) (l := l) (i := x) l' y
theorem LvR.give (I : LvR S B m g l L) (hm : m < 900000) (hS60 : S ≤ 60) (x1 : 1 ≤ x) (x2 : x ≤ S) (hx : x ∉ L) : LvR S B (m + 1) (giveG B S gens g t l fs x) l (gaveL B S gens g l x L) := by
  have hcn := I.cntN
  have hgn := (I.hd x x1 x2).2
  have hnd : ∀ i, 1 ≤ i → i ≤ S → i ≠ x → (giveG B S gens g t l fs x).w l (oNd B S i 0) = g.w l (oNd B S i 0) := fun i a b e => give_w0 _ _ (fun h => by
    rcases h.2 with h | h | h
    · unfold oNd at h; omega
    · unfold oNd oLk at h; omega
    · unfold oNd at h; omega)
  have hlk : ∀ i, 1 ≤ i → i ≤ S → i ≠ x → (giveG B S gens g t l fs x).w l (oLk B i) = g.w l (oLk B i) := fun i a b e => give_w0 _ _ (fun h => by
    rcases h.2 with h | h | h
    · unfold oLk at h; omega
    · unfold oLk at h; omega
    · unfold oNd oLk at h; omega)
  have hhd : ∀ i, 1 ≤ i → i ≤ S → (giveG B S gens g t l fs x).w l (oNd B S i 0) < 17179869184 ∧ genOf ((giveG B S gens g t l fs x).w l (oNd B S i 0)) ≤ m + 1 := fun i a b => by
    by_cases e : i = x
    · subst e
      rw [give_hd x1 x2]
      exact ⟨head_lt _ _, by rw [gen_head (by omega)]; omega⟩
    · rw [hnd i a b e]; exact ⟨(I.hd i a b).1, Nat.le_succ_of_le (I.hd i a b).2⟩
  have hheld : ∀ y ∈ L, (giveG B S gens g t l fs x).held l y = false := fun y hy => by
    rw [give_held]
    split
    · rfl
    · exact (I.rng y hy).2.2
  by_cases hs : genOf (g.w l (oNd B S x 0)) + 1 < gens
  · have e0 : (giveG B S gens g t l fs x).w l 0 = mkTop x (cnt (g.w l 0) + 1) := by
      unfold giveG
      rw [if_pos hs]
      show (GM.set _ l 0 _).w l 0 = _
      rw [set_w, if_pos ⟨rfl, rfl⟩]
    have ex : (giveG B S gens g t l fs x).w l (oLk B x) = slOf (g.w l 0) := by
      unfold giveG
      rw [if_pos hs]
      show (GM.set (GM.set _ l _ _) l 0 _).w l _ = _
      rw [set_w, if_neg (fun h => by have := h.2; unfold oLk at this; omega), set_w, if_pos ⟨rfl, rfl⟩]
    have hsl : slOf (g.w l 0) ≤ S := by
      have := I.chain
      cases hL : L with
      | nil => rw [hL] at this; have e : slOf (g.w l 0) = 0 := this; omega
      | cons y r => rw [hL] at this; have e := this.1; have := (I.rng y (by rw [hL]; exact List.mem_cons_self)).2.1; omega
    unfold gaveL
    rw [if_pos hs]
    refine ⟨?_, List.nodup_cons.2 ⟨hx, I.nodup⟩, fun y hy => ?_, by rw [e0]; exact top_lt _ _, by rw [e0, cnt_top (by omega)]; omega, fun i a b => ?_, hhd⟩
    · rw [e0, sl_top (by omega)]
      refine ⟨rfl, x1, ?_⟩
      show chainP _ ((giveG B S gens g t l fs x).w l (oLk B x)) L
      rw [ex]
      exact chainP_congr _ _ I.chain fun y hy => hlk y (I.rng y hy).1 (I.rng y hy).2.1 (fun e => hx (by rw [← e]; exact hy))
    · rcases List.mem_cons.1 hy with e | hy
      · subst e; exact ⟨x1, x2, by rw [give_held, if_pos ⟨rfl, rfl⟩]⟩
      · exact ⟨(I.rng y hy).1, (I.rng y hy).2.1, hheld y hy⟩
    · by_cases e : i = x
      · subst e; rw [ex]; exact hsl
      · rw [hlk i a b e]; exact I.lk i a b
  · have e0 : (giveG B S gens g t l fs x).w l 0 = g.w l 0 := by
      unfold giveG
      rw [if_neg hs]
      exact gone_w _ _ (fun h => by have := h.2.1; unfold oNd at this; omega)
    have ex : ∀ i, 1 ≤ i → i ≤ S → (giveG B S gens g t l fs x).w l (oLk B i) = g.w l (oLk B i) := fun i a b => by
      unfold giveG
      rw [if_neg hs]
      exact gone_w _ _ (fun h => by have := h.2.1; unfold oNd oLk at this; omega)
    unfold gaveL
    rw [if_neg hs]
    refine ⟨by rw [e0]; exact chainP_congr _ _ I.chain fun y hy => ex y (I.rng y hy).1 (I.rng y hy).2.1, I.nodup, fun y hy => ⟨(I.rng y hy).1, (I.rng y hy).2.1, hheld y hy⟩, by rw [e0]; exact I.top, by rw [e0]; omega, fun i a b => by rw [ex i a b]; exact I.lk i a b, hhd⟩
end
end
section
open Go.RowKit
set_option linter.unusedVariables false
set_option linter.unusedSimpArgs false
set_option linter.unnecessarySimpa false
section
variable {g : GM} {t l o v i : Nat} {fs fs' : List Fr} {F : Fr} {us us' : List Nat}
theorem back_set : (g.back t fs us).set l o v = (g.set l o v).back t fs us := rfl
theorem back_back : (g.back t fs us).back t fs' us' = g.back t fs' us' := by unfold GM.back; simp only [put1_put1]
theorem set_top_back : ((g.back t fs us).top t fs' F).back t fs' us' = g.back t fs' us' := by rw [top_back, back_back]
end
/-- What Mint makes, of the first slot of the free list. -/
def madeW (B S : Nat) (g : GM) (l x st key a b : Nat) : GM := ((((((g.set l 0 (mkTop (g.w l (oLk B x)) (cnt (g.w l 0) + 1))).hold l x).set l (oNd B S x 2) key).set l (oNd B S x 3) a).set l (oNd B S x 4) b).set l (oNd B S x 1) 0).set l (oNd B S x 0) (mkHead (genOf (g.w l (oNd B S x 0))) st)
def madeG (B S : Nat) (g : GM) (t l x st key a b : Nat) : GM := (madeW B S g l x st key a b).back t [] [x, genOf (g.w l (oNd B S x 0))]
section
variable {σ : World} {p t q l n B S m : Nat} {c : Nat → Int} {tp : List Nat} {g : GM} {F : Fr} {L r : List Nat} {x : Nat}
theorem takeG_top (fs fs' : List Fr) (F : Fr) : takeG B S (g.top t fs' F) t l fs x = takeG B S g t l fs x := by
  unfold takeG
  have e : ∀ o, (g.top t fs' F).w l o = g.w l o := fun _ => rfl
  rw [e, e, e, top_set, top_hold, top_back]
theorem LvR.atop (I : LvR S B m g l L) (fs : List Fr) (F : Fr) : LvR S B m (g.top t fs F) l L := I.congr rfl (fun _ _ _ => rfl) (fun _ _ _ => rfl) (fun _ _ => rfl)
theorem hand (ht : (t : Int) < c 1) (hq : tp[t]? = some q) (hl : levelOf c t = (l : Nat)) (hlc : (l : Int) < c 0) : ∀ (n : Nat) (g g2 : GM) (fs : List Fr) (F : Fr), n < 100000 → (F.fn = 1 ∨ F.fn = 2) → g.thr t = fs ++ [F] → fs.length < 100000 → DoesTo 105 σ p t c tp n l g g2 → DoesTo 41 σ p t c tp n l g g2 :=
  fun n g g2 fs F hn hf hthr hfs D => hand_st hn ht hq hl hlc hthr hfs hf D
/-- Mint of no slot. -/
theorem steps_mint_no (hn : n < 80000) (ht : (t : Int) < c 1) (hq : tp[t]? = some q) (hl : levelOf c t = (l : Nat)) (hlc : (l : Int) < c 0) (hthr : g.thr t = [F]) (hB' : c 11 = (B : Nat)) (hS' : c 10 = (S : Nat)) (hS60 : S ≤ 60) (hm : m < 900000) (I : LvR S B m g l L) (h1 : F.fn = 30) (hp : F.pc = 0) (hL : L = []) : Steps (fun n g g2 => DoesTo 41 σ p t c tp n l g g2) t 0 n 4 g (g.back t [] [0]) := by
  have D0 := does_m0 (σ := σ) (p := p) (n := n) (fs := []) (by omega) ht hq hl hlc hthr (by simp) hB' hS' h1 hp
  rw [List.nil_append] at D0
  have T := steps_take_no (D := (fun n g g2 => DoesTo 41 σ p t c tp n l g g2)) (p := p) (d := 0) (n := n + 1) (fs := [F.goto 1]) (hand ht hq hl hlc) (by omega) ht hq hl hlc (top_thr (g := g) (t := t)) (by simp) (Nat.zero_le _) hB' hS' hS60 (by omega) (I.atop [F.goto 1] ⟨1, 0, fun _ => 0⟩) rfl rfl (by show 0 < _; decide) hL
  rw [top_back] at T
  have D1 := does_m1no (σ := σ) (p := p) (n := n + 3) (fs := []) (g := g.back t [F.goto 1] [0, 0]) (F := F.goto 1) (by omega) ht hq hl hlc back_thr' (by simp) hB' hS' h1 rfl (by show put1 g.told t _ t 0 = 0; rw [put1_same]; rfl)
  rw [back_back] at D1
  refine .cons D0 (by rw [hthr]; simp) (by rw [hthr]; simp) ?_
  exact T.trans (b := 1) (.cons D1 (by rw [back_thr']; simp) (by rw [back_thr']; simp) rfl)
/-- Mint of the first slot. -/
theorem steps_mint (hn : n < 80000) (ht : (t : Int) < c 1) (hq : tp[t]? = some q) (hl : levelOf c t = (l : Nat)) (hlc : (l : Int) < c 0) (hthr : g.thr t = [F]) (hB' : c 11 = (B : Nat)) (hS' : c 10 = (S : Nat)) (hS60 : S ≤ 60) (hm : m < 900000) (I : LvR S B m g l L) (h1 : F.fn = 30) (hp : F.pc = 0) (hst : F.r 0 < 256) (hL : L = x :: r) : Steps (fun n g g2 => DoesTo 41 σ p t c tp n l g g2) t 0 n 12 g (madeG B S g t l x (F.r 0) (F.r 1) (F.r 2) (F.r 3)) := by
  have I' := I
  rw [hL] at I'
  obtain ⟨hs, hx1, hc2⟩ := I'.chain
  obtain ⟨_, hx2, hh⟩ := I'.rng x List.mem_cons_self
  have hgm := (I.hd x hx1 hx2).2
  have D0 := does_m0 (σ := σ) (p := p) (n := n) (fs := []) (by omega) ht hq hl hlc hthr (by simp) hB' hS' h1 hp
  rw [List.nil_append] at D0
  have T := steps_take (D := (fun n g g2 => DoesTo 41 σ p t c tp n l g g2)) (p := p) (d := 0) (n := n + 1) (fs := [F.goto 1]) (hand ht hq hl hlc) (by omega) ht hq hl hlc (top_thr (g := g) (t := t)) (by simp) (Nat.zero_le _) hB' hS' hS60 (by omega) (I.atop [F.goto 1] ⟨1, 0, fun _ => 0⟩) rfl rfl (by show 0 < _; decide) hL
  rw [takeG_top] at T
  obtain ⟨g1, hg1⟩ : ∃ G, G = takeG B S g t l [F.goto 1] x := ⟨_, rfl⟩
  rw [← hg1] at T
  have t1 : g1.thr t = [F.goto 1] := by rw [hg1]; exact back_thr'
  have tl0 : g1.told t 0 = x := by rw [hg1]; show put1 g.told t _ t 0 = x; rw [put1_same]; rfl
  have tl1 : g1.told t 1 = genOf (g.w l (oNd B S x 0)) := by rw [hg1]; show put1 g.told t _ t 1 = _; rw [put1_same]; rfl
  have D1 := does_m1 (σ := σ) (p := p) (n := n + 5) (fs := []) (g := g1) (F := F.goto 1) (by omega) ht hq hl hlc t1 (by simp) hB' hS' h1 rfl (by rw [tl0]; omega)
  rw [tl0, tl1] at D1
  obtain ⟨F2, hF2⟩ : ∃ G, G = (((F.goto 1).reg 4 x).reg 5 (genOf (g.w l (oNd B S x 0)))).goto 2 := ⟨_, rfl⟩
  rw [← hF2] at D1
  have f2 : F2.fn = 30 ∧ F2.pc = 2 ∧ F2.r 4 = x ∧ F2.r 5 = genOf (g.w l (oNd B S x 0)) ∧ (∀ i, i < 4 → F2.r i = F.r i) := by
    rw [hF2]
    refine ⟨h1, rfl, (gr_ne (by decide)).trans (show put1 F.r 4 x 4 = x from put1_same _ _ _), gr_same _ _ _ _, fun i hi => (gr_ne (by omega)).trans (show put1 F.r 4 x i = F.r i from put1_ne (by omega))⟩
  obtain ⟨g2, hg2⟩ : ∃ G, G = g1 := ⟨_, rfl⟩
  rw [← hg2] at D1
  have D2 := does_m2 (σ := σ) (p := p) (n := n + 6) (fs := []) (g := g2.top t [] F2) (F := F2) (B := B) (S := S) (by omega) ht hq hl hlc top_thr (by simp) hB' hS' f2.1 f2.2.1 (by rw [f2.2.2.1]; exact hx1) (by rw [f2.2.2.1]; exact hx2)
  rw [top_set, top_top, f2.2.2.1] at D2
  obtain ⟨F3, hF3⟩ : ∃ G, G = F2.goto (2 + 1) := ⟨_, rfl⟩
  rw [← hF3] at D2
  have f3 : F3.fn = 30 ∧ F3.pc = 3 ∧ F3.r 4 = x ∧ F3.r 5 = genOf (g.w l (oNd B S x 0)) ∧ (∀ i, i < 4 → F3.r i = F.r i) := by rw [hF3]; exact ⟨f2.1, rfl, f2.2.2.1, f2.2.2.2.1, f2.2.2.2.2⟩
  obtain ⟨g3, hg3⟩ : ∃ G, G = g2.set l (oNd B S x 2) (F.r 1) := ⟨_, rfl⟩
  rw [f2.2.2.2.2 1 (by decide), ← hg3] at D2
  have D3 := does_m3 (σ := σ) (p := p) (n := n + 7) (fs := []) (g := g3.top t [] F3) (F := F3) (B := B) (S := S) (by omega) ht hq hl hlc top_thr (by simp) hB' hS' f3.1 f3.2.1 (by rw [f3.2.2.1]; exact hx1) (by rw [f3.2.2.1]; exact hx2)
  rw [top_set, top_top, f3.2.2.1] at D3
  obtain ⟨F4, hF4⟩ : ∃ G, G = F3.goto (3 + 1) := ⟨_, rfl⟩
  rw [← hF4] at D3
  have f4 : F4.fn = 30 ∧ F4.pc = 4 ∧ F4.r 4 = x ∧ F4.r 5 = genOf (g.w l (oNd B S x 0)) ∧ (∀ i, i < 4 → F4.r i = F.r i) := by rw [hF4]; exact ⟨f3.1, rfl, f3.2.2.1, f3.2.2.2.1, f3.2.2.2.2⟩
  obtain ⟨g4, hg4⟩ : ∃ G, G = g3.set l (oNd B S x 3) (F.r 2) := ⟨_, rfl⟩
  rw [f3.2.2.2.2 2 (by decide), ← hg4] at D3
  have D4 := does_m4 (σ := σ) (p := p) (n := n + 8) (fs := []) (g := g4.top t [] F4) (F := F4) (B := B) (S := S) (by omega) ht hq hl hlc top_thr (by simp) hB' hS' f4.1 f4.2.1 (by rw [f4.2.2.1]; exact hx1) (by rw [f4.2.2.1]; exact hx2)
  rw [top_set, top_top, f4.2.2.1] at D4
  obtain ⟨F5, hF5⟩ : ∃ G, G = F4.goto (4 + 1) := ⟨_, rfl⟩
  rw [← hF5] at D4
  have f5 : F5.fn = 30 ∧ F5.pc = 5 ∧ F5.r 4 = x ∧ F5.r 5 = genOf (g.w l (oNd B S x 0)) ∧ (∀ i, i < 4 → F5.r i = F.r i) := by rw [hF5]; exact ⟨f4.1, rfl, f4.2.2.1, f4.2.2.2.1, f4.2.2.2.2⟩
  obtain ⟨g5, hg5⟩ : ∃ G, G = g4.set l (oNd B S x 4) (F.r 3) := ⟨_, rfl⟩
  rw [f4.2.2.2.2 3 (by decide), ← hg5] at D4
  have D5 := does_m5 (σ := σ) (p := p) (n := n + 9) (fs := []) (g := g5.top t [] F5) (F := F5) (B := B) (S := S) (by omega) ht hq hl hlc top_thr (by simp) hB' hS' f5.1 f5.2.1 (by rw [f5.2.2.1]; exact hx1) (by rw [f5.2.2.1]; exact hx2)
  rw [top_set, top_top, f5.2.2.1] at D5
  obtain ⟨F6, hF6⟩ : ∃ G, G = F5.goto (5 + 1) := ⟨_, rfl⟩
  rw [← hF6] at D5
  have f6 : F6.fn = 30 ∧ F6.pc = 6 ∧ F6.r 4 = x ∧ F6.r 5 = genOf (g.w l (oNd B S x 0)) ∧ (∀ i, i < 4 → F6.r i = F.r i) := by rw [hF6]; exact ⟨f5.1, rfl, f5.2.2.1, f5.2.2.2.1, f5.2.2.2.2⟩
  obtain ⟨g6, hg6⟩ : ∃ G, G = g5.set l (oNd B S x 1) 0 := ⟨_, rfl⟩
  rw [← hg6] at D5
  have D6 := does_m6 (σ := σ) (p := p) (n := n + 10) (fs := []) (g := g6.top t [] F6) (F := F6) (B := B) (S := S) (by omega) ht hq hl hlc top_thr (by simp) hB' hS' f6.1 f6.2.1 (by rw [f6.2.2.1]; exact hx1) (by rw [f6.2.2.1]; exact hx2) (by rw [f6.2.2.2.1]; omega) (by rw [f6.2.2.2.2 0 (by decide)]; exact hst)
  rw [top_set, top_top, f6.2.2.1, f6.2.2.2.1, f6.2.2.2.2 0 (by decide)] at D6
  obtain ⟨F7, hF7⟩ : ∃ G, G = F6.goto 7 := ⟨_, rfl⟩
  rw [← hF7] at D6
  have f7 : F7.fn = 30 ∧ F7.pc = 7 ∧ F7.r 4 = x ∧ F7.r 5 = genOf (g.w l (oNd B S x 0)) := by rw [hF7]; exact ⟨f6.1, rfl, f6.2.2.1, f6.2.2.2.1⟩
  obtain ⟨g7, hg7⟩ : ∃ G, G = g6.set l (oNd B S x 0) (mkHead (genOf (g.w l (oNd B S x 0))) (F.r 0)) := ⟨_, rfl⟩
  rw [← hg7] at D6
  have D7 := does_m7 (σ := σ) (p := p) (n := n + 11) (fs := []) (g := g7.top t [] F7) (F := F7) (B := B) (S := S) (by omega) ht hq hl hlc top_thr (by simp) hB' hS' f7.1 f7.2.1
  rw [top_back, f7.2.2.1, f7.2.2.2] at D7
  have fin : madeG B S g t l x (F.r 0) (F.r 1) (F.r 2) (F.r 3) = g7.back t [] [x, genOf (g.w l (oNd B S x 0))] := by
    rw [hg7, hg6, hg5, hg4, hg3, hg2, hg1]
    show _ = ((madeW B S g l x (F.r 0) (F.r 1) (F.r 2) (F.r 3)).back t [F.goto 1] _).back t [] _
    rw [back_back]; rfl
  rw [fin]
  refine .cons D0 (by rw [hthr]; simp) (by rw [hthr]; simp) ?_
  rw [← hg2] at T t1
  refine T.trans (b := 7) (.cons (g1 := g2.top t [] F2) D1 (by rw [t1]; simp) (by rw [t1]; simp) ?_)
  exact .cons D2 (by rw [top_thr]; simp) (by rw [top_thr]; simp) (.cons D3 (by rw [top_thr]; simp) (by rw [top_thr]; simp) (.cons D4 (by rw [top_thr]; simp) (by rw [top_thr]; simp) (.cons D5 (by rw [top_thr]; simp) (by rw [top_thr]; simp) (.cons D6 (by rw [top_thr]; simp) (by rw [top_thr]; simp) (.cons D7 (by rw [top_thr]; simp) (by rw [top_thr]; simp) rfl)))))
/-- Words that Mint doesn't touch. -/
theorem made_w (st key a b : Nat) (l' o : Nat) (h : ¬ (l' = l ∧ (o = 0 ∨ (oNd B S x 0 ≤ o ∧ o < oNd B S x 0 + 5)))) : (madeG B S g t l x st key a b).w l' o = g.w l' o := by
  show ((((((g.set l 0 _).set l _ key).set l _ a).set l _ b).set l _ 0).set l _ _).w l' o = _
  unfold oNd at h ⊢
  rw [set_w, if_neg (by omega), set_w, if_neg (by omega), set_w, if_neg (by omega), set_w, if_neg (by omega), set_w, if_neg (by omega), set_w, if_neg (by omega)]
theorem made_0 (st key a b : Nat) : (madeG B S g t l x st key a b).w l 0 = mkTop (g.w l (oLk B x)) (cnt (g.w l 0) + 1) := by
  show ((((((g.set l 0 _).set l _ key).set l _ a).set l _ b).set l _ 0).set l _ _).w l 0 = _
  unfold oNd
  rw [set_w, if_neg (by omega), set_w, if_neg (by omega), set_w, if_neg (by omega), set_w, if_neg (by omega), set_w, if_neg (by omega), set_w, if_pos ⟨rfl, rfl⟩]
theorem made_node (st key a b : Nat) : (madeG B S g t l x st key a b).w l (oNd B S x 0) = mkHead (genOf (g.w l (oNd B S x 0))) st ∧ (madeG B S g t l x st key a b).w l (oNd B S x 1) = 0 ∧ (madeG B S g t l x st key a b).w l (oNd B S x 2) = key ∧ (madeG B S g t l x st key a b).w l (oNd B S x 3) = a ∧ (madeG B S g t l x st key a b).w l (oNd B S x 4) = b := by
  refine ⟨?_, ?_, ?_, ?_, ?_⟩
  · show (GM.set _ l _ _).w l _ = _
    rw [set_w, if_pos ⟨rfl, rfl⟩]
  · show ((GM.set _ l _ 0).set l _ _).w l _ = _
    rw [set_w, if_neg (fun h => by have := h.2; unfold oNd at this; omega), set_w, if_pos ⟨rfl, rfl⟩]
  · show ((((GM.set _ l _ key).set l _ a).set l _ b).set l _ 0 |>.set l _ _).w l _ = _
    rw [set_w, if_neg (fun h => by have := h.2; unfold oNd at this; omega), set_w, if_neg (fun h => by have := h.2; unfold oNd at this; omega), set_w, if_neg (fun h => by have := h.2; unfold oNd at this; omega), set_w, if_neg (fun h => by have := h.2; unfold oNd at this; omega), set_w, if_pos ⟨rfl, rfl⟩]
  · show (((GM.set _ l _ a).set l _ b).set l _ 0 |>.set l _ _).w l _ = _
    rw [set_w, if_neg (fun h => by have := h.2; unfold oNd at this; omega), set_w, if_neg (fun h => by have := h.2; unfold oNd at this; omega), set_w, if_neg (fun h => by have := h.2; unfold oNd at this; omega), set_w, if_pos ⟨rfl, rfl⟩]
  · show ((GM.set _ l _ b).set l _ 0 |>.set l _ _).w l _ = _
    rw [set_w, if_neg (fun h => by have := h.2; unfold oNd at this; omega), set_w, if_neg (fun h => by have := h.2; unfold oNd at this; omega), set_w, if_pos ⟨rfl, rfl⟩]
theorem made_held (st key a b : Nat) (l' y : Nat) : (madeG B S g t l x st key a b).held l' y = if l' = l ∧ y = x then true else g.held l' y := hold_held (g := g.set l 0 _) l' y
theorem LvR.made (I : LvR S B m g l (x :: r)) (hm : m < 900000) (hS60 : S ≤ 60) {st key a b : Nat} : LvR S B (m + 1) (madeG B S g t l x st key a b) l r := by
  have J := I.take (t := t) (fs := []) hm hS60
  obtain ⟨hs, hx1, hc2⟩ := I.chain
  obtain ⟨_, hx2, hh⟩ := I.rng x List.mem_cons_self
  have hgm := (I.hd x hx1 hx2).2
  have e0 : (madeG B S g t l x st key a b).w l 0 = (takeG B S g t l [] x).w l 0 := by
    rw [made_0]
    show _ = (g.set l 0 _).w l 0
    rw [set_w, if_pos ⟨rfl, rfl⟩]
  have ew : ∀ o, o ≠ 0 → ¬ (oNd B S x 0 ≤ o ∧ o < oNd B S x 0 + 5) → (madeG B S g t l x st key a b).w l o = (takeG B S g t l [] x).w l o := fun o h0 h => by
    rw [made_w _ _ _ _ _ _ (by omega)]
    show _ = (g.set l 0 _).w l o
    rw [set_w, if_neg (fun h => h0 h.2)]
  have elk : ∀ i, 1 ≤ i → i ≤ S → (madeG B S g t l x st key a b).w l (oLk B i) = (takeG B S g t l [] x).w l (oLk B i) := fun i h1 h2 => ew _ (by unfold oLk; omega) (by unfold oLk oNd; omega)
  have ehd : ∀ y, (madeG B S g t l x st key a b).held l y = (takeG B S g t l [] x).held l y := fun y => by
    rw [made_held]
    exact (hold_held (g := g.set l 0 _) l y).symm
  refine ⟨by rw [e0]; exact chainP_congr _ _ J.chain fun y hy => elk y (J.rng y hy).1 (J.rng y hy).2.1, J.nodup, fun y hy => ⟨(J.rng y hy).1, (J.rng y hy).2.1, by rw [ehd]; exact (J.rng y hy).2.2⟩, by rw [e0]; exact J.top, by rw [e0]; exact J.cntN, fun i h1 h2 => by rw [elk i h1 h2]; exact J.lk i h1 h2, fun i h1 h2 => ?_⟩
  by_cases e : i = x
  · subst e
    rw [(made_node st key a b).1]
    exact ⟨head_lt _ _, by rw [gen_head (by omega)]; omega⟩
  · rw [ew _ (by unfold oNd; omega) (by unfold oNd; omega)]; exact J.hd i h1 h2
end
/-- Slots from one on. -/
def slotsFrom (a m : Nat) : List Nat := (List.range m).map (· + a)
theorem slotsFrom_succ (a m : Nat) : slotsFrom a (m + 1) = a :: slotsFrom (a + 1) m := by
  unfold slotsFrom
  rw [List.range_succ_eq_map, List.map_cons, List.map_map, Nat.zero_add]
  congr 1
  apply List.map_congr_left
  intro x _
  show x + 1 + a = x + (a + 1)
  omega
theorem chain_from (lk : Nat → Nat) (S : Nat) : ∀ (m a : Nat), 1 ≤ a → a + m = S + 1 → (∀ i, a ≤ i → i < S → lk i = i + 1) → lk S = 0 → chainP lk (if m = 0 then 0 else a) (slotsFrom a m)
  | 0, _, _, _, _, _ => rfl
  | m + 1, a, h1, he, hk, hz => by
    rw [slotsFrom_succ, if_neg (by omega)]
    refine ⟨rfl, h1, ?_⟩
    have ih := chain_from lk S m (a + 1) (by omega) (by omega) (fun i h2 h3 => hk i (by omega) h3) hz
    by_cases hm : m = 0
    · subst hm
      rw [if_pos rfl] at ih
      rw [show a = S by omega, hz]
      exact ih
    · rw [if_neg hm] at ih
      rw [hk a (Nat.le_refl _) (by omega)]
      exact ih
theorem w0_lk (B S i : Nat) (h1 : 1 ≤ i) (h2 : i ≤ S) : (w0 B S S (oLk B i)).toNat = if 2 ≤ i ∧ i < S then i + 1 else 0 := by
  unfold w0 oLk
  by_cases h : 2 ≤ i ∧ i < S
  · rw [if_neg (by omega), if_neg (by omega), if_neg (by omega), if_pos (by omega), if_pos h]; omega
  · rw [if_neg (by omega), if_neg (by omega), if_neg (by omega), if_neg (by omega), if_neg h]; rfl
theorem w0_nd (B S i : Nat) (h1 : 1 ≤ i) : (w0 B S S (oNd B S i 0)).toNat = if i = 1 then 1 else 0 := by
  unfold w0 oNd
  by_cases h : i = 1
  · rw [if_neg (by omega), if_neg (by omega), if_pos (by omega), if_pos h]; rfl
  · rw [if_neg (by omega), if_neg (by omega), if_neg (by omega), if_neg (by omega), if_neg h]; rfl
theorem w0_fld (B S i j : Nat) (h1 : 1 ≤ i) (h2 : 1 ≤ j) (h3 : j < 5) : (w0 B S S (oNd B S i j)).toNat = 0 := by
  unfold w0 oNd
  rw [if_neg (by omega), if_neg (by omega), if_neg (by omega), if_neg (by omega)]; rfl
theorem lvR_first {B S : Nat} (hS : 2 ≤ S) (l : Nat) : LvR S B 0 (gm0 B S) l (slotsFrom 2 (S - 1)) := by
  have ez : (gm0 B S).w l 0 = 2 := rfl
  refine ⟨?_, ?_, fun x hx => ?_, by rw [ez]; decide, by rw [ez]; decide, fun i h1 h2 => ?_, fun i h1 h2 => ?_⟩
  · rw [ez, show slOf 2 = 2 by decide]
    have := chain_from (fun i => (w0 B S S (oLk B i)).toNat) S (S - 1) 2 (by omega) (by omega) (fun i h1 h2 => by show (w0 B S S (oLk B i)).toNat = _; rw [w0_lk B S i (by omega) (by omega), if_pos ⟨h1, h2⟩]) (by show (w0 B S S (oLk B S)).toNat = _; rw [w0_lk B S S (by omega) (by omega), if_neg (by omega)])
    rw [if_neg (by omega)] at this
    exact this
  · exact List.Pairwise.map _ (fun a b hab e => hab (by omega)) (List.nodup_range (n := S - 1))
  · obtain ⟨y, hy, rfl⟩ := List.mem_map.1 hx
    have := List.mem_range.1 hy
    refine ⟨by omega, by omega, ?_⟩
    show (y + 2 == 1) = false
    simp
  · show (w0 B S S (oLk B i)).toNat ≤ S
    rw [w0_lk B S i h1 h2]
    split <;> omega
  · show (w0 B S S (oNd B S i 0)).toNat < _ ∧ genOf (w0 B S S (oNd B S i 0)).toNat ≤ 0
    rw [w0_nd B S i h1]
    split
    · exact ⟨by decide, by decide⟩
    · exact ⟨by decide, by decide⟩
end
section
open Go.RowKit
set_option linter.unusedVariables false
set_option linter.unusedSimpArgs false
theorem info_int : (Tryz.prog.info? 3).map (fun i => (i.zero, i.size, i.bytes)) = some (some (.int .i64 0), 1, 8) := by kernel_rfl
theorem Has.box2 {σ w : World} {M : Mm} (h : Has σ M w) (o o' : Obj) : ∃ M', Has σ M' ((w.alloc o).alloc o') ∧ M.le M' ∧ M' w.heap.size = some o ∧ M' (w.heap.size + 1) = some o' ∧ M w.heap.size = none ∧ M (w.heap.size + 1) = none := by
  have ez : (w.alloc o).heap.size = w.heap.size + 1 := by simp
  have h1 := h.alloc o
  have h2 := h1.alloc o'
  have hf := h1.fresh
  rw [ez] at h2 hf
  exact ⟨_, h2, Mm.le_trans (Mm.le_upd' h.fresh _) (Mm.le_upd' hf _), Mm.le_upd' hf _ _ _ (Mm.upd_same _ _ _), Mm.upd_same _ _ _, h.fresh, Mm.none_of (Mm.le_upd' h.fresh o) hf⟩
end
section
open Go.RowKit
set_option linter.unusedVariables false
set_option linter.unusedSimpArgs false
set_option linter.unnecessarySimpa false
theorem refFirst_eq {σ w : World} {M : Mm} (h : Has σ M w) (c : Nat → Int) {L B S : Nat} (hn : Nums c L B S) (k : Nat) (hk : k ≤ 4) : Calls Tryz.prog 109 #[confV c, .int .i64 (k : Nat)] w fun r w' => r = .returned (.int .i64 ((k * (18 + B + 6 * S) : Nat) : Int)) ∧ Has σ M w' := by
  have r11 : (ints .i64 14 c)[11]? = some (.int .i64 (B : Nat)) := by rw [← hn.lim]; rfl
  have r10 : (ints .i64 14 c)[10]? = some (.int .i64 (S : Nat)) := by rw [← hn.slo]; rfl
  have hb := hn.b0
  have hs := hn.s0
  have w1 : IntKind.i64.wrap (18 + (B : Int)) = 18 + (B : Int) := IntWalk.i64_in _ (by omega)
  have w2 : IntKind.i64.wrap (6 * (S : Int)) = 6 * (S : Int) := IntWalk.i64_in _ (by omega)
  have w3 : IntKind.i64.wrap (18 + (B : Int) + 6 * (S : Int)) = 18 + (B : Int) + 6 * (S : Int) := IntWalk.i64_in _ (by omega)
  have hm : k * (18 + B + 6 * S) ≤ 4 * (18 + 40 + 6 * 60) := Nat.mul_le_mul hk (by omega)
  have w4 : IntKind.i64.wrap ((k : Int) * (18 + (B : Int) + 6 * (S : Int))) = (k : Int) * (18 + (B : Int) + 6 * (S : Int)) := by
    have e : (k : Int) * (18 + (B : Int) + 6 * (S : Int)) = ((k * (18 + B + 6 * S) : Nat) : Int) := by push_cast; rfl
    rw [e]
    exact IntWalk.i64_in _ (by omega)
  have E : Hid (((k * (18 + B + 6 * S) : Nat) : Int) = (k : Int) * (18 + (B : Int) + 6 * (S : Int))) := by show _ = _; push_cast; rfl
  rw [E.out]
  clear hb hs hm hn hk E
  unfold confV
  generalize ints .i64 14 c = row at r11 r10
  go_enter Tryz.func109, Tryz.ntmps109
  go_upto_region 1 with (fail)
  obtain ⟨M1, hbx, hle, hbf, hnf⟩ := h.box (.cells row 24)
  generalize w.alloc _ = wx at hbx ⊢
  generalize w.heap.size = bf at hbf hnf ⊢
  clear h
  try clear w
  have h := hbx
  clear hbx
  obtain ⟨w, rfl⟩ : ∃ x : World, x = wx := ⟨_, rfl⟩
  go_wp2_with (first
    | (with_reducible show wpList _ _ _ ({ dst := _, op := Op.load 3 _, type := _, pos := _, after := _, guard := _ } :: _) _ _; refine wpList_load1_has h rfl 3 _ rfl rfl hbf r11 Tryz.underlying3 rfl ?_)
    | (with_reducible show wpList _ _ _ ({ dst := _, op := Op.load 3 _, type := _, pos := _, after := _, guard := _ } :: _) _ _; refine wpList_load1_has h rfl 3 _ rfl rfl hbf r10 Tryz.underlying3 rfl ?_))
  go_ret
  exact ⟨rfl, h.le hle⟩
end
section
open Go.RowKit
set_option linter.unusedVariables false
set_option linter.unusedSimpArgs false
set_option linter.unnecessarySimpa false
set_option maxRecDepth 20000 in
theorem refWord_eq {σ w : World} {M : Mm} (h : Has σ M w) (c : Nat → Int) {L B S : Nat} (hn : Nums c L B S) (k : Nat) (hk : k < L) (i j : Nat) (hi : 1 ≤ i) (hi2 : i ≤ S) (hj : j < 5) : Calls Tryz.prog 110 #[confV c, .int .i64 (k : Nat), .int .i64 (i : Nat), .int .i64 (j : Nat)] w fun r w' => r = .returned (.int .i64 (((k * (18 + B + 6 * S) + (18 + B + S + (i - 1) * 5 + j) : Nat)) : Int)) ∧ Has σ M w' := by
  have r11 : (ints .i64 14 c)[11]? = some (.int .i64 (B : Nat)) := by rw [← hn.lim]; rfl
  have r10 : (ints .i64 14 c)[10]? = some (.int .i64 (S : Nat)) := by rw [← hn.slo]; rfl
  have hb := hn.b0
  have hs := hn.s0
  have hl := hn.l0
  have hm : k * (18 + B + 6 * S) ≤ 4 * (18 + 40 + 6 * 60) := Nat.mul_le_mul (by omega) (by omega)
  have e : (k : Int) * (18 + (B : Int) + 6 * (S : Int)) = ((k * (18 + B + 6 * S) : Nat) : Int) := by push_cast; rfl
  obtain ⟨z, hz⟩ : ∃ z : Nat, k * (18 + B + 6 * S) = z := ⟨_, rfl⟩
  rw [hz] at e hm
  rw [hz]
  have w1 : IntKind.i64.wrap (18 + (B : Int)) = 18 + (B : Int) := IntWalk.i64_in _ (by omega)
  have w2 : IntKind.i64.wrap (6 * (S : Int)) = 6 * (S : Int) := IntWalk.i64_in _ (by omega)
  have w3 : IntKind.i64.wrap (18 + (B : Int) + 6 * (S : Int)) = 18 + (B : Int) + 6 * (S : Int) := IntWalk.i64_in _ (by omega)
  have w4 : IntKind.i64.wrap ((k : Int) * (18 + (B : Int) + 6 * (S : Int))) = (z : Int) := by rw [e]; exact IntWalk.i64_in _ (by omega)
  have w5 : IntKind.i64.wrap ((z : Int) + 18) = (z : Int) + 18 := IntWalk.i64_in _ (by omega)
  have w6 : IntKind.i64.wrap ((z : Int) + 18 + (B : Int)) = (z : Int) + 18 + (B : Int) := IntWalk.i64_in _ (by omega)
  have w7 : IntKind.i64.wrap ((z : Int) + 18 + (B : Int) + (S : Int)) = (z : Int) + 18 + (B : Int) + (S : Int) := IntWalk.i64_in _ (by omega)
  obtain ⟨y, hy⟩ : ∃ y : Nat, i = y + 1 := ⟨i - 1, by omega⟩
  subst hy
  have w8 : IntKind.i64.wrap (((y + 1 : Nat) : Int) - 1) = (y : Int) := by rw [show ((y + 1 : Nat) : Int) - 1 = y by omega]; exact IntWalk.i64_in _ (by omega)
  have w9 : IntKind.i64.wrap (5 * (y : Int)) = 5 * (y : Int) := IntWalk.i64_in _ (by omega)
  have w10 : IntKind.i64.wrap ((z : Int) + 18 + (B : Int) + (S : Int) + 5 * (y : Int)) = (z : Int) + 18 + (B : Int) + (S : Int) + 5 * (y : Int) := IntWalk.i64_in _ (by omega)
  have w11 : IntKind.i64.wrap ((z : Int) + 18 + (B : Int) + (S : Int) + 5 * (y : Int) + (j : Int)) = (z : Int) + 18 + (B : Int) + (S : Int) + 5 * (y : Int) + (j : Int) := IntWalk.i64_in _ (by omega)
  have E : Hid (((z + (18 + B + S + (y + 1 - 1) * 5 + j) : Nat) : Int) = (z : Int) + 18 + (B : Int) + (S : Int) + 5 * (y : Int) + (j : Int)) := Lib.hid (by omega)
  rw [E.out]
  clear hb hs hl hm hn hk E e hz hi hi2 hj
  unfold confV
  generalize ints .i64 14 c = row at r11 r10
  generalize ((y + 1 : Nat) : Int) = iz at *
  go_enter Tryz.func110, Tryz.ntmps110
  go_upto_region 1 with (fail)
  obtain ⟨M1, hbx, hle, hbf, hnf⟩ := h.box (.cells row 24)
  generalize w.alloc _ = wx at hbx ⊢
  generalize w.heap.size = bf at hbf hnf ⊢
  clear h
  try clear w
  have h := hbx
  clear hbx
  obtain ⟨w, rfl⟩ : ∃ x : World, x = wx := ⟨_, rfl⟩
  go_wp2_with (first
    | (with_reducible show wpList _ _ _ ({ dst := _, op := Op.load 3 _, type := _, pos := _, after := _, guard := _ } :: _) _ _; refine wpList_load1_has h rfl 3 _ rfl rfl hbf r11 Tryz.underlying3 rfl ?_)
    | (with_reducible show wpList _ _ _ ({ dst := _, op := Op.load 3 _, type := _, pos := _, after := _, guard := _ } :: _) _ _; refine wpList_load1_has h rfl 3 _ rfl rfl hbf r10 Tryz.underlying3 rfl ?_))
  go_ret
  exact ⟨rfl, h.le hle⟩
/-- A word of a row of words. -/
theorem word_at {f : Nat → Int} {N k : Nat} (hk : k < N) {v : Int} (hv : f k = v) : (ints .u64 N f)[k]? = some (.int .u64 v) := by rw [ints_get hk, hv]
end
section
open Go.RowKit
set_option linter.unusedVariables false
def levT (c : Nat → Int) (t : Nat) : Nat := (levelOf c t).toNat
theorem levT_of {c : Nat → Int} {L B S T : Nat} (hc : ConfMay c) (hn : Nums c L B S) (hT : c 1 = (T : Nat)) {t : Nat} (ht : t < T) : levelOf c (t : Nat) = (levT c t : Nat) ∧ levT c t < L := by
  obtain ⟨_, ⟨a3, a4⟩, _, a5, _⟩ := id hc
  have h8 := a5 t (by omega)
  have hl : levelOf c (t : Nat) = c (2 + t) := by
    unfold levelOf
    rw [if_pos ⟨decide_eq_true hc, by omega, by omega⟩, Int.toNat_natCast]
  have hlev := hn.lev
  unfold levT
  rw [hl]
  omega
theorem levT_out {c : Nat → Int} {T : Nat} (hT : c 1 = (T : Nat)) {t : Int} (ht : ¬ (0 ≤ t ∧ t < T)) : levelOf c t = -1 := by
  unfold levelOf
  exact if_neg fun g => ht ⟨g.2.1, by have := g.2.2; omega⟩
theorem lev_cell {c : Nat → Int} {L B S T : Nat} (hc : ConfMay c) (hn : Nums c L B S) (hT : c 1 = (T : Nat)) {y : Nat} (hy : y < T) : c (2 + y) = (levT c y : Nat) := by
  rw [← (levT_of hc hn hT hy).1]
  unfold levelOf
  rw [if_pos ⟨decide_eq_true hc, by omega, by omega⟩, Int.toNat_natCast]
end
section
open Go.RowKit
set_option linter.unusedVariables false
set_option linter.unusedSimpArgs false
set_option linter.unnecessarySimpa false
theorem zN : (Tryz.prog.info? 89).bind (·.zero) = some (.agg (ints .u64 5 fun _ => 0)) := by kernel_rfl
/-- A node's words. -/
def nodeN (B S : Nat) (g : GM) (l i : Nat) : Nat → Int := fun j => (g.w l (oNd B S i j) : Nat)
set_option maxHeartbeats 4000000 in
set_option maxRecDepth 20000 in
theorem refRead25_eq {σ w : World} {M : Mm} (h : Has σ M w) (c : Nat → Int) {L B S N bw l i : Nat} (hn : Nums c L B S) (hN : N = L * (18 + B + 6 * S)) {f v : Nat → Int} (hb : M bw = some (.cells (ints .u64 N f) 42)) (hl : l < L) (h1 : 1 ≤ i) (h2 : i ≤ S) (hv : ∀ j, j < 5 → f (l * (18 + B + 6 * S) + (18 + B + S + (i - 1) * 5 + j)) = v j) : Calls Tryz.prog 114 #[confV c, .slice (some ⟨bw, 0, none⟩) N N, .int .i64 (l : Nat), .int .i64 (i : Nat)] w fun r w' => r = .returned (.agg (ints .u64 5 v)) ∧ Has σ M w' := by
  have hl0 := hn.l0
  have hb0 := hn.b0
  have hs0 := hn.s0
  have FI : Hid (∀ (M' : Mm) (w : World), Has σ M' w → Calls Tryz.prog 109 #[confV c, .int .i64 (L : Nat)] w fun r w' => r = .returned (.int .i64 (N : Nat)) ∧ Has σ M' w') := Lib.hid (fun (M' : Mm) (w : World) (h : Has σ M' w) => by have := refFirst_eq h c hn L (by omega); rw [← hN] at this; exact this)
  have WO := Lib.hid (fun (M' : Mm) (w : World) (h : Has σ M' w) => refWord_eq h c hn l hl i 0 h1 h2 (by omega))
  have r0 : (ints .i64 14 c)[0]? = some (.int .i64 (L : Nat)) := by rw [← hn.lev]; rfl
  have r10 : (ints .i64 14 c)[10]? = some (.int .i64 (S : Nat)) := by rw [← hn.slo]; rfl
  have hN2 : N ≤ 4 * (18 + 40 + 6 * 60) := by subst hN; exact Nat.mul_le_mul (by omega) (by omega)
  have hlt : l * (18 + B + 6 * S) + (18 + B + 6 * S) ≤ N := by
    subst hN
    have := Nat.mul_le_mul_right (18 + B + 6 * S) (show l + 1 ≤ L by omega)
    rw [Nat.succ_mul] at this
    exact this
  obtain ⟨a, ha⟩ : ∃ a, l * (18 + B + 6 * S) + (18 + B + S + (i - 1) * 5 + 0) = a := ⟨_, rfl⟩
  rw [ha] at WO
  have haN : a + 5 ≤ N := by omega
  have fa : ∀ j, j < 5 → (ints .u64 N f)[a + j]? = some (.int .u64 (v j)) := fun j hj => by
    rw [ints_get (by omega), ← hv j hj, ← ha, Nat.add_zero, Nat.add_assoc]
  have g0 := fa 0 (by omega)
  have g1 := fa 1 (by omega)
  have g2 := fa 2 (by omega)
  have g3 := fa 3 (by omega)
  have g4 := fa 4 (by omega)
  rw [Nat.add_zero] at g0
  have gl : ¬ (l : Int) < 0 := by omega
  have gL : ¬ (L : Int) ≤ (l : Int) := by omega
  have gi : ¬ (i : Int) < 1 := by omega
  have gS : ¬ (S : Int) < (i : Int) := by omega
  have w1 : IntKind.i64.wrap ((a : Int) + 1) = ((a + 1 : Nat) : Int) := by rw [show (a : Int) + 1 = ((a + 1 : Nat) : Int) by omega]; exact IntWalk.i64_in _ (by omega)
  have w2 : IntKind.i64.wrap ((a : Int) + 2) = ((a + 2 : Nat) : Int) := by rw [show (a : Int) + 2 = ((a + 2 : Nat) : Int) by omega]; exact IntWalk.i64_in _ (by omega)
  have w3 : IntKind.i64.wrap ((a : Int) + 3) = ((a + 3 : Nat) : Int) := by rw [show (a : Int) + 3 = ((a + 3 : Nat) : Int) by omega]; exact IntWalk.i64_in _ (by omega)
  have w4 : IntKind.i64.wrap ((a : Int) + 4) = ((a + 4 : Nat) : Int) := by rw [show (a : Int) + 4 = ((a + 4 : Nat) : Int) by omega]; exact IntWalk.i64_in _ (by omega)
  have l0 : (a : Int) < (N : Int) := by omega
  have l1 : ((a + 1 : Nat) : Int) < (N : Int) := by omega
  have l2 : ((a + 2 : Nat) : Int) < (N : Int) := by omega
  have l3 : ((a + 3 : Nat) : Int) < (N : Int) := by omega
  have l4 : ((a + 4 : Nat) : Int) < (N : Int) := by omega
  have hx : (ints .i64 14 c).extract 0 (0 + 14) = ints .i64 14 c := rfl
  have hz : (ints .i64 14 c).size = 14 := rfl
  have VR : Hid ((#[.int .u64 (v 0), .int .u64 (v 1), .int .u64 (v 2), .int .u64 (v 3), .int .u64 (v 4)] : Array Value) = ints .u64 5 v) := rfl
  unfold confV at FI WO ⊢
  generalize ints .i64 14 c = row at *
  generalize hwr : ints .u64 N f = wrow at *
  generalize v 0 = v0 at *
  generalize v 1 = v1 at *
  generalize v 2 = v2 at *
  generalize v 3 = v3 at *
  generalize v 4 = v4 at *
  clear hwr hlt hN2 hN ha hn fa hv haN hl0 hb0 hs0
  generalize a + 1 = a1 at *
  generalize a + 2 = a2 at *
  generalize a + 3 = a3 at *
  generalize a + 4 = a4 at *
  go_enter Tryz.func114, Tryz.ntmps114
  go_upto_region 1 with (first
    | ((with_reducible show wpList _ _ _ ({ dst := _, op := Op.box 24 _, type := _, pos := _, after := _, guard := _ } :: _) _ _); refine wpList_box_has h rfl 24 _ rfl ?_; clear h; intro bf w h hnf; try simp only [Act.put, List.setIfInBounds_toArray, List.set_cons_zero, List.set_cons_succ])
    | ((with_reducible show wpList _ _ _ ({ dst := _, op := Op.alloc 89, type := _, pos := _, after := _, guard := _ } :: _) _ _); refine wpList_alloc_has h rfl 89 rfl _ zN ?_; clear h; intro b6 w h hn6; try simp only [Act.put, List.setIfInBounds_toArray, List.set_cons_zero, List.set_cons_succ]))
  have hle1 : M.le ((M.upd bf (.cells row 24)).upd b6 (.cells (ints .u64 5 fun _ => 0) 89)) := Mm.le_trans (Mm.le_upd' hnf _) (Mm.le_upd' hn6 _)
  have hbf : ((M.upd bf (.cells row 24)).upd b6 (.cells (ints .u64 5 fun _ => 0) 89)) bf = some (.cells row 24) := Mm.upd_of hn6 (Mm.upd_same _ _ _)
  have hb6 : ((M.upd bf (.cells row 24)).upd b6 (.cells (ints .u64 5 fun _ => 0) 89)) b6 = some (.cells (ints .u64 5 fun _ => 0) 89) := Mm.upd_same _ _ _
  have hn0 : M b6 = none := Mm.none_of (Mm.le_upd' hnf _) hn6
  replace h : Has σ ((M.upd bf (.cells row 24)).upd b6 (.cells (ints .u64 5 fun _ => 0) 89)) w := h
  generalize (M.upd bf (.cells row 24)).upd b6 _ = M2 at h hle1 hbf hb6
  have hbw := hle1 _ _ hb
  go_upto_region 4 with (first
    | (with_reducible show wpList _ _ _ ({ dst := _, op := Op.load 3 _, type := _, pos := _, after := _, guard := _ } :: _) _ _; refine wpList_load1_has h rfl 3 _ rfl rfl hbf r0 Tryz.underlying3 rfl ?_)
    | (with_reducible show wpList _ _ _ ({ dst := _, op := Op.load 3 _, type := _, pos := _, after := _, guard := _ } :: _) _ _; refine wpList_load1_has h rfl 3 _ rfl rfl hbf r10 Tryz.underlying3 rfl ?_)
    | ((with_reducible show wpList _ _ _ ({ dst := _, op := Op.load 24 _, type := _, pos := _, after := _, guard := _ } :: _) _ _); refine wpList_agg_has h rfl 24 _ rfl rfl hbf hx hz Tryz.underlying24 rfl (by kernel_rfl) ?_; try simp only [Act.put, List.setIfInBounds_toArray, List.set_cons_zero, List.set_cons_succ])
    | (go_at_call 109; refine (FI.out _ _ h).mono ?_; clear h; rintro _ w ⟨rfl, h⟩)
    | (go_at_call 110; refine (WO.out _ _ h).mono ?_; clear h; rintro _ w ⟨rfl, h⟩))
  refine wp_region_head (Has σ M2) 25 (by kernel_rfl) (by kernel_rfl) (fun _ _ _ _ _ h => h) h.drew ?_
  clear h
  simp only [List.take_succ_cons, List.take_zero, List.drop_succ_cons, List.drop_zero]
  repeat (first
    | go_big_quiet_skip
    | (go_big_quiet_want; first
      | (refine quiet_load_has 42 _ rfl rfl hbw g0 Tryz.underlying42 rfl ?_; simp only [Act.put, List.setIfInBounds_toArray, List.set_cons_zero, List.set_cons_succ]; go_big_quiet_on)
      | (refine quiet_load_has 42 _ rfl rfl hbw g1 Tryz.underlying42 rfl ?_; simp only [Act.put, List.setIfInBounds_toArray, List.set_cons_zero, List.set_cons_succ]; go_big_quiet_on)
      | (refine quiet_load_has 42 _ rfl rfl hbw g2 Tryz.underlying42 rfl ?_; simp only [Act.put, List.setIfInBounds_toArray, List.set_cons_zero, List.set_cons_succ]; go_big_quiet_on)
      | (refine quiet_load_has 42 _ rfl rfl hbw g3 Tryz.underlying42 rfl ?_; simp only [Act.put, List.setIfInBounds_toArray, List.set_cons_zero, List.set_cons_succ]; go_big_quiet_on)
      | (refine quiet_load_has 42 _ rfl rfl hbw g4 Tryz.underlying42 rfl ?_; simp only [Act.put, List.setIfInBounds_toArray, List.set_cons_zero, List.set_cons_succ]; go_big_quiet_on)
      | (go_big_quiet_op; first | go_big_quiet_on | go_big_quiet_call (first | with_reducible exact fun _ => rfl))))
  refine wpQuiet_nil ?_
  try clear w
  intro w h
  go_wp2_with (first
    | ((with_reducible show wpList _ _ _ ({ dst := _, op := Op.store 89 _ _, type := _, pos := _, after := _, guard := _ } :: _) _ _); (refine wpList_storeAll_has (cells := #[.int .u64 v0, .int .u64 v1, .int .u64 v2, .int .u64 v3, .int .u64 v4]) h rfl 89 _ _ rfl rfl rfl hb6 rfl rfl rfl (by kernel_rfl) rfl ?_); clear h; intro w h))
  rw [← VR.out]
  exact bodyPost_ret (results_cell_row rfl _ _ _ _ _ _ _ rfl (h.at_ b6 _ (Mm.upd_same _ _ _)) Tryz.underlying89 rfl (by kernel_rfl)) rfl ⟨rfl, h.le (Mm.le_upd hle1 hn0 _)⟩
set_option maxHeartbeats 4000000 in
set_option maxRecDepth 20000 in
theorem node25_eq {σ w : World} {M : Mm} {lab : Nat → Nat} {p n l i L B S : Nat} {s : MachS} {c : Nat → Int} {tp : List Nat} {g : GM} (h : Has σ M w) (hM : Mach M lab p s) (hA : AbsM c tp n s g) (hn : Nums c L B S) (hl : l < L) (h1 : 1 ≤ i) (h2 : i ≤ S) : Calls Tryz.prog 81 #[.pointer (some ⟨p, 0, none⟩), .int .i64 (l : Nat), .int .i64 (i : Nat)] w fun r w' => r = .returned (.agg (ints .u64 5 (nodeN B S g l i))) ∧ Has σ M w' := by
  obtain rfl := hA.cc
  have hl0 := hn.l0
  have hb0 := hn.b0
  have hs0 := hn.s0
  have hN1 : s.mem.N = L * (18 + B + 6 * S) := by
    have h1 := hM.memN
    rw [hn.lev, hn.sz, ← Int.natCast_mul] at h1
    exact Int.ofNat_inj.1 h1
  have hN2 : L * (18 + B + 6 * S) ≤ 4 * (18 + 40 + 6 * 60) := Nat.mul_le_mul (by omega) (by omega)
  have PL := Lib.hid (fun (M' : Mm) (hle : M.le M') (w : World) (h : Has σ M' w) => mPlan_eq h (hM.keep (Kp.le hle fun _ => 0) fun _ _ h => h))
  have CF := Lib.hid (fun (M' : Mm) (hle : M.le M') (w : World) (h : Has σ M' w) => conf_has h s.c (hM.keep (Kp.le hle fun _ => 0) fun _ _ h => h).plan)
  have ME := Lib.hid (fun (M' : Mm) (hle : M.le M') (w : World) (h : Has σ M' w) => mMem_eq h (hM.keep (Kp.le hle fun _ => 0) fun _ _ h => h))
  have WO := Lib.hid (fun (M' : Mm) (hle : M.le M') (w : World) (h : Has σ M' w) => memWords_eq h (hM.keep (Kp.le hle fun _ => 0) fun _ _ h => h).mem (by omega))
  have RD : Hid (∀ (M' : Mm) (w : World) (bw : Nat), Has σ M' w → M' bw = some (.cells (ints .u64 s.mem.N s.mem.f) 42) → Calls Tryz.prog 114 #[.agg (ints .i64 14 s.c), .slice (some ⟨bw, 0, none⟩) s.mem.N s.mem.N, .int .i64 (l : Nat), .int .i64 (i : Nat)] w fun r w' => r = .returned (.agg (ints .u64 5 (nodeN B S g l i))) ∧ Has σ M' w') := Lib.hid fun M' w bw h hb =>
    refRead25_eq h s.c hn hN1 hb hl h1 h2 fun j hj => by
      have := hA.words l (oNd B S i j) (by rw [hn.lev]; omega) (by rw [hn.sz]; unfold oNd; omega)
      rw [hn.sz, Int.toNat_natCast] at this
      exact this
  clear hA hn hM hN1 hN2 hl hl0 hb0 hs0 h1 h2
  have eR : s.mem.row = .cells (ints .u64 s.mem.N s.mem.f) 42 := rfl
  rw [eR] at WO
  clear eR
  have d1 : (ints .u64 5 (nodeN B S g l i)).toList.all (·.oneCell') = true := rfl
  have dz : (ints .u64 5 (nodeN B S g l i)).size = 5 := ints_size _ _ _
  have dzz : (ints .u64 5 fun _ => (0 : Int)).size = 5 := ints_size _ _ _
  generalize ints .u64 5 (nodeN B S g l i) = erow at *
  generalize ints .i64 14 s.c = row at *
  generalize ints .u64 s.mem.N s.mem.f = wrow at *
  generalize s.mem.N = N at *
  go_enter Tryz.func81, Tryz.ntmps81
  go_upto_region 1 with (first
    | ((with_reducible show wpList _ _ _ ({ dst := _, op := Op.alloc 89, type := _, pos := _, after := _, guard := _ } :: _) _ _); refine wpList_alloc_has h rfl 89 rfl _ zN ?_; clear h; intro b4 w h hn4; try simp only [Act.put, List.setIfInBounds_toArray, List.set_cons_zero, List.set_cons_succ]))
  have hle := Mm.le_upd' hn4 (.cells (ints .u64 5 fun _ => 0) 89)
  have hb4 := Mm.upd_same M b4 (.cells (ints .u64 5 fun _ => 0) 89)
  replace h : Has σ (M.upd b4 (.cells (ints .u64 5 fun _ => 0) 89)) w := h
  generalize M.upd b4 _ = M1 at h hle hb4
  have PL1 := Lib.hid (PL.out M1 hle)
  have CF1 := Lib.hid (CF.out M1 hle)
  have ME1 := Lib.hid (ME.out M1 hle)
  have WO1 := Lib.hid (WO.out M1 hle)
  clear PL CF ME WO
  go_wp2_with (first
    | (go_at_call 57; refine (PL1.out _ h).mono ?_; clear h; rintro _ w ⟨rfl, h⟩)
    | (go_at_call 58; refine (CF1.out _ h).mono ?_; clear h; rintro _ w ⟨rfl, h⟩)
    | (go_at_call 46; refine (ME1.out _ h).mono ?_; clear h; rintro _ w ⟨rfl, h⟩)
    | ((go_at_call 47; refine (WO1.out _ h).mono ?_; clear h; rintro _ w ⟨bw, M3, rfl, h, hle3, hnw, hbw⟩; have hb43 := hle3 _ _ hb4))
    | ((go_at_call 114; refine (RD.out M3 _ bw h hbw).mono ?_; clear h; rintro _ w ⟨rfl, h⟩))
    | ((with_reducible show wpList _ _ _ ({ dst := _, op := Op.store 89 _ _, type := _, pos := _, after := _, guard := _ } :: _) _ _); (refine wpList_storeAll_has (cells := erow) h rfl 89 _ _ rfl rfl rfl hb43 rfl dzz dz (by kernel_rfl) d1 ?_); clear h; intro w h))
  exact bodyPost_ret (results_cell_row rfl _ _ _ _ _ _ _ rfl (h.at_ b4 _ (Mm.upd_same _ _ _)) Tryz.underlying89 rfl (by rw [dz]; kernel_rfl)) rfl ⟨rfl, h.le (Mm.le_upd (Mm.le_trans hle hle3) hn4 _)⟩
/-- What Mint makes, of any free list. -/
def mintR (B S : Nat) (g : GM) (t l : Nat) (Ls us : List Nat) : GM := match Ls with | [] => g.back t [] [0] | x :: _ => madeG B S g t l x (us.getD 0 0) (us.getD 1 0) (us.getD 2 0) (us.getD 3 0)
/-- Mint alone. -/
theorem mint_alone {σ w : World} {K M : Mm} {lab : Nat → Nat} {p t q n L B S T m : Nat} {s : MachS} {c : Nat → Int} {tp : List Nat} {g : GM} (h : Has σ M w) (hM : Mach M lab p s) (hB : Base K M lab) (hA : AbsM c tp n s g) (hc : ConfMay c) (hn : Nums c L B S) (hT : c 1 = (T : Nat)) (hn8 : n < 80000) (hm : m < 900000) (ht : t < T) (hq : tp[t]? = some q) (hi : g.thr t = []) {Ls : List Nat} (I : LvR S B m g (levT c t) Ls) {us : List Nat} {rv : Value} (hr : Rd M 1 rv us.length (u64s (us.map fun u : Nat => (u : Int)))) (hu : us.length ≤ 16) (hst : us.getD 0 0 < 256) {most : Nat} (h12 : 12 ≤ most) (hmo : most < 1000) :
    Calls Tryz.prog 14 #[.pointer (some ⟨p, 0, none⟩), .int .i64 (t : Nat), (.func (.func 41) #[] #[]), .int .i64 (most : Nat), .int .i64 (30 : Nat), rv] w fun r w' => ∃ k : Nat, r = .returned (.int .i64 (k : Nat)) ∧ 0 < k ∧ k ≤ 12 ∧ ∃ M' lab' s', Has σ M' w' ∧ Mach M' lab' p s' ∧ Base K M' lab' ∧ AbsM c tp (n + k) s' (mintR B S g t (levT c t) Ls us) := by
  obtain ⟨elv, ll⟩ := levT_of hc hn hT ht
  have ht1 : (t : Int) < c 1 := by rw [hT]; omega
  have hlc : (levT c t : Int) < c 0 := by rw [hn.lev]; omega
  have hs60 := hn.s0.2
  cases Ls with
  | nil =>
    have S1 := steps_mint_no (σ := σ) (p := p) (n := n) (g := g.top t [] ⟨30, 0, fun i => us.getD i 0⟩) (F := ⟨30, 0, fun i => us.getD i 0⟩) hn8 ht1 hq elv hlc top_thr hn.lim hn.slo hs60 hm (I.atop [] _) rfl rfl rfl
    rw [top_back] at S1
    refine (S1.alone h hM hB hA (by omega) ht1 hq elv hi hr hu back_thr' (by omega) (by omega) hmo (by kernel_rfl)).mono fun r w' ⟨hr, a⟩ => ⟨4, hr, by omega, by omega, a⟩
  | cons x r =>
    have S1 := steps_mint (σ := σ) (p := p) (n := n) (g := g.top t [] ⟨30, 0, fun i => us.getD i 0⟩) (F := ⟨30, 0, fun i => us.getD i 0⟩) hn8 ht1 hq elv hlc top_thr hn.lim hn.slo hs60 hm (I.atop [] _) rfl rfl hst rfl
    refine (S1.alone h hM hB hA (by omega) ht1 hq elv hi hr hu back_thr' (by omega) h12 hmo (by kernel_rfl)).mono fun r w' ⟨hr, M', lab', s', a1, a2, a3, a4⟩ => ⟨12, hr, by omega, by omega, M', lab', s', a1, a2, a3, ?_⟩
    have e : madeG B S (g.top t [] ⟨30, 0, fun i => us.getD i 0⟩) t (levT c t) x (us.getD 0 0) (us.getD 1 0) (us.getD 2 0) (us.getD 3 0) = madeG B S g t (levT c t) x (us.getD 0 0) (us.getD 1 0) (us.getD 2 0) (us.getD 3 0) := by
      unfold madeG madeW
      have e : ∀ o, (g.top t [] ⟨30, 0, fun i => us.getD i 0⟩).w (levT c t) o = g.w (levT c t) o := fun _ => rfl
      rw [e, e, e, top_set, top_hold, top_set, top_set, top_set, top_set, top_set, top_back]
    show AbsM c tp (n + 12) s' (madeG B S g t (levT c t) x (us.getD 0 0) (us.getD 1 0) (us.getD 2 0) (us.getD 3 0))
    rw [← e]; exact a4
/-- What a thread was told last. -/
theorem m_told {M : Mm} {lab : Nat → Nat} {p t q n : Nat} {s : MachS} {c : Nat → Int} {tp : List Nat} {g : GM} (hM : Mach M lab p s) (hA : AbsM c tp n s g) (hq : tp[t]? = some q) : ∃ row ty, M q = some (.cells row ty (0, 0)) ∧ row[0]? = some (.int .u64 (g.told t 0 : Nat)) ∧ row[1]? = some (.int .u64 (g.told t 1 : Nat)) := by
  obtain ⟨fv, hv, fbs, hTh⟩ := hM.each t q (by rw [hA.ttp]; exact hq)
  refine ⟨_, _, hTh.obj, ?_, ?_⟩
  · show some (Value.int .u64 ((s.thr t).told 0)) = _
    rw [hA.thr.told t 0]
  · show some (Value.int .u64 ((s.thr t).told 1)) = _
    rw [hA.thr.told t 1]
theorem nodup_lt {m : Nat} {l : List Nat} (h : l.Nodup) (hl : ∀ x ∈ l, x < m) : l.length ≤ m := by
  have e : l.length = ((List.range m).filter fun x => decide (x ∈ l)).length := List.Perm.length_eq ((List.perm_ext_iff_of_nodup h (List.Nodup.sublist List.filter_sublist List.nodup_range)).2 fun x => by
    rw [List.mem_filter, List.mem_range, decide_eq_true_eq]
    exact ⟨fun hx => ⟨hl x hx, hx⟩, fun hx => hx.2⟩)
  rw [e]
  exact Nat.le_trans (List.length_filter_le _ _) (by simp)
theorem held_eq {σ w : World} {M : Mm} {lab : Nat → Nat} {p n l L B S : Nat} {s : MachS} {c : Nat → Int} {tp : List Nat} {g : GM} (h : Has σ M w) (hM : Mach M lab p s) (hA : AbsM c tp n s g) (hn : Nums c L B S) (hl : l < L) : Calls Tryz.prog 27 #[.pointer (some ⟨s.wp, 0, none⟩), .int .i64 (l : Nat)] w fun r w' => r = .returned (.int .i64 (nHeld (g.held l) S : Nat)) ∧ Has σ M w' := by
  have e := allE_held (held := g.held l) (l := l) (S := S) hA.ward.keys hA.ward.once hn.slo (by rw [hn.lev]; omega) (fun i h1 h2 => hA.ward.held l i (by rw [hn.lev]; omega) h1 h2)
  have hlen : s.ward.held.length ≤ 1000 := by
    have hk := hA.ward.keys
    have ho := hA.ward.once
    have hl0 := hn.l0
    have hs0 := hn.s0
    rw [hn.lev, hn.slo] at hk
    have hsub : (s.ward.held.map fun x => (x.l.toNat * 64 + x.s.toNat)).Nodup := by
      unfold OnceE at ho
      rw [List.nodup_iff_pairwise_ne, List.pairwise_map] at ho ⊢
      refine List.Pairwise.imp_of_mem (fun {a b} ha hb hab e => hab ?_) ho
      have ka := hk a ha
      have kb := hk b hb
      exact Prod.ext (by show a.l = b.l; omega) (by show a.s = b.s; omega)
    have hle := nodup_lt hsub (m := 320) (fun y hy => by
      obtain ⟨x, hx, rfl⟩ := List.mem_map.1 hy
      have := hk x hx
      omega)
    rw [List.length_map] at hle
    omega
  rw [← e]
  exact wardHeld_eq h hM.ward (l : Nat) hA.ward.hst.2 hA.ward.hst.1 hlen
end
section
open Go.RowKit
set_option linter.unusedVariables false
set_option linter.unusedSimpArgs false
set_option linter.unnecessarySimpa false
def nKs : List Kd := List.replicate 5 (some (some .u64))
theorem fits_n (Y : Nat → Int) : fits nKs (ints .u64 5 Y).toList := ⟨rfl, rfl, rfl, rfl, rfl, trivial⟩
theorem sames_n (Y : Nat → Int) : sames (ints .u64 5 Y).toList (ints .u64 5 Y).toList = true := by
  show ((Y 0 == Y 0) && ((Y 1 == Y 1) && ((Y 2 == Y 2) && ((Y 3 == Y 3) && ((Y 4 == Y 4) && true))))) = true
  simp
def exM : Nat → Int := fun i => if i = 0 then 1 else if i = 1 then 1 else if i = 10 then 3 else if i = 11 then 1 else if i = 12 then 9 else 0
theorem exM_may : ConfMay exM := by decide
theorem exM_nums : Nums exM 1 1 3 := ⟨rfl, rfl, rfl, by omega, by omega, by omega⟩
theorem exM_lev : levT exM 0 = 0 := by decide
def exMN : Nat → Int := fun j => if j = 0 then 2 else if j = 2 then 5 else if j = 3 then 1 else if j = 4 then 2 else 0
theorem exM_node : ints .u64 5 (nodeN 1 3 (madeG 1 3 (gm0 1 3) 0 0 2 2 5 1 2) 0 2) = ints .u64 5 exMN := by
  obtain ⟨e0, e1, e2, e3, e4⟩ := made_node (B := 1) (S := 3) (g := gm0 1 3) (t := 0) (l := 0) (x := 2) 2 5 1 2
  refine ints_congr fun j hj => ?_
  unfold nodeN exMN
  rcases (show j = 0 ∨ j = 1 ∨ j = 2 ∨ j = 3 ∨ j = 4 by omega) with e | e | e | e | e
  · subst e; rw [e0]; decide
  · subst e; rw [e1]; rfl
  · subst e; rw [e2]; rfl
  · subst e; rw [e3]; rfl
  · subst e; rw [e4]; rfl
set_option maxHeartbeats 4000000 in
set_option maxRecDepth 20000 in
theorem mi_lives {σ w : World} {M : Mm} (h : Has σ M w) : Calls Tryz.prog 38 #[] w fun r w' => r = .returned (.bool true) ∧ Has σ M w' := by
  have NW := Lib.hid (fun (w : World) (h : Has σ M w) => mNew_yes h exM exM_may exM_nums)
  have EC : confV exM = .agg #[.int .i64 1, .int .i64 1, .int .i64 0, .int .i64 0, .int .i64 0, .int .i64 0, .int .i64 0, .int .i64 0, .int .i64 0, .int .i64 0, .int .i64 3, .int .i64 1, .int .i64 9, .int .i64 0] := rfl
  rw [EC] at NW
  clear EC
  go_enter Tryz.func38, Tryz.ntmps38
  go_upto_region 2 with (first
    | (go_at_call 9; refine (NW.out _ h).mono ?_; clear h; rintro _ w ⟨p, M1, lab1, s1, rfl, h, hB1, hM1, hN⟩))
  clear NW
  obtain ⟨q, hq0⟩ : ∃ q, s1.tp[0]? = some q := ⟨_, List.getElem?_eq_getElem (by have := hM1.tlen; rw [hN.c] at this; have h2 : exM 1 = 1 := rfl; omega)⟩
  have hA1 := absM_first exM_nums exM_may hN hM1.wsz
  generalize s1.tp = tp at hA1 hq0
  have HQ := Lib.hid hq0
  have HM1 := Lib.hid hM1
  have HB1 := Lib.hid hB1
  have HA1 := Lib.hid hA1
  clear hN hq0 hA1 hM1 hB1
  go_wp2_with (fail)
  obtain ⟨M2, hbx, hle2, hbl, hnl⟩ := h.box (.cells #[.int .u64 2, .int .u64 5, .int .u64 1, .int .u64 2] 42)
  generalize w.alloc _ = wx at hbx ⊢
  generalize w.heap.size = bl at hbl hnl ⊢
  clear h
  try clear w
  have h := hbx
  clear hbx
  obtain ⟨w, rfl⟩ : ∃ x : World, x = wx := ⟨_, rfl⟩
  have P1 : Hid (∀ w : World, Has σ M2 w → Calls Tryz.prog 14 #[.pointer (some ⟨p, 0, none⟩), .int .i64 0, (.func (.func 41) #[] #[]), .int .i64 12, .int .i64 30, .slice (some ⟨bl, 0, none⟩) 4 4] w fun r w' => ∃ k : Nat, r = .returned (.int .i64 (k : Nat)) ∧ 0 < k ∧ k ≤ 12 ∧ ∃ M' lab' s', Has σ M' w' ∧ Mach M' lab' p s' ∧ Base M M' lab' ∧ AbsM exM tp (0 + k) s' (madeG 1 3 (gm0 1 3) 0 0 2 2 5 1 2)) := Lib.hid fun w h => by
    have hrd : Rd M2 1 (.slice (some ⟨bl, 0, none⟩) 4 4) 4 (u64s [2, 5, 1, 2]) := ⟨rfl, _, _, rfl, Nat.le_refl _, fun _ => ⟨bl, 0, _, _, _, rfl, hbl, fun j u hu => by simpa [u64s] using hu⟩⟩
    have := mint_alone (t := 0) (n := 0) (m := 0) (B := 1) (S := 3) (L := 1) (T := 1) h (HM1.out.keep (Kp.le hle2 fun _ => 0) fun _ _ h => h) (HB1.out.keep (Kp.le hle2 fun _ => 0) fun h => h) HA1.out exM_may exM_nums rfl (by omega) (by omega) (by omega) HQ.out rfl (lvR_first (B := 1) (S := 3) (by omega) _) (us := [2, 5, 1, 2]) hrd (by decide) (by decide) (most := 12) (by omega) (by omega)
    rw [exM_lev] at this
    exact this
  clear hbl hle2 hnl
  go_at_call 14
  refine (P1.out _ h).mono ?_
  clear h P1
  rintro _ w ⟨k, rfl, hk0, hk, M3, lab3, s3, h, hM, hB, hA⟩
  obtain ⟨row, ty, hqb, d0, d1⟩ := m_told hM hA HQ.out
  have TH : Hid (∀ w : World, Has σ M3 w → Calls Tryz.prog 13 #[.pointer (some ⟨p, 0, none⟩), .int .i64 0] w fun r w' => r = .returned (.pointer (some ⟨q, 0, none⟩)) ∧ Has σ M3 w') := Lib.hid fun w h => mThread_yes (t := 0) h hM (by rw [hA.ttp]; exact HQ.out)
  replace d0 : row[0]? = some (.int .u64 2) := d0
  replace d1 : row[1]? = some (.int .u64 0) := d1
  have ND : Hid (∀ w : World, Has σ M3 w → Calls Tryz.prog 81 #[.pointer (some ⟨p, 0, none⟩), .int .i64 0, .int .i64 2] w fun r w' => r = .returned (.agg (ints .u64 5 exMN)) ∧ Has σ M3 w') := Lib.hid fun w h => by
    have := node25_eq (l := 0) (i := 2) h hM hA exM_nums (by omega) (by omega) (by omega)
    rw [exM_node] at this
    exact this
  have gl : (0 : Int) < (k : Int) := by omega
  have hle := hB.le
  clear hM hB hA hk0 hk HM1 HB1 HA1
  go_wp2_with (first
    | (go_at_call 13; refine (TH.out _ h).mono ?_; clear h; rintro _ w ⟨rfl, h⟩)
    | (with_reducible show wpList _ _ _ ({ dst := _, op := Op.load 42 _, type := _, pos := _, after := _, guard := _ } :: _) _ _; refine wpList_load1_has h rfl 42 _ rfl rfl hqb d0 Tryz.underlying42 rfl ?_)
    | (with_reducible show wpList _ _ _ ({ dst := _, op := Op.load 42 _, type := _, pos := _, after := _, guard := _ } :: _) _ _; refine wpList_load1_has h rfl 42 _ rfl rfl hqb d1 Tryz.underlying42 rfl ?_)
    | (go_at_call 81; refine (ND.out _ h).mono ?_; clear h; rintro _ w ⟨rfl, h⟩)
    | ((with_reducible show wpList _ _ _ ({ dst := _, op := Op.binOp BinOp.eql 89 _ _ _, type := _, pos := _, after := _, guard := _ } :: _) _ _); (refine wpList_eql_flat rfl 89 _ _ _ rfl (xs := ints .u64 5 exMN) (ys := ints .u64 5 exMN) rfl rfl 10 (by omega) (ks := nKs) (by kernel_rfl) rfl (by kernel_rfl) Tryz.underlying89 rfl (by kernel_rfl) (fits_n _) (fits_n _) ?_); rw [sames_n]; try simp only [Act.put, List.setIfInBounds_toArray, List.set_cons_zero, List.set_cons_succ]))
  go_ret
  exact ⟨rfl, h.le hle⟩
end
section
open Go.RowKit
set_option linter.unusedVariables false
set_option linter.unusedSimpArgs false
set_option linter.unnecessarySimpa false
def zeroC : Nat → Int := fun _ => 0
theorem zeroC_may : confMayB zeroC = false := by kernel_rfl
theorem zeroC_level (t : Int) : levelOf zeroC t = -1 := by
  unfold levelOf
  rw [if_neg (fun h => by rw [zeroC_may] at h; cases h.1)]
section
variable {σ w : World} {M : Mm}
theorem nPlan_eq (h : Has σ M w) : Calls Tryz.prog 57 #[.pointer none] w fun r w' => r = .returned (.pointer none) ∧ Has σ M w' := by
  go_enter Tryz.func57, Tryz.ntmps57
  go_wp2
  go_ret
  exact ⟨rfl, h⟩
theorem nConf_eq (h : Has σ M w) : Calls Tryz.prog 58 #[.pointer none] w fun r w' => r = .returned (confV zeroC) ∧ Has σ M w' := by
  go_enter Tryz.func58, Tryz.ntmps58
  go_upto_region 1 with (fail)
  obtain ⟨M4, hbx, hle4, hb4, hn4⟩ := h.box (.cells #[.int .i64 0, .int .i64 0, .int .i64 0, .int .i64 0, .int .i64 0, .int .i64 0, .int .i64 0, .int .i64 0, .int .i64 0, .int .i64 0, .int .i64 0, .int .i64 0, .int .i64 0, .int .i64 0] 24)
  generalize w.alloc _ = wx at hbx ⊢
  generalize w.heap.size = b4 at hb4 hn4 ⊢
  clear h
  try clear w
  have h := hbx
  clear hbx
  obtain ⟨w, rfl⟩ : ∃ x : World, x = wx := ⟨_, rfl⟩
  have hz : (ints .i64 14 zeroC).size = 14 := rfl
  go_wp2_with (first
    | (refine wpList_storeAll_has (cells := ints .i64 14 zeroC) h rfl 24 _ _ rfl rfl rfl hb4 rfl rfl rfl (by kernel_rfl) rfl ?_; clear h; intro w h))
  exact bodyPost_ret (results_cell_row rfl _ _ _ _ _ _ _ rfl (h.at_ b4 _ (Mm.upd_same _ _ _)) Tryz.underlying24 rfl (by rw [hz]; kernel_rfl)) rfl ⟨rfl, h.le (Mm.le_upd hle4 hn4 _)⟩
theorem nLevel_eq (h : Has σ M w) (t : Int) : Calls Tryz.prog 12 #[.pointer none, .int .i64 t] w fun r w' => r = .returned (.int .i64 (-1)) ∧ Has σ M w' := by
  have P1 := Lib.hid (fun (w : World) (h : Has σ M w) => nPlan_eq h)
  have P2 := Lib.hid (fun (w : World) (h : Has σ M w) => nConf_eq h)
  have P3 := Lib.hid (fun (w : World) (h : Has σ M w) => level_has h zeroC t)
  rw [zeroC_level] at P3
  generalize confV zeroC = cz at P2 P3
  go_enter Tryz.func12, Tryz.ntmps12
  go_wp2_with (first
    | (go_at_call 57; refine (P1.out _ h).mono ?_; clear h; rintro _ w ⟨rfl, h⟩)
    | (go_at_call 58; refine (P2.out _ h).mono ?_; clear h; rintro _ w ⟨rfl, h⟩)
    | (go_at_call 56; refine (P3.out _ h).mono ?_; clear h; rintro _ w ⟨rfl, h⟩))
  go_ret
  exact ⟨rfl, h⟩
end
end
section
open Go.RowKit
set_option linter.unusedVariables false
set_option linter.unusedSimpArgs false
set_option linter.unnecessarySimpa false

def okOf (c : Nat → Int) (t : Nat) : Prop := (c 1 ≤ (t : Int) → c (2 + t) = 0) ∧ 0 ≤ c (2 + t) ∧ c (2 + t) < c 0
theorem confMay_iff (c : Nat → Int) : ConfMay c ↔ (1 ≤ c 0 ∧ c 0 ≤ 4) ∧ (1 ≤ c 1 ∧ c 1 ≤ 8) ∧ (∀ t, t < 8 → okOf c t) ∧ (2 ≤ c 10 ∧ c 10 ≤ 60) ∧ (1 ≤ c 11 ∧ c 11 ≤ 40) ∧ (1 ≤ c 12 ∧ c 12 ≤ 1048576) ∧ (0 ≤ c 13 ∧ c 13 ≤ 60) := by
  unfold ConfMay okOf
  constructor
  · rintro ⟨h0, h1, h2, h3, h4, h5, h6, h7⟩
    refine ⟨h0, h1, fun t ht => ⟨fun hc => ?_, (h3 t ht).1, by have := h3 t ht; omega⟩, h4, h5, h6, h7⟩
    rw [h2 t ht, clearedOf, if_pos (by omega)]
  · rintro ⟨h0, h1, h2, h4, h5, h6, h7⟩
    refine ⟨h0, h1, fun t ht => ?_, fun t ht => ?_, h4, h5, h6, h7⟩
    · unfold clearedOf
      split
      · exact (h2 t ht).1 (by omega)
      · rfl
    · have := h2 t ht
      omega
theorem confMayB_false {c : Nat → Int} (h : ¬ ConfMay c) : confMayB c = false := decide_eq_false h

set_option maxHeartbeats 4000000 in
theorem refMay_has {σ w : World} {M : Mm} (h : Has σ M w) (c : Nat → Int) : Calls Tryz.prog 10 #[confV c] w fun e w' => e = .returned (.bool (confMayB c)) ∧ Has σ M w' := by
  have NO : Hid (¬ ConfMay c → confMayB c = false) := confMayB_false
  have YES : Hid (ConfMay c → confMayB c = true) := fun h => decide_eq_true h
  have IFF := Lib.hid (confMay_iff c)
  simp only [confV, ints14_lit]
  go_enter Tryz.func10, Tryz.ntmps10
  go_upto_region 1 with (fail)
  obtain ⟨M1, hbx, hle, hb, hn⟩ := h.box (.cells #[.int .i64 (c 0), .int .i64 (c 1), .int .i64 (c 2), .int .i64 (c 3), .int .i64 (c 4), .int .i64 (c 5), .int .i64 (c 6), .int .i64 (c 7), .int .i64 (c 8), .int .i64 (c 9), .int .i64 (c 10), .int .i64 (c 11), .int .i64 (c 12), .int .i64 (c 13)] 24)
  generalize w.alloc _ = wx at hbx ⊢
  generalize w.heap.size = b at hb hn ⊢
  clear h
  try clear w
  have h := hbx
  clear hbx
  obtain ⟨w, rfl⟩ : ∃ x : World, x = wx := ⟨_, rfl⟩
  have c0 : w.cell? ⟨b, 0, none⟩ = some (.int .i64 (c 0)) := h.cell hb 0
  have c1 : w.cell? ⟨b, 1, none⟩ = some (.int .i64 (c 1)) := h.cell hb 1
  by_cases hr : (1 ≤ c 0 ∧ c 0 ≤ 4) ∧ (1 ≤ c 1 ∧ c 1 ≤ 8)
  · obtain ⟨⟨r0, r1⟩, r2, r3⟩ := hr
    have q0 : ¬ c 0 < 1 := by omega
    have q1 : ¬ 4 < c 0 := by omega
    have q2 : ¬ c 1 < 1 := by omega
    have q3 : ¬ 8 < c 1 := by omega
    go_wp2
    clear c0 c1 q0 q1 q2 q3
    go_loopw [3] (fun i wr => ∃ k : Nat, k ≤ 8 ∧ i = .int .i64 k ∧ Has σ M1 wr ∧ ∀ t, t < k → okOf c t) (fun i _ => 8 - (intOf i).toNat)
    case atStart => exact ⟨0, by omega, rfl, h, fun t ht => absurd ht (by omega)⟩
    case round =>
      clear h w
      obtain ⟨w, rfl⟩ : ∃ x : World, x = wr := ⟨_, rfl⟩
      obtain ⟨k, hk, rfl, h, hall⟩ := hrel
      have HA := Lib.hid hall
      clear hall
      by_cases hlt : k < 8
      · have e0 : (#[.int .i64 (c 0), .int .i64 (c 1), .int .i64 (c 2), .int .i64 (c 3), .int .i64 (c 4), .int .i64 (c 5), .int .i64 (c 6), .int .i64 (c 7), .int .i64 (c 8), .int .i64 (c 9), .int .i64 (c 10), .int .i64 (c 11), .int .i64 (c 12), .int .i64 (c 13)] : Array Value)[0]? = some (.int .i64 (c 0)) := rfl
        have e1 : (#[.int .i64 (c 0), .int .i64 (c 1), .int .i64 (c 2), .int .i64 (c 3), .int .i64 (c 4), .int .i64 (c 5), .int .i64 (c 6), .int .i64 (c 7), .int .i64 (c 8), .int .i64 (c 9), .int .i64 (c 10), .int .i64 (c 11), .int .i64 (c 12), .int .i64 (c 13)] : Array Value)[1]? = some (.int .i64 (c 1)) := rfl
        have e2 : (#[.int .i64 (c 0), .int .i64 (c 1), .int .i64 (c 2), .int .i64 (c 3), .int .i64 (c 4), .int .i64 (c 5), .int .i64 (c 6), .int .i64 (c 7), .int .i64 (c 8), .int .i64 (c 9), .int .i64 (c 10), .int .i64 (c 11), .int .i64 (c 12), .int .i64 (c 13)] : Array Value)[2 + k]? = some (.int .i64 (c (2 + k))) := by rw [← ints14_lit, ints_get (by omega)]
        have OK : Hid (okOf c k ↔ (c 1 ≤ (k : Int) → c (2 + k) = 0) ∧ 0 ≤ c (2 + k) ∧ c (2 + k) < c 0) := Iff.rfl
        generalize c (2 + k) = x at e2 OK
        generalize (#[.int .i64 (c 0), .int .i64 (c 1), .int .i64 (c 2), .int .i64 (c 3), .int .i64 (c 4), .int .i64 (c 5), .int .i64 (c 6), .int .i64 (c 7), .int .i64 (c 8), .int .i64 (c 9), .int .i64 (c 10), .int .i64 (c 11), .int .i64 (c 12), .int .i64 (c 13)] : Array Value) = cs at hb e0 e1 e2
        go_upto_region 6 with (fail)
        by_cases hok : okOf c k
        · obtain ⟨p1, p2, p3⟩ := OK.out.1 hok
          have HN : Hid (∀ t, t < k + 1 → okOf c t) := fun t ht => by
            rcases Nat.lt_or_ge t k with h1 | h1
            · exact HA.out t h1
            · obtain rfl : t = k := by omega
              exact hok
          have n2 : ¬ x < 0 := by omega
          have n3 : ¬ c 0 ≤ x := by omega
          clear hok
          by_cases hc1 : c 1 ≤ (k : Int)
          · have hx0 := p1 hc1
            clear p1
            have hx0' : (x != 0) = false := by simp [hx0]
            have H0 := Lib.hid hx0
            clear hx0
            refine wp_region_class (Has σ M1) (by kernel_rfl) (by kernel_rfl) h.drew ?_
            clear h
            repeat (first
              | go_big_quiet_skip
              | (go_big_quiet_want; first
                | (refine quiet_load_has 3 _ rfl rfl hb e0 Tryz.underlying3 rfl ?_; simp only [Act.put, List.setIfInBounds_toArray, List.set_cons_zero, List.set_cons_succ]; go_big_quiet_on)
                | (refine quiet_load_has 3 _ rfl rfl hb e1 Tryz.underlying3 rfl ?_; simp only [Act.put, List.setIfInBounds_toArray, List.set_cons_zero, List.set_cons_succ]; go_big_quiet_on)
                | (refine quiet_load_has 3 _ rfl rfl hb e2 Tryz.underlying3 rfl ?_; simp only [Act.put, List.setIfInBounds_toArray, List.set_cons_zero, List.set_cons_succ]; go_big_quiet_on)
                | (go_big_quiet_op; first | go_big_quiet_on | go_big_quiet_call (first | with_reducible exact fun _ => rfl))))
            refine wpQuiet_nil ?_
            try clear w
            intro w h
            go_wp2
            go_roundw
            case rel => exact ⟨k + 1, by omega, by go_num, h, HN.out⟩
            case measure => simp [intOf]; omega
          · clear p1
            refine wp_region_class (Has σ M1) (by kernel_rfl) (by kernel_rfl) h.drew ?_
            clear h
            repeat (first
              | go_big_quiet_skip
              | (go_big_quiet_want; first
                | (refine quiet_load_has 3 _ rfl rfl hb e0 Tryz.underlying3 rfl ?_; simp only [Act.put, List.setIfInBounds_toArray, List.set_cons_zero, List.set_cons_succ]; go_big_quiet_on)
                | (refine quiet_load_has 3 _ rfl rfl hb e1 Tryz.underlying3 rfl ?_; simp only [Act.put, List.setIfInBounds_toArray, List.set_cons_zero, List.set_cons_succ]; go_big_quiet_on)
                | (refine quiet_load_has 3 _ rfl rfl hb e2 Tryz.underlying3 rfl ?_; simp only [Act.put, List.setIfInBounds_toArray, List.set_cons_zero, List.set_cons_succ]; go_big_quiet_on)
                | (go_big_quiet_op; first | go_big_quiet_on | go_big_quiet_call (first | with_reducible exact fun _ => rfl))))
            refine wpQuiet_nil ?_
            try clear w
            intro w h
            go_wp2
            go_roundw
            case rel => exact ⟨k + 1, by omega, by go_num, h, HN.out⟩
            case measure => simp [intOf]; omega
        · have N := Lib.hid (NO.out fun h1 => hok ((IFF.out.1 h1).2.2.1 k hlt))
          have hcase : (c 1 ≤ (k : Int) ∧ x ≠ 0) ∨ ((c 1 ≤ (k : Int) → x = 0) ∧ x < 0) ∨ ((c 1 ≤ (k : Int) → x = 0) ∧ ¬ x < 0 ∧ c 0 ≤ x) := by
            by_cases a1 : c 1 ≤ (k : Int) ∧ x ≠ 0
            · exact .inl a1
            · by_cases a2 : x < 0
              · exact .inr (.inl ⟨fun h1 => Classical.byContradiction fun h2 => a1 ⟨h1, h2⟩, a2⟩)
              · refine .inr (.inr ⟨fun h1 => Classical.byContradiction fun h2 => a1 ⟨h1, h2⟩, a2, ?_⟩)
                apply Classical.byContradiction
                intro h3
                exact hok (OK.out.2 ⟨fun h1 => Classical.byContradiction fun h2 => a1 ⟨h1, h2⟩, by omega, by omega⟩)
          clear hok
          rcases hcase with ⟨a1, a2⟩ | ⟨a1, a2⟩ | ⟨a1, a2, a3⟩
          · have hx0' : (x != 0) = true := by simpa using a2
            clear a2
            refine wp_region_class (Has σ M1) (by kernel_rfl) (by kernel_rfl) h.drew ?_
            clear h
            repeat (first
              | go_big_quiet_skip
              | (go_big_quiet_want; first
                | (refine quiet_load_has 3 _ rfl rfl hb e0 Tryz.underlying3 rfl ?_; simp only [Act.put, List.setIfInBounds_toArray, List.set_cons_zero, List.set_cons_succ]; go_big_quiet_on)
                | (refine quiet_load_has 3 _ rfl rfl hb e1 Tryz.underlying3 rfl ?_; simp only [Act.put, List.setIfInBounds_toArray, List.set_cons_zero, List.set_cons_succ]; go_big_quiet_on)
                | (refine quiet_load_has 3 _ rfl rfl hb e2 Tryz.underlying3 rfl ?_; simp only [Act.put, List.setIfInBounds_toArray, List.set_cons_zero, List.set_cons_succ]; go_big_quiet_on)
                | (go_big_quiet_op; first | go_big_quiet_on | go_big_quiet_call (first | with_reducible exact fun _ => rfl))))
            refine wpQuiet_nil ?_
            try clear w
            intro w h
            go_wp2
            go_ret
            exact ⟨by rw [N.out]; rfl, h.le hle⟩
          · by_cases hc1 : c 1 ≤ (k : Int)
            · have hx0 := a1 hc1
              omega
            · clear a1
              refine wp_region_class (Has σ M1) (by kernel_rfl) (by kernel_rfl) h.drew ?_
              clear h
              repeat (first
                | go_big_quiet_skip
                | (go_big_quiet_want; first
                  | (refine quiet_load_has 3 _ rfl rfl hb e0 Tryz.underlying3 rfl ?_; simp only [Act.put, List.setIfInBounds_toArray, List.set_cons_zero, List.set_cons_succ]; go_big_quiet_on)
                  | (refine quiet_load_has 3 _ rfl rfl hb e1 Tryz.underlying3 rfl ?_; simp only [Act.put, List.setIfInBounds_toArray, List.set_cons_zero, List.set_cons_succ]; go_big_quiet_on)
                  | (refine quiet_load_has 3 _ rfl rfl hb e2 Tryz.underlying3 rfl ?_; simp only [Act.put, List.setIfInBounds_toArray, List.set_cons_zero, List.set_cons_succ]; go_big_quiet_on)
                  | (go_big_quiet_op; first | go_big_quiet_on | go_big_quiet_call (first | with_reducible exact fun _ => rfl))))
              refine wpQuiet_nil ?_
              try clear w
              intro w h
              go_wp2
              go_ret
              exact ⟨by rw [N.out]; rfl, h.le hle⟩
          · by_cases hc1 : c 1 ≤ (k : Int)
            · have hx0 := a1 hc1
              omega
            · clear a1
              refine wp_region_class (Has σ M1) (by kernel_rfl) (by kernel_rfl) h.drew ?_
              clear h
              repeat (first
                | go_big_quiet_skip
                | (go_big_quiet_want; first
                  | (refine quiet_load_has 3 _ rfl rfl hb e0 Tryz.underlying3 rfl ?_; simp only [Act.put, List.setIfInBounds_toArray, List.set_cons_zero, List.set_cons_succ]; go_big_quiet_on)
                  | (refine quiet_load_has 3 _ rfl rfl hb e1 Tryz.underlying3 rfl ?_; simp only [Act.put, List.setIfInBounds_toArray, List.set_cons_zero, List.set_cons_succ]; go_big_quiet_on)
                  | (refine quiet_load_has 3 _ rfl rfl hb e2 Tryz.underlying3 rfl ?_; simp only [Act.put, List.setIfInBounds_toArray, List.set_cons_zero, List.set_cons_succ]; go_big_quiet_on)
                  | (go_big_quiet_op; first | go_big_quiet_on | go_big_quiet_call (first | with_reducible exact fun _ => rfl))))
              refine wpQuiet_nil ?_
              try clear w
              intro w h
              go_wp2
              go_ret
              exact ⟨by rw [N.out]; rfl, h.le hle⟩
      · obtain rfl : k = 8 := by omega
        have c10 : w.cell? ⟨b, 10, none⟩ = some (.int .i64 (c 10)) := h.cell hb 10
        have c11 : w.cell? ⟨b, 11, none⟩ = some (.int .i64 (c 11)) := h.cell hb 11
        have c12 : w.cell? ⟨b, 12, none⟩ = some (.int .i64 (c 12)) := h.cell hb 12
        have c13 : w.cell? ⟨b, 13, none⟩ = some (.int .i64 (c 13)) := h.cell hb 13
        have hmay : confMayB c = decide ((2 ≤ c 10 ∧ c 10 ≤ 60) ∧ (1 ≤ c 11 ∧ c 11 ≤ 40) ∧ (1 ≤ c 12 ∧ c 12 ≤ 1048576) ∧ (0 ≤ c 13 ∧ c 13 ≤ 60)) := by
          by_cases hm : (2 ≤ c 10 ∧ c 10 ≤ 60) ∧ (1 ≤ c 11 ∧ c 11 ≤ 40) ∧ (1 ≤ c 12 ∧ c 12 ≤ 1048576) ∧ (0 ≤ c 13 ∧ c 13 ≤ 60)
          · rw [YES.out (IFF.out.2 ⟨⟨r0, r1⟩, ⟨r2, r3⟩, HA.out, hm⟩), decide_eq_true hm]
          · rw [NO.out fun h1 => hm (IFF.out.1 h1).2.2.2, decide_eq_false hm]
        have HM := Lib.hid hmay
        clear hmay
        generalize c 10 = x at c10 HM
        generalize c 11 = y at c11 HM
        generalize c 12 = z at c12 HM
        generalize c 13 = v at c13 HM
        by_cases b1 : x < 2
        · go_wp2
          go_ret
          exact ⟨by rw [HM.out, decide_eq_false (by omega)]; rfl, h.le hle⟩
        · skip
          by_cases b2 : 60 < x
          · go_wp2
            go_ret
            exact ⟨by rw [HM.out, decide_eq_false (by omega)]; rfl, h.le hle⟩
          · skip
            by_cases b3 : y < 1
            · go_wp2
              go_ret
              exact ⟨by rw [HM.out, decide_eq_false (by omega)]; rfl, h.le hle⟩
            · skip
              by_cases b4 : 40 < y
              · go_wp2
                go_ret
                exact ⟨by rw [HM.out, decide_eq_false (by omega)]; rfl, h.le hle⟩
              · skip
                by_cases b5 : ¬ 1 ≤ z
                · go_wp2
                  go_ret
                  exact ⟨by rw [HM.out, decide_eq_false (by omega)]; rfl, h.le hle⟩
                · skip
                  by_cases b6 : ¬ z ≤ 1048576
                  · go_wp2
                    go_ret
                    exact ⟨by rw [HM.out, decide_eq_false (by omega)]; rfl, h.le hle⟩
                  · skip
                    by_cases b7 : ¬ 0 ≤ v
                    · go_wp2
                      go_ret
                      exact ⟨by rw [HM.out, decide_eq_false (by omega)]; rfl, h.le hle⟩
                    · skip
                      by_cases b8 : ¬ v ≤ 60
                      · go_wp2
                        go_ret
                        exact ⟨by rw [HM.out, decide_eq_false (by omega)]; rfl, h.le hle⟩
                      · skip
                        go_wp2
                        go_ret
                        exact ⟨by rw [HM.out, decide_eq_true (by omega)]; rfl, h.le hle⟩
  · skip
    by_cases b1 : c 0 < 1
    · have N := Lib.hid (NO.out fun h1 => by have := IFF.out.1 h1; omega)
      go_wp2
      go_ret
      exact ⟨by rw [N.out]; rfl, h.le hle⟩
    · skip
      by_cases b2 : 4 < c 0
      · have N := Lib.hid (NO.out fun h1 => by have := IFF.out.1 h1; omega)
        go_wp2
        go_ret
        exact ⟨by rw [N.out]; rfl, h.le hle⟩
      · skip
        by_cases b3 : c 1 < 1
        · have N := Lib.hid (NO.out fun h1 => by have := IFF.out.1 h1; omega)
          go_wp2
          go_ret
          exact ⟨by rw [N.out]; rfl, h.le hle⟩
        · skip
          by_cases b4 : 8 < c 1
          · have N := Lib.hid (NO.out fun h1 => by have := IFF.out.1 h1; omega)
            go_wp2
            go_ret
            exact ⟨by rw [N.out]; rfl, h.le hle⟩
          · skip
            omega
end
end Go.Proofs.YtjeeldacnllipaaGreat
